import Derived.Test.YthhngmnbcmkhpaaGreatDoorTFnReadFormula
import Derived.Test.YthhngmnbcmkhpaaGreatDoorE32
import Derived.Lib.Strings
import Derived.Test.YthhngmnbcmkhpaaGreatDoorSFnReadFormulap1
namespace Go.Proofs.YthhngmnbcmkhpaaGreatDoor.KFnReadFormula
open Go.Eng
set_option linter.unusedVariables false
set_option linter.unusedSimpArgs false
theorem qLA:∀(g:Nat) (j:SJ) (q:PS),q.2.1=true→(sP g j q).2.2.1=true
 |0,j,q,h=>h
 |g+1,.row level,q,h=>by simp only [sP];rw [if_pos h];exact h
 |g+1,.rl level a,q,h=>by simp only [sP];rw [if_pos h];exact h
 |g+1,.one,q,h=>by
  simp only [sP]
  rw [qHC (w:= [45]) h]
  simp only [Bool.false_eq_true,if_false]
  rw [qHC (w:= [40]) (q:=(tb q.1,q.2)) h]
  simp only [Bool.false_eq_true,if_false]
  rw [qHC (w:= [34]) (q:=(tb q.1,q.2)) h]
  simp only [Bool.false_eq_true,if_false]
  rw [qHC (w:= [35]) (q:=(tb q.1,q.2)) h]
  simp only [Bool.false_eq_true,if_false]
  split
  ·rw [qHC (w:= [40]) (q:=(wr (tb q.1),q.2)) h]
   simp [qJZ]
  ·split
   ·exact qKH h
   ·split
    ·exact qKH h
    ·rfl
 |g+1,.call op kids,q,h=>by simp only [sP];rw [if_pos h];exact h
 |g+1,.arg,q,h=>by
  simp only [sP]
  rw [qHC (w:= [58]) (q:=(wr (tb q.1),q.2)) h]
  simp only [Bool.false_eq_true,and_false,if_false]
  exact qLA g _ _ h
theorem qHD {x:Nd} {p q:PS} (h:Lk p q):Sim (qCk x p) (qDe x q):=by
 obtain ⟨h1,h2,h3,h4⟩:=h
 unfold qCk qDe
 rw [h1,h2,h3]
 by_cases hl:60≤q.2.2.length
 ·refine .inr ⟨?_,.inl ?_⟩
  ·simp only;rw [if_pos (.inl (by omega))]
  ·rw [if_pos (.inr hl)]
 ·rw [if_neg (by simp;omega)]
  by_cases hn:qBy x=false
  ·exact .inr ⟨by simp only;rw [if_pos (.inr hn)],.inr ⟨x,by simp,hn⟩⟩
  ·refine .inl ⟨rfl,rfl,?_,rfl,h4⟩
   simp only
   rw [if_neg]
   intro e
   rcases e with e|e
   ·omega
   ·exact hn e
theorem qOS {a b:Int×PS} (f:Int→Nd) (h:Sim a b):Sim (qCk (f a.1) a.2) (qDe (f b.1) b.2):=by
 rcases h with ⟨h1,h2⟩|⟨h1,h2⟩
 ·rw [h1];exact qHD h2
 ·exact .inr ⟨qKH h1,qCQ h2⟩
theorem qIV {c:UInt8} (hc:c∈([45,40,41,44,58]:List UInt8)) {p q:PS} (h:Lk p q):(qW [c] p).1=(sIs [c] q).1∧Lk (qW [c] p).2 (sIs [c] q).2:=by
 obtain ⟨h1,h2,h3,h4⟩:=h
 obtain ⟨e1,e2,e3,e4⟩:=qQa hc h2 h4
 refine ⟨e1,?_,?_,?_,?_⟩
 ·rw [e3];exact h1
 ·rw [e4];exact h2
 ·rw [e3,e4];exact h3
 ·rw [e2]
theorem qOT {c:UInt8} (hc:c∈([45,40,41,44,58]:List UInt8)) {a b:Int×PS} (h:Sim a b):Sim (a.1,qBs [c] a.2) (b.1,if (sIs [c] b.2).1=true then (sIs [c] b.2).2 else qJZ (sIs [c] b.2).2):=by
 rcases h with ⟨h1,h2⟩|⟨h1,h2⟩
 ·obtain ⟨e1,e2⟩:=qIV hc h2
  unfold qBs
  rw [if_neg (by rw [h2.1];simp),e1]
  by_cases ht:(sIs [c] b.2).1=true
  ·rw [if_pos ht,if_pos ht]
   exact .inl ⟨h1,e2⟩
  ·rw [if_neg ht,if_neg ht]
   exact .inr ⟨rfl,qEq _⟩
 ·refine .inr ⟨?_,qGn h2⟩
  rw [qHC h1]
  simp [qJZ]
def qHj (G:Nat) (least:Int):Nat→Int×PS→Int×PS→Prop
 |0,x,res=>res=x
 |m+1,x,res=>if ((m:Int)+1)<least then res=x else ∃g,G≤g∧qHj G least m (sP g (.rl ((m:Int)+1) x.1) x.2) res
theorem qLB {G G':Nat} (h:G'≤G) {least:Int}:∀(m:Nat) {x res:Int×PS},qHj G least m x res→qHj G' least m x res
 |0,x,res,ht=>ht
 |m+1,x,res,ht=>by
  unfold qHj at ht⊢
  split
  ·rename_i hc;rw [if_pos hc] at ht;exact ht
  ·rename_i hc
   rw [if_neg hc] at ht
   obtain ⟨g,h1,h2⟩:=ht
   exact ⟨g,Nat.le_trans h h1,qLB h m h2⟩
theorem qKI {G:Nat} {least:Int}:∀(m:Nat) {x res:Int×PS},x.2.2.1=true→qHj G least m x res→res.2.2.1=true
 |0,x,res,hb,ht=>by unfold qHj at ht;rw [ht];exact hb
 |m+1,x,res,hb,ht=>by
  unfold qHj at ht
  split at ht
  ·rw [ht];exact hb
  ·obtain ⟨g,_,h2⟩:=ht
   exact qKI m (qLA g _ _ hb) h2
theorem qNN {G:Nat} {l:Nat} (hl0:1≤l) {g:Nat} (hg:G≤g):∀(m:Nat) {x y:Int×PS},l≤m→qHj G ((l:Int)+1) m x y→qHj G (l:Int) m x (sP g (.rl (l:Int) y.1) y.2)
 |0,x,y,hl,ht=>by omega
 |m+1,x,y,hl,ht=>by
  unfold qHj at ht⊢
  rw [if_neg (by omega)]
  by_cases e:l=m+1
  ·subst e
   rw [if_pos (by omega)] at ht
   subst ht
   refine ⟨g,hg,?_⟩
   have key:∀{z:Int×PS},qHj G ((m+1:Nat):Int) m z z:=fun {z}=>by
    cases m with
    |zero=>rfl
    |succ k=>unfold qHj;rw [if_pos (by omega)]
   exact key
  ·rw [if_neg (by omega)] at ht
   obtain ⟨g',h1,h2⟩:=ht
   exact ⟨g',h1,qNN hl0 hg m (by omega) h2⟩
theorem qOU {G:Nat} {q:PS} (hq:q.2.1=false):∀(k:Nat),k≤4→∀g,G+k≤g→∃g5,G≤g5∧qHj G (5-(k:Int)) 4 (sP g5 (.row 5) q) (sP g (.row (5-(k:Int))) q)
 |0,_,g,hg=>⟨g,hg,by
  unfold qHj
  rw [if_pos (by decide)]
  simp⟩
 |k+1,hk,0,hg=>by omega
 |k+1,hk,g+1,hg=>by
  obtain ⟨g5,h1,h2⟩:=qOU (G:=G) hq k (by omega) g (by omega)
  refine ⟨g5,h1,?_⟩
  have e:(5-((k+1:Nat):Int))=((4-k:Nat):Int):=by omega
  have e1:(5-(k:Int))=((4-k:Nat):Int)+1:=by omega
  rw [e1] at h2
  rw [e]
  have:=qNN (G:=G) (l:=4-k) (by omega) (g:=g) (by omega) 4 (by omega) h2
  have e2:sP (g+1) (.row ((4-k:Nat):Int)) q=sP g (.rl ((4-k:Nat):Int) (sP g (.row (((4-k:Nat):Int)+1)) q).1) (sP g (.row (((4-k:Nat):Int)+1)) q).2:=by
   simp only [sP]
   rw [if_neg (by rw [hq];simp),if_neg (by omega)]
  rw [e2]
  exact this
theorem qP4 (H:RdOK) {r:List UInt8} (h:r.head?=some 35):∀(k:Nat) (n:Int),1≤n→n+k≤6→qOR r.tail n k=qF0 r n k
 |0,n,_,_=>rfl
 |k+1,n,h1,h2=>by
  obtain ⟨t,ht⟩:=H.n n ⟨h1,by omega⟩
  cases r with
  |nil=>cases h
  |cons c r=>
   simp only [List.head?_cons,Option.some.injEq] at h
   subst h
   simp only [qOR,qF0,ht,List.tail_cons]
   have ih:=qP4 H (r:=35::r) rfl k (n+1) (by omega) (by omega)
   simp only [List.tail_cons] at ih
   rw [ih]
   simp [List.isPrefixOf]
theorem qOV {r:List UInt8}:∀(k:Nat) (n:Int) {m:Int},qF0 r n k=some m→n≤m∧m<n+k
 |0,n,m,h=>by cases h
 |k+1,n,m,h=>by
  simp only [qF0] at h
  split at h
  ·simp only [Option.some.injEq] at h;omega
  ·have:=qOV k (n+1) h;omega
theorem qDf (c:UInt8) (r:List UInt8):([c].isPrefixOf r=true)↔r.head?=some c:=by
 cases r with
 |nil=>simp [List.isPrefixOf]
 |cons d t=>simp [List.isPrefixOf];exact eq_comm
theorem qKJ {c:UInt8} {q:PS} (hb:q.2.1=false):(sIs [c] q).1=true↔(tb q.1).head?=some c:=by
 unfold sIs
 rw [if_neg (by rw [hb];simp)]
 split
 ·rename_i h;exact ⟨fun _=>(qDf c _).1 h,fun _=>rfl⟩
 ·rename_i h;exact ⟨fun e=>(by cases e),fun e=>absurd ((qDf c _).2 e) h⟩
theorem qOv (r:List UInt8):(wd r).all wch=true:=by
 unfold wd
 induction r with
 |nil=>rfl
 |cons c r ih=>
  by_cases h:wch c=true
  ·simp only [List.takeWhile_cons,h,if_true,List.all_cons,Bool.true_and];exact ih
  ·simp [List.takeWhile_cons,h]
def qQc (N:Nat):Prop:=∀(p q:PS) (deep:Int) (f g:Nat),Lk p q→(tb p.1).length=N→0≤deep→deep+N≤400→20*N+4≤f→20*N+5≤g→Sim (pP f (.un deep) p) (sP g (.row 5) q)
def qQd (N:Nat):Prop:=∀(m:Nat),m≤4→∀(p q:PS) (deep least a:Int) (f:Nat) (res:Int×PS),Lk p q→(tb p.1).length=N→1≤least→0≤deep→deep+N≤400→20*N+5≤f→
 (qAI (tb p.1)=0∨lvl (qAI (tb p.1))≤m)→qHj (20*N+5) least m (a,q) res→SimP least (pP f (.loop least deep a) p) res
def qP5 (N:Nat):Prop:=∀(p q:PS) (deep:Int) (k f g:Nat),k≤4→Lk p q→(tb p.1).length=N→0≤deep→deep+N≤400→20*N+6≤f→20*N+10≤g→SimP (5-(k:Int)) (pP f (.bin (5-(k:Int)) deep) p) (sP g (.row (5-(k:Int))) q)
def qQe (N:Nat):Prop:=∀(p q:PS) (deep op:Int) (kids:List Int) (f g:Nat),Lk p q→(tb p.1).length=N→0≤deep→deep+N+1≤400→20*N+8≤f→20*N+12≤g→Sim (pP f (.args op deep kids) p) (sP g (.call op kids) q)
theorem qRp (N:Nat) (hB:∀M,M<N→qP5 M) (hT:∀M,M<N→qQd M):qQd N:=by
 intro m
 induction m with
 |zero=>
  intro hm p q deep least a f res hl hN hle hd hdN hf hpk ht
  have h0:qAI (tb p.1)=0:=by
   rcases hpk with h|h
   ·exact h
   ·have:=(qNv (op:=qAI (tb p.1))).1
    omega
  cases f with
  |zero=>omega
  |succ f=>
   simp only [pP]
   rw [if_neg (by rw [hl.1];simp),if_pos (.inl h0)]
   unfold qHj at ht
   subst ht
   refine .inl ⟨rfl,⟨hl.1,hl.2.1,hl.2.2.1,?_⟩,.inl ?_⟩
   ·simp only;rw [qCB];exact hl.2.2.2
   ·simp only;rw [qCB];exact h0
 |succ m ih=>
  intro hm p q deep least a f res hl hN hle hd hdN hf hpk ht
  unfold qHj at ht
  by_cases hc:(m:Int)+1<least
  ·rw [if_pos hc] at ht
   subst ht
   cases f with
   |zero=>omega
   |succ f=>
    have hst:qAI (tb p.1)=0∨lvl (qAI (tb p.1))<least:=by
     rcases hpk with h|h
     ·exact .inl h
     ·right;push_cast at h;omega
    simp only [pP]
    rw [if_neg (by rw [hl.1];simp),if_pos hst]
    refine .inl ⟨rfl,⟨hl.1,hl.2.1,hl.2.2.1,?_⟩,?_⟩
    ·simp only;rw [qCB];exact hl.2.2.2
    ·unfold qRW;simp only;rw [qCB];exact hst
  ·rw [if_neg hc] at ht
   obtain ⟨g,hg,ht⟩:=ht
   cases g with
   |zero=>omega
   |succ g=>
    have hin:=qQb (m:=(m:Int)+1) (by omega) (tb q.1)
    have hpq:tb p.1=tb q.1:=hl.2.2.2
    simp only [sP] at ht
    rw [if_neg (by rw [hl.2.1];simp)] at ht
    have ho:sOp ((m:Int)+1) q=(qDO ((m:Int)+1) (tb q.1) qBv,(if qDO ((m:Int)+1) (tb q.1) qBv=0 then tb q.1 else (tb q.1).drop (qk (qDO ((m:Int)+1) (tb q.1) qBv)).size),q.2):=by
     unfold sOp;rw [if_neg (by rw [hl.2.1];simp)]
    by_cases hop:qAI (tb q.1)≠0∧lvl (qAI (tb q.1))=(m:Int)+1
    ·rw [if_pos hop] at hin
     rw [hin,if_neg hop.1] at ho
     rw [ho] at ht
     simp only at ht
     rw [if_neg hop.1] at ht
     cases f with
     |zero=>omega
     |succ f=>
      simp only [pP]
      rw [if_neg (by rw [hl.1];simp),if_neg (by rw [hpq];exact fun e=>e.elim (fun e=>hop.1 e) (fun e=>by have:=hop.2;omega))]
      rw [hpq]
      rcases qPJ (tb q.1) with h0|⟨_,_,hsg⟩
      ·exact absurd h0 hop.1
      have hsz:(sgn (tb q.1)).length=(qk (qAI (tb q.1))).size:=by rw [hsg,qAg]
      have hpos:0<(sgn (tb q.1)).length:=by
       cases hh:sgn (tb q.1) with
       |nil=>
        exfalso
        apply hop.1
        unfold qAI
        rw [hh]
        simp
       |cons c t=>simp
      have hdrop:(tb ((tb q.1).drop (sgn (tb q.1)).length)).length<N:=by
       have h1:=qr ((tb q.1).drop (sgn (tb q.1)).length)
       have h2:(sgn (tb q.1)).length≤(tb q.1).length∨(tb q.1).length<(sgn (tb q.1)).length:=by omega
       rw [List.length_drop] at h1
       have h3:(tb q.1).length=N:=by rw [←hpq];exact hN
       have h4:0<N:=by
        rcases Nat.eq_zero_or_pos N with h|h
        ·exfalso
         rw [h] at h3
         have:tb q.1= []:=List.eq_nil_of_length_eq_zero h3
         apply hop.1
         rw [this];rfl
        ·exact h
       omega
      have hlk:Lk ((tb q.1).drop (sgn (tb q.1)).length,p.2) ((tb q.1).drop (qk (qAI (tb q.1))).size,q.2):=⟨hl.1,hl.2.1,hl.2.2.1,by simp only;rw [hsz]⟩
      have hb:=hB _ hdrop ((tb q.1).drop (sgn (tb q.1)).length,p.2) ((tb q.1).drop (qk (qAI (tb q.1))).size,q.2) deep (3-m) f g (by omega) hlk rfl hd (by omega) (by omega) (by omega)
      have e5:(5-((3-m:Nat):Int))=(m:Int)+1+1:=by omega
      rw [e5] at hb
      rw [hop.2]
      have hlenA:=qDH f (.bin ((m:Int)+1+1) deep) ((tb q.1).drop (sgn (tb q.1)).length,p.2)
      generalize pP f (.bin ((m:Int)+1+1) deep) ((tb q.1).drop (sgn (tb q.1)).length,p.2)=A at hb hlenA⊢
      generalize hBB:sP g (.row ((m:Int)+1+1)) ((tb q.1).drop (qk (qAI (tb q.1))).size,q.2)=B at hb ht
      rcases hb with ⟨b1,b2,b3⟩|⟨b1,b2⟩
      ·rw [b1]
       have hs:=qHD (x:=ndK 5 (qAI (tb q.1)) [a,B.1]) b2
       generalize hC:qCk (ndK 5 (qAI (tb q.1)) [a,B.1]) A.2=C at hs⊢
       generalize qDe (ndK 5 (qAI (tb q.1)) [a,B.1]) B.2=D at hs ht
       rcases hs with ⟨c1,c2⟩|⟨c1,c2⟩
       ·have hrC:C.2.1=A.2.1:=by rw [←hC];exact qAu _ _
        have hN3:(tb C.2.1).length<N:=by
         rw [hrC]
         exact Nat.lt_of_le_of_lt hlenA hdrop
        refine hT _ hN3 (m+1) hm C.2 D.2 deep least C.1 f res c2 rfl hle hd (by omega) (by omega) ?_ ?_
        ·rw [hrC]
         rcases b3 with h|h
         ·exact .inl h
         ·right;push_cast;omega
        ·rw [c1]
         unfold qHj
         rw [if_neg hc]
         exact ⟨g,by omega,qLB (by omega) m ht⟩
       ·exact .inr ⟨qKI _ (qLA g _ _ c1) ht,qCX f _ _ c2⟩
      ·exact .inr ⟨qKI _ (qLA g _ _ (qKH b1)) ht,qCX f _ _ (qCQ b2)⟩
    ·rw [if_neg hop] at hin
     rw [hin,if_pos rfl] at ho
     rw [ho] at ht
     simp only at ht
     rw [if_pos trivial] at ht
     refine ih (by omega) p (tb q.1,q.2) deep least a f res ⟨hl.1,hl.2.1,hl.2.2.1,by simp only;rw [qCB];exact hpq⟩ hN hle hd hdN hf ?_ ht
     rw [hpq]
     rw [hpq] at hpk
     by_cases h0:qAI (tb q.1)=0
     ·exact .inl h0
     ·right
      rcases hpk with h|h
      ·exact absurd h h0
      ·have:lvl (qAI (tb q.1))≠(m:Int)+1:=fun e=>hop ⟨h0,e⟩
       push_cast at h
       omega
theorem qQf (N:Nat) (hA:qQc N) (hT:∀M,M≤N→qQd M):qP5 N:=by
 intro p q deep k f g hk hl hN hd hdN hf hg
 obtain ⟨g5,hg5,ht⟩:=qOU (G:=20*N+5) hl.2.1 k hk g (by omega)
 cases f with
 |zero=>omega
 |succ f=>
  simp only [pP]
  have ha:=hA p q deep f g5 hl hN hd hdN (by omega) hg5
  have hlen:=qDH f (.un deep) p
  generalize pP f (.un deep) p=A at ha hlen⊢
  generalize sP g5 (.row 5) q=B at ha ht
  rcases ha with ⟨h1,h2⟩|⟨h1,h2⟩
  ·have hM:(tb A.2.1).length≤N:=by omega
   refine hT _ hM 4 (by omega) A.2 B.2 deep (5-(k:Int)) A.1 f _ h2 rfl (by omega) hd (by omega) (by omega) (.inr ?_) ?_
   ·have:=(qNv (op:=qAI (tb A.2.1))).2;omega
   ·rw [h1];exact qLB (by omega) 4 ht
  ·exact .inr ⟨qKI 4 h1 ht,qCX f _ _ h2⟩
theorem qQg (H:RdOK) (N:Nat) (hB:qP5 N) (hC:∀M,M<N→qQe M):qQe N:=by
 intro p q deep op kids f g hl hN hd hdN hf hg
 cases f with
 |zero=>omega
 |succ f=>
 cases g with
 |zero=>omega
 |succ g=>
 cases g with
 |zero=>omega
 |succ g=>
 have hpq:=hl.2.2.2
 have hpb:¬p.2.1=true:=by rw [hl.1];simp
 have hqb:¬q.2.1=true:=by rw [hl.2.1];simp
 have harg:Sim (qDF (qAr p) (fun p=>pP f (.bin 1 (deep+1)) p)) (sP (g+1) .arg q)∧(tb (qDF (qAr p) (fun p=>pP f (.bin 1 (deep+1)) p)).2.1).length≤N:=by
  refine ⟨?_,?_⟩
  ·have hw:Lk (wr (tb p.1),p.2) (wr (tb q.1),q.2):=⟨hl.1,hl.2.1,hl.2.2.1,by rw [hpq]⟩
   obtain ⟨e1,e2⟩:=qIV (c:=58) (by decide) hw
   simp only [sP]
   unfold qDF qAr
   simp only
   rw [hpq] at e1 e2⊢
   by_cases hc:(qAa (BR (wd (tb q.1)))).2.2.2.2=true∧(qW [58] (wr (tb q.1),p.2)).1=true
   ·rw [if_pos hc,if_pos ⟨hc.1,e1▸hc.2⟩]
    simp only
    rw [e2.2.2.2]
    by_cases h2:(qAa (BR (wd (tb (sIs [58] (wr (tb q.1),q.2)).2.1)))).2.2.2.2=true
    ·rw [if_pos h2,h2]
     simp only [Bool.not_true,Bool.or_false]
     exact qHD ⟨e2.1,e2.2.1,e2.2.2.1,rfl⟩
    ·rw [if_neg h2]
     refine .inr ⟨rfl,qCQ (.inl ?_)⟩
     simp only
     have h2:(qAa (BR (wd (tb (sIs [58] (wr (tb q.1),q.2)).2.1)))).2.2.2.2=false:=by simpa using h2
     rw [h2];simp
   ·rw [if_neg hc,if_neg (fun e=>hc ⟨e.1,e1.symm▸e.2⟩)]
    simp only
    have:=hB p (tb q.1,q.2) (deep+1) 4 f g (by omega) ⟨hl.1,hl.2.1,hl.2.2.1,by simp only;rw [qCB];exact hpq⟩ hN (by omega) (by omega) (by omega) (by omega)
    exact this.sim
  ·unfold qDF
   split
   ·rw [qAu];have:=qGo p;omega
   ·have h1:=qDH f (.bin 1 (deep+1)) (qAr p).2
    have h2:=qGo p
    exact Nat.le_trans h1 (by omega)
 obtain ⟨harg,hal⟩:=harg
 simp only [pP]
 rw [if_neg hpb]
 have hs:sP (g+1+1) (.call op kids) q=(if (sIs [41] (sP (g+1) .arg q).2).1=true then qDe (ndK 6 op (kids++ [(sP (g+1) .arg q).1])) (sIs [41] (sP (g+1) .arg q).2).2
  else sP (g+1) (.call op (kids++ [(sP (g+1) .arg q).1])) (if (sIs [44] (sIs [41] (sP (g+1) .arg q).2).2).1=true then (sIs [44] (sIs [41] (sP (g+1) .arg q).2).2).2 else qJZ (sIs [44] (sIs [41] (sP (g+1) .arg q).2).2).2)):=by
  rw [sP]
  rw [if_neg hqb]
 rw [hs]
 generalize qDF (qAr p) (fun p=>pP f (.bin 1 (deep+1)) p)=Q at harg hal⊢
 generalize sP (g+1) .arg q=A at harg⊢
 rcases harg with ⟨h1,h2⟩|⟨h1,h2⟩
 ·have hb2:=h2.2.1
  obtain ⟨c1,c2⟩:=qIV (c:=44) (by decide) h2
  have i41:=qKJ (c:=41) hb2
  have i44:=qKJ (c:=44) hb2
  by_cases hc:(qW [44] Q.2).1=true
  ·rw [if_pos hc]
   have hh:=i44.1 (c1▸hc)
   have n41:¬(sIs [41] A.2).1=true:=fun e=>by rw [i41.1 e] at hh;cases hh
   rw [if_neg n41]
   have e41:(sIs [41] A.2).2=(tb A.2.1,A.2.2):=by
    unfold sIs at n41⊢
    rw [if_neg (by rw [hb2];simp)] at n41⊢
    split
    ·rename_i hx;rw [if_pos hx] at n41;exact absurd rfl n41
    ·rfl
   rw [e41]
   have e44:sIs [44] (tb A.2.1,A.2.2)=sIs [44] A.2:=by unfold sIs;simp only [qCB]
   rw [e44,if_pos (c1▸hc),h1]
   have hlt:=qDG (w:= [44]) (by simp) hc
   have htb:=qr (qW [44] Q.2).2.1
   exact hC _ (by omega) (qW [44] Q.2).2 (sIs [44] A.2).2 deep op _ f (g+1) c2 rfl hd (by omega) (by omega) (by omega)
  ·rw [if_neg hc]
   have et:(qW [44] Q.2).2=(tb Q.2.1,Q.2.2):=by
    unfold qW at hc⊢
    split
    ·rename_i hx;rw [if_pos hx] at hc;exact absurd rfl hc
    ·rfl
   rw [et]
   have hl2:Lk (tb Q.2.1,Q.2.2) A.2:=⟨h2.1,h2.2.1,h2.2.2.1,by simp only;rw [qCB];exact h2.2.2.2⟩
   have hm:=qOT (c:=41) (by decide) (a:=(A.1,(tb Q.2.1,Q.2.2))) (b:=(A.1,A.2)) (.inl ⟨rfl,hl2⟩)
   by_cases h41:(sIs [41] A.2).1=true
   ·rw [if_pos h41]
    simp only [h41,if_true] at hm
    have:=qOS (fun _=>ndK 6 op (kids++ [A.1])) hm
    rw [h1]
    exact this
   ·rw [if_neg h41]
    have e41:(sIs [41] A.2).2=(tb A.2.1,A.2.2):=by
     unfold sIs at h41⊢
     rw [if_neg (by rw [hb2];simp)] at h41⊢
     split
     ·rename_i hx;rw [if_pos hx] at h41;exact absurd rfl h41
     ·rfl
    have e44:sIs [44] (tb A.2.1,A.2.2)=sIs [44] A.2:=by unfold sIs;simp only [qCB]
    rw [e41,e44,if_neg (c1▸hc)]
    refine .inr ⟨qLA _ _ _ rfl,qCQ ?_⟩
    simp only [if_neg h41] at hm
    rcases hm with ⟨_,_,hb,_⟩|⟨_,hdm⟩
    ·simp [qJZ] at hb
    ·exact hdm
 ·have e41:sIs [41] A.2=(false,tb A.2.1,A.2.2):=qHC h1
  have e44:sIs [44] (tb A.2.1,A.2.2)=(false,tb (tb A.2.1),A.2.2):=qHC h1
  rw [e41]
  simp only [Bool.false_eq_true,if_false]
  rw [e44]
  simp only [Bool.false_eq_true,if_false]
  refine .inr ⟨qLA _ _ _ rfl,?_⟩
  split
  ·exact qCX f _ _ (qDr h2)
  ·exact qCQ (qGn (qDr h2))
theorem qOW {c d:UInt8} (h:c≠d) {r:List UInt8} (hr:r.head?=some c):¬r.head?=some d:=by rw [hr];simpa using h
theorem qQh (H:RdOK) (N:Nat) (hA:∀M,M<N→qQc M) (hB:∀M,M<N→qP5 M) (hC:∀M,M<N→qQe M):qQc N:=by
 intro p q deep f g hl hN hd hdN hf hg
 cases f with
 |zero=>omega
 |succ f=>
 cases f with
 |zero=>omega
 |succ f=>
 cases g with
 |zero=>omega
 |succ g=>
 cases g with
 |zero=>omega
 |succ g=>
 have hpq:=hl.2.2.2
 have hpb:¬p.2.1=true:=by rw [hl.1];simp
 have hqb:¬q.2.1=true:=by rw [hl.2.1];simp
 have hq0:=hl.2.1
 have hs:sP (g+1+1) (.row 5) q=sP (g+1) .one q:=by
  rw [sP,if_neg hqb,if_pos rfl]
 rw [hs]
 obtain ⟨e1,e2⟩:=qIV (c:=45) (by decide) hl
 rw [pP]
 rw [if_neg (by intro e;rcases e with e|e;omega;exact hpb e)]
 by_cases hc:(qW [45] p).1=true
 ·rw [if_pos hc]
  simp only [sP]
  rw [if_pos (e1▸hc)]
  have hlt:=qDG (w:= [45]) (by simp) hc
  have htb:=qr (qW [45] p).2.1
  exact qOS (fun k=>ndK 4 0 [k]) (hA _ (by omega) _ _ (deep+1) (f+1) g e2 rfl (by omega) (by omega) (by omega) (by omega))
 ·rw [if_neg hc]
  have hp':(qW [45] p).2=(tb p.1,p.2):=by
   unfold qW at hc⊢
   split
   ·rename_i hx;rw [if_pos hx] at hc;exact absurd rfl hc
   ·rfl
  have hq':(sIs [45] q).2=(tb q.1,q.2):=by
   have hc:¬(sIs [45] q).1=true:=e1▸hc
   unfold sIs at hc⊢
   rw [if_neg hqb] at hc⊢
   split
   ·rename_i hx;rw [if_pos hx] at hc;exact absurd rfl hc
   ·rfl
  rw [hp']
  simp only [sP]
  rw [if_neg (e1▸hc),hq']
  simp only [pP,qCB]
  have hl2:Lk (tb p.1,p.2) (tb q.1,q.2):=⟨hl.1,hl.2.1,hl.2.2.1,by simp only [qCB];exact hpq⟩
  obtain ⟨f1,f2⟩:=qIV (c:=40) (by decide) hl2
  have i40:=qKJ (c:=40) (q:=(tb q.1,q.2)) hq0
  have i34:=qKJ (c:=34) (q:=(tb q.1,q.2)) hq0
  have i35:=qKJ (c:=35) (q:=(tb q.1,q.2)) hq0
  simp only [qCB] at i40 i34 i35
  rw [hpq] at hN f1 f2⊢
  by_cases h34:(tb q.1).head?=some 34
  ·rw [if_pos h34,if_neg (fun e=>qOW (by decide) h34 (i40.1 e)),if_pos (i34.2 h34)]
   have es:(sIs [34] (tb q.1,q.2)).2.1=(tb q.1).tail:=by
    have:=i34.2 h34
    unfold sIs at this⊢
    rw [if_neg hqb] at this⊢
    simp only [qCB] at this⊢
    split
    ·simp
    ·rename_i hx;rw [if_neg hx] at this;cases this
   rw [es]
   cases hqr:qBd [] (tb q.1).tail with
   |none=>exact .inr ⟨rfl,.inl rfl⟩
   |some st=>
    obtain ⟨s,t⟩:=st
    exact qHD ⟨hl.1,hl.2.1,hl.2.2.1,rfl⟩
  ·rw [if_neg h34]
   by_cases h35:(tb q.1).head?=some 35
   ·rw [if_pos h35,if_neg (fun e=>qOW (by decide) h35 (i40.1 e)),if_neg (fun e=>h34 (i34.1 e)),if_pos (i35.2 h35)]
    have es:(sIs [35] (tb q.1,q.2)).2.1=(tb q.1).tail:=by
     have:=i35.2 h35
     unfold sIs at this⊢
     rw [if_neg hqb] at this⊢
     simp only [qCB] at this⊢
     split
     ·simp
     ·rename_i hx;rw [if_neg hx] at this;cases this
    rw [es,qP4 H h35 5 1 (by omega) (by omega)]
    cases he:qF0 (tb q.1) 1 5 with
    |some n=>
     simp only
     obtain ⟨t,ht⟩:=H.n n (by have:=qOV 5 1 he;omega)
     have hsz:(qX n).size=t.length+1:=by rw [←qAg,ht];rfl
     refine qHD ⟨hl.1,hl.2.1,hl.2.2.1,?_⟩
     simp only
     rw [hsz]
     cases hr:tb q.1 with
     |nil=>rw [hr] at h35;cases h35
     |cons c r=>rfl
    |none=>
     simp only
     rw [if_neg (fun e=>e.1 h35)]
     have hw:wd (tb q.1)= []:=by
      cases hr:tb q.1 with
      |nil=>rw [hr] at h35;cases h35
      |cons c r=>
       rw [hr] at h35
       simp only [List.head?_cons,Option.some.injEq] at h35
       subst h35
       rfl
     rw [hw,if_neg (fun e=>H.v0 e.2),if_neg (by rw [H.p0];simp),H.f0]
     exact .inr ⟨rfl,qEq _⟩
   ·rw [if_neg h35]
    simp only
    by_cases h40:(qW [40] (tb q.1,p.2)).1=true
    ·rw [if_pos ⟨h35,h40⟩,if_pos (f1▸h40)]
     have hlt:=qDG (w:= [40]) (by simp) h40
     simp only [qCB] at hlt
     have htb:=qr (qW [40] (tb q.1,p.2)).2.1
     have hb:=(hB _ (by omega) _ _ (deep+1) 4 f g (by omega) f2 rfl (by omega) (by omega) (by omega) (by omega)).sim
     have e5:(5-((4:Nat):Int))=1:=by omega
     rw [e5] at hb
     exact qOT (by decide) hb
    ·have n40:¬(sIs [40] (tb q.1,q.2)).1=true:=f1▸h40
     have n34:¬(sIs [34] (tb q.1,q.2)).1=true:=fun e=>h34 (i34.1 e)
     have n35:¬(sIs [35] (tb q.1,q.2)).1=true:=fun e=>h35 (i35.1 e)
     rw [if_neg (fun e=>h40 e.2),if_neg n40,if_neg n34,if_neg n35]
     have hl3:Lk (wr (tb q.1),p.2) (wr (tb q.1),q.2):=⟨hl.1,hl.2.1,hl.2.2.1,rfl⟩
     cases hfn:qEp (wd (tb q.1)) 1 10 with
     |some op=>
      simp only
      obtain ⟨z1,z2⟩:=H.f _ _ hfn
      rw [if_neg (by rw [z1];simp),if_neg (by rw [z2];simp)]
      have hne:1≤(wd (tb q.1)).length:=by
       cases hw:wd (tb q.1) with
       |nil=>rw [hw,H.f0] at hfn;cases hfn
       |cons c t=>simp
      have hlen:(wr (tb q.1)).length+1≤N:=by
       have:=congrArg List.length (wdr (tb q.1))
       simp only [List.length_append] at this
       omega
      obtain ⟨k1,k2⟩:=qIV (c:=40) (by decide) hl3
      cases f with
      |zero=>omega
      |succ f=>
       simp only [pP]
       by_cases ht:(sIs [40] (wr (tb q.1),q.2)).1=true
       ·rw [if_pos ht]
        have em:qBs [40] (wr (tb q.1),p.2)=(qW [40] (wr (tb q.1),p.2)).2:=by
         unfold qBs
         rw [if_neg hpb,if_pos (k1▸ht)]
        rw [em]
        have hlt:=qDG (w:= [40]) (by simp) (k1.symm▸ht)
        have h2:=qr (wr (tb q.1))
        have h3:=qr (qW [40] (wr (tb q.1),p.2)).2.1
        simp only at hlt
        exact hC _ (by omega) _ _ deep op [] f g k2 rfl hd (by omega) (by omega) (by omega)
       ·rw [if_neg ht]
        have em:qBs [40] (wr (tb q.1),p.2)=qOs (qW [40] (wr (tb q.1),p.2)).2:=by
         unfold qBs
         rw [if_neg hpb,if_neg (k1▸ht)]
        rw [em]
        exact .inr ⟨rfl,qCX f _ _ (qEq _)⟩
     |none=>
      simp only
      by_cases hw0:wd (tb q.1)= []
      ·rw [hw0,if_neg (fun e=>H.v0 e.2),if_neg (by rw [H.p0];simp),if_neg (fun e=>e.2 rfl),if_neg (by rw [H.p0];simp)]
       exact .inr ⟨rfl,qEq _⟩
      ·by_cases hv:(qf (BR (wd (tb q.1)))).2.2.2=true
       ·rw [if_pos ⟨hv,H.v _ (qOv _) hw0 hv⟩,if_pos ⟨hv,hw0⟩]
        exact qHD hl3
       ·have nv1:¬((qf (BR (wd (tb q.1)))).2.2.2=true∧((qf (BR (wd (tb q.1)))).1=1∨(qf (BR (wd (tb q.1)))).1=3)):=fun e=>hv e.1
        have nv2:¬((qf (BR (wd (tb q.1)))).2.2.2=true∧wd (tb q.1)≠ []):=fun e=>hv e.1
        rw [if_neg nv1,if_neg nv2]
        by_cases hp:(qAa (BR (wd (tb q.1)))).2.2.2.2=true
        ·rw [if_pos hp,if_pos hp]
         exact qHD hl3
        ·rw [if_neg hp,if_neg hp]
         exact .inr ⟨rfl,qEq _⟩
theorem qQi (H:RdOK) (N:Nat):qQc N∧qQd N∧qP5 N∧qQe N:=by
 induction N using Nat.strongRecOn with
 |ind N ih=>
  have hA:=qQh H N (fun M h=>(ih M h).1) (fun M h=>(ih M h).2.2.1) (fun M h=>(ih M h).2.2.2)
  have hT:=qRp N (fun M h=>(ih M h).2.2.1) (fun M h=>(ih M h).2.1)
  have hB:=qQf N hA (fun M h=>(Nat.lt_or_eq_of_le h).elim (fun h=>(ih M h).2.1) (fun h=>h▸hT))
  exact ⟨hA,hT,hB,qQg H N hB (fun M h=>(ih M h).2.2.2)⟩
theorem qA5 (r:List UInt8):(BR r).toList=r:=qAZ r
theorem qj (r:List UInt8):(BR r).size=r.length:=by rw [←qAg,qA5]
theorem qFh (s:ByteArray):BR s.toList=s:=qDE (qA5 _)
theorem qIJ (r:List UInt8) (a b:Nat):(BR r).extract a b=BR ((r.take b).drop a):=by
 refine qDE ?_
 rw [qA5,Go.Lib.toList_data,ByteArray.data_extract,Array.toList_extract]
 simp [BR,List.extract_eq_take_drop,List.drop_take]
theorem qLC (a b:List UInt8):BR a++BR b=BR (a++b):=by
 refine qDE ?_
 rw [qA5,Go.Lib.toList_data]
 simp [BR]
theorem qQ5:∀i:Fin 256,((⟨#[32]⟩:ByteArray).data.toList.contains (UInt8.ofNat i.val))=(UInt8.ofNat i.val==32):=by decide+kernel
def wcS:ByteArray:=⟨#[65,66,67,68,69,70,71,72,73,74,75,76,77,78,79,80,81,82,83,84,85,86,87,88,89,90,48,49,50,51,52,53,54,55,56,57,36]⟩
theorem qQ6:∀i:Fin 256,(wcS.data.toList.contains (UInt8.ofNat i.val))=wch (UInt8.ofNat i.val):=by decide+kernel
theorem qP6 {f g:UInt8→Bool} (h:∀i:Fin 256,f (UInt8.ofNat i.val)=g (UInt8.ofNat i.val)) (c:UInt8):f c=g c:=by
 have h:=h ⟨c.toNat,UInt8.toNat_lt c⟩
 have e:UInt8.ofNat c.toNat=c:=by simp
 simp only [e] at h
 exact h
theorem qPd (r:List UInt8):Ev (qBA · (BR r) ⟨#[32]⟩) (BR (tb r)):=by
 refine ⟨1,fun n hn=>?_⟩
 obtain ⟨m,rfl,hm⟩:=up1 hn
 show zK (BR r) ⟨#[32]⟩=_
 unfold zK
 rw [if_pos ⟨by decide,by decide+kernel⟩]
 unfold Lib.trimLeftS tb
 have:(fun c=>(⟨#[32]⟩:ByteArray).data.toList.contains c)=(fun c=>c==32):=funext (qP6 qQ5)
 rw [this]
 rfl
theorem qPe (r:List UInt8):Ev (qBA · (BR r) ⟨#[65,66,67,68,69,70,71,72,73,74,75,76,77,78,79,80,81,82,83,84,85,86,87,88,89,90,48,49,50,51,52,53,54,55,56,57,36]⟩) (BR (wr r)):=by
 refine ⟨1,fun n hn=>?_⟩
 obtain ⟨m,rfl,hm⟩:=up1 hn
 show zK (BR r) wcS=_
 unfold zK
 rw [if_pos ⟨by decide,by decide+kernel⟩]
 unfold Lib.trimLeftS wr
 have:(fun c=>wcS.data.toList.contains c)=wch:=funext (qP6 qQ6)
 rw [this]
 rfl
theorem qF1 (r:List UInt8) (m:Nat) (b:Bool) (rows:List (List PV)):Ev (qAt · (BR r) m b rows) (BR (tb r),m,b,rows):=by
 obtain ⟨n1,h1⟩:=qPd r
 refine ⟨n1+1,fun n hn=>?_⟩
 obtain ⟨m,rfl,hm⟩:=up1 hn
 have h1:=h1 m (by omega)
 dsimp only at h1
 simp only [qAt,qC3,qC,qD,qF,qG,qH,qJ,Option.bind_some,qE,qK,qM,h1]
theorem qBb (m:Nat) (s w:List UInt8):qn (m+2) (BR s) (BR w)=some (w.isPrefixOf s):=by
 simp only [qn,qCV,qAc,qAb,qC,qD,qF,qG,qH,qJ,Option.bind_some,qE,qK,qM,qj,qIJ,qA5]
 by_cases h:w.length≤s.length
 ·have h1:((s.length:Nat):Int)≥((w.length:Nat):Int):=by omega
  simp [h1,h,List.isPrefixOf_iff_prefix,List.prefix_iff_eq_take]
  by_cases e:w=s.take w.length
  ·simp [←e,List.isPrefixOf_iff_prefix.2 (List.prefix_iff_eq_take.2 e)]
  ·have e2:¬s.take w.length=w:=fun h=>e h.symm
   have e3:w.isPrefixOf s=false:=by
    rw [Bool.eq_false_iff]
    intro hp
    exact e (List.prefix_iff_eq_take.1 (List.isPrefixOf_iff_prefix.1 hp))
   simp [e2,e3]
 ·have h1:¬((s.length:Nat):Int)≥((w.length:Nat):Int):=by omega
  have e3:w.isPrefixOf s=false:=by
   rw [Bool.eq_false_iff]
   intro hp
   exact h (List.isPrefixOf_iff_prefix.1 hp).length_le
  simp [h1,e3]
theorem qOw (s w:List UInt8):Ev (qn · (BR s) (BR w)) (w.isPrefixOf s):=by
 refine ⟨2,fun n hn=>?_⟩
 obtain ⟨m,rfl,hm⟩:=up1 hn
 obtain ⟨m,rfl,hm⟩:=up1 hm
 exact qBb m s w
def qOX:List (List PV):=qDn.map fun w=> [PV.s (BR w)]
theorem qNO {n:Nat} {r:List UInt8} (m:Nat) (b:Bool) (rows:List (List PV)) (h:∀w∈qDn,qn n (BR r) (BR w)=some (w.isPrefixOf r)):
  ∀(k i M:Nat),i+k=15→k+1≤M→zD (qB8 n) M (15,15,(i:Int),qOX,BR r,m,b,rows)=some (match (qDn.drop i).find? (fun w=>w.isPrefixOf r) with|some w=> .inl (BR w,BR r,m,b,rows)|none=> .inr (BR r,m,b,rows))
 |k,i,0,h1,h2=>by omega
 |0,i,M+1,h1,h2=>by
  have hi:i=15:=by omega
  subst hi
  rw [qO (r:= .inr (BR r,m,b,rows)) (by simp [qB8,qC,qD,qF,qG,qH,qJ,Option.bind_some,qE,qK,qM])]
  rfl
 |k+1,i,M+1,h1,h2=>by
  have hi:i<qDn.length:=by simp [qDn];omega
  obtain ⟨w,hw⟩:∃w,qDn[i]?=some w:=⟨_,List.getElem?_eq_getElem hi⟩
  have hR:qOX[i]?=some [PV.s (BR w)]:=by simp [qOX,List.getElem?_map,hw]
  have hl:qOX.length=15:=rfl
  have hc:zh [PV.s (BR w)] 0=some (BR w):=rfl
  have hp:=h w (List.mem_of_getElem? hw)
  have hd:qDn.drop i=w::qDn.drop (i+1):=qFC hw
  have w5:IntKind.i64.wrap ((i:Int)+1)=((i+1:Nat):Int):=by rw [qZ (by omega)];omega
  rw [hd]
  simp only [List.find?_cons]
  cases hq:w.isPrefixOf r with
  |true=>
   rw [qO (r:= .inl (BR w,BR r,m,b,rows)) (by
    refine qN (by simp;omega) (qN (by simp [hl];omega) (qA hR (qA hc (qA (hp.trans (congrArg some hq)) (qN rfl rfl))))))]
  |false=>
   rw [qa (v':=(15,15,((i+1:Nat):Int),qOX,BR r,m,b,rows)) (by
    refine qN (by simp;omega) (qN (by simp [hl];omega) (qA hR (qA hc (qA (hp.trans (congrArg some hq)) (qR rfl ?_)))))
    rw [w5];rfl)]
   exact qNO m b rows h k (i+1) M (by omega) (by omega)
theorem qLD (r:List UInt8) (m:Nat) (b:Bool) (rows:List (List PV)):Ev (qBU · (BR r) m b rows) (BR (sgn (tb r)),BR (tb r),m,b,rows):=by
 obtain ⟨n1,h1⟩:=qF1 r m b rows
 obtain ⟨n2,h2⟩:=qCN (F:=fun w n=>qn n (BR (tb r)) (BR w)) (f:=fun w=>w.isPrefixOf (tb r)) qDn (fun w _=>qOw (tb r) w)
 refine ⟨n1+n2+30,fun n hn=>?_⟩
 obtain ⟨k,rfl,hm⟩:=up1 hn
 have h1:=h1 k (by omega)
 have lp:=qNO m b rows (h2 k (by omega)) 15 0 k rfl (by omega)
 refine qA h1 (qA lp ?_)
 simp only [List.drop_zero]
 unfold sgn
 cases hq:qDn.find? (fun w=>w.isPrefixOf (tb r)) with
 |some w=>rfl
 |none=>rfl
theorem qPK (r:List UInt8):sgn r<+:r:=by
 unfold sgn
 split
 ·rename_i w hw
  have:=List.find?_some hw
  exact List.isPrefixOf_iff_prefix.1 (by simpa using this)
 ·exact List.nil_prefix
theorem qNP (w r:List UInt8) (m:Nat) (b:Bool) (rows:List (List PV)):Ev (ql · (BR w) (BR r) m b rows) (decide (sgn (tb r)=w),BR (if sgn (tb r)=w then (tb r).drop w.length else tb r),m,b,rows):=by
 obtain ⟨n1,h1⟩:=qLD r m b rows
 refine ⟨n1+1,fun n hn=>?_⟩
 obtain ⟨k,rfl,hm⟩:=up1 hn
 refine qA (h1 k (by omega)) ?_
 by_cases h:sgn (tb r)=w
 ·have hp:=(qPK (tb r)).length_le
  rw [h] at hp
  refine qR (by simp [qA5,h]) (qN (by simp [qj];omega) ?_)
  rw [qC,qj,qj,qIJ]
  simp [h]
 ·refine qN (by simp [qA5,h]) ?_
  rw [qC]
  simp [h]
theorem qPf (r:List UInt8) (m:Nat) (b:Bool) (rows:List (List PV)) (hr:r.length≤1000):Ev (qBB · (BR r) m b rows) (BR (wd (tb r)),BR (wr (tb r)),m,b,rows):=by
 obtain ⟨n1,h1⟩:=qF1 r m b rows
 obtain ⟨n2,h2⟩:=qPe (tb r)
 refine ⟨n1+n2+1,fun n hn=>?_⟩
 obtain ⟨k,rfl,hm⟩:=up1 hn
 have hb:=qr r
 have hw:=qFg (tb r)
 have hsum:=congrArg List.length (wdr (tb r))
 simp only [List.length_append] at hsum
 have e:IntKind.i64.wrap (((tb r).length:Int)-((wr (tb r)).length:Int))=((wd (tb r)).length:Int):=by rw [qZ (by omega)];omega
 refine qA (h1 k (by omega)) (qA (h2 k (by omega)) ?_)
 simp only [qj,e]
 refine qN (by simp;omega) (qN (by simp;omega) ?_)
 rw [qC]
 have t1:(wd (tb r)++wr (tb r)).take (wd (tb r)).length=wd (tb r):=List.take_left ..
 have t2:(wd (tb r)++wr (tb r)).drop (wd (tb r)).length=wr (tb r):=List.drop_left ..
 rw [wdr] at t1 t2
 simp [qIJ,t1,t2]
def qEr (p:PS):ByteArray×Nat×Bool×List (List PV):=(BR p.1,p.2.2.length,p.2.1,p.2.2.map qb)
def qFm (r:Int×PS):Int×ByteArray×Nat×Bool×List (List PV):=(r.1,BR r.2.1,r.2.2.2.length,r.2.2.1,r.2.2.2.map qb)
def qM1 (c:Nd):Prop:=(kd c).length≤2000∧c.2.2.2.2.1.size≤2000
structure Gd (p:PS):Prop where
 r:p.1.length≤1000
 n:p.2.2.length≤60
 s:∀x∈p.2.2,qM1 x
theorem qLE (x:Nd) (p:PS) (h:p.2.2.length≤60):Ev (qm · x.1 x.2.1 x.2.2.1 x.2.2.2.1 x.2.2.2.2.1 x.2.2.2.2.2.1 x.2.2.2.2.2.2.1 x.2.2.2.2.2.2.2.1 x.2.2.2.2.2.2.2.2.1 x.2.2.2.2.2.2.2.2.2.1 x.2.2.2.2.2.2.2.2.2.2.1 x.2.2.2.2.2.2.2.2.2.2.2.1 x.2.2.2.2.2.2.2.2.2.2.2.2.1 ((kd x).map qA9) (BR p.1) p.2.2.length p.2.1 (p.2.2.map qb)) (qFm (qCk x p)):=by
 obtain ⟨r,b,l⟩:=p
 refine ⟨1,fun n hn=>?_⟩
 obtain ⟨m,rfl,hm⟩:=up1 hn
 replace h:l.length≤60:=h
 show qm (m+1) _ _ _ _ _ _ _ _ _ _ _ _ _ _ (BR r) l.length b (l.map qb)=_
 unfold qCk
 have w1:IntKind.i64.wrap (((l.length:Nat):Int)-1)=(l.length:Int)-1:=qZ (by omega)
 have w2:IntKind.i64.wrap ((((l.length+1):Nat):Int)-1)=(l.length:Int):=by rw [qZ (by omega)];omega
 cases b with
 |true=>
  rw [if_pos (.inl rfl)]
  refine qN rfl (qR rfl ?_)
  rw [qC,w1]
  rfl
 |false=>
  by_cases h6:60≤l.length
  ·rw [if_pos (.inr h6)]
   have d:decide (((l.length:Nat):Int)≥60)=true:=decide_eq_true (by omega)
   refine qR rfl (qR (by rw [d];rfl) ?_)
   rw [qC,w1,d]
   rfl
  ·have hn:¬(((r,false,l):PS).2.1=true∨60≤((r,false,l):PS).2.2.length):=by
    intro hh
    rcases hh with hh|hh
    ·exact absurd hh (by simp)
    ·exact h6 hh
   rw [if_neg hn]
   have d:decide (((l.length:Nat):Int)≥60)=false:=decide_eq_false (by omega)
   refine qR rfl (qN (by rw [d];rfl) (qN rfl (qN (decide_eq_true ⟨by simp,by decide,by decide,by simp;omega,rfl⟩) ?_)))
   rw [qC,w2,d]
   simp only [qFm,List.map_append,List.length_append]
   rfl
theorem qIK (v:V3) (p:PS) (h:p.2.2.length≤60):Ev (qh · v.1 v.2.1 v.2.2 (BR p.1) p.2.2.length p.2.1 (p.2.2.map qb)) (qFm (qCk (nd1 v) p)):=by
 obtain ⟨n1,h1⟩:=qLE (nd1 v) p h
 refine ⟨n1+1,fun n hn=>?_⟩
 obtain ⟨k,rfl,hm⟩:=up1 hn
 exact qA (h1 k (by omega)) rfl
theorem qFi {x:Nd} {p:PS} (h:Gd p) (hx:qM1 x):Gd (qCk x p).2:=by
 unfold qCk
 split
 ·exact ⟨h.r,h.n,h.s⟩
 ·rename_i hh
  refine ⟨h.r,?_,fun y hy=>?_⟩
  ·have:¬60≤p.2.2.length:=fun e=>hh (.inr e)
   simp;omega
  ·simp at hy
   rcases hy with hy|rfl
   ·exact h.s _ hy
   ·exact hx
theorem qCR {w:List UInt8} {p:PS} (h:Gd p):Gd (qW w p).2:=by
 have:=qHB w p
 have h2:=qr p.1
 have h3:=h.r
 refine ⟨by omega,?_,?_⟩
 ·unfold qW;split<;>exact h.n
 ·unfold qW;split<;>exact h.s
theorem qFB (w:List UInt8) (p:PS):Ev (ql · (BR w) (BR p.1) p.2.2.length p.2.1 (p.2.2.map qb)) ((qW w p).1,qEr (qW w p).2):=by
 obtain ⟨n1,h1⟩:=qNP w p.1 p.2.2.length p.2.1 (p.2.2.map qb)
 refine ⟨n1,fun n hn=>?_⟩
 have h1:=h1 n hn
 unfold qW
 by_cases h:sgn (tb p.1)=w
 ·simp only [h,if_true,decide_true] at h1
  rw [if_pos h];exact h1
 ·simp only [h,if_false,decide_false] at h1
  rw [if_neg h];exact h1
theorem qNw (p:PS) (h:p.1.length≤1000):Ev (qBB · (BR p.1) p.2.2.length p.2.1 (p.2.2.map qb)) (BR (wd (tb p.1)),qEr (wr (tb p.1),p.2)):=qPf p.1 _ _ _ h
theorem qNx (r:List UInt8):(wd r).length≤r.length:=by
 have:=congrArg List.length (wdr r)
 simp only [List.length_append] at this
 omega
theorem qP7 (r:List UInt8) (h:r.length≤1000):Ev (qAO · (BR (wd (tb r)))) (qAa (BR (wd (tb r)))):=qKB _ (by rw [qj];have:=qNx (tb r);have:=qr r;omega)
theorem qRX (r:List UInt8) (h:r.length≤1000):Ev (qw · (BR (wd (tb r)))) (qf (BR (wd (tb r)))):=qJ5 _ (by rw [qj];have:=qNx (tb r);have:=qr r;omega)
theorem qOY (c:UInt8) (t:List UInt8):Lib.cut (c::t) [34]=if c=34 then ([],t,true) else (c::(Lib.cut t [34]).1,(Lib.cut t [34]).2.1,(Lib.cut t [34]).2.2):=by
 by_cases h:c=34
 ·subst h
  rw [if_pos rfl]
  simp [Lib.cut,Lib.index,List.isPrefixOf]
 ·rw [if_neg h]
  have h':¬34=c:=fun e=>h e.symm
  have g:=Lib.index_ge t [34]
  unfold Lib.cut
  by_cases e:Lib.index t [34]= -1
  ·have:Lib.index (c::t) [34]= -1:=by simp [Lib.index,List.isPrefixOf,h',e]
   simp [this,e]
  ·have:Lib.index (c::t) [34]=Lib.index t [34]+1:=by simp [Lib.index,List.isPrefixOf,h',e]
   have p:0≤Lib.index t [34]:=by omega
   have p1:0≤Lib.index t [34]+1:=by omega
   have q:(Lib.index t [34]+1).toNat=(Lib.index t [34]).toNat+1:=by omega
   simp [this,p,p1,q]
theorem qQj (acc t:List UInt8):qBd acc (34::34::t)=qBd (acc++ [34]) t:=(qBd.eq_def acc _).trans (by simp)
theorem qQk (acc t:List UInt8) (h:t.head?≠some 34):qBd acc (34::t)=some (acc,t):=by
 refine (qBd.eq_def acc _).trans ?_
 cases t with
 |nil=>simp
 |cons d t=>
  have:¬d=34:=fun e=>h (by rw [e];rfl)
  simp [this]
theorem qQl (acc t:List UInt8) {c:UInt8} (h:¬c=34):qBd acc (c::t)=qBd (acc++ [c]) t:=(qBd.eq_def acc _).trans (by simp only [if_neg h])
theorem up3 {n n0:Nat} (h:n0+3≤n):∃m,n=m+3∧n0≤m:=⟨n-3,by omega,by omega⟩
theorem qNQ:∀(r acc:List UInt8),qBd acc r=if (Lib.cut r [34]).2.2=true then (if (Lib.cut r [34]).2.1.head?=some 34 then qBd (acc++(Lib.cut r [34]).1++ [34]) (Lib.cut r [34]).2.1.tail else some (acc++(Lib.cut r [34]).1,(Lib.cut r [34]).2.1)) else none
 | [],acc=>by simp [qBd,Lib.cut,Lib.index]
 |c::t,acc=>by
  rw [qOY]
  by_cases h:c=34
  ·subst h
   rw [if_pos rfl]
   by_cases e:t.head?=some 34
   ·obtain ⟨u,rfl⟩:∃u,t=34::u:=by
     cases t with
     |nil=>cases e
     |cons d u=>simp at e;subst e;exact ⟨u,rfl⟩
    rw [qQj];simp
   ·rw [qQk acc t e];simp [e]
  ·simp only [if_neg h]
   rw [qQl acc t h,qNQ t (acc++ [c])]
   simp
theorem qPL:∀r:List UInt8,(Lib.cut r [34]).1.length+(Lib.cut r [34]).2.1.length≤r.length∧((Lib.cut r [34]).2.2=true→(Lib.cut r [34]).2.1.length<r.length)
 | []=>by simp [Lib.cut,Lib.index]
 |c::t=>by
  rw [qOY]
  have ih:=qPL t
  split
  ·simp
  ·simp only [List.length_cons]
   exact ⟨by omega,fun h=>by have:=ih.2 h;omega⟩
theorem qFj:∀(k:Nat) (acc r:List UInt8) {s t:List UInt8},r.length≤k→qBd acc r=some (s,t)→s.length≤acc.length+r.length+1
 |k,acc,[],s,t,hk,h=>by simp [qBd] at h
 |0,acc,c::r,s,t,hk,h=>by simp at hk
 |k+1,acc,c::r,s,t,hk,h=>by
  simp only [List.length_cons] at hk
  unfold qBd at h
  split at h
  ·cases r with
   |nil=>
    simp at h
    rw [←h.1];simp;omega
   |cons d r'=>
    simp only at h
    split at h
    ·have:=qFj k _ r' (by simp at hk;omega) h
     simp at this⊢;omega
    ·simp at h
     rw [←h.1];simp;omega
  ·have:=qFj k _ r (by omega) h
   simp at this⊢;omega
theorem qQ7 (m:Nat) (r:List UInt8) (h:r.length≤1000):qF6 (m+1) (BR r) ⟨#[34]⟩=some (BR (Lib.cut r [34]).1,BR (Lib.cut r [34]).2.1,(Lib.cut r [34]).2.2):=by
 show zAI (BR r) ⟨#[34]⟩=_
 unfold zAI
 rw [if_pos (by rw [qj];omega),←Go.Lib.toList_data (BR r),qA5]
 rfl
theorem qLQ (n:Nat) (orig:ByteArray) (m:Nat) (b:Bool) (rows:List (List PV)):∀(k:Nat) (r acc:List UInt8) (M:Nat),r.length≤k→acc.length+r.length≤1000→k+1≤M→
  zD (qCb (n+2)) M (BR acc,BR r,orig,m,b,rows)=some (match qBd acc r with
   |none=> .inl (-1,orig,m,true,rows)
   |some (s,t)=> .inr (BR s,BR t,orig,m,b,rows))
 |k,r,acc,0,h1,h2,h3=>by omega
 |k,r,acc,M+1,h1,h2,h3=>by
  have hc:=qQ7 (n+1) r (by omega)
  have hl:=qPL r
  have hp:=qBb n (Lib.cut r [34]).2.1 [34]
  rw [qNQ]
  cases hf:(Lib.cut r [34]).2.2 with
  |false=>
   rw [if_neg (by simp)]
   refine (qO (r:= .inl (-1,orig,m,true,rows)) ?_).trans rfl
   refine qA hc (qN (by simp [hf]) rfl)
  |true=>
   rw [if_pos rfl]
   have hlt:=hl.2 hf
   by_cases hh:(Lib.cut r [34]).2.1.head?=some 34
   ·rw [if_pos hh]
    have hb:List.isPrefixOf [34] (Lib.cut r [34]).2.1=true:=(qDf 34 _).2 hh
    obtain ⟨u,hu⟩:∃u,(Lib.cut r [34]).2.1=34::u:=by
     cases e:(Lib.cut r [34]).2.1 with
     |nil=>rw [e] at hh;cases hh
     |cons c u=>rw [e] at hh;simp at hh;subst hh;exact ⟨u,rfl⟩
    rw [hb] at hp
    rw [qa (v':=(BR (acc++(Lib.cut r [34]).1++ [34]),BR (Lib.cut r [34]).2.1.tail,orig,m,b,rows)) (by
     refine qA hc (qR (by simp [hf]) (qN (decide_eq_true (by rw [qj,qj];omega)) (qA hp (qR rfl (qN (decide_eq_true (by rw [qLC,qj,List.length_append];show _+1≤9223372036854775807;omega)) (qN (decide_eq_true ⟨by decide,by simp only [qj];rw [hu];simp;omega,by simp [qj]⟩) ?_))))))
     rw [qC]
     simp only [qLC,qj,qIJ]
     rw [hu]
     simp
     exact (qLC (acc++(Lib.cut r [34]).1) [34]).trans (by rw [List.append_assoc]))]
    rw [hu] at hl hlt⊢
    simp only [List.length_cons] at hl hlt
    refine qLQ n orig m b rows (k-1) _ _ M (by simp;omega) (by simp;omega) (by omega)
   ·rw [if_neg hh]
    have hb:List.isPrefixOf [34] (Lib.cut r [34]).2.1=false:=by
     rw [Bool.eq_false_iff];intro e;exact hh ((qDf 34 _).1 e)
    rw [hb] at hp
    refine (qO (r:= .inr (BR (acc++(Lib.cut r [34]).1),BR (Lib.cut r [34]).2.1,orig,m,b,rows)) ?_).trans rfl
    refine qA hc (qR (by simp [hf]) (qN (decide_eq_true (by rw [qj,qj];omega)) (qA hp (qN rfl ?_))))
    rw [qC,qLC]
theorem qPg (t:List UInt8) (b:Bool) (l:List Nd) (h:t.length≤999) (hl:l.length≤60):Ev (qC4 · (BR (34::t)) l.length b (l.map qb)) (qFm (match qBd [] t with
   |none=>(-1,34::t,true,l)
   |some (s,t')=>qCk (nd1 (2,0,BR s)) (t',b,l))):=by
 have lp:=fun n M (hM:t.length+1≤M)=>qLQ n (BR (34::t)) l.length b (l.map qb) t.length t [] M (Nat.le_refl _) (by simp;omega) hM
 cases hq:qBd [] t with
 |none=>
  refine ⟨t.length+1+3,fun n hn=>?_⟩
  obtain ⟨m,rfl,hm⟩:=up3 hn
  have lp:=lp m (m+2) (by omega)
  rw [hq] at lp
  refine qN (decide_eq_true ⟨by decide,by rw [qj];simp;omega,Int.le_refl _⟩) ?_
  have e:(BR (34::t)).extract ((1:Int)).toNat ((((BR (34::t)).size:Nat):Int)).toNat=BR t:=by rw [qIJ,qj];simp
  rw [e]
  exact qA lp rfl
 |some st=>
  obtain ⟨s,t'⟩:=st
  obtain ⟨n1,h1⟩:=qIK (2,0,BR s) (t',b,l) hl
  refine ⟨n1+t.length+1+3,fun n hn=>?_⟩
  obtain ⟨m,rfl,hm⟩:=up3 hn
  have lp:=lp m (m+2) (by omega)
  rw [hq] at lp
  refine qN (decide_eq_true ⟨by decide,by rw [qj];simp;omega,Int.le_refl _⟩) ?_
  have e:(BR (34::t)).extract ((1:Int)).toNat ((((BR (34::t)).size:Nat):Int)).toNat=BR t:=by rw [qIJ,qj];simp
  rw [e]
  exact qA lp (qA (h1 (m+2) (by omega)) rfl)
theorem qQm (m:Nat) (r:List UInt8) (w:ByteArray):qAL (m+1) (BR r) w=some (BR (if w.toList.isPrefixOf r=true then r.drop w.size else r),w.toList.isPrefixOf r):=by
 show zT (BR r) w=_
 unfold zT Lib.trimPrefix Lib.hasPrefix
 rw [←Go.Lib.toList_data (BR r),←Go.Lib.toList_data w,qA5,qAg]
 rfl
theorem qOZ {n:Nat} (deep:Int) (r:List UInt8) (b:Bool) (l:List Nd)
  (h1:∀i,0≤i∧i≤5→qAN n i=some (qX i)) (h2:∀i,1≤i∧i≤5→qBe n i=some (4,i,em))
  (h3:∀w,qAL n (BR r) w=some (BR (if w.toList.isPrefixOf r=true then r.drop w.size else r),w.toList.isPrefixOf r))
  (h4:∀i,1≤i∧i≤5→qh n 4 i em (BR (r.drop (qX i).size)) l.length b (l.map qb)=some (qFm (qCk (nd1 (4,i,em)) (r.drop (qX i).size,b,l)))):
  ∀(k:Nat) (i:Int) (M:Nat),1≤i→i+k=6→k+1≤M→zD (qBt n) M (deep,i,BR r,l.length,b,l.map qb)=some (match qF0 r i k with
   |some e=> .inl (qFm (qCk (nd1 (4,e,em)) (r.drop (qX e).size,b,l)))
   |none=> .inr (deep,BR r,l.length,b,l.map qb))
 |k,i,0,_,_,h=>by omega
 |0,i,M+1,hi,hk,h=>by
  rw [qO (r:= .inr (deep,BR r,l.length,b,l.map qb)) (by exact qR (decide_eq_false (show ¬i≤5 by omega)) rfl)]
  rfl
 |k+1,i,M+1,hi,hk,h=>by
  have hi5:1≤i∧i≤5:=⟨hi,by omega⟩
  have c:=h3 (qX i)
  cases hq:(qX i).toList.isPrefixOf r with
  |true=>
   rw [hq,if_pos rfl] at c
   unfold qF0
   rw [if_pos hq]
   refine qO (qN (decide_eq_true (show i≤5 by omega)) (qA (h1 i ⟨by omega,by omega⟩) (qA c (qN rfl (qA (h2 i hi5) (qA (h4 i hi5) rfl))))))
  |false=>
   rw [hq,if_neg (by simp)] at c
   unfold qF0
   rw [if_neg (by rw [hq];simp)]
   have w1:IntKind.i64.wrap (i+1)=i+1:=qZ (by omega)
   rw [qa (v':=(deep,i+1,BR r,l.length,b,l.map qb)) (by refine qN (decide_eq_true (show i≤5 by omega)) (qA (h1 i ⟨by omega,by omega⟩) (qA c (qR rfl ?_)));rw [qC,w1])]
   exact qOZ deep r b l h1 h2 h3 h4 k (i+1) M (by omega) (by omega) (by omega)
theorem qQ8 (deep:Int) (r:List UInt8) (b:Bool) (l:List Nd) (hl:l.length≤60):∃n0,∀n,n0≤n→∀M,n0≤M→zD (qBt n) M (deep,1,BR r,l.length,b,l.map qb)=some (match qF0 r 1 5 with
   |some e=> .inl (qFm (qCk (nd1 (4,e,em)) (r.drop (qX e).size,b,l)))
   |none=> .inr (deep,BR r,l.length,b,l.map qb)):=by
 obtain ⟨n1,h1⟩:=qE9 (F:=qAN) (f:=qX) (lo:=0) (by decide) qEC
 obtain ⟨n2,h2⟩:=qE9 (F:=qBe) (f:=fun i=>(4,i,em)) (lo:=1) (by decide) (fun i _=>qI0 i)
 obtain ⟨n4,h4⟩:=qE9 (F:=fun n i=>qh n 4 i em (BR (r.drop (qX i).size)) l.length b (l.map qb)) (f:=fun i=>qFm (qCk (nd1 (4,i,em)) (r.drop (qX i).size,b,l))) (lo:=1) (by decide) (fun i _=>qIK (4,i,em) (r.drop (qX i).size,b,l) hl)
 refine ⟨n1+n2+n4+7,fun n hn M hM=>?_⟩
 exact qOZ deep r b l (h1 n (by omega)) (h2 n (by omega)) (fun w=>by
  obtain ⟨m,rfl,_⟩:=up1 (show n1+1≤n by omega)
  exact qQm m r w) (h4 n (by omega)) 5 1 M (by omega) (by omega) (by omega)
theorem qPM {g:G_impl_reader_binary} {n:Nat} (deep:Int) (w:List UInt8) (p:PS) (res:Int→Int×PS) (h1:∀i,1≤i∧i≤10→qBw n i=some (fnS i)):
  ∀(k:Nat) (i:Int) (M:Nat),1≤i→i+k=11→k+1≤M→(∀op,qEp w i k=some op→g.impl_reader_call op deep (BR p.1) p.2.2.length p.2.1 (p.2.2.map qb)=some (qFm (res op)))→
   zD (qAS g n) M (deep,BR w,i,BR p.1,p.2.2.length,p.2.1,p.2.2.map qb)=some (match qEp w i k with
   |some op=> .inl (qFm (res op))
   |none=> .inr (qEr p))
 |k,i,0,_,_,h,_=>by omega
 |0,i,M+1,hi,hk,h,_=>by
  rw [qO (r:= .inr (qEr p)) (by exact qR (decide_eq_false (show ¬i≤10 by omega)) rfl)]
  rfl
 |k+1,i,M+1,hi,hk,h,hc=>by
  unfold qEp at hc⊢
  by_cases hq:(fnS i).toList=w
  ·rw [if_pos hq] at hc⊢
   refine qO (qN (decide_eq_true (show i≤10 by omega)) (qA (h1 i ⟨hi,by omega⟩) (qN (by simp [qA5,hq]) (qA (hc i rfl) rfl))))
  ·rw [if_neg hq] at hc⊢
   have w1:IntKind.i64.wrap (i+1)=i+1:=qZ (by omega)
   have hq':¬w=(fnS i).toList:=fun e=>hq e.symm
   rw [qa (v':=(deep,BR w,i+1,BR p.1,p.2.2.length,p.2.1,p.2.2.map qb)) (by refine qN (decide_eq_true (show i≤10 by omega)) (qA (h1 i ⟨hi,by omega⟩) (qR (by simp [qA5,hq']) ?_));rw [qC,w1])]
   exact qPM deep w p res h1 k (i+1) M (by omega) (by omega) (by omega) hc
theorem qQ9:∃n0,∀n,n0≤n→∀i,1≤i∧i≤10→qBw n i=some (fnS i):=by
 obtain ⟨n1,h1⟩:=qCN (F:=fun (i:Nat) n=>qBw n ((i:Int)+1)) (f:=fun i=>fnS ((i:Int)+1)) (List.range 10) (fun i hi=>qIH _ (by have:=List.mem_range.1 hi;omega))
 refine ⟨n1,fun n hn i hi=>?_⟩
 have:=h1 n hn (i-1).toNat (List.mem_range.2 (by omega))
 rwa [show (((i-1).toNat:Nat):Int)+1=i by omega] at this
theorem qRA:∃n0,∀n,n0≤n→∀i,1≤i∧i≤11→qBI n i=some (qk i):=by
 obtain ⟨n1,h1⟩:=qCN (F:=fun (i:Nat) n=>qBI n ((i:Int)+1)) (f:=fun i=>qk ((i:Int)+1)) (List.range 11) (fun i hi=>qFf _ (by have:=List.mem_range.1 hi;omega))
 refine ⟨n1,fun n hn i hi=>?_⟩
 have:=h1 n hn (i-1).toNat (List.mem_range.2 (by omega))
 rwa [show (((i-1).toNat:Nat):Int)+1=i by omega] at this
def opF (s:List UInt8):Int→Int→Nat→Int
 |op,_,0=>op
 |op,i,k+1=>opF s (if s=(qk i).toList then i else op) (i+1) k
theorem qRB (r:List UInt8):opF (sgn r) 0 1 11=qAI r:=by
 unfold qAI
 generalize sgn r=s
 by_cases h1:s= [43]; · subst h1;decide+kernel
 by_cases h2:s= [45]; · subst h2;decide+kernel
 by_cases h3:s= [42]; · subst h3;decide+kernel
 by_cases h4:s= [47]; · subst h4;decide+kernel
 by_cases h5:s= [38]; · subst h5;decide+kernel
 by_cases h6:s= [61]; · subst h6;decide+kernel
 by_cases h7:s= [60,62]; · subst h7;decide+kernel
 by_cases h8:s= [60]; · subst h8;decide+kernel
 by_cases h9:s= [60,61]; · subst h9;decide+kernel
 by_cases h10:s= [62]; · subst h10;decide+kernel
 by_cases h11:s= [62,61]; · subst h11;decide+kernel
 rw [if_neg h1,if_neg h2,if_neg h3,if_neg h4,if_neg h5,if_neg h6,if_neg h7,if_neg h8,if_neg h9,if_neg h10,if_neg h11]
 rw [←sg1] at h1;rw [←sg2] at h2;rw [←sg3] at h3;rw [←sg4] at h4;rw [←sg5] at h5;rw [←sg6] at h6;rw [←sg7] at h7;rw [←sg8] at h8;rw [←sg9] at h9;rw [←qOt] at h10;rw [←qOu] at h11
 simp only [opF,if_neg h1]
 simp only [show (1:Int)+1=2 from rfl,if_neg h2,show (2:Int)+1=3 from rfl,if_neg h3,show (3:Int)+1=4 from rfl,if_neg h4,show (4:Int)+1=5 from rfl,if_neg h5,show (5:Int)+1=6 from rfl,if_neg h6,show (6:Int)+1=7 from rfl,if_neg h7,show (7:Int)+1=8 from rfl,if_neg h8,show (8:Int)+1=9 from rfl,if_neg h9,show (9:Int)+1=10 from rfl,if_neg h10,show (10:Int)+1=11 from rfl,if_neg h11]
theorem qOa {n:Nat} (least deep a op i:Int) (r R:List UInt8) (m:Nat) (b:Bool) (rows:List (List PV)) (hi:1≤i∧i≤11)
  (h1:qBU n (BR r) m b rows=some (BR (sgn R),BR R,m,b,rows)) (h2:qBI n i=some (qk i)):
  (qA7 n (least,deep,a,op,i,BR r,m,b,rows)).run=some (.inl (least,deep,a,if sgn R=(qk i).toList then i else op,i+1,BR R,m,b,rows)):=by
 have w1:IntKind.i64.wrap (i+1)=i+1:=qZ (by omega)
 refine qN (decide_eq_true (show i≤11 by omega)) (qA h1 (qA h2 ?_))
 by_cases hq:sgn R=(qk i).toList
 ·rw [if_pos hq]
  exact qN (by simp [qA5,hq]) (by rw [qC,w1])
 ·rw [if_neg hq]
  exact qR (by simp [qA5,hq]) (by rw [qC,w1])
theorem qOb {n:Nat} (least deep a:Int) (R:List UInt8) (m:Nat) (b:Bool) (rows:List (List PV))
  (h1:qBU n (BR R) m b rows=some (BR (sgn R),BR R,m,b,rows)) (h2:∀i,1≤i∧i≤11→qBI n i=some (qk i)):
  ∀(k:Nat) (op i:Int) (M:Nat),1≤i→i+k=12→k+1≤M→zD (qA7 n) M (least,deep,a,op,i,BR R,m,b,rows)=some (least,deep,a,opF (sgn R) op i k,BR R,m,b,rows)
 |k,op,i,0,_,_,h=>by omega
 |0,op,i,M+1,hi,hk,h=>by
  rw [qO (r:=(least,deep,a,op,BR R,m,b,rows)) (by exact qR (decide_eq_false (show ¬i≤11 by omega)) rfl)]
  rfl
 |k+1,op,i,M+1,hi,hk,h=>by
  rw [qa (qOa least deep a op i R R m b rows ⟨hi,by omega⟩ h1 (h2 i ⟨hi,by omega⟩))]
  exact qOb least deep a R m b rows h1 h2 k _ (i+1) M (by omega) (by omega) (by omega)
theorem qQn (least deep a:Int) (r:List UInt8) (m:Nat) (b:Bool) (rows:List (List PV)):∃n0,∀n,n0≤n→∀M,n0≤M→zD (qA7 n) M (least,deep,a,0,1,BR r,m,b,rows)=some (least,deep,a,qAI (tb r),BR (tb r),m,b,rows):=by
 obtain ⟨n1,h1⟩:=qLD r m b rows
 obtain ⟨n2,h2⟩:=qLD (tb r) m b rows
 obtain ⟨n3,h3⟩:=qRA
 refine ⟨n1+n2+n3+20,fun n hn M hM=>?_⟩
 obtain ⟨M,rfl,hM⟩:=up1 hM
 have h2:=h2 n (by omega)
 rw [qCB] at h2
 rw [qa (qOa least deep a 0 1 r (tb r) m b rows (by omega) (h1 n (by omega)) (h3 n (by omega) 1 (by omega)))]
 rw [show (1:Int)+1=2 from rfl,qOb least deep a (tb r) m b rows h2 (h3 n (by omega)) 10 _ 2 M (by omega) (by omega) (by omega),←qRB]
 rfl
theorem qPN {p:PS} (h:Gd p):Gd (qAr p).2∧(qAr p).2.1.length≤p.1.length∧∀x,(qAr p).1=some x→qM1 x:=by
 have h1:=qr p.1
 have h2:=qFg (tb p.1)
 have h0:=h.r
 unfold qAr
 simp only
 split
 ·have h3:=qHB [58] (wr (tb p.1),p.2)
  have h4:=qr (qW [58] (wr (tb p.1),p.2)).2.1
  have h5:=qFg (tb (qW [58] (wr (tb p.1),p.2)).2.1)
  have h6:=qr (wr (tb p.1))
  have e:(qW [58] (wr (tb p.1),p.2)).2.2.2=p.2.2:=by unfold qW;split<;>rfl
  simp only at h3
  refine ⟨⟨by simp only;omega,by rw [e];exact h.n,by rw [e];exact h.s⟩,by simp only;omega,fun x hx=>?_⟩
  cases hx
  exact ⟨by simp [kd,ndA],by simp [ndA,em];decide⟩
 ·exact ⟨h,Nat.le_refl _,fun x hx=>by cases hx⟩
theorem qQo (p:PS) (h:p.1.length≤1000):∃x:Nd,(∀y,(qAr p).1=some y→x=y)∧Ev (qCq · (BR p.1) p.2.2.length p.2.1 (p.2.2.map qb)) (x.1,x.2.1,x.2.2.1,x.2.2.2.1,x.2.2.2.2.1,x.2.2.2.2.2.1,x.2.2.2.2.2.2.1,x.2.2.2.2.2.2.2.1,x.2.2.2.2.2.2.2.2.1,x.2.2.2.2.2.2.2.2.2.1,x.2.2.2.2.2.2.2.2.2.2.1,x.2.2.2.2.2.2.2.2.2.2.2.1,x.2.2.2.2.2.2.2.2.2.2.2.2.1,(kd x).map qA9,(qAr p).1.isSome,qEr (qAr p).2):=by
 have l1:=qr p.1
 have l2:=qFg (tb p.1)
 have l3:=qHB [58] (wr (tb p.1),p.2)
 have l6:=qr (wr (tb p.1))
 simp only at l3
 obtain ⟨n1,h1⟩:=qNw p h
 obtain ⟨n2,h2⟩:=qP7 p.1 h
 obtain ⟨n3,h3⟩:=qFB [58] (wr (tb p.1),p.2)
 have hle:(qW [58] (wr (tb p.1),p.2)).2.1.length≤1000:=by omega
 obtain ⟨n4,h4⟩:=qNw (qW [58] (wr (tb p.1),p.2)).2 hle
 obtain ⟨n5,h5⟩:=qP7 (qW [58] (wr (tb p.1),p.2)).2.1 hle
 have e:(qW [58] (wr (tb p.1),p.2)).2.2=p.2:=by unfold qW;split<;>rfl
 unfold qAr
 simp only
 by_cases hc:(qAa (BR (wd (tb p.1)))).2.2.2.2=true∧(qW [58] (wr (tb p.1),p.2)).1=true
 ·rw [if_pos hc]
  refine ⟨_,fun y hy=>by cases hy;rfl,n1+n2+n3+n4+n5+1,fun n hn=>?_⟩
  obtain ⟨k,rfl,hm⟩:=up1 hn
  refine qA (h1 k (by omega)) (qA (h2 k (by omega)) (qN hc.1 (qA (h3 k (by omega)) (qR (by simp only;rw [hc.2];rfl) (qA (h4 k (by omega)) (qA (h5 k (by omega)) ?_))))))
  cases hb:(qW [58] (wr (tb p.1),p.2)).2.2.1 with
  |true=>
   refine qN hb ?_
   rw [qC];rfl
  |false=>
   refine qR hb ?_
   rw [qC];rfl
 ·rw [if_neg hc]
  refine ⟨(0,0,0,0,⟨#[]⟩,0,0,false,false,0,0,false,false,[]),fun y hy=>(by cases hy),n1+n2+n3+1,fun n hn=>?_⟩
  obtain ⟨k,rfl,hm⟩:=up1 hn
  cases hr:(qAa (BR (wd (tb p.1)))).2.2.2.2 with
  |false=>exact qA (h1 k (by omega)) (qA (h2 k (by omega)) (qR hr rfl))
  |true=>
   have ht:(qW [58] (wr (tb p.1),p.2)).1=false:=by
    rw [Bool.eq_false_iff];exact fun e=>hc ⟨hr,e⟩
   refine qA (h1 k (by omega)) (qA (h2 k (by omega)) (qN hr (qA (h3 k (by omega)) (qN (by simp only;rw [ht];rfl) ?_))))
   rw [qC]
   simp only [qEr,e]
   rfl
theorem qIL {s:ByteArray} (h:(qf s).2.2.2=true) (hk:(qf s).1=1∨(qf s).1=3):(qf s).2.2.1.size≤2000:=by
 unfold qf at h hk⊢
 split at h
 ·rename_i hc
  rw [if_pos hc] at hk⊢
  have h1:=hc.1
  unfold okV at h1
  have h2:¬(qAe s).1=2:=by
   simp only at hk
   omega
  rw [if_neg h2] at h1
  simp only [Bool.and_eq_true,beq_iff_eq] at h1
  have:=congrArg List.length h1.1
  rw [qAg] at this
  have h0:(qAe s).2.2.size=0:=this
  show (qAe s).2.2.size≤2000
  omega
 ·cases h
def Kj:PJ→PS→Prop
 | .args _ _ kids,p=>kids.length+p.1.length≤1500
 |_,_=>True
theorem qIW {w:List UInt8} {p:PS} (h:Gd p):Gd (qBs w p)∧(qBs w p).1.length≤p.1.length:=by
 have h1:=qHB w p
 have h2:=qr p.1
 unfold qBs
 split
 ·exact ⟨h,Nat.le_refl _⟩
 ·split
  ·exact ⟨qCR h,by omega⟩
  ·exact ⟨⟨(qCR h).r,(qCR h).n,(qCR h).s⟩,by show (qW w p).2.1.length≤_;omega⟩
theorem qKK {p:PS} {r:List UInt8} (h:Gd p) (hr:r.length≤p.1.length):Gd (r,p.2):=⟨by have:=h.r;simp only;omega,h.n,h.s⟩
theorem qEL:∀(f:Nat) (j:PJ) (p:PS),Gd p→Kj j p→Gd (pP f j p).2∧(pP f j p).2.1.length≤p.1.length
 |0,j,p,h,_=>⟨h,Nat.le_refl _⟩
 |f+1,.bin least deep,p,h,_=>by
  unfold pP
  have a:=qEL f (.un deep) p h trivial
  have b:=qEL f (.loop least deep (pP f (.un deep) p).1) (pP f (.un deep) p).2 a.1 trivial
  exact ⟨b.1,Nat.le_trans b.2 a.2⟩
 |f+1,.loop least deep a,p,h,_=>by
  have h1:=qr p.1
  unfold pP
  split
  ·exact ⟨h,Nat.le_refl _⟩
  ·split
   ·exact ⟨qKK h h1,h1⟩
   ·have l1:((tb p.1).drop (sgn (tb p.1)).length).length≤p.1.length:=by simp;omega
    have b:=qEL f (.bin (lvl (qAI (tb p.1))+1) deep) ((tb p.1).drop (sgn (tb p.1)).length,p.2) (qKK h l1) trivial
    simp only
    have c:=qFi (x:=ndK 5 (qAI (tb p.1)) [a,(pP f (.bin (lvl (qAI (tb p.1))+1) deep) ((tb p.1).drop (sgn (tb p.1)).length,p.2)).1]) b.1 ⟨by simp [kd,ndK],by simp [ndK,em];decide⟩
    have d:=qEL f (.loop least deep (qCk (ndK 5 (qAI (tb p.1)) [a,(pP f (.bin (lvl (qAI (tb p.1))+1) deep) ((tb p.1).drop (sgn (tb p.1)).length,p.2)).1]) (pP f (.bin (lvl (qAI (tb p.1))+1) deep) ((tb p.1).drop (sgn (tb p.1)).length,p.2)).2).1) _ c trivial
    refine ⟨d.1,Nat.le_trans d.2 ?_⟩
    rw [qAu]
    exact Nat.le_trans b.2 l1
 |f+1,.un deep,p,h,_=>by
  have h1:=qr p.1
  have h2:=qHB [45] p
  unfold pP
  split
  ·exact ⟨⟨h.r,h.n,h.s⟩,Nat.le_refl _⟩
  ·split
   ·simp only
    have b:=qEL f (.un (deep+1)) (qW [45] p).2 (qCR h) trivial
    refine ⟨qFi b.1 ⟨by simp [kd,ndK],by simp [ndK,em];decide⟩,?_⟩
    rw [qAu]
    exact Nat.le_trans b.2 (by omega)
   ·have b:=qEL f (.at deep) (qW [45] p).2 (qCR h) trivial
    exact ⟨b.1,Nat.le_trans b.2 (by omega)⟩
 |f+1,.at deep,p,h,_=>by
  have h1:=qr p.1
  have h2:=qHB [40] p
  have h3:=qFg (tb p.1)
  have h4:=h.r
  have g2:Gd (wr (tb p.1),p.2):=qKK h (by omega)
  unfold pP
  simp only
  split
  ·split
   ·exact ⟨⟨by simp only;omega,h.n,h.s⟩,h1⟩
   ·rename_i hh _ s t hq
    have a:=qIU _ _ hq
    have b:=qFj _ _ _ (Nat.le_refl _) hq
    simp only [List.length_tail,List.length_nil] at a b
    refine ⟨qFi (qKK h (by omega)) ⟨by simp [kd,nd1],by simp only [nd1,qj];omega⟩,?_⟩
    rw [qAu];simp only;omega
  ·split
   ·refine ⟨qFi (qKK h (by simp;omega)) ⟨by simp [kd,nd1],by simp [nd1,em];decide⟩,?_⟩
    rw [qAu];simp;omega
   ·split
    ·have b:=qEL f (.bin 1 (deep+1)) (qW [40] p).2 (qCR h) trivial
     have c:=qIW (w:= [41]) b.1
     exact ⟨c.1,Nat.le_trans c.2 (Nat.le_trans b.2 (by omega))⟩
    ·split
     ·rename_i hv
      refine ⟨qFi g2 ⟨by simp [kd,nd1],qIL hv.1 hv.2⟩,?_⟩
      rw [qAu];simp only;omega
     ·split
      ·refine ⟨qFi g2 ⟨by simp [kd,ndC],by simp [ndC,em];decide⟩,?_⟩
       rw [qAu];simp only;omega
      ·split
       ·rename_i op _
        have b:=qEL f (.call op deep) (wr (tb p.1),p.2) g2 trivial
        exact ⟨b.1,Nat.le_trans b.2 (by simp only;omega)⟩
       ·exact ⟨⟨g2.r,g2.n,g2.s⟩,by show (wr (tb p.1)).length≤_;omega⟩
 |f+1,.call op deep,p,h,_=>by
  unfold pP
  have a:=qIW (w:= [40]) h
  have b:=qEL f (.args op deep []) (qBs [40] p) a.1 (by have:=a.1.r;show 0+_≤_;omega)
  exact ⟨b.1,Nat.le_trans b.2 a.2⟩
 |f+1,.args op deep kids,p,h,hk=>by
  replace hk:kids.length+p.1.length≤1500:=hk
  unfold pP
  split
  ·refine ⟨qFi h ⟨by simp [kd,ndK];omega,by simp [ndK,em];decide⟩,?_⟩
   rw [qAu];exact Nat.le_refl _
  ·simp only
   have a:=qPN h
   have qg:Gd (qDF (qAr p) (fun p=>pP f (.bin 1 (deep+1)) p)).2∧(qDF (qAr p) (fun p=>pP f (.bin 1 (deep+1)) p)).2.1.length≤p.1.length:=by
    unfold qDF
    split
    ·rename_i x hx
     refine ⟨qFi a.1 (a.2.2 x hx),?_⟩
     rw [qAu];exact a.2.1
    ·have b:=qEL f (.bin 1 (deep+1)) (qAr p).2 a.1 trivial
     exact ⟨b.1,Nat.le_trans b.2 a.2.1⟩
   generalize qDF (qAr p) (fun p=>pP f (.bin 1 (deep+1)) p)=q at qg⊢
   have t0:=qg.2
   have t1:=qr q.2.1
   have t2:=qHB [44] q.2
   split
   ·rename_i ht
    have t3:=qDG (by simp) ht
    have b:=qEL f (.args op deep (kids++ [q.1])) (qW [44] q.2).2 (qCR qg.1) (by show (kids++ [q.1]).length+_≤_;simp;omega)
    exact ⟨b.1,Nat.le_trans b.2 (by omega)⟩
   ·have c:=qIW (w:= [41]) (qCR (w:= [44]) qg.1)
    refine ⟨qFi c.1 ⟨by simp [kd,ndK];omega,by simp [ndK,em];decide⟩,?_⟩
    rw [qAu]
    exact Nat.le_trans c.2 (by omega)
def Ad (f:Nat):PJ→PS→Prop
 | .bin _ _,p=>20*(tb p.1).length+6≤f
 | .loop _ _ _,p=>20*(tb p.1).length+5≤f
 | .un _,p=>20*(tb p.1).length+4≤f
 | .at _,p=>20*(tb p.1).length+3≤f∧p.2.1=false
 | .call _ _,p=>20*(tb p.1).length+9≤f
 | .args _ _ _,p=>20*(tb p.1).length+8≤f
def Jd:PJ→Prop
 | .bin _ d=>0≤d∧d≤401
 | .loop _ d _=>0≤d∧d≤401
 | .un d=>0≤d∧d≤401
 | .at d=>0≤d∧d≤400
 | .call _ d=>0≤d∧d≤400
 | .args _ d _=>0≤d∧d≤400
def Wk:PJ→PS→Int×PS→Prop
 | .bin least deep,p,r=>Ev (qCJ · least deep (BR p.1) p.2.2.length p.2.1 (p.2.2.map qb)) (qFm r)
 | .loop least deep a,p,r=>∃n0,∀n,n0≤n→∀M,n0≤M→zD (qCc (qT n) n) M (least,deep,a,qEr p)=some (qFm r)
 | .un deep,p,r=>Ev (qE3 · deep (BR p.1) p.2.2.length p.2.1 (p.2.2.map qb)) (qFm r)
 | .at deep,p,r=>Ev (qFP · deep (BR p.1) p.2.2.length p.2.1 (p.2.2.map qb)) (qFm r)
 | .call op deep,p,r=>Ev (qB4 · op deep (BR p.1) p.2.2.length p.2.1 (p.2.2.map qb)) (qFm r)
 | .args op deep kids,p,r=>∃(ks:List Int) (p':PS),r=qCk (ndK 6 op ks) p'∧Gd p'∧ks.length≤1501∧∃n0,∀n,n0≤n→∀M,n0≤M→
   zD (qB9 (qT n) n) M (op,deep,kids.length,kids.map qA9,qEr p)=some (op,ks.length,ks.map qA9,qEr p')
theorem qKL (w:List UInt8) {p:PS} (h:p.2.1=false):(BR (qW w p).2.1,(qW w p).2.2.2.length,!(qW w p).1,(qW w p).2.2.2.map qb)=qEr (qBs w p):=by
 have e:(qW w p).2.2=p.2:=by unfold qW;split<;>rfl
 unfold qBs
 rw [if_neg (by rw [h];simp)]
 cases hc:(qW w p).1 with
 |true=>rw [if_pos rfl];simp only [qEr,e,h];rfl
 |false=>rw [if_neg (by simp)];rfl
theorem qNy {r w:List UInt8} (hw:w≠ []) (h:w<+:r):(tb (r.drop w.length)).length<r.length:=by
 have h1:=qr (r.drop w.length)
 have h2:=h.length_le
 have h3:0<w.length:=List.length_pos_iff.2 hw
 simp only [List.length_drop] at h1
 omega
theorem qRY {r:List UInt8} (h:qAI r≠0):1≤qAI r∧qAI r≤11∧sgn r=(qk (qAI r)).toList∧sgn r≠ []:=by
 rcases qPJ r with e|⟨a,b,c⟩
 ·exact absurd e h
 ·refine ⟨a,b,c,fun e=>h ?_⟩
  unfold qAI;rw [e];decide
def qKM (f:Nat) (deep:Int) (w:List UInt8) (p2:PS):Int×PS:=
 if (qf (BR w)).2.2.2=true∧((qf (BR w)).1=1∨(qf (BR w)).1=3) then qCk (nd1 ((qf (BR w)).1,(qf (BR w)).2.1,(qf (BR w)).2.2.1)) p2
 else if (qAa (BR w)).2.2.2.2=true then qCk (ndC (qAa (BR w))) p2
 else match qEp w 1 10 with
 |some op=>pP f (.call op deep) p2
 |none=>(-1,qOs p2)
def qOx (g:G_impl_reader_binary) (n:Nat) (deep:Int) (w:ByteArray) (c:ByteArray×Nat×Bool×List (List PV)):Tr (Int×ByteArray×Nat×Bool×List (List PV)):=
 (.opt (qAO n w) fun r=>(.ask r.2.2.2.2
  (.opt (qm n 2 0 0 0 ⟨#[]⟩ r.1 r.2.1 r.2.2.1 r.2.2.2.1 0 0 false false [] c.1 c.2.1 c.2.2.1 c.2.2.2) fun s=> .done (s.1,s.2.1,s.2.2.1,s.2.2.2.1,s.2.2.2.2))
  (.opt (zD (qAS g n) n (deep,w,1,c.1,c.2.1,c.2.2.1,c.2.2.2)) fun s=>(.alt s (fun t=> .done (t.1,t.2.1,t.2.2.1,t.2.2.2.1,t.2.2.2.2)) (fun t=> .done (-1,t.1,t.2.1,true,t.2.2.2))))))
def qQy (g:G_impl_reader_binary) (n:Nat) (deep:Int) (w:ByteArray) (c:ByteArray×Nat×Bool×List (List PV)):Tr (Int×ByteArray×Nat×Bool×List (List PV)):=
 (.opt (qw n w) fun r=>(.ask r.2.2.2
  (.ask (r.1==1) (.opt (qh n r.1 r.2.1 r.2.2.1 c.1 c.2.1 c.2.2.1 c.2.2.2) fun s=> .done (s.1,s.2.1,s.2.2.1,s.2.2.2.1,s.2.2.2.2))
   (.ask (r.1==3) (.opt (qh n r.1 r.2.1 r.2.2.1 c.1 c.2.1 c.2.2.1 c.2.2.2) fun s=> .done (s.1,s.2.1,s.2.2.1,s.2.2.2.1,s.2.2.2.2))
    (qOx g n deep w c)))
  (qOx g n deep w c)))
theorem qPh (f:Nat) (deep:Int) (r:List UInt8) (p2:PS) (hr:r.length≤1000) (hp:p2.2.2.length≤60) (hc:∀op,qEp (wd (tb r)) 1 10=some op→Ev (qB4 · op deep (BR p2.1) p2.2.2.length p2.2.1 (p2.2.2.map qb)) (qFm (pP f (.call op deep) p2))):
  ∃n0,∀n,n0≤n→(qOx (qT n) n deep (BR (wd (tb r))) (qEr p2)).run=some (qFm (if (qAa (BR (wd (tb r)))).2.2.2.2=true then qCk (ndC (qAa (BR (wd (tb r))))) p2 else match qEp (wd (tb r)) 1 10 with
   |some op=>pP f (.call op deep) p2
   |none=>(-1,qOs p2))):=by
 obtain ⟨n1,h1⟩:=qP7 r hr
 obtain ⟨n2,h2⟩:=qLE (ndC (qAa (BR (wd (tb r))))) p2 hp
 obtain ⟨n3,h3⟩:=qQ9
 obtain ⟨n4,h4⟩:∃n4,∀n,n4≤n→∀op,qEp (wd (tb r)) 1 10=some op→qB4 n op deep (BR p2.1) p2.2.2.length p2.2.1 (p2.2.2.map qb)=some (qFm (pP f (.call op deep) p2)):=by
  cases hf:qEp (wd (tb r)) 1 10 with
  |none=>exact ⟨0,fun n _ op h=>by cases h⟩
  |some op=>obtain ⟨n4,h4⟩:=hc op hf;exact ⟨n4,fun n hn op' h=>by cases h;exact h4 n hn⟩
 refine ⟨n1+n2+n3+n4+12,fun n hn=>?_⟩
 have lp:=qPM (g:=qT n) deep (wd (tb r)) p2 (fun op=>pP f (.call op deep) p2) (h3 n (by omega)) 10 1 n (by omega) (by omega) (by omega) (h4 n (by omega))
 cases hb:(qAa (BR (wd (tb r)))).2.2.2.2 with
 |true=>
  rw [if_pos rfl]
  exact qA (h1 n (by omega)) (qN hb (qA (h2 n (by omega)) rfl))
 |false=>
  rw [if_neg (by simp)]
  refine qA (h1 n (by omega)) (qR hb (qA lp ?_))
  cases qEp (wd (tb r)) 1 10<;>rfl
theorem qP8 (f:Nat) (deep:Int) (r:List UInt8) (p2:PS) (hr:r.length≤1000) (hp:p2.2.2.length≤60) (hc:∀op,qEp (wd (tb r)) 1 10=some op→Ev (qB4 · op deep (BR p2.1) p2.2.2.length p2.2.1 (p2.2.2.map qb)) (qFm (pP f (.call op deep) p2))):
  ∃n0,∀n,n0≤n→(qQy (qT n) n deep (BR (wd (tb r))) (qEr p2)).run=some (qFm (qKM f deep (wd (tb r)) p2)):=by
 obtain ⟨n1,h1⟩:=qRX r hr
 obtain ⟨n2,h2⟩:=qIK ((qf (BR (wd (tb r)))).1,(qf (BR (wd (tb r)))).2.1,(qf (BR (wd (tb r)))).2.2.1) p2 hp
 obtain ⟨n3,h3⟩:=qPh f deep r p2 hr hp hc
 refine ⟨n1+n2+n3,fun n hn=>?_⟩
 have h2:=h2 n (by omega)
 have h3:=h3 n (by omega)
 unfold qKM
 refine qA (h1 n (by omega)) ?_
 by_cases ho:(qf (BR (wd (tb r)))).2.2.2=true
 ·refine qN ho ?_
  by_cases k1:(qf (BR (wd (tb r)))).1=1
  ·rw [if_pos ⟨ho,.inl k1⟩]
   exact qN (by rw [k1];rfl) (qA h2 rfl)
  ·refine qR (beq_eq_false_iff_ne.2 k1) ?_
   by_cases k3:(qf (BR (wd (tb r)))).1=3
   ·rw [if_pos ⟨ho,.inr k3⟩]
    exact qN (by rw [k3];rfl) (qA h2 rfl)
   ·rw [if_neg (fun h=>h.2.elim k1 k3)]
    exact qR (beq_eq_false_iff_ne.2 k3) h3
 ·rw [if_neg (fun h=>ho h.1)]
  exact qR (by rw [Bool.eq_false_iff];exact ho) h3
theorem qRZ (w:List UInt8) (p:PS):qW w (tb p.1,p.2)=qW w p:=by unfold qW;simp only [qCB]
theorem qLF {c:UInt8} {r:List UInt8} (h:r.head?=some c):∃t,r=c::t:=by
 cases r with
 |nil=>cases h
 |cons d t=>simp at h;subst h;exact ⟨t,rfl⟩
theorem qEU:∀(f:Nat) (j:PJ) (p:PS),Ad f j p→Jd j→Gd p→Kj j p→Wk j p (pP f j p)
 |0,j,p,ha,_,_,_=>by cases j<;>simp [Ad] at ha
 |f+1,.bin least deep,p,ha,hj,hg,_=>by
  replace ha:20*(tb p.1).length+6≤f+1:=ha
  obtain ⟨n1,h1⟩:=qEU f (.un deep) p (by show 20*_+4≤f;omega) hj hg trivial
  have hl:=qDH f (.un deep) p
  obtain ⟨n2,h2⟩:=qEU f (.loop least deep (pP f (.un deep) p).1) (pP f (.un deep) p).2 (by show 20*_+5≤f;omega) hj (qEL f (.un deep) p hg trivial).1 trivial
  refine ⟨n1+n2+1,fun n hn=>?_⟩
  obtain ⟨k,rfl,hm⟩:=up1 hn
  exact qA (h1 k (by omega)) (qA (h2 k (by omega) k (by omega)) rfl)
 |f+1,.loop least deep a,(r,b,l),ha,hj,hg,_=>by
  replace ha:20*(tb r).length+5≤f+1:=ha
  have hn60:l.length≤60:=hg.n
  have hr1:r.length≤1000:=hg.r
  have ht:=qr r
  unfold pP
  cases b with
  |true=>
   rw [if_pos rfl]
   refine ⟨1,fun n hn M hM=>?_⟩
   obtain ⟨M,rfl,hM⟩:=up1 hM
   exact qO (qR rfl rfl)
  |false=>
   rw [if_neg (by simp)]
   simp only
   obtain ⟨n1,h1⟩:=qQn least deep a r l.length false (l.map qb)
   by_cases h0:qAI (tb r)=0
   ·rw [if_pos (.inl h0)]
    refine ⟨n1+1,fun n hn M hM=>?_⟩
    obtain ⟨M,rfl,hM⟩:=up1 hM
    exact qO (qN rfl (qA (h1 n (by omega) n (by omega)) (qN (by simp only;rw [h0];rfl) rfl)))
   ·obtain ⟨o1,o2,o3,o4⟩:=qRY h0
    obtain ⟨n2,h2⟩:=qI4 (qAI (tb r)) ⟨o1,o2⟩
    by_cases hl:lvl (qAI (tb r))<least
    ·rw [if_pos (.inr hl)]
     refine ⟨n1+n2+1,fun n hn M hM=>?_⟩
     obtain ⟨M,rfl,hM⟩:=up1 hM
     exact qO (qN rfl (qA (h1 n (by omega) n (by omega)) (qR (beq_eq_false_iff_ne.2 h0) (qA (h2 n (by omega)) (qN (decide_eq_true hl) rfl)))))
    ·rw [if_neg (fun h=>h.elim h0 hl)]
     have lv:=qNv (op:=qAI (tb r))
     have hlt:=qNy o4 (qPK (tb r))
     have hp1:Gd ((tb r).drop (sgn (tb r)).length,false,l):=⟨by simp;omega,hn60,hg.s⟩
     obtain ⟨n3,h3⟩:=qFf (qAI (tb r)) ⟨o1,o2⟩
     obtain ⟨n4,h4⟩:=qNP (qk (qAI (tb r))).toList (tb r) l.length false (l.map qb)
     obtain ⟨n5,h5⟩:=qEU f (.bin (lvl (qAI (tb r))+1) deep) ((tb r).drop (sgn (tb r)).length,false,l) (by show 20*_+6≤f;simp only;omega) hj hp1 trivial
     have g5:=qEL f (.bin (lvl (qAI (tb r))+1) deep) ((tb r).drop (sgn (tb r)).length,false,l) hp1 trivial
     have l5:=qDH f (.bin (lvl (qAI (tb r))+1) deep) ((tb r).drop (sgn (tb r)).length,false,l)
     simp only at l5
     generalize pP f (.bin (lvl (qAI (tb r))+1) deep) ((tb r).drop (sgn (tb r)).length,false,l)=q at h5 g5 l5⊢
     obtain ⟨n6,h6⟩:=qLE (ndK 5 (qAI (tb r)) [a,q.1]) q.2 g5.1.n
     have g6:=qFi (x:=ndK 5 (qAI (tb r)) [a,q.1]) g5.1 ⟨by simp [kd,ndK],by simp [ndK,em];decide⟩
     have e6:=qAu (ndK 5 (qAI (tb r)) [a,q.1]) q.2
     generalize qCk (ndK 5 (qAI (tb r)) [a,q.1]) q.2=c at h6 g6 e6⊢
     obtain ⟨n7,h7⟩:=qEU f (.loop least deep c.1) c.2 (by show 20*(tb c.2.1).length+5≤f;rw [e6];omega) hj g6 trivial
     refine ⟨n1+n2+n3+n4+n5+n6+n7+1,fun n hn M hM=>?_⟩
     obtain ⟨M,rfl,hM⟩:=up1 hM
     have w1:IntKind.i64.wrap (lvl (qAI (tb r))+1)=lvl (qAI (tb r))+1:=qZ (by omega)
     have h3:=h3 n (by omega)
     have h4:=h4 n (by omega)
     have h5:=h5 n (by omega)
     rw [qFh,qCB,←o3,if_pos rfl] at h4
     rw [←w1] at h5
     rw [qa (v':=(least,deep,c.1,qEr c.2)) (by
      exact qN rfl (qA (h1 n (by omega) n (by omega)) (qR (beq_eq_false_iff_ne.2 h0) (qA (h2 n (by omega)) (qR (decide_eq_false hl) (qA h3 (qA h4 (qA (h2 n (by omega)) (qA h5 (qN rfl (qA (h6 n (by omega)) rfl)))))))))))]
     exact h7 n (by omega) M (by omega)
 |f+1,.un deep,p,ha,hj,hg,_=>by
  replace ha:20*(tb p.1).length+4≤f+1:=ha
  replace hj:0≤deep∧deep≤401:=hj
  unfold pP
  by_cases hd:deep>400
  ·rw [if_pos (.inl hd)]
   refine ⟨1,fun n hn=>?_⟩
   obtain ⟨k,rfl,hm⟩:=up1 hn
   exact qN (decide_eq_true hd) (qN rfl rfl)
  ·cases hb:p.2.1 with
   |true=>
    rw [if_pos (.inr rfl)]
    refine ⟨1,fun n hn=>?_⟩
    obtain ⟨k,rfl,hm⟩:=up1 hn
    refine qR (decide_eq_false hd) (qN hb ?_)
    rw [qC,hb];rfl
   |false=>
    rw [if_neg (fun h=>h.elim hd (by simp))]
    obtain ⟨n1,h1⟩:=qFB [45] p
    have t1:=qDP [45] p
    cases hc:(qW [45] p).1 with
    |true=>
     rw [if_pos rfl]
     simp only
     have t2:=qDG (by simp) hc
     have t3:=qr (qW [45] p).2.1
     obtain ⟨n2,h2⟩:=qEU f (.un (deep+1)) (qW [45] p).2 (by show 20*_+4≤f;omega) (by show 0≤deep+1∧deep+1≤401;omega) (qCR hg) trivial
     have g2:=qEL f (.un (deep+1)) (qW [45] p).2 (qCR hg) trivial
     generalize pP f (.un (deep+1)) (qW [45] p).2=q at h2 g2⊢
     obtain ⟨n3,h3⟩:=qLE (ndK 4 0 [q.1]) q.2 g2.1.n
     refine ⟨n1+n2+n3+1,fun n hn=>?_⟩
     obtain ⟨k,rfl,hm⟩:=up1 hn
     have w1:IntKind.i64.wrap (deep+1)=deep+1:=qZ (by omega)
     have h2:=h2 k (by omega)
     rw [←w1] at h2
     exact qR (decide_eq_false hd) (qR hb (qA (h1 k (by omega)) (qN hc (qA h2 (qN rfl (qA (h3 k (by omega)) rfl))))))
    |false=>
     rw [if_neg (by simp)]
     have e:(qW [45] p).2.2=p.2:=by unfold qW;split<;>rfl
     obtain ⟨n2,h2⟩:=qEU f (.at deep) (qW [45] p).2 ⟨by omega,by rw [e];exact hb⟩ (by show 0≤deep∧deep≤400;omega) (qCR hg) trivial
     refine ⟨n1+n2+1,fun n hn=>?_⟩
     obtain ⟨k,rfl,hm⟩:=up1 hn
     exact qR (decide_eq_false hd) (qR hb (qA (h1 k (by omega)) (qR hc (qA (h2 k (by omega)) rfl))))
 |f+1,.at deep,(r0,b,l),ha,hj,hg,_=>by
  obtain ⟨ha,hb⟩:=ha
  replace ha:20*(tb r0).length+3≤f+1:=ha
  replace hb:b=false:=hb
  subst hb
  replace hj:0≤deep∧deep≤400:=hj
  have hn60:l.length≤60:=hg.n
  have hr1:r0.length≤1000:=hg.r
  have ht:=qr r0
  have ett:=qCB r0
  have eit:=qRZ [40] (r0,false,l)
  obtain ⟨n1,h1⟩:=qF1 r0 l.length false (l.map qb)
  have wdec:∀op,qEp (wd (tb r0)) 1 10=some op→(wr (tb r0)).length<(tb r0).length:=fun op h=>by
   have e:=congrArg List.length (wdr (tb r0))
   simp only [List.length_append] at e
   have:wd (tb r0)≠ []:=fun e=>by
    rw [e,show qEp [] 1 10=none by decide+kernel] at h
    cases h
   have:=List.length_pos_iff.2 this
   omega
  unfold pP
  simp only at eit⊢
  rw [←eit]
  generalize tb r0=r at*
  have hw:=qFg r
  have wordEv:∃n0,∀n,n0≤n→(qQy (qT n) n deep (BR (wd r)) (qEr (wr r,false,l))).run=some (qFm (qKM f deep (wd r) (wr r,false,l))):=by
   have:=qP8 f deep r (wr r,false,l) (by omega) hn60 (by
    rw [ett]
    intro op h
    exact qEU f (.call op deep) (wr r,false,l) (by have:=wdec op h;have:=qr (wr r);show 20*(tb (wr r)).length+9≤f;omega) hj ⟨by simp only;omega,hn60,hg.s⟩ trivial)
   rwa [ett] at this
  obtain ⟨n9,h9⟩:=wordEv
  obtain ⟨n8,h8⟩:=qNw (r,false,l) (by simp only;omega)
  simp only [ett] at h8
  by_cases hq:r.head?=some 34
  ·rw [if_pos hq]
   obtain ⟨t,rfl⟩:=qLF hq
   simp only [List.length_cons] at ht
   obtain ⟨n2,h2⟩:=qPg t false l (by omega) hn60
   refine ⟨n1+n2+3,fun n hn=>?_⟩
   obtain ⟨k,rfl,hm⟩:=up3 hn
   refine qA (h1 (k+2) (by omega)) (qA (qBb k (34::t) [34]) (qN rfl (qA (h2 (k+2) (by omega)) ?_)))
   rw [qC]
   simp only [List.tail_cons]
   all_goals (cases qBd [] t<;>rfl)
  ·rw [if_neg hq]
   have p34:List.isPrefixOf [34] r=false:=by rw [Bool.eq_false_iff];exact fun e=>hq ((qDf 34 r).1 e)
   by_cases hh:r.head?=some 35
   ·have p35:List.isPrefixOf [35] r=true:=(qDf 35 r).2 hh
    simp only [if_pos hh]
    obtain ⟨n2,h2⟩:=qQ8 deep r false l hn60
    cases he:qF0 r 1 5 with
    |some e=>
     simp only
     refine ⟨n1+n2+3,fun n hn=>?_⟩
     obtain ⟨k,rfl,hm⟩:=up3 hn
     have h2:=h2 (k+2) (by omega) (k+2) (by omega)
     rw [he] at h2
     exact qA (h1 (k+2) (by omega)) (qA (qBb k r [34]) (qR p34 (qA (qBb k r [35]) (qN p35 (qA h2 rfl)))))
    |none=>
     simp only
     rw [if_neg (fun h=>h.1 hh)]
     refine ⟨n1+n2+n8+n9+3,fun n hn=>?_⟩
     obtain ⟨k,rfl,hm⟩:=up3 hn
     have h2:=h2 (k+2) (by omega) (k+2) (by omega)
     rw [he] at h2
     exact qA (h1 (k+2) (by omega)) (qA (qBb k r [34]) (qR p34 (qA (qBb k r [35]) (qN p35 (qA h2 (qA (h8 (k+2) (by omega)) (h9 (k+2) (by omega))))))))
   ·have p35:List.isPrefixOf [35] r=false:=by rw [Bool.eq_false_iff];exact fun e=>hh ((qDf 35 r).1 e)
    simp only [if_neg hh]
    obtain ⟨n2,h2⟩:=qFB [40] (r,false,l)
    cases hc:(qW [40] (r,false,l)).1 with
    |true=>
     rw [if_pos ⟨hh,rfl⟩]
     have t2:=qDG (by simp) hc
     have t3:=qr (qW [40] (r,false,l)).2.1
     simp only [ett] at t2
     have g1:Gd (r,false,l):=⟨by simp only;omega,hn60,hg.s⟩
     obtain ⟨n3,h3⟩:=qEU f (.bin 1 (deep+1)) (qW [40] (r,false,l)).2 (by show 20*_+6≤f;omega) (by show 0≤deep+1∧deep+1≤401;omega) (qCR g1) trivial
     generalize pP f (.bin 1 (deep+1)) (qW [40] (r,false,l)).2=q at h3⊢
     obtain ⟨n4,h4⟩:=qFB [41] q.2
     refine ⟨n1+n2+n3+n4+3,fun n hn=>?_⟩
     obtain ⟨k,rfl,hm⟩:=up3 hn
     have w1:IntKind.i64.wrap (deep+1)=deep+1:=qZ (by omega)
     have h3:=h3 (k+2) (by omega)
     rw [←w1] at h3
     cases hbb:q.2.2.1 with
     |true=>
      refine qA (h1 (k+2) (by omega)) (qA (qBb k r [34]) (qR p34 (qA (qBb k r [35]) (qR p35 (qA (h2 (k+2) (by omega)) (qN hc (qA h3 (qN hbb ?_))))))))
      rw [qC]
      unfold qBs
      rw [if_pos hbb]
      simp only [qFm,hbb]
     |false=>
      refine qA (h1 (k+2) (by omega)) (qA (qBb k r [34]) (qR p34 (qA (qBb k r [35]) (qR p35 (qA (h2 (k+2) (by omega)) (qN hc (qA h3 (qR hbb (qA (h4 (k+2) (by omega)) ?_)))))))))
      rw [qC]
      exact congrArg (fun x=>some (q.1,x)) (qKL [41] hbb)
    |false=>
     rw [if_neg (fun h=>by simp at h)]
     have e:(qW [40] (r,false,l)).2=(r,false,l):=by
      unfold qW at hc⊢
      split at hc
      ·cases hc
      ·rename_i hne
       rw [if_neg hne];simp only [ett]
     rw [hc,e] at h2
     refine ⟨n1+n2+n8+n9+3,fun n hn=>?_⟩
     obtain ⟨k,rfl,hm⟩:=up3 hn
     exact qA (h1 (k+2) (by omega)) (qA (qBb k r [34]) (qR p34 (qA (qBb k r [35]) (qR p35 (qA (h2 (k+2) (by omega)) (qR rfl (qA (h8 (k+2) (by omega)) (h9 (k+2) (by omega)))))))))
 |f+1,.call op deep,p,ha,hj,hg,_=>by
  replace ha:20*(tb p.1).length+9≤f+1:=ha
  unfold pP
  have gm:=qIW (w:= [40]) hg
  have rm:=qIT [40] p
  obtain ⟨ks,p',e1,e2,e3,n2,h2⟩:=qEU f (.args op deep []) (qBs [40] p) (by show 20*_+8≤f;omega) hj gm.1 (by have:=gm.1.r;show 0+_≤_;omega)
  obtain ⟨n1,h1⟩:=qFB [40] p
  obtain ⟨n3,h3⟩:=qLE (ndK 6 op ks) p' e2.n
  rw [e1]
  refine ⟨n1+n2+n3+1,fun n hn=>?_⟩
  obtain ⟨k,rfl,hm⟩:=up1 hn
  have h2:=h2 k (by omega) k (by omega)
  by_cases hb:p.2.1=true
  ·have em:qEr (qBs [40] p)=(BR p.1,p.2.2.length,true,p.2.2.map qb):=by
    unfold qBs;rw [if_pos hb];simp only [qEr,hb]
   rw [em] at h2
   exact qN hb (qA h2 (qN (decide_eq_true (by simp)) (qA (h3 k (by omega)) rfl)))
  ·have hb:p.2.1=false:=by rw [Bool.eq_false_iff];exact hb
   have em:=qKL [40] hb
   rw [←em] at h2
   exact qR hb (qA (h1 k (by omega)) (qA h2 (qN (decide_eq_true (by simp)) (qA (h3 k (by omega)) rfl))))
 |f+1,.args op deep kids,p,ha,hj,hg,hk=>by
  replace ha:20*(tb p.1).length+8≤f+1:=ha
  replace hk:kids.length+p.1.length≤1500:=hk
  replace hj:0≤deep∧deep≤400:=hj
  unfold pP
  cases hb:p.2.1 with
  |true=>
   rw [if_pos rfl]
   refine ⟨kids,p,rfl,hg,by omega,1,fun n hn M hM=>?_⟩
   obtain ⟨M,rfl,hM⟩:=up1 hM
   exact qO (qR (by show (!p.2.1)=false;rw [hb];rfl) rfl)
  |false=>
   rw [if_neg (by simp)]
   simp only
   obtain ⟨x,hx,n1,h1⟩:=qQo p hg.r
   have ga:=qPN hg
   have ra:=qGo p
   have tl0:=qr p.1
   have nb:∀k:Nat,(!(qEr p).2.2.1)=true:=fun _=>by show (!p.2.1)=true;rw [hb];rfl
   cases hi:(qAr p).1 with
   |some y=>
    have hxy:=hx y hi
    subst hxy
    obtain ⟨n3,h3⟩:=qLE x (qAr p).2 ga.1.n
    have eo:qDF (qAr p) (fun p=>pP f (.bin 1 (deep+1)) p)=qCk x (qAr p).2:=by unfold qDF;rw [hi]
    rw [eo]
    have gq:Gd (qCk x (qAr p).2).2∧(qCk x (qAr p).2).2.1.length≤p.1.length∧(tb (qCk x (qAr p).2).2.1).length≤(tb p.1).length:=⟨qFi ga.1 (ga.2.2 x hi),by rw [qAu];exact ga.2.1,by rw [qAu];exact ra⟩
    have n2:=0
    generalize qCk x (qAr p).2=Q at h3 gq⊢
    obtain ⟨n4,h4⟩:=qFB [44] Q.2
    cases hc:(qW [44] Q.2).1 with
    |true=>
     obtain ⟨ks,p',e1,e2,e3,n6,h6⟩:=qEU f (.args op deep (kids++ [Q.1])) (qW [44] Q.2).2 (by have:=qDG (by simp) hc;show 20*(tb (qW [44] Q.2).2.1).length+8≤f;have:=qr (qW [44] Q.2).2.1;omega) ⟨hj.1,hj.2⟩ (qCR gq.1) (by have:=qDG (by simp) hc;have:=qr Q.2.1;show (kids++ [Q.1]).length+_≤_;simp;omega)
     refine ⟨ks,p',by rw [if_pos rfl];exact e1,e2,e3,n1+n2+n3+n4+n6+1,fun k hn M hM=>?_⟩
     obtain ⟨M,rfl,hM⟩:=up1 hM
     rw [qa (v':=(op,deep,(kids++ [Q.1]).length,(kids++ [Q.1]).map qA9,qEr (qW [44] Q.2).2)) (by
      have h1:=h1 k (by omega)
      rw [hi] at h1
      refine qN (nb 0) (qA h1 (qN rfl (qA (h3 k (by omega)) (qN rfl (qN (decide_eq_true ⟨by simp,by decide,by decide,by simp;omega,rfl⟩) (qA (h4 k (by omega)) ?_))))))
      refine qR (by simp only;rw [hc];rfl) ?_
      rw [qC]
      simp only [List.length_append,List.map_append]
      rfl)]
     exact h6 k (by omega) M (by omega)
    |false=>
     obtain ⟨n5,h5⟩:=qFB [41] (qW [44] Q.2).2
     refine ⟨kids++ [Q.1],qBs [41] (qW [44] Q.2).2,by rw [if_neg (by simp)],(qIW (qCR gq.1)).1,by simp;omega,n1+n2+n3+n4+n5+1,fun k hn M hM=>?_⟩
     obtain ⟨M,rfl,hM⟩:=up1 hM
     cases hbb:(qW [44] Q.2).2.2.1 with
     |true=>
      rw [qO (r:=(op,(kids++ [Q.1]).length,(kids++ [Q.1]).map qA9,qEr (qBs [41] (qW [44] Q.2).2))) (by
       have h1:=h1 k (by omega)
       rw [hi] at h1
       refine qN (nb 0) (qA h1 (qN rfl (qA (h3 k (by omega)) (qN rfl (qN (decide_eq_true ⟨by simp,by decide,by decide,by simp;omega,rfl⟩) (qA (h4 k (by omega)) ?_))))))
       refine qN (by simp only;rw [hc];rfl) (qN hbb ?_)
       rw [qC]
       unfold qBs
       rw [if_pos hbb]
       simp only [List.length_append,List.map_append,qEr,hbb]
       rfl)]
     |false=>
      rw [qO (r:=(op,(kids++ [Q.1]).length,(kids++ [Q.1]).map qA9,qEr (qBs [41] (qW [44] Q.2).2))) (by
       have h1:=h1 k (by omega)
       rw [hi] at h1
       refine qN (nb 0) (qA h1 (qN rfl (qA (h3 k (by omega)) (qN rfl (qN (decide_eq_true ⟨by simp,by decide,by decide,by simp;omega,rfl⟩) (qA (h4 k (by omega)) ?_))))))
       refine qN (by simp only;rw [hc];rfl) (qR hbb (qA (h5 k (by omega)) ?_))
       rw [qC]
       simp only [List.length_append,List.map_append]
       exact congrArg (fun x=>some (Sum.inr (op,kids.length+1,kids.map qA9++ [[PV.i IntKind.i64 Q.1]],x))) (qKL [41] hbb))]
   |none=>
    have eo:qDF (qAr p) (fun p=>pP f (.bin 1 (deep+1)) p)=pP f (.bin 1 (deep+1)) (qAr p).2:=by unfold qDF;rw [hi]
    rw [eo]
    obtain ⟨n3,h3⟩:=qEU f (.bin 1 (deep+1)) (qAr p).2 (by show 20*_+6≤f;omega) (by show 0≤deep+1∧deep+1≤401;omega) ga.1 trivial
    have g3:=qEL f (.bin 1 (deep+1)) (qAr p).2 ga.1 trivial
    have l3:=qDH f (.bin 1 (deep+1)) (qAr p).2
    have w1:IntKind.i64.wrap (deep+1)=deep+1:=qZ (by omega)
    have gq:Gd (pP f (.bin 1 (deep+1)) (qAr p).2).2∧(pP f (.bin 1 (deep+1)) (qAr p).2).2.1.length≤p.1.length∧(tb (pP f (.bin 1 (deep+1)) (qAr p).2).2.1).length≤(tb p.1).length:=⟨g3.1,Nat.le_trans g3.2 ga.2.1,Nat.le_trans l3 ra⟩
    rw [←w1] at h3
    have n2:=0
    rw [w1] at h3
    generalize pP f (.bin 1 (deep+1)) (qAr p).2=Q at h3 gq⊢
    obtain ⟨n4,h4⟩:=qFB [44] Q.2
    cases hc:(qW [44] Q.2).1 with
    |true=>
     obtain ⟨ks,p',e1,e2,e3,n6,h6⟩:=qEU f (.args op deep (kids++ [Q.1])) (qW [44] Q.2).2 (by have:=qDG (by simp) hc;show 20*(tb (qW [44] Q.2).2.1).length+8≤f;have:=qr (qW [44] Q.2).2.1;omega) ⟨hj.1,hj.2⟩ (qCR gq.1) (by have:=qDG (by simp) hc;have:=qr Q.2.1;show (kids++ [Q.1]).length+_≤_;simp;omega)
     refine ⟨ks,p',by rw [if_pos rfl];exact e1,e2,e3,n1+n2+n3+n4+n6+1,fun k hn M hM=>?_⟩
     obtain ⟨M,rfl,hM⟩:=up1 hM
     rw [qa (v':=(op,deep,(kids++ [Q.1]).length,(kids++ [Q.1]).map qA9,qEr (qW [44] Q.2).2)) (by
      have h1:=h1 k (by omega)
      rw [hi] at h1
      have h3:=h3 k (by omega)
      rw [←w1] at h3
      refine qN (nb 0) (qA h1 (qR rfl (qA h3 (qN rfl (qN (decide_eq_true ⟨by simp,by decide,by decide,by simp;omega,rfl⟩) (qA (h4 k (by omega)) ?_))))))
      refine qR (by simp only;rw [hc];rfl) ?_
      rw [qC]
      simp only [List.length_append,List.map_append]
      rfl)]
     exact h6 k (by omega) M (by omega)
    |false=>
     obtain ⟨n5,h5⟩:=qFB [41] (qW [44] Q.2).2
     refine ⟨kids++ [Q.1],qBs [41] (qW [44] Q.2).2,by rw [if_neg (by simp)],(qIW (qCR gq.1)).1,by simp;omega,n1+n2+n3+n4+n5+1,fun k hn M hM=>?_⟩
     obtain ⟨M,rfl,hM⟩:=up1 hM
     cases hbb:(qW [44] Q.2).2.2.1 with
     |true=>
      rw [qO (r:=(op,(kids++ [Q.1]).length,(kids++ [Q.1]).map qA9,qEr (qBs [41] (qW [44] Q.2).2))) (by
       have h1:=h1 k (by omega)
       rw [hi] at h1
       have h3:=h3 k (by omega)
       rw [←w1] at h3
       refine qN (nb 0) (qA h1 (qR rfl (qA h3 (qN rfl (qN (decide_eq_true ⟨by simp,by decide,by decide,by simp;omega,rfl⟩) (qA (h4 k (by omega)) ?_))))))
       refine qN (by simp only;rw [hc];rfl) (qN hbb ?_)
       rw [qC]
       unfold qBs
       rw [if_pos hbb]
       simp only [List.length_append,List.map_append,qEr,hbb]
       rfl)]
     |false=>
      rw [qO (r:=(op,(kids++ [Q.1]).length,(kids++ [Q.1]).map qA9,qEr (qBs [41] (qW [44] Q.2).2))) (by
       have h1:=h1 k (by omega)
       rw [hi] at h1
       have h3:=h3 k (by omega)
       rw [←w1] at h3
       refine qN (nb 0) (qA h1 (qR rfl (qA h3 (qN rfl (qN (decide_eq_true ⟨by simp,by decide,by decide,by simp;omega,rfl⟩) (qA (h4 k (by omega)) ?_))))))
       refine qN (by simp only;rw [hc];rfl) (qR hbb (qA (h5 k (by omega)) ?_))
       rw [qC]
       simp only [List.length_append,List.map_append]
       exact congrArg (fun x=>some (Sum.inr (op,kids.length+1,kids.map qA9++ [[PV.i IntKind.i64 Q.1]],x))) (qKL [41] hbb))]
def pos (s r:List UInt8):Int:=((s.length-r.length:Nat):Int)
def qCU (s:List UInt8) (q:PS):ByteArray×Int×Bool×Nat×List (List PV):=(BR s,pos s q.1,q.2.1,q.2.2.length,q.2.2.map qb)
def qCC (s:List UInt8) (r:Int×PS):Int×ByteArray×Int×Bool×Nat×List (List PV):=(r.1,qCU s r.2)
theorem qOc {s r:List UInt8} (h:r<:+s):s.drop (s.length-r.length)=r:=by
 obtain ⟨t,rfl⟩:=h
 simp
theorem qPO (s r:List UInt8):(pos s r).toNat=s.length-r.length:=by unfold pos;simp
theorem qI5 (s r:List UInt8):0≤pos s r:=by unfold pos;omega
theorem qCv {s r:List UInt8} (h:r<:+s):r.length≤s.length:=h.length_le
theorem qIX {s r t:List UInt8} {k:Nat} (h:r<:+s) (e:t=r.drop k) (hk:k≤r.length):pos s r+(k:Int)=pos s t:=by
 subst e
 have:=qCv h
 unfold pos
 simp only [List.length_drop]
 omega
theorem qKN {s r:List UInt8} (h:r<:+s):(BR s).toList[(pos s r).toNat]?=r.head?:=by
 rw [qA5,qPO,←List.head?_drop,qOc h]
theorem qOy {s r:List UInt8} (h:r<:+s):tb r<:+s:=(List.dropWhile_suffix _).trans h
theorem qMX {s t:List UInt8} {c:UInt8} (h:(c::t)<:+s):t<:+s:=(List.suffix_cons c t).trans h
theorem qLt {s r:List UInt8} {k:Nat} (h:r<:+s):(BR s).extract (pos s r).toNat (pos s r+(k:Int)).toNat=BR (r.take k):=by
 rw [qIJ,qPO,show (pos s r+(k:Int)).toNat=(s.length-r.length)+k by unfold pos;omega,←List.take_drop,qOc h]
theorem qLR {b:Bool} (h:b=true):(!b)=false:=by rw [h];rfl
theorem qGp {b:Bool} (h:b=false):(!b)=true:=by rw [h];rfl
theorem qNR {s:List UInt8} (hs:s.length≤1000) (n:Nat) (b:Bool) (m:Nat) (rows:List (List PV)):∀(r:List UInt8) (M:Nat),r<:+s→r.length+1≤M→zD (qDA n) M (BR s,pos s r,b,m,rows)=some (BR s,pos s (tb r),b,m,rows)
 |r,0,_,h=>by omega
 | [],M+1,h,_=>by
  exact qO (qR (decide_eq_false (show ¬pos s []<((BR s).size:Int) by rw [qj];unfold pos;simp)) rfl)
 |c::t,M+1,h,hM=>by
  have hl:=qCv h
  simp only [List.length_cons] at hl hM
  have g:=qKN h
  have p1:pos s (c::t)<((BR s).size:Int):=by rw [qj];unfold pos;simp only [List.length_cons];omega
  by_cases hc:c=32
  ·subst hc
   have w1:IntKind.i64.wrap (pos s (32::t)+1)=pos s t:=by
    have:=qIX (k:=1) h (t:=t) rfl (by simp)
    rw [qZ (by unfold pos;omega)];exact this
   rw [qa (v':=(BR s,pos s t,b,m,rows)) (by
    refine qN (decide_eq_true p1) (qN (decide_eq_true (qI5 _ _)) (qA g (qN rfl ?_)))
    rw [qC,w1])]
   have e:tb (32::t)=tb t:=by simp [tb]
   rw [e]
   exact qNR hs n b m rows t M (qMX h) (by omega)
  ·have e:tb (c::t)=c::t:=by simp [tb,hc]
   rw [e]
   refine qO (qN (decide_eq_true p1) (qN (decide_eq_true (qI5 _ _)) (qA g (qR ?_ rfl))))
   rw [beq_eq_false_iff_ne]
   intro e
   exact hc (UInt8.toNat_inj.1 (show c.toNat=32 by omega))
theorem qNz {s:List UInt8} (hs:s.length≤1000) (q:PS) (h:q.1<:+s):Ev (qBX · (BR s) (pos s q.1) q.2.1 q.2.2.length (q.2.2.map qb)) (qCU s (tb q.1,q.2)):=by
 have hl:=qCv h
 refine ⟨q.1.length+2,fun n hn=>?_⟩
 obtain ⟨k,rfl,hm⟩:=up1 hn
 exact qA (qNR hs k q.2.1 q.2.2.length (q.2.2.map qb) q.1 k h (by omega)) rfl
theorem qFk {s:List UInt8} (hs:s.length≤1000) (w:List UInt8) (hw:w.length≤1000) (q:PS) (h:q.1<:+s):Ev (qv · (BR w) (BR s) (pos s q.1) q.2.1 q.2.2.length (q.2.2.map qb)) ((sIs w q).1,qCU s (sIs w q).2):=by
 obtain ⟨n1,h1⟩:=qNz hs q h
 have ht:=qOy h
 have hl:=qCv ht
 refine ⟨n1+1,fun n hn=>?_⟩
 obtain ⟨k,rfl,hm⟩:=up1 hn
 have w1:IntKind.i64.wrap (pos s (tb q.1)+((BR w).size:Int))=pos s (tb q.1)+(w.length:Int):=by rw [qj];exact qZ (by unfold pos;omega)
 unfold sIs
 cases hb:q.2.1 with
 |true=>
  rw [if_pos rfl]
  have h1:=h1 k (by omega)
  rw [hb] at h1
  refine qA h1 (qN hb ?_)
  rw [qC]
 |false=>
  have h1:=h1 k (by omega)
  rw [hb] at h1
  rw [if_neg (by simp)]
  by_cases hf:pos s (tb q.1)+(w.length:Int)>(s.length:Int)
  ·have hn:¬w.isPrefixOf (tb q.1)=true:=by
    intro e
    have:=(List.isPrefixOf_iff_prefix.1 e).length_le
    unfold pos at hf
    omega
   rw [if_neg hn]
   refine qA h1 (qR hb (qN (decide_eq_true (show IntKind.i64.wrap (pos s (tb q.1)+((BR w).size:Int))>((BR s).size:Int) by rw [w1,qj];exact hf)) ?_))
   rw [qC]
  ·have hx:=qLt (k:=w.length) ht
   have hwl:w.length≤(tb q.1).length:=by unfold pos at hf;omega
   have cmp:((BR s).extract (pos s (tb q.1)).toNat (IntKind.i64.wrap (pos s (tb q.1)+((BR w).size:Int))).toNat).toList==(BR w).toList↔w.isPrefixOf (tb q.1)=true:=by
    rw [w1,hx,qA5,qA5,beq_iff_eq,List.isPrefixOf_iff_prefix,List.prefix_iff_eq_take]
    exact ⟨fun e=>e.symm,fun e=>e.symm⟩
   refine qA h1 (qR hb (qR (decide_eq_false (show ¬IntKind.i64.wrap (pos s (tb q.1)+((BR w).size:Int))>((BR s).size:Int) by rw [w1,qj];exact hf)) (qN (decide_eq_true (show 0≤pos s (tb q.1)∧pos s (tb q.1)≤IntKind.i64.wrap (pos s (tb q.1)+((BR w).size:Int))∧IntKind.i64.wrap (pos s (tb q.1)+((BR w).size:Int))≤((BR s).size:Int) by rw [w1,qj];exact ⟨qI5 _ _,by omega,by omega⟩)) ?_)))
   by_cases hp:w.isPrefixOf (tb q.1)=true
   ·rw [if_pos hp]
    refine qR (qLR (cmp.2 hp)) ?_
    rw [qC]
    show some (true,BR s,IntKind.i64.wrap (pos s (tb q.1)+((BR w).size:Int)),q.2.1,q.2.2.length,q.2.2.map qb)=_
    rw [w1,qIX ht rfl hwl]
    rfl
   ·rw [if_neg hp]
    refine qN (qGp (by rw [Bool.eq_false_iff];exact fun e=>hp (cmp.1 e))) ?_
    rw [qC]
theorem qIM {s:List UInt8} (x:Nd) (q:PS) (h:q.2.2.length≤5000) (hx:qM1 x):Ev (qp · x.1 x.2.1 x.2.2.1 x.2.2.2.1 x.2.2.2.2.1 x.2.2.2.2.2.1 x.2.2.2.2.2.2.1 x.2.2.2.2.2.2.2.1 x.2.2.2.2.2.2.2.2.1 x.2.2.2.2.2.2.2.2.2.1 x.2.2.2.2.2.2.2.2.2.2.1 x.2.2.2.2.2.2.2.2.2.2.2.1 x.2.2.2.2.2.2.2.2.2.2.2.2.1 ((kd x).map qA9) (BR s) (pos s q.1) q.2.1 q.2.2.length (q.2.2.map qb)) (qCC s (qDe x q)):=by
 obtain ⟨n1,h1⟩:=qGl x (by have:=hx.2;omega)
 refine ⟨n1+1,fun n hn=>?_⟩
 obtain ⟨k,rfl,hm⟩:=up1 hn
 have w2:IntKind.i64.wrap ((((q.2.2.length+1):Nat):Int)-1)=(q.2.2.length:Int):=by rw [qZ (by omega)];omega
 refine qN rfl (qN (decide_eq_true ⟨by simp,by decide,by decide,by simp;omega,rfl⟩) ?_)
 unfold qDe
 by_cases h6:60<q.2.2.length+1
 ·rw [if_pos (.inl h6)]
  refine qN (decide_eq_true (by omega)) ?_
  rw [qC,w2]
  simp only [qCC,qCU,List.map_append,List.length_append]
  rfl
 ·refine qR (decide_eq_false (by omega)) (qA (h1 k (by omega)) ?_)
  cases ho:qBy x with
  |true=>
   rw [if_neg (fun e=>e.elim h6 (by simp))]
   refine qR rfl ?_
   rw [qC,w2]
   simp only [qCC,qCU,List.map_append,List.length_append]
   rfl
  |false=>
   rw [if_pos (.inr rfl)]
   refine qN rfl ?_
   rw [qC,w2]
   simp only [qCC,qCU,List.map_append,List.length_append]
   rfl
theorem qLS {s:List UInt8} (hs:s.length≤1000) (n:Nat) (at0:Int) (b:Bool) (m:Nat) (rows:List (List PV)):∀(r:List UInt8) (M:Nat),r<:+s→r.length+1≤M→zD (qBr n) M (at0,BR s,pos s r,b,m,rows)=some (at0,BR s,pos s (wr r),b,m,rows)
 |r,0,_,h=>by omega
 | [],M+1,h,_=>by
  exact qO (qR (decide_eq_false (show ¬pos s []<((BR s).size:Int) by rw [qj];unfold pos;simp)) rfl)
 |c::t,M+1,h,hM=>by
  have hl:=qCv h
  simp only [List.length_cons] at hl hM
  have g:=qKN h
  have p1:pos s (c::t)<((BR s).size:Int):=by rw [qj];unfold pos;simp only [List.length_cons];omega
  have p0:decide (0≤pos s (c::t))=true:=decide_eq_true (qI5 _ _)
  have w1:IntKind.i64.wrap (pos s (c::t)+1)=pos s t:=by
   have:=qIX (k:=1) h (t:=t) rfl (by simp)
   rw [qZ (by unfold pos;omega)];exact this
  have yes:(wch c=true)→(qBr n (at0,BR s,pos s (c::t),b,m,rows)).run=some (.inl (at0,BR s,pos s t,b,m,rows)):=fun hc=>by
   have fin:some (Sum.inl (at0,BR s,IntKind.i64.wrap (pos s (c::t)+1),b,m,rows))=(some (Sum.inl (at0,BR s,pos s t,b,m,rows)):Option (_⊕(Int×ByteArray×Int×Bool×Nat×List (List PV)))):=by rw [w1]
   refine qN (decide_eq_true p1) (qN p0 (qA g ?_))
   by_cases a1:(c.toNat:Int)≥65
   ·refine qN (decide_eq_true a1) (qN p0 (qA g ?_))
    by_cases a2:(c.toNat:Int)≤90
    ·exact qN (decide_eq_true a2) fin
    ·refine qR (decide_eq_false a2) (qN p0 (qA g ?_))
     by_cases a3:(c.toNat:Int)≥48
     ·refine qN (decide_eq_true a3) (qN p0 (qA g ?_))
      by_cases a4:(c.toNat:Int)≤57
      ·exact qN (decide_eq_true a4) fin
      ·refine qR (decide_eq_false a4) (qN p0 (qA g ?_))
       have a5:c=36:=by
        unfold wch at hc
        simp only [Bool.or_eq_true,Bool.and_eq_true,decide_eq_true_eq,beq_iff_eq] at hc
        rcases hc with hc|hc|hc
        ·omega
        ·omega
        ·exact hc
       exact qN (by rw [a5];rfl) fin
     ·omega
   ·refine qR (decide_eq_false a1) (qN p0 (qA g ?_))
    by_cases a3:(c.toNat:Int)≥48
    ·refine qN (decide_eq_true a3) (qN p0 (qA g ?_))
     by_cases a4:(c.toNat:Int)≤57
     ·exact qN (decide_eq_true a4) fin
     ·refine qR (decide_eq_false a4) (qN p0 (qA g ?_))
      have a5:c=36:=by
       unfold wch at hc
       simp only [Bool.or_eq_true,Bool.and_eq_true,decide_eq_true_eq,beq_iff_eq] at hc
       rcases hc with hc|hc|hc
       ·omega
       ·omega
       ·exact hc
      exact qN (by rw [a5];rfl) fin
    ·refine qR (decide_eq_false a3) (qN p0 (qA g ?_))
     have a5:c=36:=by
      unfold wch at hc
      simp only [Bool.or_eq_true,Bool.and_eq_true,decide_eq_true_eq,beq_iff_eq] at hc
      rcases hc with hc|hc|hc
      ·omega
      ·omega
      ·exact hc
     exact qN (by rw [a5];rfl) fin
  have no:(wch c=false)→(qBr n (at0,BR s,pos s (c::t),b,m,rows)).run=some (.inr (at0,BR s,pos s (c::t),b,m,rows)):=fun hc=>by
   have hc':¬((65≤c.toNat∧c.toNat≤90)∨(48≤c.toNat∧c.toNat≤57)∨c=36):=fun e=>by
    have:wch c=true:=by
     unfold wch
     simp only [Bool.or_eq_true,Bool.and_eq_true,decide_eq_true_eq,beq_iff_eq]
     exact e
    rw [hc] at this;cases this
   have a5:((c.toNat:Int)==36)=false:=by
    rw [beq_eq_false_iff_ne];intro e
    exact hc' (.inr (.inr (UInt8.toNat_inj.1 (show c.toNat=36 by omega))))
   refine qN (decide_eq_true p1) (qN p0 (qA g ?_))
   by_cases a1:(c.toNat:Int)≥65
   ·have a2:¬(c.toNat:Int)≤90:=fun e=>hc' (.inl ⟨by omega,by omega⟩)
    refine qN (decide_eq_true a1) (qN p0 (qA g (qR (decide_eq_false a2) ?_)))
    refine qN p0 (qA g (qN (decide_eq_true (show (c.toNat:Int)≥48 by omega)) ?_))
    exact qN p0 (qA g (qR (decide_eq_false (show ¬(c.toNat:Int)≤57 by omega)) (qN p0 (qA g (qR a5 rfl)))))
   ·refine qR (decide_eq_false a1) (qN p0 (qA g ?_))
    by_cases a3:(c.toNat:Int)≥48
    ·have a4:¬(c.toNat:Int)≤57:=fun e=>hc' (.inr (.inl ⟨by omega,by omega⟩))
     exact qN (decide_eq_true a3) (qN p0 (qA g (qR (decide_eq_false a4) (qN p0 (qA g (qR a5 rfl))))))
    ·exact qR (decide_eq_false a3) (qN p0 (qA g (qR a5 rfl)))
  cases hc:wch c with
  |true=>
   rw [qa (yes hc),show wr (c::t)=wr t by simp [wr,hc]]
   exact qLS hs n at0 b m rows t M (qMX h) (by omega)
  |false=>
   rw [qO (no hc),show wr (c::t)=c::t by simp [wr,hc]]
theorem qMY {s:List UInt8} (hs:s.length≤1000) (q:PS) (h:q.1<:+s):Ev (qCg · (BR s) (pos s q.1) q.2.1 q.2.2.length (q.2.2.map qb)) (BR (wd q.1),qCU s (wr q.1,q.2)):=by
 have hl:=qCv h
 have hw:=qFg q.1
 have hd:=congrArg List.length (wdr q.1)
 simp only [List.length_append] at hd
 refine ⟨q.1.length+2,fun n hn=>?_⟩
 obtain ⟨k,rfl,hm⟩:=up1 hn
 refine qA (qLS hs k (pos s q.1) q.2.1 q.2.2.length (q.2.2.map qb) q.1 k h (by omega)) (qN (decide_eq_true ⟨qI5 _ _,by unfold pos;simp only;omega,by rw [qj];unfold pos;simp only;omega⟩) ?_)
 rw [qC]
 have e:(pos s (wr q.1))=pos s q.1+((wd q.1).length:Int):=by unfold pos;omega
 have x:=qLt (k:=(wd q.1).length) h
 rw [←e] at x
 have t:q.1.take (wd q.1).length=wd q.1:=by
  have:=List.take_left (l₁:=wd q.1) (l₂:=wr q.1)
  rwa [wdr] at this
 rw [t] at x
 show some ((BR s).extract (pos s q.1).toNat (pos s (wr q.1)).toNat,_)=_
 rw [x]
 rfl
theorem qF2 {s:List UInt8} (hs:s.length≤1000) {n:Nat} (b:Bool) (l:List Nd) (res:Int×PS):∀(k:Nat) (r acc:List UInt8) (M:Nat),r.length≤k→r<:+s→acc.length+r.length≤1001→r.length+1≤M→
  (∀w t,qBd acc r=some (w,t)→qp n 1 0 2 0 (BR w) 0 0 false false 0 0 false false [] (BR s) (pos s t) b l.length (l.map qb)=some (qCC s res))→
  zD (qDU n) M (BR acc,BR s,pos s r,b,l.length,l.map qb)=some (match qBd acc r with
   |none=> .inr (BR s,pos s [],b,l.length,l.map qb)
   |some _=> .inl (qCC s res))
 |k,r,acc,0,_,_,_,h,_=>by omega
 |k,[],acc,M+1,_,h,_,_,_=>by
  exact qO (qR (decide_eq_false (show ¬pos s []<((BR s).size:Int) by rw [qj];unfold pos;simp)) rfl)
 |0,c::t,acc,M+1,hk,_,_,_,_=>by simp at hk
 |k+1,c::t,acc,M+1,hk,h,ha,hM,hr=>by
  have hl:=qCv h
  simp only [List.length_cons] at hl hM hk ha
  have g:=qKN h
  have p1:pos s (c::t)<((BR s).size:Int):=by rw [qj];unfold pos;simp only [List.length_cons];omega
  have p0:decide (0≤pos s (c::t))=true:=decide_eq_true (qI5 _ _)
  have pa:=qIX (k:=1) h (t:=t) rfl (by simp)
  have w1:IntKind.i64.wrap (pos s (c::t)+1)=pos s t:=by rw [qZ (by unfold pos;omega)];exact pa
  by_cases hc:c=34
  ·subst hc
   have ht:=qMX h
   by_cases hq:t.head?=some 34
   ·obtain ⟨u,rfl⟩:=qLF hq
    simp only [List.length_cons] at hl hM hk ha
    rw [qQj] at hr⊢
    have g2:=qKN ht
    have pb:=qIX (k:=1) ht (t:=u) rfl (by simp)
    have w2:IntKind.i64.wrap (pos s (34::u)+1)=pos s u:=by rw [qZ (by unfold pos;omega)];exact pb
    rw [qa (v':=(BR (acc++ [34]),BR s,pos s u,b,l.length,l.map qb)) (by
     refine qN (decide_eq_true p1) (qN p0 (qA g (qR rfl (qR (decide_eq_false (show ¬IntKind.i64.wrap (pos s (34::34::u)+1)≥((BR s).size:Int) by rw [w1,qj];unfold pos;simp only [List.length_cons];omega)) (qN (decide_eq_true (show 0≤IntKind.i64.wrap (pos s (34::34::u)+1) by rw [w1];exact qI5 _ _)) (qA (x:=34) (by show (BR s).toList[(IntKind.i64.wrap (pos s (34::34::u)+1)).toNat]?=_;rw [w1];exact g2) (qR rfl (qN (decide_eq_true (show (BR acc).size+1≤9223372036854775807 by rw [qj];omega)) ?_))))))))
     rw [qC]
     show some (Sum.inl (BR acc++BR [34],BR s,IntKind.i64.wrap (IntKind.i64.wrap (pos s (34::34::u)+1)+1),b,l.length,l.map qb))=_
     rw [w1,w2,qLC])]
    exact qF2 hs b l res k u _ M (by omega) (qMX ht) (by simp;omega) (by omega) hr
   ·rw [qQk acc t hq] at hr⊢
    have hr:=hr acc t rfl
    refine qO (qN (decide_eq_true p1) (qN p0 (qA g (qR rfl ?_))))
    cases t with
    |nil=>
     refine qN (decide_eq_true (show IntKind.i64.wrap (pos s [34]+1)≥((BR s).size:Int) by rw [w1,qj];unfold pos;simp)) ?_
     rw [←w1] at hr
     exact qA hr rfl
    |cons d u=>
     have g2:=qKN ht
     have hd:¬d=34:=fun e=>hq (by rw [e];rfl)
     refine qR (decide_eq_false (show ¬IntKind.i64.wrap (pos s (34::d::u)+1)≥((BR s).size:Int) by rw [w1,qj];unfold pos;simp only [List.length_cons] at hl⊢;omega)) (qN (decide_eq_true (show 0≤IntKind.i64.wrap (pos s (34::d::u)+1) by rw [w1];exact qI5 _ _)) (qA (x:=d) (by show (BR s).toList[(IntKind.i64.wrap (pos s (34::d::u)+1)).toNat]?=_;rw [w1];exact g2) (qN ?_ ?_)))
     ·rw [bne_iff_ne]
      intro e
      exact hd (UInt8.toNat_inj.1 (show d.toNat=34 by omega))
     ·rw [←w1] at hr
      exact qA hr rfl
  ·rw [qQl acc t hc] at hr⊢
   have hx:=qLt (k:=1) h
   rw [show ((1:Nat):Int)=1 from rfl] at hx pa
   have hx:(BR s).extract (pos s (c::t)).toNat (IntKind.i64.wrap (pos s (c::t)+1)).toNat=BR [c]:=by
    rw [w1,←pa];exact hx
   rw [qa (v':=(BR (acc++ [c]),BR s,pos s t,b,l.length,l.map qb)) (by
    refine qN (decide_eq_true p1) (qN p0 (qA g (qN ?_ (qN (decide_eq_true (show 0≤pos s (c::t)∧pos s (c::t)≤IntKind.i64.wrap (pos s (c::t)+1)∧IntKind.i64.wrap (pos s (c::t)+1)≤((BR s).size:Int) by rw [w1,qj];exact ⟨qI5 _ _,by unfold pos;simp only [List.length_cons];omega,by unfold pos;omega⟩)) (qN (decide_eq_true (show (BR acc).size+((BR s).extract (pos s (c::t)).toNat (IntKind.i64.wrap (pos s (c::t)+1)).toNat).size≤9223372036854775807 by rw [hx,qj,qj];simp;omega)) ?_)))))
    ·rw [bne_iff_ne]
     intro e
     exact hc (UInt8.toNat_inj.1 (show c.toNat=34 by omega))
    ·rw [qC]
     show some (Sum.inl (BR acc++(BR s).extract (pos s (c::t)).toNat (IntKind.i64.wrap (pos s (c::t)+1)).toNat,BR s,IntKind.i64.wrap (pos s (c::t)+1),b,l.length,l.map qb))=_
     rw [hx,qLC,w1])]
   exact qF2 hs b l res k t _ M (by omega) (qMX h) (by simp;omega) (by omega) hr
theorem qP9 {s:List UInt8} (hs:s.length≤1000) (q:PS) (h:q.1<:+s) (hn:q.2.2.length≤5000):Ev (qER · (BR s) (pos s q.1) q.2.1 q.2.2.length (q.2.2.map qb)) (qCC s (match qBd [] q.1 with
  |none=>(0,[],true,q.2.2)
  |some (w,t)=>qDe (nd1 (2,0,BR w)) (t,q.2))):=by
 have hl:=qCv h
 cases hq:qBd [] q.1 with
 |none=>
  refine ⟨q.1.length+2,fun n hn=>?_⟩
  obtain ⟨k,rfl,hm⟩:=up1 hn
  have lp:=qF2 hs (n:=k) q.2.1 q.2.2 (0,q) q.1.length q.1 [] k (Nat.le_refl _) h (by simp;omega) (by omega) (fun w t e=>by rw [hq] at e;cases e)
  rw [hq] at lp
  exact qA lp rfl
 |some wt=>
  obtain ⟨w,t⟩:=wt
  have hw:=qFj _ _ _ (Nat.le_refl _) hq
  simp only [List.length_nil] at hw
  obtain ⟨n1,h1⟩:=qIM (s:=s) (nd1 (2,0,BR w)) (t,q.2) hn ⟨by simp [kd,nd1],by simp only [nd1,qj];omega⟩
  refine ⟨n1+q.1.length+2,fun n hn=>?_⟩
  obtain ⟨k,rfl,hm⟩:=up1 hn
  have lp:=qF2 hs (n:=k) q.2.1 q.2.2 (qDe (nd1 (2,0,BR w)) (t,q.2)) q.1.length q.1 [] k (Nat.le_refl _) h (by simp;omega) (by omega) (fun w' t' e=>by rw [hq] at e;cases e;exact h1 k (by omega))
  rw [hq] at lp
  exact qA lp rfl
theorem qN0:∀o∈qBv,(qk o).toList≠ []∧(qk o).size≤2:=by decide+kernel
theorem qQA:∀o∈qBv,1≤o∧o≤11:=by decide
def opR:List (List PV):=qBv.map qA9
def rsL (level:Int) (r:List UInt8):List Int→List UInt8
 | []=>r
 |o::l=>if lvl o=level then rsL level (tb r) l else rsL level r l
theorem qLG {s:List UInt8} (hs:s.length≤1000) {n:Nat} (level:Int) (R:List UInt8) (hR:tb R=R) (m:Nat) (rows:List (List PV))
  (h1:∀o∈qBv,qCh n o=some (lvl o)) (h2:∀o∈qBv,qCT n o=some (qk o)):
  ∀(k i:Nat) (r:List UInt8) (M:Nat),i+k=11→k+1≤M→tb r=R→
  (∀r',tb r'=R→(r'=r∨r'=R)→∀o∈qBv,qv n (qk o) (BR s) (pos s r') false m rows=some (if (qk o).toList.isPrefixOf R=true then (true,BR s,pos s (R.drop (qk o).size),false,m,rows) else (false,BR s,pos s R,false,m,rows)))→
  zD (qD7 n) M (level,11,(i:Int),opR,BR s,pos s r,false,m,rows)=some (if qDO level R (qBv.drop i)=0 then .inr (BR s,pos s (rsL level r (qBv.drop i)),false,m,rows) else .inl (qDO level R (qBv.drop i),BR s,pos s (R.drop (qk (qDO level R (qBv.drop i))).size),false,m,rows))
 |k,i,r,0,_,h,_,_=>by omega
 |0,i,r,M+1,hk,_,_,_=>by
  have hi:i=11:=by omega
  subst hi
  exact qO (qR rfl rfl)
 |k+1,i,r,M+1,hk,hM,hr,h3=>by
  have hi:i<qBv.length:=by simp [qBv];omega
  obtain ⟨o,ho⟩:∃o,qBv[i]?=some o:=⟨_,List.getElem?_eq_getElem hi⟩
  have hin:=List.mem_of_getElem? ho
  have hR2:opR[i]?=some [PV.i .i64 o]:=by simp [opR,List.getElem?_map,ho,qA9]
  have hc:zF .i64 [PV.i .i64 o] 0=some o:=rfl
  have hd:qBv.drop i=o::qBv.drop (i+1):=qFC ho
  have w5:IntKind.i64.wrap ((i:Int)+1)=((i+1:Nat):Int):=by rw [qZ (by omega)];omega
  have g1:decide ((i:Int)<((11:Nat):Int))=true:=decide_eq_true (by omega)
  have g2:decide (11=opR.length∧0≤(i:Int)∧(i:Int)<((11:Nat):Int))=true:=decide_eq_true ⟨rfl,by omega,by omega⟩
  have h0:o≠0:=by have:=qQA o hin;omega
  rw [hd]
  by_cases hl:lvl o=level
  ·have is:=h3 r hr (.inl rfl) o hin
   by_cases hp:(qk o).toList.isPrefixOf R=true
   ·have e:qDO level R (o::qBv.drop (i+1))=o:=by unfold qDO;rw [if_pos ⟨hl,hp⟩]
    rw [e,if_neg h0]
    rw [if_pos hp] at is
    exact qO (qN g1 (qN g2 (qA hR2 (qA hc (qA (h1 o hin) (qN (beq_iff_eq.2 hl) (qN g2 (qA hR2 (qA hc (qA (h2 o hin) (qA is (qN rfl (qN g2 (qA hR2 (qA hc rfl)))))))))))))))
   ·have e:qDO level R (o::qBv.drop (i+1))=qDO level R (qBv.drop (i+1)):=by
     conv=>lhs;unfold qDO
     rw [if_neg (fun h=>hp h.2)]
    have e2:rsL level r (o::qBv.drop (i+1))=rsL level R (qBv.drop (i+1)):=by
     conv=>lhs;unfold rsL
     rw [if_pos hl,hr]
    rw [e,e2]
    rw [if_neg hp] at is
    rw [qa (v':=(level,11,((i+1:Nat):Int),opR,BR s,pos s R,false,m,rows)) (by
     refine qN g1 (qN g2 (qA hR2 (qA hc (qA (h1 o hin) (qN (beq_iff_eq.2 hl) (qN g2 (qA hR2 (qA hc (qA (h2 o hin) (qA is (qR rfl ?_)))))))))))
     rw [qC,w5])]
    exact qLG hs level R hR m rows h1 h2 k (i+1) R M (by omega) (by omega) hR (fun r' a b=>h3 r' a (.inr (b.elim id id)))
  ·have e:qDO level R (o::qBv.drop (i+1))=qDO level R (qBv.drop (i+1)):=by
    conv=>lhs;unfold qDO
    rw [if_neg (fun h=>hl h.1)]
   have e2:rsL level r (o::qBv.drop (i+1))=rsL level r (qBv.drop (i+1)):=by
    conv=>lhs;unfold rsL
    rw [if_neg hl]
   rw [e,e2]
   rw [qa (v':=(level,11,((i+1:Nat):Int),opR,BR s,pos s r,false,m,rows)) (by
    refine qN g1 (qN g2 (qA hR2 (qA hc (qA (h1 o hin) (qR (beq_eq_false_iff_ne.2 hl) ?_)))))
    rw [qC,w5])]
   exact qLG hs level R hR m rows h1 h2 k (i+1) r M (by omega) (by omega) hr h3
theorem qRC {level:Int} (h:1≤level∧level≤4) (r:List UInt8):rsL level r qBv=tb r:=by
 have c:level=1∨level=2∨level=3∨level=4:=by omega
 rcases c with rfl|rfl|rfl|rfl<;>simp [rsL,qBv,lvl,qCB]
theorem qRD {s:List UInt8} (hs:s.length≤1000) {level:Int} (hl:1≤level∧level≤4) (q:PS) (hb:q.2.1=false) (h:q.1<:+s):Ev (qD8 · level (BR s) (pos s q.1) q.2.1 q.2.2.length (q.2.2.map qb)) (qCC s (sOp level q)):=by
 obtain ⟨n1,h1⟩:=qCN (F:=fun o n=>qCh n o) (f:=lvl) qBv (fun o _=>qLs o)
 obtain ⟨n2,h2⟩:=qCN (F:=fun o n=>qCT n o) (f:=qk) qBv (fun o ho=>qIG o (qQA o ho))
 obtain ⟨n3,h3⟩:=qCN (F:=fun o n=>qv n (qk o) (BR s) (pos s q.1) q.2.1 q.2.2.length (q.2.2.map qb)) (f:=fun o=>((sIs (qk o).toList q).1,qCU s (sIs (qk o).toList q).2)) qBv (fun o ho=>by
  have:=qFk hs (qk o).toList (by rw [qAg];have:=(qN0 o ho).2;omega) q h
  rwa [qFh] at this)
 obtain ⟨n4,h4⟩:=qCN (F:=fun o n=>qv n (qk o) (BR s) (pos s (tb q.1)) q.2.1 q.2.2.length (q.2.2.map qb)) (f:=fun o=>((sIs (qk o).toList (tb q.1,q.2)).1,qCU s (sIs (qk o).toList (tb q.1,q.2)).2)) qBv (fun o ho=>by
  have:=qFk hs (qk o).toList (by rw [qAg];have:=(qN0 o ho).2;omega) (tb q.1,q.2) (qOy h)
  rwa [qFh] at this)
 refine ⟨n1+n2+n3+n4+13,fun n hn=>?_⟩
 obtain ⟨k,rfl,hm⟩:=up1 hn
 have lp:=qLG hs (n:=k) level (tb q.1) (qCB q.1) q.2.2.length (q.2.2.map qb) (h1 k (by omega)) (h2 k (by omega)) 11 0 q.1 k (by omega) (by omega) rfl (fun r' _ hr' o ho=>by
  rcases hr' with rfl|rfl
  ·have:=h3 k (by omega) o ho
   rw [hb] at this
   refine this.trans ?_
   unfold sIs
   rw [if_neg (by rw [hb];simp)]
   by_cases hp:(qk o).toList.isPrefixOf (tb q.1)=true
   ·rw [if_pos hp,if_pos hp,qAg];simp only [qCU,hb]
   ·rw [if_neg hp,if_neg hp];simp only [qCU,hb]
  ·have:=h4 k (by omega) o ho
   rw [hb] at this
   refine this.trans ?_
   unfold sIs
   rw [if_neg (by rw [hb];simp)]
   simp only [qCB]
   by_cases hp:(qk o).toList.isPrefixOf (tb q.1)=true
   ·rw [if_pos hp,if_pos hp,qAg];simp only [qCU,hb]
   ·rw [if_neg hp,if_neg hp];simp only [qCU,hb])
 rw [List.drop_zero,qRC hl] at lp
 unfold sOp
 rw [if_neg (by rw [hb];simp)]
 show qD8 (k+1) level (BR s) (pos s q.1) q.2.1 q.2.2.length (q.2.2.map qb)=_
 rw [hb]
 by_cases h0:qDO level (tb q.1) qBv=0
 ·rw [if_pos h0] at lp
  rw [if_pos h0]
  refine qA lp ?_
  simp only [qCC,qCU,hb,h0]
  rfl
 ·rw [if_neg h0] at lp
  rw [if_neg h0]
  refine qA lp ?_
  simp only [qCC,qCU,hb]
  rfl
theorem qMZ {s:List UInt8} (hs:s.length≤1000) {n:Nat} (r:List UInt8) (hr:r<:+s) (b:Bool) (l:List Nd)
  (h1:∀i,1≤i∧i≤5→qBf n i=some (qX i)) (h2:∀i,1≤i∧i≤5→qCf n i=some (4,i,em))
  (h4:∀i,1≤i∧i≤5→qp n 1 0 4 i em 0 0 false false 0 0 false false [] (BR s) (pos s (r.drop ((qX i).size-1))) b l.length (l.map qb)=some (qCC s (qDe (nd1 (4,i,em)) (r.drop ((qX i).size-1),b,l)))):
  ∀(k:Nat) (i:Int) (M:Nat),1≤i→i+k=6→k+1≤M→zD (qCM n) M (i,BR s,pos s r,b,l.length,l.map qb)=some (match qOR r i k with
   |some e=> .inl (qCC s (qDe (nd1 (4,e,em)) (r.drop ((qX e).size-1),b,l)))
   |none=> .inr (BR s,pos s r,b,l.length,l.map qb))
 |k,i,0,_,_,h=>by omega
 |0,i,M+1,hi,hk,h=>by
  exact qO (qR (decide_eq_false (show ¬i≤5 by omega)) rfl)
 |k+1,i,M+1,hi,hk,h=>by
  have hi5:1≤i∧i≤5:=⟨hi,by omega⟩
  have hsz:1≤(qX i).size∧(qX i).size≤7:=by
   have c:i=1∨i=2∨i=3∨i=4∨i=5:=by omega
   rcases c with rfl|rfl|rfl|rfl|rfl<;>decide+kernel
  have hx:(qX i).extract ((1:Int)).toNat (((qX i).size:Nat):Int).toNat=BR (qX i).toList.tail:=by
   conv=>lhs;rw [←qFh (qX i)]
   rw [qIJ,qj,qAg]
   congr 1
   rw [Int.toNat_natCast,List.take_of_length_le (by rw [qAg];omega)]
   exact List.drop_one
  have hxs:((qX i).extract ((1:Int)).toNat (((qX i).size:Nat):Int).toNat).size=(qX i).size-1:=by
   rw [hx,qj,List.length_tail,qAg]
  have hl:=qCv hr
  have w1:IntKind.i64.wrap (pos s r+(((qX i).extract ((1:Int)).toNat (((qX i).size:Nat):Int).toNat).size:Int))=pos s r+(((qX i).size-1:Nat):Int):=by
   rw [hxs];exact qZ (by unfold pos;omega)
  have w2:IntKind.i64.wrap (i+1)=i+1:=qZ (by omega)
  have ih:=qMZ hs r hr b l h1 h2 h4 k (i+1) M (by omega) (by omega) (by omega)
  unfold qOR
  by_cases hf:pos s r+(((qX i).size-1:Nat):Int)≤(s.length:Int)
  ·have hk2:(qX i).size-1≤r.length:=by unfold pos at hf;omega
   have cmp:(((BR s).extract (pos s r).toNat (IntKind.i64.wrap (pos s r+(((qX i).extract ((1:Int)).toNat (((qX i).size:Nat):Int).toNat).size:Int))).toNat).toList==((qX i).extract ((1:Int)).toNat (((qX i).size:Nat):Int).toNat).toList)=true↔(qX i).toList.tail.isPrefixOf r=true:=by
    rw [w1,qLt hr,hx,qA5,qA5,beq_iff_eq,List.isPrefixOf_iff_prefix,List.prefix_iff_eq_take,List.length_tail,qAg]
    exact ⟨fun e=>e.symm,fun e=>e.symm⟩
   have g1:decide (IntKind.i64.wrap (pos s r+(((qX i).extract ((1:Int)).toNat (((qX i).size:Nat):Int).toNat).size:Int))≤((BR s).size:Int))=true:=decide_eq_true (by rw [w1,qj];exact hf)
   have g2:decide (0≤pos s r∧pos s r≤IntKind.i64.wrap (pos s r+(((qX i).extract ((1:Int)).toNat (((qX i).size:Nat):Int).toNat).size:Int))∧IntKind.i64.wrap (pos s r+(((qX i).extract ((1:Int)).toNat (((qX i).size:Nat):Int).toNat).size:Int))≤((BR s).size:Int))=true:=decide_eq_true (by rw [w1,qj];exact ⟨qI5 _ _,by omega,hf⟩)
   by_cases hp:(qX i).toList.tail.isPrefixOf r=true
   ·rw [if_pos hp]
    have h4:=h4 i hi5
    rw [←qIX hr rfl hk2,←w1] at h4
    exact qO (qN (decide_eq_true (show i≤5 by omega)) (qA (h1 i hi5) (qN (decide_eq_true ⟨by decide,by omega,Int.le_refl _⟩) (qN g1 (qN g2 (qN (cmp.2 hp) (qA (h2 i hi5) (qA h4 rfl))))))))
   ·rw [if_neg hp]
    rw [qa (v':=(i+1,BR s,pos s r,b,l.length,l.map qb)) (by
     refine qN (decide_eq_true (show i≤5 by omega)) (qA (h1 i hi5) (qN (decide_eq_true ⟨by decide,by omega,Int.le_refl _⟩) (qN g1 (qN g2 (qR (by rw [Bool.eq_false_iff];exact fun e=>hp (cmp.1 e)) ?_)))))
     rw [qC,w2])]
    exact ih
  ·have hp:¬(qX i).toList.tail.isPrefixOf r=true:=by
    intro e
    have:=(List.isPrefixOf_iff_prefix.1 e).length_le
    rw [List.length_tail,qAg] at this
    unfold pos at hf
    omega
   rw [if_neg hp]
   rw [qa (v':=(i+1,BR s,pos s r,b,l.length,l.map qb)) (by
    refine qN (decide_eq_true (show i≤5 by omega)) (qA (h1 i hi5) (qN (decide_eq_true ⟨by decide,by omega,Int.le_refl _⟩) (qR (decide_eq_false (by rw [w1,qj];exact hf)) ?_)))
    rw [qC,w2])]
   exact ih
theorem qQp {s:List UInt8} (hs:s.length≤1000) (r:List UInt8) (hr:r<:+s) (b:Bool) (l:List Nd) (hl:l.length≤5000):∃n0,∀n,n0≤n→∀M,n0≤M→zD (qCM n) M (1,BR s,pos s r,b,l.length,l.map qb)=some (match qOR r 1 5 with
   |some e=> .inl (qCC s (qDe (nd1 (4,e,em)) (r.drop ((qX e).size-1),b,l)))
   |none=> .inr (BR s,pos s r,b,l.length,l.map qb)):=by
 obtain ⟨n1,h1⟩:=qE9 (F:=qBf) (f:=qX) (lo:=1) (by decide) (fun i hi=>qIC i ⟨by omega,hi.2⟩)
 obtain ⟨n2,h2⟩:=qE9 (F:=qCf) (f:=fun i=>(4,i,em)) (lo:=1) (by decide) (fun i _=>qLp i)
 obtain ⟨n4,h4⟩:=qE9 (F:=fun n i=>qp n 1 0 4 i em 0 0 false false 0 0 false false [] (BR s) (pos s (r.drop ((qX i).size-1))) b l.length (l.map qb)) (f:=fun i=>qCC s (qDe (nd1 (4,i,em)) (r.drop ((qX i).size-1),b,l))) (lo:=1) (by decide) (fun i _=>qIM (s:=s) (nd1 (4,i,em)) (r.drop ((qX i).size-1),b,l) hl ⟨by simp [kd,nd1],by simp [nd1,em];decide⟩)
 exact ⟨n1+n2+n4+7,fun n hn M hM=>qMZ hs r hr b l (h1 n (by omega)) (h2 n (by omega)) (h4 n (by omega)) 5 1 M (by omega) (by omega) (by omega)⟩
theorem qQq:∃n0,∀n,n0≤n→∀i,1≤i∧i≤10→qCm n i=some (fnS i):=by
 obtain ⟨n1,h1⟩:=qCN (F:=fun (i:Nat) n=>qCm n ((i:Int)+1)) (f:=fun i=>fnS ((i:Int)+1)) (List.range 10) (fun i hi=>qNu _ (by have:=List.mem_range.1 hi;omega))
 refine ⟨n1,fun n hn i hi=>?_⟩
 have:=h1 n hn (i-1).toNat (List.mem_range.2 (by omega))
 rwa [show (((i-1).toNat:Nat):Int)+1=i by omega] at this
theorem qRE {i j:Int} (hi:1≤i∧i≤10) (hj:1≤j∧j≤10) (h:(fnS i).toList=(fnS j).toList):i=j:=by
 have t:∀a:Fin 10,∀b:Fin 10,(fnS (((a.val:Nat):Int)+1)).toList=(fnS (((b.val:Nat):Int)+1)).toList→a=b:=by decide+kernel
 have:=t ⟨(i-1).toNat,by omega⟩ ⟨(j-1).toNat,by omega⟩ (by
  simp only
  rw [show (((i-1).toNat:Nat):Int)+1=i by omega,show (((j-1).toNat:Nat):Int)+1=j by omega]
  exact h)
 have:=congrArg Fin.val this
 simp only at this
 omega
theorem qNS {g:G_spec_l3Rd_row} {n:Nat} {s:List UInt8} (w:List UInt8) (q:PS) (h1:∀i,1≤i∧i≤10→qCm n i=some (fnS i)):
  ∀(k:Nat) (i:Int) (M:Nat),1≤i→i+k=11→k+1≤M→(∀j,i≤j∧j≤10→(fnS j).toList≠w)→zD (qCt g n) M (BR w,i,qCU s q)=some (.inr (BR w,qCU s q))
 |k,i,0,_,_,h,_=>by omega
 |0,i,M+1,hi,hk,h,_=>qO (qR (decide_eq_false (show ¬i≤10 by omega)) rfl)
 |k+1,i,M+1,hi,hk,h,hn=>by
  have w1:IntKind.i64.wrap (i+1)=i+1:=qZ (by omega)
  rw [qa (v':=(BR w,i+1,qCU s q)) (by
   refine qN (decide_eq_true (show i≤10 by omega)) (qA (h1 i ⟨hi,by omega⟩) (qR (by rw [beq_eq_false_iff_ne];show (fnS i).toList≠(BR w).toList;rw [qA5];exact hn i ⟨Int.le_refl _,by omega⟩) ?_))
   rw [qC,w1])]
  exact qNS w q h1 k (i+1) M (by omega) (by omega) (by omega) (fun j hj=>hn j ⟨by omega,hj.2⟩)
theorem qIY {g:G_spec_l3Rd_row} {n:Nat} {s:List UInt8} (w:List UInt8) (q:PS) (res:Int→Int×PS) (h1:∀i,1≤i∧i≤10→qCm n i=some (fnS i))
  (h2:qv n ⟨#[40]⟩ (BR s) (pos s q.1) q.2.1 q.2.2.length (q.2.2.map qb)=some ((sIs [40] q).1,qCU s (sIs [40] q).2)):
  ∀(k:Nat) (i:Int) (M:Nat),1≤i→i+k=11→k+1≤M→(∀op,qEp w i k=some op→(sIs [40] q).1=true→g.spec_l3Rd_call op (BR s) (pos s (sIs [40] q).2.1) (sIs [40] q).2.2.1 (sIs [40] q).2.2.2.length ((sIs [40] q).2.2.2.map qb)=some (qCC s (res op)))→
   zD (qCt g n) M (BR w,i,qCU s q)=some (match qEp w i k with
   |some op=>if (sIs [40] q).1=true then .inl (qCC s (res op)) else .inr (BR w,qCU s (sIs [40] q).2)
   |none=> .inr (BR w,qCU s q))
 |k,i,0,_,_,h,_=>by omega
 |0,i,M+1,hi,hk,h,_=>qO (qR (decide_eq_false (show ¬i≤10 by omega)) rfl)
 |k+1,i,M+1,hi,hk,h,hc=>by
  have w1:IntKind.i64.wrap (i+1)=i+1:=qZ (by omega)
  unfold qEp at hc⊢
  by_cases hq:(fnS i).toList=w
  ·rw [if_pos hq] at hc⊢
   have hqb:((fnS i).toList==(BR w).toList)=true:=by rw [beq_iff_eq,qA5];exact hq
   simp only
   cases hi2:(sIs [40] q).1 with
   |true=>
    rw [if_pos rfl]
    exact qO (qN (decide_eq_true (show i≤10 by omega)) (qA (h1 i ⟨hi,by omega⟩) (qN hqb (qA h2 (qN hi2 (qA (hc i rfl hi2) rfl))))))
   |false=>
    rw [if_neg (by simp)]
    rw [qa (v':=(BR w,i+1,qCU s (sIs [40] q).2)) (by
     refine qN (decide_eq_true (show i≤10 by omega)) (qA (h1 i ⟨hi,by omega⟩) (qN hqb (qA h2 (qR hi2 ?_))))
     rw [qC,w1])]
    exact qNS w _ h1 k (i+1) M (by omega) (by omega) (by omega) (fun j hj e=>by
     have:=qRE (i:=i) (j:=j) ⟨hi,by omega⟩ ⟨by omega,hj.2⟩ (hq.trans e.symm)
     omega)
  ·rw [if_neg hq] at hc⊢
   rw [qa (v':=(BR w,i+1,qCU s q)) (by
    refine qN (decide_eq_true (show i≤10 by omega)) (qA (h1 i ⟨hi,by omega⟩) (qR (by rw [beq_eq_false_iff_ne];show (fnS i).toList≠(BR w).toList;rw [qA5];exact hq) ?_))
    rw [qC,w1])]
   exact qIY w q res h1 h2 k (i+1) M (by omega) (by omega) (by omega) hc
structure Go (k:Nat) (q q':PS):Prop where
 suf:q'.1<:+q.1
 sum:q'.2.2.length+q'.1.length+k≤q.2.2.length+q.1.length
 sm:(∀x∈q.2.2,qM1 x)→∀x∈q'.2.2,qM1 x
theorem Go.refl (q:PS):Go 0 q q:=⟨List.suffix_rfl,Nat.le_refl _,id⟩
theorem Go.trans {a b:Nat} {p q r:PS} (h:Go a p q) (h':Go b q r):Go (a+b) p r:=⟨h'.suf.trans h.suf,by have:=h.sum;have:=h'.sum;omega,fun e=>h'.sm (h.sm e)⟩
theorem Go.tr0 {p q r:PS} (h:Go 0 p q) (h':Go 0 q r):Go 0 p r:=h.trans h'
theorem Go.add {p q:PS} {x:Nd} (h:Go 1 p q) (hx:qM1 x):Go 0 p (qDe x q).2:=by
 refine ⟨h.suf,?_,fun e y hy=>?_⟩
 ·have:=h.sum
  simp only [qDe,List.length_append,List.length_singleton]
  omega
 ·simp only [qDe,List.mem_append,List.mem_singleton] at hy
  rcases hy with hy|rfl
  ·exact h.sm e y hy
  ·exact hx
theorem Go.weak {k:Nat} {p q:PS} (h:Go k p q):Go 0 p q:=⟨h.suf,by have:=h.sum;omega,h.sm⟩
theorem Go.of (q:PS) {r:List UInt8} (b:Bool) {k:Nat} (h:r<:+q.1) (hk:r.length+k≤q.1.length):Go k q (r,b,q.2.2):=⟨h,by simp only;omega,id⟩
theorem qKO (q:PS):Go 0 q (tb q.1,q.2):=⟨List.dropWhile_suffix _,by have:=qr q.1;simp only;omega,id⟩
theorem qNT (q:PS):Go 0 q (wr (tb q.1),q.2):=⟨(List.dropWhile_suffix _).trans (List.dropWhile_suffix _),by have:=qr q.1;have:=qFg (tb q.1);simp only;omega,id⟩
theorem qQB (q:PS) (h:wd (tb q.1)≠ []):Go 1 q (wr (tb q.1),q.2):=⟨(List.dropWhile_suffix _).trans (List.dropWhile_suffix _),by
 have:=qr q.1
 have e:=congrArg List.length (wdr (tb q.1))
 have:=List.length_pos_iff.2 h
 simp only [List.length_append] at e
 simp only;omega,id⟩
theorem qI6 {w:List UInt8} {q:PS} (h:(sIs w q).1=true):w<+:tb q.1∧(sIs w q).2=((tb q.1).drop w.length,q.2)∧q.2.1=false:=by
 unfold sIs at h⊢
 split at h
 ·cases h
 ·rename_i hb
  rw [if_neg hb]
  split at h
  ·rename_i hp
   rw [if_pos hp]
   exact ⟨List.isPrefixOf_iff_prefix.1 hp,rfl,by rw [Bool.eq_false_iff];exact hb⟩
  ·cases h
theorem qNU {w:List UInt8} {q:PS} (h:(sIs w q).1=false):(sIs w q).2=(tb q.1,q.2):=by
 unfold sIs at h⊢
 split at h
 ·rename_i hb;rw [if_pos hb]
 ·rename_i hb
  rw [if_neg hb]
  split at h
  ·cases h
  ·rename_i hp;rw [if_neg hp]
theorem qIN (w:List UInt8) (q:PS):Go 0 q (sIs w q).2:=by
 cases h:(sIs w q).1 with
 |true=>
  obtain ⟨_,h2,_⟩:=qI6 h
  rw [h2]
  exact Go.tr0 (qKO q) ⟨List.drop_suffix _ _,by simp,id⟩
 |false=>rw [qNU h];exact qKO q
theorem qEH {w:List UInt8} (hw:w≠ []) {q:PS} (h:(sIs w q).1=true):Go 1 q (sIs w q).2:=by
 obtain ⟨h1,h2,_⟩:=qI6 h
 rw [h2]
 have l1:=h1.length_le
 have l2:=List.length_pos_iff.2 hw
 have:=qr q.1
 exact ⟨(List.drop_suffix _ _).trans (List.dropWhile_suffix _),by simp;omega,id⟩
theorem qMa {k:Nat} {p q:PS} (h:Go k p q):Go k p (qJZ q):=⟨h.suf,h.sum,h.sm⟩
theorem qQC:∀(t r:List UInt8),(tb r).length≤(tb (t++r)).length
 | [],r=>Nat.le_refl _
 |c::t,r=>by
  have ih:=qQC t r
  have:=qr (t++r)
  by_cases hc:c=32
  ·rw [show tb (c::t++r)=tb (t++r) by simp [tb,hc]];exact ih
  ·rw [show tb (c::t++r)=c::(t++r) by simp [tb,hc]]
   simp only [List.length_cons];omega
theorem Go.tb {k:Nat} {p q:PS} (h:Go k p q):(tb q.1).length≤(tb p.1).length:=by
 obtain ⟨t,ht⟩:=h.suf
 rw [←ht];exact qQC t q.1
theorem qPP {w:List UInt8} (hw:w≠ []) {q:PS} (h:(sIs w q).1=true):(tb (sIs w q).2.1).length<(tb q.1).length:=by
 obtain ⟨h1,h2,_⟩:=qI6 h
 rw [h2]
 exact qNy hw h1
theorem qPQ (level:Int) (r:List UInt8):∀l:List Int,qDO level r l≠0→qDO level r l∈l∧(qk (qDO level r l)).toList<+:r
 | [],h=>absurd rfl h
 |o::l,h=>by
  unfold qDO at h⊢
  split at h
  ·rename_i hc
   rw [if_pos hc]
   exact ⟨List.mem_cons_self ..,List.isPrefixOf_iff_prefix.1 hc.2⟩
  ·rename_i hc
   rw [if_neg hc]
   have:=qPQ level r l h
   exact ⟨List.mem_cons_of_mem _ this.1,this.2⟩
theorem qQz (level:Int) (q:PS):Go 0 q (sOp level q).2∧((sOp level q).1≠0→Go 1 q (sOp level q).2∧(tb (sOp level q).2.1).length<(tb q.1).length):=by
 unfold sOp
 split
 ·exact ⟨qKO q,fun h=>absurd rfl h⟩
 ·simp only
  by_cases h:qDO level (tb q.1) qBv=0
  ·rw [if_pos h]
   exact ⟨qKO q,fun e=>absurd h e⟩
  ·rw [if_neg h]
   obtain ⟨h1,h2⟩:=qPQ level (tb q.1) qBv h
   have ne:=(qN0 _ h1).1
   have l1:=h2.length_le
   have l2:=List.length_pos_iff.2 ne
   rw [qAg] at l1 l2
   have l3:=qr q.1
   have g:Go 1 q ((tb q.1).drop (qk (qDO level (tb q.1) qBv)).size,q.2):=⟨(List.drop_suffix _ _).trans (List.dropWhile_suffix _),by simp;omega,id⟩
   have t:=qNy ne h2
   rw [qAg] at t
   exact ⟨g.weak,fun _=>⟨g,t⟩⟩
theorem qLH:∀(k:Nat) (acc r:List UInt8) {w t:List UInt8},r.length≤k→qBd acc r=some (w,t)→t<:+r
 |k,acc,[],w,t,hk,h=>by simp [qBd] at h
 |0,acc,c::r,w,t,hk,h=>by simp at hk
 |k+1,acc,c::r,w,t,hk,h=>by
  simp only [List.length_cons] at hk
  by_cases hc:c=34
  ·subst hc
   by_cases hq:r.head?=some 34
   ·obtain ⟨u,rfl⟩:=qLF hq
    rw [qQj] at h
    simp only [List.length_cons] at hk
    have:=qLH k _ u (by omega) h
    exact this.trans ((List.suffix_cons 34 u).trans (List.suffix_cons 34 _))
   ·rw [qQk acc r hq] at h
    cases h
    exact List.suffix_cons 34 _
  ·rw [qQl acc r hc] at h
   exact (qLH k _ r (by omega) h).trans (List.suffix_cons c _)
def Ks:SJ→PS→Prop
 | .call _ kids,q=>q.2.1=true∨kids.length+q.1.length≤1500
 |_,_=>True
theorem qHE {k op:Int} {kids:List Int} (h:kids.length≤2000):qM1 (ndK k op kids):=⟨h,by simp [ndK,em];decide⟩
theorem qBg {k:Nat} {p q:PS} (h:Go k p q):q.1.length≤p.1.length:=h.suf.length_le
theorem qEM (H:RdOK):∀(f:Nat) (j:SJ) (q:PS),q.1.length≤1000→Ks j q→Go 0 q (sP f j q).2
 |0,j,q,_,_=>Go.refl q
 |f+1,.row level,q,hr,_=>by
  unfold sP
  split
  ·exact Go.refl q
  ·split
   ·exact qEM H f .one q hr trivial
   ·have a:=qEM H f (.row (level+1)) q hr trivial
    exact a.tr0 (qEM H f (.rl level _) _ (Nat.le_trans (qBg a) hr) trivial)
 |f+1,.rl level a,q,hr,_=>by
  unfold sP
  split
  ·exact Go.refl q
  ·simp only
   have o:=qQz level q
   split
   ·exact o.1
   ·rename_i h0
    have o1:=(o.2 h0).1
    have b:=qEM H f (.row (level+1)) (sOp level q).2 (Nat.le_trans (qBg o1) hr) trivial
    have c:=Go.add (x:=ndK 5 (sOp level q).1 [a,(sP f (.row (level+1)) (sOp level q).2).1]) (o1.trans b) (qHE (by simp))
    exact c.tr0 (qEM H f (.rl level _) _ (Nat.le_trans (qBg c) hr) trivial)
 |f+1,.one,q,hr,_=>by
  unfold sP
  split
  ·rename_i h
   have a:=qEH (by simp) h
   have b:=qEM H f (.row 5) (sIs [45] q).2 (Nat.le_trans (qBg a) hr) trivial
   exact Go.add (a.trans b) (qHE (by simp))
  ·have a:=qIN [45] q
   split
   ·rename_i h
    have c:=a.tr0 (qEH (by simp) h).weak
    have b:=qEM H f (.row 1) (sIs [40] (sIs [45] q).2).2 (Nat.le_trans (qBg c) hr) trivial
    have d:=(c.tr0 b).tr0 (qIN [41] _)
    simp only
    split
    ·exact d
    ·exact qMa d
   ·simp only
    have t:=qKO q
    split
    ·rename_i h
     have c:=qEH (by simp) h
     obtain ⟨_,e,_⟩:=qI6 h
     split
     ·exact ⟨List.nil_suffix,by simp,id⟩
     ·rename_i w u hq
      have d:=qLH _ _ _ (Nat.le_refl _) hq
      have d2:=d.length_le
      have dz:=qFj _ _ _ (Nat.le_refl _) hq
      have g:=t.trans c
      have l:=qBg g
      have sg:=g.sum
      have eq:(sIs [34] (tb q.1,q.2)).2.2=q.2:=by rw [e]
      rw [eq] at sg
      simp only [List.length_nil] at dz
      exact Go.add (q:=(u,q.2)) ⟨d.trans g.suf,by simp only;omega,id⟩ ⟨by simp [kd,nd1],by simp only [nd1,qj];omega⟩
    ·split
     ·rename_i h
      have c:=qEH (by simp) h
      obtain ⟨_,e,_⟩:=qI6 h
      have g:=t.trans c
      have l:=qBg g
      have sg:=g.sum
      have eq:(sIs [35] (tb q.1,q.2)).2.2=q.2:=by rw [e]
      rw [eq] at sg
      split
      ·exact Go.add (q:=(_,q.2)) ⟨(List.drop_suffix _ _).trans g.suf,by simp;omega,id⟩ ⟨by simp [kd,nd1],by simp [nd1,em];decide⟩
      ·exact ⟨g.suf,by simp only;omega,id⟩
     ·have w:=qNT q
      split
      ·split
       ·have c:=w.tr0 (qIN [40] _)
        exact c.tr0 (qEM H f (.call _ []) _ (Nat.le_trans (qBg c) hr) (.inr (by have:=qBg c;simp only [List.length_nil];omega)))
       ·exact qMa (w.tr0 (qIN [40] _))
      ·split
       ·rename_i hv
        exact Go.add (qQB q hv.2) ⟨by simp [kd,nd1],qIL hv.1 (H.v _ (qOv _) hv.2 hv.1)⟩
       ·split
        ·rename_i hp
         exact Go.add (qQB q (fun e=>by rw [e,H.p0] at hp;cases hp)) ⟨by simp [kd,ndC],by simp [ndC,em];decide⟩
        ·exact qMa w
 |f+1,.call op kids,q,hr,hk=>by
  unfold sP
  split
  ·exact Go.refl q
  ·rename_i hb
   have hk:kids.length+q.1.length≤1500:=hk.elim (fun h=>absurd h hb) id
   have a:=qEM H f .arg q hr trivial
   simp only
   split
   ·rename_i h
    exact Go.add (a.trans (qEH (by simp) h)) (qHE (by simp;omega))
   ·have c:=a.tr0 (qIN [41] _)
    split
    ·rename_i h
     have d:=c.trans (qEH (by simp) h)
     obtain ⟨e1,e2,_⟩:=qI6 h
     have l:=e1.length_le
     have l2:=qBg c
     have l3:=qr (sIs [41] (sP f .arg q).2).2.1
     simp only [List.length_cons,List.length_nil] at l
     exact d.weak.tr0 (qEM H f (.call op _) _ (Nat.le_trans (qBg d) hr) (.inr (by rw [e2];simp;omega)))
    ·have d:=qMa (c.tr0 (qIN [44] _))
     exact d.tr0 (qEM H f (.call op _) _ (Nat.le_trans (qBg d) hr) (.inl rfl))
 |f+1,.arg,q,hr,_=>by
  unfold sP
  simp only
  have w:=qNT q
  split
  ·rename_i h
   have c:=w.trans (qEH (by simp) h.2)
   have d:=c.trans (qNT _)
   split
   ·exact Go.add d ⟨by simp [kd,ndA],by simp [ndA,em];decide⟩
   ·exact ⟨d.suf,by have:=d.sum;simp only at this⊢;omega,d.sm⟩
  ·have t:=qKO q
   exact t.tr0 (qEM H f (.row 1) _ (Nat.le_trans (qBg t) hr) trivial)
def As (f:Nat):SJ→PS→Prop
 | .row level,q=>((20*(tb q.1).length+10:Nat):Int)-level≤f∧1≤level∧level≤5
 | .rl level _,q=>20*(tb q.1).length+5≤f∧1≤level∧level≤4
 | .one,q=>20*(tb q.1).length+4≤f∧q.2.1=false
 | .call _ _,q=>(q.2.1=true∧1≤f)∨20*(tb q.1).length+12≤f
 | .arg,q=>20*(tb q.1).length+10≤f
def Iv (s:List UInt8) (q:PS):Prop:=q.1<:+s∧q.2.2.length+q.1.length≤2000
theorem Iv.go {s:List UInt8} {k:Nat} {q q':PS} (h:Iv s q) (g:Go k q q'):Iv s q':=⟨g.suf.trans h.1,by have:=g.sum;have:=h.2;omega⟩
def Ws (s:List UInt8):SJ→PS→Int×PS→Prop
 | .row level,q,r=>Ev (qDh · level (BR s) (pos s q.1) q.2.1 q.2.2.length (q.2.2.map qb)) (qCC s r)
 | .rl level a,q,r=>∃x,(x= .inl (qCC s r)∨x= .inr (qCC s r))∧∃n0,∀n,n0≤n→∀M,n0≤M→zD (qDk (qd n) n) M (level,a,qCU s q)=some x
 | .one,q,r=>Ev (qHR · (BR s) (pos s q.1) q.2.1 q.2.2.length (q.2.2.map qb)) (qCC s r)
 | .call op kids,q,r=>∃x,(x= .inl (qCC s r)∨(x= .inr (qCU s r.2)∧r.1=0))∧∃n0,∀n,n0≤n→∀M,n0≤M→zD (qDV (qd n) n) M (op,kids.length,kids.map qA9,qCU s q)=some x
 | .arg,q,r=>Ev (qHS · (BR s) (pos s q.1) q.2.1 q.2.2.length (q.2.2.map qb)) (qCC s r)
theorem srp (r:List UInt8) (h:r.length≤1000):Ev (qAW · (BR (wd r))) (qAa (BR (wd r))):=qKA _ (by rw [qj];have:=qNx r;omega)
theorem srv (r:List UInt8) (h:r.length≤1000):Ev (qAD · (BR (wd r))) (qf (BR (wd r))):=qJ7 _ (by rw [qj];have:=qNx r;omega)
theorem qRa {r:List UInt8} (h:wd r≠ []):(tb (wr r)).length<r.length:=by
 have e:=congrArg List.length (wdr r)
 have:=List.length_pos_iff.2 h
 have:=qr (wr r)
 simp only [List.length_append] at e
 omega
def qN1 (n:Nat) (w:ByteArray) (c:ByteArray×Int×Bool×Nat×List (List PV)):Tr (Int×ByteArray×Int×Bool×Nat×List (List PV)):=
 (.opt (qAW n w) fun r=>(.ask (!r.2.2.2.2) (.done (0,c.1,c.2.1,true,c.2.2.2.1,c.2.2.2.2))
  (.opt (qp n 2 0 0 0 ⟨#[]⟩ r.1 r.2.1 r.2.2.1 r.2.2.2.1 0 0 false false [] c.1 c.2.1 c.2.2.1 c.2.2.2.1 c.2.2.2.2) fun t=> .done (t.1,t.2.1,t.2.2.1,t.2.2.2.1,t.2.2.2.2.1,t.2.2.2.2.2))))
def qRF (n:Nat) (w:ByteArray) (c:ByteArray×Int×Bool×Nat×List (List PV)):Tr (Int×ByteArray×Int×Bool×Nat×List (List PV)):=
 (.opt (qAD n w) fun r=>(.ask r.2.2.2
  (.ask (!(w.toList==(⟨#[]⟩:ByteArray).toList))
   (.opt (qp n 1 0 r.1 r.2.1 r.2.2.1 0 0 false false 0 0 false false [] c.1 c.2.1 c.2.2.1 c.2.2.2.1 c.2.2.2.2) fun t=> .done (t.1,t.2.1,t.2.2.1,t.2.2.2.1,t.2.2.2.2.1,t.2.2.2.2.2))
   (qN1 n w c))
  (qN1 n w c)))
def qMb (w:List UInt8) (q3:PS):Int×PS:=
 if (qf (BR w)).2.2.2=true∧w≠ [] then qDe (nd1 ((qf (BR w)).1,(qf (BR w)).2.1,(qf (BR w)).2.2.1)) q3
 else if (qAa (BR w)).2.2.2.2=true then qDe (ndC (qAa (BR w))) q3
 else (0,qJZ q3)
theorem qNV (H:RdOK) {s:List UInt8} (r:List UInt8) (q:PS) (hr:r.length≤1000) (hn:q.2.2.length≤5000):∃n0,∀n,n0≤n→(qRF n (BR (wd r)) (qCU s q)).run=some (qCC s (qMb (wd r) q)):=by
 obtain ⟨n1,h1⟩:=srv r hr
 obtain ⟨n2,h2⟩:=srp r hr
 obtain ⟨n4,h4⟩:=qIM (s:=s) (ndC (qAa (BR (wd r)))) q hn ⟨by simp [kd,ndC],by simp [ndC,em];decide⟩
 have place:∃n0,∀n,n0≤n→(qN1 n (BR (wd r)) (qCU s q)).run=some (qCC s (if (qAa (BR (wd r))).2.2.2.2=true then qDe (ndC (qAa (BR (wd r)))) q else (0,qJZ q))):=by
  refine ⟨n2+n4,fun n hn=>?_⟩
  cases hp:(qAa (BR (wd r))).2.2.2.2 with
  |true=>rw [if_pos rfl];exact qA (h2 n (by omega)) (qR (qLR hp) (qA (h4 n (by omega)) rfl))
  |false=>rw [if_neg (by simp)];exact qA (h2 n (by omega)) (qN (qGp hp) rfl)
 obtain ⟨n5,h5⟩:=place
 by_cases hv:(qf (BR (wd r))).2.2.2=true∧wd r≠ []
 ·obtain ⟨n3,h3⟩:=qIM (s:=s) (nd1 ((qf (BR (wd r))).1,(qf (BR (wd r))).2.1,(qf (BR (wd r))).2.2.1)) q hn ⟨by simp [kd,nd1],qIL hv.1 (H.v _ (qOv _) hv.2 hv.1)⟩
  refine ⟨n1+n3,fun n hn=>?_⟩
  unfold qMb
  rw [if_pos hv]
  exact qA (h1 n (by omega)) (qN hv.1 (qN (qGp (by rw [beq_eq_false_iff_ne,qA5,qx];exact hv.2)) (qA (h3 n (by omega)) rfl)))
 ·refine ⟨n1+n5,fun n hn=>?_⟩
  unfold qMb
  rw [if_neg hv]
  refine qA (h1 n (by omega)) ?_
  by_cases ho:(qf (BR (wd r))).2.2.2=true
  ·have e:wd r= []:=Classical.byContradiction fun e=>hv ⟨ho,e⟩
   exact qN ho (qR (qLR (by rw [beq_iff_eq,qA5,qx];exact e)) (h5 n (by omega)))
  ·exact qR (by rw [Bool.eq_false_iff];exact ho) (h5 n (by omega))
theorem qEV (H:RdOK) {s:List UInt8} (hs:s.length≤1000):∀(f:Nat) (j:SJ) (q:PS),As f j q→Iv s q→Ks j q→Ws s j q (sP f j q)
 |0,j,q,ha,_,_=>by cases j<;>simp [As] at ha<;>omega
 |f+1,.row level,q,ha,hi,_=>by
  obtain ⟨ha,hl1,hl5⟩:=ha
  have hr:q.1.length≤1000:=Nat.le_trans (qCv hi.1) hs
  unfold sP
  by_cases hb:q.2.1=true
  ·rw [if_pos hb]
   refine ⟨1,fun n hn=>?_⟩
   obtain ⟨k,rfl,hm⟩:=up1 hn
   exact qN hb rfl
  ·have hb:q.2.1=false:=by rw [Bool.eq_false_iff];exact hb
   rw [if_neg (by rw [hb];simp)]
   by_cases h5:level=5
   ·rw [if_pos h5]
    obtain ⟨n1,h1⟩:=qEV H hs f .one q ⟨by omega,hb⟩ hi trivial
    refine ⟨n1+1,fun n hn=>?_⟩
    obtain ⟨k,rfl,hm⟩:=up1 hn
    exact qR hb (qN (beq_iff_eq.2 h5) (qA (h1 k (by omega)) rfl))
   ·rw [if_neg h5]
    have g:=qEM H f (.row (level+1)) q hr trivial
    have gl:=g.tb
    obtain ⟨n1,h1⟩:=qEV H hs f (.row (level+1)) q ⟨by omega,by omega,by omega⟩ hi trivial
    generalize sP f (.row (level+1)) q=Q at g gl h1⊢
    obtain ⟨x,hx,n2,h2⟩:=qEV H hs f (.rl level Q.1) Q.2 ⟨by omega,by omega,by omega⟩ (hi.go g) trivial
    refine ⟨n1+n2+1,fun n hn=>?_⟩
    obtain ⟨k,rfl,hm⟩:=up1 hn
    have w1:IntKind.i64.wrap (level+1)=level+1:=qZ (by omega)
    have h1:=h1 k (by omega)
    rw [←w1] at h1
    have h2:=h2 k (by omega) k (by omega)
    rcases hx with rfl|rfl
    ·exact qR hb (qR (beq_eq_false_iff_ne.2 h5) (qA h1 (qA h2 rfl)))
    ·exact qR hb (qR (beq_eq_false_iff_ne.2 h5) (qA h1 (qA h2 rfl)))
 |f+1,.rl level a,q,ha,hi,_=>by
  obtain ⟨ha,hl1,hl4⟩:=ha
  have hr:q.1.length≤1000:=Nat.le_trans (qCv hi.1) hs
  unfold sP
  by_cases hb:q.2.1=true
  ·rw [if_pos hb]
   refine ⟨.inr (qCC s (a,q)),.inr rfl,1,fun n hn M hM=>?_⟩
   obtain ⟨M,rfl,hM⟩:=up1 hM
   exact qO (qR (qLR hb) rfl)
  ·have hb:q.2.1=false:=by rw [Bool.eq_false_iff];exact hb
   rw [if_neg (by rw [hb];simp)]
   simp only
   obtain ⟨n1,h1⟩:=qRD hs (level:=level) ⟨hl1,hl4⟩ q hb hi.1
   have o:=qQz level q
   generalize sOp level q=O at h1 o⊢
   by_cases h0:O.1=0
   ·rw [if_pos h0]
    refine ⟨.inl (qCC s (a,O.2)),.inl rfl,n1+1,fun n hn M hM=>?_⟩
    obtain ⟨M,rfl,hM⟩:=up1 hM
    exact qO (qN (qGp hb) (qA (h1 n (by omega)) (qN (beq_iff_eq.2 h0) rfl)))
   ·rw [if_neg h0]
    obtain ⟨o1,o2⟩:=o.2 h0
    have b:=qEM H f (.row (level+1)) O.2 (Nat.le_trans (qBg o1) hr) trivial
    obtain ⟨n2,h2⟩:=qEV H hs f (.row (level+1)) O.2 ⟨by omega,by omega,by omega⟩ (hi.go o1) trivial
    have ib:=(hi.go o1).go b
    have tbb:=b.tb
    have c:=Go.add (x:=ndK 5 O.1 [a,(sP f (.row (level+1)) O.2).1]) (o1.trans b) (qHE (by simp))
    generalize sP f (.row (level+1)) O.2=Q at h2 b ib tbb c⊢
    obtain ⟨n3,h3⟩:=qIM (s:=s) (ndK 5 O.1 [a,Q.1]) Q.2 (by have:=ib.2;omega) (qHE (by simp))
    have rest:(qDe (ndK 5 O.1 [a,Q.1]) Q.2).2.1=Q.2.1:=rfl
    generalize qDe (ndK 5 O.1 [a,Q.1]) Q.2=C at h3 c rest⊢
    obtain ⟨x,hx,n4,h4⟩:=qEV H hs f (.rl level C.1) C.2 ⟨by rw [rest];omega,hl1,hl4⟩ (hi.go c) trivial
    refine ⟨x,hx,n1+n2+n3+n4+1,fun n hn M hM=>?_⟩
    obtain ⟨M,rfl,hM⟩:=up1 hM
    have w1:IntKind.i64.wrap (level+1)=level+1:=qZ (by omega)
    have h2:=h2 n (by omega)
    rw [←w1] at h2
    rw [qa (v':=(level,C.1,qCU s C.2)) (by
     exact qN (qGp hb) (qA (h1 n (by omega)) (qR (beq_eq_false_iff_ne.2 h0) (qA h2 (qN rfl (qA (h3 n (by omega)) rfl))))))]
    exact h4 n (by omega) M (by omega)
 |f+1,.one,q,ha,hi,_=>by
  obtain ⟨ha,hb⟩:=ha
  have hr:q.1.length≤1000:=Nat.le_trans (qCv hi.1) hs
  unfold sP
  obtain ⟨n1,h1⟩:=qFk hs [45] (by simp) q hi.1
  cases c1:(sIs [45] q).1 with
  |true=>
   rw [if_pos rfl]
   have a:=qEH (by simp) c1
   have al:=qPP (by simp) c1
   have b:=qEM H f (.row 5) (sIs [45] q).2 (Nat.le_trans (qBg a) hr) trivial
   obtain ⟨n2,h2⟩:=qEV H hs f (.row 5) (sIs [45] q).2 ⟨by omega,by omega,by omega⟩ (hi.go a) trivial
   have ib:=(hi.go a).go b
   simp only
   generalize sP f (.row 5) (sIs [45] q).2=Q at h2 ib⊢
   obtain ⟨n3,h3⟩:=qIM (s:=s) (ndK 4 0 [Q.1]) Q.2 (by have:=ib.2;omega) (qHE (by simp))
   refine ⟨n1+n2+n3+1,fun n hn=>?_⟩
   obtain ⟨k,rfl,hm⟩:=up1 hn
   exact qA (h1 k (by omega)) (qN c1 (qA (h2 k (by omega)) (qN rfl (qA (h3 k (by omega)) rfl))))
  |false=>
   rw [if_neg (by simp)]
   have a:=qIN [45] q
   obtain ⟨n2,h2⟩:=qFk hs [40] (by simp) (sIs [45] q).2 (hi.go a).1
   cases c2:(sIs [40] (sIs [45] q).2).1 with
   |true=>
    rw [if_pos rfl]
    have b:=qEH (by simp) c2
    have al:=qPP (by simp) c2
    have atb:=a.tb
    have g1:=a.trans b
    have b2:=qEM H f (.row 1) (sIs [40] (sIs [45] q).2).2 (Nat.le_trans (qBg g1) hr) trivial
    obtain ⟨n3,h3⟩:=qEV H hs f (.row 1) (sIs [40] (sIs [45] q).2).2 ⟨by omega,by omega,by omega⟩ (hi.go g1) trivial
    have ib:=(hi.go g1).go b2
    simp only
    generalize sP f (.row 1) (sIs [40] (sIs [45] q).2).2=Q at h3 ib⊢
    obtain ⟨n4,h4⟩:=qFk hs [41] (by simp) Q.2 ib.1
    refine ⟨n1+n2+n3+n4+1,fun n hn=>?_⟩
    obtain ⟨k,rfl,hm⟩:=up1 hn
    refine qA (h1 k (by omega)) (qR c1 (qA (h2 k (by omega)) (qN c2 (qA (h3 k (by omega)) (qA (h4 k (by omega)) ?_)))))
    cases c3:(sIs [41] Q.2).1 with
    |true=>rw [if_pos rfl];exact qR rfl rfl
    |false=>rw [if_neg (by simp)];exact qN rfl rfl
   |false=>
    rw [if_neg (by simp)]
    have e2:(sIs [40] (sIs [45] q).2).2=(tb q.1,q.2):=by
     rw [qNU c2,qNU c1];simp only [qCB]
    rw [e2] at h2
    have t:=qKO q
    have it:=hi.go t
    obtain ⟨n3,h3⟩:=qFk hs [34] (by simp) (tb q.1,q.2) it.1
    simp only
    cases c3:(sIs [34] (tb q.1,q.2)).1 with
    |true=>
     rw [if_pos rfl]
     have b:=qEH (by simp) c3
     have ib:=it.go b
     have eq2:(sIs [34] (tb q.1,q.2)).2.2=q.2:=by obtain ⟨_,e,_⟩:=qI6 c3;rw [e]
     obtain ⟨n4,h4⟩:=qP9 hs (sIs [34] (tb q.1,q.2)).2 ib.1 (by have:=ib.2;omega)
     refine ⟨n1+n2+n3+n4+1,fun n hn=>?_⟩
     obtain ⟨k,rfl,hm⟩:=up1 hn
     refine qA (h1 k (by omega)) (qR c1 (qA (h2 k (by omega)) (qR c2 (qA (h3 k (by omega)) (qN c3 (qA (h4 k (by omega)) ?_))))))
     rw [qC,eq2]
     all_goals (cases qBd [] (sIs [34] (tb q.1,q.2)).2.1<;>rfl)
    |false=>
     rw [if_neg (by simp)]
     have e3:(sIs [34] (tb q.1,q.2)).2=(tb q.1,q.2):=by rw [qNU c3];simp only [qCB]
     rw [e3] at h3
     obtain ⟨n4,h4⟩:=qFk hs [35] (by simp) (tb q.1,q.2) it.1
     cases c4:(sIs [35] (tb q.1,q.2)).1 with
     |true=>
      rw [if_pos rfl]
      have b:=qEH (by simp) c4
      have ib:=it.go b
      have eq2:(sIs [35] (tb q.1,q.2)).2.2=q.2:=by obtain ⟨_,e,_⟩:=qI6 c4;rw [e]
      obtain ⟨n5,h5⟩:=qQp hs (sIs [35] (tb q.1,q.2)).2.1 ib.1 q.2.1 q.2.2 (by have:=hi.2;omega)
      have h4:=fun k hk=>h4 k hk
      refine ⟨n1+n2+n3+n4+n5+1,fun n hn=>?_⟩
      obtain ⟨k,rfl,hm⟩:=up1 hn
      have h4:=h4 k (by omega)
      have h5:=h5 k (by omega) k (by omega)
      have e4:qCU s (sIs [35] (tb q.1,q.2)).2=(BR s,pos s (sIs [35] (tb q.1,q.2)).2.1,q.2.1,q.2.2.length,q.2.2.map qb):=by unfold qCU;rw [eq2]
      rw [e4] at h4
      refine qA (h1 k (by omega)) (qR c1 (qA (h2 k (by omega)) (qR c2 (qA (h3 k (by omega)) (qR c3 (qA h4 (qN c4 (qA h5 ?_))))))))
      cases qOR (sIs [35] (tb q.1,q.2)).2.1 1 5<;>rfl
     |false=>
      rw [if_neg (by simp)]
      have e4:(sIs [35] (tb q.1,q.2)).2=(tb q.1,q.2):=by rw [qNU c4];simp only [qCB]
      rw [e4] at h4
      obtain ⟨n5,h5⟩:=qMY hs (tb q.1,q.2) it.1
      have w:=qNT q
      have iw:=hi.go w
      have htl:=qr q.1
      obtain ⟨n6,h6⟩:=qFk hs [40] (by simp) (wr (tb q.1),q.2) iw.1
      obtain ⟨n7,h7⟩:=qQq
      obtain ⟨n9,h9⟩:=qNV H (s:=s) (tb q.1) (wr (tb q.1),q.2) (by omega) (by have:=hi.2;simp only;omega)
      have gi:=qIN [40] (wr (tb q.1),q.2)
      cases hf:qEp (wd (tb q.1)) 1 10 with
      |none=>
       simp only
       refine ⟨n1+n2+n3+n4+n5+n6+n7+n9+12+1,fun n hn=>?_⟩
       obtain ⟨k,rfl,hm⟩:=up1 hn
       have lp:=qIY (g:=qd k) (s:=s) (wd (tb q.1)) (wr (tb q.1),q.2) (fun _=>(0,q)) (h7 k (by omega)) (h6 k (by omega)) 10 1 k (by omega) (by omega) (by omega) (fun op h=>by rw [hf] at h;cases h)
       rw [hf] at lp
       exact qA (h1 k (by omega)) (qR c1 (qA (h2 k (by omega)) (qR c2 (qA (h3 k (by omega)) (qR c3 (qA (h4 k (by omega)) (qR c4 (qA (h5 k (by omega)) (qA lp (h9 k (by omega)))))))))))
      |some op=>
       have wne:wd (tb q.1)≠ []:=fun e=>by rw [e,H.f0] at hf;cases hf
       have wlt:=qRa wne
       simp only
       cases c5:(sIs [40] (wr (tb q.1),q.2)).1 with
       |true=>
        rw [if_pos rfl]
        have il:=qPP (by simp) c5
        simp only at il
        obtain ⟨x,hx,n8,h8⟩:=qEV H hs f (.call op []) (sIs [40] (wr (tb q.1),q.2)).2 (.inr (by omega)) (iw.go gi) (.inr (by have:=qBg (w.tr0 gi);simp only [List.length_nil];omega))
        have hcall:Ev (qGf · op (BR s) (pos s (sIs [40] (wr (tb q.1),q.2)).2.1) (sIs [40] (wr (tb q.1),q.2)).2.2.1 (sIs [40] (wr (tb q.1),q.2)).2.2.2.length ((sIs [40] (wr (tb q.1),q.2)).2.2.2.map qb)) (qCC s (sP f (.call op []) (sIs [40] (wr (tb q.1),q.2)).2)):=by
         refine ⟨n8+1,fun n hn=>?_⟩
         obtain ⟨k,rfl,hm⟩:=up1 hn
         have h8:=h8 k (by omega) k (by omega)
         rcases hx with rfl|⟨rfl,hz⟩
         ·exact qA h8 rfl
         ·refine qA h8 ?_
          show some ((0:Int),qCU s _)=some (_,qCU s _)
          rw [hz]
        obtain ⟨n10,h10⟩:=hcall
        refine ⟨n1+n2+n3+n4+n5+n6+n7+n10+12+1,fun n hn=>?_⟩
        obtain ⟨k,rfl,hm⟩:=up1 hn
        have lp:=qIY (g:=qd k) (s:=s) (wd (tb q.1)) (wr (tb q.1),q.2) (fun op=>sP f (.call op []) (sIs [40] (wr (tb q.1),q.2)).2) (h7 k (by omega)) (h6 k (by omega)) 10 1 k (by omega) (by omega) (by omega) (fun op' h _=>by rw [hf] at h;cases h;exact h10 k (by omega))
        rw [hf] at lp
        simp only at lp
        rw [if_pos c5] at lp
        exact qA (h1 k (by omega)) (qR c1 (qA (h2 k (by omega)) (qR c2 (qA (h3 k (by omega)) (qR c3 (qA (h4 k (by omega)) (qR c4 (qA (h5 k (by omega)) (qA lp rfl)))))))))
       |false=>
        rw [if_neg (by simp)]
        obtain ⟨v1,v2⟩:=H.f _ _ hf
        obtain ⟨n9,h9⟩:=qNV H (s:=s) (tb q.1) (sIs [40] (wr (tb q.1),q.2)).2 (by omega) (by have:=(iw.go gi).2;omega)
        have er:qMb (wd (tb q.1)) (sIs [40] (wr (tb q.1),q.2)).2=(0,qJZ (sIs [40] (wr (tb q.1),q.2)).2):=by
         unfold qMb
         rw [if_neg (fun h=>by rw [v1] at h;cases h.1),if_neg (by rw [v2];simp)]
        rw [er] at h9
        refine ⟨n1+n2+n3+n4+n5+n6+n7+n9+12+1,fun n hn=>?_⟩
        obtain ⟨k,rfl,hm⟩:=up1 hn
        have lp:=qIY (g:=qd k) (s:=s) (wd (tb q.1)) (wr (tb q.1),q.2) (fun _=>(0,q)) (h7 k (by omega)) (h6 k (by omega)) 10 1 k (by omega) (by omega) (by omega) (fun op' h h'=>by rw [c5] at h';cases h')
        rw [hf] at lp
        simp only at lp
        rw [if_neg (by rw [c5];simp)] at lp
        exact qA (h1 k (by omega)) (qR c1 (qA (h2 k (by omega)) (qR c2 (qA (h3 k (by omega)) (qR c3 (qA (h4 k (by omega)) (qR c4 (qA (h5 k (by omega)) (qA lp (h9 k (by omega)))))))))))
 |f+1,.call op kids,q,ha,hi,hk=>by
  have hr:q.1.length≤1000:=Nat.le_trans (qCv hi.1) hs
  unfold sP
  by_cases hb:q.2.1=true
  ·rw [if_pos hb]
   refine ⟨.inr (qCU s q),.inr ⟨rfl,rfl⟩,1,fun n hn M hM=>?_⟩
   obtain ⟨M,rfl,hM⟩:=up1 hM
   exact qO (qR (qLR hb) rfl)
  ·have hk:kids.length+q.1.length≤1500:=hk.elim (fun h=>absurd h hb) id
   have ha:20*(tb q.1).length+12≤f+1:=ha.elim (fun h=>absurd h.1 hb) id
   have hb:q.2.1=false:=by rw [Bool.eq_false_iff];exact hb
   rw [if_neg (by rw [hb];simp)]
   simp only
   have a:=qEM H f .arg q hr trivial
   obtain ⟨n1,h1⟩:=qEV H hs f .arg q (by show 20*_+10≤f;omega) hi trivial
   generalize sP f .arg q=A at a h1⊢
   have ia:=hi.go a
   have ta:=a.tb
   have ra:=qBg a
   obtain ⟨n2,h2⟩:=qFk hs [41] (by simp) A.2 ia.1
   have kl:decide (kids.length=(kids.map qA9).length∧0<1∧0<8∧(kids.length+([[(PV.i .i64 A.1)]]:List (List PV)).length)*8≤140737488355328∧([[(PV.i .i64 A.1)]]:List (List PV)).all (fun e=>e.length==1)=true)=true:=decide_eq_true ⟨by simp,by decide,by decide,by simp;omega,rfl⟩
   have k1:(kids++ [A.1]).length=kids.length+1:=by simp
   have k2:(kids++ [A.1]).map qA9=kids.map qA9++ [[PV.i .i64 A.1]]:=by simp [qA9]
   cases c1:(sIs [41] A.2).1 with
   |true=>
    rw [if_pos rfl]
    have g:=a.trans (qEH (by simp) c1)
    obtain ⟨n3,h3⟩:=qIM (s:=s) (ndK 6 op (kids++ [A.1])) (sIs [41] A.2).2 (by have:=(hi.go g).2;omega) (qHE (by simp;omega))
    refine ⟨.inl (qCC s (qDe (ndK 6 op (kids++ [A.1])) (sIs [41] A.2).2)),.inl rfl,n1+n2+n3+1,fun n hn M hM=>?_⟩
    obtain ⟨M,rfl,hM⟩:=up1 hM
    have h3:_=some _:=h3 n (by omega)
    simp only [ndK,kd] at h3
    rw [k2] at h3
    exact qO (qN (qGp hb) (qA (h1 n (by omega)) (qN rfl (qN kl (qA (h2 n (by omega)) (qN c1 (qN (decide_eq_true (by simp)) (qA h3 rfl))))))))
   |false=>
    rw [if_neg (by simp)]
    have g:=a.tr0 (qIN [41] A.2)
    have gt:=(qIN [41] A.2).tb
    have i2:=hi.go g
    obtain ⟨n3,h3⟩:=qFk hs [44] (by simp) (sIs [41] A.2).2 i2.1
    cases c2:(sIs [44] (sIs [41] A.2).2).1 with
    |true=>
     rw [if_pos rfl]
     have b:=qEH (by simp) c2
     have bl:=qPP (by simp) c2
     have bs:=qBg (g.trans b)
     have b1:=b.sum
     have eq3:(sIs [44] (sIs [41] A.2).2).2.2=(sIs [41] A.2).2.2:=by obtain ⟨_,e,_⟩:=qI6 c2;rw [e]
     rw [eq3] at b1
     have g0:=qBg g
     obtain ⟨x,hx,n4,h4⟩:=qEV H hs f (.call op (kids++ [A.1])) (sIs [44] (sIs [41] A.2).2).2 (.inr (by omega)) (i2.go b) (.inr (by rw [k1];omega))
     refine ⟨x,hx,n1+n2+n3+n4+1,fun n hn M hM=>?_⟩
     obtain ⟨M,rfl,hM⟩:=up1 hM
     have h4:=h4 n (by omega) M (by omega)
     rw [k1,k2] at h4
     rw [qa (v':=(op,kids.length+1,kids.map qA9++ [[PV.i .i64 A.1]],qCU s (sIs [44] (sIs [41] A.2).2).2)) (by
      exact qN (qGp hb) (qA (h1 n (by omega)) (qN rfl (qN kl (qA (h2 n (by omega)) (qR c1 (qA (h3 n (by omega)) (qR (qLR c2) rfl))))))))]
     exact h4
    |false=>
     rw [if_neg (by simp)]
     have b:=qIN [44] (sIs [41] A.2).2
     obtain ⟨x,hx,n4,h4⟩:=qEV H hs f (.call op (kids++ [A.1])) (qJZ (sIs [44] (sIs [41] A.2).2).2) (.inl ⟨rfl,by omega⟩) (i2.go (qMa b)) (.inl rfl)
     refine ⟨x,hx,n1+n2+n3+n4+1,fun n hn M hM=>?_⟩
     obtain ⟨M,rfl,hM⟩:=up1 hM
     have h4:=h4 n (by omega) M (by omega)
     rw [k1,k2] at h4
     rw [qa (v':=(op,kids.length+1,kids.map qA9++ [[PV.i .i64 A.1]],qCU s (qJZ (sIs [44] (sIs [41] A.2).2).2))) (by
      exact qN (qGp hb) (qA (h1 n (by omega)) (qN rfl (qN kl (qA (h2 n (by omega)) (qR c1 (qA (h3 n (by omega)) (qN (qGp c2) rfl))))))))]
     exact h4
 |f+1,.arg,q,ha,hi,_=>by
  replace ha:20*(tb q.1).length+10≤f+1:=ha
  have hr:q.1.length≤1000:=Nat.le_trans (qCv hi.1) hs
  have htl:=qr q.1
  unfold sP
  simp only
  have t:=qKO q
  have it:=hi.go t
  have w:=qNT q
  have iw:=hi.go w
  obtain ⟨n1,h1⟩:=qNz hs q hi.1
  obtain ⟨n2,h2⟩:=qMY hs (tb q.1,q.2) it.1
  obtain ⟨n3,h3⟩:=srp (tb q.1) (by omega)
  obtain ⟨n4,h4⟩:=qFk hs [58] (by simp) (wr (tb q.1),q.2) iw.1
  have eq2:(sIs [58] (wr (tb q.1),q.2)).2.2=q.2:=by
   cases c:(sIs [58] (wr (tb q.1),q.2)).1 with
   |true=>obtain ⟨_,e,_⟩:=qI6 c;rw [e]
   |false=>rw [qNU c]
  by_cases hc:(qAa (BR (wd (tb q.1)))).2.2.2.2=true∧(sIs [58] (wr (tb q.1),q.2)).1=true
  ·rw [if_pos hc]
   have g:=w.trans (qEH (by simp) hc.2)
   have ig:=hi.go g
   have rg:=qBg g
   generalize sIs [58] (wr (tb q.1),q.2)=I at*
   have gt:=qKO I.2
   have gw:=qNT I.2
   have il:=qr I.2.1
   obtain ⟨n5,h5⟩:=qNz hs I.2 ig.1
   obtain ⟨n6,h6⟩:=qMY hs (tb I.2.1,I.2.2) (ig.go gt).1
   obtain ⟨n7,h7⟩:=srp (tb I.2.1) (by omega)
   cases hp:(qAa (BR (wd (tb I.2.1)))).2.2.2.2 with
   |true=>
    rw [if_pos rfl]
    obtain ⟨n8,h8⟩:=qIM (s:=s) (ndA (qAa (BR (wd (tb q.1)))) (qAa (BR (wd (tb I.2.1))))) (wr (tb I.2.1),I.2.2) (by have:=(ig.go gw).2;simp only at this⊢;omega) ⟨by simp [kd,ndA],by simp [ndA,em];decide⟩
    refine ⟨n1+n2+n3+n4+n5+n6+n7+n8+1,fun n hn=>?_⟩
    obtain ⟨k,rfl,hm⟩:=up1 hn
    exact qA (h1 k (by omega)) (qA (h2 k (by omega)) (qA (h3 k (by omega)) (qN hc.1 (qA (h4 k (by omega)) (qN hc.2 (qA (h5 k (by omega)) (qA (h6 k (by omega)) (qA (h7 k (by omega)) (qR (qLR hp) (qA (h8 k (by omega)) rfl))))))))))
   |false=>
    rw [if_neg (by simp)]
    refine ⟨n1+n2+n3+n4+n5+n6+n7+1,fun n hn=>?_⟩
    obtain ⟨k,rfl,hm⟩:=up1 hn
    exact qA (h1 k (by omega)) (qA (h2 k (by omega)) (qA (h3 k (by omega)) (qN hc.1 (qA (h4 k (by omega)) (qN hc.2 (qA (h5 k (by omega)) (qA (h6 k (by omega)) (qA (h7 k (by omega)) (qN (qGp hp) rfl)))))))))
  ·rw [if_neg hc]
   obtain ⟨n5,h5⟩:=qEV H hs f (.row 1) (tb q.1,q.2) ⟨by simp only [qCB];omega,by omega,by omega⟩ it trivial
   refine ⟨n1+n2+n3+n4+n5+1,fun n hn=>?_⟩
   obtain ⟨k,rfl,hm⟩:=up1 hn
   cases hp:(qAa (BR (wd (tb q.1)))).2.2.2.2 with
   |true=>
    have ht:(sIs [58] (wr (tb q.1),q.2)).1=false:=by rw [Bool.eq_false_iff];exact fun e=>hc ⟨hp,e⟩
    have h4:=h4 k (by omega)
    have e4:qCU s (sIs [58] (wr (tb q.1),q.2)).2=(BR s,pos s (sIs [58] (wr (tb q.1),q.2)).2.1,q.2.1,q.2.2.length,q.2.2.map qb):=by unfold qCU;rw [eq2]
    rw [e4] at h4
    exact qA (h1 k (by omega)) (qA (h2 k (by omega)) (qA (h3 k (by omega)) (qN hp (qA h4 (qR ht (qA (h5 k (by omega)) rfl))))))
   |false=>exact qA (h1 k (by omega)) (qA (h2 k (by omega)) (qA (h3 k (by omega)) (qR hp (qA (h5 k (by omega)) rfl))))
theorem qPi {w:List UInt8} (h:w.all wch=true) (hn:w≠ []):(qAe (BR w)).1=1∨(qAe (BR w)).1=3:=by
 cases w with
 |nil=>exact absurd rfl hn
 |cons c t=>
  simp only [List.all_cons,Bool.and_eq_true] at h
  have h39:¬(c::t).head?=some 39:=by
   intro e;simp at e;rw [e] at h;exact absurd h.1 (by decide)
  have h35:¬(c::t).head?=some 35:=by
   intro e;simp at e;rw [e] at h;exact absurd h.1 (by decide)
  unfold qAe
  rw [qA5,if_neg h39]
  split
  ·exact .inr rfl
  ·split
   ·exact .inr rfl
   ·exact .inl rfl
theorem qPj:RdOK where
 v:=fun w h hn ho=>by
  have c:=qPi h hn
  unfold qf at ho⊢
  split at ho
  ·rename_i hc;rw [if_pos hc];exact c
  ·cases ho
 v0:=by
  have:(qf (BR [])).1=0:=by
   have:(qf ⟨#[]⟩).1=0:=by decide+kernel
   exact this
  rw [this];decide
 p0:=by
  have:(qAa ⟨#[]⟩).2.2.2.2=false:=by decide+kernel
  exact this
 f:=fun w op h=>by
  have t:∀a:Fin 10,(qf (fnS (((a.val:Nat):Int)+1))).2.2.2=false∧(qAa (fnS (((a.val:Nat):Int)+1))).2.2.2.2=false:=by decide+kernel
  have e:∀(k:Nat) (i:Int),1≤i→i+k≤11→qEp w i k=some op→∃j:Int,1≤j∧j≤10∧(fnS j).toList=w:=by
   intro k
   induction k with
   |zero=>intro i _ _ h;cases h
   |succ k ih=>
    intro i h1 h2 h
    unfold qEp at h
    split at h
    ·rename_i hq;exact ⟨i,h1,by omega,hq⟩
    ·exact ih (i+1) (by omega) (by omega) h
  obtain ⟨j,j1,j2,rfl⟩:=e 10 1 (by omega) (by omega) h
  rw [qFh]
  have:=t ⟨(j-1).toNat,by omega⟩
  simp only at this
  rwa [show (((j-1).toNat:Nat):Int)+1=j by omega] at this
 f0:=by decide+kernel
 n:=fun n hn=>by
  have c:n=1∨n=2∨n=3∨n=4∨n=5:=by omega
  rcases c with rfl|rfl|rfl|rfl|rfl
  ·exact ⟨[68,73,86,33],by decide+kernel⟩
  ·exact ⟨[84,89,80,69,33],by decide+kernel⟩
  ·exact ⟨[82,69,70,33],by decide+kernel⟩
  ·exact ⟨[79,86,69,82,33],by decide+kernel⟩
  ·exact ⟨[67,89,67,76,69,33],by decide+kernel⟩
def qLT (s:ByteArray):PS:=(pP 4050 (.bin 1 0) (s.toList,false,[])).2
def qCy (s:ByteArray):List Nd×Bool:=
 if qD9 s 200=true∧(qLT s).2.1=false∧tb (qLT s).1= []∧qDq (qLT s).2.2=true then ((qLT s).2.2,true) else ([],false)
theorem qLI {s:ByteArray} (h:qD9 s 200=true):s.toList.length≤200:=by
 unfold qD9 at h
 simp only [Bool.and_eq_true,decide_eq_true_eq] at h
 rw [qAg];omega
theorem qOz {s:ByteArray} (h:qD9 s 200=true):Gd (s.toList,false,[]):=⟨by have:=qLI h;simp only;omega,by simp,fun x hx=>by cases hx⟩
theorem qFD {l:List Nd} (h:∀x∈l,qM1 x):∀c∈l,(kd c).length≤140737488351232∧c.2.2.2.2.1.size≤140737488351232:=fun c hc=>by
 have:=h c hc
 exact ⟨by have:=this.1;omega,by have:=this.2;omega⟩
theorem qE6 (s:ByteArray) (hb:s.size≤140737488351232):Ev (qCs · s) ((qCy s).1.map qb,(qCy s).2):=by
 obtain ⟨n1,h1⟩:=qH9 s 200 hb
 by_cases hp:qD9 s 200=true
 ·have hl:=qLI hp
  have htb:=qr s.toList
  have hg:=qOz hp
  obtain ⟨n2,h2⟩:=qEU 4050 (.bin 1 0) (s.toList,false,[]) (by show 20*(tb s.toList).length+6≤4050;omega) ⟨by decide,by decide⟩ hg trivial
  have g:=(qEL 4050 (.bin 1 0) (s.toList,false,[]) hg trivial).1
  have e0:(pP 4050 (.bin 1 0) (s.toList,false,[])).2=qLT s:=rfl
  rw [e0] at g
  generalize pP 4050 (.bin 1 0) (s.toList,false,[])=P at h2 e0
  rw [qFh] at h2
  unfold qCy
  rw [←e0] at g⊢
  obtain ⟨n3,h3⟩:=qF1 P.2.1 P.2.2.2.length P.2.2.1 (P.2.2.2.map qb)
  obtain ⟨n4,h4⟩:=qEF P.2.2.2 (by have:=g.n;omega) (qFD g.s)
  refine ⟨n1+n2+n3+n4+1,fun n hn=>?_⟩
  obtain ⟨k,rfl,hm⟩:=up1 hn
  have h1:=h1 k (by omega)
  rw [hp] at h1
  refine qA h1 (qR rfl (qA (h2 k (by omega)) (qA (h3 k (by omega)) ?_)))
  by_cases hbad:P.2.2.1=true
  ·rw [if_neg (fun h=>by rw [hbad] at h;cases h.2.1)]
   exact qN hbad (qN rfl rfl)
  ·have hbad:P.2.2.1=false:=by rw [Bool.eq_false_iff];exact hbad
   refine qR hbad ?_
   by_cases hr:tb P.2.1= []
   ·refine qR (qLR (by rw [beq_iff_eq,qx];show (BR (tb P.2.1)).toList= [];rw [qA5];exact hr)) (qN (decide_eq_true (by simp)) (qA (h4 k (by omega)) (qN (qE _) ?_)))
    cases ho:qDq P.2.2.2 with
    |true=>
     rw [if_pos ⟨hp,hbad,hr,rfl⟩]
     exact qR rfl (qN (decide_eq_true (by simp)) rfl)
    |false=>
     rw [if_neg (fun h=>by cases h.2.2.2)]
     exact qN rfl (qN rfl rfl)
   ·rw [if_neg (fun h=>hr h.2.2.1)]
    exact qN (qGp (by rw [beq_eq_false_iff_ne,qx];show (BR (tb P.2.1)).toList≠ [];rw [qA5];exact hr)) (qN rfl rfl)
 ·refine ⟨n1+1,fun n hn=>?_⟩
  obtain ⟨k,rfl,hm⟩:=up1 hn
  unfold qCy
  rw [if_neg (fun h=>hp h.1)]
  exact qA (h1 k (by omega)) (qN (qGp (by rw [Bool.eq_false_iff];exact hp)) (qN rfl rfl))
theorem qPk {l:List Nd} (h:∃x∈l,qBy x=false):qDq l=false:=by
 obtain ⟨x,hx,hb⟩:=h
 rw [Bool.eq_false_iff]
 intro ho
 unfold qDq at ho
 simp only [Bool.and_eq_true] at ho
 obtain ⟨i,hi⟩:=List.mem_iff_getElem?.1 hx
 have hil:=(List.getElem?_eq_some_iff.1 hi).1
 have:=(qEo.1 ho.2.1 (i:Int) (by omega) (by omega)).1
 unfold qFA at this
 have e:ndi l (i:Int)=x:=by unfold ndi;simp [hi]
 rw [e,hb] at this
 cases this
theorem qIt (s:ByteArray) (hb:s.size≤140737488351232):Ev (qDl · s) ((qCy s).1.map qb,(qCy s).2):=by
 obtain ⟨n1,h1⟩:=qHU s hb
 by_cases hp:qD9 s 200=true
 ·have hl:=qLI hp
  have hs:s.toList.length≤1000:=by omega
  have htb:=qr s.toList
  have hg:=qOz hp
  have gi:=(qEL 4050 (.bin 1 0) (s.toList,false,[]) hg trivial).1
  have sim:=(qQi qPj (tb s.toList).length).2.2.1 (s.toList,false,[]) (s.toList,false,[]) 0 4 4050 4050 (by omega) ⟨rfl,rfl,rfl,rfl⟩ rfl (by omega) (by omega) (by omega) (by omega)
  rw [show (5:Int)-((4:Nat):Int)=1 from rfl] at sim
  have iv:Iv s.toList (s.toList,false,[]):=⟨List.suffix_rfl,by simp;omega⟩
  obtain ⟨n2,h2⟩:=qEV qPj hs 4050 (.row 1) (s.toList,false,[]) ⟨by simp only;omega,by omega,by omega⟩ iv trivial
  have g:=qEM qPj 4050 (.row 1) (s.toList,false,[]) hs trivial
  have e0:(pP 4050 (.bin 1 0) (s.toList,false,[])).2=qLT s:=rfl
  generalize pP 4050 (.bin 1 0) (s.toList,false,[])=P at sim e0 gi
  generalize sP 4050 (.row 1) (s.toList,false,[])=Q at sim h2 g
  unfold qCy
  rw [←e0]
  obtain ⟨n3,h3⟩:=qNz hs Q.2 (iv.go g).1
  obtain ⟨n4,h4⟩:=qKD Q.2.2.2 (qFD (g.sm (fun x hx=>by cases hx)))
  have p0:pos s.toList s.toList=0:=by unfold pos;simp
  simp only [qFh,p0] at h2 h3
  have g2:=(qOy (iv.go g).1)
  refine ⟨n1+n2+n3+n4+1,fun n hn=>?_⟩
  obtain ⟨k,rfl,hm⟩:=up1 hn
  have h1:=h1 k (by omega)
  rw [hp] at h1
  have h2:=h2 k (by omega)
  have h3:=h3 k (by omega)
  have e1:qCC s.toList Q=(Q.1,s,pos s.toList Q.2.1,Q.2.2.1,Q.2.2.2.length,Q.2.2.2.map qb):=by unfold qCC qCU;rw [qFh]
  have e2:qCU s.toList (tb Q.2.1,Q.2.2)=(s,pos s.toList (tb Q.2.1),Q.2.2.1,Q.2.2.2.length,Q.2.2.2.map qb):=by unfold qCU;rw [qFh]
  rw [e1] at h2
  rw [e2] at h3
  refine qA h1 (qR rfl (qA h2 (qA h3 ?_)))
  rcases sim with ⟨_,hk,_⟩|⟨hbad,hd⟩
  ·obtain ⟨k1,k2,k3,k4⟩:=hk
   rw [k1,k3,k4]
   refine qR k2 ?_
   by_cases hr:tb Q.2.1= []
   ·refine qR (decide_eq_false (show ¬pos s.toList (tb Q.2.1)<(s.size:Int) by rw [hr];unfold pos;simp [qAg])) (qN (decide_eq_true (by simp)) (qA (h4 k (by omega)) (qN (qE _) ?_)))
    cases ho:qDq Q.2.2.2 with
    |true=>
     rw [if_pos ⟨hp,rfl,hr,rfl⟩]
     exact qR rfl (qN (decide_eq_true (by simp)) rfl)
    |false=>
     rw [if_neg (fun h=>by cases h.2.2.2)]
     exact qN rfl (qN rfl rfl)
   ·rw [if_neg (fun h=>hr h.2.2.1)]
    have hlp:=List.length_pos_iff.2 hr
    have hsl:=qCv g2
    exact qN (decide_eq_true (show pos s.toList (tb Q.2.1)<(s.size:Int) by rw [qAg] at hsl;unfold pos;rw [qAg];omega)) (qN rfl rfl)
  ·rw [if_neg (fun h=>by
    rcases hd with hd|hd
    ·rw [hd] at h;cases h.2.1
    ·rw [qPk hd] at h;cases h.2.2.2)]
   exact qN hbad (qN rfl rfl)
 ·refine ⟨n1+1,fun n hn=>?_⟩
  obtain ⟨k,rfl,hm⟩:=up1 hn
  unfold qCy
  rw [if_neg (fun h=>hp h.1)]
  exact qA (h1 k (by omega)) (qN (qGp (by rw [Bool.eq_false_iff];exact hp)) (qN rfl rfl))
theorem qFl (s:ByteArray):(qCy s).1.length≤60∧∀x∈(qCy s).1,qM1 x:=by
 unfold qCy
 split
 ·rename_i h
  have g:=(qEL 4050 (.bin 1 0) (s.toList,false,[]) (qOz h.1) trivial).1
  exact ⟨g.n,g.s⟩
 ·exact ⟨by simp,fun x hx=>by cases hx⟩
theorem qO0 (t:ByteArray):Ev (qBY · ((qCy t).1.map qb)) (qGm (qCy t).1):=qIs _ (by have:=(qFl t).1;omega) (qFD (qFl t).2)
theorem qMc (l:List Nd):(qGm l).size≤200:=by
 unfold qGm
 split
 ·split
  ·decide
  ·omega
 ·decide
theorem qRb {s:ByteArray} (h:s.toList≠ []):(s.toList==(⟨#[]⟩:ByteArray).toList)=false:=by rw [qx];exact beq_eq_false_iff_ne.2 h
theorem qRc {s:ByteArray} (h:s.toList= []):(s.toList==(⟨#[]⟩:ByteArray).toList)=true:=by rw [qx];exact beq_iff_eq.2 h
theorem qQD {s:ByteArray} (h:(qf s).2.2.2=true):okV (qf s).1 (qf s).2.1 (qf s).2.2.1=true∧(qAH (qf s).1 (qf s).2.1 (qf s).2.2.1)=s:=by
 unfold qf at h⊢
 split at h
 ·rename_i hc
  rw [if_pos hc]
  exact ⟨hc.1,qDE hc.2⟩
 ·cases h
theorem qKP {r:List UInt8} (h:r.head?≠some 32):tb r=r:=by
 cases r with
 |nil=>rfl
 |cons c t=>
  have:¬c=32:=fun e=>h (by rw [e];rfl)
  simp [tb,this]
theorem qN2 {w r:List UInt8} (h:w.all wch=true) (h2:∀c,r.head?=some c→wch c=false):wd (w++r)=w∧wr (w++r)=r:=by
 unfold wd wr
 rw [List.all_eq_true] at h
 rw [List.takeWhile_append_of_pos h,List.dropWhile_append_of_pos h]
 cases r with
 |nil=>simp
 |cons c r=>simp [h2 c rfl]
def Fo (r:List UInt8):Prop:=∀c,r.head?=some c→c∈([38,43,45,42,47,60,61,62,41,44]:List UInt8)
theorem qQE:Fo []:=fun c h=>by cases h
theorem qCS {c:UInt8} {r:List UInt8} (h:c∈([38,43,45,42,47,60,61,62,41,44]:List UInt8)):Fo (c::r):=fun d hd=>by
 simp at hd;subst hd;exact h
theorem qJa {r:List UInt8} (h:Fo r):∀c,r.head?=some c→wch c=false:=fun c hc=>by
 have:=h c hc
 revert this
 simp only [List.mem_cons,List.not_mem_nil,or_false]
 rintro (rfl|rfl|rfl|rfl|rfl|rfl|rfl|rfl|rfl|rfl)<;>decide
theorem qPR {r:List UInt8} (h:Fo r) {d:UInt8} (hd:d∉([38,43,45,42,47,60,61,62,41,44]:List UInt8)):r.head?≠some d:=fun e=>hd (h d e)
theorem qPS {r:List UInt8} (h:Fo r):tb r=r:=qKP (qPR h (by decide))
theorem qN3:∀(b acc r:List UInt8),r.head?≠some 34→qBd acc (qBa b++34::r)=some (acc++b,r)
 | [],acc,r,h=>by simp only [qBa,List.flatMap_nil,List.nil_append,List.append_nil];exact qQk acc r h
 |c::b,acc,r,h=>by
  rw [qFe]
  by_cases hc:c=34
  ·subst hc
   rw [if_pos rfl]
   show qBd acc (34::34::(qBa b++34::r))=_
   rw [qQj,qN3 b _ r h]
   simp
  ·rw [if_neg hc]
   show qBd acc (c::(qBa b++34::r))=_
   rw [qQl _ _ hc,qN3 b _ r h]
   simp
def Sta (r:List UInt8):Prop:=∃c,r.head?=some c∧(wch c=true∨c=45∨c=40∨c=34∨c=35)
theorem qN4 {r:List UInt8} (h:Sta r) {d:UInt8} (h1:wch d=false) (h2:d≠45∧d≠40∧d≠34∧d≠35):r.head?≠some d:=fun e=>by
 obtain ⟨c,hc,hw⟩:=h
 rw [e] at hc
 cases hc
 rcases hw with hw|rfl|rfl|rfl|rfl
 ·rw [h1] at hw;cases hw
 ·exact h2.1 rfl
 ·exact h2.2.1 rfl
 ·exact h2.2.2.1 rfl
 ·exact h2.2.2.2 rfl
theorem qO1 {r:List UInt8} (h:Sta r):tb r=r:=qKP (qN4 h (by decide) (by decide))
theorem qHF {r:List UInt8} (h:Sta r) (x:List UInt8):Sta (r++x):=by
 obtain ⟨c,hc,hw⟩:=h
 cases r with
 |nil=>cases hc
 |cons d t=>exact ⟨c,hc,hw⟩
theorem qOd {op:Int} (ho:1≤op∧op≤11) {x:List UInt8} (hx:Sta x):sgn ((qk op).toList++x)=(qk op).toList:=by
 have n61:x.head?≠some 61:=qN4 hx (by decide) (by decide)
 have n62:x.head?≠some 62:=qN4 hx (by decide) (by decide)
 have c:op=1∨op=2∨op=3∨op=4∨op=5∨op=6∨op=7∨op=8∨op=9∨op=10∨op=11:=by omega
 rcases c with rfl|rfl|rfl|rfl|rfl|rfl|rfl|rfl|rfl|rfl|rfl
 ·rw [sg1];exact (qEG 43 x (by decide) (by decide)).trans (by decide)
 ·rw [sg2];exact (qEG 45 x (by decide) (by decide)).trans (by decide)
 ·rw [sg3];exact (qEG 42 x (by decide) (by decide)).trans (by decide)
 ·rw [sg4];exact (qEG 47 x (by decide) (by decide)).trans (by decide)
 ·rw [sg5];exact (qEG 38 x (by decide) (by decide)).trans (by decide)
 ·rw [sg6];exact (qEG 61 x (by decide) (by decide)).trans (by decide)
 ·rw [sg7];exact (qII (62::x)).trans (by simp)
 ·rw [sg8];exact (qII x).trans (by rw [if_neg n62,if_neg n61])
 ·rw [sg9];exact (qII (61::x)).trans (by simp)
 ·rw [qOt];exact (qK9 x).trans (by rw [if_neg n61])
 ·rw [qOu];exact (qK9 (61::x)).trans (by simp)
theorem qNW {op:Int} (ho:1≤op∧op≤11) {r:List UInt8} (h:sgn r=(qk op).toList):qAI r=op:=by
 unfold qAI
 rw [h]
 have c:op=1∨op=2∨op=3∨op=4∨op=5∨op=6∨op=7∨op=8∨op=9∨op=10∨op=11:=by omega
 rcases c with rfl|rfl|rfl|rfl|rfl|rfl|rfl|rfl|rfl|rfl|rfl<;>decide+kernel
theorem qN5 {op:Int} (ho:1≤op∧op≤11) (x:List UInt8):Fo ((qk op).toList++x):=by
 have c:op=1∨op=2∨op=3∨op=4∨op=5∨op=6∨op=7∨op=8∨op=9∨op=10∨op=11:=by omega
 rcases c with rfl|rfl|rfl|rfl|rfl|rfl|rfl|rfl|rfl|rfl|rfl
 ·rw [sg1];exact qCS (by decide)
 ·rw [sg2];exact qCS (by decide)
 ·rw [sg3];exact qCS (by decide)
 ·rw [sg4];exact qCS (by decide)
 ·rw [sg5];exact qCS (by decide)
 ·rw [sg6];exact qCS (by decide)
 ·rw [sg7];exact qCS (by decide)
 ·rw [sg8];exact qCS (by decide)
 ·rw [sg9];exact qCS (by decide)
 ·rw [qOt];exact qCS (by decide)
 ·rw [qOu];exact qCS (by decide)
theorem qQF {op:Int} (ho:1≤op∧op≤11):1≤(qk op).toList.length:=by
 have c:op=1∨op=2∨op=3∨op=4∨op=5∨op=6∨op=7∨op=8∨op=9∨op=10∨op=11:=by omega
 rcases c with rfl|rfl|rfl|rfl|rfl|rfl|rfl|rfl|rfl|rfl|rfl<;>decide+kernel
theorem qN6 (x:List UInt8):qAI (41::x)=0:=by
 unfold qAI
 rw [qEG 41 x (by decide) (by decide)]
 decide
theorem qQr (x:List UInt8):qAI (44::x)=0:=by
 unfold qAI
 rw [qEG 44 x (by decide) (by decide)]
 decide
theorem qOe:qAI []=0:=by decide
theorem qN7 {c:UInt8} (hc:c∈([45,40,41,44,58]:List UInt8)) {p:PS} (h:(tb p.1).head?≠some c):qW [c] p=(false,tb p.1,p.2):=by
 unfold qW
 rw [if_neg]
 intro e
 exact h ((qDf c _).1 ((qPI hc _).1 e))
theorem qIO {c:UInt8} (hc:c∈([45,40,41,44,58]:List UInt8)) {r:List UInt8} (h32:c≠32) (b:Bool) (l:List Nd):qW [c] (c::r,b,l)=(true,r,b,l):=by
 have t:tb (c::r)=c::r:=qKP (by simpa using h32)
 unfold qW
 simp only [t]
 rw [if_pos ((qPI hc _).2 ((qDf c _).2 rfl))]
 rfl
theorem qRG {n:Int} (hn:1≤n∧n≤5) (r:List UInt8):qF0 ((qX n).toList++r) 1 5=some n:=by
 have t1:(qX 1).toList= [35,68,73,86,33]:=by rw [Go.Lib.toList_data];rfl
 have t2:(qX 2).toList= [35,84,89,80,69,33]:=by rw [Go.Lib.toList_data];rfl
 have t3:(qX 3).toList= [35,82,69,70,33]:=by rw [Go.Lib.toList_data];rfl
 have t4:(qX 4).toList= [35,79,86,69,82,33]:=by rw [Go.Lib.toList_data];rfl
 have t5:(qX 5).toList= [35,67,89,67,76,69,33]:=by rw [Go.Lib.toList_data];rfl
 have a2:(1:Int)+1=2:=rfl
 have a3:(2:Int)+1=3:=rfl
 have a4:(3:Int)+1=4:=rfl
 have a5:(4:Int)+1=5:=rfl
 simp only [qF0,a2,a3,a4,a5]
 have c:n=1∨n=2∨n=3∨n=4∨n=5:=by omega
 rcases c with rfl|rfl|rfl|rfl|rfl<;>simp [t1,t2,t3,t4,t5,List.isPrefixOf]
theorem qEw (a b:ByteArray):(a++b).toList=a.toList++b.toList:=by rw [Go.Lib.toList_data,qET,Go.Lib.toList_data,Go.Lib.toList_data]
theorem qKQ {a b:Int} {f g:Bool} (h:zP a b f g=true):a=0∧b=0∧f=false∧g=false:=by
 unfold zP at h
 simp only [Bool.and_eq_true,decide_eq_true_eq,Bool.not_eq_true'] at h
 exact ⟨h.1,h.2.1,h.2.2.1,h.2.2.2⟩
theorem qOf {k x:Int} {s:ByteArray} (h:zV k x s=true):k=0∧x=0∧s=em:=by
 unfold zV at h
 simp only [Bool.and_eq_true,decide_eq_true_eq,beq_iff_eq] at h
 exact ⟨h.1,h.2.1,qDE (h.2.2.trans qx.symm)⟩
theorem qO2 {l:List Int} (h:decide (l.length=0)=true):l= []:=List.length_eq_zero_iff.1 (of_decide_eq_true h)
theorem qQG {c:Nd} (h:qBy c=true) (k:c.1=1):c=nd1 (c.2.2.1,c.2.2.2.1,c.2.2.2.2.1)∧okV c.2.2.1 c.2.2.2.1 c.2.2.2.2.1=true∧c.2.2.1≠0∧(c.2.2.1=1→0≤c.2.2.2.1):=by
 obtain ⟨k0,op,vk,vx,vs,a,b,fc,fr,a2,b2,fc2,fr2,ks⟩:=c
 simp only at k
 subst k
 unfold qBy at h
 simp only [if_true,Bool.and_eq_true,decide_eq_true_eq,kd,Bool.not_eq_true',decide_eq_false_iff_not,Bool.or_eq_true] at h
 obtain ⟨h1,h2,h3,h4,h5,h6,h7⟩:=h
 obtain ⟨rfl,rfl,rfl,rfl⟩:=qKQ h2
 obtain ⟨rfl,rfl,rfl,rfl⟩:=qKQ h3
 have:=qO2 h4
 subst this;subst h1
 refine ⟨rfl,h5,h6,fun e=>?_⟩
 rcases h7 with h7|h7
 ·exact absurd e h7
 ·exact h7
theorem qQH {c:Nd} (h:qBy c=true) (k:c.1=2):c=ndC (c.2.2.2.2.2.1,c.2.2.2.2.2.2.1,c.2.2.2.2.2.2.2.1,c.2.2.2.2.2.2.2.2.1,true)∧qAd c.2.2.2.2.2.1 c.2.2.2.2.2.2.1=true:=by
 obtain ⟨k0,op,vk,vx,vs,a,b,fc,fr,a2,b2,fc2,fr2,ks⟩:=c
 simp only at k
 subst k
 unfold qBy at h
 rw [if_neg (by simp),if_pos rfl] at h
 simp only [Bool.and_eq_true,decide_eq_true_eq,kd] at h
 obtain ⟨h1,h2,h3,h4,h5⟩:=h
 obtain ⟨rfl,rfl,rfl⟩:=qOf h2
 obtain ⟨rfl,rfl,rfl,rfl⟩:=qKQ h3
 have:=qO2 h4
 subst this;subst h1
 exact ⟨rfl,h5⟩
theorem qO3 {c:Nd} (h:qBy c=true) (k:c.1=3):c=ndA (c.2.2.2.2.2.1,c.2.2.2.2.2.2.1,c.2.2.2.2.2.2.2.1,c.2.2.2.2.2.2.2.2.1,true) (c.2.2.2.2.2.2.2.2.2.1,c.2.2.2.2.2.2.2.2.2.2.1,c.2.2.2.2.2.2.2.2.2.2.2.1,c.2.2.2.2.2.2.2.2.2.2.2.2.1,true)∧qEA c.2.2.2.2.2.1 c.2.2.2.2.2.2.1 c.2.2.2.2.2.2.2.2.2.1 c.2.2.2.2.2.2.2.2.2.2.1=true:=by
 obtain ⟨k0,op,vk,vx,vs,a,b,fc,fr,a2,b2,fc2,fr2,ks⟩:=c
 simp only at k
 subst k
 unfold qBy at h
 rw [if_neg (by simp),if_neg (by simp),if_pos rfl] at h
 simp only [Bool.and_eq_true,decide_eq_true_eq,kd] at h
 obtain ⟨h1,h2,h4,h5⟩:=h
 obtain ⟨rfl,rfl,rfl⟩:=qOf h2
 have:=qO2 h4
 subst this;subst h1
 exact ⟨rfl,h5⟩
theorem qQI {c:Nd} (h:qBy c=true) (k:c.1=4):∃x,c=ndK 4 0 [x]:=by
 obtain ⟨k0,op,vk,vx,vs,a,b,fc,fr,a2,b2,fc2,fr2,ks⟩:=c
 simp only at k
 subst k
 unfold qBy at h
 rw [if_neg (by simp),if_neg (by simp),if_neg (by simp),if_pos rfl] at h
 simp only [Bool.and_eq_true,decide_eq_true_eq,kd] at h
 obtain ⟨h1,h2,h3,h4,h5⟩:=h
 obtain ⟨rfl,rfl,rfl⟩:=qOf h2
 obtain ⟨rfl,rfl,rfl,rfl⟩:=qKQ h3
 obtain ⟨rfl,rfl,rfl,rfl⟩:=qKQ h4
 obtain ⟨x,rfl⟩:=List.length_eq_one_iff.1 (of_decide_eq_true h5)
 subst h1
 exact ⟨x,rfl⟩
theorem qQJ {c:Nd} (h:qBy c=true) (k:c.1=5):∃x y,c=ndK 5 c.2.1 [x,y]∧1≤c.2.1∧c.2.1≤11:=by
 obtain ⟨k0,op,vk,vx,vs,a,b,fc,fr,a2,b2,fc2,fr2,ks⟩:=c
 simp only at k
 subst k
 unfold qBy at h
 rw [if_neg (by simp),if_neg (by simp),if_neg (by simp),if_neg (by simp),if_pos rfl] at h
 simp only [Bool.and_eq_true,decide_eq_true_eq,kd] at h
 obtain ⟨h1,h2,h3,h4,h5⟩:=h
 obtain ⟨rfl,rfl,rfl⟩:=qOf h2
 obtain ⟨rfl,rfl,rfl,rfl⟩:=qKQ h3
 obtain ⟨rfl,rfl,rfl,rfl⟩:=qKQ h4
 obtain ⟨x,y,rfl⟩:∃x y,ks= [x,y]:=by
  match ks,of_decide_eq_true h5 with
  | [x,y],_=>exact ⟨x,y,rfl⟩
 exact ⟨x,y,rfl,h1⟩
theorem qQK {c:Nd} (h:qBy c=true) (k:c.1=6):c=ndK 6 c.2.1 (kd c)∧qE4 c.2.1 ((kd c).length:Int)=true:=by
 obtain ⟨k0,op,vk,vx,vs,a,b,fc,fr,a2,b2,fc2,fr2,ks⟩:=c
 simp only at k
 subst k
 unfold qBy at h
 rw [if_neg (by simp),if_neg (by simp),if_neg (by simp),if_neg (by simp),if_neg (by simp),if_pos rfl] at h
 simp only [Bool.and_eq_true,kd] at h
 obtain ⟨h1,h2,h3,h4⟩:=h
 obtain ⟨rfl,rfl,rfl⟩:=qOf h2
 obtain ⟨rfl,rfl,rfl,rfl⟩:=qKQ h3
 obtain ⟨rfl,rfl,rfl,rfl⟩:=qKQ h4
 exact ⟨rfl,h1⟩
theorem qNX {c r:Int} {fc fr:Bool} (h:qAd c r=true):(qAU c r fc fr).toList=(if fc=true then [36] else [])++((qBR c).data.toList++((if fr=true then [36] else [])++Lib.itoa r)):=by
 rw [Go.Lib.toList_data]
 simp [qAU,h,qEJ]
theorem qRH {c:UInt8} (h:qDt c=true):wch c=true:=by
 simp only [qDt,Bool.and_eq_true,decide_eq_true_eq] at h
 unfold wch
 simp only [Bool.or_eq_true,Bool.and_eq_true,decide_eq_true_eq]
 exact .inl h
theorem qLu {c:UInt8} (h:qBx c=true):wch c=true:=by
 simp only [qBx,Bool.and_eq_true,decide_eq_true_eq] at h
 unfold wch
 simp only [Bool.or_eq_true,Bool.and_eq_true,decide_eq_true_eq]
 exact .inr (.inl h)
theorem qIP {x:Int} (h:0≤x):(Lib.itoa x).all qBx=true∧Lib.itoa x≠ []:=by
 unfold Lib.itoa
 rw [if_neg (by omega)]
 obtain ⟨h1,_,h3,_,_⟩:=qDp x.toNat
 exact ⟨h1,h3⟩
theorem qEe {p q:UInt8→Bool} {l:List UInt8} (h:∀c,p c=true→q c=true) (hl:l.all p=true):l.all q=true:=by
 rw [List.all_eq_true] at hl⊢
 exact fun x hx=>h x (hl x hx)
theorem qEW {c r:Int} {fc fr:Bool} (h:qAd c r=true):(qAU c r fc fr).toList.all wch=true∧(qAU c r fc fr).toList≠ []:=by
 obtain ⟨hc,hr⟩:=qEB h
 obtain ⟨u1,u2,u3⟩:=qNr hc
 rw [qNX h]
 obtain ⟨d1,d2⟩:=qIP (x:=r) (by omega)
 refine ⟨?_,by simp [u3]⟩
 simp only [List.all_append,Bool.and_eq_true]
 refine ⟨?_,qEe (fun _=>qRH) u1,?_,qEe (fun _=>qLu) d1⟩
 ·split<;>decide
 ·split<;>decide
theorem qPl {c r:Int} {fc fr:Bool} (h:qAd c r=true):¬((qf (qAU c r fc fr)).2.2.2=true∧((qf (qAU c r fc fr)).1=1∨(qf (qAU c r fc fr)).1=3)):=by
 rintro ⟨ho,hk⟩
 obtain ⟨hc,hr⟩:=qEB h
 obtain ⟨u1,u2,u3⟩:=qNr hc
 obtain ⟨d1,d2⟩:=qIP (x:=r) (by omega)
 obtain ⟨v1,v2⟩:=qQD ho
 have e:=congrArg ByteArray.toList v2
 rw [qNX h] at e
 generalize qf (qAU c r fc fr)=v at*
 obtain ⟨a,t,hat⟩:∃a t,(qBR c).data.toList=a::t:=by
  cases hq:(qBR c).data.toList with
  |nil=>exact absurd hq u3
  |cons a t=>exact ⟨a,t,rfl⟩
 obtain ⟨d,t',hdt⟩:∃d t',Lib.itoa r=d::t':=by
  cases hq:Lib.itoa r with
  |nil=>exact absurd hq d2
  |cons a t=>exact ⟨a,t,rfl⟩
 have ma:a∈(qAH v.1 v.2.1 v.2.2.1).toList:=by rw [e,hat];simp
 have md:d∈(qAH v.1 v.2.1 v.2.2.1).toList:=by rw [e,hdt];simp
 have ua:qDt a=true:=by rw [hat,List.all_cons,Bool.and_eq_true] at u1;exact u1.1
 have dd:qBx d=true:=by rw [hdt,List.all_cons,Bool.and_eq_true] at d1;exact d1.1
 simp only [qDt,Bool.and_eq_true,decide_eq_true_eq] at ua
 simp only [qBx,Bool.and_eq_true,decide_eq_true_eq] at dd
 rcases hk with hk|hk
 ·rw [hk] at ma
  have ht:(qAH 1 v.2.1 v.2.2.1).toList=Lib.itoa v.2.1:=by rw [Go.Lib.toList_data];simp [qAH,qEJ]
  rw [ht] at ma
  unfold Lib.itoa at ma
  split at ma
  ·rcases List.mem_cons.1 ma with rfl|ma
   ·exact absurd ua.1 (by decide)
   ·have:=(qDp v.2.1.natAbs).1
    rw [List.all_eq_true] at this
    have:=this a ma
    simp only [qBx,Bool.and_eq_true,decide_eq_true_eq] at this
    omega
  ·have:=(qDp v.2.1.toNat).1
   rw [List.all_eq_true] at this
   have:=this a ma
   simp only [qBx,Bool.and_eq_true,decide_eq_true_eq] at this
   omega
 ·rw [hk] at md v1
  have hs:=qGL v1 (by decide)
  rw [hs] at v1 md
  have hr:=qM5 v1
  have c01:v.2.1=0∨v.2.1=1:=by omega
  rcases c01 with e0|e0
  ·rw [e0] at md
   have ht:(qAH 3 0 em).toList= [70,65,76,83,69]:=by rw [Go.Lib.toList_data];rfl
   rw [ht] at md
   simp only [List.mem_cons,List.not_mem_nil,or_false] at md
   rcases md with rfl|rfl|rfl|rfl|rfl<;>exact absurd dd (by decide)
  ·rw [e0] at md
   have ht:(qAH 3 1 em).toList= [84,82,85,69]:=by rw [Go.Lib.toList_data];rfl
   rw [ht] at md
   simp only [List.mem_cons,List.not_mem_nil,or_false] at md
   rcases md with rfl|rfl|rfl|rfl<;>exact absurd dd (by decide)
theorem qEI {l:List Nd} (hl:l.length≤60) {i:Int} (hi:0≤i∧i<l.length) (r:List UInt8) {x:Nd} (hx:ndi l i=x):qCk x (r,false,l.take i.toNat)=(i,r,false,l.take (i.toNat+1)):=by
 have hlen:(l.take i.toNat).length=i.toNat:=by rw [List.length_take];omega
 unfold qCk
 rw [if_neg]
 ·simp only [hlen]
  have hg:=qCW (l:=l) (i:=i) ⟨hi.1,hi.2⟩
  rw [hx] at hg
  rw [List.take_add_one,hg]
  refine Prod.ext (by simp only;omega) rfl
 ·simp only [hlen]
  rintro (h|h)
  ·cases h
  ·omega
theorem qPT {f:Nat} {deep:Int} {x:List UInt8} {l:List Nd} (hd:deep≤400) (h32:x.head?≠some 32) (h45:x.head?≠some 45):pP (f+1) (.un deep) (x,false,l)=pP f (.at deep) (x,false,l):=by
 have t:=qKP h32
 have tk:=qN7 (c:=45) (by decide) (p:=(x,false,l)) (by simp only;rw [t];exact h45)
 simp only [t] at tk
 conv=>lhs;unfold pP
 rw [if_neg (fun h=>h.elim (by omega) (by simp)),tk]
 simp
theorem qQs {f:Nat} {deep:Int} {w r:List UInt8} {l:List Nd} (hw:w.all wch=true) (hn:w≠ []) (hr:∀c,r.head?=some c→wch c=false):pP (f+1) (.at deep) (w++r,false,l)=qKM f deep w (r,false,l):=by
 obtain ⟨c,t,rfl⟩:∃c t,w=c::t:=by
  cases w with
  |nil=>exact absurd rfl hn
  |cons c t=>exact ⟨c,t,rfl⟩
 have wc:wch c=true:=by rw [List.all_cons,Bool.and_eq_true] at hw;exact hw.1
 have ne:∀d:UInt8,wch d=false→((c::t)++r).head?≠some d:=fun d hd e=>by
  have:c=d:=by simpa using e
  rw [this,hd] at wc;cases wc
 have tt:tb ((c::t)++r)=(c::t)++r:=qKP (ne 32 (by decide))
 have tk:=qN7 (c:=40) (by decide) (p:=((c::t)++r,false,l)) (by simp only;rw [tt];exact ne 40 (by decide))
 obtain ⟨e1,e2⟩:=qN2 hw hr
 conv=>lhs;unfold pP
 simp only [tt,tk,e1,e2]
 rw [if_neg (ne 34 (by decide)),if_neg (ne 35 (by decide))]
 simp only
 rw [if_neg (fun h=>by cases h.2)]
 rfl
theorem qLv {f:Nat} {deep:Int} {w r:List UInt8} {l:List Nd} (hd:deep≤400) (hw:w.all wch=true) (hn:w≠ []) (hr:∀c,r.head?=some c→wch c=false):pP (f+2) (.un deep) (w++r,false,l)=qKM f deep w (r,false,l):=by
 have hs:Sta (w++r):=by
  cases w with
  |nil=>exact absurd rfl hn
  |cons c t=>
   rw [List.all_cons,Bool.and_eq_true] at hw
   exact ⟨c,rfl,.inl hw.1⟩
 have h45:(w++r).head?≠some 45:=by
  cases w with
  |nil=>exact absurd rfl hn
  |cons c t=>
   rw [List.all_cons,Bool.and_eq_true] at hw
   intro e
   have:c=45:=by simpa using e
   rw [this] at hw
   exact absurd hw.1 (by decide)
 rw [qPT hd (qN4 hs (by decide) (by decide)) h45,qQs hw hn hr]
theorem qMd {x:Int} (h:0≤x∧x≤1):(qAH 3 x em).toList.all wch=true∧(qAH 3 x em).toList≠ []:=by
 have c01:x=0∨x=1:=by omega
 rcases c01 with rfl|rfl
 ·have ht:(qAH 3 0 em).toList= [70,65,76,83,69]:=by rw [Go.Lib.toList_data];rfl
  rw [ht];exact ⟨by decide,by decide⟩
 ·have ht:(qAH 3 1 em).toList= [84,82,85,69]:=by rw [Go.Lib.toList_data];rfl
  rw [ht];exact ⟨by decide,by decide⟩
theorem qRI {l:List Nd} (hl:l.length≤60) {i:Int} (hi:0≤i∧i<l.length) {k x:Int} {s:ByteArray} (hx:ndi l i=nd1 (k,x,s)) (hv:okV k x s=true) (h0:k≠0) (h1:k=1→0≤x) {f:Nat} {deep:Int} {r:List UInt8} (hd:deep≤400) (hr:Fo r):
  pP (f+2) (.un deep) ((if k=2 then qDY s else qAH k x s).toList++r,false,l.take i.toNat)=(i,r,false,l.take (i.toNat+1)):=by
 have kc:=qPA hv
 rcases kc with rfl|rfl|rfl|rfl|rfl
 ·exact absurd rfl h0
 ·rw [if_neg (by decide)]
  have hs:=qGL hv (by decide)
  subst hs
  have ht:(qAH 1 x em).toList=Lib.itoa x:=by rw [Go.Lib.toList_data];simp [qAH,qEJ]
  have rb:=qNC hv
  obtain ⟨d1,d2⟩:=qIP (h1 rfl)
  have e:BR (Lib.itoa x)=qAH 1 x em:=by rw [←ht,qFh]
  rw [ht,qLv hd (qEe (fun _=>qLu) d1) d2 (qJa hr)]
  unfold qKM
  rw [e,rb,if_pos ⟨rfl,.inl rfl⟩]
  exact qEI hl hi r hx
 ·rw [if_pos rfl]
  obtain ⟨rfl,_,_⟩:=qMN hv
  have ht:(qDY s).toList=34::qBa s.toList++ [34]:=by unfold qDY;exact qAZ _
  rw [ht]
  have e:(34::qBa s.toList++ [34])++r=34::(qBa s.toList++34::r):=by simp
  rw [e,qPT hd (by simp) (by simp)]
  have tt:tb (34::(qBa s.toList++34::r))=34::(qBa s.toList++34::r):=qKP (by simp)
  have q:=qN3 s.toList [] r (qPR hr (by decide))
  conv=>lhs;unfold pP
  simp only [tt]
  rw [if_pos (show (34::(qBa s.toList++34::r)).head?=some 34 from rfl),List.tail_cons,q]
  simp only [List.nil_append,qFh]
  exact qEI hl hi r hx
 ·rw [if_neg (by decide)]
  have hs:=qGL hv (by decide)
  subst hs
  have rb:=qNC hv
  obtain ⟨d1,d2⟩:=qMd (qM5 hv)
  rw [qLv hd d1 d2 (qJa hr)]
  unfold qKM
  rw [qFh,rb,if_pos ⟨rfl,.inr rfl⟩]
  exact qEI hl hi r hx
 ·rw [if_neg (by decide)]
  have hs:=qGL hv (by decide)
  subst hs
  have hn:=qOD hv
  have hx2:qAH 4 x em=qX x:=rfl
  rw [hx2]
  obtain ⟨t,ht⟩:=qPj.n x hn
  have hh:((qX x).toList++r).head?=some 35:=by rw [ht];rfl
  rw [qPT hd (by rw [hh];decide) (by rw [hh];decide)]
  have tt:tb ((qX x).toList++r)=(qX x).toList++r:=qKP (by rw [hh];decide)
  have ea:=qRG hn r
  have ed:((qX x).toList++r).drop (qX x).size=r:=by rw [←qAg];exact List.drop_left
  conv=>lhs;unfold pP
  simp only [tt]
  rw [if_neg (by rw [hh];decide),if_pos hh,ea]
  simp only [ed]
  exact qEI hl hi r hx
theorem qQt {l:List Nd} (hl:l.length≤60) {i:Int} (hi:0≤i∧i<l.length) {c w:Int} {fc fr:Bool} (hx:ndi l i=ndC (c,w,fc,fr,true)) (ho:qAd c w=true) {f:Nat} {deep:Int} {r:List UInt8} (hd:deep≤400) (hr:Fo r):
  pP (f+2) (.un deep) ((qAU c w fc fr).toList++r,false,l.take i.toNat)=(i,r,false,l.take (i.toNat+1)):=by
 obtain ⟨d1,d2⟩:=qEW (fc:=fc) (fr:=fr) ho
 rw [qLv hd d1 d2 (qJa hr)]
 unfold qKM
 rw [qFh,if_neg (qPl ho),qJX ho,if_pos rfl]
 exact qEI hl hi r hx
def lo (l:List Nd) (i:Int):Int:=qBc (qU l) (i.toNat+1) i
def qLU (l:List Nd):Int→List Int→Int→Prop
 |s,[],e=>s=e
 |s,k::r,e=>lo l k=s∧qLU l (k+1) r e
theorem qMe {l:List Nd}:∀{ks:List Int} {s m k e:Int},qLU l s ks m→lo l k=m→k+1=e→qLU l s (ks++ [k]) e
 | [],s,m,k,e,h,h1,h2=>by
  have h:s=m:=h
  subst h
  exact ⟨h1,h2⟩
 |a::ks,s,m,k,e,h,h1,h2=>⟨h.1,qMe h.2 h1 h2⟩
theorem qOg {l:List Nd} {F:Int→Int}:∀(ks:List Int) {e s:Int},(∀k∈ks,0≤k→F k=lo l k)→goT F ks (e-1)=s→0≤s→qLU l s ks.reverse e
 | [],e,s,_,h,_=>by
  have h:e-1+1=s:=h
  show s=e
  omega
 |k::r,e,s,hF,h,h0=>by
  unfold goT at h
  split at h
  ·omega
  ·rename_i hc
   split at h
   ·omega
   ·have hk:k=e-1:=Classical.byContradiction fun h=>hc (.inr h)
    have h1:0≤k:=by omega
    have e1:=hF k (List.mem_cons_self ..) h1
    rw [←hk,e1] at h
    rw [List.reverse_cons]
    exact qMe (qOg r (fun k hk=>hF k (List.mem_cons_of_mem _ hk)) h h0) rfl (by omega)
theorem qMf {l:List Nd} (h:Fine l) {i:Int} (hi:0≤i∧i<l.length) (h0:0≤lo l i):qLU l (lo l i) (qU l i) i:=by
 have:=qOg (l:=l) (F:=qBc (qU l) i.toNat) (qU l i).reverse (e:=i) (s:=lo l i) (fun k hk hk0=>by
  have hin:=(h.own i hi.1 hi.2).2 k (by simpa using hk)
  exact qOM (qU l) _ _ _ (by omega) (by omega) hk0) (by
  unfold lo
  rw [qBc]) h0
 rwa [List.reverse_reverse] at this
def tx (l:List Nd) (g:Nat) (i t:Int):List UInt8:=(qAf l g i t).toList
def qE7 (l:List Nd) (g:Nat):List Int→List UInt8
 | []=> []
 | [k]=>tx l g k 1
 |k::r=>tx l g k 1++44::qE7 l g r
theorem qJb (l:List Nd) (g:Nat) (k k2:Int) (r:List Int):qE7 l g (k::k2::r)=tx l g k 1++44::qE7 l g (k2::r):=rfl
theorem qPU (l:List Nd) (g:Nat):∀ks:List Int,(qLP (ks.map fun k=>qAf l g k 1)).toList=qE7 l g ks
 | []=>by unfold qLP;exact qAZ _
 | [k]=>by
  unfold qLP
  rw [qAZ]
  simp [Lib.join,qE7,tx,Go.Lib.toList_data]
 |k::k2::r=>by
  have ih:=qPU l g (k2::r)
  unfold qLP at ih⊢
  rw [qAZ] at ih⊢
  simp only [List.map_cons] at ih⊢
  rw [qJb,←ih]
  simp [Lib.join,tx,Go.Lib.toList_data]
theorem qRd {l:List Nd} {g:Nat} {i t:Int} (h:(ndi l i).1=1):tx l (g+1) i t=(if (ndi l i).2.2.1=2 then qDY (ndi l i).2.2.2.2.1 else qAH (ndi l i).2.2.1 (ndi l i).2.2.2.1 (ndi l i).2.2.2.2.1).toList:=by
 unfold tx
 conv=>lhs;unfold qAf
 rw [if_pos h]
theorem qRe {l:List Nd} {g:Nat} {i t:Int} (h:(ndi l i).1=2):tx l (g+1) i t=(qAU (ndi l i).2.2.2.2.2.1 (ndi l i).2.2.2.2.2.2.1 (ndi l i).2.2.2.2.2.2.2.1 (ndi l i).2.2.2.2.2.2.2.2.1).toList:=by
 unfold tx
 conv=>lhs;unfold qAf
 rw [if_neg (by rw [h];decide),if_pos h]
theorem qRf {l:List Nd} {g:Nat} {i t:Int} (h:(ndi l i).1=3):tx l (g+1) i t=(qAU (ndi l i).2.2.2.2.2.1 (ndi l i).2.2.2.2.2.2.1 (ndi l i).2.2.2.2.2.2.2.1 (ndi l i).2.2.2.2.2.2.2.2.1).toList++58::(qAU (ndi l i).2.2.2.2.2.2.2.2.2.1 (ndi l i).2.2.2.2.2.2.2.2.2.2.1 (ndi l i).2.2.2.2.2.2.2.2.2.2.2.1 (ndi l i).2.2.2.2.2.2.2.2.2.2.2.2.1).toList:=by
 unfold tx
 conv=>lhs;unfold qAf
 rw [if_neg (by rw [h];decide),if_neg (by rw [h];decide),if_pos h,qEw,qEw]
 simp [Go.Lib.toList_data]
theorem qRg {l:List Nd} {g:Nat} {i t:Int} {k:Int} (h:ndi l i=ndK 4 0 [k]):tx l (g+1) i t=45::tx l g k 5:=by
 unfold tx
 conv=>lhs;unfold qAf
 rw [h,show (ndK 4 0 [k]).1=4 from rfl,if_neg (by decide),if_neg (by decide),if_neg (by decide),if_pos rfl,qEw]
 simp [Go.Lib.toList_data,kid,kd,ndK]
theorem qRh {l:List Nd} {g:Nat} {i t:Int} {op k0 k1:Int} (h:ndi l i=ndK 5 op [k0,k1]):tx l (g+1) i t=if lvl op<t then 40::(tx l g k0 (lvl op)++((qk op).toList++tx l g k1 (lvl op+1)))++ [41] else tx l g k0 (lvl op)++((qk op).toList++tx l g k1 (lvl op+1)):=by
 unfold tx
 conv=>lhs;unfold qAf
 rw [h,show (ndK 5 op [k0,k1]).1=5 from rfl,if_neg (by decide),if_neg (by decide),if_neg (by decide),if_neg (by decide),if_pos rfl]
 have e0:kid (ndK 5 op [k0,k1]) 0=k0:=rfl
 have e1:kid (ndK 5 op [k0,k1]) 1=k1:=rfl
 have e2:(ndK 5 op [k0,k1]).2.1=op:=rfl
 rw [e0,e1,e2]
 unfold par
 by_cases hl:lvl op<t
 ·rw [if_pos (decide_eq_true hl),if_pos hl,qEw,qEw,qEw,qEw]
  simp [Go.Lib.toList_data]
 ·rw [if_neg (by simpa using hl),if_neg hl,qEw,qEw,List.append_assoc]
theorem qRi {l:List Nd} {g:Nat} {i t:Int} {op:Int} {ks:List Int} (h:ndi l i=ndK 6 op ks):tx l (g+1) i t=(fnS op).toList++40::(qE7 l g ks++ [41]):=by
 unfold tx
 conv=>lhs;unfold qAf
 have e:qU l i=ks:=by unfold qU;rw [h];rfl
 rw [e,h,show (ndK 6 op ks).1=6 from rfl,if_neg (by decide),if_neg (by decide),if_neg (by decide),if_neg (by decide),if_neg (by decide),qEw,qEw,qEw,qPU]
 have e2:(ndK 6 op ks).2.1=op:=rfl
 rw [e2]
 simp [Go.Lib.toList_data]
structure RT (l:List Nd) (g:Nat) (i:Int):Prop where
 s:∀t,Sta (tx l g i t)
 c:∀(t:Int) (r:List UInt8),Fo r→∀d:UInt8,(d=58∨d=32)→(wr (tx l g i t++r)).head?≠some d
 u:∀(r:List UInt8) (deep:Int) (f:Nat),Fo r→0≤deep→deep+g≤400→20*(tx l g i 5++r).length+4≤f→pP f (.un deep) (tx l g i 5++r,false,l.take (lo l i).toNat)=(i,r,false,l.take (i.toNat+1))
 b:∀(t t':Int) (r:List UInt8) (deep:Int) (f:Nat),1≤t→t≤t'→t'≤5→Fo r→(qAI r=0∨lvl (qAI r)≤t')→0≤deep→deep+g≤400→20*(tx l g i t'++r).length+6≤f→
  ∃f2,20*r.length+5≤f2∧pP f (.bin t deep) (tx l g i t'++r,false,l.take (lo l i).toNat)=pP f2 (.loop t deep i) (r,false,l.take (i.toNat+1))
theorem qQL (op:Int):1≤lvl op∧lvl op≤4:=qNv
theorem qMg {l:List Nd} {g:Nat} {i:Int} (u:∀(r:List UInt8) (deep:Int) (f:Nat),Fo r→0≤deep→deep+g≤400→20*(tx l g i 5++r).length+4≤f→pP f (.un deep) (tx l g i 5++r,false,l.take (lo l i).toNat)=(i,r,false,l.take (i.toNat+1)))
  {t t':Int} (e:tx l g i t'=tx l g i 5) {r:List UInt8} {deep:Int} {f:Nat} (hr:Fo r) (h0:0≤deep) (hd:deep+g≤400) (hf:20*(tx l g i t'++r).length+6≤f):
  ∃f2,20*r.length+5≤f2∧pP f (.bin t deep) (tx l g i t'++r,false,l.take (lo l i).toNat)=pP f2 (.loop t deep i) (r,false,l.take (i.toNat+1)):=by
 obtain ⟨f,rfl⟩:∃f',f=f'+1:=⟨f-1,by omega⟩
 rw [e] at hf⊢
 refine ⟨f,by simp only [List.length_append] at hf;omega,?_⟩
 conv=>lhs;unfold pP
 rw [u r deep f hr h0 hd (by omega)]
theorem qKR {f:Nat} {t deep a:Int} {r:List UInt8} {l:List Nd} (hr:Fo r) (h:qAI r=0∨lvl (qAI r)<t) (hf:1≤f):pP f (.loop t deep a) (r,false,l)=(a,r,false,l):=by
 obtain ⟨f,rfl⟩:∃f',f=f'+1:=⟨f-1,by omega⟩
 unfold pP
 simp only [qPS hr]
 rw [if_neg (by simp),if_pos h]
theorem qQu {l:List Nd} (hl:l.length≤60) {g:Nat} {i k0 k1 op:Int} (hi:0≤i∧i<l.length) (hx:ndi l i=ndK 5 op [k0,k1]) (ho:1≤op∧op≤11) (R:RT l g k1) (h1:lo l k1=k0+1) (h2:k1+1=i) (hk0:0≤k0) (hk1:0≤k1)
  {t:Int} {r:List UInt8} {deep:Int} {f:Nat} (ht:t≤lvl op) (hr:Fo r) (hop:qAI r=0∨lvl (qAI r)≤lvl op) (h0:0≤deep) (hd:deep+g≤400) (hf:20*((qk op).toList++(tx l g k1 (lvl op+1)++r)).length+5≤f):
  ∃f2,20*r.length+5≤f2∧pP f (.loop t deep k0) ((qk op).toList++(tx l g k1 (lvl op+1)++r),false,l.take (k0.toNat+1))=pP f2 (.loop t deep i) (r,false,l.take (i.toNat+1)):=by
 obtain ⟨f,rfl⟩:∃f',f=f'+1:=⟨f-1,by omega⟩
 have lv:=qQL op
 have hs:=qHF (R.s (lvl op+1)) r
 have sg:=qOd ho hs
 have oa:=qNW ho sg
 have tt:=qPS (qN5 ho (tx l g k1 (lvl op+1)++r))
 have sl:=qQF ho
 simp only [List.length_append] at hf
 obtain ⟨f2,q1,q2⟩:=R.b (lvl op+1) (lvl op+1) r deep f (by omega) (Int.le_refl _) (by omega) hr (by rcases hop with h|h;exact .inl h;exact .inr (by omega)) h0 hd (by simp only [List.length_append];omega)
 rw [qKR hr (by rcases hop with h|h;exact .inl h;exact .inr (by omega)) (by omega)] at q2
 refine ⟨f,by omega,?_⟩
 conv=>lhs;unfold pP
 simp only [tt,oa,sg]
 rw [if_neg (by simp),if_neg (by omega)]
 have ed:((qk op).toList++(tx l g k1 (lvl op+1)++r)).drop (qk op).toList.length=tx l g k1 (lvl op+1)++r:=List.drop_left
 have el:(lo l k1).toNat=k0.toNat+1:=by omega
 rw [ed,←el,q2]
 have e2:k1.toNat+1=i.toNat:=by omega
 rw [e2,qEI hl hi r hx]
theorem qRj {c:UInt8} {x:List UInt8} (h:wch c=false):wr (c::x)=c::x:=by unfold wr;rw [List.dropWhile_cons,if_neg (by rw [h];simp)]
theorem qIZ {w:List UInt8} (hw:w.all wch=true) (hn:w≠ []):Sta w∧∀r,(∀c,r.head?=some c→wch c=false)→∀d:UInt8,r.head?≠some d→(wr (w++r)).head?≠some d:=by
 refine ⟨?_,fun r h1 d h2=>by rw [(qN2 hw h1).2];exact h2⟩
 cases w with
 |nil=>exact absurd rfl hn
 |cons c t=>
  rw [List.all_cons,Bool.and_eq_true] at hw
  exact ⟨c,rfl,.inl hw.1⟩
theorem qLw {c:UInt8} {w:List UInt8} (hc:c=45∨c=40∨c=34∨c=35):Sta (c::w)∧∀r:List UInt8,∀d:UInt8,(d=58∨d=32)→(wr ((c::w)++r)).head?≠some d:=by
 refine ⟨⟨c,rfl,.inr hc⟩,fun r d hd=>?_⟩
 have:wch c=false:=by rcases hc with rfl|rfl|rfl|rfl<;>decide
 rw [List.cons_append,qRj this]
 simp only [List.head?_cons]
 intro e
 have e:c=d:=by simpa using e
 subst e
 rcases hc with rfl|rfl|rfl|rfl<;>exact absurd hd (by decide)
theorem qQM {r:List UInt8} (h:Fo r) {d:UInt8} (hd:d=58∨d=32):r.head?≠some d:=by
 rcases hd with rfl|rfl
 ·exact qPR h (by decide)
 ·exact qPR h (by decide)
theorem qRJ {k x:Int} {s:ByteArray} (hv:okV k x s=true) (h0:k≠0) (h1:k=1→0≤x):Sta (if k=2 then qDY s else qAH k x s).toList∧∀r,Fo r→∀d:UInt8,(d=58∨d=32)→(wr ((if k=2 then qDY s else qAH k x s).toList++r)).head?≠some d:=by
 rcases qPA hv with rfl|rfl|rfl|rfl|rfl
 ·exact absurd rfl h0
 ·rw [if_neg (by decide)]
  have ht:(qAH 1 x s).toList=Lib.itoa x:=by rw [Go.Lib.toList_data];simp [qAH,qEJ]
  obtain ⟨d1,d2⟩:=qIP (h1 rfl)
  rw [ht]
  have:=qIZ (qEe (fun _=>qLu) d1) d2
  exact ⟨this.1,fun r hr d hd=>this.2 r (qJa hr) d (qQM hr hd)⟩
 ·rw [if_pos rfl]
  have ht:(qDY s).toList=34::(qBa s.toList++ [34]):=by unfold qDY;rw [qAZ];simp
  rw [ht]
  have:=qLw (c:=34) (w:=qBa s.toList++ [34]) (.inr (.inr (.inl rfl)))
  exact ⟨this.1,fun r _ d hd=>this.2 r d hd⟩
 ·rw [if_neg (by decide)]
  have hs:=qGL hv (by decide)
  subst hs
  obtain ⟨d1,d2⟩:=qMd (qM5 hv)
  have:=qIZ d1 d2
  exact ⟨this.1,fun r hr d hd=>this.2 r (qJa hr) d (qQM hr hd)⟩
 ·rw [if_neg (by decide)]
  have hx2:qAH 4 x s=qX x:=rfl
  obtain ⟨t,ht⟩:=qPj.n x (qOD hv)
  rw [hx2,ht]
  have:=qLw (c:=35) (w:=t) (.inr (.inr (.inr rfl)))
  exact ⟨this.1,fun r _ d hd=>this.2 r d hd⟩
theorem qQ0 {op:Int} (h:1≤op∧op≤10):qEp (fnS op).toList 1 10=some op∧(fnS op).toList.all wch=true∧(fnS op).toList≠ []:=by
 have t:∀a:Fin 10,qEp (fnS (((a.val:Nat):Int)+1)).toList 1 10=some (((a.val:Nat):Int)+1)∧(fnS (((a.val:Nat):Int)+1)).toList.all wch=true∧(fnS (((a.val:Nat):Int)+1)).toList≠ []:=by decide+kernel
 have:=t ⟨(op-1).toNat,by omega⟩
 simp only at this
 rwa [show (((op-1).toNat:Nat):Int)+1=op by omega] at this
def qPV (l:List Nd) (g:Nat) (k:Int):Prop:=(0≤k∧k<l.length)∧(RT l g k∨((ndi l k).1=3∧qBy (ndi l k)=true∧lo l k=k∧∃g',g=g'+1))
theorem qOh {l:List Nd} (hl:l.length≤60) {g:Nat} {k:Int} (A:qPV l g k) {x:List UInt8} (hx:Fo x) (ho:qAI x=0) {deep:Int} {f:Nat} (h0:0≤deep) (hd:deep+1+g≤400) (hf:20*(tx l g k 1++x).length+6≤f):
  qDF (qAr (tx l g k 1++x,false,l.take (lo l k).toNat)) (fun p=>pP f (.bin 1 (deep+1)) p)=(k,x,false,l.take (k.toNat+1)):=by
 obtain ⟨hi,A⟩:=A
 rcases A with R|⟨h3,hb,hlo,g',rfl⟩
 ·have tt:=qO1 (qHF (R.s 1) x)
  have none:qAr (tx l g k 1++x,false,l.take (lo l k).toNat)=(none,tx l g k 1++x,false,l.take (lo l k).toNat):=by
   unfold qAr
   simp only [tt]
   rw [if_neg]
   rintro ⟨_,h2⟩
   have tk:=R.c 1 x hx 58 (.inl rfl)
   unfold qW at h2
   split at h2
   ·rename_i hs
    have hh:=(qDf 58 _).1 ((qPI (by decide) _).1 hs)
    by_cases hb:(wr (tx l g k 1++x)).head?=some 32
    ·exact absurd hb (R.c 1 x hx 32 (.inr rfl))
    ·rw [qKP hb] at hh
     exact tk hh
   ·cases h2
  rw [none]
  unfold qDF
  simp only
  obtain ⟨f2,q1,q2⟩:=R.b 1 1 x (deep+1) f (by omega) (by omega) (by omega) hx (.inl ho) (by omega) (by omega) hf
  rw [q2]
  exact qKR hx (.inl ho) (by omega)
 ·obtain ⟨e,ha⟩:=qO3 hb h3
  obtain ⟨a1,a2,a3,a4,_⟩:=qM4 ha
  have e3:=qRf (g:=g') (t:=1) h3
  generalize hc:ndi l k=c at*
  have r1:qAd c.2.2.2.2.2.1 c.2.2.2.2.2.2.1=true:=by unfold qAd;simp;omega
  have r2:qAd c.2.2.2.2.2.2.2.2.2.1 c.2.2.2.2.2.2.2.2.2.2.1=true:=by unfold qAd;simp;omega
  obtain ⟨d1,d2⟩:=qEW (fc:=c.2.2.2.2.2.2.2.1) (fr:=c.2.2.2.2.2.2.2.2.1) r1
  obtain ⟨d3,d4⟩:=qEW (fc:=c.2.2.2.2.2.2.2.2.2.2.2.1) (fr:=c.2.2.2.2.2.2.2.2.2.2.2.2.1) r2
  have b1:=qJX (fc:=c.2.2.2.2.2.2.2.1) (fr:=c.2.2.2.2.2.2.2.2.1) r1
  have b2:=qJX (fc:=c.2.2.2.2.2.2.2.2.2.2.2.1) (fr:=c.2.2.2.2.2.2.2.2.2.2.2.2.1) r2
  rw [e3,hlo]
  generalize hw1:(qAU c.2.2.2.2.2.1 c.2.2.2.2.2.2.1 c.2.2.2.2.2.2.2.1 c.2.2.2.2.2.2.2.2.1).toList=w1 at*
  generalize hw2:(qAU c.2.2.2.2.2.2.2.2.2.1 c.2.2.2.2.2.2.2.2.2.2.1 c.2.2.2.2.2.2.2.2.2.2.2.1 c.2.2.2.2.2.2.2.2.2.2.2.2.1).toList=w2 at*
  have p1:qAa (BR w1)=(c.2.2.2.2.2.1,c.2.2.2.2.2.2.1,c.2.2.2.2.2.2.2.1,c.2.2.2.2.2.2.2.2.1,true):=by rw [←hw1,qFh];exact b1
  have p2:qAa (BR w2)=(c.2.2.2.2.2.2.2.2.2.1,c.2.2.2.2.2.2.2.2.2.2.1,c.2.2.2.2.2.2.2.2.2.2.2.1,c.2.2.2.2.2.2.2.2.2.2.2.2.1,true):=by rw [←hw2,qFh];exact b2
  have ea:(w1++58::w2)++x=w1++(58::(w2++x)):=by simp
  rw [ea]
  have t1:tb (w1++(58::(w2++x)))=w1++(58::(w2++x)):=qO1 (qHF (qIZ d1 d2).1 _)
  obtain ⟨q1,q2⟩:=qN2 (r:=58::(w2++x)) d1 (fun d hd=>by simp at hd;subst hd;decide)
  have t2:tb (w2++x)=w2++x:=qO1 (qHF (qIZ d3 d4).1 _)
  obtain ⟨q3,q4⟩:=qN2 (r:=x) d3 (qJa hx)
  have ar:qAr (w1++(58::(w2++x)),false,l.take k.toNat)=(some c,x,false,l.take k.toNat):=by
   unfold qAr
   simp only [t1,q1,q2]
   rw [qIO (by decide) (by decide)]
   simp only [t2,q3,q4,p1,p2]
   rw [if_pos (by simp),←e]
   rfl
  rw [ar]
  unfold qDF
  simp only
  exact qEI hl hi x hc
theorem qMh {c:UInt8} (hc:c∈([45,40,41,44,58]:List UInt8)) (h32:c≠32) (r:List UInt8) (l:List Nd):qBs [c] (c::r,false,l)=(r,false,l):=by
 unfold qBs
 rw [if_neg (by simp),qIO hc h32,if_pos rfl]
theorem qNY {l:List Nd} (hl:l.length≤60) {g:Nat} {op:Int} {deep:Int} (h0:0≤deep) (hd:deep+1+g≤400):∀(ks:List Int),ks≠ []→(∀k∈ks,qPV l g k)→∀(pre:List Int) (m e:Int) (r:List UInt8) (f:Nat),qLU l m ks e→0≤m→20*(qE7 l g ks++41::r).length+8≤f→
  pP f (.args op deep pre) (qE7 l g ks++41::r,false,l.take m.toNat)=qCk (ndK 6 op (pre++ks)) (r,false,l.take e.toNat)
 | [],h,_,_,_,_,_,_,_,_,_=>absurd rfl h
 | [k],_,hA,pre,m,e,r,f,hc,hm,hf=>by
  obtain ⟨f,rfl⟩:∃f',f=f'+1:=⟨f-1,by omega⟩
  obtain ⟨c1,c2⟩:=hc
  have c2:k+1=e:=c2
  have hk:=(hA k (List.mem_cons_self ..)).1
  have ar:=qOh hl (hA k (List.mem_cons_self ..)) (x:=41::r) (qCS (by decide)) (qN6 r) h0 hd (f:=f) (by have:qE7 l g [k]=tx l g k 1:=rfl;rw [this] at hf;omega)
  rw [c1] at ar
  have ek:k.toNat+1=e.toNat:=by omega
  rw [ek] at ar
  show pP (f+1) (.args op deep pre) (tx l g k 1++41::r,false,l.take m.toNat)=_
  conv=>lhs;unfold pP
  rw [if_neg (by simp),ar]
  simp only
  have tk:=qN7 (c:=44) (by decide) (p:=(41::r,false,l.take e.toNat)) (by simp only;rw [qPS (qCS (by decide))];simp)
  rw [tk,if_neg (by simp)]
  simp only [qPS (r:=41::r) (qCS (by decide))]
  rw [qMh (by decide) (by decide)]
 |k::k2::ks,_,hA,pre,m,e,r,f,hc,hm,hf=>by
  obtain ⟨f,rfl⟩:∃f',f=f'+1:=⟨f-1,by omega⟩
  obtain ⟨c1,c2⟩:=hc
  have hk:=(hA k (List.mem_cons_self ..)).1
  have ej:qE7 l g (k::k2::ks)++41::r=tx l g k 1++(44::(qE7 l g (k2::ks)++41::r)):=by rw [qJb];simp
  rw [ej] at hf⊢
  have ar:=qOh hl (hA k (List.mem_cons_self ..)) (x:=44::(qE7 l g (k2::ks)++41::r)) (qCS (by decide)) (qQr _) h0 hd (f:=f) (by omega)
  rw [c1] at ar
  conv=>lhs;unfold pP
  rw [if_neg (by simp),ar]
  simp only
  rw [qIO (by decide) (by decide),if_pos rfl]
  have hlen:20*(qE7 l g (k2::ks)++41::r).length+8≤f:=by
   rw [List.length_append,List.length_cons] at hf
   omega
  have ek:k.toNat+1=(k+1).toNat:=by omega
  have ih:=qNY (op:=op) hl h0 hd (k2::ks) (by simp) (fun q hq=>hA q (List.mem_cons_of_mem _ hq)) (pre++ [k]) (k+1) e r f c2 (by omega) hlen
  rw [ek]
  rw [List.append_assoc] at ih
  exact ih
theorem qQv {l:List Nd} (hl:l.length≤60) {g:Nat} {i op:Int} {ks:List Int} (hi:0≤i∧i<l.length) (hx:ndi l i=ndK 6 op ks) (ho:1≤op∧op≤10) (hn:ks≠ []) (hA:∀k∈ks,qPV l g k) (hc:qLU l (lo l i) ks i) (h0:0≤lo l i):RT l (g+1) i:=by
 obtain ⟨w1,w2,w3⟩:=qQ0 ho
 have e:=fun t=>qRi (g:=g) (t:=t) hx
 have ws:=qIZ w2 w3
 have u:∀(r:List UInt8) (deep:Int) (f:Nat),Fo r→0≤deep→deep+(g+1:Nat)≤400→20*(tx l (g+1) i 5++r).length+4≤f→pP f (.un deep) (tx l (g+1) i 5++r,false,l.take (lo l i).toNat)=(i,r,false,l.take (i.toNat+1)):=fun r deep f hr hd hd2 hf=>by
  have ee:tx l (g+1) i 5++r=(fnS op).toList++(40::(qE7 l g ks++41::r)):=by rw [e];simp
  rw [ee] at hf⊢
  have wl:=List.length_pos_iff.2 w3
  simp only [List.length_append,List.length_cons] at hf
  obtain ⟨f,rfl⟩:∃f',f=f'+4:=⟨f-4,by omega⟩
  rw [qLv (f:=f+2) (by omega) w2 w3 (fun d hd=>by simp at hd;subst hd;decide)]
  unfold qKM
  obtain ⟨v1,v2⟩:=qPj.f _ _ w1
  rw [if_neg (fun h=>by rw [v1] at h;cases h.1),if_neg (by rw [v2];simp),w1]
  simp only
  conv=>lhs;unfold pP
  rw [qMh (by decide) (by decide),qNY hl hd (by omega) ks hn hA [] (lo l i) i r (f+1) hc h0 (by simp only [List.length_append,List.length_cons];omega)]
  exact qEI hl hi r hx
 refine ⟨fun t=>by rw [e];exact qHF ws.1 _,fun t r hr d hd=>?_,u,fun t t' r deep f h1 h2 h3 hr _ hd hd2 hf=>qMg u (by rw [e,e]) hr hd hd2 hf⟩
 have ee:tx l (g+1) i t++r=(fnS op).toList++(40::(qE7 l g ks++41::r)):=by rw [e];simp
 rw [ee]
 refine ws.2 _ (fun d hd=>by simp at hd;subst hd;decide) d (fun e=>?_)
 simp at e
 rcases hd with rfl|rfl
 ·exact absurd e (by decide)
 ·exact absurd e (by decide)
theorem qRK {l:List Nd} (hl:l.length≤60) {g:Nat} {i k:Int} (hi:0≤i∧i<l.length) (hx:ndi l i=ndK 4 0 [k]) (R:RT l g k) (h1:lo l k=lo l i) (h2:k+1=i) (hk:0≤k):RT l (g+1) i:=by
 have e:=fun t=>qRg (g:=g) (t:=t) hx
 have hs:=fun x=>qLw (c:=45) (w:=x) (.inl rfl)
 have u:∀(r:List UInt8) (deep:Int) (f:Nat),Fo r→0≤deep→deep+(g+1:Nat)≤400→20*(tx l (g+1) i 5++r).length+4≤f→pP f (.un deep) (tx l (g+1) i 5++r,false,l.take (lo l i).toNat)=(i,r,false,l.take (i.toNat+1)):=fun r deep f hr hd hd2 hf=>by
  rw [e,List.cons_append] at hf⊢
  simp only [List.length_cons] at hf
  obtain ⟨f,rfl⟩:∃f',f=f'+1:=⟨f-1,by omega⟩
  have ih:=R.u r (deep+1) f hr (by omega) (by omega) (by omega)
  rw [h1] at ih
  conv=>lhs;unfold pP
  rw [if_neg (fun h=>h.elim (by omega) (by simp)),qIO (by decide) (by decide),if_pos rfl]
  simp only
  rw [ih]
  have ek:k.toNat+1=i.toNat:=by omega
  rw [ek]
  exact qEI hl hi r hx
 exact ⟨fun t=>by rw [e];exact (hs _).1,fun t r _ d hd=>by rw [e];exact (hs _).2 r d hd,u,fun t t' r deep f h1 h2 h3 hr _ hd hd2 hf=>qMg u (by rw [e,e]) hr hd hd2 hf⟩
theorem qRL {l:List Nd} (hl:l.length≤60) {g:Nat} {i k0 k1 op:Int} (hi:0≤i∧i<l.length) (hx:ndi l i=ndK 5 op [k0,k1]) (ho:1≤op∧op≤11) (R0:RT l g k0) (R1:RT l g k1) (h0:lo l k0=lo l i) (h1:lo l k1=k0+1) (h2:k1+1=i) (hk0:0≤k0) (hk1:0≤k1):RT l (g+1) i:=by
 have e:=fun t=>qRh (g:=g) (t:=t) hx
 have lv:=qQL op
 have e5:tx l (g+1) i 5=40::(tx l g k0 (lvl op)++((qk op).toList++tx l g k1 (lvl op+1)))++ [41]:=by rw [e,if_pos (by omega)]
 have c0:∀(t t':Int) (r:List UInt8) (deep:Int) (f:Nat),1≤t→t≤t'→t'≤lvl op→Fo r→(qAI r=0∨lvl (qAI r)≤lvl op)→0≤deep→deep+g≤400→20*((tx l g k0 (lvl op)++((qk op).toList++tx l g k1 (lvl op+1)))++r).length+6≤f→
   ∃f2,20*r.length+5≤f2∧pP f (.bin t deep) ((tx l g k0 (lvl op)++((qk op).toList++tx l g k1 (lvl op+1)))++r,false,l.take (lo l i).toNat)=pP f2 (.loop t deep i) (r,false,l.take (i.toNat+1)):=fun t t' r deep f a1 a2 a3 hr hop hd hd2 hf=>by
  have ee:(tx l g k0 (lvl op)++((qk op).toList++tx l g k1 (lvl op+1)))++r=tx l g k0 (lvl op)++((qk op).toList++(tx l g k1 (lvl op+1)++r)):=by simp
  rw [ee] at hf⊢
  have sg:=qOd ho (qHF (R1.s (lvl op+1)) r)
  have oa:=qNW ho sg
  obtain ⟨f2,q1,q2⟩:=R0.b t (lvl op) ((qk op).toList++(tx l g k1 (lvl op+1)++r)) deep f a1 (by omega) (by omega) (qN5 ho _) (.inr (by rw [oa];omega)) hd hd2 hf
  obtain ⟨f3,q3,q4⟩:=qQu hl hi hx ho R1 h1 h2 hk0 hk1 (t:=t) (deep:=deep) (f:=f2) (by omega) hr hop hd hd2 q1
  rw [h0] at q2
  exact ⟨f3,q3,q2.trans q4⟩
 have u:∀(r:List UInt8) (deep:Int) (f:Nat),Fo r→0≤deep→deep+(g+1:Nat)≤400→20*(tx l (g+1) i 5++r).length+4≤f→pP f (.un deep) (tx l (g+1) i 5++r,false,l.take (lo l i).toNat)=(i,r,false,l.take (i.toNat+1)):=fun r deep f hr hd hd2 hf=>by
  have ee:tx l (g+1) i 5++r=40::((tx l g k0 (lvl op)++((qk op).toList++tx l g k1 (lvl op+1)))++41::r):=by rw [e5];simp
  rw [ee] at hf⊢
  simp only [List.length_cons] at hf
  obtain ⟨f,rfl⟩:∃f',f=f'+2:=⟨f-2,by omega⟩
  obtain ⟨f2,q1,q2⟩:=c0 1 1 (41::r) (deep+1) f (by omega) (by omega) (by omega) (qCS (by decide)) (.inl (qN6 r)) (by omega) (by omega) (by omega)
  rw [qKR (qCS (by decide)) (.inl (qN6 r)) (by omega)] at q2
  generalize (tx l g k0 (lvl op)++((qk op).toList++tx l g k1 (lvl op+1)))++41::r=x at q2⊢
  rw [qPT (by omega) (by simp) (by simp)]
  have tt:tb (40::x)=40::x:=qKP (by simp)
  conv=>lhs;unfold pP
  simp only [tt]
  rw [if_neg (show ¬(40::x).head?=some 34 by simp),if_neg (show ¬(40::x).head?=some 35 by simp)]
  simp only
  rw [qIO (by decide) (by decide),if_pos ⟨by simp,rfl⟩,q2]
  simp only
  rw [qMh (by decide) (by decide)]
 refine ⟨fun t=>?_,fun t r hr d hd=>?_,u,fun t t' r deep f a1 a2 a3 hr hop hd hd2 hf=>?_⟩
 ·rw [e]
  split
  ·exact ⟨40,rfl,.inr (.inr (.inl rfl))⟩
  ·exact qHF (R0.s (lvl op)) _
 ·rw [e]
  split
  ·exact (qLw (c:=40) (w:=(tx l g k0 (lvl op)++((qk op).toList++tx l g k1 (lvl op+1)))++ [41]) (.inr (.inl rfl))).2 r d hd
  ·have ee:(tx l g k0 (lvl op)++((qk op).toList++tx l g k1 (lvl op+1)))++r=tx l g k0 (lvl op)++((qk op).toList++(tx l g k1 (lvl op+1)++r)):=by simp
   rw [ee]
   exact R0.c (lvl op) _ (qN5 ho _) d hd
 ·by_cases hp:lvl op<t'
  ·exact qMg u (by rw [e,e,if_pos hp,if_pos (by omega)]) hr hd hd2 hf
  ·rw [e,if_neg hp] at hf⊢
   exact c0 t t' r deep f a1 a2 (by omega) hr (by rcases hop with h|h;exact .inl h;exact .inr (by omega)) hd (by omega) hf
theorem qMi {l:List Nd} (h:Fine l):∀(g:Nat) (i:Int),(0≤i∧i<l.length)→qAv (qU l) (i.toNat+1) i≤g→qA2 l i=false→0≤lo l i→RT l g i
 |0,i,hi,hd,_,_=>by
  have:=qIR (qU l) (i.toNat+1) i hi.1 (by omega)
  omega
 |g+1,i,hi,hd,ha,h0=>by
  have hb:qBy (ndi l i)=true:=(h.own i hi.1 hi.2).1
  have hch:=qMf h hi h0
  have kidok:=fun k hk=>h.kid hi hd (k:=k) hk
  have kin:=(h.own i hi.1 hi.2).2
  rcases qFz hb with ⟨k1,_⟩|k2|k3|⟨k4,_⟩|⟨k5,_⟩|k6
  ·obtain ⟨e,v1,v2,v3⟩:=qQG hb k1
   have et:=fun t=>qRd (g:=g) (t:=t) k1
   have kz:qU l i= []:=by unfold qU;rw [e];rfl
   rw [kz] at hch
   have hlo:lo l i=i:=hch
   have sc:=qRJ v1 v2 v3
   have u:∀(r:List UInt8) (deep:Int) (f:Nat),Fo r→0≤deep→deep+(g+1:Nat)≤400→20*(tx l (g+1) i 5++r).length+4≤f→pP f (.un deep) (tx l (g+1) i 5++r,false,l.take (lo l i).toNat)=(i,r,false,l.take (i.toNat+1)):=fun r deep f hr hd1 hd2 hf=>by
    obtain ⟨f,rfl⟩:∃f',f=f'+2:=⟨f-2,by omega⟩
    rw [et,hlo]
    exact qRI h.len hi e v1 v2 v3 (by omega) hr
   exact ⟨fun t=>by rw [et];exact sc.1,fun t r hr d hd=>by rw [et];exact sc.2 r hr d hd,u,fun t t' r deep f _ _ _ hr _ hd1 hd2 hf=>qMg u (by rw [et,et]) hr hd1 hd2 hf⟩
  ·obtain ⟨e,v1⟩:=qQH hb k2
   have et:=fun t=>qRe (g:=g) (t:=t) k2
   have kz:qU l i= []:=by unfold qU;rw [e];rfl
   rw [kz] at hch
   have hlo:lo l i=i:=hch
   obtain ⟨d1,d2⟩:=qEW (fc:=(ndi l i).2.2.2.2.2.2.2.1) (fr:=(ndi l i).2.2.2.2.2.2.2.2.1) v1
   have sc:=qIZ d1 d2
   have u:∀(r:List UInt8) (deep:Int) (f:Nat),Fo r→0≤deep→deep+(g+1:Nat)≤400→20*(tx l (g+1) i 5++r).length+4≤f→pP f (.un deep) (tx l (g+1) i 5++r,false,l.take (lo l i).toNat)=(i,r,false,l.take (i.toNat+1)):=fun r deep f hr hd1 hd2 hf=>by
    obtain ⟨f,rfl⟩:∃f',f=f'+2:=⟨f-2,by omega⟩
    rw [et,hlo]
    exact qQt h.len hi e v1 (by omega) hr
   exact ⟨fun t=>by rw [et];exact sc.1,fun t r hr d hd=>by rw [et];exact sc.2 r (qJa hr) d (qQM hr hd),u,fun t t' r deep f _ _ _ hr _ hd1 hd2 hf=>qMg u (by rw [et,et]) hr hd1 hd2 hf⟩
  ·unfold qA2 at ha
   rw [decide_eq_false_iff_not] at ha
   exact absurd k3 ha
  ·obtain ⟨k,e⟩:=qQI hb k4
   have kz:qU l i= [k]:=by unfold qU;rw [e];rfl
   rw [kz] at hch
   obtain ⟨c1,c2⟩:=hch
   have c2:k+1=i:=c2
   have hk:k∈qU l i:=by rw [kz];exact List.mem_cons_self ..
   obtain ⟨q1,q2⟩:=kidok k hk
   have na:qA2 l k=false:=by
    rw [Bool.eq_false_iff];intro hh
    exact (kin k hk).2.2 ⟨hh,by unfold qBk;rw [e];rfl⟩
   exact qRK h.len hi e (qMi h g k q1 q2 na (by omega)) c1 c2 q1.1
  ·obtain ⟨k0,k1,e,o1,o2⟩:=qQJ hb k5
   have kz:qU l i= [k0,k1]:=by unfold qU;rw [e];rfl
   rw [kz] at hch
   obtain ⟨c1,c2,c3⟩:=hch
   have c3:k1+1=i:=c3
   have hk0:k0∈qU l i:=by rw [kz];simp
   have hk1:k1∈qU l i:=by rw [kz];simp
   obtain ⟨q1,q2⟩:=kidok k0 hk0
   obtain ⟨q3,q4⟩:=kidok k1 hk1
   have nc:qBk l i=false:=by unfold qBk;rw [e];rfl
   have na0:qA2 l k0=false:=by
    rw [Bool.eq_false_iff];intro hh
    exact (kin k0 hk0).2.2 ⟨hh,nc⟩
   have na1:qA2 l k1=false:=by
    rw [Bool.eq_false_iff];intro hh
    exact (kin k1 hk1).2.2 ⟨hh,nc⟩
   exact qRL h.len hi e ⟨o1,o2⟩ (qMi h g k0 q1 q2 na0 (by omega)) (qMi h g k1 q3 q4 na1 (by omega)) c1 c2 c3 q1.1 q3.1
  ·have k6:(ndi l i).1=6:=by
    first
    |exact k6
    |exact k6.1
   obtain ⟨e,hargs⟩:=qQK hb k6
   have kz:qU l i=kd (ndi l i):=rfl
   rw [kz] at hch
   have ops:1≤(ndi l i).2.1∧(ndi l i).2.1≤10∧kd (ndi l i)≠ []:=by
    unfold qE4 at hargs
    split at hargs
    ·have:=of_decide_eq_true hargs
     refine ⟨by omega,by omega,fun e0=>?_⟩
     rw [e0] at this;simp at this
    ·split at hargs
     ·have:=of_decide_eq_true hargs
      refine ⟨by omega,by omega,fun e0=>?_⟩
      rw [e0] at this;simp at this
     ·split at hargs
      ·have:=of_decide_eq_true hargs
       refine ⟨by omega,by omega,fun e0=>?_⟩
       rw [e0] at this;simp at this
      ·cases hargs
   have args:∀(ks:List Int),(∀k∈ks,k∈qU l i)→∀m,0≤m→qLU l m ks i→∀k∈ks,qPV l g k:=by
    intro ks
    induction ks with
    |nil=>intro _ m _ _ k hk;cases hk
    |cons a ks ih=>
     intro hsub m hm hc k hk
     obtain ⟨c1,c2⟩:=hc
     obtain ⟨q1,q2⟩:=kidok a (hsub a (List.mem_cons_self ..))
     rcases List.mem_cons.1 hk with rfl|hk
     ·refine ⟨q1,?_⟩
      by_cases har:qA2 l k=true
      ·right
       have h3:(ndi l k).1=3:=by unfold qA2 at har;exact of_decide_eq_true har
       have hbk:qBy (ndi l k)=true:=(h.own k q1.1 q1.2).1
       have hch2:=qMf h q1 (by omega)
       have kz2:qU l k= []:=by unfold qU;rw [(qO3 hbk h3).1];rfl
       rw [kz2] at hch2
       have gp:=qIR (qU l) (k.toNat+1) k q1.1 (by omega)
       exact ⟨h3,hbk,hch2,g-1,by omega⟩
      ·left
       exact qMi h g k q1 q2 (by rw [Bool.eq_false_iff];exact har) (by omega)
     ·exact ih (fun k hk=>hsub k (List.mem_cons_of_mem _ hk)) (a+1) (by omega) c2 k hk
   exact qQv h.len hi e ⟨ops.1,ops.2.1⟩ ops.2.2 (args _ (fun k hk=>hk) _ h0 hch) hch h0
theorem qIa {c:UInt8} (h:wch c=true):okc c=true:=by
 unfold wch at h
 simp only [Bool.or_eq_true,Bool.and_eq_true,decide_eq_true_eq,beq_iff_eq] at h
 unfold okc
 rw [decide_eq_true_eq]
 rcases h with h|h|h
 ·omega
 ·omega
 ·subst h;decide
theorem qNZ:∀s:List UInt8,s.all okc=true→(qBa s).all okc=true
 | [],_=>rfl
 |c::s,h=>by
  rw [List.all_cons,Bool.and_eq_true] at h
  rw [qFe,List.all_append,Bool.and_eq_true]
  refine ⟨?_,qNZ s h.2⟩
  split
  ·decide
  ·simp [h.1]
theorem qOi {op:Int} (ho:1≤op∧op≤11):(qk op).toList.all okc=true:=by
 have c:op=1∨op=2∨op=3∨op=4∨op=5∨op=6∨op=7∨op=8∨op=9∨op=10∨op=11:=by omega
 rcases c with rfl|rfl|rfl|rfl|rfl|rfl|rfl|rfl|rfl|rfl|rfl<;>decide+kernel
theorem qQN {n:Int} (hn:1≤n∧n≤5):(qX n).toList.all okc=true:=by
 have c:n=1∨n=2∨n=3∨n=4∨n=5:=by omega
 rcases c with rfl|rfl|rfl|rfl|rfl<;>decide+kernel
theorem qQw {k x:Int} {s:ByteArray} (hv:okV k x s=true) (h0:k≠0) (h1:k=1→0≤x):(if k=2 then qDY s else qAH k x s).toList.all okc=true:=by
 rcases qPA hv with rfl|rfl|rfl|rfl|rfl
 ·exact absurd rfl h0
 ·rw [if_neg (by decide)]
  have ht:(qAH 1 x s).toList=Lib.itoa x:=by rw [Go.Lib.toList_data];simp [qAH,qEJ]
  rw [ht]
  exact qEe (fun _ h=>qIa (qLu h)) (qIP (h1 rfl)).1
 ·rw [if_pos rfl]
  have ht:(qDY s).toList=34::(qBa s.toList++ [34]):=by unfold qDY;rw [qAZ];simp
  obtain ⟨_,_,a⟩:=qMN hv
  rw [ht,List.all_cons,List.all_append,qNZ _ a]
  decide
 ·rw [if_neg (by decide)]
  have hs:=qGL hv (by decide)
  subst hs
  exact qEe (fun _=>qIa) (qMd (qM5 hv)).1
 ·rw [if_neg (by decide)]
  exact qQN (qOD hv)
theorem qOj {l:List Nd} {g:Nat}:∀ks:List Int,(∀k∈ks,(tx l g k 1).all okc=true)→(qE7 l g ks).all okc=true
 | [],_=>rfl
 | [k],h=>h k (List.mem_cons_self ..)
 |k::k2::ks,h=>by
  rw [qJb,List.all_append,List.all_cons,h k (List.mem_cons_self ..),qOj (k2::ks) (fun q hq=>h q (List.mem_cons_of_mem _ hq))]
  decide
theorem qOk {l:List Nd} (h:Fine l):∀(g:Nat) (i t:Int),(0≤i∧i<l.length)→(tx l g i t).all okc=true
 |0,i,t,_=>by unfold tx qAf;rw [qx];rfl
 |g+1,i,t,hi=>by
  have hb:qBy (ndi l i)=true:=(h.own i hi.1 hi.2).1
  have kin:=fun k hk=>(h.own i hi.1 hi.2).2 k hk
  have ih:=fun k t (hk:k∈qU l i)=>qOk h g k t (by have:=kin k hk;omega)
  rcases qFz hb with ⟨k1,_⟩|k2|k3|⟨k4,_⟩|⟨k5,_⟩|k6
  ·obtain ⟨e,v1,v2,v3⟩:=qQG hb k1
   rw [qRd k1]
   exact qQw v1 v2 v3
  ·rw [qRe k2]
   exact qEe (fun _=>qIa) (qEW (qQH hb k2).2).1
  ·obtain ⟨e,ha⟩:=qO3 hb k3
   obtain ⟨a1,a2,a3,a4,_⟩:=qM4 ha
   rw [qRf k3]
   generalize ndi l i=c at*
   have r1:qAd c.2.2.2.2.2.1 c.2.2.2.2.2.2.1=true:=by unfold qAd;simp;omega
   have r2:qAd c.2.2.2.2.2.2.2.2.2.1 c.2.2.2.2.2.2.2.2.2.2.1=true:=by unfold qAd;simp;omega
   rw [List.all_append,List.all_cons,qEe (fun _=>qIa) (qEW r1).1,qEe (fun _=>qIa) (qEW r2).1]
   decide
  ·obtain ⟨k,e⟩:=qQI hb k4
   have kz:qU l i= [k]:=by unfold qU;rw [e];rfl
   rw [qRg e,List.all_cons,ih k 5 (by rw [kz];simp)]
   decide
  ·obtain ⟨k0,k1,e,o1,o2⟩:=qQJ hb k5
   have kz:qU l i= [k0,k1]:=by unfold qU;rw [e];rfl
   have i0:=fun t=>ih k0 t (by rw [kz];simp)
   have i1:=fun t=>ih k1 t (by rw [kz];simp)
   rw [qRh e]
   split
   ·rw [List.cons_append,List.all_cons,List.all_append,List.all_append,List.all_append,i0,i1,qOi ⟨o1,o2⟩]
    decide
   ·rw [List.all_append,List.all_append,i0,i1,qOi ⟨o1,o2⟩]
    decide
  ·have k6:(ndi l i).1=6:=by
    first
    |exact k6
    |exact k6.1
   obtain ⟨e,hargs⟩:=qQK hb k6
   have ops:1≤(ndi l i).2.1∧(ndi l i).2.1≤10:=by
    unfold qE4 at hargs
    split at hargs
    ·omega
    ·split at hargs
     ·omega
     ·split at hargs
      ·omega
      ·cases hargs
   rw [qRi e,List.all_append,List.all_cons,List.all_append,qEe (fun _=>qIa) (qQ0 ops).2.1,qOj (kd (ndi l i)) (fun k hk=>ih k 1 hk)]
   decide
theorem qPm {l:List Nd} (hf:qDq l=true) (hk:∀c∈l,(kd c).length≤140737488351232∧c.2.2.2.2.1.size≤140737488351232) (hs:(qGm l).toList≠ []):qCy (qGm l)=(l,true):=by
 obtain ⟨q1,q2,q3⟩:=qPH hf hk
 have hform:=hf
 unfold qDq at hf
 simp only [Bool.and_eq_true,decide_eq_true_eq,Bool.not_eq_true'] at hf
 obtain ⟨h1,_,h3,h4,_⟩:=hf
 have en:((l.length:Int)-1).toNat+1=l.length:=by omega
 have hlo:lo l ((l.length:Int)-1)=0:=by unfold lo;rw [en];exact h3
 have R:=qMi q1 12 ((l.length:Int)-1) q2 q3 h4 (by omega)
 have hsz:=qMc l
 have et:(qGm l).toList=tx l 12 ((l.length:Int)-1) 1:=by
  unfold qGm at hs⊢
  rw [if_pos hform] at hs⊢
  split at hs
  ·exact absurd qx hs
  ·rename_i hc;rw [if_neg hc];rfl
 have hlen:(tx l 12 ((l.length:Int)-1) 1).length≤200:=by rw [←et,qAg];exact hsz
 have hp:qD9 (qGm l) 200=true:=by
  unfold qD9
  rw [et,qOk q1 12 _ 1 q2,Bool.true_and,decide_eq_true_eq]
  omega
 obtain ⟨f2,b1,b2⟩:=R.b 1 1 [] 0 4050 (by omega) (by omega) (by omega) qQE (.inl qOe) (by omega) (by omega) (by rw [List.append_nil];omega)
 rw [qKR qQE (.inl qOe) (by simp at b1;omega),List.append_nil,hlo,en,List.take_length] at b2
 have hR:qLT (qGm l)=([],false,l):=by
  unfold qLT
  rw [et]
  have:l.take (0:Int).toNat= []:=rfl
  rw [this] at b2
  rw [b2]
 unfold qCy
 rw [hR,if_pos ⟨hp,rfl,rfl,hform⟩]
theorem qO4 {s:ByteArray} (h:(qCy s).2=true):qDq (qCy s).1=true:=by
 unfold qCy at h⊢
 split at h
 ·rename_i hc
  rw [if_pos hc]
  exact hc.2.2.2
 ·cases h
def Dwx {β:Type} (Q:β→Prop) (R:Nat→Tr β):Prop:=∃x,Q x∧Ev (fun n=>(R n).run) x
theorem qA8 {α β:Type} {Q:β→Prop} {F:Nat→Option α} {r:α} {K:Nat→α→Tr β} (h:Ev F r) (hk:Dwx Q fun n=>K n r):Dwx Q fun n=> .opt (F n) (K n):=by
 obtain ⟨x,q,n1,h1⟩:=hk
 obtain ⟨n0,h0⟩:=h
 exact ⟨x,q,n0+n1,fun n hn=>qA (h0 n (by omega)) (h1 n (by omega))⟩
theorem qCA {β:Type} {Q:β→Prop} {b:Bool} {t e:Nat→Tr β} (h:b=true) (hk:Dwx Q t):Dwx Q fun n=> .ask b (t n) (e n):=by
 obtain ⟨x,q,n1,h1⟩:=hk
 exact ⟨x,q,n1,fun n hn=>qN h (h1 n hn)⟩
theorem qCl {β:Type} {Q:β→Prop} {b:Bool} {t e:Nat→Tr β} (h:b=false) (hk:Dwx Q e):Dwx Q fun n=> .ask b (t n) (e n):=by
 obtain ⟨x,q,n1,h1⟩:=hk
 exact ⟨x,q,n1,fun n hn=>qR h (h1 n hn)⟩
theorem qEf {α β:Type} {Q:β→Prop} {o:Option α} {r:α} {K:Nat→α→Tr β} (h:o=some r) (hk:Dwx Q fun n=>K n r):Dwx Q fun n=> .opt o (K n):=by
 obtain ⟨x,q,n1,h1⟩:=hk
 exact ⟨x,q,n1,fun n hn=>qA h (h1 n hn)⟩
theorem qCY {β:Type} {Q:β→Prop} {x:β} (h:Q x):Dwx Q fun _=> .done x:=⟨x,h,0,fun _ _=>rfl⟩
theorem qN8 {β:Type} {Q:β→Prop} {F:Nat→Option β} {R:Nat→Tr β} (h:Dwx Q R) (hF:∀n,F (n+1)=(R n).run):∃x,Q x∧Ev F x:=by
 obtain ⟨x,q,n1,h1⟩:=h
 refine ⟨x,q,n1+1,fun n hn=>?_⟩
 obtain ⟨m,rfl,hm⟩:=up1 hn
 rw [hF]
 exact h1 m hm
theorem qBl {x y:ByteArray} {a b:Nat} (hx:x.size≤a) (hy:y.size≤b):(x++y).size≤a+b:=by rw [ByteArray.size_append];omega
theorem fit {x y:ByteArray} {a b:Nat} (hx:x.size≤a) (hy:y.size≤b) (h:a+b≤9000000000000000000):decide (x.size+y.size≤9223372036854775807)=true:=decide_eq_true (by omega)
abbrev Drn (l:List (List PV)) {α:Type} (P:α→Prop) (x:α×List (List PV)×Int):Prop:=x.2.1=l∧(0≤x.2.2∧x.2.2≤l.length)∧P x.1
def qPW (n:Nat) (l:List (List PV)) (p:Int):Tr (ByteArray×List (List PV)×Int):= .opt (qAM n l p) fun r11=> .opt (qc n (5:Int) r11.2.2.1 r11.2.2.2) fun r13=> .opt (qc n (5:Int) r13.2.1 r13.2.2) fun r14=> .opt (qi n r11.1 r11.2.1 r13.1 r14.1) fun r30=> .done (r30,r14.2.1,r14.2.2)
theorem qMj {l:List (List PV)} {p:Int} (hl:qHi l) (hp:0≤p∧p≤l.length):Dwx (Drn l fun t:ByteArray=>t.size≤1000) fun n=>qPW n l p:=by
 obtain ⟨a,b,p1,h1,h2⟩:=qOo hl hp
 obtain ⟨fc,p2,h3,h4⟩:=qJ0 5 (by decide) hl h1
 obtain ⟨fr,p3,h5,h6⟩:=qJ0 5 (by decide) hl h3
 refine qA8 (qEK h2) (qA8 (qEK h4) (qA8 (qEK h6) (qA8 (qED a b fc fr) (qCY ⟨rfl,h5,?_⟩))))
 have:=qEn a b fc fr
 dsimp only
 omega
def qRk (n:Nat) (l:List (List PV)) (p:Int):Tr (ByteArray×List (List PV)×Int):= .opt (qP n (7:Int) l p) fun r8=> .ask (r8.1==(0:Int)) (qPW n r8.2.1 r8.2.2) (.ask (r8.1==(1:Int)) (qPW n r8.2.1 r8.2.2) (.ask (r8.1==(2:Int)) (qPW n r8.2.1 r8.2.2) (.ask (r8.1==(3:Int))
 (.opt (qP n (6:Int) r8.2.1 r8.2.2) fun r39=>(.ask (decide (6=([[(.s (⟨#[34,97,34]⟩:ByteArray))],[(.s (⟨#[34,34]⟩:ByteArray))],[(.s (⟨#[84,82,85,69]⟩:ByteArray))],[(.s (⟨#[70,65,76,83,69]⟩:ByteArray))],[(.s (⟨#[35,82,69,70,33]⟩:ByteArray))],[(.s (⟨#[34,113,34,34,34]⟩:ByteArray))]]:List (List PV)).length∧0≤r39.1∧r39.1<((6:Nat):Int))) (.opt (([[(.s (⟨#[34,97,34]⟩:ByteArray))],[(.s (⟨#[34,34]⟩:ByteArray))],[(.s (⟨#[84,82,85,69]⟩:ByteArray))],[(.s (⟨#[70,65,76,83,69]⟩:ByteArray))],[(.s (⟨#[35,82,69,70,33]⟩:ByteArray))],[(.s (⟨#[34,113,34,34,34]⟩:ByteArray))]]:List (List PV))[(r39.1).toNat]?) fun e40=>(.opt (zh e40 0) fun y41=>(.done (y41,r39.2.1,r39.2.2)))) .fail))
 (.opt (qP n (12:Int) r8.2.1 r8.2.2) fun r42=>(.opt (qAK n r42.1) fun r43=>(.done (r43,r42.2.1,r42.2.2)))))))
theorem qOl {l:List (List PV)} {p:Int} (hl:qHi l) (hp:0≤p∧p≤l.length):Dwx (Drn l fun t:ByteArray=>t.size≤1000) fun n=>qRk n l p:=by
 obtain ⟨a,p1,h1,ha,h2⟩:=qBN 7 (by decide) hl hp
 refine qA8 (qEK h2) ?_
 have c:a=0∨a=1∨a=2∨a=3∨¬(a=0∨a=1∨a=2∨a=3):=by omega
 rcases c with rfl|rfl|rfl|rfl|c
 ·exact qCA rfl (qMj hl h1)
 ·exact qCl rfl (qCA rfl (qMj hl h1))
 ·exact qCl rfl (qCl rfl (qCA rfl (qMj hl h1)))
 ·refine qCl rfl (qCl rfl (qCl rfl (qCA rfl ?_)))
  obtain ⟨b,p2,h3,hb,h4⟩:=qBN 6 (by decide) hl h1
  refine qA8 (qEK h4) ?_
  have c:b=0∨b=1∨b=2∨b=3∨b=4∨b=5:=by omega
  rcases c with rfl|rfl|rfl|rfl|rfl|rfl<;>exact qCA rfl (qEf rfl (qEf rfl (qCY ⟨rfl,h3,by dsimp only;decide⟩)))
 ·refine qCl (beq_eq_false_iff_ne.2 (by dsimp only;omega)) (qCl (beq_eq_false_iff_ne.2 (by dsimp only;omega)) (qCl (beq_eq_false_iff_ne.2 (by dsimp only;omega)) (qCl (beq_eq_false_iff_ne.2 (by dsimp only;omega)) ?_)))
  obtain ⟨b,p2,h3,hb,h4⟩:=qBN 12 (by decide) hl h1
  refine qA8 (qEK h4) (qA8 (qI2 b (by omega)) (qCY ⟨rfl,h3,?_⟩))
  have:=qM6 (x:=b) (by omega)
  dsimp only
  omega
theorem qOm {l:List (List PV)} (hl:qHi l):∀(d:Nat),d≤9→∀{p:Int},(0≤p∧p≤l.length)→∃(t:ByteArray) (p':Int),(0≤p'∧p'≤l.length)∧t.size≤1000*4^d∧Ev (fun n=>qAE n (d:Int) l p) (t,l,p')
 |0,_,p,hp=>by
  obtain ⟨⟨t,l',p'⟩,⟨rfl,h1,h2⟩,h3⟩:=qN8 (F:=fun n=>qAE n ((0:Nat):Int) l p) (R:=fun n=>qCE (qAE n) n ((0:Nat):Int) l p) (qCA rfl (qOl hl hp)) fun n=>rfl
  exact ⟨t,p',h1,by simpa using h2,h3⟩
 |d+1,hd,p,hp=>by
  have ih:=fun {p:Int} (hp:0≤p∧p≤l.length)=>qOm hl d (by omega) (p:=p) hp
  have hb:1000≤1000*4^d:=Nat.le_mul_of_pos_right _ (Nat.pow_pos (by decide))
  have hb9:1000*4^d≤300000000:=by
   have:4^d≤4^9:=Nat.pow_le_pow_right (by decide) (by omega)
   have e:4^9=262144:=by decide
   omega
  have he:1000*4^(d+1)=4*(1000*4^d):=by rw [Nat.pow_succ];omega
  rw [he]
  generalize 1000*4^d=B at ih hb hb9
  have hw:IntKind.i64.wrap (((d+1:Nat):Int)-(1:Int))=(d:Int):=by rw [qZ (by omega)];omega
  have key:Dwx (Drn l fun t:ByteArray=>t.size≤4*B) fun n=>qCE (qAE n) n ((d+1:Nat):Int) l p:=by
   unfold qCE
   rw [hw]
   refine qCl (beq_eq_false_iff_ne.2 (by omega)) ?_
   obtain ⟨o,p1,h1,h2⟩:=qJ0 3 (by decide) hl hp
   refine qA8 (qEK h2) ?_
   cases o with
   |true=>
    obtain ⟨⟨t,l',p'⟩,⟨rfl,g1,g2⟩,g3⟩:=qOl hl h1
    refine qCA rfl ⟨(t,l',p'),⟨rfl,g1,?_⟩,g3⟩
    dsimp only at g2⊢
    omega
   |false=>
    refine qCl rfl ?_
    obtain ⟨a,p2,h3,ha,h4⟩:=qBN 8 (by decide) hl h1
    refine qA8 (qEK h4) ?_
    have one:(⟨#[45]⟩:ByteArray).size≤9∧(⟨#[40]⟩:ByteArray).size≤9∧(⟨#[41]⟩:ByteArray).size≤9∧(⟨#[44]⟩:ByteArray).size≤9∧(⟨#[58]⟩:ByteArray).size≤9∧(⟨#[73,70,40]⟩:ByteArray).size≤9:=by decide
    obtain ⟨o1,o2,o3,o4,o5,o6⟩:=one
    have areaG:∀{K:Nat→Int×List (List PV)×Int→Int→Int→Int→Int→Tr (ByteArray×List (List PV)×Int)},(∀(u:ByteArray) (a b c d q:Int),u.size≤9→True)→True:=fun _=>trivial
    have c:a=0∨a=1∨(a=2∨a=3)∨a=4∨a=5∨¬(a=0∨a=1∨a=2∨a=3∨a=4∨a=5):=by omega
    rcases c with rfl|rfl|c|rfl|rfl|c
    ·refine qCA rfl ?_
     obtain ⟨t,p3,g1,g2,g3⟩:=ih h3
     exact qA8 g3 (qCA (fit o1 g2 (by omega)) (qCY ⟨rfl,g1,Nat.le_trans (qBl o1 g2) (by omega)⟩))
    ·refine qCl rfl (qCA rfl ?_)
     obtain ⟨t,p3,g1,g2,g3⟩:=ih h3
     exact qA8 g3 (qCA (fit o2 g2 (by omega)) (qCA (fit (qBl o2 g2) o3 (by omega)) (qCY ⟨rfl,g1,Nat.le_trans (qBl (qBl o2 g2) o3) (by omega)⟩)))
    ·obtain ⟨a1,a2,a3,a4,p3,g1,g2⟩:=qQS hl h3
     obtain ⟨b,p4,g3,hb',g4⟩:=qBN 6 (by decide) hl g1
     have z1:=qEn a1 a2 false false
     have z2:=qEn a3 a4 false false
     obtain ⟨t,p5,g5,g6,g7⟩:=ih g3
     have fin:∀(u:ByteArray),u.size≤9→Dwx (Drn l fun t:ByteArray=>t.size≤4*B) fun n=>(.ask (decide (u.size+(⟨#[40]⟩:ByteArray).size≤9223372036854775807)) (.opt (qi n a1 a2 false false) fun r83=>(.ask (decide ((u++(⟨#[40]⟩:ByteArray)).size+r83.size≤9223372036854775807)) (.ask (decide (((u++(⟨#[40]⟩:ByteArray))++r83).size+(⟨#[58]⟩:ByteArray).size≤9223372036854775807)) (.opt (qi n a3 a4 false false) fun r84=>(.ask (decide ((((u++(⟨#[40]⟩:ByteArray))++r83)++(⟨#[58]⟩:ByteArray)).size+r84.size≤9223372036854775807)) (.ask (decide (((((u++(⟨#[40]⟩:ByteArray))++r83)++(⟨#[58]⟩:ByteArray))++r84).size+(⟨#[44]⟩:ByteArray).size≤9223372036854775807)) (.opt (qAE n (d:Int) l p4) fun r85=>(.ask (decide ((((((u++(⟨#[40]⟩:ByteArray))++r83)++(⟨#[58]⟩:ByteArray))++r84)++(⟨#[44]⟩:ByteArray)).size+r85.1.size≤9223372036854775807)) (.ask (decide (((((((u++(⟨#[40]⟩:ByteArray))++r83)++(⟨#[58]⟩:ByteArray))++r84)++(⟨#[44]⟩:ByteArray))++r85.1).size+(⟨#[41]⟩:ByteArray).size≤9223372036854775807)) (.done ((((((((u++(⟨#[40]⟩:ByteArray))++r83)++(⟨#[58]⟩:ByteArray))++r84)++(⟨#[44]⟩:ByteArray))++r85.1)++(⟨#[41]⟩:ByteArray)),r85.2.1,r85.2.2)) .fail) .fail)) .fail) .fail)) .fail) .fail)) .fail:Tr (ByteArray×List (List PV)×Int)):=fun u hu=>by
      have s1:=qBl hu o2
      have s2:=qBl s1 z1
      have s3:=qBl s2 o5
      have s4:=qBl s3 z2
      have s5:=qBl s4 o4
      have s6:=qBl s5 g6
      exact qCA (fit hu o2 (by omega)) (qA8 (qED a1 a2 false false) (qCA (fit s1 z1 (by omega)) (qCA (fit s2 o5 (by omega)) (qA8 (qED a3 a4 false false) (qCA (fit s3 z2 (by omega)) (qCA (fit s4 o4 (by omega)) (qA8 g7 (qCA (fit s5 g6 (by omega)) (qCA (fit s6 o3 (by omega)) (qCY ⟨rfl,g5,Nat.le_trans (qBl s6 o3) (by omega)⟩))))))))))
     have cb:b=0∨b=1∨b=2∨b=3∨b=4∨b=5:=by omega
     rcases c with rfl|rfl
     ·refine qCl rfl (qCl rfl (qCA rfl (qA8 (qEK g2) (qA8 (qEK g4) ?_))))
      rcases cb with rfl|rfl|rfl|rfl|rfl|rfl<;>exact qCA rfl (qEf rfl (qEf rfl (fin _ (by decide))))
     ·refine qCl rfl (qCl rfl (qCl rfl (qCA rfl (qA8 (qEK g2) (qA8 (qEK g4) ?_)))))
      rcases cb with rfl|rfl|rfl|rfl|rfl|rfl<;>exact qCA rfl (qEf rfl (qEf rfl (fin _ (by decide))))
    ·refine qCl rfl (qCl rfl (qCl rfl (qCl rfl (qCA rfl ?_))))
     obtain ⟨t1,p3,g1,g2,g3⟩:=ih h3
     obtain ⟨t2,p4,g4,g5,g6⟩:=ih g1
     obtain ⟨t3,p5,g7,g8,g9⟩:=ih g4
     have s1:=qBl o6 g2
     have s2:=qBl s1 o4
     have s3:=qBl s2 g5
     have s4:=qBl s3 o4
     have s5:=qBl s4 g8
     exact qA8 g3 (qCA (fit o6 g2 (by omega)) (qCA (fit s1 o4 (by omega)) (qA8 g6 (qCA (fit s2 g5 (by omega)) (qCA (fit s3 o4 (by omega)) (qA8 g9 (qCA (fit s4 g8 (by omega)) (qCA (fit s5 o3 (by omega)) (qCY ⟨rfl,g7,Nat.le_trans (qBl s5 o3) (by omega)⟩)))))))))
    ·refine qCl rfl (qCl rfl (qCl rfl (qCl rfl (qCl rfl (qCA rfl ?_)))))
     obtain ⟨b,p3,g1,hb',g2⟩:=qBN 3 (by decide) hl h3
     obtain ⟨t,p4,g4,g5,g6⟩:=ih g1
     refine qA8 (qEK g2) ?_
     have cb:b=0∨b=1∨b=2:=by omega
     rcases cb with rfl|rfl|rfl<;>exact qCA rfl (qEf rfl (qEf rfl (qCA (fit (a:=9) (by decide) o2 (by omega)) (qA8 g6 (qCA (fit (qBl (a:=9) (by decide) o2) g5 (by omega)) (qCA (fit (qBl (qBl (a:=9) (by decide) o2) g5) o3 (by omega)) (qCY ⟨rfl,g4,Nat.le_trans (qBl (qBl (qBl (a:=9) (by decide) o2) g5) o3) (by omega)⟩)))))))
    ·have ne:∀{x:Int},a≠x→(a==x)=false:=fun h=>beq_eq_false_iff_ne.2 h
     refine qCl (ne (by omega)) (qCl (ne (by omega)) (qCl (ne (by omega)) (qCl (ne (by omega)) (qCl (ne (by omega)) (qCl (ne (by omega)) ?_)))))
     obtain ⟨t1,p3,g1,g2,g3⟩:=ih h3
     obtain ⟨b,p4,g4,hb',g5⟩:=qBN 11 (by decide) hl g1
     obtain ⟨t2,p5,g7,g8,g9⟩:=ih g4
     have w1:IntKind.i64.wrap ((1:Int)+b)=1+b:=qZ (by omega)
     have z:=qJY (op:=1+b) (by omega)
     refine qA8 g3 (qA8 (qEK g5) ?_)
     dsimp only
     rw [w1]
     exact qA8 (qIG (1+b) (by omega)) (qCA (fit g2 z (by omega)) (qA8 g9 (qCA (fit (qBl g2 z) g8 (by omega)) (qCY ⟨rfl,g7,Nat.le_trans (qBl (qBl g2 z) g8) (by omega)⟩))))
  obtain ⟨⟨t,l',p'⟩,⟨rfl,h1,h2⟩,h3⟩:=qN8 (F:=fun n=>qAE n ((d+1:Nat):Int) l p) key fun n=>rfl
  exact ⟨t,p',h1,h2,h3⟩
theorem qJc {l:List (List PV)} (hl:qHi l):∃t:ByteArray,t.size≤100000∧Ev (qCp · l) t:=by
 obtain ⟨t,p1,h1,h2,h3⟩:=qOm hl 3 (by decide) (p:=0) (by omega)
 obtain ⟨a,p2,h4,ha,h5⟩:=qBN 6 (by decide) hl h1
 have h2:t.size≤64000:=h2
 refine qN8 (R:=fun n=>qCo n l) (qA8 (qEK (qQP l)) (qA8 h3 (qA8 (qEK h5) ?_))) fun n=>rfl
 have c:a=0∨a=1∨¬(a=0∨a=1):=by omega
 rcases c with rfl|rfl|c
 ·obtain ⟨u,p3,g1,g2,g3⟩:=qQX t (by omega) hl h4
  exact qCA rfl (qA8 (qEK g3) (qCY (by dsimp only;omega)))
 ·obtain ⟨b,p3,g1,hb,g2⟩:=qBN 17 (by decide) hl h4
  refine qCl rfl (qCA rfl (qA8 (qEK g2) ?_))
  have c:b=0∨b=1∨b=2∨b=3∨b=4∨b=5∨b=6∨b=7∨b=8∨b=9∨b=10∨b=11∨b=12∨b=13∨b=14∨b=15∨b=16:=by omega
  rcases c with rfl|rfl|rfl|rfl|rfl|rfl|rfl|rfl|rfl|rfl|rfl|rfl|rfl|rfl|rfl|rfl|rfl<;>exact qCA rfl (qEf rfl (qEf rfl (qCY (by decide))))
 ·have ne:∀{x:Int},a≠x→(a==x)=false:=fun h=>beq_eq_false_iff_ne.2 h
  exact qCl (ne (by omega)) (qCl (ne (by omega)) (qCY (by dsimp only;omega)))
theorem qLJ (l:List Int) (hb:l.length≤140737488351232):∀n,l.length+5≤n→qCx n (l.map qA9) (l.map qA9)=some true:=by
 intro n hn
 obtain ⟨m,rfl,hm⟩:=up1 hn
 simp only [qCx,qEv,qC,qD,qF,qG,qH,qJ,Option.bind_some,qE,qK,qM]
 have h:=qNj (B:=qB6 m) (rows:=l.map qA9) (r:= .inr ())
  (fun i e he=>by
   obtain ⟨c,hc,rfl⟩:=qPz he
   have hi:i<l.length:=(List.getElem?_eq_some_iff.1 hc).1
   have hi':(i:Int)<l.length:=by omega
   have hw:IntKind.i64.wrap ((i:Int)+1)=(i:Int)+1:=qZ (by omega)
   simp [qB6,qC,qD,qF,qG,qH,qJ,Option.bind_some,qE,qK,qM,hi',hc,qA9,zF,hw])
  (by simp [qB6,qC,qD,qF,qG,qH,qJ,Option.bind_some,qE,qK,qM]) l.length 0 m (by simp) (by omega)
 simp only [Int.natCast_zero] at h
 simp [h,qC,qD,qF,qG,qH,qJ,Option.bind_some,qE,qK,qM]
theorem qKS (l:List Nd) (hb:l.length≤140737488351232) (hk:∀c∈l,(kd c).length≤140737488351232):Ev (qBG · (l.map qb) (l.map qb)) true:=by
 obtain ⟨n0,h0⟩:=qCN (F:=fun c n=>qCx n ((kd c).map qA9) ((kd c).map qA9)) (f:=fun _=>true) l fun c hc=>⟨_,qLJ (kd c) (hk c hc)⟩
 refine ⟨n0+l.length+5,fun n hn=>?_⟩
 obtain ⟨m,rfl,hm⟩:=up1 hn
 have h:=qNj (B:=qDW m) (rows:=l.map qb) (r:= .inr ())
  (fun i e he=>by
   rw [List.getElem?_map] at he
   obtain ⟨c,hc,rfl⟩:=Option.map_eq_some_iff.1 he
   have hi:i<l.length:=(List.getElem?_eq_some_iff.1 hc).1
   have hw:IntKind.i64.wrap ((i:Int)+1)=((i+1:Nat):Int):=by rw [qZ (by omega)];omega
   have hg:(l.map qb)[((i:Nat):Int).toNat]?=some (qb c):=by rw [Int.toNat_natCast,List.getElem?_map,hc];rfl
   have hc':(0:Int)≤(i:Int)∧(i:Int)<(l.map qb).length:=by simp;omega
   refine qN (decide_eq_true (by simpa using hi)) (qN (decide_eq_true hc') (qA hg (qN rfl ?_)))
   iterate 14 refine qA rfl ?_
   refine qN (decide_eq_true hc') (qA hg (qN rfl ?_))
   iterate 14 refine qA rfl ?_
   refine qR (bne_self_eq_false' _) (qR (bne_self_eq_false' _) (qR (by simp) (qR (by simp) (qR (by simp) (qA (h0 m (by omega) c (List.mem_of_getElem? hc)) (qR rfl ?_))))))
   show some _=some _
   rw [hw])
  (qR (by simp) rfl) l.length 0 m (by simp) (by omega)
 simp only [Int.natCast_zero] at h
 exact qR (by simp) (qA h rfl)
theorem law (rows:List (List PV)) (w:rows.length*1≤140737488351232∧∀r∈rows,okR [.i .u8] r):Ev (qDD · rows) true:=by
 suffices h:∃x,x=true∧Ev (qDD · rows) x by
  obtain ⟨x,rfl,h⟩:=h
  exact h
 refine qN8 (R:=fun n=>qDC n rows) (qA8 (qOC rows) ?_) fun n=>rfl
 by_cases h:(rows.length:Int)>1048576
 ·exact qCA (decide_eq_true h) (qCY rfl)
 refine qCl (decide_eq_false h) ?_
 have hl:=qQO w.2 h
 obtain ⟨s,hs,hd⟩:=qJc hl
 have same:∀t,Ev (qBG · ((qCy t).1.map qb) ((qCy t).1.map qb)) true:=fun t=>qKS _ (by have:=(qFl t).1;omega) fun c hc=>by have:=(qFD (qFl t).2 c hc).1;omega
 refine qA8 hd (qA8 (qE6 s (by omega)) (qA8 (qIt s (by omega)) (qCl (by simp) (qA8 (same s) (qCl rfl ?_)))))
 dsimp only
 cases ho:(qCy s).2 with
 |false=>exact qCA rfl (qCA rfl (qA8 (same s) (qCY rfl)))
 |true=>
  have hz:=qMc (qCy s).1
  have hf:qDq (qCy s).1=true:=qO4 ho
  refine qCl rfl (qA8 (qO0 s) (qA8 (qE6 (qGm (qCy s).1) (by omega)) (qA8 (qEF _ (by have:=(qFl s).1;omega) (qFD (qFl s).2)) (qCA hf ?_))))
  by_cases he:(qGm (qCy s).1).toList= []
  ·exact qCA (qRc he) (qCY rfl)
  ·have hr:=qPm hf (qFD (qFl s).2) he
   refine qCl (qRb he) (qCA (by rw [hr]) ?_)
   rw [hr]
   exact qA8 (same s) (qCY rfl)
end Go.Proofs.YthhngmnbcmkhpaaGreatDoor.KFnReadFormula

