import Derived.Test.YthhngmnbcmkhpaaTFnMovedBack
import Derived.Test.YthhngmnbcmkhpaaE32
import Derived.Lib.Strings
import Derived.Test.YthhngmnbcmkhpaaE33
import Derived.Test.YthhngmnbcmkhpaaSFnMovedBackp1
namespace Go.Proofs.Ythhngmnbcmkhpaa.KFnMovedBack
open Go.Eng
set_option linter.unusedVariables false
set_option linter.unusedSimpArgs false
theorem qHw:∀(g:Nat) (j:SJ) (q:PS),q.2.1=true→(sP g j q).2.2.1=true
 |0,j,q,h=>h
 |g+1,.row level,q,h=>by simp only [sP];rw [if_pos h];exact h
 |g+1,.rl level a,q,h=>by simp only [sP];rw [if_pos h];exact h
 |g+1,.one,q,h=>by
  simp only [sP]
  rw [qEz (w:= [45]) h]
  simp only [Bool.false_eq_true,if_false]
  rw [qEz (w:= [40]) (q:=(tb q.1,q.2)) h]
  simp only [Bool.false_eq_true,if_false]
  rw [qEz (w:= [34]) (q:=(tb q.1,q.2)) h]
  simp only [Bool.false_eq_true,if_false]
  rw [qEz (w:= [35]) (q:=(tb q.1,q.2)) h]
  simp only [Bool.false_eq_true,if_false]
  split
  ·rw [qEz (w:= [40]) (q:=(wr (tb q.1),q.2)) h]
   simp [qGj]
  ·split
   ·exact qHG h
   ·split
    ·exact qHG h
    ·rfl
 |g+1,.call op kids,q,h=>by simp only [sP];rw [if_pos h];exact h
 |g+1,.arg,q,h=>by
  simp only [sP]
  rw [qEz (w:= [58]) (q:=(wr (tb q.1),q.2)) h]
  simp only [Bool.false_eq_true,and_false,if_false]
  exact qHw g _ _ h
theorem qE0 {x:Nd} {p q:PS} (h:Lk p q):Sim (qEo x p) (qCc x q):=by
 obtain ⟨h1,h2,h3,h4⟩:=h
 unfold qEo qCc
 rw [h1,h2,h3]
 by_cases hl:60≤q.2.2.length
 ·refine .inr ⟨?_,.inl ?_⟩
  ·simp only;rw [if_pos (.inl (by omega))]
  ·rw [if_pos (.inr hl)]
 ·rw [if_neg (by simp;omega)]
  by_cases hn:qBQ x=false
  ·exact .inr ⟨by simp only;rw [if_pos (.inr hn)],.inr ⟨x,by simp,hn⟩⟩
  ·refine .inl ⟨rfl,rfl,?_,rfl,h4⟩
   simp only
   rw [if_neg]
   intro e
   rcases e with e|e
   ·omega
   ·exact hn e
theorem qKt {a b:Int×PS} (f:Int→Nd) (h:Sim a b):Sim (qEo (f a.1) a.2) (qCc (f b.1) b.2):=by
 rcases h with ⟨h1,h2⟩|⟨h1,h2⟩
 ·rw [h1];exact qE0 h2
 ·exact .inr ⟨qHG h1,qBc h2⟩
theorem qF3 {c:UInt8} (hc:c∈([45,40,41,44,58]:List UInt8)) {p q:PS} (h:Lk p q):(qu [c] p).1=(sIs [c] q).1∧Lk (qu [c] p).2 (sIs [c] q).2:=by
 obtain ⟨h1,h2,h3,h4⟩:=h
 obtain ⟨e1,e2,e3,e4⟩:=qMG hc h2 h4
 refine ⟨e1,?_,?_,?_,?_⟩
 ·rw [e3];exact h1
 ·rw [e4];exact h2
 ·rw [e3,e4];exact h3
 ·rw [e2]
theorem qKu {c:UInt8} (hc:c∈([45,40,41,44,58]:List UInt8)) {a b:Int×PS} (h:Sim a b):Sim (a.1,qDO [c] a.2) (b.1,if (sIs [c] b.2).1=true then (sIs [c] b.2).2 else qGj (sIs [c] b.2).2):=by
 rcases h with ⟨h1,h2⟩|⟨h1,h2⟩
 ·obtain ⟨e1,e2⟩:=qF3 hc h2
  unfold qDO
  rw [if_neg (by rw [h2.1];simp),e1]
  by_cases ht:(sIs [c] b.2).1=true
  ·rw [if_pos ht,if_pos ht]
   exact .inl ⟨h1,e2⟩
  ·rw [if_neg ht,if_neg ht]
   exact .inr ⟨rfl,qDP _⟩
 ·refine .inr ⟨?_,qEp h2⟩
  rw [qEz h1]
  simp [qGj]
def qFO (G:Nat) (least:Int):Nat→Int×PS→Int×PS→Prop
 |0,x,res=>res=x
 |m+1,x,res=>if ((m:Int)+1)<least then res=x else ∃g,G≤g∧qFO G least m (sP g (.rl ((m:Int)+1) x.1) x.2) res
theorem qHx {G G':Nat} (h:G'≤G) {least:Int}:∀(m:Nat) {x res:Int×PS},qFO G least m x res→qFO G' least m x res
 |0,x,res,ht=>ht
 |m+1,x,res,ht=>by
  unfold qFO at ht⊢
  split
  ·rename_i hc;rw [if_pos hc] at ht;exact ht
  ·rename_i hc
   rw [if_neg hc] at ht
   obtain ⟨g,h1,h2⟩:=ht
   exact ⟨g,Nat.le_trans h h1,qHx h m h2⟩
theorem qHH {G:Nat} {least:Int}:∀(m:Nat) {x res:Int×PS},x.2.2.1=true→qFO G least m x res→res.2.2.1=true
 |0,x,res,hb,ht=>by unfold qFO at ht;rw [ht];exact hb
 |m+1,x,res,hb,ht=>by
  unfold qFO at ht
  split at ht
  ·rw [ht];exact hb
  ·obtain ⟨g,_,h2⟩:=ht
   exact qHH m (qHw g _ _ hb) h2
theorem qJ6 {G:Nat} {l:Nat} (hl0:1≤l) {g:Nat} (hg:G≤g):∀(m:Nat) {x y:Int×PS},l≤m→qFO G ((l:Int)+1) m x y→qFO G (l:Int) m x (sP g (.rl (l:Int) y.1) y.2)
 |0,x,y,hl,ht=>by omega
 |m+1,x,y,hl,ht=>by
  unfold qFO at ht⊢
  rw [if_neg (by omega)]
  by_cases e:l=m+1
  ·subst e
   rw [if_pos (by omega)] at ht
   subst ht
   refine ⟨g,hg,?_⟩
   have key:∀{z:Int×PS},qFO G ((m+1:Nat):Int) m z z:=fun {z}=>by
    cases m with
    |zero=>rfl
    |succ k=>unfold qFO;rw [if_pos (by omega)]
   exact key
  ·rw [if_neg (by omega)] at ht
   obtain ⟨g',h1,h2⟩:=ht
   exact ⟨g',h1,qJ6 hl0 hg m (by omega) h2⟩
theorem qKv {G:Nat} {q:PS} (hq:q.2.1=false):∀(k:Nat),k≤4→∀g,G+k≤g→∃g5,G≤g5∧qFO G (5-(k:Int)) 4 (sP g5 (.row 5) q) (sP g (.row (5-(k:Int))) q)
 |0,_,g,hg=>⟨g,hg,by
  unfold qFO
  rw [if_pos (by decide)]
  simp⟩
 |k+1,hk,0,hg=>by omega
 |k+1,hk,g+1,hg=>by
  obtain ⟨g5,h1,h2⟩:=qKv (G:=G) hq k (by omega) g (by omega)
  refine ⟨g5,h1,?_⟩
  have e:(5-((k+1:Nat):Int))=((4-k:Nat):Int):=by omega
  have e1:(5-(k:Int))=((4-k:Nat):Int)+1:=by omega
  rw [e1] at h2
  rw [e]
  have:=qJ6 (G:=G) (l:=4-k) (by omega) (g:=g) (by omega) 4 (by omega) h2
  have e2:sP (g+1) (.row ((4-k:Nat):Int)) q=sP g (.rl ((4-k:Nat):Int) (sP g (.row (((4-k:Nat):Int)+1)) q).1) (sP g (.row (((4-k:Nat):Int)+1)) q).2:=by
   simp only [sP]
   rw [if_neg (by rw [hq];simp),if_neg (by omega)]
  rw [e2]
  exact this
theorem qLt (H:RdOK) {r:List UInt8} (h:r.head?=some 35):∀(k:Nat) (n:Int),1≤n→n+k≤6→qKs r.tail n k=qJK r n k
 |0,n,_,_=>rfl
 |k+1,n,h1,h2=>by
  obtain ⟨t,ht⟩:=H.n n ⟨h1,by omega⟩
  cases r with
  |nil=>cases h
  |cons c r=>
   simp only [List.head?_cons,Option.some.injEq] at h
   subst h
   simp only [qKs,qJK,ht,List.tail_cons]
   have ih:=qLt H (r:=35::r) rfl k (n+1) (by omega) (by omega)
   simp only [List.tail_cons] at ih
   rw [ih]
   simp [List.isPrefixOf]
theorem qKw {r:List UInt8}:∀(k:Nat) (n:Int) {m:Int},qJK r n k=some m→n≤m∧m<n+k
 |0,n,m,h=>by cases h
 |k+1,n,m,h=>by
  simp only [qJK] at h
  split at h
  ·simp only [Option.some.injEq] at h;omega
  ·have:=qKw k (n+1) h;omega
theorem qKx (c:UInt8) (r:List UInt8):([c].isPrefixOf r=true)↔r.head?=some c:=by
 cases r with
 |nil=>simp [List.isPrefixOf]
 |cons d t=>simp [List.isPrefixOf];exact eq_comm
theorem qHI {c:UInt8} {q:PS} (hb:q.2.1=false):(sIs [c] q).1=true↔(tb q.1).head?=some c:=by
 unfold sIs
 rw [if_neg (by rw [hb];simp)]
 split
 ·rename_i h;exact ⟨fun _=>(qKx c _).1 h,fun _=>rfl⟩
 ·rename_i h;exact ⟨fun e=>(by cases e),fun e=>absurd ((qKx c _).2 e) h⟩
theorem qK9 (r:List UInt8):(wd r).all wch=true:=by
 unfold wd
 induction r with
 |nil=>rfl
 |cons c r ih=>
  by_cases h:wch c=true
  ·simp only [List.takeWhile_cons,h,if_true,List.all_cons,Bool.true_and];exact ih
  ·simp [List.takeWhile_cons,h]
def qML (N:Nat):Prop:=∀(p q:PS) (deep:Int) (f g:Nat),Lk p q→(tb p.1).length=N→0≤deep→deep+N≤400→20*N+4≤f→20*N+5≤g→Sim (pP f (.un deep) p) (sP g (.row 5) q)
def qMM (N:Nat):Prop:=∀(m:Nat),m≤4→∀(p q:PS) (deep least a:Int) (f:Nat) (res:Int×PS),Lk p q→(tb p.1).length=N→1≤least→0≤deep→deep+N≤400→20*N+5≤f→
 (qBD (tb p.1)=0∨lvl (qBD (tb p.1))≤m)→qFO (20*N+5) least m (a,q) res→SimP least (pP f (.loop least deep a) p) res
def qLu (N:Nat):Prop:=∀(p q:PS) (deep:Int) (k f g:Nat),k≤4→Lk p q→(tb p.1).length=N→0≤deep→deep+N≤400→20*N+6≤f→20*N+10≤g→SimP (5-(k:Int)) (pP f (.bin (5-(k:Int)) deep) p) (sP g (.row (5-(k:Int))) q)
def qMN (N:Nat):Prop:=∀(p q:PS) (deep op:Int) (kids:List Int) (f g:Nat),Lk p q→(tb p.1).length=N→0≤deep→deep+N+1≤400→20*N+8≤f→20*N+12≤g→Sim (pP f (.args op deep kids) p) (sP g (.call op kids) q)
theorem qM8 (N:Nat) (hB:∀M,M<N→qLu M) (hT:∀M,M<N→qMM M):qMM N:=by
 intro m
 induction m with
 |zero=>
  intro hm p q deep least a f res hl hN hle hd hdN hf hpk ht
  have h0:qBD (tb p.1)=0:=by
   rcases hpk with h|h
   ·exact h
   ·have:=(qLs (op:=qBD (tb p.1))).1
    omega
  cases f with
  |zero=>omega
  |succ f=>
   simp only [pP]
   rw [if_neg (by rw [hl.1];simp),if_pos (.inl h0)]
   unfold qFO at ht
   subst ht
   refine .inl ⟨rfl,⟨hl.1,hl.2.1,hl.2.2.1,?_⟩,.inl ?_⟩
   ·simp only;rw [qBw];exact hl.2.2.2
   ·simp only;rw [qBw];exact h0
 |succ m ih=>
  intro hm p q deep least a f res hl hN hle hd hdN hf hpk ht
  unfold qFO at ht
  by_cases hc:(m:Int)+1<least
  ·rw [if_pos hc] at ht
   subst ht
   cases f with
   |zero=>omega
   |succ f=>
    have hst:qBD (tb p.1)=0∨lvl (qBD (tb p.1))<least:=by
     rcases hpk with h|h
     ·exact .inl h
     ·right;push_cast at h;omega
    simp only [pP]
    rw [if_neg (by rw [hl.1];simp),if_pos hst]
    refine .inl ⟨rfl,⟨hl.1,hl.2.1,hl.2.2.1,?_⟩,?_⟩
    ·simp only;rw [qBw];exact hl.2.2.2
    ·unfold qMw;simp only;rw [qBw];exact hst
  ·rw [if_neg hc] at ht
   obtain ⟨g,hg,ht⟩:=ht
   cases g with
   |zero=>omega
   |succ g=>
    have hin:=qMK (m:=(m:Int)+1) (by omega) (tb q.1)
    have hpq:tb p.1=tb q.1:=hl.2.2.2
    simp only [sP] at ht
    rw [if_neg (by rw [hl.2.1];simp)] at ht
    have ho:sOp ((m:Int)+1) q=(qCP ((m:Int)+1) (tb q.1) qBH,(if qCP ((m:Int)+1) (tb q.1) qBH=0 then tb q.1 else (tb q.1).drop (qAR (qCP ((m:Int)+1) (tb q.1) qBH)).size),q.2):=by
     unfold sOp;rw [if_neg (by rw [hl.2.1];simp)]
    by_cases hop:qBD (tb q.1)≠0∧lvl (qBD (tb q.1))=(m:Int)+1
    ·rw [if_pos hop] at hin
     rw [hin,if_neg hop.1] at ho
     rw [ho] at ht
     simp only at ht
     rw [if_neg hop.1] at ht
     cases f with
     |zero=>omega
     |succ f=>
      simp only [pP]
      rw [if_neg (by rw [hl.1];simp),if_neg (by rw [hpq];exact fun e=>e.elim (fun e=>hop.1 e) (fun e=>by have:=hop.2;omega))]
      rw [hpq]
      rcases qMH (tb q.1) with h0|⟨_,_,hsg⟩
      ·exact absurd h0 hop.1
      have hsz:(sgn (tb q.1)).length=(qAR (qBD (tb q.1))).size:=by rw [hsg,qAf]
      have hpos:0<(sgn (tb q.1)).length:=by
       cases hh:sgn (tb q.1) with
       |nil=>
        exfalso
        apply hop.1
        unfold qBD
        rw [hh]
        simp
       |cons c t=>simp
      have hdrop:(tb ((tb q.1).drop (sgn (tb q.1)).length)).length<N:=by
       have h1:=qAI ((tb q.1).drop (sgn (tb q.1)).length)
       have h2:(sgn (tb q.1)).length≤(tb q.1).length∨(tb q.1).length<(sgn (tb q.1)).length:=by omega
       rw [List.length_drop] at h1
       have h3:(tb q.1).length=N:=by rw [←hpq];exact hN
       have h4:0<N:=by
        rcases Nat.eq_zero_or_pos N with h|h
        ·exfalso
         rw [h] at h3
         have:tb q.1= []:=List.eq_nil_of_length_eq_zero h3
         apply hop.1
         rw [this];rfl
        ·exact h
       omega
      have hlk:Lk ((tb q.1).drop (sgn (tb q.1)).length,p.2) ((tb q.1).drop (qAR (qBD (tb q.1))).size,q.2):=⟨hl.1,hl.2.1,hl.2.2.1,by simp only;rw [hsz]⟩
      have hb:=hB _ hdrop ((tb q.1).drop (sgn (tb q.1)).length,p.2) ((tb q.1).drop (qAR (qBD (tb q.1))).size,q.2) deep (3-m) f g (by omega) hlk rfl hd (by omega) (by omega) (by omega)
      have e5:(5-((3-m:Nat):Int))=(m:Int)+1+1:=by omega
      rw [e5] at hb
      rw [hop.2]
      have hlenA:=qC2 f (.bin ((m:Int)+1+1) deep) ((tb q.1).drop (sgn (tb q.1)).length,p.2)
      generalize pP f (.bin ((m:Int)+1+1) deep) ((tb q.1).drop (sgn (tb q.1)).length,p.2)=A at hb hlenA⊢
      generalize hBB:sP g (.row ((m:Int)+1+1)) ((tb q.1).drop (qAR (qBD (tb q.1))).size,q.2)=B at hb ht
      rcases hb with ⟨b1,b2,b3⟩|⟨b1,b2⟩
      ·rw [b1]
       have hs:=qE0 (x:=ndK 5 (qBD (tb q.1)) [a,B.1]) b2
       generalize hC:qEo (ndK 5 (qBD (tb q.1)) [a,B.1]) A.2=C at hs⊢
       generalize qCc (ndK 5 (qBD (tb q.1)) [a,B.1]) B.2=D at hs ht
       rcases hs with ⟨c1,c2⟩|⟨c1,c2⟩
       ·have hrC:C.2.1=A.2.1:=by rw [←hC];exact qAY _ _
        have hN3:(tb C.2.1).length<N:=by
         rw [hrC]
         exact Nat.lt_of_le_of_lt hlenA hdrop
        refine hT _ hN3 (m+1) hm C.2 D.2 deep least C.1 f res c2 rfl hle hd (by omega) (by omega) ?_ ?_
        ·rw [hrC]
         rcases b3 with h|h
         ·exact .inl h
         ·right;push_cast;omega
        ·rw [c1]
         unfold qFO
         rw [if_neg hc]
         exact ⟨g,by omega,qHx (by omega) m ht⟩
       ·exact .inr ⟨qHH _ (qHw g _ _ c1) ht,qBh f _ _ c2⟩
      ·exact .inr ⟨qHH _ (qHw g _ _ (qHG b1)) ht,qBh f _ _ (qBc b2)⟩
    ·rw [if_neg hop] at hin
     rw [hin,if_pos rfl] at ho
     rw [ho] at ht
     simp only at ht
     rw [if_pos trivial] at ht
     refine ih (by omega) p (tb q.1,q.2) deep least a f res ⟨hl.1,hl.2.1,hl.2.2.1,by simp only;rw [qBw];exact hpq⟩ hN hle hd hdN hf ?_ ht
     rw [hpq]
     rw [hpq] at hpk
     by_cases h0:qBD (tb q.1)=0
     ·exact .inl h0
     ·right
      rcases hpk with h|h
      ·exact absurd h h0
      ·have:lvl (qBD (tb q.1))≠(m:Int)+1:=fun e=>hop ⟨h0,e⟩
       push_cast at h
       omega
theorem qMO (N:Nat) (hA:qML N) (hT:∀M,M≤N→qMM M):qLu N:=by
 intro p q deep k f g hk hl hN hd hdN hf hg
 obtain ⟨g5,hg5,ht⟩:=qKv (G:=20*N+5) hl.2.1 k hk g (by omega)
 cases f with
 |zero=>omega
 |succ f=>
  simp only [pP]
  have ha:=hA p q deep f g5 hl hN hd hdN (by omega) hg5
  have hlen:=qC2 f (.un deep) p
  generalize pP f (.un deep) p=A at ha hlen⊢
  generalize sP g5 (.row 5) q=B at ha ht
  rcases ha with ⟨h1,h2⟩|⟨h1,h2⟩
  ·have hM:(tb A.2.1).length≤N:=by omega
   refine hT _ hM 4 (by omega) A.2 B.2 deep (5-(k:Int)) A.1 f _ h2 rfl (by omega) hd (by omega) (by omega) (.inr ?_) ?_
   ·have:=(qLs (op:=qBD (tb A.2.1))).2;omega
   ·rw [h1];exact qHx (by omega) 4 ht
  ·exact .inr ⟨qHH 4 h1 ht,qBh f _ _ h2⟩
theorem qMP (H:RdOK) (N:Nat) (hB:qLu N) (hC:∀M,M<N→qMN M):qMN N:=by
 intro p q deep op kids f g hl hN hd hdN hf hg
 cases f with
 |zero=>omega
 |succ f=>
 cases g with
 |zero=>omega
 |succ g=>
 cases g with
 |zero=>omega
 |succ g=>
 have hpq:=hl.2.2.2
 have hpb:¬p.2.1=true:=by rw [hl.1];simp
 have hqb:¬q.2.1=true:=by rw [hl.2.1];simp
 have harg:Sim (qDX (qCR p) (fun p=>pP f (.bin 1 (deep+1)) p)) (sP (g+1) .arg q)∧(tb (qDX (qCR p) (fun p=>pP f (.bin 1 (deep+1)) p)).2.1).length≤N:=by
  refine ⟨?_,?_⟩
  ·have hw:Lk (wr (tb p.1),p.2) (wr (tb q.1),q.2):=⟨hl.1,hl.2.1,hl.2.2.1,by rw [hpq]⟩
   obtain ⟨e1,e2⟩:=qF3 (c:=58) (by decide) hw
   simp only [sP]
   unfold qDX qCR
   simp only
   rw [hpq] at e1 e2⊢
   by_cases hc:(qA9 (BR (wd (tb q.1)))).2.2.2.2=true∧(qu [58] (wr (tb q.1),p.2)).1=true
   ·rw [if_pos hc,if_pos ⟨hc.1,e1▸hc.2⟩]
    simp only
    rw [e2.2.2.2]
    by_cases h2:(qA9 (BR (wd (tb (sIs [58] (wr (tb q.1),q.2)).2.1)))).2.2.2.2=true
    ·rw [if_pos h2,h2]
     simp only [Bool.not_true,Bool.or_false]
     exact qE0 ⟨e2.1,e2.2.1,e2.2.2.1,rfl⟩
    ·rw [if_neg h2]
     refine .inr ⟨rfl,qBc (.inl ?_)⟩
     simp only
     have h2:(qA9 (BR (wd (tb (sIs [58] (wr (tb q.1),q.2)).2.1)))).2.2.2.2=false:=by simpa using h2
     rw [h2];simp
   ·rw [if_neg hc,if_neg (fun e=>hc ⟨e.1,e1.symm▸e.2⟩)]
    simp only
    have:=hB p (tb q.1,q.2) (deep+1) 4 f g (by omega) ⟨hl.1,hl.2.1,hl.2.2.1,by simp only;rw [qBw];exact hpq⟩ hN (by omega) (by omega) (by omega) (by omega)
    exact this.sim
  ·unfold qDX
   split
   ·rw [qAY];have:=qF1 p;omega
   ·have h1:=qC2 f (.bin 1 (deep+1)) (qCR p).2
    have h2:=qF1 p
    exact Nat.le_trans h1 (by omega)
 obtain ⟨harg,hal⟩:=harg
 simp only [pP]
 rw [if_neg hpb]
 have hs:sP (g+1+1) (.call op kids) q=(if (sIs [41] (sP (g+1) .arg q).2).1=true then qCc (ndK 6 op (kids++ [(sP (g+1) .arg q).1])) (sIs [41] (sP (g+1) .arg q).2).2
  else sP (g+1) (.call op (kids++ [(sP (g+1) .arg q).1])) (if (sIs [44] (sIs [41] (sP (g+1) .arg q).2).2).1=true then (sIs [44] (sIs [41] (sP (g+1) .arg q).2).2).2 else qGj (sIs [44] (sIs [41] (sP (g+1) .arg q).2).2).2)):=by
  rw [sP]
  rw [if_neg hqb]
 rw [hs]
 generalize qDX (qCR p) (fun p=>pP f (.bin 1 (deep+1)) p)=Q at harg hal⊢
 generalize sP (g+1) .arg q=A at harg⊢
 rcases harg with ⟨h1,h2⟩|⟨h1,h2⟩
 ·have hb2:=h2.2.1
  obtain ⟨c1,c2⟩:=qF3 (c:=44) (by decide) h2
  have i41:=qHI (c:=41) hb2
  have i44:=qHI (c:=44) hb2
  by_cases hc:(qu [44] Q.2).1=true
  ·rw [if_pos hc]
   have hh:=i44.1 (c1▸hc)
   have n41:¬(sIs [41] A.2).1=true:=fun e=>by rw [i41.1 e] at hh;cases hh
   rw [if_neg n41]
   have e41:(sIs [41] A.2).2=(tb A.2.1,A.2.2):=by
    unfold sIs at n41⊢
    rw [if_neg (by rw [hb2];simp)] at n41⊢
    split
    ·rename_i hx;rw [if_pos hx] at n41;exact absurd rfl n41
    ·rfl
   rw [e41]
   have e44:sIs [44] (tb A.2.1,A.2.2)=sIs [44] A.2:=by unfold sIs;simp only [qBw]
   rw [e44,if_pos (c1▸hc),h1]
   have hlt:=qFr (w:= [44]) (by simp) hc
   have htb:=qAI (qu [44] Q.2).2.1
   exact hC _ (by omega) (qu [44] Q.2).2 (sIs [44] A.2).2 deep op _ f (g+1) c2 rfl hd (by omega) (by omega) (by omega)
  ·rw [if_neg hc]
   have et:(qu [44] Q.2).2=(tb Q.2.1,Q.2.2):=by
    unfold qu at hc⊢
    split
    ·rename_i hx;rw [if_pos hx] at hc;exact absurd rfl hc
    ·rfl
   rw [et]
   have hl2:Lk (tb Q.2.1,Q.2.2) A.2:=⟨h2.1,h2.2.1,h2.2.2.1,by simp only;rw [qBw];exact h2.2.2.2⟩
   have hm:=qKu (c:=41) (by decide) (a:=(A.1,(tb Q.2.1,Q.2.2))) (b:=(A.1,A.2)) (.inl ⟨rfl,hl2⟩)
   by_cases h41:(sIs [41] A.2).1=true
   ·rw [if_pos h41]
    simp only [h41,if_true] at hm
    have:=qKt (fun _=>ndK 6 op (kids++ [A.1])) hm
    rw [h1]
    exact this
   ·rw [if_neg h41]
    have e41:(sIs [41] A.2).2=(tb A.2.1,A.2.2):=by
     unfold sIs at h41⊢
     rw [if_neg (by rw [hb2];simp)] at h41⊢
     split
     ·rename_i hx;rw [if_pos hx] at h41;exact absurd rfl h41
     ·rfl
    have e44:sIs [44] (tb A.2.1,A.2.2)=sIs [44] A.2:=by unfold sIs;simp only [qBw]
    rw [e41,e44,if_neg (c1▸hc)]
    refine .inr ⟨qHw _ _ _ rfl,qBc ?_⟩
    simp only [if_neg h41] at hm
    rcases hm with ⟨_,_,hb,_⟩|⟨_,hdm⟩
    ·simp [qGj] at hb
    ·exact hdm
 ·have e41:sIs [41] A.2=(false,tb A.2.1,A.2.2):=qEz h1
  have e44:sIs [44] (tb A.2.1,A.2.2)=(false,tb (tb A.2.1),A.2.2):=qEz h1
  rw [e41]
  simp only [Bool.false_eq_true,if_false]
  rw [e44]
  simp only [Bool.false_eq_true,if_false]
  refine .inr ⟨qHw _ _ _ rfl,?_⟩
  split
  ·exact qBh f _ _ (qCl h2)
  ·exact qBc (qEp (qCl h2))
theorem qKy {c d:UInt8} (h:c≠d) {r:List UInt8} (hr:r.head?=some c):¬r.head?=some d:=by rw [hr];simpa using h
theorem qMQ (H:RdOK) (N:Nat) (hA:∀M,M<N→qML M) (hB:∀M,M<N→qLu M) (hC:∀M,M<N→qMN M):qML N:=by
 intro p q deep f g hl hN hd hdN hf hg
 cases f with
 |zero=>omega
 |succ f=>
 cases f with
 |zero=>omega
 |succ f=>
 cases g with
 |zero=>omega
 |succ g=>
 cases g with
 |zero=>omega
 |succ g=>
 have hpq:=hl.2.2.2
 have hpb:¬p.2.1=true:=by rw [hl.1];simp
 have hqb:¬q.2.1=true:=by rw [hl.2.1];simp
 have hq0:=hl.2.1
 have hs:sP (g+1+1) (.row 5) q=sP (g+1) .one q:=by
  rw [sP,if_neg hqb,if_pos rfl]
 rw [hs]
 obtain ⟨e1,e2⟩:=qF3 (c:=45) (by decide) hl
 rw [pP]
 rw [if_neg (by intro e;rcases e with e|e;omega;exact hpb e)]
 by_cases hc:(qu [45] p).1=true
 ·rw [if_pos hc]
  simp only [sP]
  rw [if_pos (e1▸hc)]
  have hlt:=qFr (w:= [45]) (by simp) hc
  have htb:=qAI (qu [45] p).2.1
  exact qKt (fun k=>ndK 4 0 [k]) (hA _ (by omega) _ _ (deep+1) (f+1) g e2 rfl (by omega) (by omega) (by omega) (by omega))
 ·rw [if_neg hc]
  have hp':(qu [45] p).2=(tb p.1,p.2):=by
   unfold qu at hc⊢
   split
   ·rename_i hx;rw [if_pos hx] at hc;exact absurd rfl hc
   ·rfl
  have hq':(sIs [45] q).2=(tb q.1,q.2):=by
   have hc:¬(sIs [45] q).1=true:=e1▸hc
   unfold sIs at hc⊢
   rw [if_neg hqb] at hc⊢
   split
   ·rename_i hx;rw [if_pos hx] at hc;exact absurd rfl hc
   ·rfl
  rw [hp']
  simp only [sP]
  rw [if_neg (e1▸hc),hq']
  simp only [pP,qBw]
  have hl2:Lk (tb p.1,p.2) (tb q.1,q.2):=⟨hl.1,hl.2.1,hl.2.2.1,by simp only [qBw];exact hpq⟩
  obtain ⟨f1,f2⟩:=qF3 (c:=40) (by decide) hl2
  have i40:=qHI (c:=40) (q:=(tb q.1,q.2)) hq0
  have i34:=qHI (c:=34) (q:=(tb q.1,q.2)) hq0
  have i35:=qHI (c:=35) (q:=(tb q.1,q.2)) hq0
  simp only [qBw] at i40 i34 i35
  rw [hpq] at hN f1 f2⊢
  by_cases h34:(tb q.1).head?=some 34
  ·rw [if_pos h34,if_neg (fun e=>qKy (by decide) h34 (i40.1 e)),if_pos (i34.2 h34)]
   have es:(sIs [34] (tb q.1,q.2)).2.1=(tb q.1).tail:=by
    have:=i34.2 h34
    unfold sIs at this⊢
    rw [if_neg hqb] at this⊢
    simp only [qBw] at this⊢
    split
    ·simp
    ·rename_i hx;rw [if_neg hx] at this;cases this
   rw [es]
   cases hqr:qBv [] (tb q.1).tail with
   |none=>exact .inr ⟨rfl,.inl rfl⟩
   |some st=>
    obtain ⟨s,t⟩:=st
    exact qE0 ⟨hl.1,hl.2.1,hl.2.2.1,rfl⟩
  ·rw [if_neg h34]
   by_cases h35:(tb q.1).head?=some 35
   ·rw [if_pos h35,if_neg (fun e=>qKy (by decide) h35 (i40.1 e)),if_neg (fun e=>h34 (i34.1 e)),if_pos (i35.2 h35)]
    have es:(sIs [35] (tb q.1,q.2)).2.1=(tb q.1).tail:=by
     have:=i35.2 h35
     unfold sIs at this⊢
     rw [if_neg hqb] at this⊢
     simp only [qBw] at this⊢
     split
     ·simp
     ·rename_i hx;rw [if_neg hx] at this;cases this
    rw [es,qLt H h35 5 1 (by omega) (by omega)]
    cases he:qJK (tb q.1) 1 5 with
    |some n=>
     simp only
     obtain ⟨t,ht⟩:=H.n n (by have:=qKw 5 1 he;omega)
     have hsz:(qi n).size=t.length+1:=by rw [←qAf,ht];rfl
     refine qE0 ⟨hl.1,hl.2.1,hl.2.2.1,?_⟩
     simp only
     rw [hsz]
     cases hr:tb q.1 with
     |nil=>rw [hr] at h35;cases h35
     |cons c r=>rfl
    |none=>
     simp only
     rw [if_neg (fun e=>e.1 h35)]
     have hw:wd (tb q.1)= []:=by
      cases hr:tb q.1 with
      |nil=>rw [hr] at h35;cases h35
      |cons c r=>
       rw [hr] at h35
       simp only [List.head?_cons,Option.some.injEq] at h35
       subst h35
       rfl
     rw [hw,if_neg (fun e=>H.v0 e.2),if_neg (by rw [H.p0];simp),H.f0]
     exact .inr ⟨rfl,qDP _⟩
   ·rw [if_neg h35]
    simp only
    by_cases h40:(qu [40] (tb q.1,p.2)).1=true
    ·rw [if_pos ⟨h35,h40⟩,if_pos (f1▸h40)]
     have hlt:=qFr (w:= [40]) (by simp) h40
     simp only [qBw] at hlt
     have htb:=qAI (qu [40] (tb q.1,p.2)).2.1
     have hb:=(hB _ (by omega) _ _ (deep+1) 4 f g (by omega) f2 rfl (by omega) (by omega) (by omega) (by omega)).sim
     have e5:(5-((4:Nat):Int))=1:=by omega
     rw [e5] at hb
     exact qKu (by decide) hb
    ·have n40:¬(sIs [40] (tb q.1,q.2)).1=true:=f1▸h40
     have n34:¬(sIs [34] (tb q.1,q.2)).1=true:=fun e=>h34 (i34.1 e)
     have n35:¬(sIs [35] (tb q.1,q.2)).1=true:=fun e=>h35 (i35.1 e)
     rw [if_neg (fun e=>h40 e.2),if_neg n40,if_neg n34,if_neg n35]
     have hl3:Lk (wr (tb q.1),p.2) (wr (tb q.1),q.2):=⟨hl.1,hl.2.1,hl.2.2.1,rfl⟩
     cases hfn:qIZ (wd (tb q.1)) 1 10 with
     |some op=>
      simp only
      obtain ⟨z1,z2⟩:=H.f _ _ hfn
      rw [if_neg (by rw [z1];simp),if_neg (by rw [z2];simp)]
      have hne:1≤(wd (tb q.1)).length:=by
       cases hw:wd (tb q.1) with
       |nil=>rw [hw,H.f0] at hfn;cases hfn
       |cons c t=>simp
      have hlen:(wr (tb q.1)).length+1≤N:=by
       have:=congrArg List.length (wdr (tb q.1))
       simp only [List.length_append] at this
       omega
      obtain ⟨k1,k2⟩:=qF3 (c:=40) (by decide) hl3
      cases f with
      |zero=>omega
      |succ f=>
       simp only [pP]
       by_cases ht:(sIs [40] (wr (tb q.1),q.2)).1=true
       ·rw [if_pos ht]
        have em:qDO [40] (wr (tb q.1),p.2)=(qu [40] (wr (tb q.1),p.2)).2:=by
         unfold qDO
         rw [if_neg hpb,if_pos (k1▸ht)]
        rw [em]
        have hlt:=qFr (w:= [40]) (by simp) (k1.symm▸ht)
        have h2:=qAI (wr (tb q.1))
        have h3:=qAI (qu [40] (wr (tb q.1),p.2)).2.1
        simp only at hlt
        exact hC _ (by omega) _ _ deep op [] f g k2 rfl hd (by omega) (by omega) (by omega)
       ·rw [if_neg ht]
        have em:qDO [40] (wr (tb q.1),p.2)=qLr (qu [40] (wr (tb q.1),p.2)).2:=by
         unfold qDO
         rw [if_neg hpb,if_neg (k1▸ht)]
        rw [em]
        exact .inr ⟨rfl,qBh f _ _ (qDP _)⟩
     |none=>
      simp only
      by_cases hw0:wd (tb q.1)= []
      ·rw [hw0,if_neg (fun e=>H.v0 e.2),if_neg (by rw [H.p0];simp),if_neg (fun e=>e.2 rfl),if_neg (by rw [H.p0];simp)]
       exact .inr ⟨rfl,qDP _⟩
      ·by_cases hv:(q8 (BR (wd (tb q.1)))).2.2.2=true
       ·rw [if_pos ⟨hv,H.v _ (qK9 _) hw0 hv⟩,if_pos ⟨hv,hw0⟩]
        exact qE0 hl3
       ·have nv1:¬((q8 (BR (wd (tb q.1)))).2.2.2=true∧((q8 (BR (wd (tb q.1)))).1=1∨(q8 (BR (wd (tb q.1)))).1=3)):=fun e=>hv e.1
        have nv2:¬((q8 (BR (wd (tb q.1)))).2.2.2=true∧wd (tb q.1)≠ []):=fun e=>hv e.1
        rw [if_neg nv1,if_neg nv2]
        by_cases hp:(qA9 (BR (wd (tb q.1)))).2.2.2.2=true
        ·rw [if_pos hp,if_pos hp]
         exact qE0 hl3
        ·rw [if_neg hp,if_neg hp]
         exact .inr ⟨rfl,qDP _⟩
theorem qMR (H:RdOK) (N:Nat):qML N∧qMM N∧qLu N∧qMN N:=by
 induction N using Nat.strongRecOn with
 |ind N ih=>
  have hA:=qMQ H N (fun M h=>(ih M h).1) (fun M h=>(ih M h).2.2.1) (fun M h=>(ih M h).2.2.2)
  have hT:=qM8 N (fun M h=>(ih M h).2.2.1) (fun M h=>(ih M h).2.1)
  have hB:=qMO N hA (fun M h=>(Nat.lt_or_eq_of_le h).elim (fun h=>(ih M h).2.1) (fun h=>h▸hT))
  exact ⟨hA,hT,hB,qMP H N hB (fun M h=>(ih M h).2.2.2)⟩
theorem qB0 (r:List UInt8):(BR r).toList=r:=qJz r
theorem qAJ (r:List UInt8):(BR r).size=r.length:=by rw [←qAf,qB0]
theorem qJM (s:ByteArray):BR s.toList=s:=qET (qB0 _)
theorem qLv (r:List UInt8) (a b:Nat):(BR r).extract a b=BR ((r.take b).drop a):=by
 refine qET ?_
 rw [qB0,Go.Lib.toList_data,ByteArray.data_extract,Array.toList_extract]
 simp [BR,List.extract_eq_take_drop,List.drop_take]
theorem qLw (a b:List UInt8):BR a++BR b=BR (a++b):=by
 refine qET ?_
 rw [qB0,Go.Lib.toList_data]
 simp [BR]
def qC4 (c:Nd):Prop:=(kd c).length≤2000∧c.2.2.2.2.1.size≤2000
structure Gd (p:PS):Prop where
 r:p.1.length≤1000
 n:p.2.2.length≤60
 s:∀x∈p.2.2,qC4 x
theorem qE1 {x:Nd} {p:PS} (h:Gd p) (hx:qC4 x):Gd (qEo x p).2:=by
 unfold qEo
 split
 ·exact ⟨h.r,h.n,h.s⟩
 ·rename_i hh
  refine ⟨h.r,?_,fun y hy=>?_⟩
  ·have:¬60≤p.2.2.length:=fun e=>hh (.inr e)
   simp;omega
  ·simp at hy
   rcases hy with hy|rfl
   ·exact h.s _ hy
   ·exact hx
theorem qDb {w:List UInt8} {p:PS} (h:Gd p):Gd (qu w p).2:=by
 have:=qF0 w p
 have h2:=qAI p.1
 have h3:=h.r
 refine ⟨by omega,?_,?_⟩
 ·unfold qu;split<;>exact h.n
 ·unfold qu;split<;>exact h.s
theorem qLx (r:List UInt8):(wd r).length≤r.length:=by
 have:=congrArg List.length (wdr r)
 simp only [List.length_append] at this
 omega
theorem qMx (acc t:List UInt8):qBv acc (34::34::t)=qBv (acc++ [34]) t:=(qBv.eq_def acc _).trans (by simp)
theorem qMy (acc t:List UInt8) (h:t.head?≠some 34):qBv acc (34::t)=some (acc,t):=by
 refine (qBv.eq_def acc _).trans ?_
 cases t with
 |nil=>simp
 |cons d t=>
  have:¬d=34:=fun e=>h (by rw [e];rfl)
  simp [this]
theorem qMz (acc t:List UInt8) {c:UInt8} (h:¬c=34):qBv acc (c::t)=qBv (acc++ [c]) t:=(qBv.eq_def acc _).trans (by simp only [if_neg h])
theorem qD2:∀(k:Nat) (acc r:List UInt8) {s t:List UInt8},r.length≤k→qBv acc r=some (s,t)→s.length≤acc.length+r.length+1
 |k,acc,[],s,t,hk,h=>by simp [qBv] at h
 |0,acc,c::r,s,t,hk,h=>by simp at hk
 |k+1,acc,c::r,s,t,hk,h=>by
  simp only [List.length_cons] at hk
  unfold qBv at h
  split at h
  ·cases r with
   |nil=>
    simp at h
    rw [←h.1];simp;omega
   |cons d r'=>
    simp only at h
    split at h
    ·have:=qD2 k _ r' (by simp at hk;omega) h
     simp at this⊢;omega
    ·simp at h
     rw [←h.1];simp;omega
  ·have:=qD2 k _ r (by omega) h
   simp at this⊢;omega
theorem qMS {p:PS} (h:Gd p):Gd (qCR p).2∧(qCR p).2.1.length≤p.1.length∧∀x,(qCR p).1=some x→qC4 x:=by
 have h1:=qAI p.1
 have h2:=qFq (tb p.1)
 have h0:=h.r
 unfold qCR
 simp only
 split
 ·have h3:=qF0 [58] (wr (tb p.1),p.2)
  have h4:=qAI (qu [58] (wr (tb p.1),p.2)).2.1
  have h5:=qFq (tb (qu [58] (wr (tb p.1),p.2)).2.1)
  have h6:=qAI (wr (tb p.1))
  have e:(qu [58] (wr (tb p.1),p.2)).2.2.2=p.2.2:=by unfold qu;split<;>rfl
  simp only at h3
  refine ⟨⟨by simp only;omega,by rw [e];exact h.n,by rw [e];exact h.s⟩,by simp only;omega,fun x hx=>?_⟩
  cases hx
  exact ⟨by simp [kd,ndA],by simp [ndA,em];decide⟩
 ·exact ⟨h,Nat.le_refl _,fun x hx=>by cases hx⟩
theorem qFs {s:ByteArray} (h:(q8 s).2.2.2=true) (hk:(q8 s).1=1∨(q8 s).1=3):(q8 s).2.2.1.size≤2000:=by
 unfold q8 at h hk⊢
 split at h
 ·rename_i hc
  rw [if_pos hc] at hk⊢
  have h1:=hc.1
  unfold okV at h1
  have h2:¬(qBs s).1=2:=by
   simp only at hk
   omega
  rw [if_neg h2] at h1
  simp only [Bool.and_eq_true,beq_iff_eq] at h1
  have:=congrArg List.length h1.1
  rw [qAf] at this
  have h0:(qBs s).2.2.size=0:=this
  show (qBs s).2.2.size≤2000
  omega
 ·cases h
def Kj:PJ→PS→Prop
 | .args _ _ kids,p=>kids.length+p.1.length≤1500
 |_,_=>True
theorem qKX {w:List UInt8} {p:PS} (h:Gd p):Gd (qDO w p)∧(qDO w p).1.length≤p.1.length:=by
 have h1:=qF0 w p
 have h2:=qAI p.1
 unfold qDO
 split
 ·exact ⟨h,Nat.le_refl _⟩
 ·split
  ·exact ⟨qDb h,by omega⟩
  ·exact ⟨⟨(qDb h).r,(qDb h).n,(qDb h).s⟩,by show (qu w p).2.1.length≤_;omega⟩
theorem qHJ {p:PS} {r:List UInt8} (h:Gd p) (hr:r.length≤p.1.length):Gd (r,p.2):=⟨by have:=h.r;simp only;omega,h.n,h.s⟩
theorem qEq:∀(f:Nat) (j:PJ) (p:PS),Gd p→Kj j p→Gd (pP f j p).2∧(pP f j p).2.1.length≤p.1.length
 |0,j,p,h,_=>⟨h,Nat.le_refl _⟩
 |f+1,.bin least deep,p,h,_=>by
  unfold pP
  have a:=qEq f (.un deep) p h trivial
  have b:=qEq f (.loop least deep (pP f (.un deep) p).1) (pP f (.un deep) p).2 a.1 trivial
  exact ⟨b.1,Nat.le_trans b.2 a.2⟩
 |f+1,.loop least deep a,p,h,_=>by
  have h1:=qAI p.1
  unfold pP
  split
  ·exact ⟨h,Nat.le_refl _⟩
  ·split
   ·exact ⟨qHJ h h1,h1⟩
   ·have l1:((tb p.1).drop (sgn (tb p.1)).length).length≤p.1.length:=by simp;omega
    have b:=qEq f (.bin (lvl (qBD (tb p.1))+1) deep) ((tb p.1).drop (sgn (tb p.1)).length,p.2) (qHJ h l1) trivial
    simp only
    have c:=qE1 (x:=ndK 5 (qBD (tb p.1)) [a,(pP f (.bin (lvl (qBD (tb p.1))+1) deep) ((tb p.1).drop (sgn (tb p.1)).length,p.2)).1]) b.1 ⟨by simp [kd,ndK],by simp [ndK,em];decide⟩
    have d:=qEq f (.loop least deep (qEo (ndK 5 (qBD (tb p.1)) [a,(pP f (.bin (lvl (qBD (tb p.1))+1) deep) ((tb p.1).drop (sgn (tb p.1)).length,p.2)).1]) (pP f (.bin (lvl (qBD (tb p.1))+1) deep) ((tb p.1).drop (sgn (tb p.1)).length,p.2)).2).1) _ c trivial
    refine ⟨d.1,Nat.le_trans d.2 ?_⟩
    rw [qAY]
    exact Nat.le_trans b.2 l1
 |f+1,.un deep,p,h,_=>by
  have h1:=qAI p.1
  have h2:=qF0 [45] p
  unfold pP
  split
  ·exact ⟨⟨h.r,h.n,h.s⟩,Nat.le_refl _⟩
  ·split
   ·simp only
    have b:=qEq f (.un (deep+1)) (qu [45] p).2 (qDb h) trivial
    refine ⟨qE1 b.1 ⟨by simp [kd,ndK],by simp [ndK,em];decide⟩,?_⟩
    rw [qAY]
    exact Nat.le_trans b.2 (by omega)
   ·have b:=qEq f (.at deep) (qu [45] p).2 (qDb h) trivial
    exact ⟨b.1,Nat.le_trans b.2 (by omega)⟩
 |f+1,.at deep,p,h,_=>by
  have h1:=qAI p.1
  have h2:=qF0 [40] p
  have h3:=qFq (tb p.1)
  have h4:=h.r
  have g2:Gd (wr (tb p.1),p.2):=qHJ h (by omega)
  unfold pP
  simp only
  split
  ·split
   ·exact ⟨⟨by simp only;omega,h.n,h.s⟩,h1⟩
   ·rename_i hh _ s t hq
    have a:=qF2 _ _ hq
    have b:=qD2 _ _ _ (Nat.le_refl _) hq
    simp only [List.length_tail,List.length_nil] at a b
    refine ⟨qE1 (qHJ h (by omega)) ⟨by simp [kd,nd1],by simp only [nd1,qAJ];omega⟩,?_⟩
    rw [qAY];simp only;omega
  ·split
   ·refine ⟨qE1 (qHJ h (by simp;omega)) ⟨by simp [kd,nd1],by simp [nd1,em];decide⟩,?_⟩
    rw [qAY];simp;omega
   ·split
    ·have b:=qEq f (.bin 1 (deep+1)) (qu [40] p).2 (qDb h) trivial
     have c:=qKX (w:= [41]) b.1
     exact ⟨c.1,Nat.le_trans c.2 (Nat.le_trans b.2 (by omega))⟩
    ·split
     ·rename_i hv
      refine ⟨qE1 g2 ⟨by simp [kd,nd1],qFs hv.1 hv.2⟩,?_⟩
      rw [qAY];simp only;omega
     ·split
      ·refine ⟨qE1 g2 ⟨by simp [kd,ndC],by simp [ndC,em];decide⟩,?_⟩
       rw [qAY];simp only;omega
      ·split
       ·rename_i op _
        have b:=qEq f (.call op deep) (wr (tb p.1),p.2) g2 trivial
        exact ⟨b.1,Nat.le_trans b.2 (by simp only;omega)⟩
       ·exact ⟨⟨g2.r,g2.n,g2.s⟩,by show (wr (tb p.1)).length≤_;omega⟩
 |f+1,.call op deep,p,h,_=>by
  unfold pP
  have a:=qKX (w:= [40]) h
  have b:=qEq f (.args op deep []) (qDO [40] p) a.1 (by have:=a.1.r;show 0+_≤_;omega)
  exact ⟨b.1,Nat.le_trans b.2 a.2⟩
 |f+1,.args op deep kids,p,h,hk=>by
  replace hk:kids.length+p.1.length≤1500:=hk
  unfold pP
  split
  ·refine ⟨qE1 h ⟨by simp [kd,ndK];omega,by simp [ndK,em];decide⟩,?_⟩
   rw [qAY];exact Nat.le_refl _
  ·simp only
   have a:=qMS h
   have qg:Gd (qDX (qCR p) (fun p=>pP f (.bin 1 (deep+1)) p)).2∧(qDX (qCR p) (fun p=>pP f (.bin 1 (deep+1)) p)).2.1.length≤p.1.length:=by
    unfold qDX
    split
    ·rename_i x hx
     refine ⟨qE1 a.1 (a.2.2 x hx),?_⟩
     rw [qAY];exact a.2.1
    ·have b:=qEq f (.bin 1 (deep+1)) (qCR p).2 a.1 trivial
     exact ⟨b.1,Nat.le_trans b.2 a.2.1⟩
   generalize qDX (qCR p) (fun p=>pP f (.bin 1 (deep+1)) p)=q at qg⊢
   have t0:=qg.2
   have t1:=qAI q.2.1
   have t2:=qF0 [44] q.2
   split
   ·rename_i ht
    have t3:=qFr (by simp) ht
    have b:=qEq f (.args op deep (kids++ [q.1])) (qu [44] q.2).2 (qDb qg.1) (by show (kids++ [q.1]).length+_≤_;simp;omega)
    exact ⟨b.1,Nat.le_trans b.2 (by omega)⟩
   ·have c:=qKX (w:= [41]) (qDb (w:= [44]) qg.1)
    refine ⟨qE1 c.1 ⟨by simp [kd,ndK];omega,by simp [ndK,em];decide⟩,?_⟩
    rw [qAY]
    exact Nat.le_trans c.2 (by omega)
theorem qLM {r w:List UInt8} (hw:w≠ []) (h:w<+:r):(tb (r.drop w.length)).length<r.length:=by
 have h1:=qAI (r.drop w.length)
 have h2:=h.length_le
 have h3:0<w.length:=List.length_pos_iff.2 hw
 simp only [List.length_drop] at h1
 omega
theorem qJ7 {c:UInt8} {r:List UInt8} (h:r.head?=some c):∃t,r=c::t:=by
 cases r with
 |nil=>cases h
 |cons d t=>simp at h;subst h;exact ⟨t,rfl⟩
def pos (s r:List UInt8):Int:=((s.length-r.length:Nat):Int)
def qBf (s:List UInt8) (q:PS):ByteArray×Int×Bool×Nat×List (List PV):=(BR s,pos s q.1,q.2.1,q.2.2.length,q.2.2.map qU)
def qBR (s:List UInt8) (r:Int×PS):Int×ByteArray×Int×Bool×Nat×List (List PV):=(r.1,qBf s r.2)
theorem qKz {s r:List UInt8} (h:r<:+s):s.drop (s.length-r.length)=r:=by
 obtain ⟨t,rfl⟩:=h
 simp
theorem qLN (s r:List UInt8):(pos s r).toNat=s.length-r.length:=by unfold pos;simp
theorem qGT (s r:List UInt8):0≤pos s r:=by unfold pos;omega
theorem qB1 {s r:List UInt8} (h:r<:+s):r.length≤s.length:=h.length_le
theorem qF4 {s r t:List UInt8} {k:Nat} (h:r<:+s) (e:t=r.drop k) (hk:k≤r.length):pos s r+(k:Int)=pos s t:=by
 subst e
 have:=qB1 h
 unfold pos
 simp only [List.length_drop]
 omega
theorem qHK {s r:List UInt8} (h:r<:+s):(BR s).toList[(pos s r).toNat]?=r.head?:=by
 rw [qB0,qLN,←List.head?_drop,qKz h]
theorem qLA {s r:List UInt8} (h:r<:+s):tb r<:+s:=(List.dropWhile_suffix _).trans h
theorem qJN {s t:List UInt8} {c:UInt8} (h:(c::t)<:+s):t<:+s:=(List.suffix_cons c t).trans h
theorem qIe {s r:List UInt8} {k:Nat} (h:r<:+s):(BR s).extract (pos s r).toNat (pos s r+(k:Int)).toNat=BR (r.take k):=by
 rw [qLv,qLN,show (pos s r+(k:Int)).toNat=(s.length-r.length)+k by unfold pos;omega,←List.take_drop,qKz h]
theorem qJO {b:Bool} (h:b=true):(!b)=false:=by rw [h];rfl
theorem qFt {b:Bool} (h:b=false):(!b)=true:=by rw [h];rfl
theorem qJ8 {s:List UInt8} (hs:s.length≤1000) (n:Nat) (b:Bool) (m:Nat) (rows:List (List PV)):∀(r:List UInt8) (M:Nat),r<:+s→r.length+1≤M→zF (qCC n) M (BR s,pos s r,b,m,rows)=some (BR s,pos s (tb r),b,m,rows)
 |r,0,_,h=>by omega
 | [],M+1,h,_=>by
  exact qP (qT (decide_eq_false (show ¬pos s []<((BR s).size:Int) by rw [qAJ];unfold pos;simp)) rfl)
 |c::t,M+1,h,hM=>by
  have hl:=qB1 h
  simp only [List.length_cons] at hl hM
  have g:=qHK h
  have p1:pos s (c::t)<((BR s).size:Int):=by rw [qAJ];unfold pos;simp only [List.length_cons];omega
  by_cases hc:c=32
  ·subst hc
   have w1:IntKind.i64.wrap (pos s (32::t)+1)=pos s t:=by
    have:=qF4 (k:=1) h (t:=t) rfl (by simp)
    rw [qY (by unfold pos;omega)];exact this
   rw [qb (v':=(BR s,pos s t,b,m,rows)) (by
    refine qN (decide_eq_true p1) (qN (decide_eq_true (qGT _ _)) (qD g (qN rfl ?_)))
    rw [qA,w1])]
   have e:tb (32::t)=tb t:=by simp [tb]
   rw [e]
   exact qJ8 hs n b m rows t M (qJN h) (by omega)
  ·have e:tb (c::t)=c::t:=by simp [tb,hc]
   rw [e]
   refine qP (qN (decide_eq_true p1) (qN (decide_eq_true (qGT _ _)) (qD g (qT ?_ rfl))))
   rw [beq_eq_false_iff_ne]
   intro e
   exact hc (UInt8.toNat_inj.1 (show c.toNat=32 by omega))
theorem qKY {s:List UInt8} (hs:s.length≤1000) (q:PS) (h:q.1<:+s):Ev (qAv · (BR s) (pos s q.1) q.2.1 q.2.2.length (q.2.2.map qU)) (qBf s (tb q.1,q.2)):=by
 have hl:=qB1 h
 refine ⟨q.1.length+2,fun n hn=>?_⟩
 obtain ⟨k,rfl,hm⟩:=up1 hn
 exact qD (qJ8 hs k q.2.1 q.2.2.length (q.2.2.map qU) q.1 k h (by omega)) rfl
theorem qD3 {s:List UInt8} (hs:s.length≤1000) (w:List UInt8) (hw:w.length≤1000) (q:PS) (h:q.1<:+s):Ev (qj · (BR w) (BR s) (pos s q.1) q.2.1 q.2.2.length (q.2.2.map qU)) ((sIs w q).1,qBf s (sIs w q).2):=by
 obtain ⟨n1,h1⟩:=qKY hs q h
 have ht:=qLA h
 have hl:=qB1 ht
 refine ⟨n1+1,fun n hn=>?_⟩
 obtain ⟨k,rfl,hm⟩:=up1 hn
 have w1:IntKind.i64.wrap (pos s (tb q.1)+((BR w).size:Int))=pos s (tb q.1)+(w.length:Int):=by rw [qAJ];exact qY (by unfold pos;omega)
 unfold sIs
 cases hb:q.2.1 with
 |true=>
  rw [if_pos rfl]
  have h1:=h1 k (by omega)
  rw [hb] at h1
  refine qD h1 (qN hb ?_)
  rw [qA]
 |false=>
  have h1:=h1 k (by omega)
  rw [hb] at h1
  rw [if_neg (by simp)]
  by_cases hf:pos s (tb q.1)+(w.length:Int)>(s.length:Int)
  ·have hn:¬w.isPrefixOf (tb q.1)=true:=by
    intro e
    have:=(List.isPrefixOf_iff_prefix.1 e).length_le
    unfold pos at hf
    omega
   rw [if_neg hn]
   refine qD h1 (qT hb (qN (decide_eq_true (show IntKind.i64.wrap (pos s (tb q.1)+((BR w).size:Int))>((BR s).size:Int) by rw [w1,qAJ];exact hf)) ?_))
   rw [qA]
  ·have hx:=qIe (k:=w.length) ht
   have hwl:w.length≤(tb q.1).length:=by unfold pos at hf;omega
   have cmp:((BR s).extract (pos s (tb q.1)).toNat (IntKind.i64.wrap (pos s (tb q.1)+((BR w).size:Int))).toNat).toList==(BR w).toList↔w.isPrefixOf (tb q.1)=true:=by
    rw [w1,hx,qB0,qB0,beq_iff_eq,List.isPrefixOf_iff_prefix,List.prefix_iff_eq_take]
    exact ⟨fun e=>e.symm,fun e=>e.symm⟩
   refine qD h1 (qT hb (qT (decide_eq_false (show ¬IntKind.i64.wrap (pos s (tb q.1)+((BR w).size:Int))>((BR s).size:Int) by rw [w1,qAJ];exact hf)) (qN (decide_eq_true (show 0≤pos s (tb q.1)∧pos s (tb q.1)≤IntKind.i64.wrap (pos s (tb q.1)+((BR w).size:Int))∧IntKind.i64.wrap (pos s (tb q.1)+((BR w).size:Int))≤((BR s).size:Int) by rw [w1,qAJ];exact ⟨qGT _ _,by omega,by omega⟩)) ?_)))
   by_cases hp:w.isPrefixOf (tb q.1)=true
   ·rw [if_pos hp]
    refine qT (qJO (cmp.2 hp)) ?_
    rw [qA]
    show some (true,BR s,IntKind.i64.wrap (pos s (tb q.1)+((BR w).size:Int)),q.2.1,q.2.2.length,q.2.2.map qU)=_
    rw [w1,qF4 ht rfl hwl]
    rfl
   ·rw [if_neg hp]
    refine qN (qFt (by rw [Bool.eq_false_iff];exact fun e=>hp (cmp.1 e))) ?_
    rw [qA]
theorem qFu {s:List UInt8} (x:Nd) (q:PS) (h:q.2.2.length≤5000) (hx:qC4 x):Ev (qc · x.1 x.2.1 x.2.2.1 x.2.2.2.1 x.2.2.2.2.1 x.2.2.2.2.2.1 x.2.2.2.2.2.2.1 x.2.2.2.2.2.2.2.1 x.2.2.2.2.2.2.2.2.1 x.2.2.2.2.2.2.2.2.2.1 x.2.2.2.2.2.2.2.2.2.2.1 x.2.2.2.2.2.2.2.2.2.2.2.1 x.2.2.2.2.2.2.2.2.2.2.2.2.1 ((kd x).map qAZ) (BR s) (pos s q.1) q.2.1 q.2.2.length (q.2.2.map qU)) (qBR s (qCc x q)):=by
 obtain ⟨n1,h1⟩:=qCO x (by have:=hx.2;omega)
 refine ⟨n1+1,fun n hn=>?_⟩
 obtain ⟨k,rfl,hm⟩:=up1 hn
 have w2:IntKind.i64.wrap ((((q.2.2.length+1):Nat):Int)-1)=(q.2.2.length:Int):=by rw [qY (by omega)];omega
 refine qN rfl (qN (decide_eq_true ⟨by simp,by decide,by decide,by simp;omega,rfl⟩) ?_)
 unfold qCc
 by_cases h6:60<q.2.2.length+1
 ·rw [if_pos (.inl h6)]
  refine qN (decide_eq_true (by omega)) ?_
  rw [qA,w2]
  simp only [qBR,qBf,List.map_append,List.length_append]
  rfl
 ·refine qT (decide_eq_false (by omega)) (qD (h1 k (by omega)) ?_)
  cases ho:qBQ x with
  |true=>
   rw [if_neg (fun e=>e.elim h6 (by simp))]
   refine qT rfl ?_
   rw [qA,w2]
   simp only [qBR,qBf,List.map_append,List.length_append]
   rfl
  |false=>
   rw [if_pos (.inr rfl)]
   refine qN rfl ?_
   rw [qA,w2]
   simp only [qBR,qBf,List.map_append,List.length_append]
   rfl
theorem qH5 {s:List UInt8} (hs:s.length≤1000) (n:Nat) (at0:Int) (b:Bool) (m:Nat) (rows:List (List PV)):∀(r:List UInt8) (M:Nat),r<:+s→r.length+1≤M→zF (qBF n) M (at0,BR s,pos s r,b,m,rows)=some (at0,BR s,pos s (wr r),b,m,rows)
 |r,0,_,h=>by omega
 | [],M+1,h,_=>by
  exact qP (qT (decide_eq_false (show ¬pos s []<((BR s).size:Int) by rw [qAJ];unfold pos;simp)) rfl)
 |c::t,M+1,h,hM=>by
  have hl:=qB1 h
  simp only [List.length_cons] at hl hM
  have g:=qHK h
  have p1:pos s (c::t)<((BR s).size:Int):=by rw [qAJ];unfold pos;simp only [List.length_cons];omega
  have p0:decide (0≤pos s (c::t))=true:=decide_eq_true (qGT _ _)
  have w1:IntKind.i64.wrap (pos s (c::t)+1)=pos s t:=by
   have:=qF4 (k:=1) h (t:=t) rfl (by simp)
   rw [qY (by unfold pos;omega)];exact this
  have yes:(wch c=true)→(qBF n (at0,BR s,pos s (c::t),b,m,rows)).run=some (.inl (at0,BR s,pos s t,b,m,rows)):=fun hc=>by
   have fin:some (Sum.inl (at0,BR s,IntKind.i64.wrap (pos s (c::t)+1),b,m,rows))=(some (Sum.inl (at0,BR s,pos s t,b,m,rows)):Option (_⊕(Int×ByteArray×Int×Bool×Nat×List (List PV)))):=by rw [w1]
   refine qN (decide_eq_true p1) (qN p0 (qD g ?_))
   by_cases a1:(c.toNat:Int)≥65
   ·refine qN (decide_eq_true a1) (qN p0 (qD g ?_))
    by_cases a2:(c.toNat:Int)≤90
    ·exact qN (decide_eq_true a2) fin
    ·refine qT (decide_eq_false a2) (qN p0 (qD g ?_))
     by_cases a3:(c.toNat:Int)≥48
     ·refine qN (decide_eq_true a3) (qN p0 (qD g ?_))
      by_cases a4:(c.toNat:Int)≤57
      ·exact qN (decide_eq_true a4) fin
      ·refine qT (decide_eq_false a4) (qN p0 (qD g ?_))
       have a5:c=36:=by
        unfold wch at hc
        simp only [Bool.or_eq_true,Bool.and_eq_true,decide_eq_true_eq,beq_iff_eq] at hc
        rcases hc with hc|hc|hc
        ·omega
        ·omega
        ·exact hc
       exact qN (by rw [a5];rfl) fin
     ·omega
   ·refine qT (decide_eq_false a1) (qN p0 (qD g ?_))
    by_cases a3:(c.toNat:Int)≥48
    ·refine qN (decide_eq_true a3) (qN p0 (qD g ?_))
     by_cases a4:(c.toNat:Int)≤57
     ·exact qN (decide_eq_true a4) fin
     ·refine qT (decide_eq_false a4) (qN p0 (qD g ?_))
      have a5:c=36:=by
       unfold wch at hc
       simp only [Bool.or_eq_true,Bool.and_eq_true,decide_eq_true_eq,beq_iff_eq] at hc
       rcases hc with hc|hc|hc
       ·omega
       ·omega
       ·exact hc
      exact qN (by rw [a5];rfl) fin
    ·refine qT (decide_eq_false a3) (qN p0 (qD g ?_))
     have a5:c=36:=by
      unfold wch at hc
      simp only [Bool.or_eq_true,Bool.and_eq_true,decide_eq_true_eq,beq_iff_eq] at hc
      rcases hc with hc|hc|hc
      ·omega
      ·omega
      ·exact hc
     exact qN (by rw [a5];rfl) fin
  have no:(wch c=false)→(qBF n (at0,BR s,pos s (c::t),b,m,rows)).run=some (.inr (at0,BR s,pos s (c::t),b,m,rows)):=fun hc=>by
   have hc':¬((65≤c.toNat∧c.toNat≤90)∨(48≤c.toNat∧c.toNat≤57)∨c=36):=fun e=>by
    have:wch c=true:=by
     unfold wch
     simp only [Bool.or_eq_true,Bool.and_eq_true,decide_eq_true_eq,beq_iff_eq]
     exact e
    rw [hc] at this;cases this
   have a5:((c.toNat:Int)==36)=false:=by
    rw [beq_eq_false_iff_ne];intro e
    exact hc' (.inr (.inr (UInt8.toNat_inj.1 (show c.toNat=36 by omega))))
   refine qN (decide_eq_true p1) (qN p0 (qD g ?_))
   by_cases a1:(c.toNat:Int)≥65
   ·have a2:¬(c.toNat:Int)≤90:=fun e=>hc' (.inl ⟨by omega,by omega⟩)
    refine qN (decide_eq_true a1) (qN p0 (qD g (qT (decide_eq_false a2) ?_)))
    refine qN p0 (qD g (qN (decide_eq_true (show (c.toNat:Int)≥48 by omega)) ?_))
    exact qN p0 (qD g (qT (decide_eq_false (show ¬(c.toNat:Int)≤57 by omega)) (qN p0 (qD g (qT a5 rfl)))))
   ·refine qT (decide_eq_false a1) (qN p0 (qD g ?_))
    by_cases a3:(c.toNat:Int)≥48
    ·have a4:¬(c.toNat:Int)≤57:=fun e=>hc' (.inr (.inl ⟨by omega,by omega⟩))
     exact qN (decide_eq_true a3) (qN p0 (qD g (qT (decide_eq_false a4) (qN p0 (qD g (qT a5 rfl))))))
    ·exact qT (decide_eq_false a3) (qN p0 (qD g (qT a5 rfl)))
  cases hc:wch c with
  |true=>
   rw [qb (yes hc),show wr (c::t)=wr t by simp [wr,hc]]
   exact qH5 hs n at0 b m rows t M (qJN h) (by omega)
  |false=>
   rw [qP (no hc),show wr (c::t)=c::t by simp [wr,hc]]
theorem qJP {s:List UInt8} (hs:s.length≤1000) (q:PS) (h:q.1<:+s):Ev (qBm · (BR s) (pos s q.1) q.2.1 q.2.2.length (q.2.2.map qU)) (BR (wd q.1),qBf s (wr q.1,q.2)):=by
 have hl:=qB1 h
 have hw:=qFq q.1
 have hd:=congrArg List.length (wdr q.1)
 simp only [List.length_append] at hd
 refine ⟨q.1.length+2,fun n hn=>?_⟩
 obtain ⟨k,rfl,hm⟩:=up1 hn
 refine qD (qH5 hs k (pos s q.1) q.2.1 q.2.2.length (q.2.2.map qU) q.1 k h (by omega)) (qN (decide_eq_true ⟨qGT _ _,by unfold pos;simp only;omega,by rw [qAJ];unfold pos;simp only;omega⟩) ?_)
 rw [qA]
 have e:(pos s (wr q.1))=pos s q.1+((wd q.1).length:Int):=by unfold pos;omega
 have x:=qIe (k:=(wd q.1).length) h
 rw [←e] at x
 have t:q.1.take (wd q.1).length=wd q.1:=by
  have:=List.take_left (l₁:=wd q.1) (l₂:=wr q.1)
  rwa [wdr] at this
 rw [t] at x
 show some ((BR s).extract (pos s q.1).toNat (pos s (wr q.1)).toNat,_)=_
 rw [x]
 rfl
theorem qEF {s:List UInt8} (hs:s.length≤1000) {n:Nat} (b:Bool) (l:List Nd) (res:Int×PS):∀(k:Nat) (r acc:List UInt8) (M:Nat),r.length≤k→r<:+s→acc.length+r.length≤1001→r.length+1≤M→
  (∀w t,qBv acc r=some (w,t)→qc n 1 0 2 0 (BR w) 0 0 false false 0 0 false false [] (BR s) (pos s t) b l.length (l.map qU)=some (qBR s res))→
  zF (qCT n) M (BR acc,BR s,pos s r,b,l.length,l.map qU)=some (match qBv acc r with
   |none=> .inr (BR s,pos s [],b,l.length,l.map qU)
   |some _=> .inl (qBR s res))
 |k,r,acc,0,_,_,_,h,_=>by omega
 |k,[],acc,M+1,_,h,_,_,_=>by
  exact qP (qT (decide_eq_false (show ¬pos s []<((BR s).size:Int) by rw [qAJ];unfold pos;simp)) rfl)
 |0,c::t,acc,M+1,hk,_,_,_,_=>by simp at hk
 |k+1,c::t,acc,M+1,hk,h,ha,hM,hr=>by
  have hl:=qB1 h
  simp only [List.length_cons] at hl hM hk ha
  have g:=qHK h
  have p1:pos s (c::t)<((BR s).size:Int):=by rw [qAJ];unfold pos;simp only [List.length_cons];omega
  have p0:decide (0≤pos s (c::t))=true:=decide_eq_true (qGT _ _)
  have pa:=qF4 (k:=1) h (t:=t) rfl (by simp)
  have w1:IntKind.i64.wrap (pos s (c::t)+1)=pos s t:=by rw [qY (by unfold pos;omega)];exact pa
  by_cases hc:c=34
  ·subst hc
   have ht:=qJN h
   by_cases hq:t.head?=some 34
   ·obtain ⟨u,rfl⟩:=qJ7 hq
    simp only [List.length_cons] at hl hM hk ha
    rw [qMx] at hr⊢
    have g2:=qHK ht
    have pb:=qF4 (k:=1) ht (t:=u) rfl (by simp)
    have w2:IntKind.i64.wrap (pos s (34::u)+1)=pos s u:=by rw [qY (by unfold pos;omega)];exact pb
    rw [qb (v':=(BR (acc++ [34]),BR s,pos s u,b,l.length,l.map qU)) (by
     refine qN (decide_eq_true p1) (qN p0 (qD g (qT rfl (qT (decide_eq_false (show ¬IntKind.i64.wrap (pos s (34::34::u)+1)≥((BR s).size:Int) by rw [w1,qAJ];unfold pos;simp only [List.length_cons];omega)) (qN (decide_eq_true (show 0≤IntKind.i64.wrap (pos s (34::34::u)+1) by rw [w1];exact qGT _ _)) (qD (x:=34) (by show (BR s).toList[(IntKind.i64.wrap (pos s (34::34::u)+1)).toNat]?=_;rw [w1];exact g2) (qT rfl (qN (decide_eq_true (show (BR acc).size+1≤9223372036854775807 by rw [qAJ];omega)) ?_))))))))
     rw [qA]
     show some (Sum.inl (BR acc++BR [34],BR s,IntKind.i64.wrap (IntKind.i64.wrap (pos s (34::34::u)+1)+1),b,l.length,l.map qU))=_
     rw [w1,w2,qLw])]
    exact qEF hs b l res k u _ M (by omega) (qJN ht) (by simp;omega) (by omega) hr
   ·rw [qMy acc t hq] at hr⊢
    have hr:=hr acc t rfl
    refine qP (qN (decide_eq_true p1) (qN p0 (qD g (qT rfl ?_))))
    cases t with
    |nil=>
     refine qN (decide_eq_true (show IntKind.i64.wrap (pos s [34]+1)≥((BR s).size:Int) by rw [w1,qAJ];unfold pos;simp)) ?_
     rw [←w1] at hr
     exact qD hr rfl
    |cons d u=>
     have g2:=qHK ht
     have hd:¬d=34:=fun e=>hq (by rw [e];rfl)
     refine qT (decide_eq_false (show ¬IntKind.i64.wrap (pos s (34::d::u)+1)≥((BR s).size:Int) by rw [w1,qAJ];unfold pos;simp only [List.length_cons] at hl⊢;omega)) (qN (decide_eq_true (show 0≤IntKind.i64.wrap (pos s (34::d::u)+1) by rw [w1];exact qGT _ _)) (qD (x:=d) (by show (BR s).toList[(IntKind.i64.wrap (pos s (34::d::u)+1)).toNat]?=_;rw [w1];exact g2) (qN ?_ ?_)))
     ·rw [bne_iff_ne]
      intro e
      exact hd (UInt8.toNat_inj.1 (show d.toNat=34 by omega))
     ·rw [←w1] at hr
      exact qD hr rfl
  ·rw [qMz acc t hc] at hr⊢
   have hx:=qIe (k:=1) h
   rw [show ((1:Nat):Int)=1 from rfl] at hx pa
   have hx:(BR s).extract (pos s (c::t)).toNat (IntKind.i64.wrap (pos s (c::t)+1)).toNat=BR [c]:=by
    rw [w1,←pa];exact hx
   rw [qb (v':=(BR (acc++ [c]),BR s,pos s t,b,l.length,l.map qU)) (by
    refine qN (decide_eq_true p1) (qN p0 (qD g (qN ?_ (qN (decide_eq_true (show 0≤pos s (c::t)∧pos s (c::t)≤IntKind.i64.wrap (pos s (c::t)+1)∧IntKind.i64.wrap (pos s (c::t)+1)≤((BR s).size:Int) by rw [w1,qAJ];exact ⟨qGT _ _,by unfold pos;simp only [List.length_cons];omega,by unfold pos;omega⟩)) (qN (decide_eq_true (show (BR acc).size+((BR s).extract (pos s (c::t)).toNat (IntKind.i64.wrap (pos s (c::t)+1)).toNat).size≤9223372036854775807 by rw [hx,qAJ,qAJ];simp;omega)) ?_)))))
    ·rw [bne_iff_ne]
     intro e
     exact hc (UInt8.toNat_inj.1 (show c.toNat=34 by omega))
    ·rw [qA]
     show some (Sum.inl (BR acc++(BR s).extract (pos s (c::t)).toNat (IntKind.i64.wrap (pos s (c::t)+1)).toNat,BR s,IntKind.i64.wrap (pos s (c::t)+1),b,l.length,l.map qU))=_
     rw [hx,qLw,w1])]
   exact qEF hs b l res k t _ M (by omega) (qJN h) (by simp;omega) (by omega) hr
theorem qLy {s:List UInt8} (hs:s.length≤1000) (q:PS) (h:q.1<:+s) (hn:q.2.2.length≤5000):Ev (qDA · (BR s) (pos s q.1) q.2.1 q.2.2.length (q.2.2.map qU)) (qBR s (match qBv [] q.1 with
  |none=>(0,[],true,q.2.2)
  |some (w,t)=>qCc (nd1 (2,0,BR w)) (t,q.2))):=by
 have hl:=qB1 h
 cases hq:qBv [] q.1 with
 |none=>
  refine ⟨q.1.length+2,fun n hn=>?_⟩
  obtain ⟨k,rfl,hm⟩:=up1 hn
  have lp:=qEF hs (n:=k) q.2.1 q.2.2 (0,q) q.1.length q.1 [] k (Nat.le_refl _) h (by simp;omega) (by omega) (fun w t e=>by rw [hq] at e;cases e)
  rw [hq] at lp
  exact qD lp rfl
 |some wt=>
  obtain ⟨w,t⟩:=wt
  have hw:=qD2 _ _ _ (Nat.le_refl _) hq
  simp only [List.length_nil] at hw
  obtain ⟨n1,h1⟩:=qFu (s:=s) (nd1 (2,0,BR w)) (t,q.2) hn ⟨by simp [kd,nd1],by simp only [nd1,qAJ];omega⟩
  refine ⟨n1+q.1.length+2,fun n hn=>?_⟩
  obtain ⟨k,rfl,hm⟩:=up1 hn
  have lp:=qEF hs (n:=k) q.2.1 q.2.2 (qCc (nd1 (2,0,BR w)) (t,q.2)) q.1.length q.1 [] k (Nat.le_refl _) h (by simp;omega) (by omega) (fun w' t' e=>by rw [hq] at e;cases e;exact h1 k (by omega))
  rw [hq] at lp
  exact qD lp rfl
theorem qKZ:∀o∈qBH,(qAR o).toList≠ []∧(qAR o).size≤2:=by decide+kernel
theorem qLz:∀o∈qBH,1≤o∧o≤11:=by decide
def opR:List (List PV):=qBH.map qAZ
def rsL (level:Int) (r:List UInt8):List Int→List UInt8
 | []=>r
 |o::l=>if lvl o=level then rsL level (tb r) l else rsL level r l
theorem qHy {s:List UInt8} (hs:s.length≤1000) {n:Nat} (level:Int) (R:List UInt8) (hR:tb R=R) (m:Nat) (rows:List (List PV))
  (h1:∀o∈qBH,qBn n o=some (lvl o)) (h2:∀o∈qBH,qBd n o=some (qAR o)):
  ∀(k i:Nat) (r:List UInt8) (M:Nat),i+k=11→k+1≤M→tb r=R→
  (∀r',tb r'=R→(r'=r∨r'=R)→∀o∈qBH,qj n (qAR o) (BR s) (pos s r') false m rows=some (if (qAR o).toList.isPrefixOf R=true then (true,BR s,pos s (R.drop (qAR o).size),false,m,rows) else (false,BR s,pos s R,false,m,rows)))→
  zF (qCq n) M (level,11,(i:Int),opR,BR s,pos s r,false,m,rows)=some (if qCP level R (qBH.drop i)=0 then .inr (BR s,pos s (rsL level r (qBH.drop i)),false,m,rows) else .inl (qCP level R (qBH.drop i),BR s,pos s (R.drop (qAR (qCP level R (qBH.drop i))).size),false,m,rows))
 |k,i,r,0,_,h,_,_=>by omega
 |0,i,r,M+1,hk,_,_,_=>by
  have hi:i=11:=by omega
  subst hi
  exact qP (qT rfl rfl)
 |k+1,i,r,M+1,hk,hM,hr,h3=>by
  have hi:i<qBH.length:=by simp [qBH];omega
  obtain ⟨o,ho⟩:∃o,qBH[i]?=some o:=⟨_,List.getElem?_eq_getElem hi⟩
  have hin:=List.mem_of_getElem? ho
  have hR2:opR[i]?=some [PV.i .i64 o]:=by simp [opR,List.getElem?_map,ho,qAZ]
  have hc:zC .i64 [PV.i .i64 o] 0=some o:=rfl
  have hd:qBH.drop i=o::qBH.drop (i+1):=qEl ho
  have w5:IntKind.i64.wrap ((i:Int)+1)=((i+1:Nat):Int):=by rw [qY (by omega)];omega
  have g1:decide ((i:Int)<((11:Nat):Int))=true:=decide_eq_true (by omega)
  have g2:decide (11=opR.length∧0≤(i:Int)∧(i:Int)<((11:Nat):Int))=true:=decide_eq_true ⟨rfl,by omega,by omega⟩
  have h0:o≠0:=by have:=qLz o hin;omega
  rw [hd]
  by_cases hl:lvl o=level
  ·have is:=h3 r hr (.inl rfl) o hin
   by_cases hp:(qAR o).toList.isPrefixOf R=true
   ·have e:qCP level R (o::qBH.drop (i+1))=o:=by unfold qCP;rw [if_pos ⟨hl,hp⟩]
    rw [e,if_neg h0]
    rw [if_pos hp] at is
    exact qP (qN g1 (qN g2 (qD hR2 (qD hc (qD (h1 o hin) (qN (beq_iff_eq.2 hl) (qN g2 (qD hR2 (qD hc (qD (h2 o hin) (qD is (qN rfl (qN g2 (qD hR2 (qD hc rfl)))))))))))))))
   ·have e:qCP level R (o::qBH.drop (i+1))=qCP level R (qBH.drop (i+1)):=by
     conv=>lhs;unfold qCP
     rw [if_neg (fun h=>hp h.2)]
    have e2:rsL level r (o::qBH.drop (i+1))=rsL level R (qBH.drop (i+1)):=by
     conv=>lhs;unfold rsL
     rw [if_pos hl,hr]
    rw [e,e2]
    rw [if_neg hp] at is
    rw [qb (v':=(level,11,((i+1:Nat):Int),opR,BR s,pos s R,false,m,rows)) (by
     refine qN g1 (qN g2 (qD hR2 (qD hc (qD (h1 o hin) (qN (beq_iff_eq.2 hl) (qN g2 (qD hR2 (qD hc (qD (h2 o hin) (qD is (qT rfl ?_)))))))))))
     rw [qA,w5])]
    exact qHy hs level R hR m rows h1 h2 k (i+1) R M (by omega) (by omega) hR (fun r' a b=>h3 r' a (.inr (b.elim id id)))
  ·have e:qCP level R (o::qBH.drop (i+1))=qCP level R (qBH.drop (i+1)):=by
    conv=>lhs;unfold qCP
    rw [if_neg (fun h=>hl h.1)]
   have e2:rsL level r (o::qBH.drop (i+1))=rsL level r (qBH.drop (i+1)):=by
    conv=>lhs;unfold rsL
    rw [if_neg hl]
   rw [e,e2]
   rw [qb (v':=(level,11,((i+1:Nat):Int),opR,BR s,pos s r,false,m,rows)) (by
    refine qN g1 (qN g2 (qD hR2 (qD hc (qD (h1 o hin) (qT (beq_eq_false_iff_ne.2 hl) ?_)))))
    rw [qA,w5])]
   exact qHy hs level R hR m rows h1 h2 k (i+1) r M (by omega) (by omega) hr h3
theorem qMd {level:Int} (h:1≤level∧level≤4) (r:List UInt8):rsL level r qBH=tb r:=by
 have c:level=1∨level=2∨level=3∨level=4:=by omega
 rcases c with rfl|rfl|rfl|rfl<;>simp [rsL,qBH,lvl,qBw]
theorem qMe {s:List UInt8} (hs:s.length≤1000) {level:Int} (hl:1≤level∧level≤4) (q:PS) (hb:q.2.1=false) (h:q.1<:+s):Ev (qCr · level (BR s) (pos s q.1) q.2.1 q.2.2.length (q.2.2.map qU)) (qBR s (sOp level q)):=by
 obtain ⟨n1,h1⟩:=qA0 (F:=fun o n=>qBn n o) (f:=lvl) qBH (fun o _=>qIY o)
 obtain ⟨n2,h2⟩:=qA0 (F:=fun o n=>qBd n o) (f:=qAR) qBH (fun o ho=>qFp o (qLz o ho))
 obtain ⟨n3,h3⟩:=qA0 (F:=fun o n=>qj n (qAR o) (BR s) (pos s q.1) q.2.1 q.2.2.length (q.2.2.map qU)) (f:=fun o=>((sIs (qAR o).toList q).1,qBf s (sIs (qAR o).toList q).2)) qBH (fun o ho=>by
  have:=qD3 hs (qAR o).toList (by rw [qAf];have:=(qKZ o ho).2;omega) q h
  rwa [qJM] at this)
 obtain ⟨n4,h4⟩:=qA0 (F:=fun o n=>qj n (qAR o) (BR s) (pos s (tb q.1)) q.2.1 q.2.2.length (q.2.2.map qU)) (f:=fun o=>((sIs (qAR o).toList (tb q.1,q.2)).1,qBf s (sIs (qAR o).toList (tb q.1,q.2)).2)) qBH (fun o ho=>by
  have:=qD3 hs (qAR o).toList (by rw [qAf];have:=(qKZ o ho).2;omega) (tb q.1,q.2) (qLA h)
  rwa [qJM] at this)
 refine ⟨n1+n2+n3+n4+13,fun n hn=>?_⟩
 obtain ⟨k,rfl,hm⟩:=up1 hn
 have lp:=qHy hs (n:=k) level (tb q.1) (qBw q.1) q.2.2.length (q.2.2.map qU) (h1 k (by omega)) (h2 k (by omega)) 11 0 q.1 k (by omega) (by omega) rfl (fun r' _ hr' o ho=>by
  rcases hr' with rfl|rfl
  ·have:=h3 k (by omega) o ho
   rw [hb] at this
   refine this.trans ?_
   unfold sIs
   rw [if_neg (by rw [hb];simp)]
   by_cases hp:(qAR o).toList.isPrefixOf (tb q.1)=true
   ·rw [if_pos hp,if_pos hp,qAf];simp only [qBf,hb]
   ·rw [if_neg hp,if_neg hp];simp only [qBf,hb]
  ·have:=h4 k (by omega) o ho
   rw [hb] at this
   refine this.trans ?_
   unfold sIs
   rw [if_neg (by rw [hb];simp)]
   simp only [qBw]
   by_cases hp:(qAR o).toList.isPrefixOf (tb q.1)=true
   ·rw [if_pos hp,if_pos hp,qAf];simp only [qBf,hb]
   ·rw [if_neg hp,if_neg hp];simp only [qBf,hb])
 rw [List.drop_zero,qMd hl] at lp
 unfold sOp
 rw [if_neg (by rw [hb];simp)]
 show qCr (k+1) level (BR s) (pos s q.1) q.2.1 q.2.2.length (q.2.2.map qU)=_
 rw [hb]
 by_cases h0:qCP level (tb q.1) qBH=0
 ·rw [if_pos h0] at lp
  rw [if_pos h0]
  refine qD lp ?_
  simp only [qBR,qBf,hb,h0]
  rfl
 ·rw [if_neg h0] at lp
  rw [if_neg h0]
  refine qD lp ?_
  simp only [qBR,qBf,hb]
  rfl
theorem qJQ {s:List UInt8} (hs:s.length≤1000) {n:Nat} (r:List UInt8) (hr:r<:+s) (b:Bool) (l:List Nd)
  (h1:∀i,1≤i∧i≤5→qAz n i=some (qi i)) (h2:∀i,1≤i∧i≤5→qBL n i=some (4,i,em))
  (h4:∀i,1≤i∧i≤5→qc n 1 0 4 i em 0 0 false false 0 0 false false [] (BR s) (pos s (r.drop ((qi i).size-1))) b l.length (l.map qU)=some (qBR s (qCc (nd1 (4,i,em)) (r.drop ((qi i).size-1),b,l)))):
  ∀(k:Nat) (i:Int) (M:Nat),1≤i→i+k=6→k+1≤M→zF (qBV n) M (i,BR s,pos s r,b,l.length,l.map qU)=some (match qKs r i k with
   |some e=> .inl (qBR s (qCc (nd1 (4,e,em)) (r.drop ((qi e).size-1),b,l)))
   |none=> .inr (BR s,pos s r,b,l.length,l.map qU))
 |k,i,0,_,_,h=>by omega
 |0,i,M+1,hi,hk,h=>by
  exact qP (qT (decide_eq_false (show ¬i≤5 by omega)) rfl)
 |k+1,i,M+1,hi,hk,h=>by
  have hi5:1≤i∧i≤5:=⟨hi,by omega⟩
  have hsz:1≤(qi i).size∧(qi i).size≤7:=by
   have c:i=1∨i=2∨i=3∨i=4∨i=5:=by omega
   rcases c with rfl|rfl|rfl|rfl|rfl<;>decide+kernel
  have hx:(qi i).extract ((1:Int)).toNat (((qi i).size:Nat):Int).toNat=BR (qi i).toList.tail:=by
   conv=>lhs;rw [←qJM (qi i)]
   rw [qLv,qAJ,qAf]
   congr 1
   rw [Int.toNat_natCast,List.take_of_length_le (by rw [qAf];omega)]
   exact List.drop_one
  have hxs:((qi i).extract ((1:Int)).toNat (((qi i).size:Nat):Int).toNat).size=(qi i).size-1:=by
   rw [hx,qAJ,List.length_tail,qAf]
  have hl:=qB1 hr
  have w1:IntKind.i64.wrap (pos s r+(((qi i).extract ((1:Int)).toNat (((qi i).size:Nat):Int).toNat).size:Int))=pos s r+(((qi i).size-1:Nat):Int):=by
   rw [hxs];exact qY (by unfold pos;omega)
  have w2:IntKind.i64.wrap (i+1)=i+1:=qY (by omega)
  have ih:=qJQ hs r hr b l h1 h2 h4 k (i+1) M (by omega) (by omega) (by omega)
  unfold qKs
  by_cases hf:pos s r+(((qi i).size-1:Nat):Int)≤(s.length:Int)
  ·have hk2:(qi i).size-1≤r.length:=by unfold pos at hf;omega
   have cmp:(((BR s).extract (pos s r).toNat (IntKind.i64.wrap (pos s r+(((qi i).extract ((1:Int)).toNat (((qi i).size:Nat):Int).toNat).size:Int))).toNat).toList==((qi i).extract ((1:Int)).toNat (((qi i).size:Nat):Int).toNat).toList)=true↔(qi i).toList.tail.isPrefixOf r=true:=by
    rw [w1,qIe hr,hx,qB0,qB0,beq_iff_eq,List.isPrefixOf_iff_prefix,List.prefix_iff_eq_take,List.length_tail,qAf]
    exact ⟨fun e=>e.symm,fun e=>e.symm⟩
   have g1:decide (IntKind.i64.wrap (pos s r+(((qi i).extract ((1:Int)).toNat (((qi i).size:Nat):Int).toNat).size:Int))≤((BR s).size:Int))=true:=decide_eq_true (by rw [w1,qAJ];exact hf)
   have g2:decide (0≤pos s r∧pos s r≤IntKind.i64.wrap (pos s r+(((qi i).extract ((1:Int)).toNat (((qi i).size:Nat):Int).toNat).size:Int))∧IntKind.i64.wrap (pos s r+(((qi i).extract ((1:Int)).toNat (((qi i).size:Nat):Int).toNat).size:Int))≤((BR s).size:Int))=true:=decide_eq_true (by rw [w1,qAJ];exact ⟨qGT _ _,by omega,hf⟩)
   by_cases hp:(qi i).toList.tail.isPrefixOf r=true
   ·rw [if_pos hp]
    have h4:=h4 i hi5
    rw [←qF4 hr rfl hk2,←w1] at h4
    exact qP (qN (decide_eq_true (show i≤5 by omega)) (qD (h1 i hi5) (qN (decide_eq_true ⟨by decide,by omega,Int.le_refl _⟩) (qN g1 (qN g2 (qN (cmp.2 hp) (qD (h2 i hi5) (qD h4 rfl))))))))
   ·rw [if_neg hp]
    rw [qb (v':=(i+1,BR s,pos s r,b,l.length,l.map qU)) (by
     refine qN (decide_eq_true (show i≤5 by omega)) (qD (h1 i hi5) (qN (decide_eq_true ⟨by decide,by omega,Int.le_refl _⟩) (qN g1 (qN g2 (qT (by rw [Bool.eq_false_iff];exact fun e=>hp (cmp.1 e)) ?_)))))
     rw [qA,w2])]
    exact ih
  ·have hp:¬(qi i).toList.tail.isPrefixOf r=true:=by
    intro e
    have:=(List.isPrefixOf_iff_prefix.1 e).length_le
    rw [List.length_tail,qAf] at this
    unfold pos at hf
    omega
   rw [if_neg hp]
   rw [qb (v':=(i+1,BR s,pos s r,b,l.length,l.map qU)) (by
    refine qN (decide_eq_true (show i≤5 by omega)) (qD (h1 i hi5) (qN (decide_eq_true ⟨by decide,by omega,Int.le_refl _⟩) (qT (decide_eq_false (by rw [w1,qAJ];exact hf)) ?_)))
    rw [qA,w2])]
   exact ih
theorem qMT {s:List UInt8} (hs:s.length≤1000) (r:List UInt8) (hr:r<:+s) (b:Bool) (l:List Nd) (hl:l.length≤5000):∃n0,∀n,n0≤n→∀M,n0≤M→zF (qBV n) M (1,BR s,pos s r,b,l.length,l.map qU)=some (match qKs r 1 5 with
   |some e=> .inl (qBR s (qCc (nd1 (4,e,em)) (r.drop ((qi e).size-1),b,l)))
   |none=> .inr (BR s,pos s r,b,l.length,l.map qU)):=by
 obtain ⟨n1,h1⟩:=qIc (F:=qAz) (f:=qi) (lo:=1) (by decide) (fun i hi=>qFk i ⟨by omega,hi.2⟩)
 obtain ⟨n2,h2⟩:=qIc (F:=qBL) (f:=fun i=>(4,i,em)) (lo:=1) (by decide) (fun i _=>qFG i)
 obtain ⟨n4,h4⟩:=qIc (F:=fun n i=>qc n 1 0 4 i em 0 0 false false 0 0 false false [] (BR s) (pos s (r.drop ((qi i).size-1))) b l.length (l.map qU)) (f:=fun i=>qBR s (qCc (nd1 (4,i,em)) (r.drop ((qi i).size-1),b,l))) (lo:=1) (by decide) (fun i _=>qFu (s:=s) (nd1 (4,i,em)) (r.drop ((qi i).size-1),b,l) hl ⟨by simp [kd,nd1],by simp [nd1,em];decide⟩)
 exact ⟨n1+n2+n4+7,fun n hn M hM=>qJQ hs r hr b l (h1 n (by omega)) (h2 n (by omega)) (h4 n (by omega)) 5 1 M (by omega) (by omega) (by omega)⟩
theorem qMU:∃n0,∀n,n0≤n→∀i,1≤i∧i≤10→qBu n i=some (fnS i):=by
 obtain ⟨n1,h1⟩:=qA0 (F:=fun (i:Nat) n=>qBu n ((i:Int)+1)) (f:=fun i=>fnS ((i:Int)+1)) (List.range 10) (fun i hi=>qKU _ (by have:=List.mem_range.1 hi;omega))
 refine ⟨n1,fun n hn i hi=>?_⟩
 have:=h1 n hn (i-1).toNat (List.mem_range.2 (by omega))
 rwa [show (((i-1).toNat:Nat):Int)+1=i by omega] at this
theorem qMf {i j:Int} (hi:1≤i∧i≤10) (hj:1≤j∧j≤10) (h:(fnS i).toList=(fnS j).toList):i=j:=by
 have t:∀a:Fin 10,∀b:Fin 10,(fnS (((a.val:Nat):Int)+1)).toList=(fnS (((b.val:Nat):Int)+1)).toList→a=b:=by decide+kernel
 have:=t ⟨(i-1).toNat,by omega⟩ ⟨(j-1).toNat,by omega⟩ (by
  simp only
  rw [show (((i-1).toNat:Nat):Int)+1=i by omega,show (((j-1).toNat:Nat):Int)+1=j by omega]
  exact h)
 have:=congrArg Fin.val this
 simp only at this
 omega
theorem qJ9 {g:G_spec_l3Rd_row} {n:Nat} {s:List UInt8} (w:List UInt8) (q:PS) (h1:∀i,1≤i∧i≤10→qBu n i=some (fnS i)):
  ∀(k:Nat) (i:Int) (M:Nat),1≤i→i+k=11→k+1≤M→(∀j,i≤j∧j≤10→(fnS j).toList≠w)→zF (qBx g n) M (BR w,i,qBf s q)=some (.inr (BR w,qBf s q))
 |k,i,0,_,_,h,_=>by omega
 |0,i,M+1,hi,hk,h,_=>qP (qT (decide_eq_false (show ¬i≤10 by omega)) rfl)
 |k+1,i,M+1,hi,hk,h,hn=>by
  have w1:IntKind.i64.wrap (i+1)=i+1:=qY (by omega)
  rw [qb (v':=(BR w,i+1,qBf s q)) (by
   refine qN (decide_eq_true (show i≤10 by omega)) (qD (h1 i ⟨hi,by omega⟩) (qT (by rw [beq_eq_false_iff_ne];show (fnS i).toList≠(BR w).toList;rw [qB0];exact hn i ⟨Int.le_refl _,by omega⟩) ?_))
   rw [qA,w1])]
  exact qJ9 w q h1 k (i+1) M (by omega) (by omega) (by omega) (fun j hj=>hn j ⟨by omega,hj.2⟩)
theorem qF5 {g:G_spec_l3Rd_row} {n:Nat} {s:List UInt8} (w:List UInt8) (q:PS) (res:Int→Int×PS) (h1:∀i,1≤i∧i≤10→qBu n i=some (fnS i))
  (h2:qj n ⟨#[40]⟩ (BR s) (pos s q.1) q.2.1 q.2.2.length (q.2.2.map qU)=some ((sIs [40] q).1,qBf s (sIs [40] q).2)):
  ∀(k:Nat) (i:Int) (M:Nat),1≤i→i+k=11→k+1≤M→(∀op,qIZ w i k=some op→(sIs [40] q).1=true→g.spec_l3Rd_call op (BR s) (pos s (sIs [40] q).2.1) (sIs [40] q).2.2.1 (sIs [40] q).2.2.2.length ((sIs [40] q).2.2.2.map qU)=some (qBR s (res op)))→
   zF (qBx g n) M (BR w,i,qBf s q)=some (match qIZ w i k with
   |some op=>if (sIs [40] q).1=true then .inl (qBR s (res op)) else .inr (BR w,qBf s (sIs [40] q).2)
   |none=> .inr (BR w,qBf s q))
 |k,i,0,_,_,h,_=>by omega
 |0,i,M+1,hi,hk,h,_=>qP (qT (decide_eq_false (show ¬i≤10 by omega)) rfl)
 |k+1,i,M+1,hi,hk,h,hc=>by
  have w1:IntKind.i64.wrap (i+1)=i+1:=qY (by omega)
  unfold qIZ at hc⊢
  by_cases hq:(fnS i).toList=w
  ·rw [if_pos hq] at hc⊢
   have hqb:((fnS i).toList==(BR w).toList)=true:=by rw [beq_iff_eq,qB0];exact hq
   simp only
   cases hi2:(sIs [40] q).1 with
   |true=>
    rw [if_pos rfl]
    exact qP (qN (decide_eq_true (show i≤10 by omega)) (qD (h1 i ⟨hi,by omega⟩) (qN hqb (qD h2 (qN hi2 (qD (hc i rfl hi2) rfl))))))
   |false=>
    rw [if_neg (by simp)]
    rw [qb (v':=(BR w,i+1,qBf s (sIs [40] q).2)) (by
     refine qN (decide_eq_true (show i≤10 by omega)) (qD (h1 i ⟨hi,by omega⟩) (qN hqb (qD h2 (qT hi2 ?_))))
     rw [qA,w1])]
    exact qJ9 w _ h1 k (i+1) M (by omega) (by omega) (by omega) (fun j hj e=>by
     have:=qMf (i:=i) (j:=j) ⟨hi,by omega⟩ ⟨by omega,hj.2⟩ (hq.trans e.symm)
     omega)
  ·rw [if_neg hq] at hc⊢
   rw [qb (v':=(BR w,i+1,qBf s q)) (by
    refine qN (decide_eq_true (show i≤10 by omega)) (qD (h1 i ⟨hi,by omega⟩) (qT (by rw [beq_eq_false_iff_ne];show (fnS i).toList≠(BR w).toList;rw [qB0];exact hq) ?_))
    rw [qA,w1])]
   exact qF5 w q res h1 h2 k (i+1) M (by omega) (by omega) (by omega) hc
structure Go (k:Nat) (q q':PS):Prop where
 suf:q'.1<:+q.1
 sum:q'.2.2.length+q'.1.length+k≤q.2.2.length+q.1.length
 sm:(∀x∈q.2.2,qC4 x)→∀x∈q'.2.2,qC4 x
theorem Go.refl (q:PS):Go 0 q q:=⟨List.suffix_rfl,Nat.le_refl _,id⟩
theorem Go.trans {a b:Nat} {p q r:PS} (h:Go a p q) (h':Go b q r):Go (a+b) p r:=⟨h'.suf.trans h.suf,by have:=h.sum;have:=h'.sum;omega,fun e=>h'.sm (h.sm e)⟩
theorem Go.tr0 {p q r:PS} (h:Go 0 p q) (h':Go 0 q r):Go 0 p r:=h.trans h'
theorem Go.add {p q:PS} {x:Nd} (h:Go 1 p q) (hx:qC4 x):Go 0 p (qCc x q).2:=by
 refine ⟨h.suf,?_,fun e y hy=>?_⟩
 ·have:=h.sum
  simp only [qCc,List.length_append,List.length_singleton]
  omega
 ·simp only [qCc,List.mem_append,List.mem_singleton] at hy
  rcases hy with hy|rfl
  ·exact h.sm e y hy
  ·exact hx
theorem Go.weak {k:Nat} {p q:PS} (h:Go k p q):Go 0 p q:=⟨h.suf,by have:=h.sum;omega,h.sm⟩
theorem Go.of (q:PS) {r:List UInt8} (b:Bool) {k:Nat} (h:r<:+q.1) (hk:r.length+k≤q.1.length):Go k q (r,b,q.2.2):=⟨h,by simp only;omega,id⟩
theorem qHL (q:PS):Go 0 q (tb q.1,q.2):=⟨List.dropWhile_suffix _,by have:=qAI q.1;simp only;omega,id⟩
theorem qKA (q:PS):Go 0 q (wr (tb q.1),q.2):=⟨(List.dropWhile_suffix _).trans (List.dropWhile_suffix _),by have:=qAI q.1;have:=qFq (tb q.1);simp only;omega,id⟩
theorem qL0 (q:PS) (h:wd (tb q.1)≠ []):Go 1 q (wr (tb q.1),q.2):=⟨(List.dropWhile_suffix _).trans (List.dropWhile_suffix _),by
 have:=qAI q.1
 have e:=congrArg List.length (wdr (tb q.1))
 have:=List.length_pos_iff.2 h
 simp only [List.length_append] at e
 simp only;omega,id⟩
theorem qGU {w:List UInt8} {q:PS} (h:(sIs w q).1=true):w<+:tb q.1∧(sIs w q).2=((tb q.1).drop w.length,q.2)∧q.2.1=false:=by
 unfold sIs at h⊢
 split at h
 ·cases h
 ·rename_i hb
  rw [if_neg hb]
  split at h
  ·rename_i hp
   rw [if_pos hp]
   exact ⟨List.isPrefixOf_iff_prefix.1 hp,rfl,by rw [Bool.eq_false_iff];exact hb⟩
  ·cases h
theorem qKB {w:List UInt8} {q:PS} (h:(sIs w q).1=false):(sIs w q).2=(tb q.1,q.2):=by
 unfold sIs at h⊢
 split at h
 ·rename_i hb;rw [if_pos hb]
 ·rename_i hb
  rw [if_neg hb]
  split at h
  ·cases h
  ·rename_i hp;rw [if_neg hp]
theorem qFv (w:List UInt8) (q:PS):Go 0 q (sIs w q).2:=by
 cases h:(sIs w q).1 with
 |true=>
  obtain ⟨_,h2,_⟩:=qGU h
  rw [h2]
  exact Go.tr0 (qHL q) ⟨List.drop_suffix _ _,by simp,id⟩
 |false=>rw [qKB h];exact qHL q
theorem qC3 {w:List UInt8} (hw:w≠ []) {q:PS} (h:(sIs w q).1=true):Go 1 q (sIs w q).2:=by
 obtain ⟨h1,h2,_⟩:=qGU h
 rw [h2]
 have l1:=h1.length_le
 have l2:=List.length_pos_iff.2 hw
 have:=qAI q.1
 exact ⟨(List.drop_suffix _ _).trans (List.dropWhile_suffix _),by simp;omega,id⟩
theorem qJR {k:Nat} {p q:PS} (h:Go k p q):Go k p (qGj q):=⟨h.suf,h.sum,h.sm⟩
theorem qL1:∀(t r:List UInt8),(tb r).length≤(tb (t++r)).length
 | [],r=>Nat.le_refl _
 |c::t,r=>by
  have ih:=qL1 t r
  have:=qAI (t++r)
  by_cases hc:c=32
  ·rw [show tb (c::t++r)=tb (t++r) by simp [tb,hc]];exact ih
  ·rw [show tb (c::t++r)=c::(t++r) by simp [tb,hc]]
   simp only [List.length_cons];omega
theorem Go.tb {k:Nat} {p q:PS} (h:Go k p q):(tb q.1).length≤(tb p.1).length:=by
 obtain ⟨t,ht⟩:=h.suf
 rw [←ht];exact qL1 t q.1
theorem qLO {w:List UInt8} (hw:w≠ []) {q:PS} (h:(sIs w q).1=true):(tb (sIs w q).2.1).length<(tb q.1).length:=by
 obtain ⟨h1,h2,_⟩:=qGU h
 rw [h2]
 exact qLM hw h1
theorem qLP (level:Int) (r:List UInt8):∀l:List Int,qCP level r l≠0→qCP level r l∈l∧(qAR (qCP level r l)).toList<+:r
 | [],h=>absurd rfl h
 |o::l,h=>by
  unfold qCP at h⊢
  split at h
  ·rename_i hc
   rw [if_pos hc]
   exact ⟨List.mem_cons_self ..,List.isPrefixOf_iff_prefix.1 hc.2⟩
  ·rename_i hc
   rw [if_neg hc]
   have:=qLP level r l h
   exact ⟨List.mem_cons_of_mem _ this.1,this.2⟩
theorem qMZ (level:Int) (q:PS):Go 0 q (sOp level q).2∧((sOp level q).1≠0→Go 1 q (sOp level q).2∧(tb (sOp level q).2.1).length<(tb q.1).length):=by
 unfold sOp
 split
 ·exact ⟨qHL q,fun h=>absurd rfl h⟩
 ·simp only
  by_cases h:qCP level (tb q.1) qBH=0
  ·rw [if_pos h]
   exact ⟨qHL q,fun e=>absurd h e⟩
  ·rw [if_neg h]
   obtain ⟨h1,h2⟩:=qLP level (tb q.1) qBH h
   have ne:=(qKZ _ h1).1
   have l1:=h2.length_le
   have l2:=List.length_pos_iff.2 ne
   rw [qAf] at l1 l2
   have l3:=qAI q.1
   have g:Go 1 q ((tb q.1).drop (qAR (qCP level (tb q.1) qBH)).size,q.2):=⟨(List.drop_suffix _ _).trans (List.dropWhile_suffix _),by simp;omega,id⟩
   have t:=qLM ne h2
   rw [qAf] at t
   exact ⟨g.weak,fun _=>⟨g,t⟩⟩
theorem qHz:∀(k:Nat) (acc r:List UInt8) {w t:List UInt8},r.length≤k→qBv acc r=some (w,t)→t<:+r
 |k,acc,[],w,t,hk,h=>by simp [qBv] at h
 |0,acc,c::r,w,t,hk,h=>by simp at hk
 |k+1,acc,c::r,w,t,hk,h=>by
  simp only [List.length_cons] at hk
  by_cases hc:c=34
  ·subst hc
   by_cases hq:r.head?=some 34
   ·obtain ⟨u,rfl⟩:=qJ7 hq
    rw [qMx] at h
    simp only [List.length_cons] at hk
    have:=qHz k _ u (by omega) h
    exact this.trans ((List.suffix_cons 34 u).trans (List.suffix_cons 34 _))
   ·rw [qMy acc r hq] at h
    cases h
    exact List.suffix_cons 34 _
  ·rw [qMz acc r hc] at h
   exact (qHz k _ r (by omega) h).trans (List.suffix_cons c _)
def Ks:SJ→PS→Prop
 | .call _ kids,q=>q.2.1=true∨kids.length+q.1.length≤1500
 |_,_=>True
theorem qE2 {k op:Int} {kids:List Int} (h:kids.length≤2000):qC4 (ndK k op kids):=⟨h,by simp [ndK,em];decide⟩
theorem qA2 {k:Nat} {p q:PS} (h:Go k p q):q.1.length≤p.1.length:=h.suf.length_le
theorem qC5 (H:RdOK):∀(f:Nat) (j:SJ) (q:PS),q.1.length≤1000→Ks j q→Go 0 q (sP f j q).2
 |0,j,q,_,_=>Go.refl q
 |f+1,.row level,q,hr,_=>by
  unfold sP
  split
  ·exact Go.refl q
  ·split
   ·exact qC5 H f .one q hr trivial
   ·have a:=qC5 H f (.row (level+1)) q hr trivial
    exact a.tr0 (qC5 H f (.rl level _) _ (Nat.le_trans (qA2 a) hr) trivial)
 |f+1,.rl level a,q,hr,_=>by
  unfold sP
  split
  ·exact Go.refl q
  ·simp only
   have o:=qMZ level q
   split
   ·exact o.1
   ·rename_i h0
    have o1:=(o.2 h0).1
    have b:=qC5 H f (.row (level+1)) (sOp level q).2 (Nat.le_trans (qA2 o1) hr) trivial
    have c:=Go.add (x:=ndK 5 (sOp level q).1 [a,(sP f (.row (level+1)) (sOp level q).2).1]) (o1.trans b) (qE2 (by simp))
    exact c.tr0 (qC5 H f (.rl level _) _ (Nat.le_trans (qA2 c) hr) trivial)
 |f+1,.one,q,hr,_=>by
  unfold sP
  split
  ·rename_i h
   have a:=qC3 (by simp) h
   have b:=qC5 H f (.row 5) (sIs [45] q).2 (Nat.le_trans (qA2 a) hr) trivial
   exact Go.add (a.trans b) (qE2 (by simp))
  ·have a:=qFv [45] q
   split
   ·rename_i h
    have c:=a.tr0 (qC3 (by simp) h).weak
    have b:=qC5 H f (.row 1) (sIs [40] (sIs [45] q).2).2 (Nat.le_trans (qA2 c) hr) trivial
    have d:=(c.tr0 b).tr0 (qFv [41] _)
    simp only
    split
    ·exact d
    ·exact qJR d
   ·simp only
    have t:=qHL q
    split
    ·rename_i h
     have c:=qC3 (by simp) h
     obtain ⟨_,e,_⟩:=qGU h
     split
     ·exact ⟨List.nil_suffix,by simp,id⟩
     ·rename_i w u hq
      have d:=qHz _ _ _ (Nat.le_refl _) hq
      have d2:=d.length_le
      have dz:=qD2 _ _ _ (Nat.le_refl _) hq
      have g:=t.trans c
      have l:=qA2 g
      have sg:=g.sum
      have eq:(sIs [34] (tb q.1,q.2)).2.2=q.2:=by rw [e]
      rw [eq] at sg
      simp only [List.length_nil] at dz
      exact Go.add (q:=(u,q.2)) ⟨d.trans g.suf,by simp only;omega,id⟩ ⟨by simp [kd,nd1],by simp only [nd1,qAJ];omega⟩
    ·split
     ·rename_i h
      have c:=qC3 (by simp) h
      obtain ⟨_,e,_⟩:=qGU h
      have g:=t.trans c
      have l:=qA2 g
      have sg:=g.sum
      have eq:(sIs [35] (tb q.1,q.2)).2.2=q.2:=by rw [e]
      rw [eq] at sg
      split
      ·exact Go.add (q:=(_,q.2)) ⟨(List.drop_suffix _ _).trans g.suf,by simp;omega,id⟩ ⟨by simp [kd,nd1],by simp [nd1,em];decide⟩
      ·exact ⟨g.suf,by simp only;omega,id⟩
     ·have w:=qKA q
      split
      ·split
       ·have c:=w.tr0 (qFv [40] _)
        exact c.tr0 (qC5 H f (.call _ []) _ (Nat.le_trans (qA2 c) hr) (.inr (by have:=qA2 c;simp only [List.length_nil];omega)))
       ·exact qJR (w.tr0 (qFv [40] _))
      ·split
       ·rename_i hv
        exact Go.add (qL0 q hv.2) ⟨by simp [kd,nd1],qFs hv.1 (H.v _ (qK9 _) hv.2 hv.1)⟩
       ·split
        ·rename_i hp
         exact Go.add (qL0 q (fun e=>by rw [e,H.p0] at hp;cases hp)) ⟨by simp [kd,ndC],by simp [ndC,em];decide⟩
        ·exact qJR w
 |f+1,.call op kids,q,hr,hk=>by
  unfold sP
  split
  ·exact Go.refl q
  ·rename_i hb
   have hk:kids.length+q.1.length≤1500:=hk.elim (fun h=>absurd h hb) id
   have a:=qC5 H f .arg q hr trivial
   simp only
   split
   ·rename_i h
    exact Go.add (a.trans (qC3 (by simp) h)) (qE2 (by simp;omega))
   ·have c:=a.tr0 (qFv [41] _)
    split
    ·rename_i h
     have d:=c.trans (qC3 (by simp) h)
     obtain ⟨e1,e2,_⟩:=qGU h
     have l:=e1.length_le
     have l2:=qA2 c
     have l3:=qAI (sIs [41] (sP f .arg q).2).2.1
     simp only [List.length_cons,List.length_nil] at l
     exact d.weak.tr0 (qC5 H f (.call op _) _ (Nat.le_trans (qA2 d) hr) (.inr (by rw [e2];simp;omega)))
    ·have d:=qJR (c.tr0 (qFv [44] _))
     exact d.tr0 (qC5 H f (.call op _) _ (Nat.le_trans (qA2 d) hr) (.inl rfl))
 |f+1,.arg,q,hr,_=>by
  unfold sP
  simp only
  have w:=qKA q
  split
  ·rename_i h
   have c:=w.trans (qC3 (by simp) h.2)
   have d:=c.trans (qKA _)
   split
   ·exact Go.add d ⟨by simp [kd,ndA],by simp [ndA,em];decide⟩
   ·exact ⟨d.suf,by have:=d.sum;simp only at this⊢;omega,d.sm⟩
  ·have t:=qHL q
   exact t.tr0 (qC5 H f (.row 1) _ (Nat.le_trans (qA2 t) hr) trivial)
def As (f:Nat):SJ→PS→Prop
 | .row level,q=>((20*(tb q.1).length+10:Nat):Int)-level≤f∧1≤level∧level≤5
 | .rl level _,q=>20*(tb q.1).length+5≤f∧1≤level∧level≤4
 | .one,q=>20*(tb q.1).length+4≤f∧q.2.1=false
 | .call _ _,q=>(q.2.1=true∧1≤f)∨20*(tb q.1).length+12≤f
 | .arg,q=>20*(tb q.1).length+10≤f
def Iv (s:List UInt8) (q:PS):Prop:=q.1<:+s∧q.2.2.length+q.1.length≤2000
theorem Iv.go {s:List UInt8} {k:Nat} {q q':PS} (h:Iv s q) (g:Go k q q'):Iv s q':=⟨g.suf.trans h.1,by have:=g.sum;have:=h.2;omega⟩
def Ws (s:List UInt8):SJ→PS→Int×PS→Prop
 | .row level,q,r=>Ev (qCf · level (BR s) (pos s q.1) q.2.1 q.2.2.length (q.2.2.map qU)) (qBR s r)
 | .rl level a,q,r=>∃x,(x= .inl (qBR s r)∨x= .inr (qBR s r))∧∃n0,∀n,n0≤n→∀M,n0≤M→zF (qCg (qV n) n) M (level,a,qBf s q)=some x
 | .one,q,r=>Ev (qFC · (BR s) (pos s q.1) q.2.1 q.2.2.length (q.2.2.map qU)) (qBR s r)
 | .call op kids,q,r=>∃x,(x= .inl (qBR s r)∨(x= .inr (qBf s r.2)∧r.1=0))∧∃n0,∀n,n0≤n→∀M,n0≤M→zF (qCU (qV n) n) M (op,kids.length,kids.map qAZ,qBf s q)=some x
 | .arg,q,r=>Ev (qFD · (BR s) (pos s q.1) q.2.1 q.2.2.length (q.2.2.map qU)) (qBR s r)
theorem srp (r:List UInt8) (h:r.length≤1000):Ev (qAB · (BR (wd r))) (qA9 (BR (wd r))):=qHD _ (by rw [qAJ];have:=qLx r;omega)
theorem srv (r:List UInt8) (h:r.length≤1000):Ev (qq · (BR (wd r))) (q8 (BR (wd r))):=qG9 _ (by rw [qAJ];have:=qLx r;omega)
theorem qM0 {r:List UInt8} (h:wd r≠ []):(tb (wr r)).length<r.length:=by
 have e:=congrArg List.length (wdr r)
 have:=List.length_pos_iff.2 h
 have:=qAI (wr r)
 simp only [List.length_append] at e
 omega
def qKa (n:Nat) (w:ByteArray) (c:ByteArray×Int×Bool×Nat×List (List PV)):Tr (Int×ByteArray×Int×Bool×Nat×List (List PV)):=
 (.opt (qAB n w) fun r=>(.ask (!r.2.2.2.2) (.done (0,c.1,c.2.1,true,c.2.2.2.1,c.2.2.2.2))
  (.opt (qc n 2 0 0 0 ⟨#[]⟩ r.1 r.2.1 r.2.2.1 r.2.2.2.1 0 0 false false [] c.1 c.2.1 c.2.2.1 c.2.2.2.1 c.2.2.2.2) fun t=> .done (t.1,t.2.1,t.2.2.1,t.2.2.2.1,t.2.2.2.2.1,t.2.2.2.2.2))))
def qMg (n:Nat) (w:ByteArray) (c:ByteArray×Int×Bool×Nat×List (List PV)):Tr (Int×ByteArray×Int×Bool×Nat×List (List PV)):=
 (.opt (qq n w) fun r=>(.ask r.2.2.2
  (.ask (!(w.toList==(⟨#[]⟩:ByteArray).toList))
   (.opt (qc n 1 0 r.1 r.2.1 r.2.2.1 0 0 false false 0 0 false false [] c.1 c.2.1 c.2.2.1 c.2.2.2.1 c.2.2.2.2) fun t=> .done (t.1,t.2.1,t.2.2.1,t.2.2.2.1,t.2.2.2.2.1,t.2.2.2.2.2))
   (qKa n w c))
  (qKa n w c)))
def qJS (w:List UInt8) (q3:PS):Int×PS:=
 if (q8 (BR w)).2.2.2=true∧w≠ [] then qCc (nd1 ((q8 (BR w)).1,(q8 (BR w)).2.1,(q8 (BR w)).2.2.1)) q3
 else if (qA9 (BR w)).2.2.2.2=true then qCc (ndC (qA9 (BR w))) q3
 else (0,qGj q3)
theorem qKC (H:RdOK) {s:List UInt8} (r:List UInt8) (q:PS) (hr:r.length≤1000) (hn:q.2.2.length≤5000):∃n0,∀n,n0≤n→(qMg n (BR (wd r)) (qBf s q)).run=some (qBR s (qJS (wd r) q)):=by
 obtain ⟨n1,h1⟩:=srv r hr
 obtain ⟨n2,h2⟩:=srp r hr
 obtain ⟨n4,h4⟩:=qFu (s:=s) (ndC (qA9 (BR (wd r)))) q hn ⟨by simp [kd,ndC],by simp [ndC,em];decide⟩
 have place:∃n0,∀n,n0≤n→(qKa n (BR (wd r)) (qBf s q)).run=some (qBR s (if (qA9 (BR (wd r))).2.2.2.2=true then qCc (ndC (qA9 (BR (wd r)))) q else (0,qGj q))):=by
  refine ⟨n2+n4,fun n hn=>?_⟩
  cases hp:(qA9 (BR (wd r))).2.2.2.2 with
  |true=>rw [if_pos rfl];exact qD (h2 n (by omega)) (qT (qJO hp) (qD (h4 n (by omega)) rfl))
  |false=>rw [if_neg (by simp)];exact qD (h2 n (by omega)) (qN (qFt hp) rfl)
 obtain ⟨n5,h5⟩:=place
 by_cases hv:(q8 (BR (wd r))).2.2.2=true∧wd r≠ []
 ·obtain ⟨n3,h3⟩:=qFu (s:=s) (nd1 ((q8 (BR (wd r))).1,(q8 (BR (wd r))).2.1,(q8 (BR (wd r))).2.2.1)) q hn ⟨by simp [kd,nd1],qFs hv.1 (H.v _ (qK9 _) hv.2 hv.1)⟩
  refine ⟨n1+n3,fun n hn=>?_⟩
  unfold qJS
  rw [if_pos hv]
  exact qD (h1 n (by omega)) (qN hv.1 (qN (qFt (by rw [beq_eq_false_iff_ne,qB0,qBB];exact hv.2)) (qD (h3 n (by omega)) rfl)))
 ·refine ⟨n1+n5,fun n hn=>?_⟩
  unfold qJS
  rw [if_neg hv]
  refine qD (h1 n (by omega)) ?_
  by_cases ho:(q8 (BR (wd r))).2.2.2=true
  ·have e:wd r= []:=Classical.byContradiction fun e=>hv ⟨ho,e⟩
   exact qN ho (qT (qJO (by rw [beq_iff_eq,qB0,qBB];exact e)) (h5 n (by omega)))
  ·exact qT (by rw [Bool.eq_false_iff];exact ho) (h5 n (by omega))
theorem qDD (H:RdOK) {s:List UInt8} (hs:s.length≤1000):∀(f:Nat) (j:SJ) (q:PS),As f j q→Iv s q→Ks j q→Ws s j q (sP f j q)
 |0,j,q,ha,_,_=>by cases j<;>simp [As] at ha<;>omega
 |f+1,.row level,q,ha,hi,_=>by
  obtain ⟨ha,hl1,hl5⟩:=ha
  have hr:q.1.length≤1000:=Nat.le_trans (qB1 hi.1) hs
  unfold sP
  by_cases hb:q.2.1=true
  ·rw [if_pos hb]
   refine ⟨1,fun n hn=>?_⟩
   obtain ⟨k,rfl,hm⟩:=up1 hn
   exact qN hb rfl
  ·have hb:q.2.1=false:=by rw [Bool.eq_false_iff];exact hb
   rw [if_neg (by rw [hb];simp)]
   by_cases h5:level=5
   ·rw [if_pos h5]
    obtain ⟨n1,h1⟩:=qDD H hs f .one q ⟨by omega,hb⟩ hi trivial
    refine ⟨n1+1,fun n hn=>?_⟩
    obtain ⟨k,rfl,hm⟩:=up1 hn
    exact qT hb (qN (beq_iff_eq.2 h5) (qD (h1 k (by omega)) rfl))
   ·rw [if_neg h5]
    have g:=qC5 H f (.row (level+1)) q hr trivial
    have gl:=g.tb
    obtain ⟨n1,h1⟩:=qDD H hs f (.row (level+1)) q ⟨by omega,by omega,by omega⟩ hi trivial
    generalize sP f (.row (level+1)) q=Q at g gl h1⊢
    obtain ⟨x,hx,n2,h2⟩:=qDD H hs f (.rl level Q.1) Q.2 ⟨by omega,by omega,by omega⟩ (hi.go g) trivial
    refine ⟨n1+n2+1,fun n hn=>?_⟩
    obtain ⟨k,rfl,hm⟩:=up1 hn
    have w1:IntKind.i64.wrap (level+1)=level+1:=qY (by omega)
    have h1:=h1 k (by omega)
    rw [←w1] at h1
    have h2:=h2 k (by omega) k (by omega)
    rcases hx with rfl|rfl
    ·exact qT hb (qT (beq_eq_false_iff_ne.2 h5) (qD h1 (qD h2 rfl)))
    ·exact qT hb (qT (beq_eq_false_iff_ne.2 h5) (qD h1 (qD h2 rfl)))
 |f+1,.rl level a,q,ha,hi,_=>by
  obtain ⟨ha,hl1,hl4⟩:=ha
  have hr:q.1.length≤1000:=Nat.le_trans (qB1 hi.1) hs
  unfold sP
  by_cases hb:q.2.1=true
  ·rw [if_pos hb]
   refine ⟨.inr (qBR s (a,q)),.inr rfl,1,fun n hn M hM=>?_⟩
   obtain ⟨M,rfl,hM⟩:=up1 hM
   exact qP (qT (qJO hb) rfl)
  ·have hb:q.2.1=false:=by rw [Bool.eq_false_iff];exact hb
   rw [if_neg (by rw [hb];simp)]
   simp only
   obtain ⟨n1,h1⟩:=qMe hs (level:=level) ⟨hl1,hl4⟩ q hb hi.1
   have o:=qMZ level q
   generalize sOp level q=O at h1 o⊢
   by_cases h0:O.1=0
   ·rw [if_pos h0]
    refine ⟨.inl (qBR s (a,O.2)),.inl rfl,n1+1,fun n hn M hM=>?_⟩
    obtain ⟨M,rfl,hM⟩:=up1 hM
    exact qP (qN (qFt hb) (qD (h1 n (by omega)) (qN (beq_iff_eq.2 h0) rfl)))
   ·rw [if_neg h0]
    obtain ⟨o1,o2⟩:=o.2 h0
    have b:=qC5 H f (.row (level+1)) O.2 (Nat.le_trans (qA2 o1) hr) trivial
    obtain ⟨n2,h2⟩:=qDD H hs f (.row (level+1)) O.2 ⟨by omega,by omega,by omega⟩ (hi.go o1) trivial
    have ib:=(hi.go o1).go b
    have tbb:=b.tb
    have c:=Go.add (x:=ndK 5 O.1 [a,(sP f (.row (level+1)) O.2).1]) (o1.trans b) (qE2 (by simp))
    generalize sP f (.row (level+1)) O.2=Q at h2 b ib tbb c⊢
    obtain ⟨n3,h3⟩:=qFu (s:=s) (ndK 5 O.1 [a,Q.1]) Q.2 (by have:=ib.2;omega) (qE2 (by simp))
    have rest:(qCc (ndK 5 O.1 [a,Q.1]) Q.2).2.1=Q.2.1:=rfl
    generalize qCc (ndK 5 O.1 [a,Q.1]) Q.2=C at h3 c rest⊢
    obtain ⟨x,hx,n4,h4⟩:=qDD H hs f (.rl level C.1) C.2 ⟨by rw [rest];omega,hl1,hl4⟩ (hi.go c) trivial
    refine ⟨x,hx,n1+n2+n3+n4+1,fun n hn M hM=>?_⟩
    obtain ⟨M,rfl,hM⟩:=up1 hM
    have w1:IntKind.i64.wrap (level+1)=level+1:=qY (by omega)
    have h2:=h2 n (by omega)
    rw [←w1] at h2
    rw [qb (v':=(level,C.1,qBf s C.2)) (by
     exact qN (qFt hb) (qD (h1 n (by omega)) (qT (beq_eq_false_iff_ne.2 h0) (qD h2 (qN rfl (qD (h3 n (by omega)) rfl))))))]
    exact h4 n (by omega) M (by omega)
 |f+1,.one,q,ha,hi,_=>by
  obtain ⟨ha,hb⟩:=ha
  have hr:q.1.length≤1000:=Nat.le_trans (qB1 hi.1) hs
  unfold sP
  obtain ⟨n1,h1⟩:=qD3 hs [45] (by simp) q hi.1
  cases c1:(sIs [45] q).1 with
  |true=>
   rw [if_pos rfl]
   have a:=qC3 (by simp) c1
   have al:=qLO (by simp) c1
   have b:=qC5 H f (.row 5) (sIs [45] q).2 (Nat.le_trans (qA2 a) hr) trivial
   obtain ⟨n2,h2⟩:=qDD H hs f (.row 5) (sIs [45] q).2 ⟨by omega,by omega,by omega⟩ (hi.go a) trivial
   have ib:=(hi.go a).go b
   simp only
   generalize sP f (.row 5) (sIs [45] q).2=Q at h2 ib⊢
   obtain ⟨n3,h3⟩:=qFu (s:=s) (ndK 4 0 [Q.1]) Q.2 (by have:=ib.2;omega) (qE2 (by simp))
   refine ⟨n1+n2+n3+1,fun n hn=>?_⟩
   obtain ⟨k,rfl,hm⟩:=up1 hn
   exact qD (h1 k (by omega)) (qN c1 (qD (h2 k (by omega)) (qN rfl (qD (h3 k (by omega)) rfl))))
  |false=>
   rw [if_neg (by simp)]
   have a:=qFv [45] q
   obtain ⟨n2,h2⟩:=qD3 hs [40] (by simp) (sIs [45] q).2 (hi.go a).1
   cases c2:(sIs [40] (sIs [45] q).2).1 with
   |true=>
    rw [if_pos rfl]
    have b:=qC3 (by simp) c2
    have al:=qLO (by simp) c2
    have atb:=a.tb
    have g1:=a.trans b
    have b2:=qC5 H f (.row 1) (sIs [40] (sIs [45] q).2).2 (Nat.le_trans (qA2 g1) hr) trivial
    obtain ⟨n3,h3⟩:=qDD H hs f (.row 1) (sIs [40] (sIs [45] q).2).2 ⟨by omega,by omega,by omega⟩ (hi.go g1) trivial
    have ib:=(hi.go g1).go b2
    simp only
    generalize sP f (.row 1) (sIs [40] (sIs [45] q).2).2=Q at h3 ib⊢
    obtain ⟨n4,h4⟩:=qD3 hs [41] (by simp) Q.2 ib.1
    refine ⟨n1+n2+n3+n4+1,fun n hn=>?_⟩
    obtain ⟨k,rfl,hm⟩:=up1 hn
    refine qD (h1 k (by omega)) (qT c1 (qD (h2 k (by omega)) (qN c2 (qD (h3 k (by omega)) (qD (h4 k (by omega)) ?_)))))
    cases c3:(sIs [41] Q.2).1 with
    |true=>rw [if_pos rfl];exact qT rfl rfl
    |false=>rw [if_neg (by simp)];exact qN rfl rfl
   |false=>
    rw [if_neg (by simp)]
    have e2:(sIs [40] (sIs [45] q).2).2=(tb q.1,q.2):=by
     rw [qKB c2,qKB c1];simp only [qBw]
    rw [e2] at h2
    have t:=qHL q
    have it:=hi.go t
    obtain ⟨n3,h3⟩:=qD3 hs [34] (by simp) (tb q.1,q.2) it.1
    simp only
    cases c3:(sIs [34] (tb q.1,q.2)).1 with
    |true=>
     rw [if_pos rfl]
     have b:=qC3 (by simp) c3
     have ib:=it.go b
     have eq2:(sIs [34] (tb q.1,q.2)).2.2=q.2:=by obtain ⟨_,e,_⟩:=qGU c3;rw [e]
     obtain ⟨n4,h4⟩:=qLy hs (sIs [34] (tb q.1,q.2)).2 ib.1 (by have:=ib.2;omega)
     refine ⟨n1+n2+n3+n4+1,fun n hn=>?_⟩
     obtain ⟨k,rfl,hm⟩:=up1 hn
     refine qD (h1 k (by omega)) (qT c1 (qD (h2 k (by omega)) (qT c2 (qD (h3 k (by omega)) (qN c3 (qD (h4 k (by omega)) ?_))))))
     rw [qA,eq2]
     all_goals (cases qBv [] (sIs [34] (tb q.1,q.2)).2.1<;>rfl)
    |false=>
     rw [if_neg (by simp)]
     have e3:(sIs [34] (tb q.1,q.2)).2=(tb q.1,q.2):=by rw [qKB c3];simp only [qBw]
     rw [e3] at h3
     obtain ⟨n4,h4⟩:=qD3 hs [35] (by simp) (tb q.1,q.2) it.1
     cases c4:(sIs [35] (tb q.1,q.2)).1 with
     |true=>
      rw [if_pos rfl]
      have b:=qC3 (by simp) c4
      have ib:=it.go b
      have eq2:(sIs [35] (tb q.1,q.2)).2.2=q.2:=by obtain ⟨_,e,_⟩:=qGU c4;rw [e]
      obtain ⟨n5,h5⟩:=qMT hs (sIs [35] (tb q.1,q.2)).2.1 ib.1 q.2.1 q.2.2 (by have:=hi.2;omega)
      have h4:=fun k hk=>h4 k hk
      refine ⟨n1+n2+n3+n4+n5+1,fun n hn=>?_⟩
      obtain ⟨k,rfl,hm⟩:=up1 hn
      have h4:=h4 k (by omega)
      have h5:=h5 k (by omega) k (by omega)
      have e4:qBf s (sIs [35] (tb q.1,q.2)).2=(BR s,pos s (sIs [35] (tb q.1,q.2)).2.1,q.2.1,q.2.2.length,q.2.2.map qU):=by unfold qBf;rw [eq2]
      rw [e4] at h4
      refine qD (h1 k (by omega)) (qT c1 (qD (h2 k (by omega)) (qT c2 (qD (h3 k (by omega)) (qT c3 (qD h4 (qN c4 (qD h5 ?_))))))))
      cases qKs (sIs [35] (tb q.1,q.2)).2.1 1 5<;>rfl
     |false=>
      rw [if_neg (by simp)]
      have e4:(sIs [35] (tb q.1,q.2)).2=(tb q.1,q.2):=by rw [qKB c4];simp only [qBw]
      rw [e4] at h4
      obtain ⟨n5,h5⟩:=qJP hs (tb q.1,q.2) it.1
      have w:=qKA q
      have iw:=hi.go w
      have htl:=qAI q.1
      obtain ⟨n6,h6⟩:=qD3 hs [40] (by simp) (wr (tb q.1),q.2) iw.1
      obtain ⟨n7,h7⟩:=qMU
      obtain ⟨n9,h9⟩:=qKC H (s:=s) (tb q.1) (wr (tb q.1),q.2) (by omega) (by have:=hi.2;simp only;omega)
      have gi:=qFv [40] (wr (tb q.1),q.2)
      cases hf:qIZ (wd (tb q.1)) 1 10 with
      |none=>
       simp only
       refine ⟨n1+n2+n3+n4+n5+n6+n7+n9+12+1,fun n hn=>?_⟩
       obtain ⟨k,rfl,hm⟩:=up1 hn
       have lp:=qF5 (g:=qV k) (s:=s) (wd (tb q.1)) (wr (tb q.1),q.2) (fun _=>(0,q)) (h7 k (by omega)) (h6 k (by omega)) 10 1 k (by omega) (by omega) (by omega) (fun op h=>by rw [hf] at h;cases h)
       rw [hf] at lp
       exact qD (h1 k (by omega)) (qT c1 (qD (h2 k (by omega)) (qT c2 (qD (h3 k (by omega)) (qT c3 (qD (h4 k (by omega)) (qT c4 (qD (h5 k (by omega)) (qD lp (h9 k (by omega)))))))))))
      |some op=>
       have wne:wd (tb q.1)≠ []:=fun e=>by rw [e,H.f0] at hf;cases hf
       have wlt:=qM0 wne
       simp only
       cases c5:(sIs [40] (wr (tb q.1),q.2)).1 with
       |true=>
        rw [if_pos rfl]
        have il:=qLO (by simp) c5
        simp only at il
        obtain ⟨x,hx,n8,h8⟩:=qDD H hs f (.call op []) (sIs [40] (wr (tb q.1),q.2)).2 (.inr (by omega)) (iw.go gi) (.inr (by have:=qA2 (w.tr0 gi);simp only [List.length_nil];omega))
        have hcall:Ev (qEg · op (BR s) (pos s (sIs [40] (wr (tb q.1),q.2)).2.1) (sIs [40] (wr (tb q.1),q.2)).2.2.1 (sIs [40] (wr (tb q.1),q.2)).2.2.2.length ((sIs [40] (wr (tb q.1),q.2)).2.2.2.map qU)) (qBR s (sP f (.call op []) (sIs [40] (wr (tb q.1),q.2)).2)):=by
         refine ⟨n8+1,fun n hn=>?_⟩
         obtain ⟨k,rfl,hm⟩:=up1 hn
         have h8:=h8 k (by omega) k (by omega)
         rcases hx with rfl|⟨rfl,hz⟩
         ·exact qD h8 rfl
         ·refine qD h8 ?_
          show some ((0:Int),qBf s _)=some (_,qBf s _)
          rw [hz]
        obtain ⟨n10,h10⟩:=hcall
        refine ⟨n1+n2+n3+n4+n5+n6+n7+n10+12+1,fun n hn=>?_⟩
        obtain ⟨k,rfl,hm⟩:=up1 hn
        have lp:=qF5 (g:=qV k) (s:=s) (wd (tb q.1)) (wr (tb q.1),q.2) (fun op=>sP f (.call op []) (sIs [40] (wr (tb q.1),q.2)).2) (h7 k (by omega)) (h6 k (by omega)) 10 1 k (by omega) (by omega) (by omega) (fun op' h _=>by rw [hf] at h;cases h;exact h10 k (by omega))
        rw [hf] at lp
        simp only at lp
        rw [if_pos c5] at lp
        exact qD (h1 k (by omega)) (qT c1 (qD (h2 k (by omega)) (qT c2 (qD (h3 k (by omega)) (qT c3 (qD (h4 k (by omega)) (qT c4 (qD (h5 k (by omega)) (qD lp rfl)))))))))
       |false=>
        rw [if_neg (by simp)]
        obtain ⟨v1,v2⟩:=H.f _ _ hf
        obtain ⟨n9,h9⟩:=qKC H (s:=s) (tb q.1) (sIs [40] (wr (tb q.1),q.2)).2 (by omega) (by have:=(iw.go gi).2;omega)
        have er:qJS (wd (tb q.1)) (sIs [40] (wr (tb q.1),q.2)).2=(0,qGj (sIs [40] (wr (tb q.1),q.2)).2):=by
         unfold qJS
         rw [if_neg (fun h=>by rw [v1] at h;cases h.1),if_neg (by rw [v2];simp)]
        rw [er] at h9
        refine ⟨n1+n2+n3+n4+n5+n6+n7+n9+12+1,fun n hn=>?_⟩
        obtain ⟨k,rfl,hm⟩:=up1 hn
        have lp:=qF5 (g:=qV k) (s:=s) (wd (tb q.1)) (wr (tb q.1),q.2) (fun _=>(0,q)) (h7 k (by omega)) (h6 k (by omega)) 10 1 k (by omega) (by omega) (by omega) (fun op' h h'=>by rw [c5] at h';cases h')
        rw [hf] at lp
        simp only at lp
        rw [if_neg (by rw [c5];simp)] at lp
        exact qD (h1 k (by omega)) (qT c1 (qD (h2 k (by omega)) (qT c2 (qD (h3 k (by omega)) (qT c3 (qD (h4 k (by omega)) (qT c4 (qD (h5 k (by omega)) (qD lp (h9 k (by omega)))))))))))
 |f+1,.call op kids,q,ha,hi,hk=>by
  have hr:q.1.length≤1000:=Nat.le_trans (qB1 hi.1) hs
  unfold sP
  by_cases hb:q.2.1=true
  ·rw [if_pos hb]
   refine ⟨.inr (qBf s q),.inr ⟨rfl,rfl⟩,1,fun n hn M hM=>?_⟩
   obtain ⟨M,rfl,hM⟩:=up1 hM
   exact qP (qT (qJO hb) rfl)
  ·have hk:kids.length+q.1.length≤1500:=hk.elim (fun h=>absurd h hb) id
   have ha:20*(tb q.1).length+12≤f+1:=ha.elim (fun h=>absurd h.1 hb) id
   have hb:q.2.1=false:=by rw [Bool.eq_false_iff];exact hb
   rw [if_neg (by rw [hb];simp)]
   simp only
   have a:=qC5 H f .arg q hr trivial
   obtain ⟨n1,h1⟩:=qDD H hs f .arg q (by show 20*_+10≤f;omega) hi trivial
   generalize sP f .arg q=A at a h1⊢
   have ia:=hi.go a
   have ta:=a.tb
   have ra:=qA2 a
   obtain ⟨n2,h2⟩:=qD3 hs [41] (by simp) A.2 ia.1
   have kl:decide (kids.length=(kids.map qAZ).length∧0<1∧0<8∧(kids.length+([[(PV.i .i64 A.1)]]:List (List PV)).length)*8≤140737488355328∧([[(PV.i .i64 A.1)]]:List (List PV)).all (fun e=>e.length==1)=true)=true:=decide_eq_true ⟨by simp,by decide,by decide,by simp;omega,rfl⟩
   have k1:(kids++ [A.1]).length=kids.length+1:=by simp
   have k2:(kids++ [A.1]).map qAZ=kids.map qAZ++ [[PV.i .i64 A.1]]:=by simp [qAZ]
   cases c1:(sIs [41] A.2).1 with
   |true=>
    rw [if_pos rfl]
    have g:=a.trans (qC3 (by simp) c1)
    obtain ⟨n3,h3⟩:=qFu (s:=s) (ndK 6 op (kids++ [A.1])) (sIs [41] A.2).2 (by have:=(hi.go g).2;omega) (qE2 (by simp;omega))
    refine ⟨.inl (qBR s (qCc (ndK 6 op (kids++ [A.1])) (sIs [41] A.2).2)),.inl rfl,n1+n2+n3+1,fun n hn M hM=>?_⟩
    obtain ⟨M,rfl,hM⟩:=up1 hM
    have h3:_=some _:=h3 n (by omega)
    simp only [ndK,kd] at h3
    rw [k2] at h3
    exact qP (qN (qFt hb) (qD (h1 n (by omega)) (qN rfl (qN kl (qD (h2 n (by omega)) (qN c1 (qN (decide_eq_true (by simp)) (qD h3 rfl))))))))
   |false=>
    rw [if_neg (by simp)]
    have g:=a.tr0 (qFv [41] A.2)
    have gt:=(qFv [41] A.2).tb
    have i2:=hi.go g
    obtain ⟨n3,h3⟩:=qD3 hs [44] (by simp) (sIs [41] A.2).2 i2.1
    cases c2:(sIs [44] (sIs [41] A.2).2).1 with
    |true=>
     rw [if_pos rfl]
     have b:=qC3 (by simp) c2
     have bl:=qLO (by simp) c2
     have bs:=qA2 (g.trans b)
     have b1:=b.sum
     have eq3:(sIs [44] (sIs [41] A.2).2).2.2=(sIs [41] A.2).2.2:=by obtain ⟨_,e,_⟩:=qGU c2;rw [e]
     rw [eq3] at b1
     have g0:=qA2 g
     obtain ⟨x,hx,n4,h4⟩:=qDD H hs f (.call op (kids++ [A.1])) (sIs [44] (sIs [41] A.2).2).2 (.inr (by omega)) (i2.go b) (.inr (by rw [k1];omega))
     refine ⟨x,hx,n1+n2+n3+n4+1,fun n hn M hM=>?_⟩
     obtain ⟨M,rfl,hM⟩:=up1 hM
     have h4:=h4 n (by omega) M (by omega)
     rw [k1,k2] at h4
     rw [qb (v':=(op,kids.length+1,kids.map qAZ++ [[PV.i .i64 A.1]],qBf s (sIs [44] (sIs [41] A.2).2).2)) (by
      exact qN (qFt hb) (qD (h1 n (by omega)) (qN rfl (qN kl (qD (h2 n (by omega)) (qT c1 (qD (h3 n (by omega)) (qT (qJO c2) rfl))))))))]
     exact h4
    |false=>
     rw [if_neg (by simp)]
     have b:=qFv [44] (sIs [41] A.2).2
     obtain ⟨x,hx,n4,h4⟩:=qDD H hs f (.call op (kids++ [A.1])) (qGj (sIs [44] (sIs [41] A.2).2).2) (.inl ⟨rfl,by omega⟩) (i2.go (qJR b)) (.inl rfl)
     refine ⟨x,hx,n1+n2+n3+n4+1,fun n hn M hM=>?_⟩
     obtain ⟨M,rfl,hM⟩:=up1 hM
     have h4:=h4 n (by omega) M (by omega)
     rw [k1,k2] at h4
     rw [qb (v':=(op,kids.length+1,kids.map qAZ++ [[PV.i .i64 A.1]],qBf s (qGj (sIs [44] (sIs [41] A.2).2).2))) (by
      exact qN (qFt hb) (qD (h1 n (by omega)) (qN rfl (qN kl (qD (h2 n (by omega)) (qT c1 (qD (h3 n (by omega)) (qN (qFt c2) rfl))))))))]
     exact h4
 |f+1,.arg,q,ha,hi,_=>by
  replace ha:20*(tb q.1).length+10≤f+1:=ha
  have hr:q.1.length≤1000:=Nat.le_trans (qB1 hi.1) hs
  have htl:=qAI q.1
  unfold sP
  simp only
  have t:=qHL q
  have it:=hi.go t
  have w:=qKA q
  have iw:=hi.go w
  obtain ⟨n1,h1⟩:=qKY hs q hi.1
  obtain ⟨n2,h2⟩:=qJP hs (tb q.1,q.2) it.1
  obtain ⟨n3,h3⟩:=srp (tb q.1) (by omega)
  obtain ⟨n4,h4⟩:=qD3 hs [58] (by simp) (wr (tb q.1),q.2) iw.1
  have eq2:(sIs [58] (wr (tb q.1),q.2)).2.2=q.2:=by
   cases c:(sIs [58] (wr (tb q.1),q.2)).1 with
   |true=>obtain ⟨_,e,_⟩:=qGU c;rw [e]
   |false=>rw [qKB c]
  by_cases hc:(qA9 (BR (wd (tb q.1)))).2.2.2.2=true∧(sIs [58] (wr (tb q.1),q.2)).1=true
  ·rw [if_pos hc]
   have g:=w.trans (qC3 (by simp) hc.2)
   have ig:=hi.go g
   have rg:=qA2 g
   generalize sIs [58] (wr (tb q.1),q.2)=I at*
   have gt:=qHL I.2
   have gw:=qKA I.2
   have il:=qAI I.2.1
   obtain ⟨n5,h5⟩:=qKY hs I.2 ig.1
   obtain ⟨n6,h6⟩:=qJP hs (tb I.2.1,I.2.2) (ig.go gt).1
   obtain ⟨n7,h7⟩:=srp (tb I.2.1) (by omega)
   cases hp:(qA9 (BR (wd (tb I.2.1)))).2.2.2.2 with
   |true=>
    rw [if_pos rfl]
    obtain ⟨n8,h8⟩:=qFu (s:=s) (ndA (qA9 (BR (wd (tb q.1)))) (qA9 (BR (wd (tb I.2.1))))) (wr (tb I.2.1),I.2.2) (by have:=(ig.go gw).2;simp only at this⊢;omega) ⟨by simp [kd,ndA],by simp [ndA,em];decide⟩
    refine ⟨n1+n2+n3+n4+n5+n6+n7+n8+1,fun n hn=>?_⟩
    obtain ⟨k,rfl,hm⟩:=up1 hn
    exact qD (h1 k (by omega)) (qD (h2 k (by omega)) (qD (h3 k (by omega)) (qN hc.1 (qD (h4 k (by omega)) (qN hc.2 (qD (h5 k (by omega)) (qD (h6 k (by omega)) (qD (h7 k (by omega)) (qT (qJO hp) (qD (h8 k (by omega)) rfl))))))))))
   |false=>
    rw [if_neg (by simp)]
    refine ⟨n1+n2+n3+n4+n5+n6+n7+1,fun n hn=>?_⟩
    obtain ⟨k,rfl,hm⟩:=up1 hn
    exact qD (h1 k (by omega)) (qD (h2 k (by omega)) (qD (h3 k (by omega)) (qN hc.1 (qD (h4 k (by omega)) (qN hc.2 (qD (h5 k (by omega)) (qD (h6 k (by omega)) (qD (h7 k (by omega)) (qN (qFt hp) rfl)))))))))
  ·rw [if_neg hc]
   obtain ⟨n5,h5⟩:=qDD H hs f (.row 1) (tb q.1,q.2) ⟨by simp only [qBw];omega,by omega,by omega⟩ it trivial
   refine ⟨n1+n2+n3+n4+n5+1,fun n hn=>?_⟩
   obtain ⟨k,rfl,hm⟩:=up1 hn
   cases hp:(qA9 (BR (wd (tb q.1)))).2.2.2.2 with
   |true=>
    have ht:(sIs [58] (wr (tb q.1),q.2)).1=false:=by rw [Bool.eq_false_iff];exact fun e=>hc ⟨hp,e⟩
    have h4:=h4 k (by omega)
    have e4:qBf s (sIs [58] (wr (tb q.1),q.2)).2=(BR s,pos s (sIs [58] (wr (tb q.1),q.2)).2.1,q.2.1,q.2.2.length,q.2.2.map qU):=by unfold qBf;rw [eq2]
    rw [e4] at h4
    exact qD (h1 k (by omega)) (qD (h2 k (by omega)) (qD (h3 k (by omega)) (qN hp (qD h4 (qT ht (qD (h5 k (by omega)) rfl))))))
   |false=>exact qD (h1 k (by omega)) (qD (h2 k (by omega)) (qD (h3 k (by omega)) (qT hp (qD (h5 k (by omega)) rfl))))
theorem qLg {w:List UInt8} (h:w.all wch=true) (hn:w≠ []):(qBs (BR w)).1=1∨(qBs (BR w)).1=3:=by
 cases w with
 |nil=>exact absurd rfl hn
 |cons c t=>
  simp only [List.all_cons,Bool.and_eq_true] at h
  have h39:¬(c::t).head?=some 39:=by
   intro e;simp at e;rw [e] at h;exact absurd h.1 (by decide)
  have h35:¬(c::t).head?=some 35:=by
   intro e;simp at e;rw [e] at h;exact absurd h.1 (by decide)
  unfold qBs
  rw [qB0,if_neg h39]
  split
  ·exact .inr rfl
  ·split
   ·exact .inr rfl
   ·exact .inl rfl
theorem qMh:RdOK where
 v:=fun w h hn ho=>by
  have c:=qLg h hn
  unfold q8 at ho⊢
  split at ho
  ·rename_i hc;rw [if_pos hc];exact c
  ·cases ho
 v0:=by
  have:(q8 (BR [])).1=0:=by
   have:(q8 ⟨#[]⟩).1=0:=by decide+kernel
   exact this
  rw [this];decide
 p0:=by
  have:(qA9 ⟨#[]⟩).2.2.2.2=false:=by decide+kernel
  exact this
 f:=fun w op h=>by
  have t:∀a:Fin 10,(q8 (fnS (((a.val:Nat):Int)+1))).2.2.2=false∧(qA9 (fnS (((a.val:Nat):Int)+1))).2.2.2.2=false:=by decide+kernel
  have e:∀(k:Nat) (i:Int),1≤i→i+k≤11→qIZ w i k=some op→∃j:Int,1≤j∧j≤10∧(fnS j).toList=w:=by
   intro k
   induction k with
   |zero=>intro i _ _ h;cases h
   |succ k ih=>
    intro i h1 h2 h
    unfold qIZ at h
    split at h
    ·rename_i hq;exact ⟨i,h1,by omega,hq⟩
    ·exact ih (i+1) (by omega) (by omega) h
  obtain ⟨j,j1,j2,rfl⟩:=e 10 1 (by omega) (by omega) h
  rw [qJM]
  have:=t ⟨(j-1).toNat,by omega⟩
  simp only at this
  rwa [show (((j-1).toNat:Nat):Int)+1=j by omega] at this
 f0:=by decide+kernel
 n:=fun n hn=>by
  have c:n=1∨n=2∨n=3∨n=4∨n=5:=by omega
  rcases c with rfl|rfl|rfl|rfl|rfl
  ·exact ⟨[68,73,86,33],by decide+kernel⟩
  ·exact ⟨[84,89,80,69,33],by decide+kernel⟩
  ·exact ⟨[82,69,70,33],by decide+kernel⟩
  ·exact ⟨[79,86,69,82,33],by decide+kernel⟩
  ·exact ⟨[67,89,67,76,69,33],by decide+kernel⟩
def qK0 (s:ByteArray):PS:=(pP 4050 (.bin 1 0) (s.toList,false,[])).2
def qHM (s:ByteArray):List Nd×Bool:=
 if qDV s 200=true∧(qK0 s).2.1=false∧tb (qK0 s).1= []∧qCQ (qK0 s).2.2=true then ((qK0 s).2.2,true) else ([],false)
theorem qKD {s:ByteArray} (h:qDV s 200=true):s.toList.length≤200:=by
 unfold qDV at h
 simp only [Bool.and_eq_true,decide_eq_true_eq] at h
 rw [qAf];omega
theorem qL2 {s:ByteArray} (h:qDV s 200=true):Gd (s.toList,false,[]):=⟨by have:=qKD h;simp only;omega,by simp,fun x hx=>by cases hx⟩
theorem qF6 {l:List Nd} (h:∀x∈l,qC4 x):∀c∈l,(kd c).length≤140737488351232∧c.2.2.2.2.1.size≤140737488351232:=fun c hc=>by
 have:=h c hc
 exact ⟨by have:=this.1;omega,by have:=this.2;omega⟩
theorem qLh {l:List Nd} (h:∃x∈l,qBQ x=false):qCQ l=false:=by
 obtain ⟨x,hx,hb⟩:=h
 rw [Bool.eq_false_iff]
 intro ho
 unfold qCQ at ho
 simp only [Bool.and_eq_true] at ho
 obtain ⟨i,hi⟩:=List.mem_iff_getElem?.1 hx
 have hil:=(List.getElem?_eq_some_iff.1 hi).1
 have:=(qCG.1 ho.2.1 (i:Int) (by omega) (by omega)).1
 unfold qDN at this
 have e:ndi l (i:Int)=x:=by unfold ndi;simp [hi]
 rw [e,hb] at this
 cases this
theorem qFw (s:ByteArray) (hb:s.size≤140737488351232):Ev (qCh · s) ((qHM s).1.length,(qHM s).2,(qHM s).1.map qU):=by
 obtain ⟨n1,h1⟩:=qFF s hb
 by_cases hp:qDV s 200=true
 ·have hl:=qKD hp
  have hs:s.toList.length≤1000:=by omega
  have htb:=qAI s.toList
  have hg:=qL2 hp
  have gi:=(qEq 4050 (.bin 1 0) (s.toList,false,[]) hg trivial).1
  have sim:=(qMR qMh (tb s.toList).length).2.2.1 (s.toList,false,[]) (s.toList,false,[]) 0 4 4050 4050 (by omega) ⟨rfl,rfl,rfl,rfl⟩ rfl (by omega) (by omega) (by omega) (by omega)
  rw [show (5:Int)-((4:Nat):Int)=1 from rfl] at sim
  have iv:Iv s.toList (s.toList,false,[]):=⟨List.suffix_rfl,by simp;omega⟩
  obtain ⟨n2,h2⟩:=qDD qMh hs 4050 (.row 1) (s.toList,false,[]) ⟨by simp only;omega,by omega,by omega⟩ iv trivial
  have g:=qC5 qMh 4050 (.row 1) (s.toList,false,[]) hs trivial
  have e0:(pP 4050 (.bin 1 0) (s.toList,false,[])).2=qK0 s:=rfl
  generalize pP 4050 (.bin 1 0) (s.toList,false,[])=P at sim e0 gi
  generalize sP 4050 (.row 1) (s.toList,false,[])=Q at sim h2 g
  unfold qHM
  rw [←e0]
  obtain ⟨n3,h3⟩:=qKY hs Q.2 (iv.go g).1
  obtain ⟨n4,h4⟩:=qED Q.2.2.2 (qF6 (g.sm (fun x hx=>by cases hx)))
  have p0:pos s.toList s.toList=0:=by unfold pos;simp
  simp only [qJM,p0] at h2 h3
  have g2:=(qLA (iv.go g).1)
  refine ⟨n1+n2+n3+n4+1,fun n hn=>?_⟩
  obtain ⟨k,rfl,hm⟩:=up1 hn
  have h1:=h1 k (by omega)
  rw [hp] at h1
  have h2:=h2 k (by omega)
  have h3:=h3 k (by omega)
  have e1:qBR s.toList Q=(Q.1,s,pos s.toList Q.2.1,Q.2.2.1,Q.2.2.2.length,Q.2.2.2.map qU):=by unfold qBR qBf;rw [qJM]
  have e2:qBf s.toList (tb Q.2.1,Q.2.2)=(s,pos s.toList (tb Q.2.1),Q.2.2.1,Q.2.2.2.length,Q.2.2.2.map qU):=by unfold qBf;rw [qJM]
  rw [e1] at h2
  rw [e2] at h3
  refine qD h1 (qT rfl (qD h2 (qD h3 ?_)))
  rcases sim with ⟨_,hk,_⟩|⟨hbad,hd⟩
  ·obtain ⟨k1,k2,k3,k4⟩:=hk
   rw [k1,k3,k4]
   refine qT k2 ?_
   by_cases hr:tb Q.2.1= []
   ·refine qT (decide_eq_false (show ¬pos s.toList (tb Q.2.1)<(s.size:Int) by rw [hr];unfold pos;simp [qAf])) (qN (decide_eq_true (by simp)) (qD (h4 k (by omega)) (qN (qE _) ?_)))
    cases ho:qCQ Q.2.2.2 with
    |true=>
     rw [if_pos ⟨hp,rfl,hr,rfl⟩]
     exact qT rfl rfl
    |false=>
     rw [if_neg (fun h=>by cases h.2.2.2)]
     exact qN rfl rfl
   ·rw [if_neg (fun h=>hr h.2.2.1)]
    have hlp:=List.length_pos_iff.2 hr
    have hsl:=qB1 g2
    exact qN (decide_eq_true (show pos s.toList (tb Q.2.1)<(s.size:Int) by rw [qAf] at hsl;unfold pos;rw [qAf];omega)) rfl
  ·rw [if_neg (fun h=>by
    rcases hd with hd|hd
    ·rw [hd] at h;cases h.2.1
    ·rw [qLh hd] at h;cases h.2.2.2)]
   exact qN hbad rfl
 ·refine ⟨n1+1,fun n hn=>?_⟩
  obtain ⟨k,rfl,hm⟩:=up1 hn
  unfold qHM
  rw [if_neg (fun h=>hp h.1)]
  exact qD (h1 k (by omega)) (qN (qFt (by rw [Bool.eq_false_iff];exact hp)) rfl)
theorem qL3 (s:ByteArray):(qHM s).1.length≤60∧∀x∈(qHM s).1,qC4 x:=by
 unfold qHM
 split
 ·rename_i h
  have g:=(qEq 4050 (.bin 1 0) (s.toList,false,[]) (qL2 h.1) trivial).1
  exact ⟨g.n,g.s⟩
 ·exact ⟨by simp,fun x hx=>by cases hx⟩
def Fo (r:List UInt8):Prop:=∀c,r.head?=some c→c∈([38,43,45,42,47,60,61,62,41,44]:List UInt8)
def Sta (r:List UInt8):Prop:=∃c,r.head?=some c∧(wch c=true∨c=45∨c=40∨c=34∨c=35)
def lo (l:List Nd) (i:Int):Int:=qBe (qX l) (i.toNat+1) i
def tx (l:List Nd) (g:Nat) (i t:Int):List UInt8:=(qKr l g i t).toList
structure RT (l:List Nd) (g:Nat) (i:Int):Prop where
 s:∀t,Sta (tx l g i t)
 c:∀(t:Int) (r:List UInt8),Fo r→∀d:UInt8,(d=58∨d=32)→(wr (tx l g i t++r)).head?≠some d
 u:∀(r:List UInt8) (deep:Int) (f:Nat),Fo r→0≤deep→deep+g≤400→20*(tx l g i 5++r).length+4≤f→pP f (.un deep) (tx l g i 5++r,false,l.take (lo l i).toNat)=(i,r,false,l.take (i.toNat+1))
 b:∀(t t':Int) (r:List UInt8) (deep:Int) (f:Nat),1≤t→t≤t'→t'≤5→Fo r→(qBD r=0∨lvl (qBD r)≤t')→0≤deep→deep+g≤400→20*(tx l g i t'++r).length+6≤f→
  ∃f2,20*r.length+5≤f2∧pP f (.bin t deep) (tx l g i t'++r,false,l.take (lo l i).toNat)=pP f2 (.loop t deep i) (r,false,l.take (i.toNat+1))
def Dwx {β:Type} (Q:β→Prop) (R:Nat→Tr β):Prop:=∃x,Q x∧Ev (fun n=>(R n).run) x
theorem qe {α β:Type} {Q:β→Prop} {F:Nat→Option α} {r:α} {K:Nat→α→Tr β} (h:Ev F r) (hk:Dwx Q fun n=>K n r):Dwx Q fun n=> .opt (F n) (K n):=by
 obtain ⟨x,q,n1,h1⟩:=hk
 obtain ⟨n0,h0⟩:=h
 exact ⟨x,q,n0+n1,fun n hn=>qD (h0 n (by omega)) (h1 n (by omega))⟩
theorem qw {β:Type} {Q:β→Prop} {b:Bool} {t e:Nat→Tr β} (h:b=true) (hk:Dwx Q t):Dwx Q fun n=> .ask b (t n) (e n):=by
 obtain ⟨x,q,n1,h1⟩:=hk
 exact ⟨x,q,n1,fun n hn=>qN h (h1 n hn)⟩
theorem qAS {β:Type} {Q:β→Prop} {b:Bool} {t e:Nat→Tr β} (h:b=false) (hk:Dwx Q e):Dwx Q fun n=> .ask b (t n) (e n):=by
 obtain ⟨x,q,n1,h1⟩:=hk
 exact ⟨x,q,n1,fun n hn=>qT h (h1 n hn)⟩
theorem qB2 {α β:Type} {Q:β→Prop} {o:Option α} {r:α} {K:Nat→α→Tr β} (h:o=some r) (hk:Dwx Q fun n=>K n r):Dwx Q fun n=> .opt o (K n):=by
 obtain ⟨x,q,n1,h1⟩:=hk
 exact ⟨x,q,n1,fun n hn=>qD h (h1 n hn)⟩
theorem qa {β:Type} {Q:β→Prop} {x:β} (h:Q x):Dwx Q fun _=> .done x:=⟨x,h,0,fun _ _=>rfl⟩
theorem qB3 {β:Type} {Q:β→Prop} {F:Nat→Option β} {R:Nat→Tr β} (h:Dwx Q R) (hF:∀n,F (n+1)=(R n).run):∃x,Q x∧Ev F x:=by
 obtain ⟨x,q,n1,h1⟩:=h
 refine ⟨x,q,n1+1,fun n hn=>?_⟩
 obtain ⟨m,rfl,hm⟩:=up1 hn
 rw [hF]
 exact h1 m hm
theorem qDY {β:Type} {F:Nat→Option β} {x:β} (h:∃y,y=x∧Ev F y):Ev F x:=by
 obtain ⟨y,rfl,h⟩:=h
 exact h
theorem qA5 {x y:ByteArray} {a b:Nat} (hx:x.size≤a) (hy:y.size≤b):(x++y).size≤a+b:=by rw [ByteArray.size_append];omega
theorem fit {x y:ByteArray} {a b:Nat} (hx:x.size≤a) (hy:y.size≤b) (h:a+b≤9000000000000000000):decide (x.size+y.size≤9223372036854775807)=true:=decide_eq_true (by omega)
abbrev Drn (l:List (List PV)) {α:Type} (P:α→Prop) (x:α×List (List PV)×Int):Prop:=x.2.1=l∧(0≤x.2.2∧x.2.2≤l.length)∧P x.1
def qLQ (n:Nat) (l:List (List PV)) (p:Int):Tr (ByteArray×List (List PV)×Int):= .opt (qo n l p) fun r11=> .opt (qR n (5:Int) r11.2.2.1 r11.2.2.2) fun r13=> .opt (qR n (5:Int) r13.2.1 r13.2.2) fun r14=> .opt (qZ n r11.1 r11.2.1 r13.1 r14.1) fun r30=> .done (r30,r14.2.1,r14.2.2)
theorem qJT {l:List (List PV)} {p:Int} (hl:qFh l) (hp:0≤p∧p≤l.length):Dwx (Drn l fun t:ByteArray=>t.size≤1000) fun n=>qLQ n l p:=by
 obtain ⟨a,b,p1,h1,h2⟩:=qKN hl hp
 obtain ⟨fc,p2,h3,h4⟩:=qDJ 5 (by decide) hl h1
 obtain ⟨fr,p3,h5,h6⟩:=qDJ 5 (by decide) hl h3
 refine qe (qBa h2) (qe (qBa h4) (qe (qBa h6) (qe (qC1 a b fc fr) (qa ⟨rfl,h5,?_⟩))))
 have:=qFl a b fc fr
 dsimp only
 omega
def qM1 (n:Nat) (l:List (List PV)) (p:Int):Tr (ByteArray×List (List PV)×Int):= .opt (qO n (7:Int) l p) fun r8=> .ask (r8.1==(0:Int)) (qLQ n r8.2.1 r8.2.2) (.ask (r8.1==(1:Int)) (qLQ n r8.2.1 r8.2.2) (.ask (r8.1==(2:Int)) (qLQ n r8.2.1 r8.2.2) (.ask (r8.1==(3:Int))
 (.opt (qO n (6:Int) r8.2.1 r8.2.2) fun r39=>(.ask (decide (6=([[(.s (⟨#[34,97,34]⟩:ByteArray))],[(.s (⟨#[34,34]⟩:ByteArray))],[(.s (⟨#[84,82,85,69]⟩:ByteArray))],[(.s (⟨#[70,65,76,83,69]⟩:ByteArray))],[(.s (⟨#[35,82,69,70,33]⟩:ByteArray))],[(.s (⟨#[34,113,34,34,34]⟩:ByteArray))]]:List (List PV)).length∧0≤r39.1∧r39.1<((6:Nat):Int))) (.opt (([[(.s (⟨#[34,97,34]⟩:ByteArray))],[(.s (⟨#[34,34]⟩:ByteArray))],[(.s (⟨#[84,82,85,69]⟩:ByteArray))],[(.s (⟨#[70,65,76,83,69]⟩:ByteArray))],[(.s (⟨#[35,82,69,70,33]⟩:ByteArray))],[(.s (⟨#[34,113,34,34,34]⟩:ByteArray))]]:List (List PV))[(r39.1).toNat]?) fun e40=>(.opt (z8 e40 0) fun y41=>(.done (y41,r39.2.1,r39.2.2)))) .fail))
 (.opt (qO n (12:Int) r8.2.1 r8.2.2) fun r42=>(.opt (qy n r42.1) fun r43=>(.done (r43,r42.2.1,r42.2.2)))))))
theorem qK1 {l:List (List PV)} {p:Int} (hl:qFh l) (hp:0≤p∧p≤l.length):Dwx (Drn l fun t:ByteArray=>t.size≤1000) fun n=>qM1 n l p:=by
 obtain ⟨a,p1,h1,ha,h2⟩:=qBG 7 (by decide) hl hp
 refine qe (qBa h2) ?_
 have c:a=0∨a=1∨a=2∨a=3∨¬(a=0∨a=1∨a=2∨a=3):=by omega
 rcases c with rfl|rfl|rfl|rfl|c
 ·exact qw rfl (qJT hl h1)
 ·exact qAS rfl (qw rfl (qJT hl h1))
 ·exact qAS rfl (qAS rfl (qw rfl (qJT hl h1)))
 ·refine qAS rfl (qAS rfl (qAS rfl (qw rfl ?_)))
  obtain ⟨b,p2,h3,hb,h4⟩:=qBG 6 (by decide) hl h1
  refine qe (qBa h4) ?_
  have c:b=0∨b=1∨b=2∨b=3∨b=4∨b=5:=by omega
  rcases c with rfl|rfl|rfl|rfl|rfl|rfl<;>exact qw rfl (qB2 rfl (qB2 rfl (qa ⟨rfl,h3,by dsimp only;decide⟩)))
 ·refine qAS (beq_eq_false_iff_ne.2 (by dsimp only;omega)) (qAS (beq_eq_false_iff_ne.2 (by dsimp only;omega)) (qAS (beq_eq_false_iff_ne.2 (by dsimp only;omega)) (qAS (beq_eq_false_iff_ne.2 (by dsimp only;omega)) ?_)))
  obtain ⟨b,p2,h3,hb,h4⟩:=qBG 12 (by decide) hl h1
  refine qe (qBa h4) (qe (qGS b (by omega)) (qa ⟨rfl,h3,?_⟩))
  have:=qLX (x:=b) (by omega)
  dsimp only
  omega
theorem qK2 {l:List (List PV)} (hl:qFh l):∀(d:Nat),d≤9→∀{p:Int},(0≤p∧p≤l.length)→∃(t:ByteArray) (p':Int),(0≤p'∧p'≤l.length)∧t.size≤1000*4^d∧Ev (fun n=>qr n (d:Int) l p) (t,l,p')
 |0,_,p,hp=>by
  obtain ⟨⟨t,l',p'⟩,⟨rfl,h1,h2⟩,h3⟩:=qB3 (F:=fun n=>qr n ((0:Nat):Int) l p) (R:=fun n=>qBT (qr n) n ((0:Nat):Int) l p) (qw rfl (qK1 hl hp)) fun n=>rfl
  exact ⟨t,p',h1,by simpa using h2,h3⟩
 |d+1,hd,p,hp=>by
  have ih:=fun {p:Int} (hp:0≤p∧p≤l.length)=>qK2 hl d (by omega) (p:=p) hp
  have hb:1000≤1000*4^d:=Nat.le_mul_of_pos_right _ (Nat.pow_pos (by decide))
  have hb9:1000*4^d≤300000000:=by
   have:4^d≤4^9:=Nat.pow_le_pow_right (by decide) (by omega)
   have e:4^9=262144:=by decide
   omega
  have he:1000*4^(d+1)=4*(1000*4^d):=by rw [Nat.pow_succ];omega
  rw [he]
  generalize 1000*4^d=B at ih hb hb9
  have hw:IntKind.i64.wrap (((d+1:Nat):Int)-(1:Int))=(d:Int):=by rw [qY (by omega)];omega
  have key:Dwx (Drn l fun t:ByteArray=>t.size≤4*B) fun n=>qBT (qr n) n ((d+1:Nat):Int) l p:=by
   unfold qBT
   rw [hw]
   refine qAS (beq_eq_false_iff_ne.2 (by omega)) ?_
   obtain ⟨o,p1,h1,h2⟩:=qDJ 3 (by decide) hl hp
   refine qe (qBa h2) ?_
   cases o with
   |true=>
    obtain ⟨⟨t,l',p'⟩,⟨rfl,g1,g2⟩,g3⟩:=qK1 hl h1
    refine qw rfl ⟨(t,l',p'),⟨rfl,g1,?_⟩,g3⟩
    dsimp only at g2⊢
    omega
   |false=>
    refine qAS rfl ?_
    obtain ⟨a,p2,h3,ha,h4⟩:=qBG 8 (by decide) hl h1
    refine qe (qBa h4) ?_
    have one:(⟨#[45]⟩:ByteArray).size≤9∧(⟨#[40]⟩:ByteArray).size≤9∧(⟨#[41]⟩:ByteArray).size≤9∧(⟨#[44]⟩:ByteArray).size≤9∧(⟨#[58]⟩:ByteArray).size≤9∧(⟨#[73,70,40]⟩:ByteArray).size≤9:=by decide
    obtain ⟨o1,o2,o3,o4,o5,o6⟩:=one
    have areaG:∀{K:Nat→Int×List (List PV)×Int→Int→Int→Int→Int→Tr (ByteArray×List (List PV)×Int)},(∀(u:ByteArray) (a b c d q:Int),u.size≤9→True)→True:=fun _=>trivial
    have c:a=0∨a=1∨(a=2∨a=3)∨a=4∨a=5∨¬(a=0∨a=1∨a=2∨a=3∨a=4∨a=5):=by omega
    rcases c with rfl|rfl|c|rfl|rfl|c
    ·refine qw rfl ?_
     obtain ⟨t,p3,g1,g2,g3⟩:=ih h3
     exact qe g3 (qw (fit o1 g2 (by omega)) (qa ⟨rfl,g1,Nat.le_trans (qA5 o1 g2) (by omega)⟩))
    ·refine qAS rfl (qw rfl ?_)
     obtain ⟨t,p3,g1,g2,g3⟩:=ih h3
     exact qe g3 (qw (fit o2 g2 (by omega)) (qw (fit (qA5 o2 g2) o3 (by omega)) (qa ⟨rfl,g1,Nat.le_trans (qA5 (qA5 o2 g2) o3) (by omega)⟩)))
    ·obtain ⟨a1,a2,a3,a4,p3,g1,g2⟩:=qMA hl h3
     obtain ⟨b,p4,g3,hb',g4⟩:=qBG 6 (by decide) hl g1
     have z1:=qFl a1 a2 false false
     have z2:=qFl a3 a4 false false
     obtain ⟨t,p5,g5,g6,g7⟩:=ih g3
     have fin:∀(u:ByteArray),u.size≤9→Dwx (Drn l fun t:ByteArray=>t.size≤4*B) fun n=>(.ask (decide (u.size+(⟨#[40]⟩:ByteArray).size≤9223372036854775807)) (.opt (qZ n a1 a2 false false) fun r83=>(.ask (decide ((u++(⟨#[40]⟩:ByteArray)).size+r83.size≤9223372036854775807)) (.ask (decide (((u++(⟨#[40]⟩:ByteArray))++r83).size+(⟨#[58]⟩:ByteArray).size≤9223372036854775807)) (.opt (qZ n a3 a4 false false) fun r84=>(.ask (decide ((((u++(⟨#[40]⟩:ByteArray))++r83)++(⟨#[58]⟩:ByteArray)).size+r84.size≤9223372036854775807)) (.ask (decide (((((u++(⟨#[40]⟩:ByteArray))++r83)++(⟨#[58]⟩:ByteArray))++r84).size+(⟨#[44]⟩:ByteArray).size≤9223372036854775807)) (.opt (qr n (d:Int) l p4) fun r85=>(.ask (decide ((((((u++(⟨#[40]⟩:ByteArray))++r83)++(⟨#[58]⟩:ByteArray))++r84)++(⟨#[44]⟩:ByteArray)).size+r85.1.size≤9223372036854775807)) (.ask (decide (((((((u++(⟨#[40]⟩:ByteArray))++r83)++(⟨#[58]⟩:ByteArray))++r84)++(⟨#[44]⟩:ByteArray))++r85.1).size+(⟨#[41]⟩:ByteArray).size≤9223372036854775807)) (.done ((((((((u++(⟨#[40]⟩:ByteArray))++r83)++(⟨#[58]⟩:ByteArray))++r84)++(⟨#[44]⟩:ByteArray))++r85.1)++(⟨#[41]⟩:ByteArray)),r85.2.1,r85.2.2)) .fail) .fail)) .fail) .fail)) .fail) .fail)) .fail:Tr (ByteArray×List (List PV)×Int)):=fun u hu=>by
      have s1:=qA5 hu o2
      have s2:=qA5 s1 z1
      have s3:=qA5 s2 o5
      have s4:=qA5 s3 z2
      have s5:=qA5 s4 o4
      have s6:=qA5 s5 g6
      exact qw (fit hu o2 (by omega)) (qe (qC1 a1 a2 false false) (qw (fit s1 z1 (by omega)) (qw (fit s2 o5 (by omega)) (qe (qC1 a3 a4 false false) (qw (fit s3 z2 (by omega)) (qw (fit s4 o4 (by omega)) (qe g7 (qw (fit s5 g6 (by omega)) (qw (fit s6 o3 (by omega)) (qa ⟨rfl,g5,Nat.le_trans (qA5 s6 o3) (by omega)⟩))))))))))
     have cb:b=0∨b=1∨b=2∨b=3∨b=4∨b=5:=by omega
     rcases c with rfl|rfl
     ·refine qAS rfl (qAS rfl (qw rfl (qe (qBa g2) (qe (qBa g4) ?_))))
      rcases cb with rfl|rfl|rfl|rfl|rfl|rfl<;>exact qw rfl (qB2 rfl (qB2 rfl (fin _ (by decide))))
     ·refine qAS rfl (qAS rfl (qAS rfl (qw rfl (qe (qBa g2) (qe (qBa g4) ?_)))))
      rcases cb with rfl|rfl|rfl|rfl|rfl|rfl<;>exact qw rfl (qB2 rfl (qB2 rfl (fin _ (by decide))))
    ·refine qAS rfl (qAS rfl (qAS rfl (qAS rfl (qw rfl ?_))))
     obtain ⟨t1,p3,g1,g2,g3⟩:=ih h3
     obtain ⟨t2,p4,g4,g5,g6⟩:=ih g1
     obtain ⟨t3,p5,g7,g8,g9⟩:=ih g4
     have s1:=qA5 o6 g2
     have s2:=qA5 s1 o4
     have s3:=qA5 s2 g5
     have s4:=qA5 s3 o4
     have s5:=qA5 s4 g8
     exact qe g3 (qw (fit o6 g2 (by omega)) (qw (fit s1 o4 (by omega)) (qe g6 (qw (fit s2 g5 (by omega)) (qw (fit s3 o4 (by omega)) (qe g9 (qw (fit s4 g8 (by omega)) (qw (fit s5 o3 (by omega)) (qa ⟨rfl,g7,Nat.le_trans (qA5 s5 o3) (by omega)⟩)))))))))
    ·refine qAS rfl (qAS rfl (qAS rfl (qAS rfl (qAS rfl (qw rfl ?_)))))
     obtain ⟨b,p3,g1,hb',g2⟩:=qBG 3 (by decide) hl h3
     obtain ⟨t,p4,g4,g5,g6⟩:=ih g1
     refine qe (qBa g2) ?_
     have cb:b=0∨b=1∨b=2:=by omega
     rcases cb with rfl|rfl|rfl<;>exact qw rfl (qB2 rfl (qB2 rfl (qw (fit (a:=9) (by decide) o2 (by omega)) (qe g6 (qw (fit (qA5 (a:=9) (by decide) o2) g5 (by omega)) (qw (fit (qA5 (qA5 (a:=9) (by decide) o2) g5) o3 (by omega)) (qa ⟨rfl,g4,Nat.le_trans (qA5 (qA5 (qA5 (a:=9) (by decide) o2) g5) o3) (by omega)⟩)))))))
    ·have ne:∀{x:Int},a≠x→(a==x)=false:=fun h=>beq_eq_false_iff_ne.2 h
     refine qAS (ne (by omega)) (qAS (ne (by omega)) (qAS (ne (by omega)) (qAS (ne (by omega)) (qAS (ne (by omega)) (qAS (ne (by omega)) ?_)))))
     obtain ⟨t1,p3,g1,g2,g3⟩:=ih h3
     obtain ⟨b,p4,g4,hb',g5⟩:=qBG 11 (by decide) hl g1
     obtain ⟨t2,p5,g7,g8,g9⟩:=ih g4
     have w1:IntKind.i64.wrap ((1:Int)+b)=1+b:=qY (by omega)
     have z:=qK8 (op:=1+b) (by omega)
     refine qe g3 (qe (qBa g5) ?_)
     dsimp only
     rw [w1]
     exact qe (qFp (1+b) (by omega)) (qw (fit g2 z (by omega)) (qe g9 (qw (fit (qA5 g2 z) g8 (by omega)) (qa ⟨rfl,g7,Nat.le_trans (qA5 (qA5 g2 z) g8) (by omega)⟩))))
  obtain ⟨⟨t,l',p'⟩,⟨rfl,h1,h2⟩,h3⟩:=qB3 (F:=fun n=>qr n ((d+1:Nat):Int) l p) key fun n=>rfl
  exact ⟨t,p',h1,h2,h3⟩
theorem qH0 (l:List Int) (hb:l.length≤140737488351232):∀n,l.length+5≤n→qB5 n (l.map qAZ) (l.map qAZ)=some true:=by
 intro n hn
 obtain ⟨m,rfl,hm⟩:=up1 hn
 simp only [qB5,qDU,qA,qC,qF,qG,qH,qJ,Option.bind_some,qE,qK,qM]
 have h:=qKL (B:=qBO m) (rows:=l.map qAZ) (r:= .inr ())
  (fun i e he=>by
   obtain ⟨c,hc,rfl⟩:=qLo he
   have hi:i<l.length:=(List.getElem?_eq_some_iff.1 hc).1
   have hi':(i:Int)<l.length:=by omega
   have hw:IntKind.i64.wrap ((i:Int)+1)=(i:Int)+1:=qY (by omega)
   simp [qBO,qA,qC,qF,qG,qH,qJ,Option.bind_some,qE,qK,qM,hi',hc,qAZ,zC,hw])
  (by simp [qBO,qA,qC,qF,qG,qH,qJ,Option.bind_some,qE,qK,qM]) l.length 0 m (by simp) (by omega)
 simp only [Int.natCast_zero] at h
 simp [h,qA,qC,qF,qG,qH,qJ,Option.bind_some,qE,qK,qM]
theorem qHN (l:List Nd) (hb:l.length≤140737488351232) (hk:∀c∈l,(kd c).length≤140737488351232):Ev (qAV · (l.map qU) (l.map qU)) true:=by
 obtain ⟨n0,h0⟩:=qA0 (F:=fun c n=>qB5 n ((kd c).map qAZ) ((kd c).map qAZ)) (f:=fun _=>true) l fun c hc=>⟨_,qH0 (kd c) (hk c hc)⟩
 refine ⟨n0+l.length+5,fun n hn=>?_⟩
 obtain ⟨m,rfl,hm⟩:=up1 hn
 have h:=qKL (B:=qCX m) (rows:=l.map qU) (r:= .inr ())
  (fun i e he=>by
   rw [List.getElem?_map] at he
   obtain ⟨c,hc,rfl⟩:=Option.map_eq_some_iff.1 he
   have hi:i<l.length:=(List.getElem?_eq_some_iff.1 hc).1
   have hw:IntKind.i64.wrap ((i:Int)+1)=((i+1:Nat):Int):=by rw [qY (by omega)];omega
   have hg:(l.map qU)[((i:Nat):Int).toNat]?=some (qU c):=by rw [Int.toNat_natCast,List.getElem?_map,hc];rfl
   have hc':(0:Int)≤(i:Int)∧(i:Int)<(l.map qU).length:=by simp;omega
   refine qN (decide_eq_true (by simpa using hi)) (qN (decide_eq_true hc') (qD hg (qN rfl ?_)))
   iterate 14 refine qD rfl ?_
   refine qN (decide_eq_true hc') (qD hg (qN rfl ?_))
   iterate 14 refine qD rfl ?_
   refine qT (bne_self_eq_false' _) (qT (bne_self_eq_false' _) (qT (by simp) (qT (by simp) (qT (by simp) (qD (h0 m (by omega) c (List.mem_of_getElem? hc)) (qT rfl ?_))))))
   show some _=some _
   rw [hw])
  (qT (by simp) rfl) l.length 0 m (by simp) (by omega)
 simp only [Int.natCast_zero] at h
 exact qT (by simp) (qD h rfl)
def qK3 {α R:Type} (f:Nat→α→Option R):Nat→List α→Option R
 |_,[]=>none
 |i,a::r=>match f i a with
  |some x=>some x
  |none=>qK3 f (i+1) r
theorem qMV {V R α:Type} {B:V→Tr (V⊕R)} (st:Nat→V) (l:List α) (f:Nat→α→Option R) (z:R) (hs:∀i a,l[i]?=some a→(B (st i)).run=some (match f i a with|some r=> .inr r|none=> .inl (st (i+1))))
  (he:(B (st l.length)).run=some (.inr z)):∀(M:Nat),l.length+1≤M→zF B M (st 0)=some ((qK3 f 0 l).getD z):=by
 have key:∀(r:List α) (i M:Nat),l.drop i=r→i+r.length=l.length→r.length+1≤M→zF B M (st i)=some ((qK3 f i r).getD z):=by
  intro r
  induction r with
  |nil=>
   intro i M h1 h2 h3
   obtain ⟨M,rfl⟩:∃q,M=q+1:=⟨M-1,by omega⟩
   have e:i=l.length:=by simpa using h2
   subst e
   rw [qP he]
   rfl
  |cons a r ih=>
   intro i M h1 h2 h3
   obtain ⟨M,rfl⟩:∃q,M=q+1:=⟨M-1,by omega⟩
   have hg:l[i]?=some a:=by rw [←List.head?_drop,h1];rfl
   have hd:l.drop (i+1)=r:=by rw [←List.tail_drop,h1];rfl
   have h4:=hs i a hg
   simp only [List.length_cons] at h2 h3
   unfold qK3
   cases hf:f i a with
   |some x=>rw [hf] at h4;rw [qP h4];rfl
   |none=>rw [hf] at h4;rw [qb h4];exact ih (i+1) M hd (by omega) (by omega)
 exact fun M h=>key l 0 M rfl (by omega) h
theorem qJU {i:Nat} {k:Int} {l:List (List PV)} {e:List PV} (hk:k=(i:Int)) (h:l[i]?=some e):decide (0≤k∧k<l.length)=true∧l[k.toNat]?=some e:=by
 subst hk
 have:=(List.getElem?_eq_some_iff.1 h).1
 exact ⟨decide_eq_true (by omega),by rw [Int.toNat_natCast];exact h⟩
theorem qM2 (c:Nd) (x:Int):zX (qU c) 1 [.i .i64 x]=qU (c.1,x,c.2.2):=rfl
theorem qMW (c:Nd) (x:Int):zX (qU c) 0 [.i .i64 x]=qU (x,c.2):=rfl
theorem qM9 (c:Nd) (a b:Int) (p q:Bool):zX (qU c) 5 [.i .i64 a,.i .i64 b,.b p,.b q]=qU (c.1,c.2.1,c.2.2.1,c.2.2.2.1,c.2.2.2.2.1,a,b,p,q,c.2.2.2.2.2.2.2.2.2):=rfl
def DrF (l:List (List PV)) (x:List (List PV)×List (List PV)×Int):Prop:=∃f:List Nd,(f.length≤60∧∀c∈f,qC4 c)∧x.1=f.map qU∧x.2.1=l∧(0≤x.2.2∧x.2.2≤l.length)
theorem qLB {l:List (List PV)} (hl:qFh l) {p:Int} (hp:0≤p∧p≤l.length):∃(f:List Nd) (p':Int),(0≤p'∧p'≤l.length)∧(f.length≤60∧∀c∈f,qC4 c)∧Ev (fun n=>qBg n l p) (f.map qU,l,p'):=by
 have key:Dwx (DrF l) fun n=>qCV n l p:=by
  obtain ⟨t,p1,h1,h2,h3⟩:=qK2 hl 3 (by decide) hp
  have h2:t.size≤64000:=h2
  obtain ⟨o,p2,g1,g2⟩:=qDJ 30 (by decide) hl h1
  have g:=qL3 t
  refine qe h3 (qe (qFw t (by omega)) (qe (qBa g2) ?_))
  dsimp only
  generalize (qHM t).1=f at g⊢
  have eL:decide ((f.length:Nat)=(f.map qU).length)=true:=decide_eq_true (by simp)
  have same:∀{p:Int},(0≤p∧p≤l.length)→Dwx (DrF l) fun n=>(.ask (decide ((f.length:Nat)=(f.map qU).length)) (.done (f.map qU,l,p)) .fail:Tr (List (List PV)×List (List PV)×Int)):=fun hp=>qw eL (qa ⟨f,g,rfl,rfl,hp⟩)
  cases o with
  |false=>exact qAS rfl (same g1)
  |true=>
   refine qw rfl ?_
   by_cases hz:f.length=0
   ·exact qAS (decide_eq_false (by omega)) (same g1)
   refine qw (decide_eq_true (by omega)) ?_
   obtain ⟨i,p3,k1,ki,k2⟩:=qLe (f.length:Int) (by have:=g.1;omega) hl g1
   obtain ⟨b,p4,m1,mb,m2⟩:=qBG 3 (by decide) hl k1
   refine qe (qBa k2) (qe (qBa m2) ?_)
   dsimp only
   obtain ⟨c,hc⟩:∃c,f[i.toNat]?=some c:=⟨_,List.getElem?_eq_getElem (by omega)⟩
   have ix:decide ((f.length:Nat)=(f.map qU).length∧0≤i∧i<((f.length:Nat):Int))=true:=decide_eq_true ⟨by simp,by omega,by omega⟩
   have hg:(f.map qU)[i.toNat]?=some (qU c):=by rw [List.getElem?_map,hc];rfl
   have hcs:=g.2 c (List.mem_of_getElem? hc)
   have fin:∀(e:List PV) (c':Nd),qC4 c'→e=qU c'→∀{p:Int},(0≤p∧p≤l.length)→Dwx (DrF l) fun n=>(.ask (decide ((f.length:Nat)=((f.map qU).set i.toNat e).length)) (.done ((f.map qU).set i.toNat e,l,p)) .fail:Tr (List (List PV)×List (List PV)×Int)):=fun e c' hs he p hp=>by
    subst he
    refine qw (decide_eq_true (by simp)) (qa ⟨f.set i.toNat c',⟨by simpa using g.1,fun x hx=>?_⟩,by rw [List.map_set],rfl,hp⟩)
    rcases List.mem_or_eq_of_mem_set hx with hx|rfl
    ·exact g.2 x hx
    ·exact hs
   have cb:b=0∨b=1∨b=2:=by omega
   rcases cb with rfl|rfl|rfl
   ·obtain ⟨x,p5,q1,_,q2⟩:=qGi 0 11 (by decide) hl m1
    exact qw rfl (qe (qBa q2) (qw ix (qB2 hg (qw rfl (fin _ _ (by exact hcs) (qM2 c x) q1)))))
   ·obtain ⟨x,p5,q1,_,q2⟩:=qGi 1 6 (by decide) hl m1
    exact qAS rfl (qw rfl (qe (qBa q2) (qw ix (qB2 hg (qw rfl (fin _ _ (by exact hcs) (qMW c x) q1))))))
   ·obtain ⟨a,b,u,v,p5,q1,q2⟩:=qLn hl m1
    exact qAS rfl (qAS rfl (qw rfl (qe (qBa q2) (qw ix (qB2 hg (qw rfl (fin _ _ (by exact hcs) (qM9 c a b u v) q1)))))))
 obtain ⟨⟨x,l',p'⟩,⟨f,h1,h2,h3,h4⟩,h5⟩:=qB3 (F:=fun n=>qBg n l p) key fun n=>rfl
 dsimp only at h2 h3 h4
 subst h2;subst h3
 exact ⟨f,p',h4,h1,h5⟩
theorem qJV (l:List Int) (hb:l.length≤1000000):Ev (qf · (l.map qAZ)) (l.map qAZ):=by
 refine qDY (qB3 (R:=fun n=>qBN n (l.map qAZ)) (qw (decide_eq_true ⟨rfl,by decide,by decide,by simp;omega,by simp [qAZ]⟩) (qw (decide_eq_true (by simp)) (qw ?_ (qa rfl)))) fun n=>rfl)
 cases l with
 |nil=>rfl
 |cons a r=>rfl
theorem qK4 {α β:Type} {g:α→β} {l:List α} {i:Nat} {a:α} (h:l[i]?=some a):(l.take (i+1)).map g=(l.take i).map g++ [g a]:=by
 rw [List.take_add_one,h,List.map_append]
 rfl
theorem qCd {m:Nat} {acc:List (List PV)} {e:List PV} (hm:m=acc.length) (hb:m≤1000) (he:e.length=14):decide (m=acc.length∧0<14∧0<120∧(m+ [e].length)*120≤140737488355328∧ [e].all (fun e=>e.length==14)=true)=true:=decide_eq_true ⟨hm,by decide,by decide,by simp;omega,by simp [he]⟩
theorem qMi {α β γ:Type} {Q:α→Prop} {x:γ} {K:Nat→β→Tr α} {L:Nat→γ→Tr α} (h:Dwx Q fun n=>L n x):Dwx Q fun n=> .alt (Sum.inr x) (K n) (L n):=h
theorem qDc {α R:Type}:∀(l:List α) (i:Nat),qK3 (fun (_:Nat) (_:α)=>(none:Option R)) i l=none
 | [],i=>rfl
 |a::l,i=>qDc l (i+1)
def qL4:Nd:=(1,0,4,3,em,0,0,false,false,0,0,false,false,[])
def plB (c:Nd):Bool:=if c.1=2 then qA3 c.2.2.2.2.2.1 c.2.2.2.2.2.2.1 else if c.1=3 then qCF c.2.2.2.2.2.1 c.2.2.2.2.2.2.1 c.2.2.2.2.2.2.2.2.2.1 c.2.2.2.2.2.2.2.2.2.2.1 else true
def qMX (c:Nd):Int×Int×Int×Int×ByteArray×Int×Int×Bool×Bool×Int×Int×Bool×Bool×List (List PV):=(c.1,c.2.1,c.2.2.1,c.2.2.2.1,c.2.2.2.2.1,c.2.2.2.2.2.1,c.2.2.2.2.2.2.1,c.2.2.2.2.2.2.2.1,c.2.2.2.2.2.2.2.2.1,c.2.2.2.2.2.2.2.2.2.1,c.2.2.2.2.2.2.2.2.2.2.1,c.2.2.2.2.2.2.2.2.2.2.2.1,c.2.2.2.2.2.2.2.2.2.2.2.2.1,(kd c).map qAZ)
def chN (f:Nd→Nd) (c:Nd):Nd:=if c.1=2∨c.1=3 then (if plB (f c)=true then f c else qL4) else c
theorem qK5 (a b:Int):qCF a b a b=qA3 a b:=by
 unfold qCF
 rw [decide_eq_true (Int.le_refl a),decide_eq_true (Int.le_refl b)]
 cases qA3 a b<;>rfl
theorem qJW (c:Nd):Ev (qW · c.1 c.2.1 c.2.2.1 c.2.2.2.1 c.2.2.2.2.1 c.2.2.2.2.2.1 c.2.2.2.2.2.2.1 c.2.2.2.2.2.2.2.1 c.2.2.2.2.2.2.2.2.1 c.2.2.2.2.2.2.2.2.2.1 c.2.2.2.2.2.2.2.2.2.2.1 c.2.2.2.2.2.2.2.2.2.2.2.1 c.2.2.2.2.2.2.2.2.2.2.2.2.1 ((kd c).map qAZ)) (plB c):=by
 obtain ⟨k,op,ck,cn,cs,ac,ar,af,ag,bc,br,bf,bg,ks⟩:=c
 have ar2:k=2→Ev (q7 · k op ck cn cs ac ar af ag bc br bf bg (ks.map qAZ)) (ac,ar,ac,ar):=fun h=>qDY (qB3 (R:=fun n=>qA7 n k op ck cn cs ac ar af ag bc br bf bg (ks.map qAZ)) (qw (beq_iff_eq.2 h) (qa rfl)) fun n=>rfl)
 have ar3:k≠2→Ev (q7 · k op ck cn cs ac ar af ag bc br bf bg (ks.map qAZ)) (ac,ar,bc,br):=fun h=>qDY (qB3 (R:=fun n=>qA7 n k op ck cn cs ac ar af ag bc br bf bg (ks.map qAZ)) (qAS (beq_eq_false_iff_ne.2 h) (qa rfl)) fun n=>rfl)
 refine qDY (qB3 (R:=fun n=>qBP n k op ck cn cs ac ar af ag bc br bf bg (ks.map qAZ)) ?_ fun n=>rfl)
 unfold plB
 dsimp only
 by_cases h2:k=2
 ·rw [if_pos h2,←qK5]
  exact qAS (by subst h2;rfl) (qe (ar2 h2) (qe (qC0 ac ar ac ar) (qa rfl)))
 ·rw [if_neg h2]
  refine qw (bne_iff_ne.2 h2) ?_
  by_cases h3:k=3
  ·rw [if_pos h3]
   exact qAS (by subst h3;rfl) (qe (ar3 h2) (qe (qC0 ac ar bc br) (qa rfl)))
  ·rw [if_neg h3]
   exact qw (bne_iff_ne.2 h3) (qa rfl)
def shI (fix:Bool) (x d:Int):Int:=if fix=true then x else IntKind.i64.wrap (x+d)
def mvA (p q:Int) (c:Nd):Nd:=(c.1,c.2.1,c.2.2.1,c.2.2.2.1,c.2.2.2.2.1,shI c.2.2.2.2.2.2.2.1 c.2.2.2.2.2.1 p,shI c.2.2.2.2.2.2.2.2.1 c.2.2.2.2.2.2.1 q,c.2.2.2.2.2.2.2.1,c.2.2.2.2.2.2.2.2.1,(if c.1=3 then shI c.2.2.2.2.2.2.2.2.2.2.2.1 c.2.2.2.2.2.2.2.2.2.1 p else c.2.2.2.2.2.2.2.2.2.1),(if c.1=3 then shI c.2.2.2.2.2.2.2.2.2.2.2.2.1 c.2.2.2.2.2.2.2.2.2.2.1 q else c.2.2.2.2.2.2.2.2.2.2.1),c.2.2.2.2.2.2.2.2.2.2.2.1,c.2.2.2.2.2.2.2.2.2.2.2.2.1,kd c)
theorem qHO (x y:Int) (f g:Bool) (p q:Int):Ev (qBX · x y f g p q) (shI f x p,shI g y q,f,g):=by
 refine qDY (qB3 (R:=fun n=>qCE n x y f g p q) ?_ fun n=>rfl)
 cases f<;>cases g
 ·exact qw rfl (qw rfl (qa rfl))
 ·exact qw rfl (qAS rfl (qa rfl))
 ·exact qAS rfl (qw rfl (qa rfl))
 ·exact qAS rfl (qAS rfl (qa rfl))
theorem qKb (p q:Int) (c:Nd):Ev (qBr · c.1 c.2.1 c.2.2.1 c.2.2.2.1 c.2.2.2.2.1 c.2.2.2.2.2.1 c.2.2.2.2.2.2.1 c.2.2.2.2.2.2.2.1 c.2.2.2.2.2.2.2.2.1 c.2.2.2.2.2.2.2.2.2.1 c.2.2.2.2.2.2.2.2.2.2.1 c.2.2.2.2.2.2.2.2.2.2.2.1 c.2.2.2.2.2.2.2.2.2.2.2.2.1 ((kd c).map qAZ) p q) (qMX (mvA p q c)):=by
 obtain ⟨k,op,ck,cn,cs,ac,ar,af,ag,bc,br,bf,bg,ks⟩:=c
 refine qDY (qB3 (R:=fun n=>qDC n k op ck cn cs ac ar af ag bc br bf bg (ks.map qAZ) p q) ?_ fun n=>rfl)
 refine qB2 rfl (qB2 rfl (qe (qHO ac ar af ag p q) ?_))
 unfold qMX mvA
 dsimp only
 by_cases h3:k=3
 ·rw [if_pos h3,if_pos h3]
  exact qw (beq_iff_eq.2 h3) (qB2 rfl (qB2 rfl (qe (qHO bc br bf bg p q) (qa rfl))))
 ·rw [if_neg h3,if_neg h3]
  exact qAS (beq_eq_false_iff_ne.2 h3) (qa rfl)
theorem qJq (p q:Int) (l:List Nd) (hl:l.length≤1000) (hk:∀c∈l,(kd c).length≤1000000):Ev (qAd · (l.map qU) p q) ((l.map (chN (mvA p q))).map qU):=by
 obtain ⟨n1,h1⟩:=qA0 (F:=fun c n=>qBr n c.1 c.2.1 c.2.2.1 c.2.2.2.1 c.2.2.2.2.1 c.2.2.2.2.2.1 c.2.2.2.2.2.2.1 c.2.2.2.2.2.2.2.1 c.2.2.2.2.2.2.2.2.1 c.2.2.2.2.2.2.2.2.2.1 c.2.2.2.2.2.2.2.2.2.2.1 c.2.2.2.2.2.2.2.2.2.2.2.1 c.2.2.2.2.2.2.2.2.2.2.2.2.1 ((kd c).map qAZ) p q) (f:=fun c=>qMX (mvA p q c)) l fun c _=>qKb p q c
 obtain ⟨n2,h2⟩:=qA0 (F:=fun c n=>qW n (mvA p q c).1 (mvA p q c).2.1 (mvA p q c).2.2.1 (mvA p q c).2.2.2.1 (mvA p q c).2.2.2.2.1 (mvA p q c).2.2.2.2.2.1 (mvA p q c).2.2.2.2.2.2.1 (mvA p q c).2.2.2.2.2.2.2.1 (mvA p q c).2.2.2.2.2.2.2.2.1 (mvA p q c).2.2.2.2.2.2.2.2.2.1 (mvA p q c).2.2.2.2.2.2.2.2.2.2.1 (mvA p q c).2.2.2.2.2.2.2.2.2.2.2.1 (mvA p q c).2.2.2.2.2.2.2.2.2.2.2.2.1 ((kd (mvA p q c)).map qAZ)) (f:=fun c=>plB (mvA p q c)) l fun c _=>qJW (mvA p q c)
 obtain ⟨n3,h3⟩:=qA0 (F:=fun c n=>qf n ((kd c).map qAZ)) (f:=fun c=>(kd c).map qAZ) l fun c hc=>qJV (kd c) (hk c hc)
 obtain ⟨n4,h4⟩:=qJV [] (by decide)
 obtain ⟨n5,h5⟩:=qJo 3
 refine ⟨n1+n2+n3+n4+n5+l.length+3,fun n hn=>?_⟩
 obtain ⟨m,rfl,hm⟩:=up1 hn
 have h:=qMV (B:=qAQ m) (fun i=>(p,q,i,l.map qU,((l.map qU).length:Int),(i:Int),(l.take i).map fun c=>qU (chN (mvA p q) c))) l (fun _ _=>none) (l.length,l.map fun c=>qU (chN (mvA p q) c))
  (fun i c he=>by
   have hi:=(List.getElem?_eq_some_iff.1 he).1
   have hmem:=List.mem_of_getElem? he
   have hg:(l.map qU)[i]?=some (qU c):=by rw [List.getElem?_map,he];rfl
   obtain ⟨a1,a2⟩:=qJU rfl hg
   have h1:=h1 m (by omega) c hmem
   have h2:=h2 m (by omega) c hmem
   have h3:=h3 m (by omega) c hmem
   have h4:=h4 m (by omega)
   have h5:=h5 m (by omega)
   have ea:i=((l.take i).map fun c=>qU (chN (mvA p q) c)).length:=by simp;omega
   have e1000:i≤1000:=by omega
   have w:IntKind.i64.wrap ((i:Int)+1)=((i+1:Nat):Int):=by rw [qY (by omega)];omega
   have fin:∀(e:List PV),e=qU (chN (mvA p q) c)→(some (Sum.inl (p,q,i+1,l.map qU,((l.map qU).length:Int),IntKind.i64.wrap ((i:Int)+1),((l.take i).map fun c=>qU (chN (mvA p q) c))++ [e])):Option ((Int×Int×Nat×List (List PV)×Int×Int×List (List PV))⊕(Nat×List (List PV))))=some (.inl (p,q,i+1,l.map qU,((l.map qU).length:Int),((i+1:Nat):Int),(l.take (i+1)).map fun c=>qU (chN (mvA p q) c))):=fun e he2=>by
    rw [w,qK4 he,he2]
   refine qN (decide_eq_true (by simpa using hi)) (qN a1 (qD a2 (qN rfl ?_)))
   iterate 14 refine qD rfl ?_
   by_cases k2:c.1=2
   ·refine qN (beq_iff_eq.2 k2) (qD h1 (qD h2 ?_))
    cases hp:plB (mvA p q c) with
    |false=>exact qN rfl (qD h5 (qD h4 (qN rfl (qN (qCd ea e1000 rfl) (fin _ (by unfold chN;rw [if_pos (.inl k2),hp];rfl))))))
    |true=>exact qT rfl (qD h3 (qN rfl (qN (qCd ea e1000 rfl) (fin _ (by unfold chN;rw [if_pos (.inl k2),hp];rfl)))))
   ·refine qT (beq_eq_false_iff_ne.2 k2) ?_
    by_cases k3:c.1=3
    ·refine qN (beq_iff_eq.2 k3) (qD h1 (qD h2 ?_))
     cases hp:plB (mvA p q c) with
     |false=>exact qN rfl (qD h5 (qD h4 (qN rfl (qN (qCd ea e1000 rfl) (fin _ (by unfold chN;rw [if_pos (.inr k3),hp];rfl))))))
     |true=>exact qT rfl (qD h3 (qN rfl (qN (qCd ea e1000 rfl) (fin _ (by unfold chN;rw [if_pos (.inr k3),hp];rfl)))))
    ·refine qT (beq_eq_false_iff_ne.2 k3) ?_
     exact qD h3 (qN rfl (qN (qCd ea e1000 rfl) (fin _ (by unfold chN;rw [if_neg (by omega)];rfl)))))
  (qT (decide_eq_false (by simp)) (by rw [List.take_length];rfl)) m (by omega)
 refine qD h (qN (decide_eq_true ?_) ?_)
 ·rw [qDc];simp
 ·rw [qDc];simp [Tr.run,List.map_map,Function.comp_def]
theorem qHP (x y:Int) (f g:Bool) (p q:Int):Ev (qAe · x y f g p q) (shI f x p,shI g y q,f,g):=by
 refine qDY (qB3 (R:=fun n=>qDt n x y f g p q) ?_ fun n=>rfl)
 cases f<;>cases g
 ·exact qw rfl (qw rfl (qa rfl))
 ·exact qw rfl (qAS rfl (qa rfl))
 ·exact qAS rfl (qw rfl (qa rfl))
 ·exact qAS rfl (qAS rfl (qa rfl))
theorem qJX:Ev (fun n=>qB6 n) (qMX qL4):=qDY (qB3 (R:=fun n=>qES n) (qe (qFG 3) (qa rfl)) fun n=>rfl)
theorem qLR {p q:Int} {c:Nd} (h:c.1≠3):mvA p q c=(c.1,c.2.1,c.2.2.1,c.2.2.2.1,c.2.2.2.2.1,shI c.2.2.2.2.2.2.2.1 c.2.2.2.2.2.1 p,shI c.2.2.2.2.2.2.2.2.1 c.2.2.2.2.2.2.1 q,c.2.2.2.2.2.2.2.1,c.2.2.2.2.2.2.2.2.1,c.2.2.2.2.2.2.2.2.2.1,c.2.2.2.2.2.2.2.2.2.2.1,c.2.2.2.2.2.2.2.2.2.2.2.1,c.2.2.2.2.2.2.2.2.2.2.2.2.1,kd c):=by
 unfold mvA
 rw [if_neg h,if_neg h]
theorem qLS {p q:Int} {c:Nd} (h:c.1=3):mvA p q c=(c.1,c.2.1,c.2.2.1,c.2.2.2.1,c.2.2.2.2.1,shI c.2.2.2.2.2.2.2.1 c.2.2.2.2.2.1 p,shI c.2.2.2.2.2.2.2.2.1 c.2.2.2.2.2.2.1 q,c.2.2.2.2.2.2.2.1,c.2.2.2.2.2.2.2.2.1,shI c.2.2.2.2.2.2.2.2.2.2.2.1 c.2.2.2.2.2.2.2.2.2.1 p,shI c.2.2.2.2.2.2.2.2.2.2.2.2.1 c.2.2.2.2.2.2.2.2.2.2.1 q,c.2.2.2.2.2.2.2.2.2.2.2.1,c.2.2.2.2.2.2.2.2.2.2.2.2.1,kd c):=by
 unfold mvA
 rw [if_pos h,if_pos h]
theorem qLT {op ck cn ac ar bc br:Int} {cs:ByteArray} {af ag bf bg:Bool} {ks:List Int}:qBQ (2,op,ck,cn,cs,ac,ar,af,ag,bc,br,bf,bg,ks)=(decide (op=0)&&(zV ck cn cs&&(zP bc br bf bg&&(decide (ks.length=0)&&qA3 ac ar)))):=by
 unfold qBQ
 dsimp only
 rw [if_neg (by decide),if_pos rfl]
 rfl
theorem qLU {op ck cn ac ar bc br:Int} {cs:ByteArray} {af ag bf bg:Bool} {ks:List Int}:qBQ (3,op,ck,cn,cs,ac,ar,af,ag,bc,br,bf,bg,ks)=(decide (op=0)&&(zV ck cn cs&&(decide (ks.length=0)&&qCF ac ar bc br))):=by
 unfold qBQ
 dsimp only
 rw [if_neg (by decide),if_neg (by decide),if_pos rfl]
 rfl
theorem qFx {p q:Int} {c:Nd} (h:qBQ c=true) (hk:c.1=2∨c.1=3):qBQ (mvA p q c)=plB (mvA p q c)∧plB c=true∧kd c= []:=by
 obtain ⟨k,op,ck,cn,cs,ac,ar,af,ag,bc,br,bf,bg,ks⟩:=c
 dsimp only at hk
 rcases hk with rfl|rfl
 ·rw [qLR (by show ¬(2:Int)=3;decide)]
  dsimp only
  rw [qLT] at h⊢
  simp only [Bool.and_eq_true,decide_eq_true_eq] at h
  obtain ⟨h1,h2,h3,h4,h5⟩:=h
  refine ⟨?_,h5,List.eq_nil_of_length_eq_zero h4⟩
  have hk0:(kd ((2,op,ck,cn,cs,ac,ar,af,ag,bc,br,bf,bg,ks):Nd)).length=0:=h4
  rw [decide_eq_true h1,h2,h3,decide_eq_true hk0]
  rfl
 ·rw [qLS rfl]
  dsimp only
  rw [qLU] at h⊢
  simp only [Bool.and_eq_true,decide_eq_true_eq] at h
  obtain ⟨h1,h2,h3,h4⟩:=h
  refine ⟨?_,h4,List.eq_nil_of_length_eq_zero h3⟩
  have hk0:(kd ((3,op,ck,cn,cs,ac,ar,af,ag,bc,br,bf,bg,ks):Nd)).length=0:=h3
  rw [decide_eq_true h1,h2,decide_eq_true hk0]
  rfl
theorem qJY (p q:Int) (l:List Nd) (hl:l.length≤1000) (hs:∀c∈l,qC4 c) (hB:∀c∈l,qBQ c=true):∃n0,∀n,n0≤n→zF (qB9 n) n (l.map qU,p,q,0,0,[])=some (l.length,l.map fun c=>qU (chN (mvA p q) c)):=by
 obtain ⟨n1,h1⟩:=qA0 (F:=fun (c:Nd) n=>qAe n c.2.2.2.2.2.1 c.2.2.2.2.2.2.1 c.2.2.2.2.2.2.2.1 c.2.2.2.2.2.2.2.2.1 p q) (f:=fun c=>(shI c.2.2.2.2.2.2.2.1 c.2.2.2.2.2.1 p,shI c.2.2.2.2.2.2.2.2.1 c.2.2.2.2.2.2.1 q,c.2.2.2.2.2.2.2.1,c.2.2.2.2.2.2.2.2.1)) l fun c _=>qHP ..
 obtain ⟨n2,h2⟩:=qA0 (F:=fun (c:Nd) n=>qAe n c.2.2.2.2.2.2.2.2.2.1 c.2.2.2.2.2.2.2.2.2.2.1 c.2.2.2.2.2.2.2.2.2.2.2.1 c.2.2.2.2.2.2.2.2.2.2.2.2.1 p q) (f:=fun c=>(shI c.2.2.2.2.2.2.2.2.2.2.2.1 c.2.2.2.2.2.2.2.2.2.1 p,shI c.2.2.2.2.2.2.2.2.2.2.2.2.1 c.2.2.2.2.2.2.2.2.2.2.1 q,c.2.2.2.2.2.2.2.2.2.2.2.1,c.2.2.2.2.2.2.2.2.2.2.2.2.1)) l fun c _=>qHP ..
 obtain ⟨n3,h3⟩:=qA0 (F:=fun (c:Nd) n=>qp n (mvA p q c).1 (mvA p q c).2.1 (mvA p q c).2.2.1 (mvA p q c).2.2.2.1 (mvA p q c).2.2.2.2.1 (mvA p q c).2.2.2.2.2.1 (mvA p q c).2.2.2.2.2.2.1 (mvA p q c).2.2.2.2.2.2.2.1 (mvA p q c).2.2.2.2.2.2.2.2.1 (mvA p q c).2.2.2.2.2.2.2.2.2.1 (mvA p q c).2.2.2.2.2.2.2.2.2.2.1 (mvA p q c).2.2.2.2.2.2.2.2.2.2.2.1 (mvA p q c).2.2.2.2.2.2.2.2.2.2.2.2.1 ((kd (mvA p q c)).map qAZ)) (f:=fun c=>qBQ (mvA p q c)) l fun c hc=>qCO (mvA p q c) (by have:=(hs c hc).2;show c.2.2.2.2.1.size≤_;omega)
 obtain ⟨n4,h4⟩:=qA0 (F:=fun (c:Nd) n=>qp n c.1 c.2.1 c.2.2.1 c.2.2.2.1 c.2.2.2.2.1 c.2.2.2.2.2.1 c.2.2.2.2.2.2.1 c.2.2.2.2.2.2.2.1 c.2.2.2.2.2.2.2.2.1 c.2.2.2.2.2.2.2.2.2.1 c.2.2.2.2.2.2.2.2.2.2.1 c.2.2.2.2.2.2.2.2.2.2.2.1 c.2.2.2.2.2.2.2.2.2.2.2.2.1 ((kd c).map qAZ)) (f:=fun c=>qBQ c) l fun c hc=>qCO c (by have:=(hs c hc).2;omega)
 obtain ⟨n5,h5⟩:=qJX
 refine ⟨n1+n2+n3+n4+n5+l.length+3,fun m hm=>?_⟩
 have h:=qMV (B:=qB9 m) (fun i=>(l.map qU,p,q,i,(i:Int),(l.take i).map fun c=>qU (chN (mvA p q) c))) l (fun _ _=>none) (l.length,l.map fun c=>qU (chN (mvA p q) c))
  (fun i c he=>by
   have hi:=(List.getElem?_eq_some_iff.1 he).1
   have hmem:=List.mem_of_getElem? he
   have hg:(l.map qU)[i]?=some (qU c):=by rw [List.getElem?_map,he];rfl
   obtain ⟨a1,a2⟩:=qJU rfl hg
   have h1:=h1 m (by omega) c hmem
   have h2:=h2 m (by omega) c hmem
   have h3:=h3 m (by omega) c hmem
   have h4:=h4 m (by omega) c hmem
   have h5:=h5 m (by omega)
   have hkl:=(hs c hmem).1
   have ea:i=((l.take i).map fun c=>qU (chN (mvA p q) c)).length:=by simp;omega
   have e1000:i≤1000:=by omega
   have w:IntKind.i64.wrap ((i:Int)+1)=((i+1:Nat):Int):=by rw [qY (by omega)];omega
   have fin:∀(e:List PV),e=qU (chN (mvA p q) c)→(some (Sum.inl (l.map qU,p,q,i+1,IntKind.i64.wrap ((i:Int)+1),((l.take i).map fun c=>qU (chN (mvA p q) c))++ [e])):Option ((List (List PV)×Int×Int×Nat×Int×List (List PV))⊕(Nat×List (List PV))))=some (.inl (l.map qU,p,q,i+1,((i+1:Nat):Int),(l.take (i+1)).map fun c=>qU (chN (mvA p q) c))):=fun e he2=>by
    rw [w,qK4 he,he2]
   have kA:decide (0=([]:List (List PV)).length∧0<1∧0<8∧(0+((kd c).map qAZ).length)*8≤140737488355328∧((kd c).map qAZ).all (fun e=>e.length==1)=true)=true:=decide_eq_true ⟨rfl,by decide,by decide,by simp;omega,by simp [qAZ]⟩
   have kB:decide ((0+((kd c).map qAZ).length)=(([]:List (List PV))++((kd c).map qAZ)).length)=true:=decide_eq_true (by simp)
   refine qN (decide_eq_true (by simpa using hi)) (qN a1 (qD a2 (qN rfl ?_)))
   iterate 14 refine qD rfl ?_
   refine qN kA ?_
   by_cases k2:c.1=2
   ·have hm2:=qLR (p:=p) (q:=q) (c:=c) (by omega)
    obtain ⟨b1,b2,b3⟩:=qFx (p:=p) (q:=q) (hB c hmem) (.inl k2)
    rw [b1] at h3
    rw [hm2] at h3
    refine qN (beq_iff_eq.2 k2) (qD h1 (qT (beq_eq_false_iff_ne.2 (by omega)) (qN kB (qD h3 (qN rfl ?_)))))
    rw [←hm2]
    cases hp:plB (mvA p q c) with
    |false=>exact qN rfl (qD h5 (qN rfl (qN (qCd ea e1000 rfl) (fin _ (by unfold chN;rw [if_pos (.inl k2),hp];rfl)))))
    |true=>exact qT rfl (qN kB (qN rfl (qN (qCd ea e1000 rfl) (fin _ (by unfold chN;rw [if_pos (.inl k2),hp,if_pos rfl,hm2];rfl)))))
   ·refine qT (beq_eq_false_iff_ne.2 k2) ?_
    by_cases k3:c.1=3
    ·have hm3:=qLS (p:=p) (q:=q) (c:=c) k3
     obtain ⟨b1,b2,b3⟩:=qFx (p:=p) (q:=q) (hB c hmem) (.inr k3)
     rw [b1] at h3
     rw [hm3] at h3
     refine qN (beq_iff_eq.2 k3) (qD h1 (qD h2 (qN kB (qD h3 (qN rfl ?_)))))
     rw [←hm3]
     cases hp:plB (mvA p q c) with
     |false=>exact qN rfl (qD h5 (qN rfl (qN (qCd ea e1000 rfl) (fin _ (by unfold chN;rw [if_pos (.inr k3),hp];rfl)))))
     |true=>exact qT rfl (qN kB (qN rfl (qN (qCd ea e1000 rfl) (fin _ (by unfold chN;rw [if_pos (.inr k3),hp,if_pos rfl,hm3];rfl)))))
    ·rw [hB c hmem] at h4
     exact qT (beq_eq_false_iff_ne.2 k3) (qN kB (qD h4 (qN rfl (qT rfl (qN kB (qN rfl (qN (qCd ea e1000 rfl) (fin _ (by unfold chN;rw [if_neg (by omega)];rfl))))))))))
  (qT (decide_eq_false (by simp)) (by rw [List.take_length];rfl)) m (by omega)
 rw [qDc] at h
 exact h
theorem qDQ {l:List Nd} (h:qCQ l=true):(1≤l.length∧l.length≤60)∧∀c∈l,qBQ c=true:=by
 unfold qCQ at h
 simp only [Bool.and_eq_true,decide_eq_true_eq] at h
 refine ⟨h.1,fun c hc=>?_⟩
 obtain ⟨i,hi⟩:=List.mem_iff_getElem?.1 hc
 have hil:=(List.getElem?_eq_some_iff.1 hi).1
 have:=(qCG.1 h.2.1 (i:Int) (by omega) (by omega)).1
 unfold qDN at this
 have e:ndi l (i:Int)=c:=by unfold ndi;simp [hi]
 rw [e] at this
 exact this
def mvR (p q:Int) (l:List Nd):List Nd×Bool:=if qCQ l=true∧(-52≤p∧p≤52)∧(-99≤q∧q≤99) then (l.map (chN (mvA p q)),true) else ([],false)
theorem qFJ (p q:Int) (l:List Nd) (hl:l.length≤1000) (hs:∀c∈l,qC4 c):Ev (qCx · (l.map qU) p q) ((mvR p q l).1.map qU,(mvR p q l).2):=by
 refine qDY (qB3 (R:=fun n=>qDs n (l.map qU) p q) (qe (qEE l (by omega) (qF6 hs)) ?_) fun n=>rfl)
 unfold mvR
 cases hf:qCQ l with
 |false=>rw [if_neg (by simp)];exact qw rfl (qw rfl (qa rfl))
 |true=>
  refine qAS rfl (qe (qz p (-52) 52) ?_)
  by_cases hp: -52≤p∧p≤52
  ·refine qAS (by rw [decide_eq_true hp];rfl) (qe (qz q (-99) 99) ?_)
   by_cases hq: -99≤q∧q≤99
   ·rw [if_pos ⟨rfl,hp,hq⟩]
    have h:=qJq p q l hl fun c hc=>by have:=(hs c hc).1;omega
    exact qAS (by rw [decide_eq_true hq];rfl) (qe (qDY (qB3 (F:=fun n=>qDr n (l.map qU) p q) (R:=fun n=>qDq n (l.map qU) p q) (qe h (qa rfl)) fun n=>rfl)) (qa rfl))
   ·rw [if_neg (fun h=>hq h.2.2)]
    exact qw (by rw [decide_eq_false hq];rfl) (qw rfl (qa rfl))
  ·rw [if_neg (fun h=>hp h.2.1)]
   exact qw (by rw [decide_eq_false hp];rfl) (qw rfl (qa rfl))
theorem qIa (p q:Int) (l:List Nd) (hl:l.length≤1000) (hs:∀c∈l,qC4 c):Ev (qDv · (l.map qU) p q) ((mvR p q l).1.map qU,(mvR p q l).2):=by
 refine qDY (qB3 (R:=fun n=>qDu n (l.map qU) p q) (qe (qED l (qF6 hs)) ?_) fun n=>rfl)
 unfold mvR
 cases hf:qCQ l with
 |false=>rw [if_neg (by simp)];exact qw rfl (qw rfl (qa rfl))
 |true=>
  refine qAS rfl (qe (qA1 p (-52) 52) ?_)
  by_cases hp: -52≤p∧p≤52
  ·refine qAS (by rw [decide_eq_true hp];rfl) (qe (qA1 q (-99) 99) ?_)
   by_cases hq: -99≤q∧q≤99
   ·rw [if_pos ⟨rfl,hp,hq⟩]
    have h:=qJY p q l hl hs (qDQ hf).2
    exact qAS (by rw [decide_eq_true hq];rfl) (qe h (qw (decide_eq_true (by simp)) (qa (by simp [List.map_map,Function.comp_def]))))
   ·rw [if_neg (fun h=>hq h.2.2)]
    exact qw (by rw [decide_eq_false hq];rfl) (qw rfl (qa rfl))
  ·rw [if_neg (fun h=>hp h.2.1)]
   exact qw (by rw [decide_eq_false hp];rfl) (qw rfl (qa rfl))
theorem qLi:qBQ qL4=true:=by decide+kernel
structure PlaceCh (f:Nd→Nd):Prop where
 k:∀c,(f c).1=c.1
 n:∀c,qBQ c=true→c.1=2∨c.1=3→qBQ (f c)=plB (f c)
 kd:∀c,kd (f c)=kd c
theorem qHQ {f:Nd→Nd} (hf:PlaceCh f) {c:Nd} (h:qBQ c=true):qBQ (chN f c)=true∧kd (chN f c)=kd c∧((chN f c).1=3→c.1=3)∧((chN f c).1=6↔c.1=6):=by
 unfold chN
 by_cases hk:c.1=2∨c.1=3
 ·rw [if_pos hk]
  cases hp:plB (f c) with
  |true=>rw [if_pos rfl,hf.n c h hk,hp,hf.kd,hf.k];exact ⟨rfl,rfl,id,Iff.rfl⟩
  |false=>
   rw [if_neg (by simp)]
   refine ⟨qLi,?_,fun e=>?_,?_⟩
   ·have:kd c= []:=by
     obtain ⟨k,op,ck,cn,cs,ac,ar,af,ag,bc,br,bf,bg,ks⟩:=c
     dsimp only at hk
     rcases hk with rfl|rfl
     ·rw [qLT] at h
      simp only [Bool.and_eq_true,decide_eq_true_eq] at h
      exact List.eq_nil_of_length_eq_zero h.2.2.2.1
     ·rw [qLU] at h
      simp only [Bool.and_eq_true,decide_eq_true_eq] at h
      exact List.eq_nil_of_length_eq_zero h.2.2.1
    rw [this]
    rfl
   ·exact absurd (show (1:Int)=3 from e) (by decide)
   ·constructor
    ·intro e;exact absurd (show (1:Int)=6 from e) (by decide)
    ·intro e;omega
 ·rw [if_neg hk];exact ⟨h,rfl,id,Iff.rfl⟩
theorem qL5 {f:Nd→Nd} (hf:PlaceCh f) {l:List Nd} (h:qCQ l=true):qCQ (l.map (chN f))=true:=by
 obtain ⟨hn,hB⟩:=qDQ h
 have key:∀i:Int,(∃c∈l,ndi l i=c∧ndi (l.map (chN f)) i=chN f c)∨(ndi l i=nd0∧ndi (l.map (chN f)) i=nd0):=fun i=>by
  unfold ndi
  cases hq:l[i.toNat]? with
  |some c=>exact .inl ⟨c,List.mem_of_getElem? hq,by simp [hq],by simp [hq]⟩
  |none=>exact .inr ⟨by simp [hq],by simp [hq]⟩
 have ek:qX (l.map (chN f))=qX l:=by
  funext i
  unfold qX
  rcases key i with ⟨c,hc,e1,e2⟩|⟨e1,e2⟩
  ·rw [e1,e2];exact (qHQ hf (hB c hc)).2.1
  ·rw [e1,e2]
 have ea:∀i,qAX (l.map (chN f)) i=true→qAX l i=true:=fun i ha=>by
  unfold qAX at ha⊢
  rcases key i with ⟨c,hc,e1,e2⟩|⟨e1,e2⟩
  ·rw [e2] at ha;rw [e1];exact decide_eq_true ((qHQ hf (hB c hc)).2.2.1 (of_decide_eq_true ha))
  ·rw [e2] at ha;rw [e1];exact ha
 have ec:∀i,qA4 (l.map (chN f)) i=qA4 l i:=fun i=>by
  unfold qA4
  rcases key i with ⟨c,hc,e1,e2⟩|⟨e1,e2⟩
  ·rw [e1,e2];exact decide_eq_decide.2 (qHQ hf (hB c hc)).2.2.2
  ·rw [e1,e2]
 unfold qCQ at h⊢
 simp only [Bool.and_eq_true,decide_eq_true_eq,Bool.not_eq_true',List.length_map] at h⊢
 obtain ⟨g1,g2,g3,g4,g5⟩:=h
 refine ⟨g1,?_,by rw [ek];exact g3,?_,by rw [ek];exact g5⟩
 ·have e:l.length=(l.map (chN f)).length:=by simp
  rw [e,qCG]
  intro i h0 h1
  obtain ⟨o1,o2⟩:=qCG.1 g2 i h0 (by simpa using h1)
  refine ⟨?_,fun k hk=>?_⟩
  ·unfold qDN at o1⊢
   rcases key i with ⟨c,hc,e1,e2⟩|⟨e1,e2⟩
   ·rw [e2];exact (qHQ hf (hB c hc)).1
   ·rw [e2,←e1];exact o1
  ·rw [ek] at hk
   obtain ⟨u1,u2,u3⟩:=o2 k hk
   exact ⟨u1,u2,fun ⟨v1,v2⟩=>u3 ⟨ea k v1,by rw [←ec];exact v2⟩⟩
 ·rw [Bool.eq_false_iff]
  intro ha
  have:=ea _ ha
  rw [g4] at this
  cases this
def qCH (c:Nd):Bool:=decide (c.1=2∨c.1=3)
theorem qLV {f:Nd→Nd} {c:Nd} (h:qCH (chN f c)=true):qCH c=true∧chN f c=f c:=by
 unfold qCH at h⊢
 unfold chN at h⊢
 by_cases hk:c.1=2∨c.1=3
 ·rw [if_pos hk] at h⊢
  refine ⟨decide_eq_true hk,?_⟩
  cases hp:plB (f c) with
  |true=>rfl
  |false=>
   rw [hp] at h
   exact absurd (of_decide_eq_true h) (by show ¬((1:Int)=2∨(1:Int)=3);decide)
 ·rw [if_neg hk] at h
  exact absurd (of_decide_eq_true h) hk
theorem qL6 {g:Nd→Nd} (hg:∀c,qCH (g c)=true→qCH c=true):∀l:List Nd,((l.map g).filter qCH).length≤(l.filter qCH).length∧(((l.map g).filter qCH).length=(l.filter qCH).length→∀c∈l,qCH c=true→qCH (g c)=true)
 | []=>⟨Nat.le_refl _,fun _ c hc=>by cases hc⟩
 |a::l=>by
  obtain ⟨h1,h2⟩:=qL6 hg l
  rw [List.map_cons,List.filter_cons,List.filter_cons]
  cases ha:qCH a with
  |true=>
   cases hb:qCH (g a) with
   |true=>
    simp only [if_true,List.length_cons]
    exact ⟨by omega,fun e c hc hp=>by
     rcases List.mem_cons.1 hc with rfl|hc
     ·exact hb
     ·exact h2 (by omega) c hc hp⟩
   |false=>
    simp only [Bool.false_eq_true,if_false,if_true,List.length_cons]
    exact ⟨by omega,fun e=>by omega⟩
  |false=>
   have hb:qCH (g a)=false:=by
    rw [Bool.eq_false_iff];intro e;have:=hg a e;rw [ha] at this;cases this
   rw [hb]
   simp only [Bool.false_eq_true,if_false]
   exact ⟨h1,fun e c hc hp=>by
    rcases List.mem_cons.1 hc with rfl|hc
    ·rw [ha] at hp;cases hp
    ·exact h2 e c hc hp⟩
def qJr (c:Nd):List PV:=if c.1=2 then [.i .i64 c.2.2.2.2.2.1,.i .i64 c.2.2.2.2.2.2.1,.i .i64 c.2.2.2.2.2.1,.i .i64 c.2.2.2.2.2.2.1] else [.i .i64 c.2.2.2.2.2.1,.i .i64 c.2.2.2.2.2.2.1,.i .i64 c.2.2.2.2.2.2.2.2.2.1,.i .i64 c.2.2.2.2.2.2.2.2.2.2.1]
theorem qH6 {α:Type} {P:α→Bool} {l:List α} {i:Nat} {a:α} (h:l[i]?=some a):(l.take (i+1)).filter P=(l.take i).filter P++(if P a=true then [a] else []):=by
 rw [List.take_add_one,h,List.filter_append]
 simp only [Option.toList_some,List.filter_cons,List.filter_nil]
theorem qLW {m:Nat} {acc:List (List PV)} {e:List PV} (hm:m=acc.length) (hb:m≤1000) (he:e.length=4):decide (m=acc.length∧0<4∧0<32∧(m+ [e].length)*32≤140737488355328∧ [e].all (fun e=>e.length==4)=true)=true:=decide_eq_true ⟨hm,by decide,by decide,by simp;omega,by simp [he]⟩
theorem qIb (l:List Nd) (hl:l.length≤1000):Ev (qDw · (l.map qU)) ((l.filter qCH).map qJr):=by
 obtain ⟨n1,h1⟩:=qA0 (F:=fun (c:Nd) n=>q7 n c.1 c.2.1 c.2.2.1 c.2.2.2.1 c.2.2.2.2.1 c.2.2.2.2.2.1 c.2.2.2.2.2.2.1 c.2.2.2.2.2.2.2.1 c.2.2.2.2.2.2.2.2.1 c.2.2.2.2.2.2.2.2.2.1 c.2.2.2.2.2.2.2.2.2.2.1 c.2.2.2.2.2.2.2.2.2.2.2.1 c.2.2.2.2.2.2.2.2.2.2.2.2.1 ((kd c).map qAZ)) (f:=fun c=>if c.1=2 then (c.2.2.2.2.2.1,c.2.2.2.2.2.2.1,c.2.2.2.2.2.1,c.2.2.2.2.2.2.1) else (c.2.2.2.2.2.1,c.2.2.2.2.2.2.1,c.2.2.2.2.2.2.2.2.2.1,c.2.2.2.2.2.2.2.2.2.2.1)) l fun c _=>by
  refine qDY (qB3 (R:=fun n=>qA7 n c.1 c.2.1 c.2.2.1 c.2.2.2.1 c.2.2.2.2.1 c.2.2.2.2.2.1 c.2.2.2.2.2.2.1 c.2.2.2.2.2.2.2.1 c.2.2.2.2.2.2.2.2.1 c.2.2.2.2.2.2.2.2.2.1 c.2.2.2.2.2.2.2.2.2.2.1 c.2.2.2.2.2.2.2.2.2.2.2.1 c.2.2.2.2.2.2.2.2.2.2.2.2.1 ((kd c).map qAZ)) ?_ fun n=>rfl)
  by_cases h2:c.1=2
  ·rw [if_pos h2];exact qw (beq_iff_eq.2 h2) (qa rfl)
  ·rw [if_neg h2];exact qAS (beq_eq_false_iff_ne.2 h2) (qa rfl)
 refine ⟨n1+l.length+3,fun n hn=>?_⟩
 obtain ⟨m,rfl,hm⟩:=up1 hn
 have h:=qMV (B:=qCy m) (fun i=>(((l.take i).filter qCH).length,l.map qU,((l.map qU).length:Int),(i:Int),((l.take i).filter qCH).map qJr)) l (fun _ _=>none) ((l.filter qCH).length,(l.filter qCH).map qJr)
  (fun i c he=>by
   have hi:=(List.getElem?_eq_some_iff.1 he).1
   have hg:(l.map qU)[i]?=some (qU c):=by rw [List.getElem?_map,he];rfl
   obtain ⟨a1,a2⟩:=qJU rfl hg
   have h1:=h1 m (by omega) c (List.mem_of_getElem? he)
   have hle:((l.take i).filter qCH).length≤1000:=Nat.le_trans (List.length_filter_le _ _) (by simp;omega)
   have w:IntKind.i64.wrap ((i:Int)+1)=((i+1:Nat):Int):=by rw [qY (by omega)];omega
   have ea:((l.take i).filter qCH).length=(((l.take i).filter qCH).map qJr).length:=by simp
   have fin:qCH c=true→∀(e:List PV),e=qJr c→(some (Sum.inl (((l.take i).filter qCH).length+1,l.map qU,((l.map qU).length:Int),IntKind.i64.wrap ((i:Int)+1),((l.take i).filter qCH).map qJr++ [e])):Option ((Nat×List (List PV)×Int×Int×List (List PV))⊕(Nat×List (List PV))))=some (.inl (((l.take (i+1)).filter qCH).length,l.map qU,((l.map qU).length:Int),((i+1:Nat):Int),((l.take (i+1)).filter qCH).map qJr)):=fun hp e he2=>by
    rw [w,qH6 he,if_pos hp,he2,List.length_append,List.map_append]
    rfl
   refine qN (decide_eq_true (by simpa using hi)) (qN a1 (qD a2 (qN rfl ?_)))
   iterate 14 refine qD rfl ?_
   by_cases k2:c.1=2
   ·rw [if_pos k2] at h1
    exact qN (beq_iff_eq.2 k2) (qD h1 (qN rfl (qN (qLW ea hle rfl) (fin (decide_eq_true (.inl k2)) _ (by unfold qJr;rw [if_pos k2])))))
   ·rw [if_neg k2] at h1
    refine qT (beq_eq_false_iff_ne.2 k2) ?_
    by_cases k3:c.1=3
    ·exact qN (beq_iff_eq.2 k3) (qD h1 (qN rfl (qN (qLW ea hle rfl) (fin (decide_eq_true (.inr k3)) _ (by unfold qJr;rw [if_neg k2])))))
    ·refine qT (beq_eq_false_iff_ne.2 k3) ?_
     show some _=some _
     rw [w,qH6 he,if_neg (by simp [qCH,k2,k3]),List.append_nil])
  (qT (decide_eq_false (by simp)) (by rw [List.take_length];rfl)) m (by omega)
 rw [qDc] at h
 exact qD h (qN (decide_eq_true (by simp)) rfl)
theorem qFK (l:List Nd) (hl:l.length≤1000) (hs:∀c∈l,qC4 c):Ev (qCz · (l.map qU)) (if qCQ l=true then (l.filter qCH).map qJr else []):=by
 refine qDY (qB3 (R:=fun n=>qDx n (l.map qU)) (qe (qEE l (by omega) (qF6 hs)) ?_) fun n=>rfl)
 cases qCQ l with
 |false=>exact qw rfl (qw rfl (qa rfl))
 |true=>exact qAS rfl (qe (qIb l hl) (qa rfl))
theorem qMa (p q:Int):PlaceCh (mvA p q):=⟨fun c=>rfl,fun c h hk=>(qFx h hk).1,fun c=>rfl⟩
theorem qM3 {f:Nd→Nd} (hf:∀c,qC4 c→qC4 (f c)) {c:Nd} (h:qC4 c):qC4 (chN f c):=by
 unfold chN
 split
 ·split
  ·exact hf c h
  ·exact ⟨by show 0≤2000;decide,by show (⟨#[]⟩:ByteArray).size≤2000;decide⟩
 ·exact h
theorem qM4 {p q:Int} {c:Nd} (h:qC4 c):qC4 (mvA p q c):=h
theorem qF7 {f:Bool} {x d:Int} (hx:1≤x∧x≤99) (hd: -99≤d∧d≤99):shI f (shI f x d) (IntKind.i64.wrap (0-d))=x:=by
 unfold shI
 cases f with
 |true=>rfl
 |false=>
  simp only [Bool.false_eq_true,if_false]
  rw [qY (x:=0-d) (by omega),qY (x:=x+d) (by omega),qY (by omega)]
  omega
theorem qKc {a b:Int} (h:qA3 a b=true):(1≤a∧a≤52)∧(1≤b∧b≤99):=by
 unfold qA3 at h
 simpa using h
theorem qMY {p q:Int} (hp: -52≤p∧p≤52) (hq: -99≤q∧q≤99) {c:Nd} (h:qBQ c=true) (hpl:qCH c=true→plB (mvA p q c)=true):chN (mvA (IntKind.i64.wrap (0-p)) (IntKind.i64.wrap (0-q))) (chN (mvA p q) c)=c:=by
 by_cases hk:c.1=2∨c.1=3
 ·have hpl:=hpl (decide_eq_true hk)
  have hc:=(qFx (p:=p) (q:=q) h hk).2.1
  have e1:chN (mvA p q) c=mvA p q c:=by unfold chN;rw [if_pos hk,if_pos hpl]
  have e2:mvA (IntKind.i64.wrap (0-p)) (IntKind.i64.wrap (0-q)) (mvA p q c)=c:=by
   obtain ⟨k,op,ck,cn,cs,ac,ar,af,ag,bc,br,bf,bg,ks⟩:=c
   dsimp only at hk
   rcases hk with rfl|rfl
   ·have hr:=qKc (show qA3 ac ar=true from hc)
    rw [qLR (by show ¬(2:Int)=3;decide),qLR (by show ¬(2:Int)=3;decide)]
    dsimp only
    rw [qF7 (by omega) (by omega),qF7 (by omega) (by omega)]
    rfl
   ·have ha:qCF ac ar bc br=true:=hc
    unfold qCF at ha
    simp only [Bool.and_eq_true] at ha
    have hr:=qKc ha.1.1.1
    have hr2:=qKc ha.1.1.2
    rw [qLS (c:=mvA p q _) rfl,qLS rfl]
    dsimp only
    rw [qF7 (by omega) (by omega),qF7 (by omega) (by omega),qF7 (by omega) (by omega),qF7 (by omega) (by omega)]
    rfl
  rw [e1]
  unfold chN
  rw [e2,if_pos (show (mvA p q c).1=2∨(mvA p q c).1=3 from hk),if_pos hc]
 ·have e1:chN (mvA p q) c=c:=by unfold chN;rw [if_neg hk]
  rw [e1]
  unfold chN
  rw [if_neg hk]
theorem qJZ {l:List (List PV)} (hl:qFh l):∃(f:List Nd) (p q:Int),(f.length≤60∧∀c∈f,qC4 c)∧Ev (qCi · l) (f.map qU,p,q):=by
 obtain ⟨f,p1,h1,h2,h3⟩:=qLB hl (p:=0) (by omega)
 obtain ⟨o,p2,h4,h5⟩:=qDJ 8 (by decide) hl h1
 cases o with
 |true=>
  obtain ⟨x,p3,h6,_,h7⟩:=qGi (-52) 52 (by decide) hl h4
  obtain ⟨y,p4,h8,_,h9⟩:=qGi (-99) 99 (by decide) hl h6
  exact ⟨f,x,y,h2,qDY (qB3 (R:=fun n=>qBy n l) (qe (qBa (qLD l)) (qe h3 (qe (qBa h5) (qw rfl (qe (qBa h7) (qe (qBa h9) (qa rfl))))))) fun n=>rfl)⟩
 |false=>
  obtain ⟨x,p3,h6,_,h7⟩:=qBG 5 (by decide) hl h4
  obtain ⟨y,p4,h8,_,h9⟩:=qBG 7 (by decide) hl h6
  exact ⟨f,_,_,h2,qDY (qB3 (R:=fun n=>qBy n l) (qe (qBa (qLD l)) (qe h3 (qe (qBa h5) (qAS rfl (qe (qBa h7) (qe (qBa h9) (qa rfl))))))) fun n=>rfl)⟩
theorem qKd (p q:Int) (f:List Nd) (hf:f.length≤1000) (B2:List (List PV)) (hpl:∀c∈f,qCH c=true→chN (mvA p q) c=mvA p q c):∀m,f.length+1≤m→zF (qA8 m) m (f.map qU,p,q,(f.map (chN (mvA p q))).map qU,B2,true,0)=some (.inr (f.map qU,B2,true)):=by
 intro m hm
 have h:=qMV (B:=qA8 m) (fun i=>(f.map qU,p,q,(f.map (chN (mvA p q))).map qU,B2,true,(i:Int))) f (fun _ _=>none) (.inr (f.map qU,B2,true))
  (fun i c he=>by
   have hi:=(List.getElem?_eq_some_iff.1 he).1
   have hg:(f.map qU)[i]?=some (qU c):=by rw [List.getElem?_map,he];rfl
   have hg2:((f.map (chN (mvA p q))).map qU)[i]?=some (qU (chN (mvA p q) c)):=by rw [List.getElem?_map,List.getElem?_map,he];rfl
   obtain ⟨a1,a2⟩:=qJU rfl hg
   obtain ⟨b1,b2⟩:=qJU rfl hg2
   have w:IntKind.i64.wrap ((i:Int)+1)=((i+1:Nat):Int):=by rw [qY (by omega)];omega
   refine qN (decide_eq_true (by simpa using hi)) (qN a1 (qD a2 (qN rfl (qD rfl (qD rfl (qD rfl (qD rfl (qN b1 (qD b2 (qN rfl (qD rfl (qD rfl (qD rfl (qD rfl (qN a1 (qD a2 (qN rfl (qD rfl ?_))))))))))))))))))
   dsimp only
   rw [w]
   by_cases k2:c.1=2
   ·have e:=hpl c (List.mem_of_getElem? he) (decide_eq_true (.inl k2))
    rw [e]
    refine qN (beq_iff_eq.2 k2) ?_
    have eA:(mvA p q c).2.2.2.2.2.1=shI c.2.2.2.2.2.2.2.1 c.2.2.2.2.2.1 p:=rfl
    have eB:(mvA p q c).2.2.2.2.2.2.1=shI c.2.2.2.2.2.2.2.2.1 c.2.2.2.2.2.2.1 q:=rfl
    rw [eA,eB]
    cases c.2.2.2.2.2.2.2.1 with
    |false=>
     refine qN rfl (qT (by simp [shI]) (qT rfl ?_))
     cases c.2.2.2.2.2.2.2.2.1 with
     |false=>exact qN rfl (qT (by simp [shI]) (qT rfl rfl))
     |true=>exact qT rfl (qN rfl (qT (by simp [shI]) rfl))
    |true=>
     refine qT rfl (qN rfl (qT (by simp [shI]) ?_))
     cases c.2.2.2.2.2.2.2.2.1 with
     |false=>exact qN rfl (qT (by simp [shI]) (qT rfl rfl))
     |true=>exact qT rfl (qN rfl (qT (by simp [shI]) rfl))
   ·exact qT (beq_eq_false_iff_ne.2 k2) rfl)
  (qT (decide_eq_false (by simp)) rfl) m hm
 rw [qDc] at h
 exact h
theorem law (rows:List (List PV)) (w:rows.length*1≤140737488351232∧∀r∈rows,okR [.i .u8] r):Ev (qDy · rows) true:=by
 refine qDY (qB3 (R:=fun n=>qCk n rows) (qe (qKh rows) ?_) fun n=>rfl)
 by_cases h:(rows.length:Int)>1048576
 ·exact qw (decide_eq_true h) (qa rfl)
 refine qAS (decide_eq_false h) ?_
 have hl:=qL7 w.2 h
 obtain ⟨f,p,q,⟨f1,f2⟩,hd⟩:=qJZ hl
 have sm:∀(u v:Int) (g:List Nd),(∀c∈g,qC4 c)→∀c∈(mvR u v g).1,qC4 c:=fun u v g hg c hc=>by
  unfold mvR at hc
  split at hc
  ·obtain ⟨x,hx,rfl⟩:=List.mem_map.1 hc
   exact qM3 (fun c h=>qM4 h) (hg x hx)
  ·cases hc
 have ln:∀(u v:Int) (g:List Nd),(mvR u v g).1.length≤g.length:=fun u v g=>by
  unfold mvR
  split
  ·simp
  ·exact Nat.zero_le _
 have same:∀g:List Nd,g.length≤1000→(∀c∈g,qC4 c)→Ev (qAV · (g.map qU) (g.map qU)) true:=fun g h1 h2=>qHN g (by omega) fun c hc=>by have:=(h2 c hc).1;omega
 refine qe hd (qe (qFJ p q f (by omega) f2) (qe (qIa p q f (by omega) f2) (qAS (by simp) (qe (same _ (by have:=ln p q f;omega) (sm p q f f2)) (qAS rfl ?_)))))
 by_cases ho:qCQ f=true∧(-52≤p∧p≤52)∧(-99≤q∧q≤99)
 ·have e:mvR p q f=(f.map (chN (mvA p q)),true):=by unfold mvR;rw [if_pos ho]
  obtain ⟨o1,o2,o3⟩:=ho
  rw [e]
  have hs2:∀c∈f.map (chN (mvA p q)),qC4 c:=by have:=sm p q f f2;rw [e] at this;exact this
  have hf2:=qL5 (qMa p q) o1
  refine qAS rfl (qe (qFK f (by omega) f2) (qe (qFK _ (by simp;omega) hs2) ?_))
  rw [if_pos o1,if_pos hf2,List.length_map,List.length_map]
  obtain ⟨c1,c2⟩:=qL6 (g:=chN (mvA p q)) (fun c h=>(qLV h).1) f
  by_cases hc:((f.map (chN (mvA p q))).filter qCH).length=(f.filter qCH).length
  ·have c3:=c2 hc
   have hpl:∀c∈f,qCH c=true→chN (mvA p q) c=mvA p q c:=fun c hc hp=>(qLV (c3 c hc hp)).2
   have hpl2:∀c∈f,qCH c=true→plB (mvA p q c)=true:=fun c hc hp=>by
    have h1:=c3 c hc hp
    have h2:=hpl c hc hp
    have hn:=(qHQ (qMa p q) ((qDQ o1).2 c hc)).1
    rw [h2,(qFx ((qDQ o1).2 c hc) (of_decide_eq_true hp)).1] at hn
    exact hn
   have eb:mvR (IntKind.i64.wrap (0-p)) (IntKind.i64.wrap (0-q)) (f.map (chN (mvA p q)))=(f,true):=by
    unfold mvR
    rw [if_pos ⟨hf2,by rw [qY (by omega)];omega,by rw [qY (by omega)];omega⟩,List.map_map]
    congr 1
    conv=>rhs;rw [←List.map_id f]
    exact List.map_congr_left fun c hc=>qMY o2 o3 ((qDQ o1).2 c hc) (hpl2 c hc)
   have hb:=qFJ (IntKind.i64.wrap (0-p)) (IntKind.i64.wrap (0-q)) (f.map (chN (mvA p q))) (by simp;omega) hs2
   rw [eb] at hb
   refine qAS (by rw [hc];simp) (qe hb (qe (qBa (k:=f.length+1) fun n hn=>qKd p q f (by omega) _ hpl n hn) ?_))
   exact qMi (qw rfl (qe (same f (by omega) f2) (qa rfl)))
  ·dsimp only
   exact qw (bne_iff_ne.2 (by omega)) (qa (decide_eq_true (by omega)))
 ·have e:mvR p q f=([],false):=by unfold mvR;rw [if_neg ho]
  rw [e]
  exact qw rfl (qw rfl (qe (same [] (by decide) (fun c hc=>by cases hc)) (qa rfl)))
end Go.Proofs.Ythhngmnbcmkhpaa.KFnMovedBack

