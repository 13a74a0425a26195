import Derived.Test.YthhngmnbcmkhpaaGreatDoorTFnFormulaTexts
import Derived.Test.YthhngmnbcmkhpaaGreatDoorE32
import Derived.Lib.Strings
import Derived.Test.YthhngmnbcmkhpaaGreatDoorSFnFormulaTextsp1
namespace Go.Proofs.YthhngmnbcmkhpaaGreatDoor.KFnFormulaTexts
open Go.Eng
set_option linter.unusedVariables false
set_option linter.unusedSimpArgs false
theorem qRF {m:Int} (hm:1≤m∧m≤4) (r:List UInt8):qDX m r qBy=if qAN r≠0∧lvl (qAN r)=m then qAN r else 0:=by
 have hm:m=1∨m=2∨m=3∨m=4:=by omega
 cases r with
 |nil=>rcases hm with rfl|rfl|rfl|rfl<;>simp [qGk,qGl,qGm,qGn,qAN,sgn,qD1,List.find?,List.isPrefixOf]
 |cons c t=>
  have f:∀d:UInt8,c≠d→(d==c)=false:=fun d hd=>by simpa using fun e=>hd e.symm
  by_cases h1:c=60
  ·subst h1
   cases t with
   |nil=>rcases hm with rfl|rfl|rfl|rfl<;>simp [qGk,qGl,qGm,qGn,qAN,qIg,List.isPrefixOf,lvl]
   |cons d t=>
    have g:∀e:UInt8,d≠e→(e==d)=false:=fun e hd=>by simpa using fun x=>hd x.symm
    by_cases hd:d=62
    ·subst hd;rcases hm with rfl|rfl|rfl|rfl<;>simp [qGk,qGl,qGm,qGn,qAN,qIg,List.isPrefixOf,lvl]
    ·by_cases hd2:d=61
     ·subst hd2;rcases hm with rfl|rfl|rfl|rfl<;>simp [qGk,qGl,qGm,qGn,qAN,qIg,List.isPrefixOf,lvl]
     ·rcases hm with rfl|rfl|rfl|rfl<;>simp [qGk,qGl,qGm,qGn,qAN,qIg,List.isPrefixOf,lvl,hd,hd2,g _ hd,g _ hd2]
  ·by_cases h2:c=62
   ·subst h2
    cases t with
    |nil=>rcases hm with rfl|rfl|rfl|rfl<;>simp [qGk,qGl,qGm,qGn,qAN,qLi,List.isPrefixOf,lvl]
    |cons d t=>
     have g:∀e:UInt8,d≠e→(e==d)=false:=fun e hd=>by simpa using fun x=>hd x.symm
     by_cases hd2:d=61
     ·subst hd2;rcases hm with rfl|rfl|rfl|rfl<;>simp [qGk,qGl,qGm,qGn,qAN,qLi,List.isPrefixOf,lvl]
     ·rcases hm with rfl|rfl|rfl|rfl<;>simp [qGk,qGl,qGm,qGn,qAN,qLi,List.isPrefixOf,lvl,hd2,g _ hd2]
   ·by_cases h:c∈([61,38,43,45,42,47,40,41,44,58]:List UInt8)
    ·have hs:sgn (c::t)= [c]:=by rw [qET c t h1 h2,if_pos h]
     simp only [List.mem_cons,List.not_mem_nil,or_false] at h
     rcases h with rfl|rfl|rfl|rfl|rfl|rfl|rfl|rfl|rfl|rfl<;>rcases hm with rfl|rfl|rfl|rfl<;>
      simp [qGk,qGl,qGm,qGn,qAN,hs,List.isPrefixOf,lvl]
    ·have hs:sgn (c::t)= []:=by rw [qET c t h1 h2,if_neg h]
     simp only [List.mem_cons,List.not_mem_nil,or_false,not_or] at h
     obtain ⟨a1,a2,a3,a4,a5,a6,a7,a8,a9,a10⟩:=h
     rcases hm with rfl|rfl|rfl|rfl<;>
      simp [qGk,qGl,qGm,qGn,qAN,hs,List.isPrefixOf,f _ h1,f _ h2,f _ a1,f _ a2,f _ a3,f _ a4,f _ a5,f _ a6]
theorem qOX {op:Int}:1≤lvl op∧lvl op≤4:=by unfold lvl;split<;>(try split)<;>(try split)<;>omega
def qKn (p:PS):Prop:=p.2.1=true∨∃x∈p.2.2,qB2 x=false
theorem qCZ {x:Nd} {p:PS} (h:qKn p):qKn (qCt x p).2:=by
 unfold qCt
 split
 ·exact .inl rfl
 ·rename_i hn
  rcases h with h|⟨y,hy,hb⟩
  ·exact absurd (.inl h) hn
  ·exact .inr ⟨y,List.mem_append_left _ hy,hb⟩
theorem qD5 {w:List UInt8} {p:PS} (h:qKn p):qKn (qX w p).2:=by unfold qX;split<;>exact h
theorem qE5 (p:PS):qKn (qPT p):= .inl rfl
theorem qHA {w:List UInt8} {p:PS} (h:qKn p):qKn (qBw w p):=by
 unfold qBw
 split
 ·exact h
 ·split
  ·exact qD5 h
  ·exact qE5 _
theorem qNy {p:PS} (h:qKn p):qKn (qAz p).2:=by
 unfold qAz
 simp only
 split
 ·rcases h with h|h
  ·left
   simp only [Bool.or_eq_true]
   left
   have:(qX [58] (wr (tb p.1),p.2)).2.2=p.2:=by unfold qX;split<;>rfl
   rw [this];exact h
  ·right
   have:(qX [58] (wr (tb p.1),p.2)).2.2=p.2:=by unfold qX;split<;>rfl
   simp only [this]
   exact h
 ·exact h
theorem qCh:∀(f:Nat) (j:PJ) (p:PS),qKn p→qKn (pP f j p).2
 |0,j,p,h=>h
 |f+1,.bin least deep,p,h=>by
  simp only [pP]
  exact qCh f _ _ (qCh f _ _ h)
 |f+1,.loop least deep a,p,h=>by
  simp only [pP]
  split
  ·exact h
  ·split
   ·exact h
   ·exact qCh f _ _ (qCZ (qCh f _ _ h))
 |f+1,.un deep,p,h=>by
  simp only [pP]
  split
  ·exact qE5 _
  ·split
   ·exact qCZ (qCh f _ _ (qD5 h))
   ·exact qCh f _ _ (qD5 h)
 |f+1,.at deep,p,h=>by
  simp only [pP]
  split
  ·split
   ·exact .inl rfl
   ·exact qCZ h
  ·split
   ·exact qCZ h
   ·split
    ·exact qHA (qCh f _ _ (qD5 h))
    ·split
     ·exact qCZ h
     ·split
      ·exact qCZ h
      ·split
       ·exact qCh f _ _ h
       ·exact qE5 _
 |f+1,.call op deep,p,h=>by
  simp only [pP]
  exact qCh f _ _ (qHA h)
 |f+1,.args op deep kids,p,h=>by
  simp only [pP]
  have hq:qKn (qDN (qAz p) (fun p=>pP f (.bin 1 (deep+1)) p)).2:=by
   unfold qDN
   split
   ·exact qCZ (qNy h)
   ·exact qCh f _ _ (qNy h)
  revert hq
  generalize qDN (qAz p) (fun p=>pP f (.bin 1 (deep+1)) p)=q
  intro hq
  split
  ·exact qCZ h
  ·split
   ·exact qCh f _ _ (qD5 hq)
   ·exact qCZ (qHA (qD5 hq))
theorem qA1 (x:Nd) (p:PS):(qCt x p).2.1=p.1:=by unfold qCt;split<;>rfl
theorem qDY (w:List UInt8) (p:PS):(tb (qX w p).2.1).length≤(tb p.1).length:=by
 unfold qX
 split
 ·refine Nat.le_trans (qy _) ?_
  simp
 ·simp only;rw [qCH];exact Nat.le_refl _
theorem qIq (w:List UInt8) (p:PS):(tb (qBw w p).1).length≤(tb p.1).length:=by
 unfold qBw
 split
 ·exact Nat.le_refl _
 ·split
  ·exact qDY w p
  ·exact qDY w p
theorem qHB (p:PS):(tb (qAz p).2.1).length≤(tb p.1).length:=by
 unfold qAz
 simp only
 split
 ·simp only
  refine Nat.le_trans (qy _) (Nat.le_trans (qF1 _) (Nat.le_trans (qDY [58] _) ?_))
  exact Nat.le_trans (qy _) (qF1 _)
 ·exact Nat.le_refl _
theorem qIr:∀(acc r:List UInt8) {s t:List UInt8},qBh acc r=some (s,t)→t.length<r.length
 |acc,[],s,t,h=>by simp [qBh] at h
 |acc,c::r,s,t,h=>by
  unfold qBh at h
  by_cases hc:c=34
  ·rw [if_pos hc] at h
   match r,h with
   | [],h=>simp only [Option.some.injEq,Prod.mk.injEq] at h;rw [←h.2];simp
   |d::t',h=>
    simp only at h
    by_cases hd:d=34
    ·rw [if_pos hd] at h
     have:=qIr _ t' h
     simp only [List.length_cons];omega
    ·rw [if_neg hd] at h
     simp only [Option.some.injEq,Prod.mk.injEq] at h
     rw [←h.2];simp
  ·rw [if_neg hc] at h
   have:=qIr _ r h
   simp only [List.length_cons];omega
theorem qDP:∀(f:Nat) (j:PJ) (p:PS),(tb (pP f j p).2.1).length≤(tb p.1).length
 |0,j,p=>Nat.le_refl _
 |f+1,.bin least deep,p=>by
  simp only [pP]
  exact Nat.le_trans (qDP f _ _) (qDP f _ _)
 |f+1,.loop least deep a,p=>by
  simp only [pP]
  split
  ·exact Nat.le_refl _
  ·split
   ·simp only;rw [qCH];exact Nat.le_refl _
   ·refine Nat.le_trans (qDP f _ _) ?_
    rw [qA1]
    refine Nat.le_trans (qDP f _ _) (Nat.le_trans (qy _) ?_)
    simp
 |f+1,.un deep,p=>by
  simp only [pP]
  split
  ·exact Nat.le_refl _
  ·split
   ·rw [qA1]
    exact Nat.le_trans (qDP f _ _) (qDY _ _)
   ·exact Nat.le_trans (qDP f _ _) (qDY _ _)
 |f+1,.at deep,p=>by
  simp only [pP]
  split
  ·split
   ·simp only;rw [qCH];exact Nat.le_refl _
   ·rename_i s t hq
    rw [qA1]
    have:=qIr _ _ hq
    refine Nat.le_trans (qy _) ?_
    have h2:((tb p.1).tail).length≤(tb p.1).length:=by simp
    simp only;omega
  ·split
   ·rw [qA1]
    refine Nat.le_trans (qy _) ?_
    simp
   ·split
    ·exact Nat.le_trans (qIq _ _) (Nat.le_trans (qDP f _ _) (qDY _ _))
    ·have hw:(tb (wr (tb p.1))).length≤(tb p.1).length:=Nat.le_trans (qy _) (qF1 _)
     split
     ·rw [qA1];exact hw
     ·split
      ·rw [qA1];exact hw
      ·split
       ·exact Nat.le_trans (qDP f _ _) hw
       ·exact hw
 |f+1,.call op deep,p=>by
  simp only [pP]
  exact Nat.le_trans (qDP f _ _) (qIq _ _)
 |f+1,.args op deep kids,p=>by
  simp only [pP]
  have hq:(tb (qDN (qAz p) (fun p=>pP f (.bin 1 (deep+1)) p)).2.1).length≤(tb p.1).length:=by
   unfold qDN
   split
   ·rw [qA1];exact qHB p
   ·exact Nat.le_trans (qDP f _ _) (qHB p)
  revert hq
  generalize qDN (qAz p) (fun p=>pP f (.bin 1 (deep+1)) p)=q
  intro hq
  split
  ·rw [qA1];exact Nat.le_refl _
  ·split
   ·exact Nat.le_trans (qDP f _ _) (Nat.le_trans (qDY _ _) hq)
   ·rw [qA1]
    exact Nat.le_trans (qIq _ _) (Nat.le_trans (qDY _ _) hq)
structure RdOK:Prop where
 v:∀w:List UInt8,w.all wch=true→w≠ []→(qh (BR w)).2.2.2=true→(qh (BR w)).1=1∨(qh (BR w)).1=3
 v0:¬((qh (BR [])).1=1∨(qh (BR [])).1=3)
 p0:(qAt (BR [])).2.2.2.2=false
 f:∀w op,qE4 w 1 10=some op→(qh (BR w)).2.2.2=false∧(qAt (BR w)).2.2.2.2=false
 f0:qE4 [] 1 10=none
 n:∀n:Int,1≤n∧n≤5→∃t,(qZ n).toList=35::t
def Lk (p q:PS):Prop:=p.2.1=false∧q.2.1=false∧p.2.2=q.2.2∧tb p.1=tb q.1
def Sim (a b:Int×PS):Prop:=(a.1=b.1∧Lk a.2 b.2)∨(b.2.2.1=true∧qKn a.2)
def qSA (least:Int) (p:PS):Prop:=qAN (tb p.1)=0∨lvl (qAN (tb p.1))<least
def SimP (least:Int) (a b:Int×PS):Prop:=(a.1=b.1∧Lk a.2 b.2∧qSA least a.2)∨(b.2.2.1=true∧qKn a.2)
theorem SimP.sim {least:Int} {a b:Int×PS} (h:SimP least a b):Sim a b:=h.elim (fun h=> .inl ⟨h.1,h.2.1⟩) .inr
theorem qKo {x:Nd} {q:PS} (h:q.2.1=true):(qDq x q).2.2.1=true:=by
 unfold qDq;simp only;split
 ·rfl
 ·exact h
theorem qHc {w:List UInt8} {q:PS} (h:q.2.1=true):sIs w q=(false,tb q.1,q.2):=by unfold sIs;rw [if_pos h]
theorem qLj:∀(g:Nat) (j:SJ) (q:PS),q.2.1=true→(sP g j q).2.2.1=true
 |0,j,q,h=>h
 |g+1,.row level,q,h=>by simp only [sP];rw [if_pos h];exact h
 |g+1,.rl level a,q,h=>by simp only [sP];rw [if_pos h];exact h
 |g+1,.one,q,h=>by
  simp only [sP]
  rw [qHc (w:= [45]) h]
  simp only [Bool.false_eq_true,if_false]
  rw [qHc (w:= [40]) (q:=(tb q.1,q.2)) h]
  simp only [Bool.false_eq_true,if_false]
  rw [qHc (w:= [34]) (q:=(tb q.1,q.2)) h]
  simp only [Bool.false_eq_true,if_false]
  rw [qHc (w:= [35]) (q:=(tb q.1,q.2)) h]
  simp only [Bool.false_eq_true,if_false]
  split
  ·rw [qHc (w:= [40]) (q:=(wr (tb q.1),q.2)) h]
   simp [qJ4]
  ·split
   ·exact qKo h
   ·split
    ·exact qKo h
    ·rfl
 |g+1,.call op kids,q,h=>by simp only [sP];rw [if_pos h];exact h
 |g+1,.arg,q,h=>by
  simp only [sP]
  rw [qHc (w:= [58]) (q:=(wr (tb q.1),q.2)) h]
  simp only [Bool.false_eq_true,and_false,if_false]
  exact qLj g _ _ h
theorem qHd {x:Nd} {p q:PS} (h:Lk p q):Sim (qCt x p) (qDq x q):=by
 obtain ⟨h1,h2,h3,h4⟩:=h
 unfold qCt qDq
 rw [h1,h2,h3]
 by_cases hl:60≤q.2.2.length
 ·refine .inr ⟨?_,.inl ?_⟩
  ·simp only;rw [if_pos (.inl (by omega))]
  ·rw [if_pos (.inr hl)]
 ·rw [if_neg (by simp;omega)]
  by_cases hn:qB2 x=false
  ·exact .inr ⟨by simp only;rw [if_pos (.inr hn)],.inr ⟨x,by simp,hn⟩⟩
  ·refine .inl ⟨rfl,rfl,?_,rfl,h4⟩
   simp only
   rw [if_neg]
   intro e
   rcases e with e|e
   ·omega
   ·exact hn e
theorem qO2 {a b:Int×PS} (f:Int→Nd) (h:Sim a b):Sim (qCt (f a.1) a.2) (qDq (f b.1) b.2):=by
 rcases h with ⟨h1,h2⟩|⟨h1,h2⟩
 ·rw [h1];exact qHd h2
 ·exact .inr ⟨qKo h1,qCZ h2⟩
theorem qIs {c:UInt8} (hc:c∈([45,40,41,44,58]:List UInt8)) {p q:PS} (h:Lk p q):(qX [c] p).1=(sIs [c] q).1∧Lk (qX [c] p).2 (sIs [c] q).2:=by
 obtain ⟨h1,h2,h3,h4⟩:=h
 obtain ⟨e1,e2,e3,e4⟩:=qRE hc h2 h4
 refine ⟨e1,?_,?_,?_,?_⟩
 ·rw [e3];exact h1
 ·rw [e4];exact h2
 ·rw [e3,e4];exact h3
 ·rw [e2]
theorem qO3 {c:UInt8} (hc:c∈([45,40,41,44,58]:List UInt8)) {a b:Int×PS} (h:Sim a b):Sim (a.1,qBw [c] a.2) (b.1,if (sIs [c] b.2).1=true then (sIs [c] b.2).2 else qJ4 (sIs [c] b.2).2):=by
 rcases h with ⟨h1,h2⟩|⟨h1,h2⟩
 ·obtain ⟨e1,e2⟩:=qIs hc h2
  unfold qBw
  rw [if_neg (by rw [h2.1];simp),e1]
  by_cases ht:(sIs [c] b.2).1=true
  ·rw [if_pos ht,if_pos ht]
   exact .inl ⟨h1,e2⟩
  ·rw [if_neg ht,if_neg ht]
   exact .inr ⟨rfl,qE5 _⟩
 ·refine .inr ⟨?_,qHA h2⟩
  rw [qHc h1]
  simp [qJ4]
def qIA (G:Nat) (least:Int):Nat→Int×PS→Int×PS→Prop
 |0,x,res=>res=x
 |m+1,x,res=>if ((m:Int)+1)<least then res=x else ∃g,G≤g∧qIA G least m (sP g (.rl ((m:Int)+1) x.1) x.2) res
theorem qLk {G G':Nat} (h:G'≤G) {least:Int}:∀(m:Nat) {x res:Int×PS},qIA G least m x res→qIA G' least m x res
 |0,x,res,ht=>ht
 |m+1,x,res,ht=>by
  unfold qIA at ht⊢
  split
  ·rename_i hc;rw [if_pos hc] at ht;exact ht
  ·rename_i hc
   rw [if_neg hc] at ht
   obtain ⟨g,h1,h2⟩:=ht
   exact ⟨g,Nat.le_trans h h1,qLk h m h2⟩
theorem qKp {G:Nat} {least:Int}:∀(m:Nat) {x res:Int×PS},x.2.2.1=true→qIA G least m x res→res.2.2.1=true
 |0,x,res,hb,ht=>by unfold qIA at ht;rw [ht];exact hb
 |m+1,x,res,hb,ht=>by
  unfold qIA at ht
  split at ht
  ·rw [ht];exact hb
  ·obtain ⟨g,_,h2⟩:=ht
   exact qKp m (qLj g _ _ hb) h2
theorem qNz {G:Nat} {l:Nat} (hl0:1≤l) {g:Nat} (hg:G≤g):∀(m:Nat) {x y:Int×PS},l≤m→qIA G ((l:Int)+1) m x y→qIA G (l:Int) m x (sP g (.rl (l:Int) y.1) y.2)
 |0,x,y,hl,ht=>by omega
 |m+1,x,y,hl,ht=>by
  unfold qIA at ht⊢
  rw [if_neg (by omega)]
  by_cases e:l=m+1
  ·subst e
   rw [if_pos (by omega)] at ht
   subst ht
   refine ⟨g,hg,?_⟩
   have key:∀{z:Int×PS},qIA G ((m+1:Nat):Int) m z z:=fun {z}=>by
    cases m with
    |zero=>rfl
    |succ k=>unfold qIA;rw [if_pos (by omega)]
   exact key
  ·rw [if_neg (by omega)] at ht
   obtain ⟨g',h1,h2⟩:=ht
   exact ⟨g',h1,qNz hl0 hg m (by omega) h2⟩
theorem qO4 {G:Nat} {q:PS} (hq:q.2.1=false):∀(k:Nat),k≤4→∀g,G+k≤g→∃g5,G≤g5∧qIA G (5-(k:Int)) 4 (sP g5 (.row 5) q) (sP g (.row (5-(k:Int))) q)
 |0,_,g,hg=>⟨g,hg,by
  unfold qIA
  rw [if_pos (by decide)]
  simp⟩
 |k+1,hk,0,hg=>by omega
 |k+1,hk,g+1,hg=>by
  obtain ⟨g5,h1,h2⟩:=qO4 (G:=G) hq k (by omega) g (by omega)
  refine ⟨g5,h1,?_⟩
  have e:(5-((k+1:Nat):Int))=((4-k:Nat):Int):=by omega
  have e1:(5-(k:Int))=((4-k:Nat):Int)+1:=by omega
  rw [e1] at h2
  rw [e]
  have:=qNz (G:=G) (l:=4-k) (by omega) (g:=g) (by omega) 4 (by omega) h2
  have e2:sP (g+1) (.row ((4-k:Nat):Int)) q=sP g (.rl ((4-k:Nat):Int) (sP g (.row (((4-k:Nat):Int)+1)) q).1) (sP g (.row (((4-k:Nat):Int)+1)) q).2:=by
   simp only [sP]
   rw [if_neg (by rw [hq];simp),if_neg (by omega)]
  rw [e2]
  exact this
theorem qQh (H:RdOK) {r:List UInt8} (h:r.head?=some 35):∀(k:Nat) (n:Int),1≤n→n+k≤6→qO1 r.tail n k=qGK r n k
 |0,n,_,_=>rfl
 |k+1,n,h1,h2=>by
  obtain ⟨t,ht⟩:=H.n n ⟨h1,by omega⟩
  cases r with
  |nil=>cases h
  |cons c r=>
   simp only [List.head?_cons,Option.some.injEq] at h
   subst h
   simp only [qO1,qGK,ht,List.tail_cons]
   have ih:=qQh H (r:=35::r) rfl k (n+1) (by omega) (by omega)
   simp only [List.tail_cons] at ih
   rw [ih]
   simp [List.isPrefixOf]
theorem qO5 {r:List UInt8}:∀(k:Nat) (n:Int) {m:Int},qGK r n k=some m→n≤m∧m<n+k
 |0,n,m,h=>by cases h
 |k+1,n,m,h=>by
  simp only [qGK] at h
  split at h
  ·simp only [Option.some.injEq] at h;omega
  ·have:=qO5 k (n+1) h;omega
theorem qDr (c:UInt8) (r:List UInt8):([c].isPrefixOf r=true)↔r.head?=some c:=by
 cases r with
 |nil=>simp [List.isPrefixOf]
 |cons d t=>simp [List.isPrefixOf];exact eq_comm
theorem qKq {c:UInt8} {q:PS} (hb:q.2.1=false):(sIs [c] q).1=true↔(tb q.1).head?=some c:=by
 unfold sIs
 rw [if_neg (by rw [hb];simp)]
 split
 ·rename_i h;exact ⟨fun _=>(qDr c _).1 h,fun _=>rfl⟩
 ·rename_i h;exact ⟨fun e=>(by cases e),fun e=>absurd ((qDr c _).2 e) h⟩
theorem qPW (r:List UInt8):(wd r).all wch=true:=by
 unfold wd
 induction r with
 |nil=>rfl
 |cons c r ih=>
  by_cases h:wch c=true
  ·simp only [List.takeWhile_cons,h,if_true,List.all_cons,Bool.true_and];exact ih
  ·simp [List.takeWhile_cons,h]
def qRG (N:Nat):Prop:=∀(p q:PS) (deep:Int) (f g:Nat),Lk p q→(tb p.1).length=N→0≤deep→deep+N≤400→20*N+4≤f→20*N+5≤g→Sim (pP f (.un deep) p) (sP g (.row 5) q)
def qRH (N:Nat):Prop:=∀(m:Nat),m≤4→∀(p q:PS) (deep least a:Int) (f:Nat) (res:Int×PS),Lk p q→(tb p.1).length=N→1≤least→0≤deep→deep+N≤400→20*N+5≤f→
 (qAN (tb p.1)=0∨lvl (qAN (tb p.1))≤m)→qIA (20*N+5) least m (a,q) res→SimP least (pP f (.loop least deep a) p) res
def qQi (N:Nat):Prop:=∀(p q:PS) (deep:Int) (k f g:Nat),k≤4→Lk p q→(tb p.1).length=N→0≤deep→deep+N≤400→20*N+6≤f→20*N+10≤g→SimP (5-(k:Int)) (pP f (.bin (5-(k:Int)) deep) p) (sP g (.row (5-(k:Int))) q)
def qRI (N:Nat):Prop:=∀(p q:PS) (deep op:Int) (kids:List Int) (f g:Nat),Lk p q→(tb p.1).length=N→0≤deep→deep+N+1≤400→20*N+8≤f→20*N+12≤g→Sim (pP f (.args op deep kids) p) (sP g (.call op kids) q)
theorem qST (N:Nat) (hB:∀M,M<N→qQi M) (hT:∀M,M<N→qRH M):qRH N:=by
 intro m
 induction m with
 |zero=>
  intro hm p q deep least a f res hl hN hle hd hdN hf hpk ht
  have h0:qAN (tb p.1)=0:=by
   rcases hpk with h|h
   ·exact h
   ·have:=(qOX (op:=qAN (tb p.1))).1
    omega
  cases f with
  |zero=>omega
  |succ f=>
   simp only [pP]
   rw [if_neg (by rw [hl.1];simp),if_pos (.inl h0)]
   unfold qIA at ht
   subst ht
   refine .inl ⟨rfl,⟨hl.1,hl.2.1,hl.2.2.1,?_⟩,.inl ?_⟩
   ·simp only;rw [qCH];exact hl.2.2.2
   ·simp only;rw [qCH];exact h0
 |succ m ih=>
  intro hm p q deep least a f res hl hN hle hd hdN hf hpk ht
  unfold qIA at ht
  by_cases hc:(m:Int)+1<least
  ·rw [if_pos hc] at ht
   subst ht
   cases f with
   |zero=>omega
   |succ f=>
    have hst:qAN (tb p.1)=0∨lvl (qAN (tb p.1))<least:=by
     rcases hpk with h|h
     ·exact .inl h
     ·right;push_cast at h;omega
    simp only [pP]
    rw [if_neg (by rw [hl.1];simp),if_pos hst]
    refine .inl ⟨rfl,⟨hl.1,hl.2.1,hl.2.2.1,?_⟩,?_⟩
    ·simp only;rw [qCH];exact hl.2.2.2
    ·unfold qSA;simp only;rw [qCH];exact hst
  ·rw [if_neg hc] at ht
   obtain ⟨g,hg,ht⟩:=ht
   cases g with
   |zero=>omega
   |succ g=>
    have hin:=qRF (m:=(m:Int)+1) (by omega) (tb q.1)
    have hpq:tb p.1=tb q.1:=hl.2.2.2
    simp only [sP] at ht
    rw [if_neg (by rw [hl.2.1];simp)] at ht
    have ho:sOp ((m:Int)+1) q=(qDX ((m:Int)+1) (tb q.1) qBy,(if qDX ((m:Int)+1) (tb q.1) qBy=0 then tb q.1 else (tb q.1).drop (qj (qDX ((m:Int)+1) (tb q.1) qBy)).size),q.2):=by
     unfold sOp;rw [if_neg (by rw [hl.2.1];simp)]
    by_cases hop:qAN (tb q.1)≠0∧lvl (qAN (tb q.1))=(m:Int)+1
    ·rw [if_pos hop] at hin
     rw [hin,if_neg hop.1] at ho
     rw [ho] at ht
     simp only at ht
     rw [if_neg hop.1] at ht
     cases f with
     |zero=>omega
     |succ f=>
      simp only [pP]
      rw [if_neg (by rw [hl.1];simp),if_neg (by rw [hpq];exact fun e=>e.elim (fun e=>hop.1 e) (fun e=>by have:=hop.2;omega))]
      rw [hpq]
      rcases qPu (tb q.1) with h0|⟨_,_,hsg⟩
      ·exact absurd h0 hop.1
      have hsz:(sgn (tb q.1)).length=(qj (qAN (tb q.1))).size:=by rw [hsg,qAl]
      have hpos:0<(sgn (tb q.1)).length:=by
       cases hh:sgn (tb q.1) with
       |nil=>
        exfalso
        apply hop.1
        unfold qAN
        rw [hh]
        simp
       |cons c t=>simp
      have hdrop:(tb ((tb q.1).drop (sgn (tb q.1)).length)).length<N:=by
       have h1:=qy ((tb q.1).drop (sgn (tb q.1)).length)
       have h2:(sgn (tb q.1)).length≤(tb q.1).length∨(tb q.1).length<(sgn (tb q.1)).length:=by omega
       rw [List.length_drop] at h1
       have h3:(tb q.1).length=N:=by rw [←hpq];exact hN
       have h4:0<N:=by
        rcases Nat.eq_zero_or_pos N with h|h
        ·exfalso
         rw [h] at h3
         have:tb q.1= []:=List.eq_nil_of_length_eq_zero h3
         apply hop.1
         rw [this];rfl
        ·exact h
       omega
      have hlk:Lk ((tb q.1).drop (sgn (tb q.1)).length,p.2) ((tb q.1).drop (qj (qAN (tb q.1))).size,q.2):=⟨hl.1,hl.2.1,hl.2.2.1,by simp only;rw [hsz]⟩
      have hb:=hB _ hdrop ((tb q.1).drop (sgn (tb q.1)).length,p.2) ((tb q.1).drop (qj (qAN (tb q.1))).size,q.2) deep (3-m) f g (by omega) hlk rfl hd (by omega) (by omega) (by omega)
      have e5:(5-((3-m:Nat):Int))=(m:Int)+1+1:=by omega
      rw [e5] at hb
      rw [hop.2]
      have hlenA:=qDP f (.bin ((m:Int)+1+1) deep) ((tb q.1).drop (sgn (tb q.1)).length,p.2)
      generalize pP f (.bin ((m:Int)+1+1) deep) ((tb q.1).drop (sgn (tb q.1)).length,p.2)=A at hb hlenA⊢
      generalize hBB:sP g (.row ((m:Int)+1+1)) ((tb q.1).drop (qj (qAN (tb q.1))).size,q.2)=B at hb ht
      rcases hb with ⟨b1,b2,b3⟩|⟨b1,b2⟩
      ·rw [b1]
       have hs:=qHd (x:=ndK 5 (qAN (tb q.1)) [a,B.1]) b2
       generalize hC:qCt (ndK 5 (qAN (tb q.1)) [a,B.1]) A.2=C at hs⊢
       generalize qDq (ndK 5 (qAN (tb q.1)) [a,B.1]) B.2=D at hs ht
       rcases hs with ⟨c1,c2⟩|⟨c1,c2⟩
       ·have hrC:C.2.1=A.2.1:=by rw [←hC];exact qA1 _ _
        have hN3:(tb C.2.1).length<N:=by
         rw [hrC]
         exact Nat.lt_of_le_of_lt hlenA hdrop
        refine hT _ hN3 (m+1) hm C.2 D.2 deep least C.1 f res c2 rfl hle hd (by omega) (by omega) ?_ ?_
        ·rw [hrC]
         rcases b3 with h|h
         ·exact .inl h
         ·right;push_cast;omega
        ·rw [c1]
         unfold qIA
         rw [if_neg hc]
         exact ⟨g,by omega,qLk (by omega) m ht⟩
       ·exact .inr ⟨qKp _ (qLj g _ _ c1) ht,qCh f _ _ c2⟩
      ·exact .inr ⟨qKp _ (qLj g _ _ (qKo b1)) ht,qCh f _ _ (qCZ b2)⟩
    ·rw [if_neg hop] at hin
     rw [hin,if_pos rfl] at ho
     rw [ho] at ht
     simp only at ht
     rw [if_pos trivial] at ht
     refine ih (by omega) p (tb q.1,q.2) deep least a f res ⟨hl.1,hl.2.1,hl.2.2.1,by simp only;rw [qCH];exact hpq⟩ hN hle hd hdN hf ?_ ht
     rw [hpq]
     rw [hpq] at hpk
     by_cases h0:qAN (tb q.1)=0
     ·exact .inl h0
     ·right
      rcases hpk with h|h
      ·exact absurd h h0
      ·have:lvl (qAN (tb q.1))≠(m:Int)+1:=fun e=>hop ⟨h0,e⟩
       push_cast at h
       omega
theorem qRJ (N:Nat) (hA:qRG N) (hT:∀M,M≤N→qRH M):qQi N:=by
 intro p q deep k f g hk hl hN hd hdN hf hg
 obtain ⟨g5,hg5,ht⟩:=qO4 (G:=20*N+5) hl.2.1 k hk g (by omega)
 cases f with
 |zero=>omega
 |succ f=>
  simp only [pP]
  have ha:=hA p q deep f g5 hl hN hd hdN (by omega) hg5
  have hlen:=qDP f (.un deep) p
  generalize pP f (.un deep) p=A at ha hlen⊢
  generalize sP g5 (.row 5) q=B at ha ht
  rcases ha with ⟨h1,h2⟩|⟨h1,h2⟩
  ·have hM:(tb A.2.1).length≤N:=by omega
   refine hT _ hM 4 (by omega) A.2 B.2 deep (5-(k:Int)) A.1 f _ h2 rfl (by omega) hd (by omega) (by omega) (.inr ?_) ?_
   ·have:=(qOX (op:=qAN (tb A.2.1))).2;omega
   ·rw [h1];exact qLk (by omega) 4 ht
  ·exact .inr ⟨qKp 4 h1 ht,qCh f _ _ h2⟩
theorem qRK (H:RdOK) (N:Nat) (hB:qQi N) (hC:∀M,M<N→qRI M):qRI N:=by
 intro p q deep op kids f g hl hN hd hdN hf hg
 cases f with
 |zero=>omega
 |succ f=>
 cases g with
 |zero=>omega
 |succ g=>
 cases g with
 |zero=>omega
 |succ g=>
 have hpq:=hl.2.2.2
 have hpb:¬p.2.1=true:=by rw [hl.1];simp
 have hqb:¬q.2.1=true:=by rw [hl.2.1];simp
 have harg:Sim (qDN (qAz p) (fun p=>pP f (.bin 1 (deep+1)) p)) (sP (g+1) .arg q)∧(tb (qDN (qAz p) (fun p=>pP f (.bin 1 (deep+1)) p)).2.1).length≤N:=by
  refine ⟨?_,?_⟩
  ·have hw:Lk (wr (tb p.1),p.2) (wr (tb q.1),q.2):=⟨hl.1,hl.2.1,hl.2.2.1,by rw [hpq]⟩
   obtain ⟨e1,e2⟩:=qIs (c:=58) (by decide) hw
   simp only [sP]
   unfold qDN qAz
   simp only
   rw [hpq] at e1 e2⊢
   by_cases hc:(qAt (BR (wd (tb q.1)))).2.2.2.2=true∧(qX [58] (wr (tb q.1),p.2)).1=true
   ·rw [if_pos hc,if_pos ⟨hc.1,e1▸hc.2⟩]
    simp only
    rw [e2.2.2.2]
    by_cases h2:(qAt (BR (wd (tb (sIs [58] (wr (tb q.1),q.2)).2.1)))).2.2.2.2=true
    ·rw [if_pos h2,h2]
     simp only [Bool.not_true,Bool.or_false]
     exact qHd ⟨e2.1,e2.2.1,e2.2.2.1,rfl⟩
    ·rw [if_neg h2]
     refine .inr ⟨rfl,qCZ (.inl ?_)⟩
     simp only
     have h2:(qAt (BR (wd (tb (sIs [58] (wr (tb q.1),q.2)).2.1)))).2.2.2.2=false:=by simpa using h2
     rw [h2];simp
   ·rw [if_neg hc,if_neg (fun e=>hc ⟨e.1,e1.symm▸e.2⟩)]
    simp only
    have:=hB p (tb q.1,q.2) (deep+1) 4 f g (by omega) ⟨hl.1,hl.2.1,hl.2.2.1,by simp only;rw [qCH];exact hpq⟩ hN (by omega) (by omega) (by omega) (by omega)
    exact this.sim
  ·unfold qDN
   split
   ·rw [qA1];have:=qHB p;omega
   ·have h1:=qDP f (.bin 1 (deep+1)) (qAz p).2
    have h2:=qHB p
    exact Nat.le_trans h1 (by omega)
 obtain ⟨harg,hal⟩:=harg
 simp only [pP]
 rw [if_neg hpb]
 have hs:sP (g+1+1) (.call op kids) q=(if (sIs [41] (sP (g+1) .arg q).2).1=true then qDq (ndK 6 op (kids++ [(sP (g+1) .arg q).1])) (sIs [41] (sP (g+1) .arg q).2).2
  else sP (g+1) (.call op (kids++ [(sP (g+1) .arg q).1])) (if (sIs [44] (sIs [41] (sP (g+1) .arg q).2).2).1=true then (sIs [44] (sIs [41] (sP (g+1) .arg q).2).2).2 else qJ4 (sIs [44] (sIs [41] (sP (g+1) .arg q).2).2).2)):=by
  rw [sP]
  rw [if_neg hqb]
 rw [hs]
 generalize qDN (qAz p) (fun p=>pP f (.bin 1 (deep+1)) p)=Q at harg hal⊢
 generalize sP (g+1) .arg q=A at harg⊢
 rcases harg with ⟨h1,h2⟩|⟨h1,h2⟩
 ·have hb2:=h2.2.1
  obtain ⟨c1,c2⟩:=qIs (c:=44) (by decide) h2
  have i41:=qKq (c:=41) hb2
  have i44:=qKq (c:=44) hb2
  by_cases hc:(qX [44] Q.2).1=true
  ·rw [if_pos hc]
   have hh:=i44.1 (c1▸hc)
   have n41:¬(sIs [41] A.2).1=true:=fun e=>by rw [i41.1 e] at hh;cases hh
   rw [if_neg n41]
   have e41:(sIs [41] A.2).2=(tb A.2.1,A.2.2):=by
    unfold sIs at n41⊢
    rw [if_neg (by rw [hb2];simp)] at n41⊢
    split
    ·rename_i hx;rw [if_pos hx] at n41;exact absurd rfl n41
    ·rfl
   rw [e41]
   have e44:sIs [44] (tb A.2.1,A.2.2)=sIs [44] A.2:=by unfold sIs;simp only [qCH]
   rw [e44,if_pos (c1▸hc),h1]
   have hlt:=qDO (w:= [44]) (by simp) hc
   have htb:=qy (qX [44] Q.2).2.1
   exact hC _ (by omega) (qX [44] Q.2).2 (sIs [44] A.2).2 deep op _ f (g+1) c2 rfl hd (by omega) (by omega) (by omega)
  ·rw [if_neg hc]
   have et:(qX [44] Q.2).2=(tb Q.2.1,Q.2.2):=by
    unfold qX at hc⊢
    split
    ·rename_i hx;rw [if_pos hx] at hc;exact absurd rfl hc
    ·rfl
   rw [et]
   have hl2:Lk (tb Q.2.1,Q.2.2) A.2:=⟨h2.1,h2.2.1,h2.2.2.1,by simp only;rw [qCH];exact h2.2.2.2⟩
   have hm:=qO3 (c:=41) (by decide) (a:=(A.1,(tb Q.2.1,Q.2.2))) (b:=(A.1,A.2)) (.inl ⟨rfl,hl2⟩)
   by_cases h41:(sIs [41] A.2).1=true
   ·rw [if_pos h41]
    simp only [h41,if_true] at hm
    have:=qO2 (fun _=>ndK 6 op (kids++ [A.1])) hm
    rw [h1]
    exact this
   ·rw [if_neg h41]
    have e41:(sIs [41] A.2).2=(tb A.2.1,A.2.2):=by
     unfold sIs at h41⊢
     rw [if_neg (by rw [hb2];simp)] at h41⊢
     split
     ·rename_i hx;rw [if_pos hx] at h41;exact absurd rfl h41
     ·rfl
    have e44:sIs [44] (tb A.2.1,A.2.2)=sIs [44] A.2:=by unfold sIs;simp only [qCH]
    rw [e41,e44,if_neg (c1▸hc)]
    refine .inr ⟨qLj _ _ _ rfl,qCZ ?_⟩
    simp only [if_neg h41] at hm
    rcases hm with ⟨_,_,hb,_⟩|⟨_,hdm⟩
    ·simp [qJ4] at hb
    ·exact hdm
 ·have e41:sIs [41] A.2=(false,tb A.2.1,A.2.2):=qHc h1
  have e44:sIs [44] (tb A.2.1,A.2.2)=(false,tb (tb A.2.1),A.2.2):=qHc h1
  rw [e41]
  simp only [Bool.false_eq_true,if_false]
  rw [e44]
  simp only [Bool.false_eq_true,if_false]
  refine .inr ⟨qLj _ _ _ rfl,?_⟩
  split
  ·exact qCh f _ _ (qD5 h2)
  ·exact qCZ (qHA (qD5 h2))
theorem qO6 {c d:UInt8} (h:c≠d) {r:List UInt8} (hr:r.head?=some c):¬r.head?=some d:=by rw [hr];simpa using h
theorem qRL (H:RdOK) (N:Nat) (hA:∀M,M<N→qRG M) (hB:∀M,M<N→qQi M) (hC:∀M,M<N→qRI M):qRG N:=by
 intro p q deep f g hl hN hd hdN hf hg
 cases f with
 |zero=>omega
 |succ f=>
 cases f with
 |zero=>omega
 |succ f=>
 cases g with
 |zero=>omega
 |succ g=>
 cases g with
 |zero=>omega
 |succ g=>
 have hpq:=hl.2.2.2
 have hpb:¬p.2.1=true:=by rw [hl.1];simp
 have hqb:¬q.2.1=true:=by rw [hl.2.1];simp
 have hq0:=hl.2.1
 have hs:sP (g+1+1) (.row 5) q=sP (g+1) .one q:=by
  rw [sP,if_neg hqb,if_pos rfl]
 rw [hs]
 obtain ⟨e1,e2⟩:=qIs (c:=45) (by decide) hl
 rw [pP]
 rw [if_neg (by intro e;rcases e with e|e;omega;exact hpb e)]
 by_cases hc:(qX [45] p).1=true
 ·rw [if_pos hc]
  simp only [sP]
  rw [if_pos (e1▸hc)]
  have hlt:=qDO (w:= [45]) (by simp) hc
  have htb:=qy (qX [45] p).2.1
  exact qO2 (fun k=>ndK 4 0 [k]) (hA _ (by omega) _ _ (deep+1) (f+1) g e2 rfl (by omega) (by omega) (by omega) (by omega))
 ·rw [if_neg hc]
  have hp':(qX [45] p).2=(tb p.1,p.2):=by
   unfold qX at hc⊢
   split
   ·rename_i hx;rw [if_pos hx] at hc;exact absurd rfl hc
   ·rfl
  have hq':(sIs [45] q).2=(tb q.1,q.2):=by
   have hc:¬(sIs [45] q).1=true:=e1▸hc
   unfold sIs at hc⊢
   rw [if_neg hqb] at hc⊢
   split
   ·rename_i hx;rw [if_pos hx] at hc;exact absurd rfl hc
   ·rfl
  rw [hp']
  simp only [sP]
  rw [if_neg (e1▸hc),hq']
  simp only [pP,qCH]
  have hl2:Lk (tb p.1,p.2) (tb q.1,q.2):=⟨hl.1,hl.2.1,hl.2.2.1,by simp only [qCH];exact hpq⟩
  obtain ⟨f1,f2⟩:=qIs (c:=40) (by decide) hl2
  have i40:=qKq (c:=40) (q:=(tb q.1,q.2)) hq0
  have i34:=qKq (c:=34) (q:=(tb q.1,q.2)) hq0
  have i35:=qKq (c:=35) (q:=(tb q.1,q.2)) hq0
  simp only [qCH] at i40 i34 i35
  rw [hpq] at hN f1 f2⊢
  by_cases h34:(tb q.1).head?=some 34
  ·rw [if_pos h34,if_neg (fun e=>qO6 (by decide) h34 (i40.1 e)),if_pos (i34.2 h34)]
   have es:(sIs [34] (tb q.1,q.2)).2.1=(tb q.1).tail:=by
    have:=i34.2 h34
    unfold sIs at this⊢
    rw [if_neg hqb] at this⊢
    simp only [qCH] at this⊢
    split
    ·simp
    ·rename_i hx;rw [if_neg hx] at this;cases this
   rw [es]
   cases hqr:qBh [] (tb q.1).tail with
   |none=>exact .inr ⟨rfl,.inl rfl⟩
   |some st=>
    obtain ⟨s,t⟩:=st
    exact qHd ⟨hl.1,hl.2.1,hl.2.2.1,rfl⟩
  ·rw [if_neg h34]
   by_cases h35:(tb q.1).head?=some 35
   ·rw [if_pos h35,if_neg (fun e=>qO6 (by decide) h35 (i40.1 e)),if_neg (fun e=>h34 (i34.1 e)),if_pos (i35.2 h35)]
    have es:(sIs [35] (tb q.1,q.2)).2.1=(tb q.1).tail:=by
     have:=i35.2 h35
     unfold sIs at this⊢
     rw [if_neg hqb] at this⊢
     simp only [qCH] at this⊢
     split
     ·simp
     ·rename_i hx;rw [if_neg hx] at this;cases this
    rw [es,qQh H h35 5 1 (by omega) (by omega)]
    cases he:qGK (tb q.1) 1 5 with
    |some n=>
     simp only
     obtain ⟨t,ht⟩:=H.n n (by have:=qO5 5 1 he;omega)
     have hsz:(qZ n).size=t.length+1:=by rw [←qAl,ht];rfl
     refine qHd ⟨hl.1,hl.2.1,hl.2.2.1,?_⟩
     simp only
     rw [hsz]
     cases hr:tb q.1 with
     |nil=>rw [hr] at h35;cases h35
     |cons c r=>rfl
    |none=>
     simp only
     rw [if_neg (fun e=>e.1 h35)]
     have hw:wd (tb q.1)= []:=by
      cases hr:tb q.1 with
      |nil=>rw [hr] at h35;cases h35
      |cons c r=>
       rw [hr] at h35
       simp only [List.head?_cons,Option.some.injEq] at h35
       subst h35
       rfl
     rw [hw,if_neg (fun e=>H.v0 e.2),if_neg (by rw [H.p0];simp),H.f0]
     exact .inr ⟨rfl,qE5 _⟩
   ·rw [if_neg h35]
    simp only
    by_cases h40:(qX [40] (tb q.1,p.2)).1=true
    ·rw [if_pos ⟨h35,h40⟩,if_pos (f1▸h40)]
     have hlt:=qDO (w:= [40]) (by simp) h40
     simp only [qCH] at hlt
     have htb:=qy (qX [40] (tb q.1,p.2)).2.1
     have hb:=(hB _ (by omega) _ _ (deep+1) 4 f g (by omega) f2 rfl (by omega) (by omega) (by omega) (by omega)).sim
     have e5:(5-((4:Nat):Int))=1:=by omega
     rw [e5] at hb
     exact qO3 (by decide) hb
    ·have n40:¬(sIs [40] (tb q.1,q.2)).1=true:=f1▸h40
     have n34:¬(sIs [34] (tb q.1,q.2)).1=true:=fun e=>h34 (i34.1 e)
     have n35:¬(sIs [35] (tb q.1,q.2)).1=true:=fun e=>h35 (i35.1 e)
     rw [if_neg (fun e=>h40 e.2),if_neg n40,if_neg n34,if_neg n35]
     have hl3:Lk (wr (tb q.1),p.2) (wr (tb q.1),q.2):=⟨hl.1,hl.2.1,hl.2.2.1,rfl⟩
     cases hfn:qE4 (wd (tb q.1)) 1 10 with
     |some op=>
      simp only
      obtain ⟨z1,z2⟩:=H.f _ _ hfn
      rw [if_neg (by rw [z1];simp),if_neg (by rw [z2];simp)]
      have hne:1≤(wd (tb q.1)).length:=by
       cases hw:wd (tb q.1) with
       |nil=>rw [hw,H.f0] at hfn;cases hfn
       |cons c t=>simp
      have hlen:(wr (tb q.1)).length+1≤N:=by
       have:=congrArg List.length (wdr (tb q.1))
       simp only [List.length_append] at this
       omega
      obtain ⟨k1,k2⟩:=qIs (c:=40) (by decide) hl3
      cases f with
      |zero=>omega
      |succ f=>
       simp only [pP]
       by_cases ht:(sIs [40] (wr (tb q.1),q.2)).1=true
       ·rw [if_pos ht]
        have em:qBw [40] (wr (tb q.1),p.2)=(qX [40] (wr (tb q.1),p.2)).2:=by
         unfold qBw
         rw [if_neg hpb,if_pos (k1▸ht)]
        rw [em]
        have hlt:=qDO (w:= [40]) (by simp) (k1.symm▸ht)
        have h2:=qy (wr (tb q.1))
        have h3:=qy (qX [40] (wr (tb q.1),p.2)).2.1
        simp only at hlt
        exact hC _ (by omega) _ _ deep op [] f g k2 rfl hd (by omega) (by omega) (by omega)
       ·rw [if_neg ht]
        have em:qBw [40] (wr (tb q.1),p.2)=qPT (qX [40] (wr (tb q.1),p.2)).2:=by
         unfold qBw
         rw [if_neg hpb,if_neg (k1▸ht)]
        rw [em]
        exact .inr ⟨rfl,qCh f _ _ (qE5 _)⟩
     |none=>
      simp only
      by_cases hw0:wd (tb q.1)= []
      ·rw [hw0,if_neg (fun e=>H.v0 e.2),if_neg (by rw [H.p0];simp),if_neg (fun e=>e.2 rfl),if_neg (by rw [H.p0];simp)]
       exact .inr ⟨rfl,qE5 _⟩
      ·by_cases hv:(qh (BR (wd (tb q.1)))).2.2.2=true
       ·rw [if_pos ⟨hv,H.v _ (qPW _) hw0 hv⟩,if_pos ⟨hv,hw0⟩]
        exact qHd hl3
       ·have nv1:¬((qh (BR (wd (tb q.1)))).2.2.2=true∧((qh (BR (wd (tb q.1)))).1=1∨(qh (BR (wd (tb q.1)))).1=3)):=fun e=>hv e.1
        have nv2:¬((qh (BR (wd (tb q.1)))).2.2.2=true∧wd (tb q.1)≠ []):=fun e=>hv e.1
        rw [if_neg nv1,if_neg nv2]
        by_cases hp:(qAt (BR (wd (tb q.1)))).2.2.2.2=true
        ·rw [if_pos hp,if_pos hp]
         exact qHd hl3
        ·rw [if_neg hp,if_neg hp]
         exact .inr ⟨rfl,qE5 _⟩
theorem qRM (H:RdOK) (N:Nat):qRG N∧qRH N∧qQi N∧qRI N:=by
 induction N using Nat.strongRecOn with
 |ind N ih=>
  have hA:=qRL H N (fun M h=>(ih M h).1) (fun M h=>(ih M h).2.2.1) (fun M h=>(ih M h).2.2.2)
  have hT:=qST N (fun M h=>(ih M h).2.2.1) (fun M h=>(ih M h).2.1)
  have hB:=qRJ N hA (fun M h=>(Nat.lt_or_eq_of_le h).elim (fun h=>(ih M h).2.1) (fun h=>h▸hT))
  exact ⟨hA,hT,hB,qRK H N hB (fun M h=>(ih M h).2.2.2)⟩
theorem qBB (r:List UInt8):(BR r).toList=r:=qAr r
theorem qm (r:List UInt8):(BR r).size=r.length:=by rw [←qAl,qBB]
theorem qF2 (s:ByteArray):BR s.toList=s:=qDL (qBB _)
theorem qIh (r:List UInt8) (a b:Nat):(BR r).extract a b=BR ((r.take b).drop a):=by
 refine qDL ?_
 rw [qBB,Go.Lib.toList_data,ByteArray.data_extract,Array.toList_extract]
 simp [BR,List.extract_eq_take_drop,List.drop_take]
theorem qLl (a b:List UInt8):BR a++BR b=BR (a++b):=by
 refine qDL ?_
 rw [qBB,Go.Lib.toList_data]
 simp [BR]
theorem qRj:∀i:Fin 256,((⟨#[32]⟩:ByteArray).data.toList.contains (UInt8.ofNat i.val))=(UInt8.ofNat i.val==32):=by decide+kernel
def wcS:ByteArray:=⟨#[65,66,67,68,69,70,71,72,73,74,75,76,77,78,79,80,81,82,83,84,85,86,87,88,89,90,48,49,50,51,52,53,54,55,56,57,36]⟩
theorem qRk:∀i:Fin 256,(wcS.data.toList.contains (UInt8.ofNat i.val))=wch (UInt8.ofNat i.val):=by decide+kernel
theorem qQj {f g:UInt8→Bool} (h:∀i:Fin 256,f (UInt8.ofNat i.val)=g (UInt8.ofNat i.val)) (c:UInt8):f c=g c:=by
 have h:=h ⟨c.toNat,UInt8.toNat_lt c⟩
 have e:UInt8.ofNat c.toNat=c:=by simp
 simp only [e] at h
 exact h
theorem qQF (r:List UInt8):Ev (qBF · (BR r) ⟨#[32]⟩) (BR (tb r)):=by
 refine ⟨1,fun n hn=>?_⟩
 obtain ⟨m,rfl,hm⟩:=up1 hn
 show zK (BR r) ⟨#[32]⟩=_
 unfold zK
 rw [if_pos ⟨by decide,by decide+kernel⟩]
 unfold Lib.trimLeftS tb
 have:(fun c=>(⟨#[32]⟩:ByteArray).data.toList.contains c)=(fun c=>c==32):=funext (qQj qRj)
 rw [this]
 rfl
theorem qQG (r:List UInt8):Ev (qBF · (BR r) ⟨#[65,66,67,68,69,70,71,72,73,74,75,76,77,78,79,80,81,82,83,84,85,86,87,88,89,90,48,49,50,51,52,53,54,55,56,57,36]⟩) (BR (wr r)):=by
 refine ⟨1,fun n hn=>?_⟩
 obtain ⟨m,rfl,hm⟩:=up1 hn
 show zK (BR r) wcS=_
 unfold zK
 rw [if_pos ⟨by decide,by decide+kernel⟩]
 unfold Lib.trimLeftS wr
 have:(fun c=>wcS.data.toList.contains c)=wch:=funext (qQj qRk)
 rw [this]
 rfl
theorem qGL (r:List UInt8) (m:Nat) (b:Bool) (rows:List (List PV)):Ev (qA0 · (BR r) m b rows) (BR (tb r),m,b,rows):=by
 obtain ⟨n1,h1⟩:=qQF r
 refine ⟨n1+1,fun n hn=>?_⟩
 obtain ⟨m,rfl,hm⟩:=up1 hn
 have h1:=h1 m (by omega)
 dsimp only at h1
 simp only [qA0,qDH,qC,qD,qF,qG,qH,qJ,Option.bind_some,qE,qK,qM,h1]
theorem qBf (m:Nat) (s w:List UInt8):qr (m+2) (BR s) (BR w)=some (w.isPrefixOf s):=by
 simp only [qr,qCf,qAv,qAu,qC,qD,qF,qG,qH,qJ,Option.bind_some,qE,qK,qM,qm,qIh,qBB]
 by_cases h:w.length≤s.length
 ·have h1:((s.length:Nat):Int)≥((w.length:Nat):Int):=by omega
  simp [h1,h,List.isPrefixOf_iff_prefix,List.prefix_iff_eq_take]
  by_cases e:w=s.take w.length
  ·simp [←e,List.isPrefixOf_iff_prefix.2 (List.prefix_iff_eq_take.2 e)]
  ·have e2:¬s.take w.length=w:=fun h=>e h.symm
   have e3:w.isPrefixOf s=false:=by
    rw [Bool.eq_false_iff]
    intro hp
    exact e (List.prefix_iff_eq_take.1 (List.isPrefixOf_iff_prefix.1 hp))
   simp [e2,e3]
 ·have h1:¬((s.length:Nat):Int)≥((w.length:Nat):Int):=by omega
  have e3:w.isPrefixOf s=false:=by
   rw [Bool.eq_false_iff]
   intro hp
   exact h (List.isPrefixOf_iff_prefix.1 hp).length_le
  simp [h1,e3]
theorem qPX (s w:List UInt8):Ev (qr · (BR s) (BR w)) (w.isPrefixOf s):=by
 refine ⟨2,fun n hn=>?_⟩
 obtain ⟨m,rfl,hm⟩:=up1 hn
 obtain ⟨m,rfl,hm⟩:=up1 hm
 exact qBf m s w
def qO7:List (List PV):=qD1.map fun w=> [PV.s (BR w)]
theorem qN0 {n:Nat} {r:List UInt8} (m:Nat) (b:Bool) (rows:List (List PV)) (h:∀w∈qD1,qr n (BR r) (BR w)=some (w.isPrefixOf r)):
  ∀(k i M:Nat),i+k=15→k+1≤M→zD (qCE n) M (15,15,(i:Int),qO7,BR r,m,b,rows)=some (match (qD1.drop i).find? (fun w=>w.isPrefixOf r) with|some w=> .inl (BR w,BR r,m,b,rows)|none=> .inr (BR r,m,b,rows))
 |k,i,0,h1,h2=>by omega
 |0,i,M+1,h1,h2=>by
  have hi:i=15:=by omega
  subst hi
  rw [qP (r:= .inr (BR r,m,b,rows)) (by simp [qCE,qC,qD,qF,qG,qH,qJ,Option.bind_some,qE,qK,qM])]
  rfl
 |k+1,i,M+1,h1,h2=>by
  have hi:i<qD1.length:=by simp [qD1];omega
  obtain ⟨w,hw⟩:∃w,qD1[i]?=some w:=⟨_,List.getElem?_eq_getElem hi⟩
  have hR:qO7[i]?=some [PV.s (BR w)]:=by simp [qO7,List.getElem?_map,hw]
  have hl:qO7.length=15:=rfl
  have hc:zu [PV.s (BR w)] 0=some (BR w):=rfl
  have hp:=h w (List.mem_of_getElem? hw)
  have hd:qD1.drop i=w::qD1.drop (i+1):=qEj hw
  have w5:IntKind.i64.wrap ((i:Int)+1)=((i+1:Nat):Int):=by rw [qb (by omega)];omega
  rw [hd]
  simp only [List.find?_cons]
  cases hq:w.isPrefixOf r with
  |true=>
   rw [qP (r:= .inl (BR w,BR r,m,b,rows)) (by
    refine qN (by simp;omega) (qN (by simp [hl];omega) (qA hR (qA hc (qA (hp.trans (congrArg some hq)) (qN rfl rfl))))))]
  |false=>
   rw [qc (v':=(15,15,((i+1:Nat):Int),qO7,BR r,m,b,rows)) (by
    refine qN (by simp;omega) (qN (by simp [hl];omega) (qA hR (qA hc (qA (hp.trans (congrArg some hq)) (qO rfl ?_)))))
    rw [w5];rfl)]
   exact qN0 m b rows h k (i+1) M (by omega) (by omega)
theorem qLm (r:List UInt8) (m:Nat) (b:Bool) (rows:List (List PV)):Ev (qBc · (BR r) m b rows) (BR (sgn (tb r)),BR (tb r),m,b,rows):=by
 obtain ⟨n1,h1⟩:=qGL r m b rows
 obtain ⟨n2,h2⟩:=qCG (F:=fun w n=>qr n (BR (tb r)) (BR w)) (f:=fun w=>w.isPrefixOf (tb r)) qD1 (fun w _=>qPX (tb r) w)
 refine ⟨n1+n2+30,fun n hn=>?_⟩
 obtain ⟨k,rfl,hm⟩:=up1 hn
 have h1:=h1 k (by omega)
 have lp:=qN0 m b rows (h2 k (by omega)) 15 0 k rfl (by omega)
 refine qA h1 (qA lp ?_)
 simp only [List.drop_zero]
 unfold sgn
 cases hq:qD1.find? (fun w=>w.isPrefixOf (tb r)) with
 |some w=>rfl
 |none=>rfl
theorem qPv (r:List UInt8):sgn r<+:r:=by
 unfold sgn
 split
 ·rename_i w hw
  have:=List.find?_some hw
  exact List.isPrefixOf_iff_prefix.1 (by simpa using this)
 ·exact List.nil_prefix
theorem qN1 (w r:List UInt8) (m:Nat) (b:Bool) (rows:List (List PV)):Ev (qo · (BR w) (BR r) m b rows) (decide (sgn (tb r)=w),BR (if sgn (tb r)=w then (tb r).drop w.length else tb r),m,b,rows):=by
 obtain ⟨n1,h1⟩:=qLm r m b rows
 refine ⟨n1+1,fun n hn=>?_⟩
 obtain ⟨k,rfl,hm⟩:=up1 hn
 refine qA (h1 k (by omega)) ?_
 by_cases h:sgn (tb r)=w
 ·have hp:=(qPv (tb r)).length_le
  rw [h] at hp
  refine qO (by simp [qBB,h]) (qN (by simp [qm];omega) ?_)
  rw [qC,qm,qm,qIh]
  simp [h]
 ·refine qN (by simp [qBB,h]) ?_
  rw [qC]
  simp [h]
theorem qQH (r:List UInt8) (m:Nat) (b:Bool) (rows:List (List PV)) (hr:r.length≤1000):Ev (qBG · (BR r) m b rows) (BR (wd (tb r)),BR (wr (tb r)),m,b,rows):=by
 obtain ⟨n1,h1⟩:=qGL r m b rows
 obtain ⟨n2,h2⟩:=qQG (tb r)
 refine ⟨n1+n2+1,fun n hn=>?_⟩
 obtain ⟨k,rfl,hm⟩:=up1 hn
 have hb:=qy r
 have hw:=qF1 (tb r)
 have hsum:=congrArg List.length (wdr (tb r))
 simp only [List.length_append] at hsum
 have e:IntKind.i64.wrap (((tb r).length:Int)-((wr (tb r)).length:Int))=((wd (tb r)).length:Int):=by rw [qb (by omega)];omega
 refine qA (h1 k (by omega)) (qA (h2 k (by omega)) ?_)
 simp only [qm,e]
 refine qN (by simp;omega) (qN (by simp;omega) ?_)
 rw [qC]
 have t1:(wd (tb r)++wr (tb r)).take (wd (tb r)).length=wd (tb r):=List.take_left ..
 have t2:(wd (tb r)++wr (tb r)).drop (wd (tb r)).length=wr (tb r):=List.drop_left ..
 rw [wdr] at t1 t2
 simp [qIh,t1,t2]
def qE6 (p:PS):ByteArray×Nat×Bool×List (List PV):=(BR p.1,p.2.2.length,p.2.1,p.2.2.map qV)
def qF6 (r:Int×PS):Int×ByteArray×Nat×Bool×List (List PV):=(r.1,BR r.2.1,r.2.2.2.length,r.2.2.1,r.2.2.2.map qV)
def qKr (c:Nd):Prop:=(kd c).length≤2000∧c.2.2.2.2.1.size≤2000
structure Gd (p:PS):Prop where
 r:p.1.length≤1000
 n:p.2.2.length≤60
 s:∀x∈p.2.2,qKr x
theorem qLn (x:Nd) (p:PS) (h:p.2.2.length≤60):Ev (qp · x.1 x.2.1 x.2.2.1 x.2.2.2.1 x.2.2.2.2.1 x.2.2.2.2.2.1 x.2.2.2.2.2.2.1 x.2.2.2.2.2.2.2.1 x.2.2.2.2.2.2.2.2.1 x.2.2.2.2.2.2.2.2.2.1 x.2.2.2.2.2.2.2.2.2.2.1 x.2.2.2.2.2.2.2.2.2.2.2.1 x.2.2.2.2.2.2.2.2.2.2.2.2.1 ((kd x).map qAs) (BR p.1) p.2.2.length p.2.1 (p.2.2.map qV)) (qF6 (qCt x p)):=by
 obtain ⟨r,b,l⟩:=p
 refine ⟨1,fun n hn=>?_⟩
 obtain ⟨m,rfl,hm⟩:=up1 hn
 replace h:l.length≤60:=h
 show qp (m+1) _ _ _ _ _ _ _ _ _ _ _ _ _ _ (BR r) l.length b (l.map qV)=_
 unfold qCt
 have w1:IntKind.i64.wrap (((l.length:Nat):Int)-1)=(l.length:Int)-1:=qb (by omega)
 have w2:IntKind.i64.wrap ((((l.length+1):Nat):Int)-1)=(l.length:Int):=by rw [qb (by omega)];omega
 cases b with
 |true=>
  rw [if_pos (.inl rfl)]
  refine qN rfl (qO rfl ?_)
  rw [qC,w1]
  rfl
 |false=>
  by_cases h6:60≤l.length
  ·rw [if_pos (.inr h6)]
   have d:decide (((l.length:Nat):Int)≥60)=true:=decide_eq_true (by omega)
   refine qO rfl (qO (by rw [d];rfl) ?_)
   rw [qC,w1,d]
   rfl
  ·have hn:¬(((r,false,l):PS).2.1=true∨60≤((r,false,l):PS).2.2.length):=by
    intro hh
    rcases hh with hh|hh
    ·exact absurd hh (by simp)
    ·exact h6 hh
   rw [if_neg hn]
   have d:decide (((l.length:Nat):Int)≥60)=false:=decide_eq_false (by omega)
   refine qO rfl (qN (by rw [d];rfl) (qN rfl (qN (decide_eq_true ⟨by simp,by decide,by decide,by simp;omega,rfl⟩) ?_)))
   rw [qC,w2,d]
   simp only [qF6,List.map_append,List.length_append]
   rfl
theorem qIi (v:V3) (p:PS) (h:p.2.2.length≤60):Ev (qi · v.1 v.2.1 v.2.2 (BR p.1) p.2.2.length p.2.1 (p.2.2.map qV)) (qF6 (qCt (nd1 v) p)):=by
 obtain ⟨n1,h1⟩:=qLn (nd1 v) p h
 refine ⟨n1+1,fun n hn=>?_⟩
 obtain ⟨k,rfl,hm⟩:=up1 hn
 exact qA (h1 k (by omega)) rfl
theorem qF3 {x:Nd} {p:PS} (h:Gd p) (hx:qKr x):Gd (qCt x p).2:=by
 unfold qCt
 split
 ·exact ⟨h.r,h.n,h.s⟩
 ·rename_i hh
  refine ⟨h.r,?_,fun y hy=>?_⟩
  ·have:¬60≤p.2.2.length:=fun e=>hh (.inr e)
   simp;omega
  ·simp at hy
   rcases hy with hy|rfl
   ·exact h.s _ hy
   ·exact hx
theorem qCa {w:List UInt8} {p:PS} (h:Gd p):Gd (qX w p).2:=by
 have:=qHb w p
 have h2:=qy p.1
 have h3:=h.r
 refine ⟨by omega,?_,?_⟩
 ·unfold qX;split<;>exact h.n
 ·unfold qX;split<;>exact h.s
theorem qFT (w:List UInt8) (p:PS):Ev (qo · (BR w) (BR p.1) p.2.2.length p.2.1 (p.2.2.map qV)) ((qX w p).1,qE6 (qX w p).2):=by
 obtain ⟨n1,h1⟩:=qN1 w p.1 p.2.2.length p.2.1 (p.2.2.map qV)
 refine ⟨n1,fun n hn=>?_⟩
 have h1:=h1 n hn
 unfold qX
 by_cases h:sgn (tb p.1)=w
 ·simp only [h,if_true,decide_true] at h1
  rw [if_pos h];exact h1
 ·simp only [h,if_false,decide_false] at h1
  rw [if_neg h];exact h1
theorem qOY (p:PS) (h:p.1.length≤1000):Ev (qBG · (BR p.1) p.2.2.length p.2.1 (p.2.2.map qV)) (BR (wd (tb p.1)),qE6 (wr (tb p.1),p.2)):=qQH p.1 _ _ _ h
theorem qOZ (r:List UInt8):(wd r).length≤r.length:=by
 have:=congrArg List.length (wdr r)
 simp only [List.length_append] at this
 omega
theorem qQk (r:List UInt8) (h:r.length≤1000):Ev (qAe · (BR (wd (tb r)))) (qAt (BR (wd (tb r)))):=qKi _ (by rw [qm];have:=qOZ (tb r);have:=qy r;omega)
theorem qSB (r:List UInt8) (h:r.length≤1000):Ev (qAB · (BR (wd (tb r)))) (qh (BR (wd (tb r)))):=qKc _ (by rw [qm];have:=qOZ (tb r);have:=qy r;omega)
theorem qO8 (c:UInt8) (t:List UInt8):Lib.cut (c::t) [34]=if c=34 then ([],t,true) else (c::(Lib.cut t [34]).1,(Lib.cut t [34]).2.1,(Lib.cut t [34]).2.2):=by
 by_cases h:c=34
 ·subst h
  rw [if_pos rfl]
  simp [Lib.cut,Lib.index,List.isPrefixOf]
 ·rw [if_neg h]
  have h':¬34=c:=fun e=>h e.symm
  have g:=Lib.index_ge t [34]
  unfold Lib.cut
  by_cases e:Lib.index t [34]= -1
  ·have:Lib.index (c::t) [34]= -1:=by simp [Lib.index,List.isPrefixOf,h',e]
   simp [this,e]
  ·have:Lib.index (c::t) [34]=Lib.index t [34]+1:=by simp [Lib.index,List.isPrefixOf,h',e]
   have p:0≤Lib.index t [34]:=by omega
   have p1:0≤Lib.index t [34]+1:=by omega
   have q:(Lib.index t [34]+1).toNat=(Lib.index t [34]).toNat+1:=by omega
   simp [this,p,p1,q]
theorem qRN (acc t:List UInt8):qBh acc (34::34::t)=qBh (acc++ [34]) t:=(qBh.eq_def acc _).trans (by simp)
theorem qRO (acc t:List UInt8) (h:t.head?≠some 34):qBh acc (34::t)=some (acc,t):=by
 refine (qBh.eq_def acc _).trans ?_
 cases t with
 |nil=>simp
 |cons d t=>
  have:¬d=34:=fun e=>h (by rw [e];rfl)
  simp [this]
theorem qRP (acc t:List UInt8) {c:UInt8} (h:¬c=34):qBh acc (c::t)=qBh (acc++ [c]) t:=(qBh.eq_def acc _).trans (by simp only [if_neg h])
theorem up3 {n n0:Nat} (h:n0+3≤n):∃m,n=m+3∧n0≤m:=⟨n-3,by omega,by omega⟩
theorem qN2:∀(r acc:List UInt8),qBh acc r=if (Lib.cut r [34]).2.2=true then (if (Lib.cut r [34]).2.1.head?=some 34 then qBh (acc++(Lib.cut r [34]).1++ [34]) (Lib.cut r [34]).2.1.tail else some (acc++(Lib.cut r [34]).1,(Lib.cut r [34]).2.1)) else none
 | [],acc=>by simp [qBh,Lib.cut,Lib.index]
 |c::t,acc=>by
  rw [qO8]
  by_cases h:c=34
  ·subst h
   rw [if_pos rfl]
   by_cases e:t.head?=some 34
   ·obtain ⟨u,rfl⟩:∃u,t=34::u:=by
     cases t with
     |nil=>cases e
     |cons d u=>simp at e;subst e;exact ⟨u,rfl⟩
    rw [qRN];simp
   ·rw [qRO acc t e];simp [e]
  ·simp only [if_neg h]
   rw [qRP acc t h,qN2 t (acc++ [c])]
   simp
theorem qPw:∀r:List UInt8,(Lib.cut r [34]).1.length+(Lib.cut r [34]).2.1.length≤r.length∧((Lib.cut r [34]).2.2=true→(Lib.cut r [34]).2.1.length<r.length)
 | []=>by simp [Lib.cut,Lib.index]
 |c::t=>by
  rw [qO8]
  have ih:=qPw t
  split
  ·simp
  ·simp only [List.length_cons]
   exact ⟨by omega,fun h=>by have:=ih.2 h;omega⟩
theorem qF4:∀(k:Nat) (acc r:List UInt8) {s t:List UInt8},r.length≤k→qBh acc r=some (s,t)→s.length≤acc.length+r.length+1
 |k,acc,[],s,t,hk,h=>by simp [qBh] at h
 |0,acc,c::r,s,t,hk,h=>by simp at hk
 |k+1,acc,c::r,s,t,hk,h=>by
  simp only [List.length_cons] at hk
  unfold qBh at h
  split at h
  ·cases r with
   |nil=>
    simp at h
    rw [←h.1];simp;omega
   |cons d r'=>
    simp only at h
    split at h
    ·have:=qF4 k _ r' (by simp at hk;omega) h
     simp at this⊢;omega
    ·simp at h
     rw [←h.1];simp;omega
  ·have:=qF4 k _ r (by omega) h
   simp at this⊢;omega
theorem qRl (m:Nat) (r:List UInt8) (h:r.length≤1000):qGc (m+1) (BR r) ⟨#[34]⟩=some (BR (Lib.cut r [34]).1,BR (Lib.cut r [34]).2.1,(Lib.cut r [34]).2.2):=by
 show zAK (BR r) ⟨#[34]⟩=_
 unfold zAK
 rw [if_pos (by rw [qm];omega),←Go.Lib.toList_data (BR r),qBB]
 rfl
theorem qLz (n:Nat) (orig:ByteArray) (m:Nat) (b:Bool) (rows:List (List PV)):∀(k:Nat) (r acc:List UInt8) (M:Nat),r.length≤k→acc.length+r.length≤1000→k+1≤M→
  zD (qCr (n+2)) M (BR acc,BR r,orig,m,b,rows)=some (match qBh acc r with
   |none=> .inl (-1,orig,m,true,rows)
   |some (s,t)=> .inr (BR s,BR t,orig,m,b,rows))
 |k,r,acc,0,h1,h2,h3=>by omega
 |k,r,acc,M+1,h1,h2,h3=>by
  have hc:=qRl (n+1) r (by omega)
  have hl:=qPw r
  have hp:=qBf n (Lib.cut r [34]).2.1 [34]
  rw [qN2]
  cases hf:(Lib.cut r [34]).2.2 with
  |false=>
   rw [if_neg (by simp)]
   refine (qP (r:= .inl (-1,orig,m,true,rows)) ?_).trans rfl
   refine qA hc (qN (by simp [hf]) rfl)
  |true=>
   rw [if_pos rfl]
   have hlt:=hl.2 hf
   by_cases hh:(Lib.cut r [34]).2.1.head?=some 34
   ·rw [if_pos hh]
    have hb:List.isPrefixOf [34] (Lib.cut r [34]).2.1=true:=(qDr 34 _).2 hh
    obtain ⟨u,hu⟩:∃u,(Lib.cut r [34]).2.1=34::u:=by
     cases e:(Lib.cut r [34]).2.1 with
     |nil=>rw [e] at hh;cases hh
     |cons c u=>rw [e] at hh;simp at hh;subst hh;exact ⟨u,rfl⟩
    rw [hb] at hp
    rw [qc (v':=(BR (acc++(Lib.cut r [34]).1++ [34]),BR (Lib.cut r [34]).2.1.tail,orig,m,b,rows)) (by
     refine qA hc (qO (by simp [hf]) (qN (decide_eq_true (by rw [qm,qm];omega)) (qA hp (qO rfl (qN (decide_eq_true (by rw [qLl,qm,List.length_append];show _+1≤9223372036854775807;omega)) (qN (decide_eq_true ⟨by decide,by simp only [qm];rw [hu];simp;omega,by simp [qm]⟩) ?_))))))
     rw [qC]
     simp only [qLl,qm,qIh]
     rw [hu]
     simp
     exact (qLl (acc++(Lib.cut r [34]).1) [34]).trans (by rw [List.append_assoc]))]
    rw [hu] at hl hlt⊢
    simp only [List.length_cons] at hl hlt
    refine qLz n orig m b rows (k-1) _ _ M (by simp;omega) (by simp;omega) (by omega)
   ·rw [if_neg hh]
    have hb:List.isPrefixOf [34] (Lib.cut r [34]).2.1=false:=by
     rw [Bool.eq_false_iff];intro e;exact hh ((qDr 34 _).1 e)
    rw [hb] at hp
    refine (qP (r:= .inr (BR (acc++(Lib.cut r [34]).1),BR (Lib.cut r [34]).2.1,orig,m,b,rows)) ?_).trans rfl
    refine qA hc (qO (by simp [hf]) (qN (decide_eq_true (by rw [qm,qm];omega)) (qA hp (qN rfl ?_))))
    rw [qC,qLl]
theorem qQI (t:List UInt8) (b:Bool) (l:List Nd) (h:t.length≤999) (hl:l.length≤60):Ev (qDI · (BR (34::t)) l.length b (l.map qV)) (qF6 (match qBh [] t with
   |none=>(-1,34::t,true,l)
   |some (s,t')=>qCt (nd1 (2,0,BR s)) (t',b,l))):=by
 have lp:=fun n M (hM:t.length+1≤M)=>qLz n (BR (34::t)) l.length b (l.map qV) t.length t [] M (Nat.le_refl _) (by simp;omega) hM
 cases hq:qBh [] t with
 |none=>
  refine ⟨t.length+1+3,fun n hn=>?_⟩
  obtain ⟨m,rfl,hm⟩:=up3 hn
  have lp:=lp m (m+2) (by omega)
  rw [hq] at lp
  refine qN (decide_eq_true ⟨by decide,by rw [qm];simp;omega,Int.le_refl _⟩) ?_
  have e:(BR (34::t)).extract ((1:Int)).toNat ((((BR (34::t)).size:Nat):Int)).toNat=BR t:=by rw [qIh,qm];simp
  rw [e]
  exact qA lp rfl
 |some st=>
  obtain ⟨s,t'⟩:=st
  obtain ⟨n1,h1⟩:=qIi (2,0,BR s) (t',b,l) hl
  refine ⟨n1+t.length+1+3,fun n hn=>?_⟩
  obtain ⟨m,rfl,hm⟩:=up3 hn
  have lp:=lp m (m+2) (by omega)
  rw [hq] at lp
  refine qN (decide_eq_true ⟨by decide,by rw [qm];simp;omega,Int.le_refl _⟩) ?_
  have e:(BR (34::t)).extract ((1:Int)).toNat ((((BR (34::t)).size:Nat):Int)).toNat=BR t:=by rw [qIh,qm];simp
  rw [e]
  exact qA lp (qA (h1 (m+2) (by omega)) rfl)
theorem qRQ (m:Nat) (r:List UInt8) (w:ByteArray):qAb (m+1) (BR r) w=some (BR (if w.toList.isPrefixOf r=true then r.drop w.size else r),w.toList.isPrefixOf r):=by
 show zT (BR r) w=_
 unfold zT Lib.trimPrefix Lib.hasPrefix
 rw [←Go.Lib.toList_data (BR r),←Go.Lib.toList_data w,qBB,qAl]
 rfl
theorem qO9 {n:Nat} (deep:Int) (r:List UInt8) (b:Bool) (l:List Nd)
  (h1:∀i,0≤i∧i≤5→qAd n i=some (qZ i)) (h2:∀i,1≤i∧i≤5→qBi n i=some (4,i,em))
  (h3:∀w,qAb n (BR r) w=some (BR (if w.toList.isPrefixOf r=true then r.drop w.size else r),w.toList.isPrefixOf r))
  (h4:∀i,1≤i∧i≤5→qi n 4 i em (BR (r.drop (qZ i).size)) l.length b (l.map qV)=some (qF6 (qCt (nd1 (4,i,em)) (r.drop (qZ i).size,b,l)))):
  ∀(k:Nat) (i:Int) (M:Nat),1≤i→i+k=6→k+1≤M→zD (qBx n) M (deep,i,BR r,l.length,b,l.map qV)=some (match qGK r i k with
   |some e=> .inl (qF6 (qCt (nd1 (4,e,em)) (r.drop (qZ e).size,b,l)))
   |none=> .inr (deep,BR r,l.length,b,l.map qV))
 |k,i,0,_,_,h=>by omega
 |0,i,M+1,hi,hk,h=>by
  rw [qP (r:= .inr (deep,BR r,l.length,b,l.map qV)) (by exact qO (decide_eq_false (show ¬i≤5 by omega)) rfl)]
  rfl
 |k+1,i,M+1,hi,hk,h=>by
  have hi5:1≤i∧i≤5:=⟨hi,by omega⟩
  have c:=h3 (qZ i)
  cases hq:(qZ i).toList.isPrefixOf r with
  |true=>
   rw [hq,if_pos rfl] at c
   unfold qGK
   rw [if_pos hq]
   refine qP (qN (decide_eq_true (show i≤5 by omega)) (qA (h1 i ⟨by omega,by omega⟩) (qA c (qN rfl (qA (h2 i hi5) (qA (h4 i hi5) rfl))))))
  |false=>
   rw [hq,if_neg (by simp)] at c
   unfold qGK
   rw [if_neg (by rw [hq];simp)]
   have w1:IntKind.i64.wrap (i+1)=i+1:=qb (by omega)
   rw [qc (v':=(deep,i+1,BR r,l.length,b,l.map qV)) (by refine qN (decide_eq_true (show i≤5 by omega)) (qA (h1 i ⟨by omega,by omega⟩) (qA c (qO rfl ?_)));rw [qC,w1])]
   exact qO9 deep r b l h1 h2 h3 h4 k (i+1) M (by omega) (by omega) (by omega)
theorem qRm (deep:Int) (r:List UInt8) (b:Bool) (l:List Nd) (hl:l.length≤60):∃n0,∀n,n0≤n→∀M,n0≤M→zD (qBx n) M (deep,1,BR r,l.length,b,l.map qV)=some (match qGK r 1 5 with
   |some e=> .inl (qF6 (qCt (nd1 (4,e,em)) (r.drop (qZ e).size,b,l)))
   |none=> .inr (deep,BR r,l.length,b,l.map qV)):=by
 obtain ⟨n1,h1⟩:=qFR (F:=qAd) (f:=qZ) (lo:=0) (by decide) qEP
 obtain ⟨n2,h2⟩:=qFR (F:=qBi) (f:=fun i=>(4,i,em)) (lo:=1) (by decide) (fun i _=>qJT i)
 obtain ⟨n4,h4⟩:=qFR (F:=fun n i=>qi n 4 i em (BR (r.drop (qZ i).size)) l.length b (l.map qV)) (f:=fun i=>qF6 (qCt (nd1 (4,i,em)) (r.drop (qZ i).size,b,l))) (lo:=1) (by decide) (fun i _=>qIi (4,i,em) (r.drop (qZ i).size,b,l) hl)
 refine ⟨n1+n2+n4+7,fun n hn M hM=>?_⟩
 exact qO9 deep r b l (h1 n (by omega)) (h2 n (by omega)) (fun w=>by
  obtain ⟨m,rfl,_⟩:=up1 (show n1+1≤n by omega)
  exact qRQ m r w) (h4 n (by omega)) 5 1 M (by omega) (by omega) (by omega)
theorem qPx {g:G_impl_reader_binary} {n:Nat} (deep:Int) (w:List UInt8) (p:PS) (res:Int→Int×PS) (h1:∀i,1≤i∧i≤10→qB0 n i=some (fnS i)):
  ∀(k:Nat) (i:Int) (M:Nat),1≤i→i+k=11→k+1≤M→(∀op,qE4 w i k=some op→g.impl_reader_call op deep (BR p.1) p.2.2.length p.2.1 (p.2.2.map qV)=some (qF6 (res op)))→
   zD (qAj g n) M (deep,BR w,i,BR p.1,p.2.2.length,p.2.1,p.2.2.map qV)=some (match qE4 w i k with
   |some op=> .inl (qF6 (res op))
   |none=> .inr (qE6 p))
 |k,i,0,_,_,h,_=>by omega
 |0,i,M+1,hi,hk,h,_=>by
  rw [qP (r:= .inr (qE6 p)) (by exact qO (decide_eq_false (show ¬i≤10 by omega)) rfl)]
  rfl
 |k+1,i,M+1,hi,hk,h,hc=>by
  unfold qE4 at hc⊢
  by_cases hq:(fnS i).toList=w
  ·rw [if_pos hq] at hc⊢
   refine qP (qN (decide_eq_true (show i≤10 by omega)) (qA (h1 i ⟨hi,by omega⟩) (qN (by simp [qBB,hq]) (qA (hc i rfl) rfl))))
  ·rw [if_neg hq] at hc⊢
   have w1:IntKind.i64.wrap (i+1)=i+1:=qb (by omega)
   have hq':¬w=(fnS i).toList:=fun e=>hq e.symm
   rw [qc (v':=(deep,BR w,i+1,BR p.1,p.2.2.length,p.2.1,p.2.2.map qV)) (by refine qN (decide_eq_true (show i≤10 by omega)) (qA (h1 i ⟨hi,by omega⟩) (qO (by simp [qBB,hq']) ?_));rw [qC,w1])]
   exact qPx deep w p res h1 k (i+1) M (by omega) (by omega) (by omega) hc
theorem qRn:∃n0,∀n,n0≤n→∀i,1≤i∧i≤10→qB0 n i=some (fnS i):=by
 obtain ⟨n1,h1⟩:=qCG (F:=fun (i:Nat) n=>qB0 n ((i:Int)+1)) (f:=fun i=>fnS ((i:Int)+1)) (List.range 10) (fun i hi=>qId _ (by have:=List.mem_range.1 hi;omega))
 refine ⟨n1,fun n hn i hi=>?_⟩
 have:=h1 n hn (i-1).toNat (List.mem_range.2 (by omega))
 rwa [show (((i-1).toNat:Nat):Int)+1=i by omega] at this
theorem qRo:∃n0,∀n,n0≤n→∀i,1≤i∧i≤11→qBN n i=some (qj i):=by
 obtain ⟨n1,h1⟩:=qCG (F:=fun (i:Nat) n=>qBN n ((i:Int)+1)) (f:=fun i=>qj ((i:Int)+1)) (List.range 11) (fun i hi=>qF0 _ (by have:=List.mem_range.1 hi;omega))
 refine ⟨n1,fun n hn i hi=>?_⟩
 have:=h1 n hn (i-1).toNat (List.mem_range.2 (by omega))
 rwa [show (((i-1).toNat:Nat):Int)+1=i by omega] at this
def opF (s:List UInt8):Int→Int→Nat→Int
 |op,_,0=>op
 |op,i,k+1=>opF s (if s=(qj i).toList then i else op) (i+1) k
theorem qRp (r:List UInt8):opF (sgn r) 0 1 11=qAN r:=by
 unfold qAN
 generalize sgn r=s
 by_cases h1:s= [43]; · subst h1;decide+kernel
 by_cases h2:s= [45]; · subst h2;decide+kernel
 by_cases h3:s= [42]; · subst h3;decide+kernel
 by_cases h4:s= [47]; · subst h4;decide+kernel
 by_cases h5:s= [38]; · subst h5;decide+kernel
 by_cases h6:s= [61]; · subst h6;decide+kernel
 by_cases h7:s= [60,62]; · subst h7;decide+kernel
 by_cases h8:s= [60]; · subst h8;decide+kernel
 by_cases h9:s= [60,61]; · subst h9;decide+kernel
 by_cases h10:s= [62]; · subst h10;decide+kernel
 by_cases h11:s= [62,61]; · subst h11;decide+kernel
 rw [if_neg h1,if_neg h2,if_neg h3,if_neg h4,if_neg h5,if_neg h6,if_neg h7,if_neg h8,if_neg h9,if_neg h10,if_neg h11]
 rw [←sg1] at h1;rw [←sg2] at h2;rw [←sg3] at h3;rw [←sg4] at h4;rw [←sg5] at h5;rw [←sg6] at h6;rw [←sg7] at h7;rw [←sg8] at h8;rw [←sg9] at h9;rw [←qPU] at h10;rw [←qPV] at h11
 simp only [opF,if_neg h1]
 simp only [show (1:Int)+1=2 from rfl,if_neg h2,show (2:Int)+1=3 from rfl,if_neg h3,show (3:Int)+1=4 from rfl,if_neg h4,show (4:Int)+1=5 from rfl,if_neg h5,show (5:Int)+1=6 from rfl,if_neg h6,show (6:Int)+1=7 from rfl,if_neg h7,show (7:Int)+1=8 from rfl,if_neg h8,show (8:Int)+1=9 from rfl,if_neg h9,show (9:Int)+1=10 from rfl,if_neg h10,show (10:Int)+1=11 from rfl,if_neg h11]
theorem qPA {n:Nat} (least deep a op i:Int) (r R:List UInt8) (m:Nat) (b:Bool) (rows:List (List PV)) (hi:1≤i∧i≤11)
  (h1:qBc n (BR r) m b rows=some (BR (sgn R),BR R,m,b,rows)) (h2:qBN n i=some (qj i)):
  (qBD n (least,deep,a,op,i,BR r,m,b,rows)).run=some (.inl (least,deep,a,if sgn R=(qj i).toList then i else op,i+1,BR R,m,b,rows)):=by
 have w1:IntKind.i64.wrap (i+1)=i+1:=qb (by omega)
 refine qN (decide_eq_true (show i≤11 by omega)) (qA h1 (qA h2 ?_))
 by_cases hq:sgn R=(qj i).toList
 ·rw [if_pos hq]
  exact qN (by simp [qBB,hq]) (by rw [qC,w1])
 ·rw [if_neg hq]
  exact qO (by simp [qBB,hq]) (by rw [qC,w1])
theorem qPB {n:Nat} (least deep a:Int) (R:List UInt8) (m:Nat) (b:Bool) (rows:List (List PV))
  (h1:qBc n (BR R) m b rows=some (BR (sgn R),BR R,m,b,rows)) (h2:∀i,1≤i∧i≤11→qBN n i=some (qj i)):
  ∀(k:Nat) (op i:Int) (M:Nat),1≤i→i+k=12→k+1≤M→zD (qBD n) M (least,deep,a,op,i,BR R,m,b,rows)=some (least,deep,a,opF (sgn R) op i k,BR R,m,b,rows)
 |k,op,i,0,_,_,h=>by omega
 |0,op,i,M+1,hi,hk,h=>by
  rw [qP (r:=(least,deep,a,op,BR R,m,b,rows)) (by exact qO (decide_eq_false (show ¬i≤11 by omega)) rfl)]
  rfl
 |k+1,op,i,M+1,hi,hk,h=>by
  rw [qc (qPA least deep a op i R R m b rows ⟨hi,by omega⟩ h1 (h2 i ⟨hi,by omega⟩))]
  exact qPB least deep a R m b rows h1 h2 k _ (i+1) M (by omega) (by omega) (by omega)
theorem qRR (least deep a:Int) (r:List UInt8) (m:Nat) (b:Bool) (rows:List (List PV)):∃n0,∀n,n0≤n→∀M,n0≤M→zD (qBD n) M (least,deep,a,0,1,BR r,m,b,rows)=some (least,deep,a,qAN (tb r),BR (tb r),m,b,rows):=by
 obtain ⟨n1,h1⟩:=qLm r m b rows
 obtain ⟨n2,h2⟩:=qLm (tb r) m b rows
 obtain ⟨n3,h3⟩:=qRo
 refine ⟨n1+n2+n3+20,fun n hn M hM=>?_⟩
 obtain ⟨M,rfl,hM⟩:=up1 hM
 have h2:=h2 n (by omega)
 rw [qCH] at h2
 rw [qc (qPA least deep a 0 1 r (tb r) m b rows (by omega) (h1 n (by omega)) (h3 n (by omega) 1 (by omega)))]
 rw [show (1:Int)+1=2 from rfl,qPB least deep a (tb r) m b rows h2 (h3 n (by omega)) 10 _ 2 M (by omega) (by omega) (by omega),←qRp]
 rfl
theorem qPy {p:PS} (h:Gd p):Gd (qAz p).2∧(qAz p).2.1.length≤p.1.length∧∀x,(qAz p).1=some x→qKr x:=by
 have h1:=qy p.1
 have h2:=qF1 (tb p.1)
 have h0:=h.r
 unfold qAz
 simp only
 split
 ·have h3:=qHb [58] (wr (tb p.1),p.2)
  have h4:=qy (qX [58] (wr (tb p.1),p.2)).2.1
  have h5:=qF1 (tb (qX [58] (wr (tb p.1),p.2)).2.1)
  have h6:=qy (wr (tb p.1))
  have e:(qX [58] (wr (tb p.1),p.2)).2.2.2=p.2.2:=by unfold qX;split<;>rfl
  simp only at h3
  refine ⟨⟨by simp only;omega,by rw [e];exact h.n,by rw [e];exact h.s⟩,by simp only;omega,fun x hx=>?_⟩
  cases hx
  exact ⟨by simp [kd,ndA],by simp [ndA,em];decide⟩
 ·exact ⟨h,Nat.le_refl _,fun x hx=>by cases hx⟩
theorem qRS (p:PS) (h:p.1.length≤1000):∃x:Nd,(∀y,(qAz p).1=some y→x=y)∧Ev (qC0 · (BR p.1) p.2.2.length p.2.1 (p.2.2.map qV)) (x.1,x.2.1,x.2.2.1,x.2.2.2.1,x.2.2.2.2.1,x.2.2.2.2.2.1,x.2.2.2.2.2.2.1,x.2.2.2.2.2.2.2.1,x.2.2.2.2.2.2.2.2.1,x.2.2.2.2.2.2.2.2.2.1,x.2.2.2.2.2.2.2.2.2.2.1,x.2.2.2.2.2.2.2.2.2.2.2.1,x.2.2.2.2.2.2.2.2.2.2.2.2.1,(kd x).map qAs,(qAz p).1.isSome,qE6 (qAz p).2):=by
 have l1:=qy p.1
 have l2:=qF1 (tb p.1)
 have l3:=qHb [58] (wr (tb p.1),p.2)
 have l6:=qy (wr (tb p.1))
 simp only at l3
 obtain ⟨n1,h1⟩:=qOY p h
 obtain ⟨n2,h2⟩:=qQk p.1 h
 obtain ⟨n3,h3⟩:=qFT [58] (wr (tb p.1),p.2)
 have hle:(qX [58] (wr (tb p.1),p.2)).2.1.length≤1000:=by omega
 obtain ⟨n4,h4⟩:=qOY (qX [58] (wr (tb p.1),p.2)).2 hle
 obtain ⟨n5,h5⟩:=qQk (qX [58] (wr (tb p.1),p.2)).2.1 hle
 have e:(qX [58] (wr (tb p.1),p.2)).2.2=p.2:=by unfold qX;split<;>rfl
 unfold qAz
 simp only
 by_cases hc:(qAt (BR (wd (tb p.1)))).2.2.2.2=true∧(qX [58] (wr (tb p.1),p.2)).1=true
 ·rw [if_pos hc]
  refine ⟨_,fun y hy=>by cases hy;rfl,n1+n2+n3+n4+n5+1,fun n hn=>?_⟩
  obtain ⟨k,rfl,hm⟩:=up1 hn
  refine qA (h1 k (by omega)) (qA (h2 k (by omega)) (qN hc.1 (qA (h3 k (by omega)) (qO (by simp only;rw [hc.2];rfl) (qA (h4 k (by omega)) (qA (h5 k (by omega)) ?_))))))
  cases hb:(qX [58] (wr (tb p.1),p.2)).2.2.1 with
  |true=>
   refine qN hb ?_
   rw [qC];rfl
  |false=>
   refine qO hb ?_
   rw [qC];rfl
 ·rw [if_neg hc]
  refine ⟨(0,0,0,0,⟨#[]⟩,0,0,false,false,0,0,false,false,[]),fun y hy=>(by cases hy),n1+n2+n3+1,fun n hn=>?_⟩
  obtain ⟨k,rfl,hm⟩:=up1 hn
  cases hr:(qAt (BR (wd (tb p.1)))).2.2.2.2 with
  |false=>exact qA (h1 k (by omega)) (qA (h2 k (by omega)) (qO hr rfl))
  |true=>
   have ht:(qX [58] (wr (tb p.1),p.2)).1=false:=by
    rw [Bool.eq_false_iff];exact fun e=>hc ⟨hr,e⟩
   refine qA (h1 k (by omega)) (qA (h2 k (by omega)) (qN hr (qA (h3 k (by omega)) (qN (by simp only;rw [ht];rfl) ?_))))
   rw [qC]
   simp only [qE6,e]
   rfl
theorem qIj {s:ByteArray} (h:(qh s).2.2.2=true) (hk:(qh s).1=1∨(qh s).1=3):(qh s).2.2.1.size≤2000:=by
 unfold qh at h hk⊢
 split at h
 ·rename_i hc
  rw [if_pos hc] at hk⊢
  have h1:=hc.1
  unfold okV at h1
  have h2:¬(qAx s).1=2:=by
   simp only at hk
   omega
  rw [if_neg h2] at h1
  simp only [Bool.and_eq_true,beq_iff_eq] at h1
  have:=congrArg List.length h1.1
  rw [qAl] at this
  have h0:(qAx s).2.2.size=0:=this
  show (qAx s).2.2.size≤2000
  omega
 ·cases h
def Kj:PJ→PS→Prop
 | .args _ _ kids,p=>kids.length+p.1.length≤1500
 |_,_=>True
theorem qIt {w:List UInt8} {p:PS} (h:Gd p):Gd (qBw w p)∧(qBw w p).1.length≤p.1.length:=by
 have h1:=qHb w p
 have h2:=qy p.1
 unfold qBw
 split
 ·exact ⟨h,Nat.le_refl _⟩
 ·split
  ·exact ⟨qCa h,by omega⟩
  ·exact ⟨⟨(qCa h).r,(qCa h).n,(qCa h).s⟩,by show (qX w p).2.1.length≤_;omega⟩
theorem qKs {p:PS} {r:List UInt8} (h:Gd p) (hr:r.length≤p.1.length):Gd (r,p.2):=⟨by have:=h.r;simp only;omega,h.n,h.s⟩
theorem qEZ:∀(f:Nat) (j:PJ) (p:PS),Gd p→Kj j p→Gd (pP f j p).2∧(pP f j p).2.1.length≤p.1.length
 |0,j,p,h,_=>⟨h,Nat.le_refl _⟩
 |f+1,.bin least deep,p,h,_=>by
  unfold pP
  have a:=qEZ f (.un deep) p h trivial
  have b:=qEZ f (.loop least deep (pP f (.un deep) p).1) (pP f (.un deep) p).2 a.1 trivial
  exact ⟨b.1,Nat.le_trans b.2 a.2⟩
 |f+1,.loop least deep a,p,h,_=>by
  have h1:=qy p.1
  unfold pP
  split
  ·exact ⟨h,Nat.le_refl _⟩
  ·split
   ·exact ⟨qKs h h1,h1⟩
   ·have l1:((tb p.1).drop (sgn (tb p.1)).length).length≤p.1.length:=by simp;omega
    have b:=qEZ f (.bin (lvl (qAN (tb p.1))+1) deep) ((tb p.1).drop (sgn (tb p.1)).length,p.2) (qKs h l1) trivial
    simp only
    have c:=qF3 (x:=ndK 5 (qAN (tb p.1)) [a,(pP f (.bin (lvl (qAN (tb p.1))+1) deep) ((tb p.1).drop (sgn (tb p.1)).length,p.2)).1]) b.1 ⟨by simp [kd,ndK],by simp [ndK,em];decide⟩
    have d:=qEZ f (.loop least deep (qCt (ndK 5 (qAN (tb p.1)) [a,(pP f (.bin (lvl (qAN (tb p.1))+1) deep) ((tb p.1).drop (sgn (tb p.1)).length,p.2)).1]) (pP f (.bin (lvl (qAN (tb p.1))+1) deep) ((tb p.1).drop (sgn (tb p.1)).length,p.2)).2).1) _ c trivial
    refine ⟨d.1,Nat.le_trans d.2 ?_⟩
    rw [qA1]
    exact Nat.le_trans b.2 l1
 |f+1,.un deep,p,h,_=>by
  have h1:=qy p.1
  have h2:=qHb [45] p
  unfold pP
  split
  ·exact ⟨⟨h.r,h.n,h.s⟩,Nat.le_refl _⟩
  ·split
   ·simp only
    have b:=qEZ f (.un (deep+1)) (qX [45] p).2 (qCa h) trivial
    refine ⟨qF3 b.1 ⟨by simp [kd,ndK],by simp [ndK,em];decide⟩,?_⟩
    rw [qA1]
    exact Nat.le_trans b.2 (by omega)
   ·have b:=qEZ f (.at deep) (qX [45] p).2 (qCa h) trivial
    exact ⟨b.1,Nat.le_trans b.2 (by omega)⟩
 |f+1,.at deep,p,h,_=>by
  have h1:=qy p.1
  have h2:=qHb [40] p
  have h3:=qF1 (tb p.1)
  have h4:=h.r
  have g2:Gd (wr (tb p.1),p.2):=qKs h (by omega)
  unfold pP
  simp only
  split
  ·split
   ·exact ⟨⟨by simp only;omega,h.n,h.s⟩,h1⟩
   ·rename_i hh _ s t hq
    have a:=qIr _ _ hq
    have b:=qF4 _ _ _ (Nat.le_refl _) hq
    simp only [List.length_tail,List.length_nil] at a b
    refine ⟨qF3 (qKs h (by omega)) ⟨by simp [kd,nd1],by simp only [nd1,qm];omega⟩,?_⟩
    rw [qA1];simp only;omega
  ·split
   ·refine ⟨qF3 (qKs h (by simp;omega)) ⟨by simp [kd,nd1],by simp [nd1,em];decide⟩,?_⟩
    rw [qA1];simp;omega
   ·split
    ·have b:=qEZ f (.bin 1 (deep+1)) (qX [40] p).2 (qCa h) trivial
     have c:=qIt (w:= [41]) b.1
     exact ⟨c.1,Nat.le_trans c.2 (Nat.le_trans b.2 (by omega))⟩
    ·split
     ·rename_i hv
      refine ⟨qF3 g2 ⟨by simp [kd,nd1],qIj hv.1 hv.2⟩,?_⟩
      rw [qA1];simp only;omega
     ·split
      ·refine ⟨qF3 g2 ⟨by simp [kd,ndC],by simp [ndC,em];decide⟩,?_⟩
       rw [qA1];simp only;omega
      ·split
       ·rename_i op _
        have b:=qEZ f (.call op deep) (wr (tb p.1),p.2) g2 trivial
        exact ⟨b.1,Nat.le_trans b.2 (by simp only;omega)⟩
       ·exact ⟨⟨g2.r,g2.n,g2.s⟩,by show (wr (tb p.1)).length≤_;omega⟩
 |f+1,.call op deep,p,h,_=>by
  unfold pP
  have a:=qIt (w:= [40]) h
  have b:=qEZ f (.args op deep []) (qBw [40] p) a.1 (by have:=a.1.r;show 0+_≤_;omega)
  exact ⟨b.1,Nat.le_trans b.2 a.2⟩
 |f+1,.args op deep kids,p,h,hk=>by
  replace hk:kids.length+p.1.length≤1500:=hk
  unfold pP
  split
  ·refine ⟨qF3 h ⟨by simp [kd,ndK];omega,by simp [ndK,em];decide⟩,?_⟩
   rw [qA1];exact Nat.le_refl _
  ·simp only
   have a:=qPy h
   have qg:Gd (qDN (qAz p) (fun p=>pP f (.bin 1 (deep+1)) p)).2∧(qDN (qAz p) (fun p=>pP f (.bin 1 (deep+1)) p)).2.1.length≤p.1.length:=by
    unfold qDN
    split
    ·rename_i x hx
     refine ⟨qF3 a.1 (a.2.2 x hx),?_⟩
     rw [qA1];exact a.2.1
    ·have b:=qEZ f (.bin 1 (deep+1)) (qAz p).2 a.1 trivial
     exact ⟨b.1,Nat.le_trans b.2 a.2.1⟩
   generalize qDN (qAz p) (fun p=>pP f (.bin 1 (deep+1)) p)=q at qg⊢
   have t0:=qg.2
   have t1:=qy q.2.1
   have t2:=qHb [44] q.2
   split
   ·rename_i ht
    have t3:=qDO (by simp) ht
    have b:=qEZ f (.args op deep (kids++ [q.1])) (qX [44] q.2).2 (qCa qg.1) (by show (kids++ [q.1]).length+_≤_;simp;omega)
    exact ⟨b.1,Nat.le_trans b.2 (by omega)⟩
   ·have c:=qIt (w:= [41]) (qCa (w:= [44]) qg.1)
    refine ⟨qF3 c.1 ⟨by simp [kd,ndK];omega,by simp [ndK,em];decide⟩,?_⟩
    rw [qA1]
    exact Nat.le_trans c.2 (by omega)
def Ad (f:Nat):PJ→PS→Prop
 | .bin _ _,p=>20*(tb p.1).length+6≤f
 | .loop _ _ _,p=>20*(tb p.1).length+5≤f
 | .un _,p=>20*(tb p.1).length+4≤f
 | .at _,p=>20*(tb p.1).length+3≤f∧p.2.1=false
 | .call _ _,p=>20*(tb p.1).length+9≤f
 | .args _ _ _,p=>20*(tb p.1).length+8≤f
def Jd:PJ→Prop
 | .bin _ d=>0≤d∧d≤401
 | .loop _ d _=>0≤d∧d≤401
 | .un d=>0≤d∧d≤401
 | .at d=>0≤d∧d≤400
 | .call _ d=>0≤d∧d≤400
 | .args _ d _=>0≤d∧d≤400
def Wk:PJ→PS→Int×PS→Prop
 | .bin least deep,p,r=>Ev (qCU · least deep (BR p.1) p.2.2.length p.2.1 (p.2.2.map qV)) (qF6 r)
 | .loop least deep a,p,r=>∃n0,∀n,n0≤n→∀M,n0≤M→zD (qCs (qU n) n) M (least,deep,a,qE6 p)=some (qF6 r)
 | .un deep,p,r=>Ev (qFK · deep (BR p.1) p.2.2.length p.2.1 (p.2.2.map qV)) (qF6 r)
 | .at deep,p,r=>Ev (qFs · deep (BR p.1) p.2.2.length p.2.1 (p.2.2.map qV)) (qF6 r)
 | .call op deep,p,r=>Ev (qCA · op deep (BR p.1) p.2.2.length p.2.1 (p.2.2.map qV)) (qF6 r)
 | .args op deep kids,p,r=>∃(ks:List Int) (p':PS),r=qCt (ndK 6 op ks) p'∧Gd p'∧ks.length≤1501∧∃n0,∀n,n0≤n→∀M,n0≤M→
   zD (qCF (qU n) n) M (op,deep,kids.length,kids.map qAs,qE6 p)=some (op,ks.length,ks.map qAs,qE6 p')
theorem qKt (w:List UInt8) {p:PS} (h:p.2.1=false):(BR (qX w p).2.1,(qX w p).2.2.2.length,!(qX w p).1,(qX w p).2.2.2.map qV)=qE6 (qBw w p):=by
 have e:(qX w p).2.2=p.2:=by unfold qX;split<;>rfl
 unfold qBw
 rw [if_neg (by rw [h];simp)]
 cases hc:(qX w p).1 with
 |true=>rw [if_pos rfl];simp only [qE6,e,h];rfl
 |false=>rw [if_neg (by simp)];rfl
theorem qOa {r w:List UInt8} (hw:w≠ []) (h:w<+:r):(tb (r.drop w.length)).length<r.length:=by
 have h1:=qy (r.drop w.length)
 have h2:=h.length_le
 have h3:0<w.length:=List.length_pos_iff.2 hw
 simp only [List.length_drop] at h1
 omega
theorem qSC {r:List UInt8} (h:qAN r≠0):1≤qAN r∧qAN r≤11∧sgn r=(qj (qAN r)).toList∧sgn r≠ []:=by
 rcases qPu r with e|⟨a,b,c⟩
 ·exact absurd e h
 ·refine ⟨a,b,c,fun e=>h ?_⟩
  unfold qAN;rw [e];decide
def qKu (f:Nat) (deep:Int) (w:List UInt8) (p2:PS):Int×PS:=
 if (qh (BR w)).2.2.2=true∧((qh (BR w)).1=1∨(qh (BR w)).1=3) then qCt (nd1 ((qh (BR w)).1,(qh (BR w)).2.1,(qh (BR w)).2.2.1)) p2
 else if (qAt (BR w)).2.2.2.2=true then qCt (ndC (qAt (BR w))) p2
 else match qE4 w 1 10 with
 |some op=>pP f (.call op deep) p2
 |none=>(-1,qPT p2)
def qPY (g:G_impl_reader_binary) (n:Nat) (deep:Int) (w:ByteArray) (c:ByteArray×Nat×Bool×List (List PV)):Tr (Int×ByteArray×Nat×Bool×List (List PV)):=
 (.opt (qAe n w) fun r=>(.ask r.2.2.2.2
  (.opt (qp n 2 0 0 0 ⟨#[]⟩ r.1 r.2.1 r.2.2.1 r.2.2.2.1 0 0 false false [] c.1 c.2.1 c.2.2.1 c.2.2.2) fun s=> .done (s.1,s.2.1,s.2.2.1,s.2.2.2.1,s.2.2.2.2))
  (.opt (zD (qAj g n) n (deep,w,1,c.1,c.2.1,c.2.2.1,c.2.2.2)) fun s=>(.alt s (fun t=> .done (t.1,t.2.1,t.2.2.1,t.2.2.2.1,t.2.2.2.2)) (fun t=> .done (-1,t.1,t.2.1,true,t.2.2.2))))))
def qRd (g:G_impl_reader_binary) (n:Nat) (deep:Int) (w:ByteArray) (c:ByteArray×Nat×Bool×List (List PV)):Tr (Int×ByteArray×Nat×Bool×List (List PV)):=
 (.opt (qAB n w) fun r=>(.ask r.2.2.2
  (.ask (r.1==1) (.opt (qi n r.1 r.2.1 r.2.2.1 c.1 c.2.1 c.2.2.1 c.2.2.2) fun s=> .done (s.1,s.2.1,s.2.2.1,s.2.2.2.1,s.2.2.2.2))
   (.ask (r.1==3) (.opt (qi n r.1 r.2.1 r.2.2.1 c.1 c.2.1 c.2.2.1 c.2.2.2) fun s=> .done (s.1,s.2.1,s.2.2.1,s.2.2.2.1,s.2.2.2.2))
    (qPY g n deep w c)))
  (qPY g n deep w c)))
theorem qQJ (f:Nat) (deep:Int) (r:List UInt8) (p2:PS) (hr:r.length≤1000) (hp:p2.2.2.length≤60) (hc:∀op,qE4 (wd (tb r)) 1 10=some op→Ev (qCA · op deep (BR p2.1) p2.2.2.length p2.2.1 (p2.2.2.map qV)) (qF6 (pP f (.call op deep) p2))):
  ∃n0,∀n,n0≤n→(qPY (qU n) n deep (BR (wd (tb r))) (qE6 p2)).run=some (qF6 (if (qAt (BR (wd (tb r)))).2.2.2.2=true then qCt (ndC (qAt (BR (wd (tb r))))) p2 else match qE4 (wd (tb r)) 1 10 with
   |some op=>pP f (.call op deep) p2
   |none=>(-1,qPT p2))):=by
 obtain ⟨n1,h1⟩:=qQk r hr
 obtain ⟨n2,h2⟩:=qLn (ndC (qAt (BR (wd (tb r))))) p2 hp
 obtain ⟨n3,h3⟩:=qRn
 obtain ⟨n4,h4⟩:∃n4,∀n,n4≤n→∀op,qE4 (wd (tb r)) 1 10=some op→qCA n op deep (BR p2.1) p2.2.2.length p2.2.1 (p2.2.2.map qV)=some (qF6 (pP f (.call op deep) p2)):=by
  cases hf:qE4 (wd (tb r)) 1 10 with
  |none=>exact ⟨0,fun n _ op h=>by cases h⟩
  |some op=>obtain ⟨n4,h4⟩:=hc op hf;exact ⟨n4,fun n hn op' h=>by cases h;exact h4 n hn⟩
 refine ⟨n1+n2+n3+n4+12,fun n hn=>?_⟩
 have lp:=qPx (g:=qU n) deep (wd (tb r)) p2 (fun op=>pP f (.call op deep) p2) (h3 n (by omega)) 10 1 n (by omega) (by omega) (by omega) (h4 n (by omega))
 cases hb:(qAt (BR (wd (tb r)))).2.2.2.2 with
 |true=>
  rw [if_pos rfl]
  exact qA (h1 n (by omega)) (qN hb (qA (h2 n (by omega)) rfl))
 |false=>
  rw [if_neg (by simp)]
  refine qA (h1 n (by omega)) (qO hb (qA lp ?_))
  cases qE4 (wd (tb r)) 1 10<;>rfl
theorem qQl (f:Nat) (deep:Int) (r:List UInt8) (p2:PS) (hr:r.length≤1000) (hp:p2.2.2.length≤60) (hc:∀op,qE4 (wd (tb r)) 1 10=some op→Ev (qCA · op deep (BR p2.1) p2.2.2.length p2.2.1 (p2.2.2.map qV)) (qF6 (pP f (.call op deep) p2))):
  ∃n0,∀n,n0≤n→(qRd (qU n) n deep (BR (wd (tb r))) (qE6 p2)).run=some (qF6 (qKu f deep (wd (tb r)) p2)):=by
 obtain ⟨n1,h1⟩:=qSB r hr
 obtain ⟨n2,h2⟩:=qIi ((qh (BR (wd (tb r)))).1,(qh (BR (wd (tb r)))).2.1,(qh (BR (wd (tb r)))).2.2.1) p2 hp
 obtain ⟨n3,h3⟩:=qQJ f deep r p2 hr hp hc
 refine ⟨n1+n2+n3,fun n hn=>?_⟩
 have h2:=h2 n (by omega)
 have h3:=h3 n (by omega)
 unfold qKu
 refine qA (h1 n (by omega)) ?_
 by_cases ho:(qh (BR (wd (tb r)))).2.2.2=true
 ·refine qN ho ?_
  by_cases k1:(qh (BR (wd (tb r)))).1=1
  ·rw [if_pos ⟨ho,.inl k1⟩]
   exact qN (by rw [k1];rfl) (qA h2 rfl)
  ·refine qO (beq_eq_false_iff_ne.2 k1) ?_
   by_cases k3:(qh (BR (wd (tb r)))).1=3
   ·rw [if_pos ⟨ho,.inr k3⟩]
    exact qN (by rw [k3];rfl) (qA h2 rfl)
   ·rw [if_neg (fun h=>h.2.elim k1 k3)]
    exact qO (beq_eq_false_iff_ne.2 k3) h3
 ·rw [if_neg (fun h=>ho h.1)]
  exact qO (by rw [Bool.eq_false_iff];exact ho) h3
theorem qSD (w:List UInt8) (p:PS):qX w (tb p.1,p.2)=qX w p:=by unfold qX;simp only [qCH]
theorem qLo {c:UInt8} {r:List UInt8} (h:r.head?=some c):∃t,r=c::t:=by
 cases r with
 |nil=>cases h
 |cons d t=>simp at h;subst h;exact ⟨t,rfl⟩
theorem qEk:∀(f:Nat) (j:PJ) (p:PS),Ad f j p→Jd j→Gd p→Kj j p→Wk j p (pP f j p)
 |0,j,p,ha,_,_,_=>by cases j<;>simp [Ad] at ha
 |f+1,.bin least deep,p,ha,hj,hg,_=>by
  replace ha:20*(tb p.1).length+6≤f+1:=ha
  obtain ⟨n1,h1⟩:=qEk f (.un deep) p (by show 20*_+4≤f;omega) hj hg trivial
  have hl:=qDP f (.un deep) p
  obtain ⟨n2,h2⟩:=qEk f (.loop least deep (pP f (.un deep) p).1) (pP f (.un deep) p).2 (by show 20*_+5≤f;omega) hj (qEZ f (.un deep) p hg trivial).1 trivial
  refine ⟨n1+n2+1,fun n hn=>?_⟩
  obtain ⟨k,rfl,hm⟩:=up1 hn
  exact qA (h1 k (by omega)) (qA (h2 k (by omega) k (by omega)) rfl)
 |f+1,.loop least deep a,(r,b,l),ha,hj,hg,_=>by
  replace ha:20*(tb r).length+5≤f+1:=ha
  have hn60:l.length≤60:=hg.n
  have hr1:r.length≤1000:=hg.r
  have ht:=qy r
  unfold pP
  cases b with
  |true=>
   rw [if_pos rfl]
   refine ⟨1,fun n hn M hM=>?_⟩
   obtain ⟨M,rfl,hM⟩:=up1 hM
   exact qP (qO rfl rfl)
  |false=>
   rw [if_neg (by simp)]
   simp only
   obtain ⟨n1,h1⟩:=qRR least deep a r l.length false (l.map qV)
   by_cases h0:qAN (tb r)=0
   ·rw [if_pos (.inl h0)]
    refine ⟨n1+1,fun n hn M hM=>?_⟩
    obtain ⟨M,rfl,hM⟩:=up1 hM
    exact qP (qN rfl (qA (h1 n (by omega) n (by omega)) (qN (by simp only;rw [h0];rfl) rfl)))
   ·obtain ⟨o1,o2,o3,o4⟩:=qSC h0
    obtain ⟨n2,h2⟩:=qJW (qAN (tb r)) ⟨o1,o2⟩
    by_cases hl:lvl (qAN (tb r))<least
    ·rw [if_pos (.inr hl)]
     refine ⟨n1+n2+1,fun n hn M hM=>?_⟩
     obtain ⟨M,rfl,hM⟩:=up1 hM
     exact qP (qN rfl (qA (h1 n (by omega) n (by omega)) (qO (beq_eq_false_iff_ne.2 h0) (qA (h2 n (by omega)) (qN (decide_eq_true hl) rfl)))))
    ·rw [if_neg (fun h=>h.elim h0 hl)]
     have lv:=qOX (op:=qAN (tb r))
     have hlt:=qOa o4 (qPv (tb r))
     have hp1:Gd ((tb r).drop (sgn (tb r)).length,false,l):=⟨by simp;omega,hn60,hg.s⟩
     obtain ⟨n3,h3⟩:=qF0 (qAN (tb r)) ⟨o1,o2⟩
     obtain ⟨n4,h4⟩:=qN1 (qj (qAN (tb r))).toList (tb r) l.length false (l.map qV)
     obtain ⟨n5,h5⟩:=qEk f (.bin (lvl (qAN (tb r))+1) deep) ((tb r).drop (sgn (tb r)).length,false,l) (by show 20*_+6≤f;simp only;omega) hj hp1 trivial
     have g5:=qEZ f (.bin (lvl (qAN (tb r))+1) deep) ((tb r).drop (sgn (tb r)).length,false,l) hp1 trivial
     have l5:=qDP f (.bin (lvl (qAN (tb r))+1) deep) ((tb r).drop (sgn (tb r)).length,false,l)
     simp only at l5
     generalize pP f (.bin (lvl (qAN (tb r))+1) deep) ((tb r).drop (sgn (tb r)).length,false,l)=q at h5 g5 l5⊢
     obtain ⟨n6,h6⟩:=qLn (ndK 5 (qAN (tb r)) [a,q.1]) q.2 g5.1.n
     have g6:=qF3 (x:=ndK 5 (qAN (tb r)) [a,q.1]) g5.1 ⟨by simp [kd,ndK],by simp [ndK,em];decide⟩
     have e6:=qA1 (ndK 5 (qAN (tb r)) [a,q.1]) q.2
     generalize qCt (ndK 5 (qAN (tb r)) [a,q.1]) q.2=c at h6 g6 e6⊢
     obtain ⟨n7,h7⟩:=qEk f (.loop least deep c.1) c.2 (by show 20*(tb c.2.1).length+5≤f;rw [e6];omega) hj g6 trivial
     refine ⟨n1+n2+n3+n4+n5+n6+n7+1,fun n hn M hM=>?_⟩
     obtain ⟨M,rfl,hM⟩:=up1 hM
     have w1:IntKind.i64.wrap (lvl (qAN (tb r))+1)=lvl (qAN (tb r))+1:=qb (by omega)
     have h3:=h3 n (by omega)
     have h4:=h4 n (by omega)
     have h5:=h5 n (by omega)
     rw [qF2,qCH,←o3,if_pos rfl] at h4
     rw [←w1] at h5
     rw [qc (v':=(least,deep,c.1,qE6 c.2)) (by
      exact qN rfl (qA (h1 n (by omega) n (by omega)) (qO (beq_eq_false_iff_ne.2 h0) (qA (h2 n (by omega)) (qO (decide_eq_false hl) (qA h3 (qA h4 (qA (h2 n (by omega)) (qA h5 (qN rfl (qA (h6 n (by omega)) rfl)))))))))))]
     exact h7 n (by omega) M (by omega)
 |f+1,.un deep,p,ha,hj,hg,_=>by
  replace ha:20*(tb p.1).length+4≤f+1:=ha
  replace hj:0≤deep∧deep≤401:=hj
  unfold pP
  by_cases hd:deep>400
  ·rw [if_pos (.inl hd)]
   refine ⟨1,fun n hn=>?_⟩
   obtain ⟨k,rfl,hm⟩:=up1 hn
   exact qN (decide_eq_true hd) (qN rfl rfl)
  ·cases hb:p.2.1 with
   |true=>
    rw [if_pos (.inr rfl)]
    refine ⟨1,fun n hn=>?_⟩
    obtain ⟨k,rfl,hm⟩:=up1 hn
    refine qO (decide_eq_false hd) (qN hb ?_)
    rw [qC,hb];rfl
   |false=>
    rw [if_neg (fun h=>h.elim hd (by simp))]
    obtain ⟨n1,h1⟩:=qFT [45] p
    have t1:=qDY [45] p
    cases hc:(qX [45] p).1 with
    |true=>
     rw [if_pos rfl]
     simp only
     have t2:=qDO (by simp) hc
     have t3:=qy (qX [45] p).2.1
     obtain ⟨n2,h2⟩:=qEk f (.un (deep+1)) (qX [45] p).2 (by show 20*_+4≤f;omega) (by show 0≤deep+1∧deep+1≤401;omega) (qCa hg) trivial
     have g2:=qEZ f (.un (deep+1)) (qX [45] p).2 (qCa hg) trivial
     generalize pP f (.un (deep+1)) (qX [45] p).2=q at h2 g2⊢
     obtain ⟨n3,h3⟩:=qLn (ndK 4 0 [q.1]) q.2 g2.1.n
     refine ⟨n1+n2+n3+1,fun n hn=>?_⟩
     obtain ⟨k,rfl,hm⟩:=up1 hn
     have w1:IntKind.i64.wrap (deep+1)=deep+1:=qb (by omega)
     have h2:=h2 k (by omega)
     rw [←w1] at h2
     exact qO (decide_eq_false hd) (qO hb (qA (h1 k (by omega)) (qN hc (qA h2 (qN rfl (qA (h3 k (by omega)) rfl))))))
    |false=>
     rw [if_neg (by simp)]
     have e:(qX [45] p).2.2=p.2:=by unfold qX;split<;>rfl
     obtain ⟨n2,h2⟩:=qEk f (.at deep) (qX [45] p).2 ⟨by omega,by rw [e];exact hb⟩ (by show 0≤deep∧deep≤400;omega) (qCa hg) trivial
     refine ⟨n1+n2+1,fun n hn=>?_⟩
     obtain ⟨k,rfl,hm⟩:=up1 hn
     exact qO (decide_eq_false hd) (qO hb (qA (h1 k (by omega)) (qO hc (qA (h2 k (by omega)) rfl))))
 |f+1,.at deep,(r0,b,l),ha,hj,hg,_=>by
  obtain ⟨ha,hb⟩:=ha
  replace ha:20*(tb r0).length+3≤f+1:=ha
  replace hb:b=false:=hb
  subst hb
  replace hj:0≤deep∧deep≤400:=hj
  have hn60:l.length≤60:=hg.n
  have hr1:r0.length≤1000:=hg.r
  have ht:=qy r0
  have ett:=qCH r0
  have eit:=qSD [40] (r0,false,l)
  obtain ⟨n1,h1⟩:=qGL r0 l.length false (l.map qV)
  have wdec:∀op,qE4 (wd (tb r0)) 1 10=some op→(wr (tb r0)).length<(tb r0).length:=fun op h=>by
   have e:=congrArg List.length (wdr (tb r0))
   simp only [List.length_append] at e
   have:wd (tb r0)≠ []:=fun e=>by
    rw [e,show qE4 [] 1 10=none by decide+kernel] at h
    cases h
   have:=List.length_pos_iff.2 this
   omega
  unfold pP
  simp only at eit⊢
  rw [←eit]
  generalize tb r0=r at*
  have hw:=qF1 r
  have wordEv:∃n0,∀n,n0≤n→(qRd (qU n) n deep (BR (wd r)) (qE6 (wr r,false,l))).run=some (qF6 (qKu f deep (wd r) (wr r,false,l))):=by
   have:=qQl f deep r (wr r,false,l) (by omega) hn60 (by
    rw [ett]
    intro op h
    exact qEk f (.call op deep) (wr r,false,l) (by have:=wdec op h;have:=qy (wr r);show 20*(tb (wr r)).length+9≤f;omega) hj ⟨by simp only;omega,hn60,hg.s⟩ trivial)
   rwa [ett] at this
  obtain ⟨n9,h9⟩:=wordEv
  obtain ⟨n8,h8⟩:=qOY (r,false,l) (by simp only;omega)
  simp only [ett] at h8
  by_cases hq:r.head?=some 34
  ·rw [if_pos hq]
   obtain ⟨t,rfl⟩:=qLo hq
   simp only [List.length_cons] at ht
   obtain ⟨n2,h2⟩:=qQI t false l (by omega) hn60
   refine ⟨n1+n2+3,fun n hn=>?_⟩
   obtain ⟨k,rfl,hm⟩:=up3 hn
   refine qA (h1 (k+2) (by omega)) (qA (qBf k (34::t) [34]) (qN rfl (qA (h2 (k+2) (by omega)) ?_)))
   rw [qC]
   simp only [List.tail_cons]
   all_goals (cases qBh [] t<;>rfl)
  ·rw [if_neg hq]
   have p34:List.isPrefixOf [34] r=false:=by rw [Bool.eq_false_iff];exact fun e=>hq ((qDr 34 r).1 e)
   by_cases hh:r.head?=some 35
   ·have p35:List.isPrefixOf [35] r=true:=(qDr 35 r).2 hh
    simp only [if_pos hh]
    obtain ⟨n2,h2⟩:=qRm deep r false l hn60
    cases he:qGK r 1 5 with
    |some e=>
     simp only
     refine ⟨n1+n2+3,fun n hn=>?_⟩
     obtain ⟨k,rfl,hm⟩:=up3 hn
     have h2:=h2 (k+2) (by omega) (k+2) (by omega)
     rw [he] at h2
     exact qA (h1 (k+2) (by omega)) (qA (qBf k r [34]) (qO p34 (qA (qBf k r [35]) (qN p35 (qA h2 rfl)))))
    |none=>
     simp only
     rw [if_neg (fun h=>h.1 hh)]
     refine ⟨n1+n2+n8+n9+3,fun n hn=>?_⟩
     obtain ⟨k,rfl,hm⟩:=up3 hn
     have h2:=h2 (k+2) (by omega) (k+2) (by omega)
     rw [he] at h2
     exact qA (h1 (k+2) (by omega)) (qA (qBf k r [34]) (qO p34 (qA (qBf k r [35]) (qN p35 (qA h2 (qA (h8 (k+2) (by omega)) (h9 (k+2) (by omega))))))))
   ·have p35:List.isPrefixOf [35] r=false:=by rw [Bool.eq_false_iff];exact fun e=>hh ((qDr 35 r).1 e)
    simp only [if_neg hh]
    obtain ⟨n2,h2⟩:=qFT [40] (r,false,l)
    cases hc:(qX [40] (r,false,l)).1 with
    |true=>
     rw [if_pos ⟨hh,rfl⟩]
     have t2:=qDO (by simp) hc
     have t3:=qy (qX [40] (r,false,l)).2.1
     simp only [ett] at t2
     have g1:Gd (r,false,l):=⟨by simp only;omega,hn60,hg.s⟩
     obtain ⟨n3,h3⟩:=qEk f (.bin 1 (deep+1)) (qX [40] (r,false,l)).2 (by show 20*_+6≤f;omega) (by show 0≤deep+1∧deep+1≤401;omega) (qCa g1) trivial
     generalize pP f (.bin 1 (deep+1)) (qX [40] (r,false,l)).2=q at h3⊢
     obtain ⟨n4,h4⟩:=qFT [41] q.2
     refine ⟨n1+n2+n3+n4+3,fun n hn=>?_⟩
     obtain ⟨k,rfl,hm⟩:=up3 hn
     have w1:IntKind.i64.wrap (deep+1)=deep+1:=qb (by omega)
     have h3:=h3 (k+2) (by omega)
     rw [←w1] at h3
     cases hbb:q.2.2.1 with
     |true=>
      refine qA (h1 (k+2) (by omega)) (qA (qBf k r [34]) (qO p34 (qA (qBf k r [35]) (qO p35 (qA (h2 (k+2) (by omega)) (qN hc (qA h3 (qN hbb ?_))))))))
      rw [qC]
      unfold qBw
      rw [if_pos hbb]
      simp only [qF6,hbb]
     |false=>
      refine qA (h1 (k+2) (by omega)) (qA (qBf k r [34]) (qO p34 (qA (qBf k r [35]) (qO p35 (qA (h2 (k+2) (by omega)) (qN hc (qA h3 (qO hbb (qA (h4 (k+2) (by omega)) ?_)))))))))
      rw [qC]
      exact congrArg (fun x=>some (q.1,x)) (qKt [41] hbb)
    |false=>
     rw [if_neg (fun h=>by simp at h)]
     have e:(qX [40] (r,false,l)).2=(r,false,l):=by
      unfold qX at hc⊢
      split at hc
      ·cases hc
      ·rename_i hne
       rw [if_neg hne];simp only [ett]
     rw [hc,e] at h2
     refine ⟨n1+n2+n8+n9+3,fun n hn=>?_⟩
     obtain ⟨k,rfl,hm⟩:=up3 hn
     exact qA (h1 (k+2) (by omega)) (qA (qBf k r [34]) (qO p34 (qA (qBf k r [35]) (qO p35 (qA (h2 (k+2) (by omega)) (qO rfl (qA (h8 (k+2) (by omega)) (h9 (k+2) (by omega)))))))))
 |f+1,.call op deep,p,ha,hj,hg,_=>by
  replace ha:20*(tb p.1).length+9≤f+1:=ha
  unfold pP
  have gm:=qIt (w:= [40]) hg
  have rm:=qIq [40] p
  obtain ⟨ks,p',e1,e2,e3,n2,h2⟩:=qEk f (.args op deep []) (qBw [40] p) (by show 20*_+8≤f;omega) hj gm.1 (by have:=gm.1.r;show 0+_≤_;omega)
  obtain ⟨n1,h1⟩:=qFT [40] p
  obtain ⟨n3,h3⟩:=qLn (ndK 6 op ks) p' e2.n
  rw [e1]
  refine ⟨n1+n2+n3+1,fun n hn=>?_⟩
  obtain ⟨k,rfl,hm⟩:=up1 hn
  have h2:=h2 k (by omega) k (by omega)
  by_cases hb:p.2.1=true
  ·have em:qE6 (qBw [40] p)=(BR p.1,p.2.2.length,true,p.2.2.map qV):=by
    unfold qBw;rw [if_pos hb];simp only [qE6,hb]
   rw [em] at h2
   exact qN hb (qA h2 (qN (decide_eq_true (by simp)) (qA (h3 k (by omega)) rfl)))
  ·have hb:p.2.1=false:=by rw [Bool.eq_false_iff];exact hb
   have em:=qKt [40] hb
   rw [←em] at h2
   exact qO hb (qA (h1 k (by omega)) (qA h2 (qN (decide_eq_true (by simp)) (qA (h3 k (by omega)) rfl))))
 |f+1,.args op deep kids,p,ha,hj,hg,hk=>by
  replace ha:20*(tb p.1).length+8≤f+1:=ha
  replace hk:kids.length+p.1.length≤1500:=hk
  replace hj:0≤deep∧deep≤400:=hj
  unfold pP
  cases hb:p.2.1 with
  |true=>
   rw [if_pos rfl]
   refine ⟨kids,p,rfl,hg,by omega,1,fun n hn M hM=>?_⟩
   obtain ⟨M,rfl,hM⟩:=up1 hM
   exact qP (qO (by show (!p.2.1)=false;rw [hb];rfl) rfl)
  |false=>
   rw [if_neg (by simp)]
   simp only
   obtain ⟨x,hx,n1,h1⟩:=qRS p hg.r
   have ga:=qPy hg
   have ra:=qHB p
   have tl0:=qy p.1
   have nb:∀k:Nat,(!(qE6 p).2.2.1)=true:=fun _=>by show (!p.2.1)=true;rw [hb];rfl
   cases hi:(qAz p).1 with
   |some y=>
    have hxy:=hx y hi
    subst hxy
    obtain ⟨n3,h3⟩:=qLn x (qAz p).2 ga.1.n
    have eo:qDN (qAz p) (fun p=>pP f (.bin 1 (deep+1)) p)=qCt x (qAz p).2:=by unfold qDN;rw [hi]
    rw [eo]
    have gq:Gd (qCt x (qAz p).2).2∧(qCt x (qAz p).2).2.1.length≤p.1.length∧(tb (qCt x (qAz p).2).2.1).length≤(tb p.1).length:=⟨qF3 ga.1 (ga.2.2 x hi),by rw [qA1];exact ga.2.1,by rw [qA1];exact ra⟩
    have n2:=0
    generalize qCt x (qAz p).2=Q at h3 gq⊢
    obtain ⟨n4,h4⟩:=qFT [44] Q.2
    cases hc:(qX [44] Q.2).1 with
    |true=>
     obtain ⟨ks,p',e1,e2,e3,n6,h6⟩:=qEk f (.args op deep (kids++ [Q.1])) (qX [44] Q.2).2 (by have:=qDO (by simp) hc;show 20*(tb (qX [44] Q.2).2.1).length+8≤f;have:=qy (qX [44] Q.2).2.1;omega) ⟨hj.1,hj.2⟩ (qCa gq.1) (by have:=qDO (by simp) hc;have:=qy Q.2.1;show (kids++ [Q.1]).length+_≤_;simp;omega)
     refine ⟨ks,p',by rw [if_pos rfl];exact e1,e2,e3,n1+n2+n3+n4+n6+1,fun k hn M hM=>?_⟩
     obtain ⟨M,rfl,hM⟩:=up1 hM
     rw [qc (v':=(op,deep,(kids++ [Q.1]).length,(kids++ [Q.1]).map qAs,qE6 (qX [44] Q.2).2)) (by
      have h1:=h1 k (by omega)
      rw [hi] at h1
      refine qN (nb 0) (qA h1 (qN rfl (qA (h3 k (by omega)) (qN rfl (qN (decide_eq_true ⟨by simp,by decide,by decide,by simp;omega,rfl⟩) (qA (h4 k (by omega)) ?_))))))
      refine qO (by simp only;rw [hc];rfl) ?_
      rw [qC]
      simp only [List.length_append,List.map_append]
      rfl)]
     exact h6 k (by omega) M (by omega)
    |false=>
     obtain ⟨n5,h5⟩:=qFT [41] (qX [44] Q.2).2
     refine ⟨kids++ [Q.1],qBw [41] (qX [44] Q.2).2,by rw [if_neg (by simp)],(qIt (qCa gq.1)).1,by simp;omega,n1+n2+n3+n4+n5+1,fun k hn M hM=>?_⟩
     obtain ⟨M,rfl,hM⟩:=up1 hM
     cases hbb:(qX [44] Q.2).2.2.1 with
     |true=>
      rw [qP (r:=(op,(kids++ [Q.1]).length,(kids++ [Q.1]).map qAs,qE6 (qBw [41] (qX [44] Q.2).2))) (by
       have h1:=h1 k (by omega)
       rw [hi] at h1
       refine qN (nb 0) (qA h1 (qN rfl (qA (h3 k (by omega)) (qN rfl (qN (decide_eq_true ⟨by simp,by decide,by decide,by simp;omega,rfl⟩) (qA (h4 k (by omega)) ?_))))))
       refine qN (by simp only;rw [hc];rfl) (qN hbb ?_)
       rw [qC]
       unfold qBw
       rw [if_pos hbb]
       simp only [List.length_append,List.map_append,qE6,hbb]
       rfl)]
     |false=>
      rw [qP (r:=(op,(kids++ [Q.1]).length,(kids++ [Q.1]).map qAs,qE6 (qBw [41] (qX [44] Q.2).2))) (by
       have h1:=h1 k (by omega)
       rw [hi] at h1
       refine qN (nb 0) (qA h1 (qN rfl (qA (h3 k (by omega)) (qN rfl (qN (decide_eq_true ⟨by simp,by decide,by decide,by simp;omega,rfl⟩) (qA (h4 k (by omega)) ?_))))))
       refine qN (by simp only;rw [hc];rfl) (qO hbb (qA (h5 k (by omega)) ?_))
       rw [qC]
       simp only [List.length_append,List.map_append]
       exact congrArg (fun x=>some (Sum.inr (op,kids.length+1,kids.map qAs++ [[PV.i IntKind.i64 Q.1]],x))) (qKt [41] hbb))]
   |none=>
    have eo:qDN (qAz p) (fun p=>pP f (.bin 1 (deep+1)) p)=pP f (.bin 1 (deep+1)) (qAz p).2:=by unfold qDN;rw [hi]
    rw [eo]
    obtain ⟨n3,h3⟩:=qEk f (.bin 1 (deep+1)) (qAz p).2 (by show 20*_+6≤f;omega) (by show 0≤deep+1∧deep+1≤401;omega) ga.1 trivial
    have g3:=qEZ f (.bin 1 (deep+1)) (qAz p).2 ga.1 trivial
    have l3:=qDP f (.bin 1 (deep+1)) (qAz p).2
    have w1:IntKind.i64.wrap (deep+1)=deep+1:=qb (by omega)
    have gq:Gd (pP f (.bin 1 (deep+1)) (qAz p).2).2∧(pP f (.bin 1 (deep+1)) (qAz p).2).2.1.length≤p.1.length∧(tb (pP f (.bin 1 (deep+1)) (qAz p).2).2.1).length≤(tb p.1).length:=⟨g3.1,Nat.le_trans g3.2 ga.2.1,Nat.le_trans l3 ra⟩
    rw [←w1] at h3
    have n2:=0
    rw [w1] at h3
    generalize pP f (.bin 1 (deep+1)) (qAz p).2=Q at h3 gq⊢
    obtain ⟨n4,h4⟩:=qFT [44] Q.2
    cases hc:(qX [44] Q.2).1 with
    |true=>
     obtain ⟨ks,p',e1,e2,e3,n6,h6⟩:=qEk f (.args op deep (kids++ [Q.1])) (qX [44] Q.2).2 (by have:=qDO (by simp) hc;show 20*(tb (qX [44] Q.2).2.1).length+8≤f;have:=qy (qX [44] Q.2).2.1;omega) ⟨hj.1,hj.2⟩ (qCa gq.1) (by have:=qDO (by simp) hc;have:=qy Q.2.1;show (kids++ [Q.1]).length+_≤_;simp;omega)
     refine ⟨ks,p',by rw [if_pos rfl];exact e1,e2,e3,n1+n2+n3+n4+n6+1,fun k hn M hM=>?_⟩
     obtain ⟨M,rfl,hM⟩:=up1 hM
     rw [qc (v':=(op,deep,(kids++ [Q.1]).length,(kids++ [Q.1]).map qAs,qE6 (qX [44] Q.2).2)) (by
      have h1:=h1 k (by omega)
      rw [hi] at h1
      have h3:=h3 k (by omega)
      rw [←w1] at h3
      refine qN (nb 0) (qA h1 (qO rfl (qA h3 (qN rfl (qN (decide_eq_true ⟨by simp,by decide,by decide,by simp;omega,rfl⟩) (qA (h4 k (by omega)) ?_))))))
      refine qO (by simp only;rw [hc];rfl) ?_
      rw [qC]
      simp only [List.length_append,List.map_append]
      rfl)]
     exact h6 k (by omega) M (by omega)
    |false=>
     obtain ⟨n5,h5⟩:=qFT [41] (qX [44] Q.2).2
     refine ⟨kids++ [Q.1],qBw [41] (qX [44] Q.2).2,by rw [if_neg (by simp)],(qIt (qCa gq.1)).1,by simp;omega,n1+n2+n3+n4+n5+1,fun k hn M hM=>?_⟩
     obtain ⟨M,rfl,hM⟩:=up1 hM
     cases hbb:(qX [44] Q.2).2.2.1 with
     |true=>
      rw [qP (r:=(op,(kids++ [Q.1]).length,(kids++ [Q.1]).map qAs,qE6 (qBw [41] (qX [44] Q.2).2))) (by
       have h1:=h1 k (by omega)
       rw [hi] at h1
       have h3:=h3 k (by omega)
       rw [←w1] at h3
       refine qN (nb 0) (qA h1 (qO rfl (qA h3 (qN rfl (qN (decide_eq_true ⟨by simp,by decide,by decide,by simp;omega,rfl⟩) (qA (h4 k (by omega)) ?_))))))
       refine qN (by simp only;rw [hc];rfl) (qN hbb ?_)
       rw [qC]
       unfold qBw
       rw [if_pos hbb]
       simp only [List.length_append,List.map_append,qE6,hbb]
       rfl)]
     |false=>
      rw [qP (r:=(op,(kids++ [Q.1]).length,(kids++ [Q.1]).map qAs,qE6 (qBw [41] (qX [44] Q.2).2))) (by
       have h1:=h1 k (by omega)
       rw [hi] at h1
       have h3:=h3 k (by omega)
       rw [←w1] at h3
       refine qN (nb 0) (qA h1 (qO rfl (qA h3 (qN rfl (qN (decide_eq_true ⟨by simp,by decide,by decide,by simp;omega,rfl⟩) (qA (h4 k (by omega)) ?_))))))
       refine qN (by simp only;rw [hc];rfl) (qO hbb (qA (h5 k (by omega)) ?_))
       rw [qC]
       simp only [List.length_append,List.map_append]
       exact congrArg (fun x=>some (Sum.inr (op,kids.length+1,kids.map qAs++ [[PV.i IntKind.i64 Q.1]],x))) (qKt [41] hbb))]
def pos (s r:List UInt8):Int:=((s.length-r.length:Nat):Int)
def qCc (s:List UInt8) (q:PS):ByteArray×Int×Bool×Nat×List (List PV):=(BR s,pos s q.1,q.2.1,q.2.2.length,q.2.2.map qV)
def qCI (s:List UInt8) (r:Int×PS):Int×ByteArray×Int×Bool×Nat×List (List PV):=(r.1,qCc s r.2)
theorem qPC {s r:List UInt8} (h:r<:+s):s.drop (s.length-r.length)=r:=by
 obtain ⟨t,rfl⟩:=h
 simp
theorem qPz (s r:List UInt8):(pos s r).toNat=s.length-r.length:=by unfold pos;simp
theorem qJY (s r:List UInt8):0≤pos s r:=by unfold pos;omega
theorem qC3 {s r:List UInt8} (h:r<:+s):r.length≤s.length:=h.length_le
theorem qIu {s r t:List UInt8} {k:Nat} (h:r<:+s) (e:t=r.drop k) (hk:k≤r.length):pos s r+(k:Int)=pos s t:=by
 subst e
 have:=qC3 h
 unfold pos
 simp only [List.length_drop]
 omega
theorem qKv {s r:List UInt8} (h:r<:+s):(BR s).toList[(pos s r).toNat]?=r.head?:=by
 rw [qBB,qPz,←List.head?_drop,qPC h]
theorem qPZ {s r:List UInt8} (h:r<:+s):tb r<:+s:=(List.dropWhile_suffix _).trans h
theorem qNA {s t:List UInt8} {c:UInt8} (h:(c::t)<:+s):t<:+s:=(List.suffix_cons c t).trans h
theorem qMS {s r:List UInt8} {k:Nat} (h:r<:+s):(BR s).extract (pos s r).toNat (pos s r+(k:Int)).toNat=BR (r.take k):=by
 rw [qIh,qPz,show (pos s r+(k:Int)).toNat=(s.length-r.length)+k by unfold pos;omega,←List.take_drop,qPC h]
theorem qL0 {b:Bool} (h:b=true):(!b)=false:=by rw [h];rfl
theorem qHC {b:Bool} (h:b=false):(!b)=true:=by rw [h];rfl
theorem qN3 {s:List UInt8} (hs:s.length≤1000) (n:Nat) (b:Bool) (m:Nat) (rows:List (List PV)):∀(r:List UInt8) (M:Nat),r<:+s→r.length+1≤M→zD (qDD n) M (BR s,pos s r,b,m,rows)=some (BR s,pos s (tb r),b,m,rows)
 |r,0,_,h=>by omega
 | [],M+1,h,_=>by
  exact qP (qO (decide_eq_false (show ¬pos s []<((BR s).size:Int) by rw [qm];unfold pos;simp)) rfl)
 |c::t,M+1,h,hM=>by
  have hl:=qC3 h
  simp only [List.length_cons] at hl hM
  have g:=qKv h
  have p1:pos s (c::t)<((BR s).size:Int):=by rw [qm];unfold pos;simp only [List.length_cons];omega
  by_cases hc:c=32
  ·subst hc
   have w1:IntKind.i64.wrap (pos s (32::t)+1)=pos s t:=by
    have:=qIu (k:=1) h (t:=t) rfl (by simp)
    rw [qb (by unfold pos;omega)];exact this
   rw [qc (v':=(BR s,pos s t,b,m,rows)) (by
    refine qN (decide_eq_true p1) (qN (decide_eq_true (qJY _ _)) (qA g (qN rfl ?_)))
    rw [qC,w1])]
   have e:tb (32::t)=tb t:=by simp [tb]
   rw [e]
   exact qN3 hs n b m rows t M (qNA h) (by omega)
  ·have e:tb (c::t)=c::t:=by simp [tb,hc]
   rw [e]
   refine qP (qN (decide_eq_true p1) (qN (decide_eq_true (qJY _ _)) (qA g (qO ?_ rfl))))
   rw [beq_eq_false_iff_ne]
   intro e
   exact hc (UInt8.toNat_inj.1 (show c.toNat=32 by omega))
theorem qOb {s:List UInt8} (hs:s.length≤1000) (q:PS) (h:q.1<:+s):Ev (qBZ · (BR s) (pos s q.1) q.2.1 q.2.2.length (q.2.2.map qV)) (qCc s (tb q.1,q.2)):=by
 have hl:=qC3 h
 refine ⟨q.1.length+2,fun n hn=>?_⟩
 obtain ⟨k,rfl,hm⟩:=up1 hn
 exact qA (qN3 hs k q.2.1 q.2.2.length (q.2.2.map qV) q.1 k h (by omega)) rfl
theorem qF5 {s:List UInt8} (hs:s.length≤1000) (w:List UInt8) (hw:w.length≤1000) (q:PS) (h:q.1<:+s):Ev (q8 · (BR w) (BR s) (pos s q.1) q.2.1 q.2.2.length (q.2.2.map qV)) ((sIs w q).1,qCc s (sIs w q).2):=by
 obtain ⟨n1,h1⟩:=qOb hs q h
 have ht:=qPZ h
 have hl:=qC3 ht
 refine ⟨n1+1,fun n hn=>?_⟩
 obtain ⟨k,rfl,hm⟩:=up1 hn
 have w1:IntKind.i64.wrap (pos s (tb q.1)+((BR w).size:Int))=pos s (tb q.1)+(w.length:Int):=by rw [qm];exact qb (by unfold pos;omega)
 unfold sIs
 cases hb:q.2.1 with
 |true=>
  rw [if_pos rfl]
  have h1:=h1 k (by omega)
  rw [hb] at h1
  refine qA h1 (qN hb ?_)
  rw [qC]
 |false=>
  have h1:=h1 k (by omega)
  rw [hb] at h1
  rw [if_neg (by simp)]
  by_cases hf:pos s (tb q.1)+(w.length:Int)>(s.length:Int)
  ·have hn:¬w.isPrefixOf (tb q.1)=true:=by
    intro e
    have:=(List.isPrefixOf_iff_prefix.1 e).length_le
    unfold pos at hf
    omega
   rw [if_neg hn]
   refine qA h1 (qO hb (qN (decide_eq_true (show IntKind.i64.wrap (pos s (tb q.1)+((BR w).size:Int))>((BR s).size:Int) by rw [w1,qm];exact hf)) ?_))
   rw [qC]
  ·have hx:=qMS (k:=w.length) ht
   have hwl:w.length≤(tb q.1).length:=by unfold pos at hf;omega
   have cmp:((BR s).extract (pos s (tb q.1)).toNat (IntKind.i64.wrap (pos s (tb q.1)+((BR w).size:Int))).toNat).toList==(BR w).toList↔w.isPrefixOf (tb q.1)=true:=by
    rw [w1,hx,qBB,qBB,beq_iff_eq,List.isPrefixOf_iff_prefix,List.prefix_iff_eq_take]
    exact ⟨fun e=>e.symm,fun e=>e.symm⟩
   refine qA h1 (qO hb (qO (decide_eq_false (show ¬IntKind.i64.wrap (pos s (tb q.1)+((BR w).size:Int))>((BR s).size:Int) by rw [w1,qm];exact hf)) (qN (decide_eq_true (show 0≤pos s (tb q.1)∧pos s (tb q.1)≤IntKind.i64.wrap (pos s (tb q.1)+((BR w).size:Int))∧IntKind.i64.wrap (pos s (tb q.1)+((BR w).size:Int))≤((BR s).size:Int) by rw [w1,qm];exact ⟨qJY _ _,by omega,by omega⟩)) ?_)))
   by_cases hp:w.isPrefixOf (tb q.1)=true
   ·rw [if_pos hp]
    refine qO (qL0 (cmp.2 hp)) ?_
    rw [qC]
    show some (true,BR s,IntKind.i64.wrap (pos s (tb q.1)+((BR w).size:Int)),q.2.1,q.2.2.length,q.2.2.map qV)=_
    rw [w1,qIu ht rfl hwl]
    rfl
   ·rw [if_neg hp]
    refine qN (qHC (by rw [Bool.eq_false_iff];exact fun e=>hp (cmp.1 e))) ?_
    rw [qC]
theorem qIk {s:List UInt8} (x:Nd) (q:PS) (h:q.2.2.length≤5000) (hx:qKr x):Ev (qt · x.1 x.2.1 x.2.2.1 x.2.2.2.1 x.2.2.2.2.1 x.2.2.2.2.2.1 x.2.2.2.2.2.2.1 x.2.2.2.2.2.2.2.1 x.2.2.2.2.2.2.2.2.1 x.2.2.2.2.2.2.2.2.2.1 x.2.2.2.2.2.2.2.2.2.2.1 x.2.2.2.2.2.2.2.2.2.2.2.1 x.2.2.2.2.2.2.2.2.2.2.2.2.1 ((kd x).map qAs) (BR s) (pos s q.1) q.2.1 q.2.2.length (q.2.2.map qV)) (qCI s (qDq x q)):=by
 obtain ⟨n1,h1⟩:=qG7 x (by have:=hx.2;omega)
 refine ⟨n1+1,fun n hn=>?_⟩
 obtain ⟨k,rfl,hm⟩:=up1 hn
 have w2:IntKind.i64.wrap ((((q.2.2.length+1):Nat):Int)-1)=(q.2.2.length:Int):=by rw [qb (by omega)];omega
 refine qN rfl (qN (decide_eq_true ⟨by simp,by decide,by decide,by simp;omega,rfl⟩) ?_)
 unfold qDq
 by_cases h6:60<q.2.2.length+1
 ·rw [if_pos (.inl h6)]
  refine qN (decide_eq_true (by omega)) ?_
  rw [qC,w2]
  simp only [qCI,qCc,List.map_append,List.length_append]
  rfl
 ·refine qO (decide_eq_false (by omega)) (qA (h1 k (by omega)) ?_)
  cases ho:qB2 x with
  |true=>
   rw [if_neg (fun e=>e.elim h6 (by simp))]
   refine qO rfl ?_
   rw [qC,w2]
   simp only [qCI,qCc,List.map_append,List.length_append]
   rfl
  |false=>
   rw [if_pos (.inr rfl)]
   refine qN rfl ?_
   rw [qC,w2]
   simp only [qCI,qCc,List.map_append,List.length_append]
   rfl
theorem qL1 {s:List UInt8} (hs:s.length≤1000) (n:Nat) (at0:Int) (b:Bool) (m:Nat) (rows:List (List PV)):∀(r:List UInt8) (M:Nat),r<:+s→r.length+1≤M→zD (qBu n) M (at0,BR s,pos s r,b,m,rows)=some (at0,BR s,pos s (wr r),b,m,rows)
 |r,0,_,h=>by omega
 | [],M+1,h,_=>by
  exact qP (qO (decide_eq_false (show ¬pos s []<((BR s).size:Int) by rw [qm];unfold pos;simp)) rfl)
 |c::t,M+1,h,hM=>by
  have hl:=qC3 h
  simp only [List.length_cons] at hl hM
  have g:=qKv h
  have p1:pos s (c::t)<((BR s).size:Int):=by rw [qm];unfold pos;simp only [List.length_cons];omega
  have p0:decide (0≤pos s (c::t))=true:=decide_eq_true (qJY _ _)
  have w1:IntKind.i64.wrap (pos s (c::t)+1)=pos s t:=by
   have:=qIu (k:=1) h (t:=t) rfl (by simp)
   rw [qb (by unfold pos;omega)];exact this
  have yes:(wch c=true)→(qBu n (at0,BR s,pos s (c::t),b,m,rows)).run=some (.inl (at0,BR s,pos s t,b,m,rows)):=fun hc=>by
   have fin:some (Sum.inl (at0,BR s,IntKind.i64.wrap (pos s (c::t)+1),b,m,rows))=(some (Sum.inl (at0,BR s,pos s t,b,m,rows)):Option (_⊕(Int×ByteArray×Int×Bool×Nat×List (List PV)))):=by rw [w1]
   refine qN (decide_eq_true p1) (qN p0 (qA g ?_))
   by_cases a1:(c.toNat:Int)≥65
   ·refine qN (decide_eq_true a1) (qN p0 (qA g ?_))
    by_cases a2:(c.toNat:Int)≤90
    ·exact qN (decide_eq_true a2) fin
    ·refine qO (decide_eq_false a2) (qN p0 (qA g ?_))
     by_cases a3:(c.toNat:Int)≥48
     ·refine qN (decide_eq_true a3) (qN p0 (qA g ?_))
      by_cases a4:(c.toNat:Int)≤57
      ·exact qN (decide_eq_true a4) fin
      ·refine qO (decide_eq_false a4) (qN p0 (qA g ?_))
       have a5:c=36:=by
        unfold wch at hc
        simp only [Bool.or_eq_true,Bool.and_eq_true,decide_eq_true_eq,beq_iff_eq] at hc
        rcases hc with hc|hc|hc
        ·omega
        ·omega
        ·exact hc
       exact qN (by rw [a5];rfl) fin
     ·omega
   ·refine qO (decide_eq_false a1) (qN p0 (qA g ?_))
    by_cases a3:(c.toNat:Int)≥48
    ·refine qN (decide_eq_true a3) (qN p0 (qA g ?_))
     by_cases a4:(c.toNat:Int)≤57
     ·exact qN (decide_eq_true a4) fin
     ·refine qO (decide_eq_false a4) (qN p0 (qA g ?_))
      have a5:c=36:=by
       unfold wch at hc
       simp only [Bool.or_eq_true,Bool.and_eq_true,decide_eq_true_eq,beq_iff_eq] at hc
       rcases hc with hc|hc|hc
       ·omega
       ·omega
       ·exact hc
      exact qN (by rw [a5];rfl) fin
    ·refine qO (decide_eq_false a3) (qN p0 (qA g ?_))
     have a5:c=36:=by
      unfold wch at hc
      simp only [Bool.or_eq_true,Bool.and_eq_true,decide_eq_true_eq,beq_iff_eq] at hc
      rcases hc with hc|hc|hc
      ·omega
      ·omega
      ·exact hc
     exact qN (by rw [a5];rfl) fin
  have no:(wch c=false)→(qBu n (at0,BR s,pos s (c::t),b,m,rows)).run=some (.inr (at0,BR s,pos s (c::t),b,m,rows)):=fun hc=>by
   have hc':¬((65≤c.toNat∧c.toNat≤90)∨(48≤c.toNat∧c.toNat≤57)∨c=36):=fun e=>by
    have:wch c=true:=by
     unfold wch
     simp only [Bool.or_eq_true,Bool.and_eq_true,decide_eq_true_eq,beq_iff_eq]
     exact e
    rw [hc] at this;cases this
   have a5:((c.toNat:Int)==36)=false:=by
    rw [beq_eq_false_iff_ne];intro e
    exact hc' (.inr (.inr (UInt8.toNat_inj.1 (show c.toNat=36 by omega))))
   refine qN (decide_eq_true p1) (qN p0 (qA g ?_))
   by_cases a1:(c.toNat:Int)≥65
   ·have a2:¬(c.toNat:Int)≤90:=fun e=>hc' (.inl ⟨by omega,by omega⟩)
    refine qN (decide_eq_true a1) (qN p0 (qA g (qO (decide_eq_false a2) ?_)))
    refine qN p0 (qA g (qN (decide_eq_true (show (c.toNat:Int)≥48 by omega)) ?_))
    exact qN p0 (qA g (qO (decide_eq_false (show ¬(c.toNat:Int)≤57 by omega)) (qN p0 (qA g (qO a5 rfl)))))
   ·refine qO (decide_eq_false a1) (qN p0 (qA g ?_))
    by_cases a3:(c.toNat:Int)≥48
    ·have a4:¬(c.toNat:Int)≤57:=fun e=>hc' (.inr (.inl ⟨by omega,by omega⟩))
     exact qN (decide_eq_true a3) (qN p0 (qA g (qO (decide_eq_false a4) (qN p0 (qA g (qO a5 rfl))))))
    ·exact qO (decide_eq_false a3) (qN p0 (qA g (qO a5 rfl)))
  cases hc:wch c with
  |true=>
   rw [qc (yes hc),show wr (c::t)=wr t by simp [wr,hc]]
   exact qL1 hs n at0 b m rows t M (qNA h) (by omega)
  |false=>
   rw [qP (no hc),show wr (c::t)=c::t by simp [wr,hc]]
theorem qNB {s:List UInt8} (hs:s.length≤1000) (q:PS) (h:q.1<:+s):Ev (qCn · (BR s) (pos s q.1) q.2.1 q.2.2.length (q.2.2.map qV)) (BR (wd q.1),qCc s (wr q.1,q.2)):=by
 have hl:=qC3 h
 have hw:=qF1 q.1
 have hd:=congrArg List.length (wdr q.1)
 simp only [List.length_append] at hd
 refine ⟨q.1.length+2,fun n hn=>?_⟩
 obtain ⟨k,rfl,hm⟩:=up1 hn
 refine qA (qL1 hs k (pos s q.1) q.2.1 q.2.2.length (q.2.2.map qV) q.1 k h (by omega)) (qN (decide_eq_true ⟨qJY _ _,by unfold pos;simp only;omega,by rw [qm];unfold pos;simp only;omega⟩) ?_)
 rw [qC]
 have e:(pos s (wr q.1))=pos s q.1+((wd q.1).length:Int):=by unfold pos;omega
 have x:=qMS (k:=(wd q.1).length) h
 rw [←e] at x
 have t:q.1.take (wd q.1).length=wd q.1:=by
  have:=List.take_left (l₁:=wd q.1) (l₂:=wr q.1)
  rwa [wdr] at this
 rw [t] at x
 show some ((BR s).extract (pos s q.1).toNat (pos s (wr q.1)).toNat,_)=_
 rw [x]
 rfl
theorem qGM {s:List UInt8} (hs:s.length≤1000) {n:Nat} (b:Bool) (l:List Nd) (res:Int×PS):∀(k:Nat) (r acc:List UInt8) (M:Nat),r.length≤k→r<:+s→acc.length+r.length≤1001→r.length+1≤M→
  (∀w t,qBh acc r=some (w,t)→qt n 1 0 2 0 (BR w) 0 0 false false 0 0 false false [] (BR s) (pos s t) b l.length (l.map qV)=some (qCI s res))→
  zD (qDb n) M (BR acc,BR s,pos s r,b,l.length,l.map qV)=some (match qBh acc r with
   |none=> .inr (BR s,pos s [],b,l.length,l.map qV)
   |some _=> .inl (qCI s res))
 |k,r,acc,0,_,_,_,h,_=>by omega
 |k,[],acc,M+1,_,h,_,_,_=>by
  exact qP (qO (decide_eq_false (show ¬pos s []<((BR s).size:Int) by rw [qm];unfold pos;simp)) rfl)
 |0,c::t,acc,M+1,hk,_,_,_,_=>by simp at hk
 |k+1,c::t,acc,M+1,hk,h,ha,hM,hr=>by
  have hl:=qC3 h
  simp only [List.length_cons] at hl hM hk ha
  have g:=qKv h
  have p1:pos s (c::t)<((BR s).size:Int):=by rw [qm];unfold pos;simp only [List.length_cons];omega
  have p0:decide (0≤pos s (c::t))=true:=decide_eq_true (qJY _ _)
  have pa:=qIu (k:=1) h (t:=t) rfl (by simp)
  have w1:IntKind.i64.wrap (pos s (c::t)+1)=pos s t:=by rw [qb (by unfold pos;omega)];exact pa
  by_cases hc:c=34
  ·subst hc
   have ht:=qNA h
   by_cases hq:t.head?=some 34
   ·obtain ⟨u,rfl⟩:=qLo hq
    simp only [List.length_cons] at hl hM hk ha
    rw [qRN] at hr⊢
    have g2:=qKv ht
    have pb:=qIu (k:=1) ht (t:=u) rfl (by simp)
    have w2:IntKind.i64.wrap (pos s (34::u)+1)=pos s u:=by rw [qb (by unfold pos;omega)];exact pb
    rw [qc (v':=(BR (acc++ [34]),BR s,pos s u,b,l.length,l.map qV)) (by
     refine qN (decide_eq_true p1) (qN p0 (qA g (qO rfl (qO (decide_eq_false (show ¬IntKind.i64.wrap (pos s (34::34::u)+1)≥((BR s).size:Int) by rw [w1,qm];unfold pos;simp only [List.length_cons];omega)) (qN (decide_eq_true (show 0≤IntKind.i64.wrap (pos s (34::34::u)+1) by rw [w1];exact qJY _ _)) (qA (x:=34) (by show (BR s).toList[(IntKind.i64.wrap (pos s (34::34::u)+1)).toNat]?=_;rw [w1];exact g2) (qO rfl (qN (decide_eq_true (show (BR acc).size+1≤9223372036854775807 by rw [qm];omega)) ?_))))))))
     rw [qC]
     show some (Sum.inl (BR acc++BR [34],BR s,IntKind.i64.wrap (IntKind.i64.wrap (pos s (34::34::u)+1)+1),b,l.length,l.map qV))=_
     rw [w1,w2,qLl])]
    exact qGM hs b l res k u _ M (by omega) (qNA ht) (by simp;omega) (by omega) hr
   ·rw [qRO acc t hq] at hr⊢
    have hr:=hr acc t rfl
    refine qP (qN (decide_eq_true p1) (qN p0 (qA g (qO rfl ?_))))
    cases t with
    |nil=>
     refine qN (decide_eq_true (show IntKind.i64.wrap (pos s [34]+1)≥((BR s).size:Int) by rw [w1,qm];unfold pos;simp)) ?_
     rw [←w1] at hr
     exact qA hr rfl
    |cons d u=>
     have g2:=qKv ht
     have hd:¬d=34:=fun e=>hq (by rw [e];rfl)
     refine qO (decide_eq_false (show ¬IntKind.i64.wrap (pos s (34::d::u)+1)≥((BR s).size:Int) by rw [w1,qm];unfold pos;simp only [List.length_cons] at hl⊢;omega)) (qN (decide_eq_true (show 0≤IntKind.i64.wrap (pos s (34::d::u)+1) by rw [w1];exact qJY _ _)) (qA (x:=d) (by show (BR s).toList[(IntKind.i64.wrap (pos s (34::d::u)+1)).toNat]?=_;rw [w1];exact g2) (qN ?_ ?_)))
     ·rw [bne_iff_ne]
      intro e
      exact hd (UInt8.toNat_inj.1 (show d.toNat=34 by omega))
     ·rw [←w1] at hr
      exact qA hr rfl
  ·rw [qRP acc t hc] at hr⊢
   have hx:=qMS (k:=1) h
   rw [show ((1:Nat):Int)=1 from rfl] at hx pa
   have hx:(BR s).extract (pos s (c::t)).toNat (IntKind.i64.wrap (pos s (c::t)+1)).toNat=BR [c]:=by
    rw [w1,←pa];exact hx
   rw [qc (v':=(BR (acc++ [c]),BR s,pos s t,b,l.length,l.map qV)) (by
    refine qN (decide_eq_true p1) (qN p0 (qA g (qN ?_ (qN (decide_eq_true (show 0≤pos s (c::t)∧pos s (c::t)≤IntKind.i64.wrap (pos s (c::t)+1)∧IntKind.i64.wrap (pos s (c::t)+1)≤((BR s).size:Int) by rw [w1,qm];exact ⟨qJY _ _,by unfold pos;simp only [List.length_cons];omega,by unfold pos;omega⟩)) (qN (decide_eq_true (show (BR acc).size+((BR s).extract (pos s (c::t)).toNat (IntKind.i64.wrap (pos s (c::t)+1)).toNat).size≤9223372036854775807 by rw [hx,qm,qm];simp;omega)) ?_)))))
    ·rw [bne_iff_ne]
     intro e
     exact hc (UInt8.toNat_inj.1 (show c.toNat=34 by omega))
    ·rw [qC]
     show some (Sum.inl (BR acc++(BR s).extract (pos s (c::t)).toNat (IntKind.i64.wrap (pos s (c::t)+1)).toNat,BR s,IntKind.i64.wrap (pos s (c::t)+1),b,l.length,l.map qV))=_
     rw [hx,qLl,w1])]
   exact qGM hs b l res k t _ M (by omega) (qNA h) (by simp;omega) (by omega) hr
theorem qQm {s:List UInt8} (hs:s.length≤1000) (q:PS) (h:q.1<:+s) (hn:q.2.2.length≤5000):Ev (qEf · (BR s) (pos s q.1) q.2.1 q.2.2.length (q.2.2.map qV)) (qCI s (match qBh [] q.1 with
  |none=>(0,[],true,q.2.2)
  |some (w,t)=>qDq (nd1 (2,0,BR w)) (t,q.2))):=by
 have hl:=qC3 h
 cases hq:qBh [] q.1 with
 |none=>
  refine ⟨q.1.length+2,fun n hn=>?_⟩
  obtain ⟨k,rfl,hm⟩:=up1 hn
  have lp:=qGM hs (n:=k) q.2.1 q.2.2 (0,q) q.1.length q.1 [] k (Nat.le_refl _) h (by simp;omega) (by omega) (fun w t e=>by rw [hq] at e;cases e)
  rw [hq] at lp
  exact qA lp rfl
 |some wt=>
  obtain ⟨w,t⟩:=wt
  have hw:=qF4 _ _ _ (Nat.le_refl _) hq
  simp only [List.length_nil] at hw
  obtain ⟨n1,h1⟩:=qIk (s:=s) (nd1 (2,0,BR w)) (t,q.2) hn ⟨by simp [kd,nd1],by simp only [nd1,qm];omega⟩
  refine ⟨n1+q.1.length+2,fun n hn=>?_⟩
  obtain ⟨k,rfl,hm⟩:=up1 hn
  have lp:=qGM hs (n:=k) q.2.1 q.2.2 (qDq (nd1 (2,0,BR w)) (t,q.2)) q.1.length q.1 [] k (Nat.le_refl _) h (by simp;omega) (by omega) (fun w' t' e=>by rw [hq] at e;cases e;exact h1 k (by omega))
  rw [hq] at lp
  exact qA lp rfl
theorem qOc:∀o∈qBy,(qj o).toList≠ []∧(qj o).size≤2:=by decide+kernel
theorem qQn:∀o∈qBy,1≤o∧o≤11:=by decide
def opR:List (List PV):=qBy.map qAs
def rsL (level:Int) (r:List UInt8):List Int→List UInt8
 | []=>r
 |o::l=>if lvl o=level then rsL level (tb r) l else rsL level r l
theorem qLp {s:List UInt8} (hs:s.length≤1000) {n:Nat} (level:Int) (R:List UInt8) (hR:tb R=R) (m:Nat) (rows:List (List PV))
  (h1:∀o∈qBy,qB7 n o=some (lvl o)) (h2:∀o∈qBy,qBz n o=some (qj o)):
  ∀(k i:Nat) (r:List UInt8) (M:Nat),i+k=11→k+1≤M→tb r=R→
  (∀r',tb r'=R→(r'=r∨r'=R)→∀o∈qBy,q8 n (qj o) (BR s) (pos s r') false m rows=some (if (qj o).toList.isPrefixOf R=true then (true,BR s,pos s (R.drop (qj o).size),false,m,rows) else (false,BR s,pos s R,false,m,rows)))→
  zD (qEB n) M (level,11,(i:Int),opR,BR s,pos s r,false,m,rows)=some (if qDX level R (qBy.drop i)=0 then .inr (BR s,pos s (rsL level r (qBy.drop i)),false,m,rows) else .inl (qDX level R (qBy.drop i),BR s,pos s (R.drop (qj (qDX level R (qBy.drop i))).size),false,m,rows))
 |k,i,r,0,_,h,_,_=>by omega
 |0,i,r,M+1,hk,_,_,_=>by
  have hi:i=11:=by omega
  subst hi
  exact qP (qO rfl rfl)
 |k+1,i,r,M+1,hk,hM,hr,h3=>by
  have hi:i<qBy.length:=by simp [qBy];omega
  obtain ⟨o,ho⟩:∃o,qBy[i]?=some o:=⟨_,List.getElem?_eq_getElem hi⟩
  have hin:=List.mem_of_getElem? ho
  have hR2:opR[i]?=some [PV.i .i64 o]:=by simp [opR,List.getElem?_map,ho,qAs]
  have hc:zE .i64 [PV.i .i64 o] 0=some o:=rfl
  have hd:qBy.drop i=o::qBy.drop (i+1):=qEj ho
  have w5:IntKind.i64.wrap ((i:Int)+1)=((i+1:Nat):Int):=by rw [qb (by omega)];omega
  have g1:decide ((i:Int)<((11:Nat):Int))=true:=decide_eq_true (by omega)
  have g2:decide (11=opR.length∧0≤(i:Int)∧(i:Int)<((11:Nat):Int))=true:=decide_eq_true ⟨rfl,by omega,by omega⟩
  have h0:o≠0:=by have:=qQn o hin;omega
  rw [hd]
  by_cases hl:lvl o=level
  ·have is:=h3 r hr (.inl rfl) o hin
   by_cases hp:(qj o).toList.isPrefixOf R=true
   ·have e:qDX level R (o::qBy.drop (i+1))=o:=by unfold qDX;rw [if_pos ⟨hl,hp⟩]
    rw [e,if_neg h0]
    rw [if_pos hp] at is
    exact qP (qN g1 (qN g2 (qA hR2 (qA hc (qA (h1 o hin) (qN (beq_iff_eq.2 hl) (qN g2 (qA hR2 (qA hc (qA (h2 o hin) (qA is (qN rfl (qN g2 (qA hR2 (qA hc rfl)))))))))))))))
   ·have e:qDX level R (o::qBy.drop (i+1))=qDX level R (qBy.drop (i+1)):=by
     conv=>lhs;unfold qDX
     rw [if_neg (fun h=>hp h.2)]
    have e2:rsL level r (o::qBy.drop (i+1))=rsL level R (qBy.drop (i+1)):=by
     conv=>lhs;unfold rsL
     rw [if_pos hl,hr]
    rw [e,e2]
    rw [if_neg hp] at is
    rw [qc (v':=(level,11,((i+1:Nat):Int),opR,BR s,pos s R,false,m,rows)) (by
     refine qN g1 (qN g2 (qA hR2 (qA hc (qA (h1 o hin) (qN (beq_iff_eq.2 hl) (qN g2 (qA hR2 (qA hc (qA (h2 o hin) (qA is (qO rfl ?_)))))))))))
     rw [qC,w5])]
    exact qLp hs level R hR m rows h1 h2 k (i+1) R M (by omega) (by omega) hR (fun r' a b=>h3 r' a (.inr (b.elim id id)))
  ·have e:qDX level R (o::qBy.drop (i+1))=qDX level R (qBy.drop (i+1)):=by
    conv=>lhs;unfold qDX
    rw [if_neg (fun h=>hl h.1)]
   have e2:rsL level r (o::qBy.drop (i+1))=rsL level r (qBy.drop (i+1)):=by
    conv=>lhs;unfold rsL
    rw [if_neg hl]
   rw [e,e2]
   rw [qc (v':=(level,11,((i+1:Nat):Int),opR,BR s,pos s r,false,m,rows)) (by
    refine qN g1 (qN g2 (qA hR2 (qA hc (qA (h1 o hin) (qO (beq_eq_false_iff_ne.2 hl) ?_)))))
    rw [qC,w5])]
   exact qLp hs level R hR m rows h1 h2 k (i+1) r M (by omega) (by omega) hr h3
theorem qRq {level:Int} (h:1≤level∧level≤4) (r:List UInt8):rsL level r qBy=tb r:=by
 have c:level=1∨level=2∨level=3∨level=4:=by omega
 rcases c with rfl|rfl|rfl|rfl<;>simp [rsL,qBy,lvl,qCH]
theorem qRr {s:List UInt8} (hs:s.length≤1000) {level:Int} (hl:1≤level∧level≤4) (q:PS) (hb:q.2.1=false) (h:q.1<:+s):Ev (qEC · level (BR s) (pos s q.1) q.2.1 q.2.2.length (q.2.2.map qV)) (qCI s (sOp level q)):=by
 obtain ⟨n1,h1⟩:=qCG (F:=fun o n=>qB7 n o) (f:=lvl) qBy (fun o _=>qHz o)
 obtain ⟨n2,h2⟩:=qCG (F:=fun o n=>qBz n o) (f:=qj) qBy (fun o ho=>qFz o (qQn o ho))
 obtain ⟨n3,h3⟩:=qCG (F:=fun o n=>q8 n (qj o) (BR s) (pos s q.1) q.2.1 q.2.2.length (q.2.2.map qV)) (f:=fun o=>((sIs (qj o).toList q).1,qCc s (sIs (qj o).toList q).2)) qBy (fun o ho=>by
  have:=qF5 hs (qj o).toList (by rw [qAl];have:=(qOc o ho).2;omega) q h
  rwa [qF2] at this)
 obtain ⟨n4,h4⟩:=qCG (F:=fun o n=>q8 n (qj o) (BR s) (pos s (tb q.1)) q.2.1 q.2.2.length (q.2.2.map qV)) (f:=fun o=>((sIs (qj o).toList (tb q.1,q.2)).1,qCc s (sIs (qj o).toList (tb q.1,q.2)).2)) qBy (fun o ho=>by
  have:=qF5 hs (qj o).toList (by rw [qAl];have:=(qOc o ho).2;omega) (tb q.1,q.2) (qPZ h)
  rwa [qF2] at this)
 refine ⟨n1+n2+n3+n4+13,fun n hn=>?_⟩
 obtain ⟨k,rfl,hm⟩:=up1 hn
 have lp:=qLp hs (n:=k) level (tb q.1) (qCH q.1) q.2.2.length (q.2.2.map qV) (h1 k (by omega)) (h2 k (by omega)) 11 0 q.1 k (by omega) (by omega) rfl (fun r' _ hr' o ho=>by
  rcases hr' with rfl|rfl
  ·have:=h3 k (by omega) o ho
   rw [hb] at this
   refine this.trans ?_
   unfold sIs
   rw [if_neg (by rw [hb];simp)]
   by_cases hp:(qj o).toList.isPrefixOf (tb q.1)=true
   ·rw [if_pos hp,if_pos hp,qAl];simp only [qCc,hb]
   ·rw [if_neg hp,if_neg hp];simp only [qCc,hb]
  ·have:=h4 k (by omega) o ho
   rw [hb] at this
   refine this.trans ?_
   unfold sIs
   rw [if_neg (by rw [hb];simp)]
   simp only [qCH]
   by_cases hp:(qj o).toList.isPrefixOf (tb q.1)=true
   ·rw [if_pos hp,if_pos hp,qAl];simp only [qCc,hb]
   ·rw [if_neg hp,if_neg hp];simp only [qCc,hb])
 rw [List.drop_zero,qRq hl] at lp
 unfold sOp
 rw [if_neg (by rw [hb];simp)]
 show qEC (k+1) level (BR s) (pos s q.1) q.2.1 q.2.2.length (q.2.2.map qV)=_
 rw [hb]
 by_cases h0:qDX level (tb q.1) qBy=0
 ·rw [if_pos h0] at lp
  rw [if_pos h0]
  refine qA lp ?_
  simp only [qCI,qCc,hb,h0]
  rfl
 ·rw [if_neg h0] at lp
  rw [if_neg h0]
  refine qA lp ?_
  simp only [qCI,qCc,hb]
  rfl
theorem qNC {s:List UInt8} (hs:s.length≤1000) {n:Nat} (r:List UInt8) (hr:r<:+s) (b:Bool) (l:List Nd)
  (h1:∀i,1≤i∧i≤5→qBM n i=some (qZ i)) (h2:∀i,1≤i∧i≤5→qCm n i=some (4,i,em))
  (h4:∀i,1≤i∧i≤5→qt n 1 0 4 i em 0 0 false false 0 0 false false [] (BR s) (pos s (r.drop ((qZ i).size-1))) b l.length (l.map qV)=some (qCI s (qDq (nd1 (4,i,em)) (r.drop ((qZ i).size-1),b,l)))):
  ∀(k:Nat) (i:Int) (M:Nat),1≤i→i+k=6→k+1≤M→zD (qCO n) M (i,BR s,pos s r,b,l.length,l.map qV)=some (match qO1 r i k with
   |some e=> .inl (qCI s (qDq (nd1 (4,e,em)) (r.drop ((qZ e).size-1),b,l)))
   |none=> .inr (BR s,pos s r,b,l.length,l.map qV))
 |k,i,0,_,_,h=>by omega
 |0,i,M+1,hi,hk,h=>by
  exact qP (qO (decide_eq_false (show ¬i≤5 by omega)) rfl)
 |k+1,i,M+1,hi,hk,h=>by
  have hi5:1≤i∧i≤5:=⟨hi,by omega⟩
  have hsz:1≤(qZ i).size∧(qZ i).size≤7:=by
   have c:i=1∨i=2∨i=3∨i=4∨i=5:=by omega
   rcases c with rfl|rfl|rfl|rfl|rfl<;>decide+kernel
  have hx:(qZ i).extract ((1:Int)).toNat (((qZ i).size:Nat):Int).toNat=BR (qZ i).toList.tail:=by
   conv=>lhs;rw [←qF2 (qZ i)]
   rw [qIh,qm,qAl]
   congr 1
   rw [Int.toNat_natCast,List.take_of_length_le (by rw [qAl];omega)]
   exact List.drop_one
  have hxs:((qZ i).extract ((1:Int)).toNat (((qZ i).size:Nat):Int).toNat).size=(qZ i).size-1:=by
   rw [hx,qm,List.length_tail,qAl]
  have hl:=qC3 hr
  have w1:IntKind.i64.wrap (pos s r+(((qZ i).extract ((1:Int)).toNat (((qZ i).size:Nat):Int).toNat).size:Int))=pos s r+(((qZ i).size-1:Nat):Int):=by
   rw [hxs];exact qb (by unfold pos;omega)
  have w2:IntKind.i64.wrap (i+1)=i+1:=qb (by omega)
  have ih:=qNC hs r hr b l h1 h2 h4 k (i+1) M (by omega) (by omega) (by omega)
  unfold qO1
  by_cases hf:pos s r+(((qZ i).size-1:Nat):Int)≤(s.length:Int)
  ·have hk2:(qZ i).size-1≤r.length:=by unfold pos at hf;omega
   have cmp:(((BR s).extract (pos s r).toNat (IntKind.i64.wrap (pos s r+(((qZ i).extract ((1:Int)).toNat (((qZ i).size:Nat):Int).toNat).size:Int))).toNat).toList==((qZ i).extract ((1:Int)).toNat (((qZ i).size:Nat):Int).toNat).toList)=true↔(qZ i).toList.tail.isPrefixOf r=true:=by
    rw [w1,qMS hr,hx,qBB,qBB,beq_iff_eq,List.isPrefixOf_iff_prefix,List.prefix_iff_eq_take,List.length_tail,qAl]
    exact ⟨fun e=>e.symm,fun e=>e.symm⟩
   have g1:decide (IntKind.i64.wrap (pos s r+(((qZ i).extract ((1:Int)).toNat (((qZ i).size:Nat):Int).toNat).size:Int))≤((BR s).size:Int))=true:=decide_eq_true (by rw [w1,qm];exact hf)
   have g2:decide (0≤pos s r∧pos s r≤IntKind.i64.wrap (pos s r+(((qZ i).extract ((1:Int)).toNat (((qZ i).size:Nat):Int).toNat).size:Int))∧IntKind.i64.wrap (pos s r+(((qZ i).extract ((1:Int)).toNat (((qZ i).size:Nat):Int).toNat).size:Int))≤((BR s).size:Int))=true:=decide_eq_true (by rw [w1,qm];exact ⟨qJY _ _,by omega,hf⟩)
   by_cases hp:(qZ i).toList.tail.isPrefixOf r=true
   ·rw [if_pos hp]
    have h4:=h4 i hi5
    rw [←qIu hr rfl hk2,←w1] at h4
    exact qP (qN (decide_eq_true (show i≤5 by omega)) (qA (h1 i hi5) (qN (decide_eq_true ⟨by decide,by omega,Int.le_refl _⟩) (qN g1 (qN g2 (qN (cmp.2 hp) (qA (h2 i hi5) (qA h4 rfl))))))))
   ·rw [if_neg hp]
    rw [qc (v':=(i+1,BR s,pos s r,b,l.length,l.map qV)) (by
     refine qN (decide_eq_true (show i≤5 by omega)) (qA (h1 i hi5) (qN (decide_eq_true ⟨by decide,by omega,Int.le_refl _⟩) (qN g1 (qN g2 (qO (by rw [Bool.eq_false_iff];exact fun e=>hp (cmp.1 e)) ?_)))))
     rw [qC,w2])]
    exact ih
  ·have hp:¬(qZ i).toList.tail.isPrefixOf r=true:=by
    intro e
    have:=(List.isPrefixOf_iff_prefix.1 e).length_le
    rw [List.length_tail,qAl] at this
    unfold pos at hf
    omega
   rw [if_neg hp]
   rw [qc (v':=(i+1,BR s,pos s r,b,l.length,l.map qV)) (by
    refine qN (decide_eq_true (show i≤5 by omega)) (qA (h1 i hi5) (qN (decide_eq_true ⟨by decide,by omega,Int.le_refl _⟩) (qO (decide_eq_false (by rw [w1,qm];exact hf)) ?_)))
    rw [qC,w2])]
   exact ih
theorem qRT {s:List UInt8} (hs:s.length≤1000) (r:List UInt8) (hr:r<:+s) (b:Bool) (l:List Nd) (hl:l.length≤5000):∃n0,∀n,n0≤n→∀M,n0≤M→zD (qCO n) M (1,BR s,pos s r,b,l.length,l.map qV)=some (match qO1 r 1 5 with
   |some e=> .inl (qCI s (qDq (nd1 (4,e,em)) (r.drop ((qZ e).size-1),b,l)))
   |none=> .inr (BR s,pos s r,b,l.length,l.map qV)):=by
 obtain ⟨n1,h1⟩:=qFR (F:=qBM) (f:=qZ) (lo:=1) (by decide) (fun i hi=>qFx i ⟨by omega,hi.2⟩)
 obtain ⟨n2,h2⟩:=qFR (F:=qCm) (f:=fun i=>(4,i,em)) (lo:=1) (by decide) (fun i _=>qMO i)
 obtain ⟨n4,h4⟩:=qFR (F:=fun n i=>qt n 1 0 4 i em 0 0 false false 0 0 false false [] (BR s) (pos s (r.drop ((qZ i).size-1))) b l.length (l.map qV)) (f:=fun i=>qCI s (qDq (nd1 (4,i,em)) (r.drop ((qZ i).size-1),b,l))) (lo:=1) (by decide) (fun i _=>qIk (s:=s) (nd1 (4,i,em)) (r.drop ((qZ i).size-1),b,l) hl ⟨by simp [kd,nd1],by simp [nd1,em];decide⟩)
 exact ⟨n1+n2+n4+7,fun n hn M hM=>qNC hs r hr b l (h1 n (by omega)) (h2 n (by omega)) (h4 n (by omega)) 5 1 M (by omega) (by omega) (by omega)⟩
theorem qRU:∃n0,∀n,n0≤n→∀i,1≤i∧i≤10→qCM n i=some (fnS i):=by
 obtain ⟨n1,h1⟩:=qCG (F:=fun (i:Nat) n=>qCM n ((i:Int)+1)) (f:=fun i=>fnS ((i:Int)+1)) (List.range 10) (fun i hi=>qKl _ (by have:=List.mem_range.1 hi;omega))
 refine ⟨n1,fun n hn i hi=>?_⟩
 have:=h1 n hn (i-1).toNat (List.mem_range.2 (by omega))
 rwa [show (((i-1).toNat:Nat):Int)+1=i by omega] at this
theorem qRs {i j:Int} (hi:1≤i∧i≤10) (hj:1≤j∧j≤10) (h:(fnS i).toList=(fnS j).toList):i=j:=by
 have t:∀a:Fin 10,∀b:Fin 10,(fnS (((a.val:Nat):Int)+1)).toList=(fnS (((b.val:Nat):Int)+1)).toList→a=b:=by decide+kernel
 have:=t ⟨(i-1).toNat,by omega⟩ ⟨(j-1).toNat,by omega⟩ (by
  simp only
  rw [show (((i-1).toNat:Nat):Int)+1=i by omega,show (((j-1).toNat:Nat):Int)+1=j by omega]
  exact h)
 have:=congrArg Fin.val this
 simp only at this
 omega
theorem qN4 {g:G_spec_l3Rd_row} {n:Nat} {s:List UInt8} (w:List UInt8) (q:PS) (h1:∀i,1≤i∧i≤10→qCM n i=some (fnS i)):
  ∀(k:Nat) (i:Int) (M:Nat),1≤i→i+k=11→k+1≤M→(∀j,i≤j∧j≤10→(fnS j).toList≠w)→zD (qCv g n) M (BR w,i,qCc s q)=some (.inr (BR w,qCc s q))
 |k,i,0,_,_,h,_=>by omega
 |0,i,M+1,hi,hk,h,_=>qP (qO (decide_eq_false (show ¬i≤10 by omega)) rfl)
 |k+1,i,M+1,hi,hk,h,hn=>by
  have w1:IntKind.i64.wrap (i+1)=i+1:=qb (by omega)
  rw [qc (v':=(BR w,i+1,qCc s q)) (by
   refine qN (decide_eq_true (show i≤10 by omega)) (qA (h1 i ⟨hi,by omega⟩) (qO (by rw [beq_eq_false_iff_ne];show (fnS i).toList≠(BR w).toList;rw [qBB];exact hn i ⟨Int.le_refl _,by omega⟩) ?_))
   rw [qC,w1])]
  exact qN4 w q h1 k (i+1) M (by omega) (by omega) (by omega) (fun j hj=>hn j ⟨by omega,hj.2⟩)
theorem qIv {g:G_spec_l3Rd_row} {n:Nat} {s:List UInt8} (w:List UInt8) (q:PS) (res:Int→Int×PS) (h1:∀i,1≤i∧i≤10→qCM n i=some (fnS i))
  (h2:q8 n ⟨#[40]⟩ (BR s) (pos s q.1) q.2.1 q.2.2.length (q.2.2.map qV)=some ((sIs [40] q).1,qCc s (sIs [40] q).2)):
  ∀(k:Nat) (i:Int) (M:Nat),1≤i→i+k=11→k+1≤M→(∀op,qE4 w i k=some op→(sIs [40] q).1=true→g.spec_l3Rd_call op (BR s) (pos s (sIs [40] q).2.1) (sIs [40] q).2.2.1 (sIs [40] q).2.2.2.length ((sIs [40] q).2.2.2.map qV)=some (qCI s (res op)))→
   zD (qCv g n) M (BR w,i,qCc s q)=some (match qE4 w i k with
   |some op=>if (sIs [40] q).1=true then .inl (qCI s (res op)) else .inr (BR w,qCc s (sIs [40] q).2)
   |none=> .inr (BR w,qCc s q))
 |k,i,0,_,_,h,_=>by omega
 |0,i,M+1,hi,hk,h,_=>qP (qO (decide_eq_false (show ¬i≤10 by omega)) rfl)
 |k+1,i,M+1,hi,hk,h,hc=>by
  have w1:IntKind.i64.wrap (i+1)=i+1:=qb (by omega)
  unfold qE4 at hc⊢
  by_cases hq:(fnS i).toList=w
  ·rw [if_pos hq] at hc⊢
   have hqb:((fnS i).toList==(BR w).toList)=true:=by rw [beq_iff_eq,qBB];exact hq
   simp only
   cases hi2:(sIs [40] q).1 with
   |true=>
    rw [if_pos rfl]
    exact qP (qN (decide_eq_true (show i≤10 by omega)) (qA (h1 i ⟨hi,by omega⟩) (qN hqb (qA h2 (qN hi2 (qA (hc i rfl hi2) rfl))))))
   |false=>
    rw [if_neg (by simp)]
    rw [qc (v':=(BR w,i+1,qCc s (sIs [40] q).2)) (by
     refine qN (decide_eq_true (show i≤10 by omega)) (qA (h1 i ⟨hi,by omega⟩) (qN hqb (qA h2 (qO hi2 ?_))))
     rw [qC,w1])]
    exact qN4 w _ h1 k (i+1) M (by omega) (by omega) (by omega) (fun j hj e=>by
     have:=qRs (i:=i) (j:=j) ⟨hi,by omega⟩ ⟨by omega,hj.2⟩ (hq.trans e.symm)
     omega)
  ·rw [if_neg hq] at hc⊢
   rw [qc (v':=(BR w,i+1,qCc s q)) (by
    refine qN (decide_eq_true (show i≤10 by omega)) (qA (h1 i ⟨hi,by omega⟩) (qO (by rw [beq_eq_false_iff_ne];show (fnS i).toList≠(BR w).toList;rw [qBB];exact hq) ?_))
    rw [qC,w1])]
   exact qIv w q res h1 h2 k (i+1) M (by omega) (by omega) (by omega) hc
structure Go (k:Nat) (q q':PS):Prop where
 suf:q'.1<:+q.1
 sum:q'.2.2.length+q'.1.length+k≤q.2.2.length+q.1.length
 sm:(∀x∈q.2.2,qKr x)→∀x∈q'.2.2,qKr x
theorem Go.refl (q:PS):Go 0 q q:=⟨List.suffix_rfl,Nat.le_refl _,id⟩
theorem Go.trans {a b:Nat} {p q r:PS} (h:Go a p q) (h':Go b q r):Go (a+b) p r:=⟨h'.suf.trans h.suf,by have:=h.sum;have:=h'.sum;omega,fun e=>h'.sm (h.sm e)⟩
theorem Go.tr0 {p q r:PS} (h:Go 0 p q) (h':Go 0 q r):Go 0 p r:=h.trans h'
theorem Go.add {p q:PS} {x:Nd} (h:Go 1 p q) (hx:qKr x):Go 0 p (qDq x q).2:=by
 refine ⟨h.suf,?_,fun e y hy=>?_⟩
 ·have:=h.sum
  simp only [qDq,List.length_append,List.length_singleton]
  omega
 ·simp only [qDq,List.mem_append,List.mem_singleton] at hy
  rcases hy with hy|rfl
  ·exact h.sm e y hy
  ·exact hx
theorem Go.weak {k:Nat} {p q:PS} (h:Go k p q):Go 0 p q:=⟨h.suf,by have:=h.sum;omega,h.sm⟩
theorem Go.of (q:PS) {r:List UInt8} (b:Bool) {k:Nat} (h:r<:+q.1) (hk:r.length+k≤q.1.length):Go k q (r,b,q.2.2):=⟨h,by simp only;omega,id⟩
theorem qKw (q:PS):Go 0 q (tb q.1,q.2):=⟨List.dropWhile_suffix _,by have:=qy q.1;simp only;omega,id⟩
theorem qN5 (q:PS):Go 0 q (wr (tb q.1),q.2):=⟨(List.dropWhile_suffix _).trans (List.dropWhile_suffix _),by have:=qy q.1;have:=qF1 (tb q.1);simp only;omega,id⟩
theorem qQo (q:PS) (h:wd (tb q.1)≠ []):Go 1 q (wr (tb q.1),q.2):=⟨(List.dropWhile_suffix _).trans (List.dropWhile_suffix _),by
 have:=qy q.1
 have e:=congrArg List.length (wdr (tb q.1))
 have:=List.length_pos_iff.2 h
 simp only [List.length_append] at e
 simp only;omega,id⟩
theorem qJZ {w:List UInt8} {q:PS} (h:(sIs w q).1=true):w<+:tb q.1∧(sIs w q).2=((tb q.1).drop w.length,q.2)∧q.2.1=false:=by
 unfold sIs at h⊢
 split at h
 ·cases h
 ·rename_i hb
  rw [if_neg hb]
  split at h
  ·rename_i hp
   rw [if_pos hp]
   exact ⟨List.isPrefixOf_iff_prefix.1 hp,rfl,by rw [Bool.eq_false_iff];exact hb⟩
  ·cases h
theorem qN6 {w:List UInt8} {q:PS} (h:(sIs w q).1=false):(sIs w q).2=(tb q.1,q.2):=by
 unfold sIs at h⊢
 split at h
 ·rename_i hb;rw [if_pos hb]
 ·rename_i hb
  rw [if_neg hb]
  split at h
  ·cases h
  ·rename_i hp;rw [if_neg hp]
theorem qIl (w:List UInt8) (q:PS):Go 0 q (sIs w q).2:=by
 cases h:(sIs w q).1 with
 |true=>
  obtain ⟨_,h2,_⟩:=qJZ h
  rw [h2]
  exact Go.tr0 (qKw q) ⟨List.drop_suffix _ _,by simp,id⟩
 |false=>rw [qN6 h];exact qKw q
theorem qEU {w:List UInt8} (hw:w≠ []) {q:PS} (h:(sIs w q).1=true):Go 1 q (sIs w q).2:=by
 obtain ⟨h1,h2,_⟩:=qJZ h
 rw [h2]
 have l1:=h1.length_le
 have l2:=List.length_pos_iff.2 hw
 have:=qy q.1
 exact ⟨(List.drop_suffix _ _).trans (List.dropWhile_suffix _),by simp;omega,id⟩
theorem qND {k:Nat} {p q:PS} (h:Go k p q):Go k p (qJ4 q):=⟨h.suf,h.sum,h.sm⟩
theorem qQp:∀(t r:List UInt8),(tb r).length≤(tb (t++r)).length
 | [],r=>Nat.le_refl _
 |c::t,r=>by
  have ih:=qQp t r
  have:=qy (t++r)
  by_cases hc:c=32
  ·rw [show tb (c::t++r)=tb (t++r) by simp [tb,hc]];exact ih
  ·rw [show tb (c::t++r)=c::(t++r) by simp [tb,hc]]
   simp only [List.length_cons];omega
theorem Go.tb {k:Nat} {p q:PS} (h:Go k p q):(tb q.1).length≤(tb p.1).length:=by
 obtain ⟨t,ht⟩:=h.suf
 rw [←ht];exact qQp t q.1
theorem qP0 {w:List UInt8} (hw:w≠ []) {q:PS} (h:(sIs w q).1=true):(tb (sIs w q).2.1).length<(tb q.1).length:=by
 obtain ⟨h1,h2,_⟩:=qJZ h
 rw [h2]
 exact qOa hw h1
theorem qP1 (level:Int) (r:List UInt8):∀l:List Int,qDX level r l≠0→qDX level r l∈l∧(qj (qDX level r l)).toList<+:r
 | [],h=>absurd rfl h
 |o::l,h=>by
  unfold qDX at h⊢
  split at h
  ·rename_i hc
   rw [if_pos hc]
   exact ⟨List.mem_cons_self ..,List.isPrefixOf_iff_prefix.1 hc.2⟩
  ·rename_i hc
   rw [if_neg hc]
   have:=qP1 level r l h
   exact ⟨List.mem_cons_of_mem _ this.1,this.2⟩
theorem qRe (level:Int) (q:PS):Go 0 q (sOp level q).2∧((sOp level q).1≠0→Go 1 q (sOp level q).2∧(tb (sOp level q).2.1).length<(tb q.1).length):=by
 unfold sOp
 split
 ·exact ⟨qKw q,fun h=>absurd rfl h⟩
 ·simp only
  by_cases h:qDX level (tb q.1) qBy=0
  ·rw [if_pos h]
   exact ⟨qKw q,fun e=>absurd h e⟩
  ·rw [if_neg h]
   obtain ⟨h1,h2⟩:=qP1 level (tb q.1) qBy h
   have ne:=(qOc _ h1).1
   have l1:=h2.length_le
   have l2:=List.length_pos_iff.2 ne
   rw [qAl] at l1 l2
   have l3:=qy q.1
   have g:Go 1 q ((tb q.1).drop (qj (qDX level (tb q.1) qBy)).size,q.2):=⟨(List.drop_suffix _ _).trans (List.dropWhile_suffix _),by simp;omega,id⟩
   have t:=qOa ne h2
   rw [qAl] at t
   exact ⟨g.weak,fun _=>⟨g,t⟩⟩
theorem qLq:∀(k:Nat) (acc r:List UInt8) {w t:List UInt8},r.length≤k→qBh acc r=some (w,t)→t<:+r
 |k,acc,[],w,t,hk,h=>by simp [qBh] at h
 |0,acc,c::r,w,t,hk,h=>by simp at hk
 |k+1,acc,c::r,w,t,hk,h=>by
  simp only [List.length_cons] at hk
  by_cases hc:c=34
  ·subst hc
   by_cases hq:r.head?=some 34
   ·obtain ⟨u,rfl⟩:=qLo hq
    rw [qRN] at h
    simp only [List.length_cons] at hk
    have:=qLq k _ u (by omega) h
    exact this.trans ((List.suffix_cons 34 u).trans (List.suffix_cons 34 _))
   ·rw [qRO acc r hq] at h
    cases h
    exact List.suffix_cons 34 _
  ·rw [qRP acc r hc] at h
   exact (qLq k _ r (by omega) h).trans (List.suffix_cons c _)
def Ks:SJ→PS→Prop
 | .call _ kids,q=>q.2.1=true∨kids.length+q.1.length≤1500
 |_,_=>True
theorem qHe {k op:Int} {kids:List Int} (h:kids.length≤2000):qKr (ndK k op kids):=⟨h,by simp [ndK,em];decide⟩
theorem qBk {k:Nat} {p q:PS} (h:Go k p q):q.1.length≤p.1.length:=h.suf.length_le
theorem qEa (H:RdOK):∀(f:Nat) (j:SJ) (q:PS),q.1.length≤1000→Ks j q→Go 0 q (sP f j q).2
 |0,j,q,_,_=>Go.refl q
 |f+1,.row level,q,hr,_=>by
  unfold sP
  split
  ·exact Go.refl q
  ·split
   ·exact qEa H f .one q hr trivial
   ·have a:=qEa H f (.row (level+1)) q hr trivial
    exact a.tr0 (qEa H f (.rl level _) _ (Nat.le_trans (qBk a) hr) trivial)
 |f+1,.rl level a,q,hr,_=>by
  unfold sP
  split
  ·exact Go.refl q
  ·simp only
   have o:=qRe level q
   split
   ·exact o.1
   ·rename_i h0
    have o1:=(o.2 h0).1
    have b:=qEa H f (.row (level+1)) (sOp level q).2 (Nat.le_trans (qBk o1) hr) trivial
    have c:=Go.add (x:=ndK 5 (sOp level q).1 [a,(sP f (.row (level+1)) (sOp level q).2).1]) (o1.trans b) (qHe (by simp))
    exact c.tr0 (qEa H f (.rl level _) _ (Nat.le_trans (qBk c) hr) trivial)
 |f+1,.one,q,hr,_=>by
  unfold sP
  split
  ·rename_i h
   have a:=qEU (by simp) h
   have b:=qEa H f (.row 5) (sIs [45] q).2 (Nat.le_trans (qBk a) hr) trivial
   exact Go.add (a.trans b) (qHe (by simp))
  ·have a:=qIl [45] q
   split
   ·rename_i h
    have c:=a.tr0 (qEU (by simp) h).weak
    have b:=qEa H f (.row 1) (sIs [40] (sIs [45] q).2).2 (Nat.le_trans (qBk c) hr) trivial
    have d:=(c.tr0 b).tr0 (qIl [41] _)
    simp only
    split
    ·exact d
    ·exact qND d
   ·simp only
    have t:=qKw q
    split
    ·rename_i h
     have c:=qEU (by simp) h
     obtain ⟨_,e,_⟩:=qJZ h
     split
     ·exact ⟨List.nil_suffix,by simp,id⟩
     ·rename_i w u hq
      have d:=qLq _ _ _ (Nat.le_refl _) hq
      have d2:=d.length_le
      have dz:=qF4 _ _ _ (Nat.le_refl _) hq
      have g:=t.trans c
      have l:=qBk g
      have sg:=g.sum
      have eq:(sIs [34] (tb q.1,q.2)).2.2=q.2:=by rw [e]
      rw [eq] at sg
      simp only [List.length_nil] at dz
      exact Go.add (q:=(u,q.2)) ⟨d.trans g.suf,by simp only;omega,id⟩ ⟨by simp [kd,nd1],by simp only [nd1,qm];omega⟩
    ·split
     ·rename_i h
      have c:=qEU (by simp) h
      obtain ⟨_,e,_⟩:=qJZ h
      have g:=t.trans c
      have l:=qBk g
      have sg:=g.sum
      have eq:(sIs [35] (tb q.1,q.2)).2.2=q.2:=by rw [e]
      rw [eq] at sg
      split
      ·exact Go.add (q:=(_,q.2)) ⟨(List.drop_suffix _ _).trans g.suf,by simp;omega,id⟩ ⟨by simp [kd,nd1],by simp [nd1,em];decide⟩
      ·exact ⟨g.suf,by simp only;omega,id⟩
     ·have w:=qN5 q
      split
      ·split
       ·have c:=w.tr0 (qIl [40] _)
        exact c.tr0 (qEa H f (.call _ []) _ (Nat.le_trans (qBk c) hr) (.inr (by have:=qBk c;simp only [List.length_nil];omega)))
       ·exact qND (w.tr0 (qIl [40] _))
      ·split
       ·rename_i hv
        exact Go.add (qQo q hv.2) ⟨by simp [kd,nd1],qIj hv.1 (H.v _ (qPW _) hv.2 hv.1)⟩
       ·split
        ·rename_i hp
         exact Go.add (qQo q (fun e=>by rw [e,H.p0] at hp;cases hp)) ⟨by simp [kd,ndC],by simp [ndC,em];decide⟩
        ·exact qND w
 |f+1,.call op kids,q,hr,hk=>by
  unfold sP
  split
  ·exact Go.refl q
  ·rename_i hb
   have hk:kids.length+q.1.length≤1500:=hk.elim (fun h=>absurd h hb) id
   have a:=qEa H f .arg q hr trivial
   simp only
   split
   ·rename_i h
    exact Go.add (a.trans (qEU (by simp) h)) (qHe (by simp;omega))
   ·have c:=a.tr0 (qIl [41] _)
    split
    ·rename_i h
     have d:=c.trans (qEU (by simp) h)
     obtain ⟨e1,e2,_⟩:=qJZ h
     have l:=e1.length_le
     have l2:=qBk c
     have l3:=qy (sIs [41] (sP f .arg q).2).2.1
     simp only [List.length_cons,List.length_nil] at l
     exact d.weak.tr0 (qEa H f (.call op _) _ (Nat.le_trans (qBk d) hr) (.inr (by rw [e2];simp;omega)))
    ·have d:=qND (c.tr0 (qIl [44] _))
     exact d.tr0 (qEa H f (.call op _) _ (Nat.le_trans (qBk d) hr) (.inl rfl))
 |f+1,.arg,q,hr,_=>by
  unfold sP
  simp only
  have w:=qN5 q
  split
  ·rename_i h
   have c:=w.trans (qEU (by simp) h.2)
   have d:=c.trans (qN5 _)
   split
   ·exact Go.add d ⟨by simp [kd,ndA],by simp [ndA,em];decide⟩
   ·exact ⟨d.suf,by have:=d.sum;simp only at this⊢;omega,d.sm⟩
  ·have t:=qKw q
   exact t.tr0 (qEa H f (.row 1) _ (Nat.le_trans (qBk t) hr) trivial)
def As (f:Nat):SJ→PS→Prop
 | .row level,q=>((20*(tb q.1).length+10:Nat):Int)-level≤f∧1≤level∧level≤5
 | .rl level _,q=>20*(tb q.1).length+5≤f∧1≤level∧level≤4
 | .one,q=>20*(tb q.1).length+4≤f∧q.2.1=false
 | .call _ _,q=>(q.2.1=true∧1≤f)∨20*(tb q.1).length+12≤f
 | .arg,q=>20*(tb q.1).length+10≤f
def Iv (s:List UInt8) (q:PS):Prop:=q.1<:+s∧q.2.2.length+q.1.length≤2000
theorem Iv.go {s:List UInt8} {k:Nat} {q q':PS} (h:Iv s q) (g:Go k q q'):Iv s q':=⟨g.suf.trans h.1,by have:=g.sum;have:=h.2;omega⟩
def Ws (s:List UInt8):SJ→PS→Int×PS→Prop
 | .row level,q,r=>Ev (qDt · level (BR s) (pos s q.1) q.2.1 q.2.2.length (q.2.2.map qV)) (qCI s r)
 | .rl level a,q,r=>∃x,(x= .inl (qCI s r)∨x= .inr (qCI s r))∧∃n0,∀n,n0≤n→∀M,n0≤M→zD (qDu (qe n) n) M (level,a,qCc s q)=some x
 | .one,q,r=>Ev (qHo · (BR s) (pos s q.1) q.2.1 q.2.2.length (q.2.2.map qV)) (qCI s r)
 | .call op kids,q,r=>∃x,(x= .inl (qCI s r)∨(x= .inr (qCc s r.2)∧r.1=0))∧∃n0,∀n,n0≤n→∀M,n0≤M→zD (qDc (qe n) n) M (op,kids.length,kids.map qAs,qCc s q)=some x
 | .arg,q,r=>Ev (qHp · (BR s) (pos s q.1) q.2.1 q.2.2.length (q.2.2.map qV)) (qCI s r)
theorem srp (r:List UInt8) (h:r.length≤1000):Ev (qAn · (BR (wd r))) (qAt (BR (wd r))):=qKh _ (by rw [qm];have:=qOZ r;omega)
theorem srv (r:List UInt8) (h:r.length≤1000):Ev (qAH · (BR (wd r))) (qh (BR (wd r))):=qKe _ (by rw [qm];have:=qOZ r;omega)
theorem qSE {r:List UInt8} (h:wd r≠ []):(tb (wr r)).length<r.length:=by
 have e:=congrArg List.length (wdr r)
 have:=List.length_pos_iff.2 h
 have:=qy (wr r)
 simp only [List.length_append] at e
 omega
def qOd (n:Nat) (w:ByteArray) (c:ByteArray×Int×Bool×Nat×List (List PV)):Tr (Int×ByteArray×Int×Bool×Nat×List (List PV)):=
 (.opt (qAn n w) fun r=>(.ask (!r.2.2.2.2) (.done (0,c.1,c.2.1,true,c.2.2.2.1,c.2.2.2.2))
  (.opt (qt n 2 0 0 0 ⟨#[]⟩ r.1 r.2.1 r.2.2.1 r.2.2.2.1 0 0 false false [] c.1 c.2.1 c.2.2.1 c.2.2.2.1 c.2.2.2.2) fun t=> .done (t.1,t.2.1,t.2.2.1,t.2.2.2.1,t.2.2.2.2.1,t.2.2.2.2.2))))
def qRt (n:Nat) (w:ByteArray) (c:ByteArray×Int×Bool×Nat×List (List PV)):Tr (Int×ByteArray×Int×Bool×Nat×List (List PV)):=
 (.opt (qAH n w) fun r=>(.ask r.2.2.2
  (.ask (!(w.toList==(⟨#[]⟩:ByteArray).toList))
   (.opt (qt n 1 0 r.1 r.2.1 r.2.2.1 0 0 false false 0 0 false false [] c.1 c.2.1 c.2.2.1 c.2.2.2.1 c.2.2.2.2) fun t=> .done (t.1,t.2.1,t.2.2.1,t.2.2.2.1,t.2.2.2.2.1,t.2.2.2.2.2))
   (qOd n w c))
  (qOd n w c)))
def qNE (w:List UInt8) (q3:PS):Int×PS:=
 if (qh (BR w)).2.2.2=true∧w≠ [] then qDq (nd1 ((qh (BR w)).1,(qh (BR w)).2.1,(qh (BR w)).2.2.1)) q3
 else if (qAt (BR w)).2.2.2.2=true then qDq (ndC (qAt (BR w))) q3
 else (0,qJ4 q3)
theorem qN7 (H:RdOK) {s:List UInt8} (r:List UInt8) (q:PS) (hr:r.length≤1000) (hn:q.2.2.length≤5000):∃n0,∀n,n0≤n→(qRt n (BR (wd r)) (qCc s q)).run=some (qCI s (qNE (wd r) q)):=by
 obtain ⟨n1,h1⟩:=srv r hr
 obtain ⟨n2,h2⟩:=srp r hr
 obtain ⟨n4,h4⟩:=qIk (s:=s) (ndC (qAt (BR (wd r)))) q hn ⟨by simp [kd,ndC],by simp [ndC,em];decide⟩
 have place:∃n0,∀n,n0≤n→(qOd n (BR (wd r)) (qCc s q)).run=some (qCI s (if (qAt (BR (wd r))).2.2.2.2=true then qDq (ndC (qAt (BR (wd r)))) q else (0,qJ4 q))):=by
  refine ⟨n2+n4,fun n hn=>?_⟩
  cases hp:(qAt (BR (wd r))).2.2.2.2 with
  |true=>rw [if_pos rfl];exact qA (h2 n (by omega)) (qO (qL0 hp) (qA (h4 n (by omega)) rfl))
  |false=>rw [if_neg (by simp)];exact qA (h2 n (by omega)) (qN (qHC hp) rfl)
 obtain ⟨n5,h5⟩:=place
 by_cases hv:(qh (BR (wd r))).2.2.2=true∧wd r≠ []
 ·obtain ⟨n3,h3⟩:=qIk (s:=s) (nd1 ((qh (BR (wd r))).1,(qh (BR (wd r))).2.1,(qh (BR (wd r))).2.2.1)) q hn ⟨by simp [kd,nd1],qIj hv.1 (H.v _ (qPW _) hv.2 hv.1)⟩
  refine ⟨n1+n3,fun n hn=>?_⟩
  unfold qNE
  rw [if_pos hv]
  exact qA (h1 n (by omega)) (qN hv.1 (qN (qHC (by rw [beq_eq_false_iff_ne,qBB,q9];exact hv.2)) (qA (h3 n (by omega)) rfl)))
 ·refine ⟨n1+n5,fun n hn=>?_⟩
  unfold qNE
  rw [if_neg hv]
  refine qA (h1 n (by omega)) ?_
  by_cases ho:(qh (BR (wd r))).2.2.2=true
  ·have e:wd r= []:=Classical.byContradiction fun e=>hv ⟨ho,e⟩
   exact qN ho (qO (qL0 (by rw [beq_iff_eq,qBB,q9];exact e)) (h5 n (by omega)))
  ·exact qO (by rw [Bool.eq_false_iff];exact ho) (h5 n (by omega))
theorem qEl (H:RdOK) {s:List UInt8} (hs:s.length≤1000):∀(f:Nat) (j:SJ) (q:PS),As f j q→Iv s q→Ks j q→Ws s j q (sP f j q)
 |0,j,q,ha,_,_=>by cases j<;>simp [As] at ha<;>omega
 |f+1,.row level,q,ha,hi,_=>by
  obtain ⟨ha,hl1,hl5⟩:=ha
  have hr:q.1.length≤1000:=Nat.le_trans (qC3 hi.1) hs
  unfold sP
  by_cases hb:q.2.1=true
  ·rw [if_pos hb]
   refine ⟨1,fun n hn=>?_⟩
   obtain ⟨k,rfl,hm⟩:=up1 hn
   exact qN hb rfl
  ·have hb:q.2.1=false:=by rw [Bool.eq_false_iff];exact hb
   rw [if_neg (by rw [hb];simp)]
   by_cases h5:level=5
   ·rw [if_pos h5]
    obtain ⟨n1,h1⟩:=qEl H hs f .one q ⟨by omega,hb⟩ hi trivial
    refine ⟨n1+1,fun n hn=>?_⟩
    obtain ⟨k,rfl,hm⟩:=up1 hn
    exact qO hb (qN (beq_iff_eq.2 h5) (qA (h1 k (by omega)) rfl))
   ·rw [if_neg h5]
    have g:=qEa H f (.row (level+1)) q hr trivial
    have gl:=g.tb
    obtain ⟨n1,h1⟩:=qEl H hs f (.row (level+1)) q ⟨by omega,by omega,by omega⟩ hi trivial
    generalize sP f (.row (level+1)) q=Q at g gl h1⊢
    obtain ⟨x,hx,n2,h2⟩:=qEl H hs f (.rl level Q.1) Q.2 ⟨by omega,by omega,by omega⟩ (hi.go g) trivial
    refine ⟨n1+n2+1,fun n hn=>?_⟩
    obtain ⟨k,rfl,hm⟩:=up1 hn
    have w1:IntKind.i64.wrap (level+1)=level+1:=qb (by omega)
    have h1:=h1 k (by omega)
    rw [←w1] at h1
    have h2:=h2 k (by omega) k (by omega)
    rcases hx with rfl|rfl
    ·exact qO hb (qO (beq_eq_false_iff_ne.2 h5) (qA h1 (qA h2 rfl)))
    ·exact qO hb (qO (beq_eq_false_iff_ne.2 h5) (qA h1 (qA h2 rfl)))
 |f+1,.rl level a,q,ha,hi,_=>by
  obtain ⟨ha,hl1,hl4⟩:=ha
  have hr:q.1.length≤1000:=Nat.le_trans (qC3 hi.1) hs
  unfold sP
  by_cases hb:q.2.1=true
  ·rw [if_pos hb]
   refine ⟨.inr (qCI s (a,q)),.inr rfl,1,fun n hn M hM=>?_⟩
   obtain ⟨M,rfl,hM⟩:=up1 hM
   exact qP (qO (qL0 hb) rfl)
  ·have hb:q.2.1=false:=by rw [Bool.eq_false_iff];exact hb
   rw [if_neg (by rw [hb];simp)]
   simp only
   obtain ⟨n1,h1⟩:=qRr hs (level:=level) ⟨hl1,hl4⟩ q hb hi.1
   have o:=qRe level q
   generalize sOp level q=O at h1 o⊢
   by_cases h0:O.1=0
   ·rw [if_pos h0]
    refine ⟨.inl (qCI s (a,O.2)),.inl rfl,n1+1,fun n hn M hM=>?_⟩
    obtain ⟨M,rfl,hM⟩:=up1 hM
    exact qP (qN (qHC hb) (qA (h1 n (by omega)) (qN (beq_iff_eq.2 h0) rfl)))
   ·rw [if_neg h0]
    obtain ⟨o1,o2⟩:=o.2 h0
    have b:=qEa H f (.row (level+1)) O.2 (Nat.le_trans (qBk o1) hr) trivial
    obtain ⟨n2,h2⟩:=qEl H hs f (.row (level+1)) O.2 ⟨by omega,by omega,by omega⟩ (hi.go o1) trivial
    have ib:=(hi.go o1).go b
    have tbb:=b.tb
    have c:=Go.add (x:=ndK 5 O.1 [a,(sP f (.row (level+1)) O.2).1]) (o1.trans b) (qHe (by simp))
    generalize sP f (.row (level+1)) O.2=Q at h2 b ib tbb c⊢
    obtain ⟨n3,h3⟩:=qIk (s:=s) (ndK 5 O.1 [a,Q.1]) Q.2 (by have:=ib.2;omega) (qHe (by simp))
    have rest:(qDq (ndK 5 O.1 [a,Q.1]) Q.2).2.1=Q.2.1:=rfl
    generalize qDq (ndK 5 O.1 [a,Q.1]) Q.2=C at h3 c rest⊢
    obtain ⟨x,hx,n4,h4⟩:=qEl H hs f (.rl level C.1) C.2 ⟨by rw [rest];omega,hl1,hl4⟩ (hi.go c) trivial
    refine ⟨x,hx,n1+n2+n3+n4+1,fun n hn M hM=>?_⟩
    obtain ⟨M,rfl,hM⟩:=up1 hM
    have w1:IntKind.i64.wrap (level+1)=level+1:=qb (by omega)
    have h2:=h2 n (by omega)
    rw [←w1] at h2
    rw [qc (v':=(level,C.1,qCc s C.2)) (by
     exact qN (qHC hb) (qA (h1 n (by omega)) (qO (beq_eq_false_iff_ne.2 h0) (qA h2 (qN rfl (qA (h3 n (by omega)) rfl))))))]
    exact h4 n (by omega) M (by omega)
 |f+1,.one,q,ha,hi,_=>by
  obtain ⟨ha,hb⟩:=ha
  have hr:q.1.length≤1000:=Nat.le_trans (qC3 hi.1) hs
  unfold sP
  obtain ⟨n1,h1⟩:=qF5 hs [45] (by simp) q hi.1
  cases c1:(sIs [45] q).1 with
  |true=>
   rw [if_pos rfl]
   have a:=qEU (by simp) c1
   have al:=qP0 (by simp) c1
   have b:=qEa H f (.row 5) (sIs [45] q).2 (Nat.le_trans (qBk a) hr) trivial
   obtain ⟨n2,h2⟩:=qEl H hs f (.row 5) (sIs [45] q).2 ⟨by omega,by omega,by omega⟩ (hi.go a) trivial
   have ib:=(hi.go a).go b
   simp only
   generalize sP f (.row 5) (sIs [45] q).2=Q at h2 ib⊢
   obtain ⟨n3,h3⟩:=qIk (s:=s) (ndK 4 0 [Q.1]) Q.2 (by have:=ib.2;omega) (qHe (by simp))
   refine ⟨n1+n2+n3+1,fun n hn=>?_⟩
   obtain ⟨k,rfl,hm⟩:=up1 hn
   exact qA (h1 k (by omega)) (qN c1 (qA (h2 k (by omega)) (qN rfl (qA (h3 k (by omega)) rfl))))
  |false=>
   rw [if_neg (by simp)]
   have a:=qIl [45] q
   obtain ⟨n2,h2⟩:=qF5 hs [40] (by simp) (sIs [45] q).2 (hi.go a).1
   cases c2:(sIs [40] (sIs [45] q).2).1 with
   |true=>
    rw [if_pos rfl]
    have b:=qEU (by simp) c2
    have al:=qP0 (by simp) c2
    have atb:=a.tb
    have g1:=a.trans b
    have b2:=qEa H f (.row 1) (sIs [40] (sIs [45] q).2).2 (Nat.le_trans (qBk g1) hr) trivial
    obtain ⟨n3,h3⟩:=qEl H hs f (.row 1) (sIs [40] (sIs [45] q).2).2 ⟨by omega,by omega,by omega⟩ (hi.go g1) trivial
    have ib:=(hi.go g1).go b2
    simp only
    generalize sP f (.row 1) (sIs [40] (sIs [45] q).2).2=Q at h3 ib⊢
    obtain ⟨n4,h4⟩:=qF5 hs [41] (by simp) Q.2 ib.1
    refine ⟨n1+n2+n3+n4+1,fun n hn=>?_⟩
    obtain ⟨k,rfl,hm⟩:=up1 hn
    refine qA (h1 k (by omega)) (qO c1 (qA (h2 k (by omega)) (qN c2 (qA (h3 k (by omega)) (qA (h4 k (by omega)) ?_)))))
    cases c3:(sIs [41] Q.2).1 with
    |true=>rw [if_pos rfl];exact qO rfl rfl
    |false=>rw [if_neg (by simp)];exact qN rfl rfl
   |false=>
    rw [if_neg (by simp)]
    have e2:(sIs [40] (sIs [45] q).2).2=(tb q.1,q.2):=by
     rw [qN6 c2,qN6 c1];simp only [qCH]
    rw [e2] at h2
    have t:=qKw q
    have it:=hi.go t
    obtain ⟨n3,h3⟩:=qF5 hs [34] (by simp) (tb q.1,q.2) it.1
    simp only
    cases c3:(sIs [34] (tb q.1,q.2)).1 with
    |true=>
     rw [if_pos rfl]
     have b:=qEU (by simp) c3
     have ib:=it.go b
     have eq2:(sIs [34] (tb q.1,q.2)).2.2=q.2:=by obtain ⟨_,e,_⟩:=qJZ c3;rw [e]
     obtain ⟨n4,h4⟩:=qQm hs (sIs [34] (tb q.1,q.2)).2 ib.1 (by have:=ib.2;omega)
     refine ⟨n1+n2+n3+n4+1,fun n hn=>?_⟩
     obtain ⟨k,rfl,hm⟩:=up1 hn
     refine qA (h1 k (by omega)) (qO c1 (qA (h2 k (by omega)) (qO c2 (qA (h3 k (by omega)) (qN c3 (qA (h4 k (by omega)) ?_))))))
     rw [qC,eq2]
     all_goals (cases qBh [] (sIs [34] (tb q.1,q.2)).2.1<;>rfl)
    |false=>
     rw [if_neg (by simp)]
     have e3:(sIs [34] (tb q.1,q.2)).2=(tb q.1,q.2):=by rw [qN6 c3];simp only [qCH]
     rw [e3] at h3
     obtain ⟨n4,h4⟩:=qF5 hs [35] (by simp) (tb q.1,q.2) it.1
     cases c4:(sIs [35] (tb q.1,q.2)).1 with
     |true=>
      rw [if_pos rfl]
      have b:=qEU (by simp) c4
      have ib:=it.go b
      have eq2:(sIs [35] (tb q.1,q.2)).2.2=q.2:=by obtain ⟨_,e,_⟩:=qJZ c4;rw [e]
      obtain ⟨n5,h5⟩:=qRT hs (sIs [35] (tb q.1,q.2)).2.1 ib.1 q.2.1 q.2.2 (by have:=hi.2;omega)
      have h4:=fun k hk=>h4 k hk
      refine ⟨n1+n2+n3+n4+n5+1,fun n hn=>?_⟩
      obtain ⟨k,rfl,hm⟩:=up1 hn
      have h4:=h4 k (by omega)
      have h5:=h5 k (by omega) k (by omega)
      have e4:qCc s (sIs [35] (tb q.1,q.2)).2=(BR s,pos s (sIs [35] (tb q.1,q.2)).2.1,q.2.1,q.2.2.length,q.2.2.map qV):=by unfold qCc;rw [eq2]
      rw [e4] at h4
      refine qA (h1 k (by omega)) (qO c1 (qA (h2 k (by omega)) (qO c2 (qA (h3 k (by omega)) (qO c3 (qA h4 (qN c4 (qA h5 ?_))))))))
      cases qO1 (sIs [35] (tb q.1,q.2)).2.1 1 5<;>rfl
     |false=>
      rw [if_neg (by simp)]
      have e4:(sIs [35] (tb q.1,q.2)).2=(tb q.1,q.2):=by rw [qN6 c4];simp only [qCH]
      rw [e4] at h4
      obtain ⟨n5,h5⟩:=qNB hs (tb q.1,q.2) it.1
      have w:=qN5 q
      have iw:=hi.go w
      have htl:=qy q.1
      obtain ⟨n6,h6⟩:=qF5 hs [40] (by simp) (wr (tb q.1),q.2) iw.1
      obtain ⟨n7,h7⟩:=qRU
      obtain ⟨n9,h9⟩:=qN7 H (s:=s) (tb q.1) (wr (tb q.1),q.2) (by omega) (by have:=hi.2;simp only;omega)
      have gi:=qIl [40] (wr (tb q.1),q.2)
      cases hf:qE4 (wd (tb q.1)) 1 10 with
      |none=>
       simp only
       refine ⟨n1+n2+n3+n4+n5+n6+n7+n9+12+1,fun n hn=>?_⟩
       obtain ⟨k,rfl,hm⟩:=up1 hn
       have lp:=qIv (g:=qe k) (s:=s) (wd (tb q.1)) (wr (tb q.1),q.2) (fun _=>(0,q)) (h7 k (by omega)) (h6 k (by omega)) 10 1 k (by omega) (by omega) (by omega) (fun op h=>by rw [hf] at h;cases h)
       rw [hf] at lp
       exact qA (h1 k (by omega)) (qO c1 (qA (h2 k (by omega)) (qO c2 (qA (h3 k (by omega)) (qO c3 (qA (h4 k (by omega)) (qO c4 (qA (h5 k (by omega)) (qA lp (h9 k (by omega)))))))))))
      |some op=>
       have wne:wd (tb q.1)≠ []:=fun e=>by rw [e,H.f0] at hf;cases hf
       have wlt:=qSE wne
       simp only
       cases c5:(sIs [40] (wr (tb q.1),q.2)).1 with
       |true=>
        rw [if_pos rfl]
        have il:=qP0 (by simp) c5
        simp only at il
        obtain ⟨x,hx,n8,h8⟩:=qEl H hs f (.call op []) (sIs [40] (wr (tb q.1),q.2)).2 (.inr (by omega)) (iw.go gi) (.inr (by have:=qBk (w.tr0 gi);simp only [List.length_nil];omega))
        have hcall:Ev (qGw · op (BR s) (pos s (sIs [40] (wr (tb q.1),q.2)).2.1) (sIs [40] (wr (tb q.1),q.2)).2.2.1 (sIs [40] (wr (tb q.1),q.2)).2.2.2.length ((sIs [40] (wr (tb q.1),q.2)).2.2.2.map qV)) (qCI s (sP f (.call op []) (sIs [40] (wr (tb q.1),q.2)).2)):=by
         refine ⟨n8+1,fun n hn=>?_⟩
         obtain ⟨k,rfl,hm⟩:=up1 hn
         have h8:=h8 k (by omega) k (by omega)
         rcases hx with rfl|⟨rfl,hz⟩
         ·exact qA h8 rfl
         ·refine qA h8 ?_
          show some ((0:Int),qCc s _)=some (_,qCc s _)
          rw [hz]
        obtain ⟨n10,h10⟩:=hcall
        refine ⟨n1+n2+n3+n4+n5+n6+n7+n10+12+1,fun n hn=>?_⟩
        obtain ⟨k,rfl,hm⟩:=up1 hn
        have lp:=qIv (g:=qe k) (s:=s) (wd (tb q.1)) (wr (tb q.1),q.2) (fun op=>sP f (.call op []) (sIs [40] (wr (tb q.1),q.2)).2) (h7 k (by omega)) (h6 k (by omega)) 10 1 k (by omega) (by omega) (by omega) (fun op' h _=>by rw [hf] at h;cases h;exact h10 k (by omega))
        rw [hf] at lp
        simp only at lp
        rw [if_pos c5] at lp
        exact qA (h1 k (by omega)) (qO c1 (qA (h2 k (by omega)) (qO c2 (qA (h3 k (by omega)) (qO c3 (qA (h4 k (by omega)) (qO c4 (qA (h5 k (by omega)) (qA lp rfl)))))))))
       |false=>
        rw [if_neg (by simp)]
        obtain ⟨v1,v2⟩:=H.f _ _ hf
        obtain ⟨n9,h9⟩:=qN7 H (s:=s) (tb q.1) (sIs [40] (wr (tb q.1),q.2)).2 (by omega) (by have:=(iw.go gi).2;omega)
        have er:qNE (wd (tb q.1)) (sIs [40] (wr (tb q.1),q.2)).2=(0,qJ4 (sIs [40] (wr (tb q.1),q.2)).2):=by
         unfold qNE
         rw [if_neg (fun h=>by rw [v1] at h;cases h.1),if_neg (by rw [v2];simp)]
        rw [er] at h9
        refine ⟨n1+n2+n3+n4+n5+n6+n7+n9+12+1,fun n hn=>?_⟩
        obtain ⟨k,rfl,hm⟩:=up1 hn
        have lp:=qIv (g:=qe k) (s:=s) (wd (tb q.1)) (wr (tb q.1),q.2) (fun _=>(0,q)) (h7 k (by omega)) (h6 k (by omega)) 10 1 k (by omega) (by omega) (by omega) (fun op' h h'=>by rw [c5] at h';cases h')
        rw [hf] at lp
        simp only at lp
        rw [if_neg (by rw [c5];simp)] at lp
        exact qA (h1 k (by omega)) (qO c1 (qA (h2 k (by omega)) (qO c2 (qA (h3 k (by omega)) (qO c3 (qA (h4 k (by omega)) (qO c4 (qA (h5 k (by omega)) (qA lp (h9 k (by omega)))))))))))
 |f+1,.call op kids,q,ha,hi,hk=>by
  have hr:q.1.length≤1000:=Nat.le_trans (qC3 hi.1) hs
  unfold sP
  by_cases hb:q.2.1=true
  ·rw [if_pos hb]
   refine ⟨.inr (qCc s q),.inr ⟨rfl,rfl⟩,1,fun n hn M hM=>?_⟩
   obtain ⟨M,rfl,hM⟩:=up1 hM
   exact qP (qO (qL0 hb) rfl)
  ·have hk:kids.length+q.1.length≤1500:=hk.elim (fun h=>absurd h hb) id
   have ha:20*(tb q.1).length+12≤f+1:=ha.elim (fun h=>absurd h.1 hb) id
   have hb:q.2.1=false:=by rw [Bool.eq_false_iff];exact hb
   rw [if_neg (by rw [hb];simp)]
   simp only
   have a:=qEa H f .arg q hr trivial
   obtain ⟨n1,h1⟩:=qEl H hs f .arg q (by show 20*_+10≤f;omega) hi trivial
   generalize sP f .arg q=A at a h1⊢
   have ia:=hi.go a
   have ta:=a.tb
   have ra:=qBk a
   obtain ⟨n2,h2⟩:=qF5 hs [41] (by simp) A.2 ia.1
   have kl:decide (kids.length=(kids.map qAs).length∧0<1∧0<8∧(kids.length+([[(PV.i .i64 A.1)]]:List (List PV)).length)*8≤140737488355328∧([[(PV.i .i64 A.1)]]:List (List PV)).all (fun e=>e.length==1)=true)=true:=decide_eq_true ⟨by simp,by decide,by decide,by simp;omega,rfl⟩
   have k1:(kids++ [A.1]).length=kids.length+1:=by simp
   have k2:(kids++ [A.1]).map qAs=kids.map qAs++ [[PV.i .i64 A.1]]:=by simp [qAs]
   cases c1:(sIs [41] A.2).1 with
   |true=>
    rw [if_pos rfl]
    have g:=a.trans (qEU (by simp) c1)
    obtain ⟨n3,h3⟩:=qIk (s:=s) (ndK 6 op (kids++ [A.1])) (sIs [41] A.2).2 (by have:=(hi.go g).2;omega) (qHe (by simp;omega))
    refine ⟨.inl (qCI s (qDq (ndK 6 op (kids++ [A.1])) (sIs [41] A.2).2)),.inl rfl,n1+n2+n3+1,fun n hn M hM=>?_⟩
    obtain ⟨M,rfl,hM⟩:=up1 hM
    have h3:_=some _:=h3 n (by omega)
    simp only [ndK,kd] at h3
    rw [k2] at h3
    exact qP (qN (qHC hb) (qA (h1 n (by omega)) (qN rfl (qN kl (qA (h2 n (by omega)) (qN c1 (qN (decide_eq_true (by simp)) (qA h3 rfl))))))))
   |false=>
    rw [if_neg (by simp)]
    have g:=a.tr0 (qIl [41] A.2)
    have gt:=(qIl [41] A.2).tb
    have i2:=hi.go g
    obtain ⟨n3,h3⟩:=qF5 hs [44] (by simp) (sIs [41] A.2).2 i2.1
    cases c2:(sIs [44] (sIs [41] A.2).2).1 with
    |true=>
     rw [if_pos rfl]
     have b:=qEU (by simp) c2
     have bl:=qP0 (by simp) c2
     have bs:=qBk (g.trans b)
     have b1:=b.sum
     have eq3:(sIs [44] (sIs [41] A.2).2).2.2=(sIs [41] A.2).2.2:=by obtain ⟨_,e,_⟩:=qJZ c2;rw [e]
     rw [eq3] at b1
     have g0:=qBk g
     obtain ⟨x,hx,n4,h4⟩:=qEl H hs f (.call op (kids++ [A.1])) (sIs [44] (sIs [41] A.2).2).2 (.inr (by omega)) (i2.go b) (.inr (by rw [k1];omega))
     refine ⟨x,hx,n1+n2+n3+n4+1,fun n hn M hM=>?_⟩
     obtain ⟨M,rfl,hM⟩:=up1 hM
     have h4:=h4 n (by omega) M (by omega)
     rw [k1,k2] at h4
     rw [qc (v':=(op,kids.length+1,kids.map qAs++ [[PV.i .i64 A.1]],qCc s (sIs [44] (sIs [41] A.2).2).2)) (by
      exact qN (qHC hb) (qA (h1 n (by omega)) (qN rfl (qN kl (qA (h2 n (by omega)) (qO c1 (qA (h3 n (by omega)) (qO (qL0 c2) rfl))))))))]
     exact h4
    |false=>
     rw [if_neg (by simp)]
     have b:=qIl [44] (sIs [41] A.2).2
     obtain ⟨x,hx,n4,h4⟩:=qEl H hs f (.call op (kids++ [A.1])) (qJ4 (sIs [44] (sIs [41] A.2).2).2) (.inl ⟨rfl,by omega⟩) (i2.go (qND b)) (.inl rfl)
     refine ⟨x,hx,n1+n2+n3+n4+1,fun n hn M hM=>?_⟩
     obtain ⟨M,rfl,hM⟩:=up1 hM
     have h4:=h4 n (by omega) M (by omega)
     rw [k1,k2] at h4
     rw [qc (v':=(op,kids.length+1,kids.map qAs++ [[PV.i .i64 A.1]],qCc s (qJ4 (sIs [44] (sIs [41] A.2).2).2))) (by
      exact qN (qHC hb) (qA (h1 n (by omega)) (qN rfl (qN kl (qA (h2 n (by omega)) (qO c1 (qA (h3 n (by omega)) (qN (qHC c2) rfl))))))))]
     exact h4
 |f+1,.arg,q,ha,hi,_=>by
  replace ha:20*(tb q.1).length+10≤f+1:=ha
  have hr:q.1.length≤1000:=Nat.le_trans (qC3 hi.1) hs
  have htl:=qy q.1
  unfold sP
  simp only
  have t:=qKw q
  have it:=hi.go t
  have w:=qN5 q
  have iw:=hi.go w
  obtain ⟨n1,h1⟩:=qOb hs q hi.1
  obtain ⟨n2,h2⟩:=qNB hs (tb q.1,q.2) it.1
  obtain ⟨n3,h3⟩:=srp (tb q.1) (by omega)
  obtain ⟨n4,h4⟩:=qF5 hs [58] (by simp) (wr (tb q.1),q.2) iw.1
  have eq2:(sIs [58] (wr (tb q.1),q.2)).2.2=q.2:=by
   cases c:(sIs [58] (wr (tb q.1),q.2)).1 with
   |true=>obtain ⟨_,e,_⟩:=qJZ c;rw [e]
   |false=>rw [qN6 c]
  by_cases hc:(qAt (BR (wd (tb q.1)))).2.2.2.2=true∧(sIs [58] (wr (tb q.1),q.2)).1=true
  ·rw [if_pos hc]
   have g:=w.trans (qEU (by simp) hc.2)
   have ig:=hi.go g
   have rg:=qBk g
   generalize sIs [58] (wr (tb q.1),q.2)=I at*
   have gt:=qKw I.2
   have gw:=qN5 I.2
   have il:=qy I.2.1
   obtain ⟨n5,h5⟩:=qOb hs I.2 ig.1
   obtain ⟨n6,h6⟩:=qNB hs (tb I.2.1,I.2.2) (ig.go gt).1
   obtain ⟨n7,h7⟩:=srp (tb I.2.1) (by omega)
   cases hp:(qAt (BR (wd (tb I.2.1)))).2.2.2.2 with
   |true=>
    rw [if_pos rfl]
    obtain ⟨n8,h8⟩:=qIk (s:=s) (ndA (qAt (BR (wd (tb q.1)))) (qAt (BR (wd (tb I.2.1))))) (wr (tb I.2.1),I.2.2) (by have:=(ig.go gw).2;simp only at this⊢;omega) ⟨by simp [kd,ndA],by simp [ndA,em];decide⟩
    refine ⟨n1+n2+n3+n4+n5+n6+n7+n8+1,fun n hn=>?_⟩
    obtain ⟨k,rfl,hm⟩:=up1 hn
    exact qA (h1 k (by omega)) (qA (h2 k (by omega)) (qA (h3 k (by omega)) (qN hc.1 (qA (h4 k (by omega)) (qN hc.2 (qA (h5 k (by omega)) (qA (h6 k (by omega)) (qA (h7 k (by omega)) (qO (qL0 hp) (qA (h8 k (by omega)) rfl))))))))))
   |false=>
    rw [if_neg (by simp)]
    refine ⟨n1+n2+n3+n4+n5+n6+n7+1,fun n hn=>?_⟩
    obtain ⟨k,rfl,hm⟩:=up1 hn
    exact qA (h1 k (by omega)) (qA (h2 k (by omega)) (qA (h3 k (by omega)) (qN hc.1 (qA (h4 k (by omega)) (qN hc.2 (qA (h5 k (by omega)) (qA (h6 k (by omega)) (qA (h7 k (by omega)) (qN (qHC hp) rfl)))))))))
  ·rw [if_neg hc]
   obtain ⟨n5,h5⟩:=qEl H hs f (.row 1) (tb q.1,q.2) ⟨by simp only [qCH];omega,by omega,by omega⟩ it trivial
   refine ⟨n1+n2+n3+n4+n5+1,fun n hn=>?_⟩
   obtain ⟨k,rfl,hm⟩:=up1 hn
   cases hp:(qAt (BR (wd (tb q.1)))).2.2.2.2 with
   |true=>
    have ht:(sIs [58] (wr (tb q.1),q.2)).1=false:=by rw [Bool.eq_false_iff];exact fun e=>hc ⟨hp,e⟩
    have h4:=h4 k (by omega)
    have e4:qCc s (sIs [58] (wr (tb q.1),q.2)).2=(BR s,pos s (sIs [58] (wr (tb q.1),q.2)).2.1,q.2.1,q.2.2.length,q.2.2.map qV):=by unfold qCc;rw [eq2]
    rw [e4] at h4
    exact qA (h1 k (by omega)) (qA (h2 k (by omega)) (qA (h3 k (by omega)) (qN hp (qA h4 (qO ht (qA (h5 k (by omega)) rfl))))))
   |false=>exact qA (h1 k (by omega)) (qA (h2 k (by omega)) (qA (h3 k (by omega)) (qO hp (qA (h5 k (by omega)) rfl))))
theorem qQK {w:List UInt8} (h:w.all wch=true) (hn:w≠ []):(qAx (BR w)).1=1∨(qAx (BR w)).1=3:=by
 cases w with
 |nil=>exact absurd rfl hn
 |cons c t=>
  simp only [List.all_cons,Bool.and_eq_true] at h
  have h39:¬(c::t).head?=some 39:=by
   intro e;simp at e;rw [e] at h;exact absurd h.1 (by decide)
  have h35:¬(c::t).head?=some 35:=by
   intro e;simp at e;rw [e] at h;exact absurd h.1 (by decide)
  unfold qAx
  rw [qBB,if_neg h39]
  split
  ·exact .inr rfl
  ·split
   ·exact .inr rfl
   ·exact .inl rfl
theorem qQL:RdOK where
 v:=fun w h hn ho=>by
  have c:=qQK h hn
  unfold qh at ho⊢
  split at ho
  ·rename_i hc;rw [if_pos hc];exact c
  ·cases ho
 v0:=by
  have:(qh (BR [])).1=0:=by
   have:(qh ⟨#[]⟩).1=0:=by decide+kernel
   exact this
  rw [this];decide
 p0:=by
  have:(qAt ⟨#[]⟩).2.2.2.2=false:=by decide+kernel
  exact this
 f:=fun w op h=>by
  have t:∀a:Fin 10,(qh (fnS (((a.val:Nat):Int)+1))).2.2.2=false∧(qAt (fnS (((a.val:Nat):Int)+1))).2.2.2.2=false:=by decide+kernel
  have e:∀(k:Nat) (i:Int),1≤i→i+k≤11→qE4 w i k=some op→∃j:Int,1≤j∧j≤10∧(fnS j).toList=w:=by
   intro k
   induction k with
   |zero=>intro i _ _ h;cases h
   |succ k ih=>
    intro i h1 h2 h
    unfold qE4 at h
    split at h
    ·rename_i hq;exact ⟨i,h1,by omega,hq⟩
    ·exact ih (i+1) (by omega) (by omega) h
  obtain ⟨j,j1,j2,rfl⟩:=e 10 1 (by omega) (by omega) h
  rw [qF2]
  have:=t ⟨(j-1).toNat,by omega⟩
  simp only at this
  rwa [show (((j-1).toNat:Nat):Int)+1=j by omega] at this
 f0:=by decide+kernel
 n:=fun n hn=>by
  have c:n=1∨n=2∨n=3∨n=4∨n=5:=by omega
  rcases c with rfl|rfl|rfl|rfl|rfl
  ·exact ⟨[68,73,86,33],by decide+kernel⟩
  ·exact ⟨[84,89,80,69,33],by decide+kernel⟩
  ·exact ⟨[82,69,70,33],by decide+kernel⟩
  ·exact ⟨[79,86,69,82,33],by decide+kernel⟩
  ·exact ⟨[67,89,67,76,69,33],by decide+kernel⟩
def qKx (s:ByteArray):PS:=(pP 4050 (.bin 1 0) (s.toList,false,[])).2
def qE7 (s:ByteArray):List Nd×Bool:=
 if qDj s 200=true∧(qKx s).2.1=false∧tb (qKx s).1= []∧qDZ (qKx s).2.2=true then ((qKx s).2.2,true) else ([],false)
theorem qLr {s:ByteArray} (h:qDj s 200=true):s.toList.length≤200:=by
 unfold qDj at h
 simp only [Bool.and_eq_true,decide_eq_true_eq] at h
 rw [qAl];omega
theorem qPa {s:ByteArray} (h:qDj s 200=true):Gd (s.toList,false,[]):=⟨by have:=qLr h;simp only;omega,by simp,fun x hx=>by cases hx⟩
theorem qLs {l:List Nd} (h:∀x∈l,qKr x):∀c∈l,(kd c).length≤140737488351232∧c.2.2.2.2.1.size≤140737488351232:=fun c hc=>by
 have:=h c hc
 exact ⟨by have:=this.1;omega,by have:=this.2;omega⟩
theorem qJL (s:ByteArray) (hb:s.size≤140737488351232):Ev (qDz · s) ((qE7 s).1.map qV,(qE7 s).2):=by
 obtain ⟨n1,h1⟩:=qIW s 200 hb
 by_cases hp:qDj s 200=true
 ·have hl:=qLr hp
  have htb:=qy s.toList
  have hg:=qPa hp
  obtain ⟨n2,h2⟩:=qEk 4050 (.bin 1 0) (s.toList,false,[]) (by show 20*(tb s.toList).length+6≤4050;omega) ⟨by decide,by decide⟩ hg trivial
  have g:=(qEZ 4050 (.bin 1 0) (s.toList,false,[]) hg trivial).1
  have e0:(pP 4050 (.bin 1 0) (s.toList,false,[])).2=qKx s:=rfl
  rw [e0] at g
  generalize pP 4050 (.bin 1 0) (s.toList,false,[])=P at h2 e0
  rw [qF2] at h2
  unfold qE7
  rw [←e0] at g⊢
  obtain ⟨n3,h3⟩:=qGL P.2.1 P.2.2.2.length P.2.2.1 (P.2.2.2.map qV)
  obtain ⟨n4,h4⟩:=qES P.2.2.2 (by have:=g.n;omega) (qLs g.s)
  refine ⟨n1+n2+n3+n4+1,fun n hn=>?_⟩
  obtain ⟨k,rfl,hm⟩:=up1 hn
  have h1:=h1 k (by omega)
  rw [hp] at h1
  refine qA h1 (qO rfl (qA (h2 k (by omega)) (qA (h3 k (by omega)) ?_)))
  by_cases hbad:P.2.2.1=true
  ·rw [if_neg (fun h=>by rw [hbad] at h;cases h.2.1)]
   exact qN hbad (qN rfl rfl)
  ·have hbad:P.2.2.1=false:=by rw [Bool.eq_false_iff];exact hbad
   refine qO hbad ?_
   by_cases hr:tb P.2.1= []
   ·refine qO (qL0 (by rw [beq_iff_eq,q9];show (BR (tb P.2.1)).toList= [];rw [qBB];exact hr)) (qN (decide_eq_true (by simp)) (qA (h4 k (by omega)) (qN (qE _) ?_)))
    cases ho:qDZ P.2.2.2 with
    |true=>
     rw [if_pos ⟨hp,hbad,hr,rfl⟩]
     exact qO rfl (qN (decide_eq_true (by simp)) rfl)
    |false=>
     rw [if_neg (fun h=>by cases h.2.2.2)]
     exact qN rfl (qN rfl rfl)
   ·rw [if_neg (fun h=>hr h.2.2.1)]
    exact qN (qHC (by rw [beq_eq_false_iff_ne,q9];show (BR (tb P.2.1)).toList≠ [];rw [qBB];exact hr)) (qN rfl rfl)
 ·refine ⟨n1+1,fun n hn=>?_⟩
  obtain ⟨k,rfl,hm⟩:=up1 hn
  unfold qE7
  rw [if_neg (fun h=>hp h.1)]
  exact qA (h1 k (by omega)) (qN (qHC (by rw [Bool.eq_false_iff];exact hp)) (qN rfl rfl))
theorem qQM {l:List Nd} (h:∃x∈l,qB2 x=false):qDZ l=false:=by
 obtain ⟨x,hx,hb⟩:=h
 rw [Bool.eq_false_iff]
 intro ho
 unfold qDZ at ho
 simp only [Bool.and_eq_true] at ho
 obtain ⟨i,hi⟩:=List.mem_iff_getElem?.1 hx
 have hil:=(List.getElem?_eq_some_iff.1 hi).1
 have:=(qE2.1 ho.2.1 (i:Int) (by omega) (by omega)).1
 unfold qFS at this
 have e:ndi l (i:Int)=x:=by unfold ndi;simp [hi]
 rw [e,hb] at this
 cases this
theorem qIm (s:ByteArray) (hb:s.size≤140737488351232):Ev (qDv · s) ((qE7 s).1.length,(qE7 s).2,(qE7 s).1.map qV):=by
 obtain ⟨n1,h1⟩:=qHu s hb
 by_cases hp:qDj s 200=true
 ·have hl:=qLr hp
  have hs:s.toList.length≤1000:=by omega
  have htb:=qy s.toList
  have hg:=qPa hp
  have gi:=(qEZ 4050 (.bin 1 0) (s.toList,false,[]) hg trivial).1
  have sim:=(qRM qQL (tb s.toList).length).2.2.1 (s.toList,false,[]) (s.toList,false,[]) 0 4 4050 4050 (by omega) ⟨rfl,rfl,rfl,rfl⟩ rfl (by omega) (by omega) (by omega) (by omega)
  rw [show (5:Int)-((4:Nat):Int)=1 from rfl] at sim
  have iv:Iv s.toList (s.toList,false,[]):=⟨List.suffix_rfl,by simp;omega⟩
  obtain ⟨n2,h2⟩:=qEl qQL hs 4050 (.row 1) (s.toList,false,[]) ⟨by simp only;omega,by omega,by omega⟩ iv trivial
  have g:=qEa qQL 4050 (.row 1) (s.toList,false,[]) hs trivial
  have e0:(pP 4050 (.bin 1 0) (s.toList,false,[])).2=qKx s:=rfl
  generalize pP 4050 (.bin 1 0) (s.toList,false,[])=P at sim e0 gi
  generalize sP 4050 (.row 1) (s.toList,false,[])=Q at sim h2 g
  unfold qE7
  rw [←e0]
  obtain ⟨n3,h3⟩:=qOb hs Q.2 (iv.go g).1
  obtain ⟨n4,h4⟩:=qER Q.2.2.2 (qLs (g.sm (fun x hx=>by cases hx)))
  have p0:pos s.toList s.toList=0:=by unfold pos;simp
  simp only [qF2,p0] at h2 h3
  have g2:=(qPZ (iv.go g).1)
  refine ⟨n1+n2+n3+n4+1,fun n hn=>?_⟩
  obtain ⟨k,rfl,hm⟩:=up1 hn
  have h1:=h1 k (by omega)
  rw [hp] at h1
  have h2:=h2 k (by omega)
  have h3:=h3 k (by omega)
  have e1:qCI s.toList Q=(Q.1,s,pos s.toList Q.2.1,Q.2.2.1,Q.2.2.2.length,Q.2.2.2.map qV):=by unfold qCI qCc;rw [qF2]
  have e2:qCc s.toList (tb Q.2.1,Q.2.2)=(s,pos s.toList (tb Q.2.1),Q.2.2.1,Q.2.2.2.length,Q.2.2.2.map qV):=by unfold qCc;rw [qF2]
  rw [e1] at h2
  rw [e2] at h3
  refine qA h1 (qO rfl (qA h2 (qA h3 ?_)))
  rcases sim with ⟨_,hk,_⟩|⟨hbad,hd⟩
  ·obtain ⟨k1,k2,k3,k4⟩:=hk
   rw [k1,k3,k4]
   refine qO k2 ?_
   by_cases hr:tb Q.2.1= []
   ·refine qO (decide_eq_false (show ¬pos s.toList (tb Q.2.1)<(s.size:Int) by rw [hr];unfold pos;simp [qAl])) (qN (decide_eq_true (by simp)) (qA (h4 k (by omega)) (qN (qE _) ?_)))
    cases ho:qDZ Q.2.2.2 with
    |true=>
     rw [if_pos ⟨hp,rfl,hr,rfl⟩]
     exact qO rfl rfl
    |false=>
     rw [if_neg (fun h=>by cases h.2.2.2)]
     exact qN rfl rfl
   ·rw [if_neg (fun h=>hr h.2.2.1)]
    have hlp:=List.length_pos_iff.2 hr
    have hsl:=qC3 g2
    exact qN (decide_eq_true (show pos s.toList (tb Q.2.1)<(s.size:Int) by rw [qAl] at hsl;unfold pos;rw [qAl];omega)) rfl
  ·rw [if_neg (fun h=>by
    rcases hd with hd|hd
    ·rw [hd] at h;cases h.2.1
    ·rw [qQM hd] at h;cases h.2.2.2)]
   exact qN hbad rfl
 ·refine ⟨n1+1,fun n hn=>?_⟩
  obtain ⟨k,rfl,hm⟩:=up1 hn
  unfold qE7
  rw [if_neg (fun h=>hp h.1)]
  exact qA (h1 k (by omega)) (qN (qHC (by rw [Bool.eq_false_iff];exact hp)) rfl)
theorem qQq (s:ByteArray):(qE7 s).1.length≤60∧∀x∈(qE7 s).1,qKr x:=by
 unfold qE7
 split
 ·rename_i h
  have g:=(qEZ 4050 (.bin 1 0) (s.toList,false,[]) (qPa h.1) trivial).1
  exact ⟨g.n,g.s⟩
 ·exact ⟨by simp,fun x hx=>by cases hx⟩
theorem qNF (l:List Nd):(qFN l).size≤200:=by
 unfold qFN
 split
 ·split
  ·decide
  ·omega
 ·decide
theorem qRf {s:ByteArray} (h:s.toList≠ []):(s.toList==(⟨#[]⟩:ByteArray).toList)=false:=by rw [q9];exact beq_eq_false_iff_ne.2 h
theorem qSF {s:ByteArray} (h:s.toList= []):(s.toList==(⟨#[]⟩:ByteArray).toList)=true:=by rw [q9];exact beq_iff_eq.2 h
theorem qQr {s:ByteArray} (h:(qh s).2.2.2=true):okV (qh s).1 (qh s).2.1 (qh s).2.2.1=true∧(qAA (qh s).1 (qh s).2.1 (qh s).2.2.1)=s:=by
 unfold qh at h⊢
 split at h
 ·rename_i hc
  rw [if_pos hc]
  exact ⟨hc.1,qDL hc.2⟩
 ·cases h
theorem qKy {r:List UInt8} (h:r.head?≠some 32):tb r=r:=by
 cases r with
 |nil=>rfl
 |cons c t=>
  have:¬c=32:=fun e=>h (by rw [e];rfl)
  simp [tb,this]
theorem qOe {w r:List UInt8} (h:w.all wch=true) (h2:∀c,r.head?=some c→wch c=false):wd (w++r)=w∧wr (w++r)=r:=by
 unfold wd wr
 rw [List.all_eq_true] at h
 rw [List.takeWhile_append_of_pos h,List.dropWhile_append_of_pos h]
 cases r with
 |nil=>simp
 |cons c r=>simp [h2 c rfl]
def Fo (r:List UInt8):Prop:=∀c,r.head?=some c→c∈([38,43,45,42,47,60,61,62,41,44]:List UInt8)
theorem qQs:Fo []:=fun c h=>by cases h
theorem qCb {c:UInt8} {r:List UInt8} (h:c∈([38,43,45,42,47,60,61,62,41,44]:List UInt8)):Fo (c::r):=fun d hd=>by
 simp at hd;subst hd;exact h
theorem qJ5 {r:List UInt8} (h:Fo r):∀c,r.head?=some c→wch c=false:=fun c hc=>by
 have:=h c hc
 revert this
 simp only [List.mem_cons,List.not_mem_nil,or_false]
 rintro (rfl|rfl|rfl|rfl|rfl|rfl|rfl|rfl|rfl|rfl)<;>decide
theorem qP2 {r:List UInt8} (h:Fo r) {d:UInt8} (hd:d∉([38,43,45,42,47,60,61,62,41,44]:List UInt8)):r.head?≠some d:=fun e=>hd (h d e)
theorem qP3 {r:List UInt8} (h:Fo r):tb r=r:=qKy (qP2 h (by decide))
theorem qOf:∀(b acc r:List UInt8),r.head?≠some 34→qBh acc (qAZ b++34::r)=some (acc++b,r)
 | [],acc,r,h=>by simp only [qAZ,List.flatMap_nil,List.nil_append,List.append_nil];exact qRO acc r h
 |c::b,acc,r,h=>by
  rw [qD0]
  by_cases hc:c=34
  ·subst hc
   rw [if_pos rfl]
   show qBh acc (34::34::(qAZ b++34::r))=_
   rw [qRN,qOf b _ r h]
   simp
  ·rw [if_neg hc]
   show qBh acc (c::(qAZ b++34::r))=_
   rw [qRP _ _ hc,qOf b _ r h]
   simp
def Sta (r:List UInt8):Prop:=∃c,r.head?=some c∧(wch c=true∨c=45∨c=40∨c=34∨c=35)
theorem qOg {r:List UInt8} (h:Sta r) {d:UInt8} (h1:wch d=false) (h2:d≠45∧d≠40∧d≠34∧d≠35):r.head?≠some d:=fun e=>by
 obtain ⟨c,hc,hw⟩:=h
 rw [e] at hc
 cases hc
 rcases hw with hw|rfl|rfl|rfl|rfl
 ·rw [h1] at hw;cases hw
 ·exact h2.1 rfl
 ·exact h2.2.1 rfl
 ·exact h2.2.2.1 rfl
 ·exact h2.2.2.2 rfl
theorem qPb {r:List UInt8} (h:Sta r):tb r=r:=qKy (qOg h (by decide) (by decide))
theorem qHf {r:List UInt8} (h:Sta r) (x:List UInt8):Sta (r++x):=by
 obtain ⟨c,hc,hw⟩:=h
 cases r with
 |nil=>cases hc
 |cons d t=>exact ⟨c,hc,hw⟩
theorem qPD {op:Int} (ho:1≤op∧op≤11) {x:List UInt8} (hx:Sta x):sgn ((qj op).toList++x)=(qj op).toList:=by
 have n61:x.head?≠some 61:=qOg hx (by decide) (by decide)
 have n62:x.head?≠some 62:=qOg hx (by decide) (by decide)
 have c:op=1∨op=2∨op=3∨op=4∨op=5∨op=6∨op=7∨op=8∨op=9∨op=10∨op=11:=by omega
 rcases c with rfl|rfl|rfl|rfl|rfl|rfl|rfl|rfl|rfl|rfl|rfl
 ·rw [sg1];exact (qET 43 x (by decide) (by decide)).trans (by decide)
 ·rw [sg2];exact (qET 45 x (by decide) (by decide)).trans (by decide)
 ·rw [sg3];exact (qET 42 x (by decide) (by decide)).trans (by decide)
 ·rw [sg4];exact (qET 47 x (by decide) (by decide)).trans (by decide)
 ·rw [sg5];exact (qET 38 x (by decide) (by decide)).trans (by decide)
 ·rw [sg6];exact (qET 61 x (by decide) (by decide)).trans (by decide)
 ·rw [sg7];exact (qIg (62::x)).trans (by simp)
 ·rw [sg8];exact (qIg x).trans (by rw [if_neg n62,if_neg n61])
 ·rw [sg9];exact (qIg (61::x)).trans (by simp)
 ·rw [qPU];exact (qLi x).trans (by rw [if_neg n61])
 ·rw [qPV];exact (qLi (61::x)).trans (by simp)
theorem qN8 {op:Int} (ho:1≤op∧op≤11) {r:List UInt8} (h:sgn r=(qj op).toList):qAN r=op:=by
 unfold qAN
 rw [h]
 have c:op=1∨op=2∨op=3∨op=4∨op=5∨op=6∨op=7∨op=8∨op=9∨op=10∨op=11:=by omega
 rcases c with rfl|rfl|rfl|rfl|rfl|rfl|rfl|rfl|rfl|rfl|rfl<;>decide+kernel
theorem qOh {op:Int} (ho:1≤op∧op≤11) (x:List UInt8):Fo ((qj op).toList++x):=by
 have c:op=1∨op=2∨op=3∨op=4∨op=5∨op=6∨op=7∨op=8∨op=9∨op=10∨op=11:=by omega
 rcases c with rfl|rfl|rfl|rfl|rfl|rfl|rfl|rfl|rfl|rfl|rfl
 ·rw [sg1];exact qCb (by decide)
 ·rw [sg2];exact qCb (by decide)
 ·rw [sg3];exact qCb (by decide)
 ·rw [sg4];exact qCb (by decide)
 ·rw [sg5];exact qCb (by decide)
 ·rw [sg6];exact qCb (by decide)
 ·rw [sg7];exact qCb (by decide)
 ·rw [sg8];exact qCb (by decide)
 ·rw [sg9];exact qCb (by decide)
 ·rw [qPU];exact qCb (by decide)
 ·rw [qPV];exact qCb (by decide)
theorem qQt {op:Int} (ho:1≤op∧op≤11):1≤(qj op).toList.length:=by
 have c:op=1∨op=2∨op=3∨op=4∨op=5∨op=6∨op=7∨op=8∨op=9∨op=10∨op=11:=by omega
 rcases c with rfl|rfl|rfl|rfl|rfl|rfl|rfl|rfl|rfl|rfl|rfl<;>decide+kernel
theorem qOi (x:List UInt8):qAN (41::x)=0:=by
 unfold qAN
 rw [qET 41 x (by decide) (by decide)]
 decide
theorem qRV (x:List UInt8):qAN (44::x)=0:=by
 unfold qAN
 rw [qET 44 x (by decide) (by decide)]
 decide
theorem qPE:qAN []=0:=by decide
theorem qOj {c:UInt8} (hc:c∈([45,40,41,44,58]:List UInt8)) {p:PS} (h:(tb p.1).head?≠some c):qX [c] p=(false,tb p.1,p.2):=by
 unfold qX
 rw [if_neg]
 intro e
 exact h ((qDr c _).1 ((qPt hc _).1 e))
theorem qIn {c:UInt8} (hc:c∈([45,40,41,44,58]:List UInt8)) {r:List UInt8} (h32:c≠32) (b:Bool) (l:List Nd):qX [c] (c::r,b,l)=(true,r,b,l):=by
 have t:tb (c::r)=c::r:=qKy (by simpa using h32)
 unfold qX
 simp only [t]
 rw [if_pos ((qPt hc _).2 ((qDr c _).2 rfl))]
 rfl
theorem qRu {n:Int} (hn:1≤n∧n≤5) (r:List UInt8):qGK ((qZ n).toList++r) 1 5=some n:=by
 have t1:(qZ 1).toList= [35,68,73,86,33]:=by rw [Go.Lib.toList_data];rfl
 have t2:(qZ 2).toList= [35,84,89,80,69,33]:=by rw [Go.Lib.toList_data];rfl
 have t3:(qZ 3).toList= [35,82,69,70,33]:=by rw [Go.Lib.toList_data];rfl
 have t4:(qZ 4).toList= [35,79,86,69,82,33]:=by rw [Go.Lib.toList_data];rfl
 have t5:(qZ 5).toList= [35,67,89,67,76,69,33]:=by rw [Go.Lib.toList_data];rfl
 have a2:(1:Int)+1=2:=rfl
 have a3:(2:Int)+1=3:=rfl
 have a4:(3:Int)+1=4:=rfl
 have a5:(4:Int)+1=5:=rfl
 simp only [qGK,a2,a3,a4,a5]
 have c:n=1∨n=2∨n=3∨n=4∨n=5:=by omega
 rcases c with rfl|rfl|rfl|rfl|rfl<;>simp [t1,t2,t3,t4,t5,List.isPrefixOf]
theorem qFD (a b:ByteArray):(a++b).toList=a.toList++b.toList:=by rw [Go.Lib.toList_data,qC2,Go.Lib.toList_data,Go.Lib.toList_data]
theorem qKz {a b:Int} {f g:Bool} (h:zP a b f g=true):a=0∧b=0∧f=false∧g=false:=by
 unfold zP at h
 simp only [Bool.and_eq_true,decide_eq_true_eq,Bool.not_eq_true'] at h
 exact ⟨h.1,h.2.1,h.2.2.1,h.2.2.2⟩
theorem qPF {k x:Int} {s:ByteArray} (h:zV k x s=true):k=0∧x=0∧s=em:=by
 unfold zV at h
 simp only [Bool.and_eq_true,decide_eq_true_eq,beq_iff_eq] at h
 exact ⟨h.1,h.2.1,qDL (h.2.2.trans q9.symm)⟩
theorem qPc {l:List Int} (h:decide (l.length=0)=true):l= []:=List.length_eq_zero_iff.1 (of_decide_eq_true h)
theorem qQu {c:Nd} (h:qB2 c=true) (k:c.1=1):c=nd1 (c.2.2.1,c.2.2.2.1,c.2.2.2.2.1)∧okV c.2.2.1 c.2.2.2.1 c.2.2.2.2.1=true∧c.2.2.1≠0∧(c.2.2.1=1→0≤c.2.2.2.1):=by
 obtain ⟨k0,op,vk,vx,vs,a,b,fc,fr,a2,b2,fc2,fr2,ks⟩:=c
 simp only at k
 subst k
 unfold qB2 at h
 simp only [if_true,Bool.and_eq_true,decide_eq_true_eq,kd,Bool.not_eq_true',decide_eq_false_iff_not,Bool.or_eq_true] at h
 obtain ⟨h1,h2,h3,h4,h5,h6,h7⟩:=h
 obtain ⟨rfl,rfl,rfl,rfl⟩:=qKz h2
 obtain ⟨rfl,rfl,rfl,rfl⟩:=qKz h3
 have:=qPc h4
 subst this;subst h1
 refine ⟨rfl,h5,h6,fun e=>?_⟩
 rcases h7 with h7|h7
 ·exact absurd e h7
 ·exact h7
theorem qQv {c:Nd} (h:qB2 c=true) (k:c.1=2):c=ndC (c.2.2.2.2.2.1,c.2.2.2.2.2.2.1,c.2.2.2.2.2.2.2.1,c.2.2.2.2.2.2.2.2.1,true)∧qAw c.2.2.2.2.2.1 c.2.2.2.2.2.2.1=true:=by
 obtain ⟨k0,op,vk,vx,vs,a,b,fc,fr,a2,b2,fc2,fr2,ks⟩:=c
 simp only at k
 subst k
 unfold qB2 at h
 rw [if_neg (by simp),if_pos rfl] at h
 simp only [Bool.and_eq_true,decide_eq_true_eq,kd] at h
 obtain ⟨h1,h2,h3,h4,h5⟩:=h
 obtain ⟨rfl,rfl,rfl⟩:=qPF h2
 obtain ⟨rfl,rfl,rfl,rfl⟩:=qKz h3
 have:=qPc h4
 subst this;subst h1
 exact ⟨rfl,h5⟩
theorem qPd {c:Nd} (h:qB2 c=true) (k:c.1=3):c=ndA (c.2.2.2.2.2.1,c.2.2.2.2.2.2.1,c.2.2.2.2.2.2.2.1,c.2.2.2.2.2.2.2.2.1,true) (c.2.2.2.2.2.2.2.2.2.1,c.2.2.2.2.2.2.2.2.2.2.1,c.2.2.2.2.2.2.2.2.2.2.2.1,c.2.2.2.2.2.2.2.2.2.2.2.2.1,true)∧qEN c.2.2.2.2.2.1 c.2.2.2.2.2.2.1 c.2.2.2.2.2.2.2.2.2.1 c.2.2.2.2.2.2.2.2.2.2.1=true:=by
 obtain ⟨k0,op,vk,vx,vs,a,b,fc,fr,a2,b2,fc2,fr2,ks⟩:=c
 simp only at k
 subst k
 unfold qB2 at h
 rw [if_neg (by simp),if_neg (by simp),if_pos rfl] at h
 simp only [Bool.and_eq_true,decide_eq_true_eq,kd] at h
 obtain ⟨h1,h2,h4,h5⟩:=h
 obtain ⟨rfl,rfl,rfl⟩:=qPF h2
 have:=qPc h4
 subst this;subst h1
 exact ⟨rfl,h5⟩
theorem qQw {c:Nd} (h:qB2 c=true) (k:c.1=4):∃x,c=ndK 4 0 [x]:=by
 obtain ⟨k0,op,vk,vx,vs,a,b,fc,fr,a2,b2,fc2,fr2,ks⟩:=c
 simp only at k
 subst k
 unfold qB2 at h
 rw [if_neg (by simp),if_neg (by simp),if_neg (by simp),if_pos rfl] at h
 simp only [Bool.and_eq_true,decide_eq_true_eq,kd] at h
 obtain ⟨h1,h2,h3,h4,h5⟩:=h
 obtain ⟨rfl,rfl,rfl⟩:=qPF h2
 obtain ⟨rfl,rfl,rfl,rfl⟩:=qKz h3
 obtain ⟨rfl,rfl,rfl,rfl⟩:=qKz h4
 obtain ⟨x,rfl⟩:=List.length_eq_one_iff.1 (of_decide_eq_true h5)
 subst h1
 exact ⟨x,rfl⟩
theorem qQx {c:Nd} (h:qB2 c=true) (k:c.1=5):∃x y,c=ndK 5 c.2.1 [x,y]∧1≤c.2.1∧c.2.1≤11:=by
 obtain ⟨k0,op,vk,vx,vs,a,b,fc,fr,a2,b2,fc2,fr2,ks⟩:=c
 simp only at k
 subst k
 unfold qB2 at h
 rw [if_neg (by simp),if_neg (by simp),if_neg (by simp),if_neg (by simp),if_pos rfl] at h
 simp only [Bool.and_eq_true,decide_eq_true_eq,kd] at h
 obtain ⟨h1,h2,h3,h4,h5⟩:=h
 obtain ⟨rfl,rfl,rfl⟩:=qPF h2
 obtain ⟨rfl,rfl,rfl,rfl⟩:=qKz h3
 obtain ⟨rfl,rfl,rfl,rfl⟩:=qKz h4
 obtain ⟨x,y,rfl⟩:∃x y,ks= [x,y]:=by
  match ks,of_decide_eq_true h5 with
  | [x,y],_=>exact ⟨x,y,rfl⟩
 exact ⟨x,y,rfl,h1⟩
theorem qQy {c:Nd} (h:qB2 c=true) (k:c.1=6):c=ndK 6 c.2.1 (kd c)∧qFL c.2.1 ((kd c).length:Int)=true:=by
 obtain ⟨k0,op,vk,vx,vs,a,b,fc,fr,a2,b2,fc2,fr2,ks⟩:=c
 simp only at k
 subst k
 unfold qB2 at h
 rw [if_neg (by simp),if_neg (by simp),if_neg (by simp),if_neg (by simp),if_neg (by simp),if_pos rfl] at h
 simp only [Bool.and_eq_true,kd] at h
 obtain ⟨h1,h2,h3,h4⟩:=h
 obtain ⟨rfl,rfl,rfl⟩:=qPF h2
 obtain ⟨rfl,rfl,rfl,rfl⟩:=qKz h3
 obtain ⟨rfl,rfl,rfl,rfl⟩:=qKz h4
 exact ⟨rfl,h1⟩
theorem qN9 {c r:Int} {fc fr:Bool} (h:qAw c r=true):(qAO c r fc fr).toList=(if fc=true then [36] else [])++((qBW c).data.toList++((if fr=true then [36] else [])++Lib.itoa r)):=by
 rw [Go.Lib.toList_data]
 simp [qAO,h,qEX]
theorem qRv {c:UInt8} (h:qD7 c=true):wch c=true:=by
 simp only [qD7,Bool.and_eq_true,decide_eq_true_eq] at h
 unfold wch
 simp only [Bool.or_eq_true,Bool.and_eq_true,decide_eq_true_eq]
 exact .inl h
theorem qMT {c:UInt8} (h:qB1 c=true):wch c=true:=by
 simp only [qB1,Bool.and_eq_true,decide_eq_true_eq] at h
 unfold wch
 simp only [Bool.or_eq_true,Bool.and_eq_true,decide_eq_true_eq]
 exact .inr (.inl h)
theorem qIo {x:Int} (h:0≤x):(Lib.itoa x).all qB1=true∧Lib.itoa x≠ []:=by
 unfold Lib.itoa
 rw [if_neg (by omega)]
 obtain ⟨h1,_,h3,_,_⟩:=qD3 x.toNat
 exact ⟨h1,h3⟩
theorem qEu {p q:UInt8→Bool} {l:List UInt8} (h:∀c,p c=true→q c=true) (hl:l.all p=true):l.all q=true:=by
 rw [List.all_eq_true] at hl⊢
 exact fun x hx=>h x (hl x hx)
theorem qEm {c r:Int} {fc fr:Bool} (h:qAw c r=true):(qAO c r fc fr).toList.all wch=true∧(qAO c r fc fr).toList≠ []:=by
 obtain ⟨hc,hr⟩:=qEO h
 obtain ⟨u1,u2,u3⟩:=qOT hc
 rw [qN9 h]
 obtain ⟨d1,d2⟩:=qIo (x:=r) (by omega)
 refine ⟨?_,by simp [u3]⟩
 simp only [List.all_append,Bool.and_eq_true]
 refine ⟨?_,qEu (fun _=>qRv) u1,?_,qEu (fun _=>qMT) d1⟩
 ·split<;>decide
 ·split<;>decide
theorem qQN {c r:Int} {fc fr:Bool} (h:qAw c r=true):¬((qh (qAO c r fc fr)).2.2.2=true∧((qh (qAO c r fc fr)).1=1∨(qh (qAO c r fc fr)).1=3)):=by
 rintro ⟨ho,hk⟩
 obtain ⟨hc,hr⟩:=qEO h
 obtain ⟨u1,u2,u3⟩:=qOT hc
 obtain ⟨d1,d2⟩:=qIo (x:=r) (by omega)
 obtain ⟨v1,v2⟩:=qQr ho
 have e:=congrArg ByteArray.toList v2
 rw [qN9 h] at e
 generalize qh (qAO c r fc fr)=v at*
 obtain ⟨a,t,hat⟩:∃a t,(qBW c).data.toList=a::t:=by
  cases hq:(qBW c).data.toList with
  |nil=>exact absurd hq u3
  |cons a t=>exact ⟨a,t,rfl⟩
 obtain ⟨d,t',hdt⟩:∃d t',Lib.itoa r=d::t':=by
  cases hq:Lib.itoa r with
  |nil=>exact absurd hq d2
  |cons a t=>exact ⟨a,t,rfl⟩
 have ma:a∈(qAA v.1 v.2.1 v.2.2.1).toList:=by rw [e,hat];simp
 have md:d∈(qAA v.1 v.2.1 v.2.2.1).toList:=by rw [e,hdt];simp
 have ua:qD7 a=true:=by rw [hat,List.all_cons,Bool.and_eq_true] at u1;exact u1.1
 have dd:qB1 d=true:=by rw [hdt,List.all_cons,Bool.and_eq_true] at d1;exact d1.1
 simp only [qD7,Bool.and_eq_true,decide_eq_true_eq] at ua
 simp only [qB1,Bool.and_eq_true,decide_eq_true_eq] at dd
 rcases hk with hk|hk
 ·rw [hk] at ma
  have ht:(qAA 1 v.2.1 v.2.2.1).toList=Lib.itoa v.2.1:=by rw [Go.Lib.toList_data];simp [qAA,qEX]
  rw [ht] at ma
  unfold Lib.itoa at ma
  split at ma
  ·rcases List.mem_cons.1 ma with rfl|ma
   ·exact absurd ua.1 (by decide)
   ·have:=(qD3 v.2.1.natAbs).1
    rw [List.all_eq_true] at this
    have:=this a ma
    simp only [qB1,Bool.and_eq_true,decide_eq_true_eq] at this
    omega
  ·have:=(qD3 v.2.1.toNat).1
   rw [List.all_eq_true] at this
   have:=this a ma
   simp only [qB1,Bool.and_eq_true,decide_eq_true_eq] at this
   omega
 ·rw [hk] at md v1
  have hs:=qGi v1 (by decide)
  rw [hs] at v1 md
  have hr:=qNi v1
  have c01:v.2.1=0∨v.2.1=1:=by omega
  rcases c01 with e0|e0
  ·rw [e0] at md
   have ht:(qAA 3 0 em).toList= [70,65,76,83,69]:=by rw [Go.Lib.toList_data];rfl
   rw [ht] at md
   simp only [List.mem_cons,List.not_mem_nil,or_false] at md
   rcases md with rfl|rfl|rfl|rfl|rfl<;>exact absurd dd (by decide)
  ·rw [e0] at md
   have ht:(qAA 3 1 em).toList= [84,82,85,69]:=by rw [Go.Lib.toList_data];rfl
   rw [ht] at md
   simp only [List.mem_cons,List.not_mem_nil,or_false] at md
   rcases md with rfl|rfl|rfl|rfl<;>exact absurd dd (by decide)
theorem qEV {l:List Nd} (hl:l.length≤60) {i:Int} (hi:0≤i∧i<l.length) (r:List UInt8) {x:Nd} (hx:ndi l i=x):qCt x (r,false,l.take i.toNat)=(i,r,false,l.take (i.toNat+1)):=by
 have hlen:(l.take i.toNat).length=i.toNat:=by rw [List.length_take];omega
 unfold qCt
 rw [if_neg]
 ·simp only [hlen]
  have hg:=qCY (l:=l) (i:=i) ⟨hi.1,hi.2⟩
  rw [hx] at hg
  rw [List.take_add_one,hg]
  refine Prod.ext (by simp only;omega) rfl
 ·simp only [hlen]
  rintro (h|h)
  ·cases h
  ·omega
theorem qP4 {f:Nat} {deep:Int} {x:List UInt8} {l:List Nd} (hd:deep≤400) (h32:x.head?≠some 32) (h45:x.head?≠some 45):pP (f+1) (.un deep) (x,false,l)=pP f (.at deep) (x,false,l):=by
 have t:=qKy h32
 have tk:=qOj (c:=45) (by decide) (p:=(x,false,l)) (by simp only;rw [t];exact h45)
 simp only [t] at tk
 conv=>lhs;unfold pP
 rw [if_neg (fun h=>h.elim (by omega) (by simp)),tk]
 simp
theorem qRW {f:Nat} {deep:Int} {w r:List UInt8} {l:List Nd} (hw:w.all wch=true) (hn:w≠ []) (hr:∀c,r.head?=some c→wch c=false):pP (f+1) (.at deep) (w++r,false,l)=qKu f deep w (r,false,l):=by
 obtain ⟨c,t,rfl⟩:∃c t,w=c::t:=by
  cases w with
  |nil=>exact absurd rfl hn
  |cons c t=>exact ⟨c,t,rfl⟩
 have wc:wch c=true:=by rw [List.all_cons,Bool.and_eq_true] at hw;exact hw.1
 have ne:∀d:UInt8,wch d=false→((c::t)++r).head?≠some d:=fun d hd e=>by
  have:c=d:=by simpa using e
  rw [this,hd] at wc;cases wc
 have tt:tb ((c::t)++r)=(c::t)++r:=qKy (ne 32 (by decide))
 have tk:=qOj (c:=40) (by decide) (p:=((c::t)++r,false,l)) (by simp only;rw [tt];exact ne 40 (by decide))
 obtain ⟨e1,e2⟩:=qOe hw hr
 conv=>lhs;unfold pP
 simp only [tt,tk,e1,e2]
 rw [if_neg (ne 34 (by decide)),if_neg (ne 35 (by decide))]
 simp only
 rw [if_neg (fun h=>by cases h.2)]
 rfl
theorem qMU {f:Nat} {deep:Int} {w r:List UInt8} {l:List Nd} (hd:deep≤400) (hw:w.all wch=true) (hn:w≠ []) (hr:∀c,r.head?=some c→wch c=false):pP (f+2) (.un deep) (w++r,false,l)=qKu f deep w (r,false,l):=by
 have hs:Sta (w++r):=by
  cases w with
  |nil=>exact absurd rfl hn
  |cons c t=>
   rw [List.all_cons,Bool.and_eq_true] at hw
   exact ⟨c,rfl,.inl hw.1⟩
 have h45:(w++r).head?≠some 45:=by
  cases w with
  |nil=>exact absurd rfl hn
  |cons c t=>
   rw [List.all_cons,Bool.and_eq_true] at hw
   intro e
   have:c=45:=by simpa using e
   rw [this] at hw
   exact absurd hw.1 (by decide)
 rw [qP4 hd (qOg hs (by decide) (by decide)) h45,qRW hw hn hr]
theorem qNG {x:Int} (h:0≤x∧x≤1):(qAA 3 x em).toList.all wch=true∧(qAA 3 x em).toList≠ []:=by
 have c01:x=0∨x=1:=by omega
 rcases c01 with rfl|rfl
 ·have ht:(qAA 3 0 em).toList= [70,65,76,83,69]:=by rw [Go.Lib.toList_data];rfl
  rw [ht];exact ⟨by decide,by decide⟩
 ·have ht:(qAA 3 1 em).toList= [84,82,85,69]:=by rw [Go.Lib.toList_data];rfl
  rw [ht];exact ⟨by decide,by decide⟩
theorem qRw {l:List Nd} (hl:l.length≤60) {i:Int} (hi:0≤i∧i<l.length) {k x:Int} {s:ByteArray} (hx:ndi l i=nd1 (k,x,s)) (hv:okV k x s=true) (h0:k≠0) (h1:k=1→0≤x) {f:Nat} {deep:Int} {r:List UInt8} (hd:deep≤400) (hr:Fo r):
  pP (f+2) (.un deep) ((if k=2 then qDM s else qAA k x s).toList++r,false,l.take i.toNat)=(i,r,false,l.take (i.toNat+1)):=by
 have kc:=qPl hv
 rcases kc with rfl|rfl|rfl|rfl|rfl
 ·exact absurd rfl h0
 ·rw [if_neg (by decide)]
  have hs:=qGi hv (by decide)
  subst hs
  have ht:(qAA 1 x em).toList=Lib.itoa x:=by rw [Go.Lib.toList_data];simp [qAA,qEX]
  have rb:=qNq hv
  obtain ⟨d1,d2⟩:=qIo (h1 rfl)
  have e:BR (Lib.itoa x)=qAA 1 x em:=by rw [←ht,qF2]
  rw [ht,qMU hd (qEu (fun _=>qMT) d1) d2 (qJ5 hr)]
  unfold qKu
  rw [e,rb,if_pos ⟨rfl,.inl rfl⟩]
  exact qEV hl hi r hx
 ·rw [if_pos rfl]
  obtain ⟨rfl,_,_⟩:=qKX hv
  have ht:(qDM s).toList=34::qAZ s.toList++ [34]:=by unfold qDM;exact qAr _
  rw [ht]
  have e:(34::qAZ s.toList++ [34])++r=34::(qAZ s.toList++34::r):=by simp
  rw [e,qP4 hd (by simp) (by simp)]
  have tt:tb (34::(qAZ s.toList++34::r))=34::(qAZ s.toList++34::r):=qKy (by simp)
  have q:=qOf s.toList [] r (qP2 hr (by decide))
  conv=>lhs;unfold pP
  simp only [tt]
  rw [if_pos (show (34::(qAZ s.toList++34::r)).head?=some 34 from rfl),List.tail_cons,q]
  simp only [List.nil_append,qF2]
  exact qEV hl hi r hx
 ·rw [if_neg (by decide)]
  have hs:=qGi hv (by decide)
  subst hs
  have rb:=qNq hv
  obtain ⟨d1,d2⟩:=qNG (qNi hv)
  rw [qMU hd d1 d2 (qJ5 hr)]
  unfold qKu
  rw [qF2,rb,if_pos ⟨rfl,.inr rfl⟩]
  exact qEV hl hi r hx
 ·rw [if_neg (by decide)]
  have hs:=qGi hv (by decide)
  subst hs
  have hn:=qNj hv
  have hx2:qAA 4 x em=qZ x:=rfl
  rw [hx2]
  obtain ⟨t,ht⟩:=qQL.n x hn
  have hh:((qZ x).toList++r).head?=some 35:=by rw [ht];rfl
  rw [qP4 hd (by rw [hh];decide) (by rw [hh];decide)]
  have tt:tb ((qZ x).toList++r)=(qZ x).toList++r:=qKy (by rw [hh];decide)
  have ea:=qRu hn r
  have ed:((qZ x).toList++r).drop (qZ x).size=r:=by rw [←qAl];exact List.drop_left
  conv=>lhs;unfold pP
  simp only [tt]
  rw [if_neg (by rw [hh];decide),if_pos hh,ea]
  simp only [ed]
  exact qEV hl hi r hx
theorem qRX {l:List Nd} (hl:l.length≤60) {i:Int} (hi:0≤i∧i<l.length) {c w:Int} {fc fr:Bool} (hx:ndi l i=ndC (c,w,fc,fr,true)) (ho:qAw c w=true) {f:Nat} {deep:Int} {r:List UInt8} (hd:deep≤400) (hr:Fo r):
  pP (f+2) (.un deep) ((qAO c w fc fr).toList++r,false,l.take i.toNat)=(i,r,false,l.take (i.toNat+1)):=by
 obtain ⟨d1,d2⟩:=qEm (fc:=fc) (fr:=fr) ho
 rw [qMU hd d1 d2 (qJ5 hr)]
 unfold qKu
 rw [qF2,if_neg (qQN ho),qJ2 ho,if_pos rfl]
 exact qEV hl hi r hx
def lo (l:List Nd) (i:Int):Int:=qBg (qR l) (i.toNat+1) i
def qL2 (l:List Nd):Int→List Int→Int→Prop
 |s,[],e=>s=e
 |s,k::r,e=>lo l k=s∧qL2 l (k+1) r e
theorem qNH {l:List Nd}:∀{ks:List Int} {s m k e:Int},qL2 l s ks m→lo l k=m→k+1=e→qL2 l s (ks++ [k]) e
 | [],s,m,k,e,h,h1,h2=>by
  have h:s=m:=h
  subst h
  exact ⟨h1,h2⟩
 |a::ks,s,m,k,e,h,h1,h2=>⟨h.1,qNH h.2 h1 h2⟩
theorem qPG {l:List Nd} {F:Int→Int}:∀(ks:List Int) {e s:Int},(∀k∈ks,0≤k→F k=lo l k)→goT F ks (e-1)=s→0≤s→qL2 l s ks.reverse e
 | [],e,s,_,h,_=>by
  have h:e-1+1=s:=h
  show s=e
  omega
 |k::r,e,s,hF,h,h0=>by
  unfold goT at h
  split at h
  ·omega
  ·rename_i hc
   split at h
   ·omega
   ·have hk:k=e-1:=Classical.byContradiction fun h=>hc (.inr h)
    have h1:0≤k:=by omega
    have e1:=hF k (List.mem_cons_self ..) h1
    rw [←hk,e1] at h
    rw [List.reverse_cons]
    exact qNH (qPG r (fun k hk=>hF k (List.mem_cons_of_mem _ hk)) h h0) rfl (by omega)
theorem qNI {l:List Nd} (h:Fine l) {i:Int} (hi:0≤i∧i<l.length) (h0:0≤lo l i):qL2 l (lo l i) (qR l i) i:=by
 have:=qPG (l:=l) (F:=qBg (qR l) i.toNat) (qR l i).reverse (e:=i) (s:=lo l i) (fun k hk hk0=>by
  have hin:=(h.own i hi.1 hi.2).2 k (by simpa using hk)
  exact qOx (qR l) _ _ _ (by omega) (by omega) hk0) (by
  unfold lo
  rw [qBg]) h0
 rwa [List.reverse_reverse] at this
def tx (l:List Nd) (g:Nat) (i t:Int):List UInt8:=(qk l g i t).toList
def qFO (l:List Nd) (g:Nat):List Int→List UInt8
 | []=> []
 | [k]=>tx l g k 1
 |k::r=>tx l g k 1++44::qFO l g r
theorem qJ6 (l:List Nd) (g:Nat) (k k2:Int) (r:List Int):qFO l g (k::k2::r)=tx l g k 1++44::qFO l g (k2::r):=rfl
theorem qP5 (l:List Nd) (g:Nat):∀ks:List Int,(qIe (ks.map fun k=>qk l g k 1)).toList=qFO l g ks
 | []=>by unfold qIe;exact qAr _
 | [k]=>by
  unfold qIe
  rw [qAr]
  simp [Lib.join,qFO,tx,Go.Lib.toList_data]
 |k::k2::r=>by
  have ih:=qP5 l g (k2::r)
  unfold qIe at ih⊢
  rw [qAr] at ih⊢
  simp only [List.map_cons] at ih⊢
  rw [qJ6,←ih]
  simp [Lib.join,tx,Go.Lib.toList_data]
theorem qSG {l:List Nd} {g:Nat} {i t:Int} (h:(ndi l i).1=1):tx l (g+1) i t=(if (ndi l i).2.2.1=2 then qDM (ndi l i).2.2.2.2.1 else qAA (ndi l i).2.2.1 (ndi l i).2.2.2.1 (ndi l i).2.2.2.2.1).toList:=by
 unfold tx
 conv=>lhs;unfold qk
 rw [if_pos h]
theorem qSH {l:List Nd} {g:Nat} {i t:Int} (h:(ndi l i).1=2):tx l (g+1) i t=(qAO (ndi l i).2.2.2.2.2.1 (ndi l i).2.2.2.2.2.2.1 (ndi l i).2.2.2.2.2.2.2.1 (ndi l i).2.2.2.2.2.2.2.2.1).toList:=by
 unfold tx
 conv=>lhs;unfold qk
 rw [if_neg (by rw [h];decide),if_pos h]
theorem qSI {l:List Nd} {g:Nat} {i t:Int} (h:(ndi l i).1=3):tx l (g+1) i t=(qAO (ndi l i).2.2.2.2.2.1 (ndi l i).2.2.2.2.2.2.1 (ndi l i).2.2.2.2.2.2.2.1 (ndi l i).2.2.2.2.2.2.2.2.1).toList++58::(qAO (ndi l i).2.2.2.2.2.2.2.2.2.1 (ndi l i).2.2.2.2.2.2.2.2.2.2.1 (ndi l i).2.2.2.2.2.2.2.2.2.2.2.1 (ndi l i).2.2.2.2.2.2.2.2.2.2.2.2.1).toList:=by
 unfold tx
 conv=>lhs;unfold qk
 rw [if_neg (by rw [h];decide),if_neg (by rw [h];decide),if_pos h,qFD,qFD]
 simp [Go.Lib.toList_data]
theorem qSJ {l:List Nd} {g:Nat} {i t:Int} {k:Int} (h:ndi l i=ndK 4 0 [k]):tx l (g+1) i t=45::tx l g k 5:=by
 unfold tx
 conv=>lhs;unfold qk
 rw [h,show (ndK 4 0 [k]).1=4 from rfl,if_neg (by decide),if_neg (by decide),if_neg (by decide),if_pos rfl,qFD]
 simp [Go.Lib.toList_data,kid,kd,ndK]
theorem qSK {l:List Nd} {g:Nat} {i t:Int} {op k0 k1:Int} (h:ndi l i=ndK 5 op [k0,k1]):tx l (g+1) i t=if lvl op<t then 40::(tx l g k0 (lvl op)++((qj op).toList++tx l g k1 (lvl op+1)))++ [41] else tx l g k0 (lvl op)++((qj op).toList++tx l g k1 (lvl op+1)):=by
 unfold tx
 conv=>lhs;unfold qk
 rw [h,show (ndK 5 op [k0,k1]).1=5 from rfl,if_neg (by decide),if_neg (by decide),if_neg (by decide),if_neg (by decide),if_pos rfl]
 have e0:kid (ndK 5 op [k0,k1]) 0=k0:=rfl
 have e1:kid (ndK 5 op [k0,k1]) 1=k1:=rfl
 have e2:(ndK 5 op [k0,k1]).2.1=op:=rfl
 rw [e0,e1,e2]
 unfold par
 by_cases hl:lvl op<t
 ·rw [if_pos (decide_eq_true hl),if_pos hl,qFD,qFD,qFD,qFD]
  simp [Go.Lib.toList_data]
 ·rw [if_neg (by simpa using hl),if_neg hl,qFD,qFD,List.append_assoc]
theorem qSL {l:List Nd} {g:Nat} {i t:Int} {op:Int} {ks:List Int} (h:ndi l i=ndK 6 op ks):tx l (g+1) i t=(fnS op).toList++40::(qFO l g ks++ [41]):=by
 unfold tx
 conv=>lhs;unfold qk
 have e:qR l i=ks:=by unfold qR;rw [h];rfl
 rw [e,h,show (ndK 6 op ks).1=6 from rfl,if_neg (by decide),if_neg (by decide),if_neg (by decide),if_neg (by decide),if_neg (by decide),qFD,qFD,qFD,qP5]
 have e2:(ndK 6 op ks).2.1=op:=rfl
 rw [e2]
 simp [Go.Lib.toList_data]
structure RT (l:List Nd) (g:Nat) (i:Int):Prop where
 s:∀t,Sta (tx l g i t)
 c:∀(t:Int) (r:List UInt8),Fo r→∀d:UInt8,(d=58∨d=32)→(wr (tx l g i t++r)).head?≠some d
 u:∀(r:List UInt8) (deep:Int) (f:Nat),Fo r→0≤deep→deep+g≤400→20*(tx l g i 5++r).length+4≤f→pP f (.un deep) (tx l g i 5++r,false,l.take (lo l i).toNat)=(i,r,false,l.take (i.toNat+1))
 b:∀(t t':Int) (r:List UInt8) (deep:Int) (f:Nat),1≤t→t≤t'→t'≤5→Fo r→(qAN r=0∨lvl (qAN r)≤t')→0≤deep→deep+g≤400→20*(tx l g i t'++r).length+6≤f→
  ∃f2,20*r.length+5≤f2∧pP f (.bin t deep) (tx l g i t'++r,false,l.take (lo l i).toNat)=pP f2 (.loop t deep i) (r,false,l.take (i.toNat+1))
theorem qQz (op:Int):1≤lvl op∧lvl op≤4:=qOX
theorem qNJ {l:List Nd} {g:Nat} {i:Int} (u:∀(r:List UInt8) (deep:Int) (f:Nat),Fo r→0≤deep→deep+g≤400→20*(tx l g i 5++r).length+4≤f→pP f (.un deep) (tx l g i 5++r,false,l.take (lo l i).toNat)=(i,r,false,l.take (i.toNat+1)))
  {t t':Int} (e:tx l g i t'=tx l g i 5) {r:List UInt8} {deep:Int} {f:Nat} (hr:Fo r) (h0:0≤deep) (hd:deep+g≤400) (hf:20*(tx l g i t'++r).length+6≤f):
  ∃f2,20*r.length+5≤f2∧pP f (.bin t deep) (tx l g i t'++r,false,l.take (lo l i).toNat)=pP f2 (.loop t deep i) (r,false,l.take (i.toNat+1)):=by
 obtain ⟨f,rfl⟩:∃f',f=f'+1:=⟨f-1,by omega⟩
 rw [e] at hf⊢
 refine ⟨f,by simp only [List.length_append] at hf;omega,?_⟩
 conv=>lhs;unfold pP
 rw [u r deep f hr h0 hd (by omega)]
theorem qK0 {f:Nat} {t deep a:Int} {r:List UInt8} {l:List Nd} (hr:Fo r) (h:qAN r=0∨lvl (qAN r)<t) (hf:1≤f):pP f (.loop t deep a) (r,false,l)=(a,r,false,l):=by
 obtain ⟨f,rfl⟩:∃f',f=f'+1:=⟨f-1,by omega⟩
 unfold pP
 simp only [qP3 hr]
 rw [if_neg (by simp),if_pos h]
theorem qRY {l:List Nd} (hl:l.length≤60) {g:Nat} {i k0 k1 op:Int} (hi:0≤i∧i<l.length) (hx:ndi l i=ndK 5 op [k0,k1]) (ho:1≤op∧op≤11) (R:RT l g k1) (h1:lo l k1=k0+1) (h2:k1+1=i) (hk0:0≤k0) (hk1:0≤k1)
  {t:Int} {r:List UInt8} {deep:Int} {f:Nat} (ht:t≤lvl op) (hr:Fo r) (hop:qAN r=0∨lvl (qAN r)≤lvl op) (h0:0≤deep) (hd:deep+g≤400) (hf:20*((qj op).toList++(tx l g k1 (lvl op+1)++r)).length+5≤f):
  ∃f2,20*r.length+5≤f2∧pP f (.loop t deep k0) ((qj op).toList++(tx l g k1 (lvl op+1)++r),false,l.take (k0.toNat+1))=pP f2 (.loop t deep i) (r,false,l.take (i.toNat+1)):=by
 obtain ⟨f,rfl⟩:∃f',f=f'+1:=⟨f-1,by omega⟩
 have lv:=qQz op
 have hs:=qHf (R.s (lvl op+1)) r
 have sg:=qPD ho hs
 have oa:=qN8 ho sg
 have tt:=qP3 (qOh ho (tx l g k1 (lvl op+1)++r))
 have sl:=qQt ho
 simp only [List.length_append] at hf
 obtain ⟨f2,q1,q2⟩:=R.b (lvl op+1) (lvl op+1) r deep f (by omega) (Int.le_refl _) (by omega) hr (by rcases hop with h|h;exact .inl h;exact .inr (by omega)) h0 hd (by simp only [List.length_append];omega)
 rw [qK0 hr (by rcases hop with h|h;exact .inl h;exact .inr (by omega)) (by omega)] at q2
 refine ⟨f,by omega,?_⟩
 conv=>lhs;unfold pP
 simp only [tt,oa,sg]
 rw [if_neg (by simp),if_neg (by omega)]
 have ed:((qj op).toList++(tx l g k1 (lvl op+1)++r)).drop (qj op).toList.length=tx l g k1 (lvl op+1)++r:=List.drop_left
 have el:(lo l k1).toNat=k0.toNat+1:=by omega
 rw [ed,←el,q2]
 have e2:k1.toNat+1=i.toNat:=by omega
 rw [e2,qEV hl hi r hx]
theorem qSM {c:UInt8} {x:List UInt8} (h:wch c=false):wr (c::x)=c::x:=by unfold wr;rw [List.dropWhile_cons,if_neg (by rw [h];simp)]
theorem qIw {w:List UInt8} (hw:w.all wch=true) (hn:w≠ []):Sta w∧∀r,(∀c,r.head?=some c→wch c=false)→∀d:UInt8,r.head?≠some d→(wr (w++r)).head?≠some d:=by
 refine ⟨?_,fun r h1 d h2=>by rw [(qOe hw h1).2];exact h2⟩
 cases w with
 |nil=>exact absurd rfl hn
 |cons c t=>
  rw [List.all_cons,Bool.and_eq_true] at hw
  exact ⟨c,rfl,.inl hw.1⟩
theorem qMV {c:UInt8} {w:List UInt8} (hc:c=45∨c=40∨c=34∨c=35):Sta (c::w)∧∀r:List UInt8,∀d:UInt8,(d=58∨d=32)→(wr ((c::w)++r)).head?≠some d:=by
 refine ⟨⟨c,rfl,.inr hc⟩,fun r d hd=>?_⟩
 have:wch c=false:=by rcases hc with rfl|rfl|rfl|rfl<;>decide
 rw [List.cons_append,qSM this]
 simp only [List.head?_cons]
 intro e
 have e:c=d:=by simpa using e
 subst e
 rcases hc with rfl|rfl|rfl|rfl<;>exact absurd hd (by decide)
theorem qQ0 {r:List UInt8} (h:Fo r) {d:UInt8} (hd:d=58∨d=32):r.head?≠some d:=by
 rcases hd with rfl|rfl
 ·exact qP2 h (by decide)
 ·exact qP2 h (by decide)
theorem qRx {k x:Int} {s:ByteArray} (hv:okV k x s=true) (h0:k≠0) (h1:k=1→0≤x):Sta (if k=2 then qDM s else qAA k x s).toList∧∀r,Fo r→∀d:UInt8,(d=58∨d=32)→(wr ((if k=2 then qDM s else qAA k x s).toList++r)).head?≠some d:=by
 rcases qPl hv with rfl|rfl|rfl|rfl|rfl
 ·exact absurd rfl h0
 ·rw [if_neg (by decide)]
  have ht:(qAA 1 x s).toList=Lib.itoa x:=by rw [Go.Lib.toList_data];simp [qAA,qEX]
  obtain ⟨d1,d2⟩:=qIo (h1 rfl)
  rw [ht]
  have:=qIw (qEu (fun _=>qMT) d1) d2
  exact ⟨this.1,fun r hr d hd=>this.2 r (qJ5 hr) d (qQ0 hr hd)⟩
 ·rw [if_pos rfl]
  have ht:(qDM s).toList=34::(qAZ s.toList++ [34]):=by unfold qDM;rw [qAr];simp
  rw [ht]
  have:=qMV (c:=34) (w:=qAZ s.toList++ [34]) (.inr (.inr (.inl rfl)))
  exact ⟨this.1,fun r _ d hd=>this.2 r d hd⟩
 ·rw [if_neg (by decide)]
  have hs:=qGi hv (by decide)
  subst hs
  obtain ⟨d1,d2⟩:=qNG (qNi hv)
  have:=qIw d1 d2
  exact ⟨this.1,fun r hr d hd=>this.2 r (qJ5 hr) d (qQ0 hr hd)⟩
 ·rw [if_neg (by decide)]
  have hx2:qAA 4 x s=qZ x:=rfl
  obtain ⟨t,ht⟩:=qQL.n x (qNj hv)
  rw [hx2,ht]
  have:=qMV (c:=35) (w:=t) (.inr (.inr (.inr rfl)))
  exact ⟨this.1,fun r _ d hd=>this.2 r d hd⟩
theorem qRg {op:Int} (h:1≤op∧op≤10):qE4 (fnS op).toList 1 10=some op∧(fnS op).toList.all wch=true∧(fnS op).toList≠ []:=by
 have t:∀a:Fin 10,qE4 (fnS (((a.val:Nat):Int)+1)).toList 1 10=some (((a.val:Nat):Int)+1)∧(fnS (((a.val:Nat):Int)+1)).toList.all wch=true∧(fnS (((a.val:Nat):Int)+1)).toList≠ []:=by decide+kernel
 have:=t ⟨(op-1).toNat,by omega⟩
 simp only at this
 rwa [show (((op-1).toNat:Nat):Int)+1=op by omega] at this
def qP6 (l:List Nd) (g:Nat) (k:Int):Prop:=(0≤k∧k<l.length)∧(RT l g k∨((ndi l k).1=3∧qB2 (ndi l k)=true∧lo l k=k∧∃g',g=g'+1))
theorem qPH {l:List Nd} (hl:l.length≤60) {g:Nat} {k:Int} (A:qP6 l g k) {x:List UInt8} (hx:Fo x) (ho:qAN x=0) {deep:Int} {f:Nat} (h0:0≤deep) (hd:deep+1+g≤400) (hf:20*(tx l g k 1++x).length+6≤f):
  qDN (qAz (tx l g k 1++x,false,l.take (lo l k).toNat)) (fun p=>pP f (.bin 1 (deep+1)) p)=(k,x,false,l.take (k.toNat+1)):=by
 obtain ⟨hi,A⟩:=A
 rcases A with R|⟨h3,hb,hlo,g',rfl⟩
 ·have tt:=qPb (qHf (R.s 1) x)
  have none:qAz (tx l g k 1++x,false,l.take (lo l k).toNat)=(none,tx l g k 1++x,false,l.take (lo l k).toNat):=by
   unfold qAz
   simp only [tt]
   rw [if_neg]
   rintro ⟨_,h2⟩
   have tk:=R.c 1 x hx 58 (.inl rfl)
   unfold qX at h2
   split at h2
   ·rename_i hs
    have hh:=(qDr 58 _).1 ((qPt (by decide) _).1 hs)
    by_cases hb:(wr (tx l g k 1++x)).head?=some 32
    ·exact absurd hb (R.c 1 x hx 32 (.inr rfl))
    ·rw [qKy hb] at hh
     exact tk hh
   ·cases h2
  rw [none]
  unfold qDN
  simp only
  obtain ⟨f2,q1,q2⟩:=R.b 1 1 x (deep+1) f (by omega) (by omega) (by omega) hx (.inl ho) (by omega) (by omega) hf
  rw [q2]
  exact qK0 hx (.inl ho) (by omega)
 ·obtain ⟨e,ha⟩:=qPd hb h3
  obtain ⟨a1,a2,a3,a4,_⟩:=qNh ha
  have e3:=qSI (g:=g') (t:=1) h3
  generalize hc:ndi l k=c at*
  have r1:qAw c.2.2.2.2.2.1 c.2.2.2.2.2.2.1=true:=by unfold qAw;simp;omega
  have r2:qAw c.2.2.2.2.2.2.2.2.2.1 c.2.2.2.2.2.2.2.2.2.2.1=true:=by unfold qAw;simp;omega
  obtain ⟨d1,d2⟩:=qEm (fc:=c.2.2.2.2.2.2.2.1) (fr:=c.2.2.2.2.2.2.2.2.1) r1
  obtain ⟨d3,d4⟩:=qEm (fc:=c.2.2.2.2.2.2.2.2.2.2.2.1) (fr:=c.2.2.2.2.2.2.2.2.2.2.2.2.1) r2
  have b1:=qJ2 (fc:=c.2.2.2.2.2.2.2.1) (fr:=c.2.2.2.2.2.2.2.2.1) r1
  have b2:=qJ2 (fc:=c.2.2.2.2.2.2.2.2.2.2.2.1) (fr:=c.2.2.2.2.2.2.2.2.2.2.2.2.1) r2
  rw [e3,hlo]
  generalize hw1:(qAO c.2.2.2.2.2.1 c.2.2.2.2.2.2.1 c.2.2.2.2.2.2.2.1 c.2.2.2.2.2.2.2.2.1).toList=w1 at*
  generalize hw2:(qAO c.2.2.2.2.2.2.2.2.2.1 c.2.2.2.2.2.2.2.2.2.2.1 c.2.2.2.2.2.2.2.2.2.2.2.1 c.2.2.2.2.2.2.2.2.2.2.2.2.1).toList=w2 at*
  have p1:qAt (BR w1)=(c.2.2.2.2.2.1,c.2.2.2.2.2.2.1,c.2.2.2.2.2.2.2.1,c.2.2.2.2.2.2.2.2.1,true):=by rw [←hw1,qF2];exact b1
  have p2:qAt (BR w2)=(c.2.2.2.2.2.2.2.2.2.1,c.2.2.2.2.2.2.2.2.2.2.1,c.2.2.2.2.2.2.2.2.2.2.2.1,c.2.2.2.2.2.2.2.2.2.2.2.2.1,true):=by rw [←hw2,qF2];exact b2
  have ea:(w1++58::w2)++x=w1++(58::(w2++x)):=by simp
  rw [ea]
  have t1:tb (w1++(58::(w2++x)))=w1++(58::(w2++x)):=qPb (qHf (qIw d1 d2).1 _)
  obtain ⟨q1,q2⟩:=qOe (r:=58::(w2++x)) d1 (fun d hd=>by simp at hd;subst hd;decide)
  have t2:tb (w2++x)=w2++x:=qPb (qHf (qIw d3 d4).1 _)
  obtain ⟨q3,q4⟩:=qOe (r:=x) d3 (qJ5 hx)
  have ar:qAz (w1++(58::(w2++x)),false,l.take k.toNat)=(some c,x,false,l.take k.toNat):=by
   unfold qAz
   simp only [t1,q1,q2]
   rw [qIn (by decide) (by decide)]
   simp only [t2,q3,q4,p1,p2]
   rw [if_pos (by simp),←e]
   rfl
  rw [ar]
  unfold qDN
  simp only
  exact qEV hl hi x hc
theorem qNK {c:UInt8} (hc:c∈([45,40,41,44,58]:List UInt8)) (h32:c≠32) (r:List UInt8) (l:List Nd):qBw [c] (c::r,false,l)=(r,false,l):=by
 unfold qBw
 rw [if_neg (by simp),qIn hc h32,if_pos rfl]
theorem qOA {l:List Nd} (hl:l.length≤60) {g:Nat} {op:Int} {deep:Int} (h0:0≤deep) (hd:deep+1+g≤400):∀(ks:List Int),ks≠ []→(∀k∈ks,qP6 l g k)→∀(pre:List Int) (m e:Int) (r:List UInt8) (f:Nat),qL2 l m ks e→0≤m→20*(qFO l g ks++41::r).length+8≤f→
  pP f (.args op deep pre) (qFO l g ks++41::r,false,l.take m.toNat)=qCt (ndK 6 op (pre++ks)) (r,false,l.take e.toNat)
 | [],h,_,_,_,_,_,_,_,_,_=>absurd rfl h
 | [k],_,hA,pre,m,e,r,f,hc,hm,hf=>by
  obtain ⟨f,rfl⟩:∃f',f=f'+1:=⟨f-1,by omega⟩
  obtain ⟨c1,c2⟩:=hc
  have c2:k+1=e:=c2
  have hk:=(hA k (List.mem_cons_self ..)).1
  have ar:=qPH hl (hA k (List.mem_cons_self ..)) (x:=41::r) (qCb (by decide)) (qOi r) h0 hd (f:=f) (by have:qFO l g [k]=tx l g k 1:=rfl;rw [this] at hf;omega)
  rw [c1] at ar
  have ek:k.toNat+1=e.toNat:=by omega
  rw [ek] at ar
  show pP (f+1) (.args op deep pre) (tx l g k 1++41::r,false,l.take m.toNat)=_
  conv=>lhs;unfold pP
  rw [if_neg (by simp),ar]
  simp only
  have tk:=qOj (c:=44) (by decide) (p:=(41::r,false,l.take e.toNat)) (by simp only;rw [qP3 (qCb (by decide))];simp)
  rw [tk,if_neg (by simp)]
  simp only [qP3 (r:=41::r) (qCb (by decide))]
  rw [qNK (by decide) (by decide)]
 |k::k2::ks,_,hA,pre,m,e,r,f,hc,hm,hf=>by
  obtain ⟨f,rfl⟩:∃f',f=f'+1:=⟨f-1,by omega⟩
  obtain ⟨c1,c2⟩:=hc
  have hk:=(hA k (List.mem_cons_self ..)).1
  have ej:qFO l g (k::k2::ks)++41::r=tx l g k 1++(44::(qFO l g (k2::ks)++41::r)):=by rw [qJ6];simp
  rw [ej] at hf⊢
  have ar:=qPH hl (hA k (List.mem_cons_self ..)) (x:=44::(qFO l g (k2::ks)++41::r)) (qCb (by decide)) (qRV _) h0 hd (f:=f) (by omega)
  rw [c1] at ar
  conv=>lhs;unfold pP
  rw [if_neg (by simp),ar]
  simp only
  rw [qIn (by decide) (by decide),if_pos rfl]
  have hlen:20*(qFO l g (k2::ks)++41::r).length+8≤f:=by
   rw [List.length_append,List.length_cons] at hf
   omega
  have ek:k.toNat+1=(k+1).toNat:=by omega
  have ih:=qOA (op:=op) hl h0 hd (k2::ks) (by simp) (fun q hq=>hA q (List.mem_cons_of_mem _ hq)) (pre++ [k]) (k+1) e r f c2 (by omega) hlen
  rw [ek]
  rw [List.append_assoc] at ih
  exact ih
theorem qRZ {l:List Nd} (hl:l.length≤60) {g:Nat} {i op:Int} {ks:List Int} (hi:0≤i∧i<l.length) (hx:ndi l i=ndK 6 op ks) (ho:1≤op∧op≤10) (hn:ks≠ []) (hA:∀k∈ks,qP6 l g k) (hc:qL2 l (lo l i) ks i) (h0:0≤lo l i):RT l (g+1) i:=by
 obtain ⟨w1,w2,w3⟩:=qRg ho
 have e:=fun t=>qSL (g:=g) (t:=t) hx
 have ws:=qIw w2 w3
 have u:∀(r:List UInt8) (deep:Int) (f:Nat),Fo r→0≤deep→deep+(g+1:Nat)≤400→20*(tx l (g+1) i 5++r).length+4≤f→pP f (.un deep) (tx l (g+1) i 5++r,false,l.take (lo l i).toNat)=(i,r,false,l.take (i.toNat+1)):=fun r deep f hr hd hd2 hf=>by
  have ee:tx l (g+1) i 5++r=(fnS op).toList++(40::(qFO l g ks++41::r)):=by rw [e];simp
  rw [ee] at hf⊢
  have wl:=List.length_pos_iff.2 w3
  simp only [List.length_append,List.length_cons] at hf
  obtain ⟨f,rfl⟩:∃f',f=f'+4:=⟨f-4,by omega⟩
  rw [qMU (f:=f+2) (by omega) w2 w3 (fun d hd=>by simp at hd;subst hd;decide)]
  unfold qKu
  obtain ⟨v1,v2⟩:=qQL.f _ _ w1
  rw [if_neg (fun h=>by rw [v1] at h;cases h.1),if_neg (by rw [v2];simp),w1]
  simp only
  conv=>lhs;unfold pP
  rw [qNK (by decide) (by decide),qOA hl hd (by omega) ks hn hA [] (lo l i) i r (f+1) hc h0 (by simp only [List.length_append,List.length_cons];omega)]
  exact qEV hl hi r hx
 refine ⟨fun t=>by rw [e];exact qHf ws.1 _,fun t r hr d hd=>?_,u,fun t t' r deep f h1 h2 h3 hr _ hd hd2 hf=>qNJ u (by rw [e,e]) hr hd hd2 hf⟩
 have ee:tx l (g+1) i t++r=(fnS op).toList++(40::(qFO l g ks++41::r)):=by rw [e];simp
 rw [ee]
 refine ws.2 _ (fun d hd=>by simp at hd;subst hd;decide) d (fun e=>?_)
 simp at e
 rcases hd with rfl|rfl
 ·exact absurd e (by decide)
 ·exact absurd e (by decide)
theorem qRy {l:List Nd} (hl:l.length≤60) {g:Nat} {i k:Int} (hi:0≤i∧i<l.length) (hx:ndi l i=ndK 4 0 [k]) (R:RT l g k) (h1:lo l k=lo l i) (h2:k+1=i) (hk:0≤k):RT l (g+1) i:=by
 have e:=fun t=>qSJ (g:=g) (t:=t) hx
 have hs:=fun x=>qMV (c:=45) (w:=x) (.inl rfl)
 have u:∀(r:List UInt8) (deep:Int) (f:Nat),Fo r→0≤deep→deep+(g+1:Nat)≤400→20*(tx l (g+1) i 5++r).length+4≤f→pP f (.un deep) (tx l (g+1) i 5++r,false,l.take (lo l i).toNat)=(i,r,false,l.take (i.toNat+1)):=fun r deep f hr hd hd2 hf=>by
  rw [e,List.cons_append] at hf⊢
  simp only [List.length_cons] at hf
  obtain ⟨f,rfl⟩:∃f',f=f'+1:=⟨f-1,by omega⟩
  have ih:=R.u r (deep+1) f hr (by omega) (by omega) (by omega)
  rw [h1] at ih
  conv=>lhs;unfold pP
  rw [if_neg (fun h=>h.elim (by omega) (by simp)),qIn (by decide) (by decide),if_pos rfl]
  simp only
  rw [ih]
  have ek:k.toNat+1=i.toNat:=by omega
  rw [ek]
  exact qEV hl hi r hx
 exact ⟨fun t=>by rw [e];exact (hs _).1,fun t r _ d hd=>by rw [e];exact (hs _).2 r d hd,u,fun t t' r deep f h1 h2 h3 hr _ hd hd2 hf=>qNJ u (by rw [e,e]) hr hd hd2 hf⟩
theorem qRz {l:List Nd} (hl:l.length≤60) {g:Nat} {i k0 k1 op:Int} (hi:0≤i∧i<l.length) (hx:ndi l i=ndK 5 op [k0,k1]) (ho:1≤op∧op≤11) (R0:RT l g k0) (R1:RT l g k1) (h0:lo l k0=lo l i) (h1:lo l k1=k0+1) (h2:k1+1=i) (hk0:0≤k0) (hk1:0≤k1):RT l (g+1) i:=by
 have e:=fun t=>qSK (g:=g) (t:=t) hx
 have lv:=qQz op
 have e5:tx l (g+1) i 5=40::(tx l g k0 (lvl op)++((qj op).toList++tx l g k1 (lvl op+1)))++ [41]:=by rw [e,if_pos (by omega)]
 have c0:∀(t t':Int) (r:List UInt8) (deep:Int) (f:Nat),1≤t→t≤t'→t'≤lvl op→Fo r→(qAN r=0∨lvl (qAN r)≤lvl op)→0≤deep→deep+g≤400→20*((tx l g k0 (lvl op)++((qj op).toList++tx l g k1 (lvl op+1)))++r).length+6≤f→
   ∃f2,20*r.length+5≤f2∧pP f (.bin t deep) ((tx l g k0 (lvl op)++((qj op).toList++tx l g k1 (lvl op+1)))++r,false,l.take (lo l i).toNat)=pP f2 (.loop t deep i) (r,false,l.take (i.toNat+1)):=fun t t' r deep f a1 a2 a3 hr hop hd hd2 hf=>by
  have ee:(tx l g k0 (lvl op)++((qj op).toList++tx l g k1 (lvl op+1)))++r=tx l g k0 (lvl op)++((qj op).toList++(tx l g k1 (lvl op+1)++r)):=by simp
  rw [ee] at hf⊢
  have sg:=qPD ho (qHf (R1.s (lvl op+1)) r)
  have oa:=qN8 ho sg
  obtain ⟨f2,q1,q2⟩:=R0.b t (lvl op) ((qj op).toList++(tx l g k1 (lvl op+1)++r)) deep f a1 (by omega) (by omega) (qOh ho _) (.inr (by rw [oa];omega)) hd hd2 hf
  obtain ⟨f3,q3,q4⟩:=qRY hl hi hx ho R1 h1 h2 hk0 hk1 (t:=t) (deep:=deep) (f:=f2) (by omega) hr hop hd hd2 q1
  rw [h0] at q2
  exact ⟨f3,q3,q2.trans q4⟩
 have u:∀(r:List UInt8) (deep:Int) (f:Nat),Fo r→0≤deep→deep+(g+1:Nat)≤400→20*(tx l (g+1) i 5++r).length+4≤f→pP f (.un deep) (tx l (g+1) i 5++r,false,l.take (lo l i).toNat)=(i,r,false,l.take (i.toNat+1)):=fun r deep f hr hd hd2 hf=>by
  have ee:tx l (g+1) i 5++r=40::((tx l g k0 (lvl op)++((qj op).toList++tx l g k1 (lvl op+1)))++41::r):=by rw [e5];simp
  rw [ee] at hf⊢
  simp only [List.length_cons] at hf
  obtain ⟨f,rfl⟩:∃f',f=f'+2:=⟨f-2,by omega⟩
  obtain ⟨f2,q1,q2⟩:=c0 1 1 (41::r) (deep+1) f (by omega) (by omega) (by omega) (qCb (by decide)) (.inl (qOi r)) (by omega) (by omega) (by omega)
  rw [qK0 (qCb (by decide)) (.inl (qOi r)) (by omega)] at q2
  generalize (tx l g k0 (lvl op)++((qj op).toList++tx l g k1 (lvl op+1)))++41::r=x at q2⊢
  rw [qP4 (by omega) (by simp) (by simp)]
  have tt:tb (40::x)=40::x:=qKy (by simp)
  conv=>lhs;unfold pP
  simp only [tt]
  rw [if_neg (show ¬(40::x).head?=some 34 by simp),if_neg (show ¬(40::x).head?=some 35 by simp)]
  simp only
  rw [qIn (by decide) (by decide),if_pos ⟨by simp,rfl⟩,q2]
  simp only
  rw [qNK (by decide) (by decide)]
 refine ⟨fun t=>?_,fun t r hr d hd=>?_,u,fun t t' r deep f a1 a2 a3 hr hop hd hd2 hf=>?_⟩
 ·rw [e]
  split
  ·exact ⟨40,rfl,.inr (.inr (.inl rfl))⟩
  ·exact qHf (R0.s (lvl op)) _
 ·rw [e]
  split
  ·exact (qMV (c:=40) (w:=(tx l g k0 (lvl op)++((qj op).toList++tx l g k1 (lvl op+1)))++ [41]) (.inr (.inl rfl))).2 r d hd
  ·have ee:(tx l g k0 (lvl op)++((qj op).toList++tx l g k1 (lvl op+1)))++r=tx l g k0 (lvl op)++((qj op).toList++(tx l g k1 (lvl op+1)++r)):=by simp
   rw [ee]
   exact R0.c (lvl op) _ (qOh ho _) d hd
 ·by_cases hp:lvl op<t'
  ·exact qNJ u (by rw [e,e,if_pos hp,if_pos (by omega)]) hr hd hd2 hf
  ·rw [e,if_neg hp] at hf⊢
   exact c0 t t' r deep f a1 a2 (by omega) hr (by rcases hop with h|h;exact .inl h;exact .inr (by omega)) hd (by omega) hf
theorem qNL {l:List Nd} (h:Fine l):∀(g:Nat) (i:Int),(0≤i∧i<l.length)→qAy (qR l) (i.toNat+1) i≤g→qA9 l i=false→0≤lo l i→RT l g i
 |0,i,hi,hd,_,_=>by
  have:=qG8 (qR l) (i.toNat+1) i hi.1 (by omega)
  omega
 |g+1,i,hi,hd,ha,h0=>by
  have hb:qB2 (ndi l i)=true:=(h.own i hi.1 hi.2).1
  have hch:=qNI h hi h0
  have kidok:=fun k hk=>h.kid hi hd (k:=k) hk
  have kin:=(h.own i hi.1 hi.2).2
  rcases qE3 hb with ⟨k1,_⟩|k2|k3|⟨k4,_⟩|⟨k5,_⟩|k6
  ·obtain ⟨e,v1,v2,v3⟩:=qQu hb k1
   have et:=fun t=>qSG (g:=g) (t:=t) k1
   have kz:qR l i= []:=by unfold qR;rw [e];rfl
   rw [kz] at hch
   have hlo:lo l i=i:=hch
   have sc:=qRx v1 v2 v3
   have u:∀(r:List UInt8) (deep:Int) (f:Nat),Fo r→0≤deep→deep+(g+1:Nat)≤400→20*(tx l (g+1) i 5++r).length+4≤f→pP f (.un deep) (tx l (g+1) i 5++r,false,l.take (lo l i).toNat)=(i,r,false,l.take (i.toNat+1)):=fun r deep f hr hd1 hd2 hf=>by
    obtain ⟨f,rfl⟩:∃f',f=f'+2:=⟨f-2,by omega⟩
    rw [et,hlo]
    exact qRw h.len hi e v1 v2 v3 (by omega) hr
   exact ⟨fun t=>by rw [et];exact sc.1,fun t r hr d hd=>by rw [et];exact sc.2 r hr d hd,u,fun t t' r deep f _ _ _ hr _ hd1 hd2 hf=>qNJ u (by rw [et,et]) hr hd1 hd2 hf⟩
  ·obtain ⟨e,v1⟩:=qQv hb k2
   have et:=fun t=>qSH (g:=g) (t:=t) k2
   have kz:qR l i= []:=by unfold qR;rw [e];rfl
   rw [kz] at hch
   have hlo:lo l i=i:=hch
   obtain ⟨d1,d2⟩:=qEm (fc:=(ndi l i).2.2.2.2.2.2.2.1) (fr:=(ndi l i).2.2.2.2.2.2.2.2.1) v1
   have sc:=qIw d1 d2
   have u:∀(r:List UInt8) (deep:Int) (f:Nat),Fo r→0≤deep→deep+(g+1:Nat)≤400→20*(tx l (g+1) i 5++r).length+4≤f→pP f (.un deep) (tx l (g+1) i 5++r,false,l.take (lo l i).toNat)=(i,r,false,l.take (i.toNat+1)):=fun r deep f hr hd1 hd2 hf=>by
    obtain ⟨f,rfl⟩:∃f',f=f'+2:=⟨f-2,by omega⟩
    rw [et,hlo]
    exact qRX h.len hi e v1 (by omega) hr
   exact ⟨fun t=>by rw [et];exact sc.1,fun t r hr d hd=>by rw [et];exact sc.2 r (qJ5 hr) d (qQ0 hr hd),u,fun t t' r deep f _ _ _ hr _ hd1 hd2 hf=>qNJ u (by rw [et,et]) hr hd1 hd2 hf⟩
  ·unfold qA9 at ha
   rw [decide_eq_false_iff_not] at ha
   exact absurd k3 ha
  ·obtain ⟨k,e⟩:=qQw hb k4
   have kz:qR l i= [k]:=by unfold qR;rw [e];rfl
   rw [kz] at hch
   obtain ⟨c1,c2⟩:=hch
   have c2:k+1=i:=c2
   have hk:k∈qR l i:=by rw [kz];exact List.mem_cons_self ..
   obtain ⟨q1,q2⟩:=kidok k hk
   have na:qA9 l k=false:=by
    rw [Bool.eq_false_iff];intro hh
    exact (kin k hk).2.2 ⟨hh,by unfold qBo;rw [e];rfl⟩
   exact qRy h.len hi e (qNL h g k q1 q2 na (by omega)) c1 c2 q1.1
  ·obtain ⟨k0,k1,e,o1,o2⟩:=qQx hb k5
   have kz:qR l i= [k0,k1]:=by unfold qR;rw [e];rfl
   rw [kz] at hch
   obtain ⟨c1,c2,c3⟩:=hch
   have c3:k1+1=i:=c3
   have hk0:k0∈qR l i:=by rw [kz];simp
   have hk1:k1∈qR l i:=by rw [kz];simp
   obtain ⟨q1,q2⟩:=kidok k0 hk0
   obtain ⟨q3,q4⟩:=kidok k1 hk1
   have nc:qBo l i=false:=by unfold qBo;rw [e];rfl
   have na0:qA9 l k0=false:=by
    rw [Bool.eq_false_iff];intro hh
    exact (kin k0 hk0).2.2 ⟨hh,nc⟩
   have na1:qA9 l k1=false:=by
    rw [Bool.eq_false_iff];intro hh
    exact (kin k1 hk1).2.2 ⟨hh,nc⟩
   exact qRz h.len hi e ⟨o1,o2⟩ (qNL h g k0 q1 q2 na0 (by omega)) (qNL h g k1 q3 q4 na1 (by omega)) c1 c2 c3 q1.1 q3.1
  ·have k6:(ndi l i).1=6:=by
    first
    |exact k6
    |exact k6.1
   obtain ⟨e,hargs⟩:=qQy hb k6
   have kz:qR l i=kd (ndi l i):=rfl
   rw [kz] at hch
   have ops:1≤(ndi l i).2.1∧(ndi l i).2.1≤10∧kd (ndi l i)≠ []:=by
    unfold qFL at hargs
    split at hargs
    ·have:=of_decide_eq_true hargs
     refine ⟨by omega,by omega,fun e0=>?_⟩
     rw [e0] at this;simp at this
    ·split at hargs
     ·have:=of_decide_eq_true hargs
      refine ⟨by omega,by omega,fun e0=>?_⟩
      rw [e0] at this;simp at this
     ·split at hargs
      ·have:=of_decide_eq_true hargs
       refine ⟨by omega,by omega,fun e0=>?_⟩
       rw [e0] at this;simp at this
      ·cases hargs
   have args:∀(ks:List Int),(∀k∈ks,k∈qR l i)→∀m,0≤m→qL2 l m ks i→∀k∈ks,qP6 l g k:=by
    intro ks
    induction ks with
    |nil=>intro _ m _ _ k hk;cases hk
    |cons a ks ih=>
     intro hsub m hm hc k hk
     obtain ⟨c1,c2⟩:=hc
     obtain ⟨q1,q2⟩:=kidok a (hsub a (List.mem_cons_self ..))
     rcases List.mem_cons.1 hk with rfl|hk
     ·refine ⟨q1,?_⟩
      by_cases har:qA9 l k=true
      ·right
       have h3:(ndi l k).1=3:=by unfold qA9 at har;exact of_decide_eq_true har
       have hbk:qB2 (ndi l k)=true:=(h.own k q1.1 q1.2).1
       have hch2:=qNI h q1 (by omega)
       have kz2:qR l k= []:=by unfold qR;rw [(qPd hbk h3).1];rfl
       rw [kz2] at hch2
       have gp:=qG8 (qR l) (k.toNat+1) k q1.1 (by omega)
       exact ⟨h3,hbk,hch2,g-1,by omega⟩
      ·left
       exact qNL h g k q1 q2 (by rw [Bool.eq_false_iff];exact har) (by omega)
     ·exact ih (fun k hk=>hsub k (List.mem_cons_of_mem _ hk)) (a+1) (by omega) c2 k hk
   exact qRZ h.len hi e ⟨ops.1,ops.2.1⟩ ops.2.2 (args _ (fun k hk=>hk) _ h0 hch) hch h0
theorem qIx {c:UInt8} (h:wch c=true):okc c=true:=by
 unfold wch at h
 simp only [Bool.or_eq_true,Bool.and_eq_true,decide_eq_true_eq,beq_iff_eq] at h
 unfold okc
 rw [decide_eq_true_eq]
 rcases h with h|h|h
 ·omega
 ·omega
 ·subst h;decide
theorem qOB:∀s:List UInt8,s.all okc=true→(qAZ s).all okc=true
 | [],_=>rfl
 |c::s,h=>by
  rw [List.all_cons,Bool.and_eq_true] at h
  rw [qD0,List.all_append,Bool.and_eq_true]
  refine ⟨?_,qOB s h.2⟩
  split
  ·decide
  ·simp [h.1]
theorem qPI {op:Int} (ho:1≤op∧op≤11):(qj op).toList.all okc=true:=by
 have c:op=1∨op=2∨op=3∨op=4∨op=5∨op=6∨op=7∨op=8∨op=9∨op=10∨op=11:=by omega
 rcases c with rfl|rfl|rfl|rfl|rfl|rfl|rfl|rfl|rfl|rfl|rfl<;>decide+kernel
theorem qQ1 {n:Int} (hn:1≤n∧n≤5):(qZ n).toList.all okc=true:=by
 have c:n=1∨n=2∨n=3∨n=4∨n=5:=by omega
 rcases c with rfl|rfl|rfl|rfl|rfl<;>decide+kernel
theorem qRa {k x:Int} {s:ByteArray} (hv:okV k x s=true) (h0:k≠0) (h1:k=1→0≤x):(if k=2 then qDM s else qAA k x s).toList.all okc=true:=by
 rcases qPl hv with rfl|rfl|rfl|rfl|rfl
 ·exact absurd rfl h0
 ·rw [if_neg (by decide)]
  have ht:(qAA 1 x s).toList=Lib.itoa x:=by rw [Go.Lib.toList_data];simp [qAA,qEX]
  rw [ht]
  exact qEu (fun _ h=>qIx (qMT h)) (qIo (h1 rfl)).1
 ·rw [if_pos rfl]
  have ht:(qDM s).toList=34::(qAZ s.toList++ [34]):=by unfold qDM;rw [qAr];simp
  obtain ⟨_,_,a⟩:=qKX hv
  rw [ht,List.all_cons,List.all_append,qOB _ a]
  decide
 ·rw [if_neg (by decide)]
  have hs:=qGi hv (by decide)
  subst hs
  exact qEu (fun _=>qIx) (qNG (qNi hv)).1
 ·rw [if_neg (by decide)]
  exact qQ1 (qNj hv)
theorem qPJ {l:List Nd} {g:Nat}:∀ks:List Int,(∀k∈ks,(tx l g k 1).all okc=true)→(qFO l g ks).all okc=true
 | [],_=>rfl
 | [k],h=>h k (List.mem_cons_self ..)
 |k::k2::ks,h=>by
  rw [qJ6,List.all_append,List.all_cons,h k (List.mem_cons_self ..),qPJ (k2::ks) (fun q hq=>h q (List.mem_cons_of_mem _ hq))]
  decide
theorem qPK {l:List Nd} (h:Fine l):∀(g:Nat) (i t:Int),(0≤i∧i<l.length)→(tx l g i t).all okc=true
 |0,i,t,_=>by unfold tx qk;rw [q9];rfl
 |g+1,i,t,hi=>by
  have hb:qB2 (ndi l i)=true:=(h.own i hi.1 hi.2).1
  have kin:=fun k hk=>(h.own i hi.1 hi.2).2 k hk
  have ih:=fun k t (hk:k∈qR l i)=>qPK h g k t (by have:=kin k hk;omega)
  rcases qE3 hb with ⟨k1,_⟩|k2|k3|⟨k4,_⟩|⟨k5,_⟩|k6
  ·obtain ⟨e,v1,v2,v3⟩:=qQu hb k1
   rw [qSG k1]
   exact qRa v1 v2 v3
  ·rw [qSH k2]
   exact qEu (fun _=>qIx) (qEm (qQv hb k2).2).1
  ·obtain ⟨e,ha⟩:=qPd hb k3
   obtain ⟨a1,a2,a3,a4,_⟩:=qNh ha
   rw [qSI k3]
   generalize ndi l i=c at*
   have r1:qAw c.2.2.2.2.2.1 c.2.2.2.2.2.2.1=true:=by unfold qAw;simp;omega
   have r2:qAw c.2.2.2.2.2.2.2.2.2.1 c.2.2.2.2.2.2.2.2.2.2.1=true:=by unfold qAw;simp;omega
   rw [List.all_append,List.all_cons,qEu (fun _=>qIx) (qEm r1).1,qEu (fun _=>qIx) (qEm r2).1]
   decide
  ·obtain ⟨k,e⟩:=qQw hb k4
   have kz:qR l i= [k]:=by unfold qR;rw [e];rfl
   rw [qSJ e,List.all_cons,ih k 5 (by rw [kz];simp)]
   decide
  ·obtain ⟨k0,k1,e,o1,o2⟩:=qQx hb k5
   have kz:qR l i= [k0,k1]:=by unfold qR;rw [e];rfl
   have i0:=fun t=>ih k0 t (by rw [kz];simp)
   have i1:=fun t=>ih k1 t (by rw [kz];simp)
   rw [qSK e]
   split
   ·rw [List.cons_append,List.all_cons,List.all_append,List.all_append,List.all_append,i0,i1,qPI ⟨o1,o2⟩]
    decide
   ·rw [List.all_append,List.all_append,i0,i1,qPI ⟨o1,o2⟩]
    decide
  ·have k6:(ndi l i).1=6:=by
    first
    |exact k6
    |exact k6.1
   obtain ⟨e,hargs⟩:=qQy hb k6
   have ops:1≤(ndi l i).2.1∧(ndi l i).2.1≤10:=by
    unfold qFL at hargs
    split at hargs
    ·omega
    ·split at hargs
     ·omega
     ·split at hargs
      ·omega
      ·cases hargs
   rw [qSL e,List.all_append,List.all_cons,List.all_append,qEu (fun _=>qIx) (qRg ops).2.1,qPJ (kd (ndi l i)) (fun k hk=>ih k 1 hk)]
   decide
theorem qQO {l:List Nd} (hf:qDZ l=true) (hk:∀c∈l,(kd c).length≤140737488351232∧c.2.2.2.2.1.size≤140737488351232) (hs:(qFN l).toList≠ []):qE7 (qFN l)=(l,true):=by
 obtain ⟨q1,q2,q3⟩:=qOW hf hk
 have hform:=hf
 unfold qDZ at hf
 simp only [Bool.and_eq_true,decide_eq_true_eq,Bool.not_eq_true'] at hf
 obtain ⟨h1,_,h3,h4,_⟩:=hf
 have en:((l.length:Int)-1).toNat+1=l.length:=by omega
 have hlo:lo l ((l.length:Int)-1)=0:=by unfold lo;rw [en];exact h3
 have R:=qNL q1 12 ((l.length:Int)-1) q2 q3 h4 (by omega)
 have hsz:=qNF l
 have et:(qFN l).toList=tx l 12 ((l.length:Int)-1) 1:=by
  unfold qFN at hs⊢
  rw [if_pos hform] at hs⊢
  split at hs
  ·exact absurd q9 hs
  ·rename_i hc;rw [if_neg hc];rfl
 have hlen:(tx l 12 ((l.length:Int)-1) 1).length≤200:=by rw [←et,qAl];exact hsz
 have hp:qDj (qFN l) 200=true:=by
  unfold qDj
  rw [et,qPK q1 12 _ 1 q2,Bool.true_and,decide_eq_true_eq]
  omega
 obtain ⟨f2,b1,b2⟩:=R.b 1 1 [] 0 4050 (by omega) (by omega) (by omega) qQs (.inl qPE) (by omega) (by omega) (by rw [List.append_nil];omega)
 rw [qK0 qQs (.inl qPE) (by simp at b1;omega),List.append_nil,hlo,en,List.take_length] at b2
 have hR:qKx (qFN l)=([],false,l):=by
  unfold qKx
  rw [et]
  have:l.take (0:Int).toNat= []:=rfl
  rw [this] at b2
  rw [b2]
 unfold qE7
 rw [hR,if_pos ⟨hp,rfl,rfl,hform⟩]
def Dwx {β:Type} (Q:β→Prop) (R:Nat→Tr β):Prop:=∃x,Q x∧Ev (fun n=>(R n).run) x
theorem qA2 {α β:Type} {Q:β→Prop} {F:Nat→Option α} {r:α} {K:Nat→α→Tr β} (h:Ev F r) (hk:Dwx Q fun n=>K n r):Dwx Q fun n=> .opt (F n) (K n):=by
 obtain ⟨x,q,n1,h1⟩:=hk
 obtain ⟨n0,h0⟩:=h
 exact ⟨x,q,n0+n1,fun n hn=>qA (h0 n (by omega)) (h1 n (by omega))⟩
theorem qBX {β:Type} {Q:β→Prop} {b:Bool} {t e:Nat→Tr β} (h:b=true) (hk:Dwx Q t):Dwx Q fun n=> .ask b (t n) (e n):=by
 obtain ⟨x,q,n1,h1⟩:=hk
 exact ⟨x,q,n1,fun n hn=>qN h (h1 n hn)⟩
theorem qCd {β:Type} {Q:β→Prop} {b:Bool} {t e:Nat→Tr β} (h:b=false) (hk:Dwx Q e):Dwx Q fun n=> .ask b (t n) (e n):=by
 obtain ⟨x,q,n1,h1⟩:=hk
 exact ⟨x,q,n1,fun n hn=>qO h (h1 n hn)⟩
theorem qEW {α β:Type} {Q:β→Prop} {o:Option α} {r:α} {K:Nat→α→Tr β} (h:o=some r) (hk:Dwx Q fun n=>K n r):Dwx Q fun n=> .opt o (K n):=by
 obtain ⟨x,q,n1,h1⟩:=hk
 exact ⟨x,q,n1,fun n hn=>qA h (h1 n hn)⟩
theorem qC4 {β:Type} {Q:β→Prop} {x:β} (h:Q x):Dwx Q fun _=> .done x:=⟨x,h,0,fun _ _=>rfl⟩
theorem qNM {β:Type} {Q:β→Prop} {F:Nat→Option β} {R:Nat→Tr β} (h:Dwx Q R) (hF:∀n,F (n+1)=(R n).run):∃x,Q x∧Ev F x:=by
 obtain ⟨x,q,n1,h1⟩:=h
 refine ⟨x,q,n1+1,fun n hn=>?_⟩
 obtain ⟨m,rfl,hm⟩:=up1 hn
 rw [hF]
 exact h1 m hm
theorem qRh {β:Type} {F:Nat→Option β} {x:β} (h:∃y,y=x∧Ev F y):Ev F x:=by
 obtain ⟨y,rfl,h⟩:=h
 exact h
theorem qBp {x y:ByteArray} {a b:Nat} (hx:x.size≤a) (hy:y.size≤b):(x++y).size≤a+b:=by rw [ByteArray.size_append];omega
theorem fit {x y:ByteArray} {a b:Nat} (hx:x.size≤a) (hy:y.size≤b) (h:a+b≤9000000000000000000):decide (x.size+y.size≤9223372036854775807)=true:=decide_eq_true (by omega)
abbrev Drn (l:List (List PV)) {α:Type} (P:α→Prop) (x:α×List (List PV)×Int):Prop:=x.2.1=l∧(0≤x.2.2∧x.2.2≤l.length)∧P x.1
def qP7 (n:Nat) (l:List (List PV)) (p:Int):Tr (ByteArray×List (List PV)×Int):= .opt (qAG n l p) fun r11=> .opt (qY n (5:Int) r11.2.2.1 r11.2.2.2) fun r13=> .opt (qY n (5:Int) r13.2.1 r13.2.2) fun r14=> .opt (qd n r11.1 r11.2.1 r13.1 r14.1) fun r30=> .done (r30,r14.2.1,r14.2.2)
theorem qNN {l:List (List PV)} {p:Int} (hl:qIY l) (hp:0≤p∧p≤l.length):Dwx (Drn l fun t:ByteArray=>t.size≤1000) fun n=>qP7 n l p:=by
 obtain ⟨a,b,p1,h1,h2⟩:=qOM hl hp
 obtain ⟨fc,p2,h3,h4⟩:=qFQ 5 (by decide) hl h1
 obtain ⟨fr,p3,h5,h6⟩:=qFQ 5 (by decide) hl h3
 refine qA2 (qDo h2) (qA2 (qDo h4) (qA2 (qDo h6) (qA2 (qBq a b fc fr) (qC4 ⟨rfl,h5,?_⟩))))
 have:=qD4 a b fc fr
 dsimp only
 omega
def qSN (n:Nat) (l:List (List PV)) (p:Int):Tr (ByteArray×List (List PV)×Int):= .opt (qT n (7:Int) l p) fun r8=> .ask (r8.1==(0:Int)) (qP7 n r8.2.1 r8.2.2) (.ask (r8.1==(1:Int)) (qP7 n r8.2.1 r8.2.2) (.ask (r8.1==(2:Int)) (qP7 n r8.2.1 r8.2.2) (.ask (r8.1==(3:Int))
 (.opt (qT n (6:Int) r8.2.1 r8.2.2) fun r39=>(.ask (decide (6=([[(.s (⟨#[34,97,34]⟩:ByteArray))],[(.s (⟨#[34,34]⟩:ByteArray))],[(.s (⟨#[84,82,85,69]⟩:ByteArray))],[(.s (⟨#[70,65,76,83,69]⟩:ByteArray))],[(.s (⟨#[35,82,69,70,33]⟩:ByteArray))],[(.s (⟨#[34,113,34,34,34]⟩:ByteArray))]]:List (List PV)).length∧0≤r39.1∧r39.1<((6:Nat):Int))) (.opt (([[(.s (⟨#[34,97,34]⟩:ByteArray))],[(.s (⟨#[34,34]⟩:ByteArray))],[(.s (⟨#[84,82,85,69]⟩:ByteArray))],[(.s (⟨#[70,65,76,83,69]⟩:ByteArray))],[(.s (⟨#[35,82,69,70,33]⟩:ByteArray))],[(.s (⟨#[34,113,34,34,34]⟩:ByteArray))]]:List (List PV))[(r39.1).toNat]?) fun e40=>(.opt (zu e40 0) fun y41=>(.done (y41,r39.2.1,r39.2.2)))) .fail))
 (.opt (qT n (12:Int) r8.2.1 r8.2.2) fun r42=>(.opt (qAJ n r42.1) fun r43=>(.done (r43,r42.2.1,r42.2.2)))))))
theorem qPL {l:List (List PV)} {p:Int} (hl:qIY l) (hp:0≤p∧p≤l.length):Dwx (Drn l fun t:ByteArray=>t.size≤1000) fun n=>qSN n l p:=by
 obtain ⟨a,p1,h1,ha,h2⟩:=qCW 7 (by decide) hl hp
 refine qA2 (qDo h2) ?_
 have c:a=0∨a=1∨a=2∨a=3∨¬(a=0∨a=1∨a=2∨a=3):=by omega
 rcases c with rfl|rfl|rfl|rfl|c
 ·exact qBX rfl (qNN hl h1)
 ·exact qCd rfl (qBX rfl (qNN hl h1))
 ·exact qCd rfl (qCd rfl (qBX rfl (qNN hl h1)))
 ·refine qCd rfl (qCd rfl (qCd rfl (qBX rfl ?_)))
  obtain ⟨b,p2,h3,hb,h4⟩:=qCW 6 (by decide) hl h1
  refine qA2 (qDo h4) ?_
  have c:b=0∨b=1∨b=2∨b=3∨b=4∨b=5:=by omega
  rcases c with rfl|rfl|rfl|rfl|rfl|rfl<;>exact qBX rfl (qEW rfl (qEW rfl (qC4 ⟨rfl,h3,by dsimp only;decide⟩)))
 ·refine qCd (beq_eq_false_iff_ne.2 (by dsimp only;omega)) (qCd (beq_eq_false_iff_ne.2 (by dsimp only;omega)) (qCd (beq_eq_false_iff_ne.2 (by dsimp only;omega)) (qCd (beq_eq_false_iff_ne.2 (by dsimp only;omega)) ?_)))
  obtain ⟨b,p2,h3,hb,h4⟩:=qCW 12 (by decide) hl h1
  refine qA2 (qDo h4) (qA2 (qGh b (by omega)) (qC4 ⟨rfl,h3,?_⟩))
  have:=qNk (x:=b) (by omega)
  dsimp only
  omega
theorem qPM {l:List (List PV)} (hl:qIY l):∀(d:Nat),d≤9→∀{p:Int},(0≤p∧p≤l.length)→∃(t:ByteArray) (p':Int),(0≤p'∧p'≤l.length)∧t.size≤1000*4^d∧Ev (fun n=>qAK n (d:Int) l p) (t,l,p')
 |0,_,p,hp=>by
  obtain ⟨⟨t,l',p'⟩,⟨rfl,h1,h2⟩,h3⟩:=qNM (F:=fun n=>qAK n ((0:Nat):Int) l p) (R:=fun n=>qCL (qAK n) n ((0:Nat):Int) l p) (qBX rfl (qPL hl hp)) fun n=>rfl
  exact ⟨t,p',h1,by simpa using h2,h3⟩
 |d+1,hd,p,hp=>by
  have ih:=fun {p:Int} (hp:0≤p∧p≤l.length)=>qPM hl d (by omega) (p:=p) hp
  have hb:1000≤1000*4^d:=Nat.le_mul_of_pos_right _ (Nat.pow_pos (by decide))
  have hb9:1000*4^d≤300000000:=by
   have:4^d≤4^9:=Nat.pow_le_pow_right (by decide) (by omega)
   have e:4^9=262144:=by decide
   omega
  have he:1000*4^(d+1)=4*(1000*4^d):=by rw [Nat.pow_succ];omega
  rw [he]
  generalize 1000*4^d=B at ih hb hb9
  have hw:IntKind.i64.wrap (((d+1:Nat):Int)-(1:Int))=(d:Int):=by rw [qb (by omega)];omega
  have key:Dwx (Drn l fun t:ByteArray=>t.size≤4*B) fun n=>qCL (qAK n) n ((d+1:Nat):Int) l p:=by
   unfold qCL
   rw [hw]
   refine qCd (beq_eq_false_iff_ne.2 (by omega)) ?_
   obtain ⟨o,p1,h1,h2⟩:=qFQ 3 (by decide) hl hp
   refine qA2 (qDo h2) ?_
   cases o with
   |true=>
    obtain ⟨⟨t,l',p'⟩,⟨rfl,g1,g2⟩,g3⟩:=qPL hl h1
    refine qBX rfl ⟨(t,l',p'),⟨rfl,g1,?_⟩,g3⟩
    dsimp only at g2⊢
    omega
   |false=>
    refine qCd rfl ?_
    obtain ⟨a,p2,h3,ha,h4⟩:=qCW 8 (by decide) hl h1
    refine qA2 (qDo h4) ?_
    have one:(⟨#[45]⟩:ByteArray).size≤9∧(⟨#[40]⟩:ByteArray).size≤9∧(⟨#[41]⟩:ByteArray).size≤9∧(⟨#[44]⟩:ByteArray).size≤9∧(⟨#[58]⟩:ByteArray).size≤9∧(⟨#[73,70,40]⟩:ByteArray).size≤9:=by decide
    obtain ⟨o1,o2,o3,o4,o5,o6⟩:=one
    have areaG:∀{K:Nat→Int×List (List PV)×Int→Int→Int→Int→Int→Tr (ByteArray×List (List PV)×Int)},(∀(u:ByteArray) (a b c d q:Int),u.size≤9→True)→True:=fun _=>trivial
    have c:a=0∨a=1∨(a=2∨a=3)∨a=4∨a=5∨¬(a=0∨a=1∨a=2∨a=3∨a=4∨a=5):=by omega
    rcases c with rfl|rfl|c|rfl|rfl|c
    ·refine qBX rfl ?_
     obtain ⟨t,p3,g1,g2,g3⟩:=ih h3
     exact qA2 g3 (qBX (fit o1 g2 (by omega)) (qC4 ⟨rfl,g1,Nat.le_trans (qBp o1 g2) (by omega)⟩))
    ·refine qCd rfl (qBX rfl ?_)
     obtain ⟨t,p3,g1,g2,g3⟩:=ih h3
     exact qA2 g3 (qBX (fit o2 g2 (by omega)) (qBX (fit (qBp o2 g2) o3 (by omega)) (qC4 ⟨rfl,g1,Nat.le_trans (qBp (qBp o2 g2) o3) (by omega)⟩)))
    ·obtain ⟨a1,a2,a3,a4,p3,g1,g2⟩:=qQ6 hl h3
     obtain ⟨b,p4,g3,hb',g4⟩:=qCW 6 (by decide) hl g1
     have z1:=qD4 a1 a2 false false
     have z2:=qD4 a3 a4 false false
     obtain ⟨t,p5,g5,g6,g7⟩:=ih g3
     have fin:∀(u:ByteArray),u.size≤9→Dwx (Drn l fun t:ByteArray=>t.size≤4*B) fun n=>(.ask (decide (u.size+(⟨#[40]⟩:ByteArray).size≤9223372036854775807)) (.opt (qd n a1 a2 false false) fun r83=>(.ask (decide ((u++(⟨#[40]⟩:ByteArray)).size+r83.size≤9223372036854775807)) (.ask (decide (((u++(⟨#[40]⟩:ByteArray))++r83).size+(⟨#[58]⟩:ByteArray).size≤9223372036854775807)) (.opt (qd n a3 a4 false false) fun r84=>(.ask (decide ((((u++(⟨#[40]⟩:ByteArray))++r83)++(⟨#[58]⟩:ByteArray)).size+r84.size≤9223372036854775807)) (.ask (decide (((((u++(⟨#[40]⟩:ByteArray))++r83)++(⟨#[58]⟩:ByteArray))++r84).size+(⟨#[44]⟩:ByteArray).size≤9223372036854775807)) (.opt (qAK n (d:Int) l p4) fun r85=>(.ask (decide ((((((u++(⟨#[40]⟩:ByteArray))++r83)++(⟨#[58]⟩:ByteArray))++r84)++(⟨#[44]⟩:ByteArray)).size+r85.1.size≤9223372036854775807)) (.ask (decide (((((((u++(⟨#[40]⟩:ByteArray))++r83)++(⟨#[58]⟩:ByteArray))++r84)++(⟨#[44]⟩:ByteArray))++r85.1).size+(⟨#[41]⟩:ByteArray).size≤9223372036854775807)) (.done ((((((((u++(⟨#[40]⟩:ByteArray))++r83)++(⟨#[58]⟩:ByteArray))++r84)++(⟨#[44]⟩:ByteArray))++r85.1)++(⟨#[41]⟩:ByteArray)),r85.2.1,r85.2.2)) .fail) .fail)) .fail) .fail)) .fail) .fail)) .fail:Tr (ByteArray×List (List PV)×Int)):=fun u hu=>by
      have s1:=qBp hu o2
      have s2:=qBp s1 z1
      have s3:=qBp s2 o5
      have s4:=qBp s3 z2
      have s5:=qBp s4 o4
      have s6:=qBp s5 g6
      exact qBX (fit hu o2 (by omega)) (qA2 (qBq a1 a2 false false) (qBX (fit s1 z1 (by omega)) (qBX (fit s2 o5 (by omega)) (qA2 (qBq a3 a4 false false) (qBX (fit s3 z2 (by omega)) (qBX (fit s4 o4 (by omega)) (qA2 g7 (qBX (fit s5 g6 (by omega)) (qBX (fit s6 o3 (by omega)) (qC4 ⟨rfl,g5,Nat.le_trans (qBp s6 o3) (by omega)⟩))))))))))
     have cb:b=0∨b=1∨b=2∨b=3∨b=4∨b=5:=by omega
     rcases c with rfl|rfl
     ·refine qCd rfl (qCd rfl (qBX rfl (qA2 (qDo g2) (qA2 (qDo g4) ?_))))
      rcases cb with rfl|rfl|rfl|rfl|rfl|rfl<;>exact qBX rfl (qEW rfl (qEW rfl (fin _ (by decide))))
     ·refine qCd rfl (qCd rfl (qCd rfl (qBX rfl (qA2 (qDo g2) (qA2 (qDo g4) ?_)))))
      rcases cb with rfl|rfl|rfl|rfl|rfl|rfl<;>exact qBX rfl (qEW rfl (qEW rfl (fin _ (by decide))))
    ·refine qCd rfl (qCd rfl (qCd rfl (qCd rfl (qBX rfl ?_))))
     obtain ⟨t1,p3,g1,g2,g3⟩:=ih h3
     obtain ⟨t2,p4,g4,g5,g6⟩:=ih g1
     obtain ⟨t3,p5,g7,g8,g9⟩:=ih g4
     have s1:=qBp o6 g2
     have s2:=qBp s1 o4
     have s3:=qBp s2 g5
     have s4:=qBp s3 o4
     have s5:=qBp s4 g8
     exact qA2 g3 (qBX (fit o6 g2 (by omega)) (qBX (fit s1 o4 (by omega)) (qA2 g6 (qBX (fit s2 g5 (by omega)) (qBX (fit s3 o4 (by omega)) (qA2 g9 (qBX (fit s4 g8 (by omega)) (qBX (fit s5 o3 (by omega)) (qC4 ⟨rfl,g7,Nat.le_trans (qBp s5 o3) (by omega)⟩)))))))))
    ·refine qCd rfl (qCd rfl (qCd rfl (qCd rfl (qCd rfl (qBX rfl ?_)))))
     obtain ⟨b,p3,g1,hb',g2⟩:=qCW 3 (by decide) hl h3
     obtain ⟨t,p4,g4,g5,g6⟩:=ih g1
     refine qA2 (qDo g2) ?_
     have cb:b=0∨b=1∨b=2:=by omega
     rcases cb with rfl|rfl|rfl<;>exact qBX rfl (qEW rfl (qEW rfl (qBX (fit (a:=9) (by decide) o2 (by omega)) (qA2 g6 (qBX (fit (qBp (a:=9) (by decide) o2) g5 (by omega)) (qBX (fit (qBp (qBp (a:=9) (by decide) o2) g5) o3 (by omega)) (qC4 ⟨rfl,g4,Nat.le_trans (qBp (qBp (qBp (a:=9) (by decide) o2) g5) o3) (by omega)⟩)))))))
    ·have ne:∀{x:Int},a≠x→(a==x)=false:=fun h=>beq_eq_false_iff_ne.2 h
     refine qCd (ne (by omega)) (qCd (ne (by omega)) (qCd (ne (by omega)) (qCd (ne (by omega)) (qCd (ne (by omega)) (qCd (ne (by omega)) ?_)))))
     obtain ⟨t1,p3,g1,g2,g3⟩:=ih h3
     obtain ⟨b,p4,g4,hb',g5⟩:=qCW 11 (by decide) hl g1
     obtain ⟨t2,p5,g7,g8,g9⟩:=ih g4
     have w1:IntKind.i64.wrap ((1:Int)+b)=1+b:=qb (by omega)
     have z:=qHa (op:=1+b) (by omega)
     refine qA2 g3 (qA2 (qDo g5) ?_)
     dsimp only
     rw [w1]
     exact qA2 (qFz (1+b) (by omega)) (qBX (fit g2 z (by omega)) (qA2 g9 (qBX (fit (qBp g2 z) g8 (by omega)) (qC4 ⟨rfl,g7,Nat.le_trans (qBp (qBp g2 z) g8) (by omega)⟩))))
  obtain ⟨⟨t,l',p'⟩,⟨rfl,h1,h2⟩,h3⟩:=qNM (F:=fun n=>qAK n ((d+1:Nat):Int) l p) key fun n=>rfl
  exact ⟨t,p',h1,h2,h3⟩
theorem qLt (l:List Int) (hb:l.length≤140737488351232):∀n,l.length+5≤n→qC6 n (l.map qAs) (l.map qAs)=some true:=by
 intro n hn
 obtain ⟨m,rfl,hm⟩:=up1 hn
 simp only [qC6,qFC,qC,qD,qF,qG,qH,qJ,Option.bind_some,qE,qK,qM]
 have h:=qOK (B:=qCC m) (rows:=l.map qAs) (r:= .inr ())
  (fun i e he=>by
   obtain ⟨c,hc,rfl⟩:=qQb he
   have hi:i<l.length:=(List.getElem?_eq_some_iff.1 hc).1
   have hi':(i:Int)<l.length:=by omega
   have hw:IntKind.i64.wrap ((i:Int)+1)=(i:Int)+1:=qb (by omega)
   simp [qCC,qC,qD,qF,qG,qH,qJ,Option.bind_some,qE,qK,qM,hi',hc,qAs,zE,hw])
  (by simp [qCC,qC,qD,qF,qG,qH,qJ,Option.bind_some,qE,qK,qM]) l.length 0 m (by simp) (by omega)
 simp only [Int.natCast_zero] at h
 simp [h,qC,qD,qF,qG,qH,qJ,Option.bind_some,qE,qK,qM]
theorem qK1 (l:List Nd) (hb:l.length≤140737488351232) (hk:∀c∈l,(kd c).length≤140737488351232):Ev (qDW · (l.map qV) (l.map qV)) true:=by
 obtain ⟨n0,h0⟩:=qCG (F:=fun c n=>qC6 n ((kd c).map qAs) ((kd c).map qAs)) (f:=fun _=>true) l fun c hc=>⟨_,qLt (kd c) (hk c hc)⟩
 refine ⟨n0+l.length+5,fun n hn=>?_⟩
 obtain ⟨m,rfl,hm⟩:=up1 hn
 have h:=qOK (B:=qDi m) (rows:=l.map qV) (r:= .inr ())
  (fun i e he=>by
   rw [List.getElem?_map] at he
   obtain ⟨c,hc,rfl⟩:=Option.map_eq_some_iff.1 he
   have hi:i<l.length:=(List.getElem?_eq_some_iff.1 hc).1
   have hw:IntKind.i64.wrap ((i:Int)+1)=((i+1:Nat):Int):=by rw [qb (by omega)];omega
   have hg:(l.map qV)[((i:Nat):Int).toNat]?=some (qV c):=by rw [Int.toNat_natCast,List.getElem?_map,hc];rfl
   have hc':(0:Int)≤(i:Int)∧(i:Int)<(l.map qV).length:=by simp;omega
   refine qN (decide_eq_true (by simpa using hi)) (qN (decide_eq_true hc') (qA hg (qN rfl ?_)))
   iterate 14 refine qA rfl ?_
   refine qN (decide_eq_true hc') (qA hg (qN rfl ?_))
   iterate 14 refine qA rfl ?_
   refine qO (bne_self_eq_false' _) (qO (bne_self_eq_false' _) (qO (by simp) (qO (by simp) (qO (by simp) (qA (h0 m (by omega) c (List.mem_of_getElem? hc)) (qO rfl ?_))))))
   show some _=some _
   rw [hw])
  (qO (by simp) rfl) l.length 0 m (by simp) (by omega)
 simp only [Int.natCast_zero] at h
 exact qO (by simp) (qA h rfl)
theorem nb {a b:Int} (h:¬a=b):(a==b)=false:=beq_eq_false_iff_ne.2 h
theorem qSO (c:Nd) (x:Int):zZ (qV c) 1 [.i .i64 x]=qV (c.1,x,c.2.2):=rfl
theorem qRb (c:Nd) (x:Int):zZ (qV c) 0 [.i .i64 x]=qV (x,c.2):=rfl
theorem qSU (c:Nd) (a b:Int) (p q:Bool):zZ (qV c) 5 [.i .i64 a,.i .i64 b,.b p,.b q]=qV (c.1,c.2.1,c.2.2.1,c.2.2.2.1,c.2.2.2.2.1,a,b,p,q,c.2.2.2.2.2.2.2.2.2):=rfl
def DrF (l:List (List PV)) (x:List (List PV)×List (List PV)×Int):Prop:=∃f:List Nd,(f.length≤60∧∀c∈f,qKr c)∧x.1=f.map qV∧x.2.1=l∧(0≤x.2.2∧x.2.2≤l.length)
theorem qPe {l:List (List PV)} (hl:qIY l) {p:Int} (hp:0≤p∧p≤l.length):∃(f:List Nd) (p':Int),(0≤p'∧p'≤l.length)∧(f.length≤60∧∀c∈f,qKr c)∧Ev (fun n=>qCe n l p) (f.map qV,l,p'):=by
 have key:Dwx (DrF l) fun n=>qDd n l p:=by
  obtain ⟨t,p1,h1,h2,h3⟩:=qPM hl 3 (by decide) hp
  have h2:t.size≤64000:=h2
  obtain ⟨o,p2,g1,g2⟩:=qFQ 30 (by decide) hl h1
  have g:=qQq t
  refine qA2 h3 (qA2 (qIm t (by omega)) (qA2 (qDo g2) ?_))
  dsimp only
  generalize (qE7 t).1=f at g⊢
  have eL:decide ((f.length:Nat)=(f.map qV).length)=true:=decide_eq_true (by simp)
  have same:∀{p:Int},(0≤p∧p≤l.length)→Dwx (DrF l) fun n=>(.ask (decide ((f.length:Nat)=(f.map qV).length)) (.done (f.map qV,l,p)) .fail:Tr (List (List PV)×List (List PV)×Int)):=fun hp=>qBX eL (qC4 ⟨f,g,rfl,rfl,hp⟩)
  cases o with
  |false=>exact qCd rfl (same g1)
  |true=>
   refine qBX rfl ?_
   by_cases hz:f.length=0
   ·exact qCd (decide_eq_false (by omega)) (same g1)
   refine qBX (decide_eq_true (by omega)) ?_
   obtain ⟨i,p3,k1,ki,k2⟩:=qQD (f.length:Int) (by have:=g.1;omega) hl g1
   obtain ⟨b,p4,m1,mb,m2⟩:=qCW 3 (by decide) hl k1
   refine qA2 (qDo k2) (qA2 (qDo m2) ?_)
   dsimp only
   obtain ⟨c,hc⟩:∃c,f[i.toNat]?=some c:=⟨_,List.getElem?_eq_getElem (by omega)⟩
   have ix:decide ((f.length:Nat)=(f.map qV).length∧0≤i∧i<((f.length:Nat):Int))=true:=decide_eq_true ⟨by simp,by omega,by omega⟩
   have hg:(f.map qV)[i.toNat]?=some (qV c):=by rw [List.getElem?_map,hc];rfl
   have hcs:=g.2 c (List.mem_of_getElem? hc)
   have fin:∀(e:List PV) (c':Nd),qKr c'→e=qV c'→∀{p:Int},(0≤p∧p≤l.length)→Dwx (DrF l) fun n=>(.ask (decide ((f.length:Nat)=((f.map qV).set i.toNat e).length)) (.done ((f.map qV).set i.toNat e,l,p)) .fail:Tr (List (List PV)×List (List PV)×Int)):=fun e c' hs he p hp=>by
    subst he
    refine qBX (decide_eq_true (by simp)) (qC4 ⟨f.set i.toNat c',⟨by simpa using g.1,fun x hx=>?_⟩,by rw [List.map_set],rfl,hp⟩)
    rcases List.mem_or_eq_of_mem_set hx with hx|rfl
    ·exact g.2 x hx
    ·exact hs
   have cb:b=0∨b=1∨b=2:=by omega
   rcases cb with rfl|rfl|rfl
   ·obtain ⟨x,p5,q1,_,q2⟩:=qMy 0 11 (by decide) hl m1
    exact qBX rfl (qA2 (qDo q2) (qBX ix (qEW hg (qBX rfl (fin _ _ (by exact hcs) (qSO c x) q1)))))
   ·obtain ⟨x,p5,q1,_,q2⟩:=qMy 1 6 (by decide) hl m1
    exact qCd rfl (qBX rfl (qA2 (qDo q2) (qBX ix (qEW hg (qBX rfl (fin _ _ (by exact hcs) (qRb c x) q1))))))
   ·obtain ⟨a,b,u,v,p5,q1,q2⟩:=qQa hl m1
    exact qCd rfl (qCd rfl (qBX rfl (qA2 (qDo q2) (qBX ix (qEW hg (qBX rfl (fin _ _ (by exact hcs) (qSU c a b u v) q1)))))))
 obtain ⟨⟨x,l',p'⟩,⟨f,h1,h2,h3,h4⟩,h5⟩:=qNM (F:=fun n=>qCe n l p) key fun n=>rfl
 dsimp only at h2 h3 h4
 subst h2;subst h3
 exact ⟨f,p',h4,h1,h5⟩
theorem qJ7 {l:List (List PV)} (hl:qIY l):∃f:List Nd,(f.length≤60∧∀c∈f,qKr c)∧Ev (qCx · l) (f.map qV):=by
 obtain ⟨f,p1,h1,h2,h3⟩:=qPe hl (p:=0) (by omega)
 refine ⟨f,h2,qRh (qNM (R:=fun n=>qCw n l) (qA2 (qDo (qQ3 l)) (qA2 h3 (qC4 rfl))) fun n=>rfl)⟩
theorem qQP {s:ByteArray} (h:s.toList= []):(qE7 s).2=false:=by
 unfold qE7
 rw [if_neg]
 rintro ⟨_,_,_,h4⟩
 unfold qKx at h4
 rw [h] at h4
 have e:qDZ (pP 4050 (.bin 1 0) ([],false,[])).2.2.2=false:=by decide+kernel
 rw [e] at h4
 cases h4
theorem qQQ {f:List Nd} (h:(qFN f).toList≠ []):qDZ f=true:=by
 cases hf:qDZ f with
 |true=>rfl
 |false=>
  exfalso
  apply h
  unfold qFN
  rw [hf]
  exact q9
theorem law (rows:List (List PV)) (w:rows.length*1≤140737488351232∧∀r∈rows,okR [.i .u8] r):Ev (qEY · rows) true:=by
 refine qRh (qNM (R:=fun n=>qDA n rows) (qA2 (qOn rows) ?_) fun n=>rfl)
 by_cases h:(rows.length:Int)>1048576
 ·exact qBX (decide_eq_true h) (qC4 rfl)
 refine qCd (decide_eq_false h) ?_
 have hl:=qQ2 w.2 h
 obtain ⟨f,⟨f1,f2⟩,hd⟩:=qJ7 hl
 have b:=qLs f2
 have hz:=qNF f
 have ok:=qES f (by omega) b
 refine qA2 hd (qA2 (qJK f (by omega) b) (qA2 (qJL (qFN f) (by omega)) (qA2 (qJJ f (by omega) b) (qCd (by simp) (qA2 ok (qA2 (qER f b) (qCd (by simp) ?_)))))))
 by_cases he:(qFN f).toList= []
 ·exact qBX (qSF he) (qBX (by rw [qQP he];rfl) (qC4 rfl))
 ·have hf:=qQQ he
  have hr:=qQO hf b he
  refine qCd (qRf he) (qBX (by rw [qRf he];rfl) (qBX (by rw [hr]) ?_))
  rw [hr]
  exact qA2 (qK1 f (by omega) fun c hc=>(b c hc).1) (qBX rfl (qA2 ok (qC4 hf)))
end Go.Proofs.YthhngmnbcmkhpaaGreatDoor.KFnFormulaTexts

