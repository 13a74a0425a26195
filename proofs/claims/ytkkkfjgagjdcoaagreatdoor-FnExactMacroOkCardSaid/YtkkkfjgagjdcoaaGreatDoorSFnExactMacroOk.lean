import Derived.Test.YtkkkfjgagjdcoaaGreatDoorTFnExactMacroOk
import Derived.Test.YtkkkfjgagjdcoaaGreatDoorE32
import Derived.Lib.Strings
import Derived.Test.YtkkkfjgagjdcoaaGreatDoorSFnExactMacroOkp1
namespace Go.Proofs.YtkkkfjgagjdcoaaGreatDoor.KFnExactMacroOk
open Go.Eng
set_option linter.unusedVariables false
set_option linter.unusedSimpArgs false
theorem qGl (r:List UInt8):qDK 3 r qBx=if [43].isPrefixOf r=true then 1 else if [45].isPrefixOf r=true then 2 else 0:=by
 simp [qDK,qBx,lvl,sg1,sg2,sg3,sg4,sg5,sg6,sg7,sg8,sg9,qQY,qQZ]
theorem qGm (r:List UInt8):qDK 4 r qBx=if [42].isPrefixOf r=true then 3 else if [47].isPrefixOf r=true then 4 else 0:=by
 simp [qDK,qBx,lvl,sg1,sg2,sg3,sg4,sg5,sg6,sg7,sg8,sg9,qQY,qQZ]
theorem qQy {m:Int} (hm:1≤m∧m≤4) (r:List UInt8):qDK m r qBx=if qAk r≠0∧lvl (qAk r)=m then qAk r else 0:=by
 have hm:m=1∨m=2∨m=3∨m=4:=by omega
 cases r with
 |nil=>rcases hm with rfl|rfl|rfl|rfl<;>simp [qGj,qGk,qGl,qGm,qAk,sgn,qDn,List.find?,List.isPrefixOf]
 |cons c t=>
  have f:∀d:UInt8,c≠d→(d==c)=false:=fun d hd=>by simpa using fun e=>hd e.symm
  by_cases h1:c=60
  ·subst h1
   cases t with
   |nil=>rcases hm with rfl|rfl|rfl|rfl<;>simp [qGj,qGk,qGl,qGm,qAk,qNL,List.isPrefixOf,lvl]
   |cons d t=>
    have g:∀e:UInt8,d≠e→(e==d)=false:=fun e hd=>by simpa using fun x=>hd x.symm
    by_cases hd:d=62
    ·subst hd;rcases hm with rfl|rfl|rfl|rfl<;>simp [qGj,qGk,qGl,qGm,qAk,qNL,List.isPrefixOf,lvl]
    ·by_cases hd2:d=61
     ·subst hd2;rcases hm with rfl|rfl|rfl|rfl<;>simp [qGj,qGk,qGl,qGm,qAk,qNL,List.isPrefixOf,lvl]
     ·rcases hm with rfl|rfl|rfl|rfl<;>simp [qGj,qGk,qGl,qGm,qAk,qNL,List.isPrefixOf,lvl,hd,hd2,g _ hd,g _ hd2]
  ·by_cases h2:c=62
   ·subst h2
    cases t with
    |nil=>rcases hm with rfl|rfl|rfl|rfl<;>simp [qGj,qGk,qGl,qGm,qAk,qOi,List.isPrefixOf,lvl]
    |cons d t=>
     have g:∀e:UInt8,d≠e→(e==d)=false:=fun e hd=>by simpa using fun x=>hd x.symm
     by_cases hd2:d=61
     ·subst hd2;rcases hm with rfl|rfl|rfl|rfl<;>simp [qGj,qGk,qGl,qGm,qAk,qOi,List.isPrefixOf,lvl]
     ·rcases hm with rfl|rfl|rfl|rfl<;>simp [qGj,qGk,qGl,qGm,qAk,qOi,List.isPrefixOf,lvl,hd2,g _ hd2]
   ·by_cases h:c∈([61,38,43,45,42,47,40,41,44,58]:List UInt8)
    ·have hs:sgn (c::t)= [c]:=by rw [qOh c t h1 h2,if_pos h]
     simp only [List.mem_cons,List.not_mem_nil,or_false] at h
     rcases h with rfl|rfl|rfl|rfl|rfl|rfl|rfl|rfl|rfl|rfl<;>rcases hm with rfl|rfl|rfl|rfl<;>
      simp [qGj,qGk,qGl,qGm,qAk,hs,List.isPrefixOf,lvl]
    ·have hs:sgn (c::t)= []:=by rw [qOh c t h1 h2,if_neg h]
     simp only [List.mem_cons,List.not_mem_nil,or_false,not_or] at h
     obtain ⟨a1,a2,a3,a4,a5,a6,a7,a8,a9,a10⟩:=h
     rcases hm with rfl|rfl|rfl|rfl<;>
      simp [qGj,qGk,qGl,qGm,qAk,hs,List.isPrefixOf,f _ h1,f _ h2,f _ a1,f _ a2,f _ a3,f _ a4,f _ a5,f _ a6]
theorem qPX {op:Int}:1≤lvl op∧lvl op≤4:=by unfold lvl;split<;>(try split)<;>(try split)<;>omega
def qKn (p:PS):Prop:=p.2.1=true∨∃x∈p.2.2,qEH x=false
theorem qCQ {x:Nd} {p:PS} (h:qKn p):qKn (qC0 x p).2:=by
 unfold qC0
 split
 ·exact .inl rfl
 ·rename_i hn
  rcases h with h|⟨y,hy,hb⟩
  ·exact absurd (.inl h) hn
  ·exact .inr ⟨y,List.mem_append_left _ hy,hb⟩
theorem qDq {w:List UInt8} {p:PS} (h:qKn p):qKn (qV w p).2:=by unfold qV;split<;>exact h
theorem qEm (p:PS):qKn (qPW p):= .inl rfl
theorem qG8 {w:List UInt8} {p:PS} (h:qKn p):qKn (qB7 w p):=by
 unfold qB7
 split
 ·exact h
 ·split
  ·exact qDq h
  ·exact qEm _
theorem qOC {p:PS} (h:qKn p):qKn (qA5 p).2:=by
 unfold qA5
 simp only
 split
 ·rcases h with h|h
  ·left
   simp only [Bool.or_eq_true]
   left
   have:(qV [58] (wr (tb p.1),p.2)).2.2=p.2:=by unfold qV;split<;>rfl
   rw [this];exact h
  ·right
   have:(qV [58] (wr (tb p.1),p.2)).2.2=p.2:=by unfold qV;split<;>rfl
   simp only [this]
   exact h
 ·exact h
theorem qCb:∀(f:Nat) (j:PJ) (p:PS),qKn p→qKn (pP f j p).2
 |0,j,p,h=>h
 |f+1,.bin least deep,p,h=>by
  simp only [pP]
  exact qCb f _ _ (qCb f _ _ h)
 |f+1,.loop least deep a,p,h=>by
  simp only [pP]
  split
  ·exact h
  ·split
   ·exact h
   ·exact qCb f _ _ (qCQ (qCb f _ _ h))
 |f+1,.un deep,p,h=>by
  simp only [pP]
  split
  ·exact qEm _
  ·split
   ·exact qCQ (qCb f _ _ (qDq h))
   ·exact qCb f _ _ (qDq h)
 |f+1,.at deep,p,h=>by
  simp only [pP]
  split
  ·split
   ·exact .inl rfl
   ·exact qCQ h
  ·split
   ·exact qCQ h
   ·split
    ·exact qG8 (qCb f _ _ (qDq h))
    ·split
     ·exact qCQ h
     ·split
      ·exact qCQ h
      ·split
       ·exact qCb f _ _ h
       ·exact qEm _
 |f+1,.call op deep,p,h=>by
  simp only [pP]
  exact qCb f _ _ (qG8 h)
 |f+1,.args op deep kids,p,h=>by
  simp only [pP]
  have hq:qKn (qDp (qA5 p) (fun p=>pP f (.bin 1 (deep+1)) p)).2:=by
   unfold qDp
   split
   ·exact qCQ (qOC h)
   ·exact qCb f _ _ (qOC h)
  revert hq
  generalize qDp (qA5 p) (fun p=>pP f (.bin 1 (deep+1)) p)=q
  intro hq
  split
  ·exact qCQ h
  ·split
   ·exact qCb f _ _ (qDq hq)
   ·exact qCQ (qG8 (qDq hq))
theorem qAq (x:Nd) (p:PS):(qC0 x p).2.1=p.1:=by unfold qC0;split<;>rfl
theorem qDL (w:List UInt8) (p:PS):(tb (qV w p).2.1).length≤(tb p.1).length:=by
 unfold qV
 split
 ·refine Nat.le_trans (qw _) ?_
  simp
 ·simp only;rw [qCD];exact Nat.le_refl _
theorem qI0 (w:List UInt8) (p:PS):(tb (qB7 w p).1).length≤(tb p.1).length:=by
 unfold qB7
 split
 ·exact Nat.le_refl _
 ·split
  ·exact qDL w p
  ·exact qDL w p
theorem qG9 (p:PS):(tb (qA5 p).2.1).length≤(tb p.1).length:=by
 unfold qA5
 simp only
 split
 ·simp only
  refine Nat.le_trans (qw _) (Nat.le_trans (qFu _) (Nat.le_trans (qDL [58] _) ?_))
  exact Nat.le_trans (qw _) (qFu _)
 ·exact Nat.le_refl _
theorem qI1:∀(acc r:List UInt8) {s t:List UInt8},qBr acc r=some (s,t)→t.length<r.length
 |acc,[],s,t,h=>by simp [qBr] at h
 |acc,c::r,s,t,h=>by
  unfold qBr at h
  by_cases hc:c=34
  ·rw [if_pos hc] at h
   match r,h with
   | [],h=>simp only [Option.some.injEq,Prod.mk.injEq] at h;rw [←h.2];simp
   |d::t',h=>
    simp only at h
    by_cases hd:d=34
    ·rw [if_pos hd] at h
     have:=qI1 _ t' h
     simp only [List.length_cons];omega
    ·rw [if_neg hd] at h
     simp only [Option.some.injEq,Prod.mk.injEq] at h
     rw [←h.2];simp
  ·rw [if_neg hc] at h
   have:=qI1 _ r h
   simp only [List.length_cons];omega
theorem qDE:∀(f:Nat) (j:PJ) (p:PS),(tb (pP f j p).2.1).length≤(tb p.1).length
 |0,j,p=>Nat.le_refl _
 |f+1,.bin least deep,p=>by
  simp only [pP]
  exact Nat.le_trans (qDE f _ _) (qDE f _ _)
 |f+1,.loop least deep a,p=>by
  simp only [pP]
  split
  ·exact Nat.le_refl _
  ·split
   ·simp only;rw [qCD];exact Nat.le_refl _
   ·refine Nat.le_trans (qDE f _ _) ?_
    rw [qAq]
    refine Nat.le_trans (qDE f _ _) (Nat.le_trans (qw _) ?_)
    simp
 |f+1,.un deep,p=>by
  simp only [pP]
  split
  ·exact Nat.le_refl _
  ·split
   ·rw [qAq]
    exact Nat.le_trans (qDE f _ _) (qDL _ _)
   ·exact Nat.le_trans (qDE f _ _) (qDL _ _)
 |f+1,.at deep,p=>by
  simp only [pP]
  split
  ·split
   ·simp only;rw [qCD];exact Nat.le_refl _
   ·rename_i s t hq
    rw [qAq]
    have:=qI1 _ _ hq
    refine Nat.le_trans (qw _) ?_
    have h2:((tb p.1).tail).length≤(tb p.1).length:=by simp
    simp only;omega
  ·split
   ·rw [qAq]
    refine Nat.le_trans (qw _) ?_
    simp
   ·split
    ·exact Nat.le_trans (qI0 _ _) (Nat.le_trans (qDE f _ _) (qDL _ _))
    ·have hw:(tb (wr (tb p.1))).length≤(tb p.1).length:=Nat.le_trans (qw _) (qFu _)
     split
     ·rw [qAq];exact hw
     ·split
      ·rw [qAq];exact hw
      ·split
       ·exact Nat.le_trans (qDE f _ _) hw
       ·exact hw
 |f+1,.call op deep,p=>by
  simp only [pP]
  exact Nat.le_trans (qDE f _ _) (qI0 _ _)
 |f+1,.args op deep kids,p=>by
  simp only [pP]
  have hq:(tb (qDp (qA5 p) (fun p=>pP f (.bin 1 (deep+1)) p)).2.1).length≤(tb p.1).length:=by
   unfold qDp
   split
   ·rw [qAq];exact qG9 p
   ·exact Nat.le_trans (qDE f _ _) (qG9 p)
  revert hq
  generalize qDp (qA5 p) (fun p=>pP f (.bin 1 (deep+1)) p)=q
  intro hq
  split
  ·rw [qAq];exact Nat.le_refl _
  ·split
   ·exact Nat.le_trans (qDE f _ _) (Nat.le_trans (qDL _ _) hq)
   ·rw [qAq]
    exact Nat.le_trans (qI0 _ _) (Nat.le_trans (qDL _ _) hq)
structure RdOK:Prop where
 v:∀w:List UInt8,w.all wch=true→w≠ []→(qf (BR w)).2.2.2=true→(qf (BR w)).1=1∨(qf (BR w)).1=3
 v0:¬((qf (BR [])).1=1∨(qf (BR [])).1=3)
 p0:(qAr (BR [])).2.2.2.2=false
 f:∀w op,qFD w 1 10=some op→(qf (BR w)).2.2.2=false∧(qAr (BR w)).2.2.2.2=false
 f0:qFD [] 1 10=none
 n:∀n:Int,1≤n∧n≤5→∃t,(qe n).toList=35::t
def Lk (p q:PS):Prop:=p.2.1=false∧q.2.1=false∧p.2.2=q.2.2∧tb p.1=tb q.1
def Sim (a b:Int×PS):Prop:=(a.1=b.1∧Lk a.2 b.2)∨(b.2.2.1=true∧qKn a.2)
def qRm (least:Int) (p:PS):Prop:=qAk (tb p.1)=0∨lvl (qAk (tb p.1))<least
def SimP (least:Int) (a b:Int×PS):Prop:=(a.1=b.1∧Lk a.2 b.2∧qRm least a.2)∨(b.2.2.1=true∧qKn a.2)
theorem SimP.sim {least:Int} {a b:Int×PS} (h:SimP least a b):Sim a b:=h.elim (fun h=> .inl ⟨h.1,h.2.1⟩) .inr
theorem qKo {x:Nd} {q:PS} (h:q.2.1=true):(qDZ x q).2.2.1=true:=by
 unfold qDZ;simp only;split
 ·rfl
 ·exact h
theorem qHY {w:List UInt8} {q:PS} (h:q.2.1=true):sIs w q=(false,tb q.1,q.2):=by unfold sIs;rw [if_pos h]
theorem qLZ:∀(g:Nat) (j:SJ) (q:PS),q.2.1=true→(sP g j q).2.2.1=true
 |0,j,q,h=>h
 |g+1,.row level,q,h=>by simp only [sP];rw [if_pos h];exact h
 |g+1,.rl level a,q,h=>by simp only [sP];rw [if_pos h];exact h
 |g+1,.one,q,h=>by
  simp only [sP]
  rw [qHY (w:= [45]) h]
  simp only [Bool.false_eq_true,if_false]
  rw [qHY (w:= [40]) (q:=(tb q.1,q.2)) h]
  simp only [Bool.false_eq_true,if_false]
  rw [qHY (w:= [34]) (q:=(tb q.1,q.2)) h]
  simp only [Bool.false_eq_true,if_false]
  rw [qHY (w:= [35]) (q:=(tb q.1,q.2)) h]
  simp only [Bool.false_eq_true,if_false]
  split
  ·rw [qHY (w:= [40]) (q:=(wr (tb q.1),q.2)) h]
   simp [qKF]
  ·split
   ·exact qKo h
   ·split
    ·exact qKo h
    ·rfl
 |g+1,.call op kids,q,h=>by simp only [sP];rw [if_pos h];exact h
 |g+1,.arg,q,h=>by
  simp only [sP]
  rw [qHY (w:= [58]) (q:=(wr (tb q.1),q.2)) h]
  simp only [Bool.false_eq_true,and_false,if_false]
  exact qLZ g _ _ h
theorem qHZ {x:Nd} {p q:PS} (h:Lk p q):Sim (qC0 x p) (qDZ x q):=by
 obtain ⟨h1,h2,h3,h4⟩:=h
 unfold qC0 qDZ
 rw [h1,h2,h3]
 by_cases hl:60≤q.2.2.length
 ·refine .inr ⟨?_,.inl ?_⟩
  ·simp only;rw [if_pos (.inl (by omega))]
  ·rw [if_pos (.inr hl)]
 ·rw [if_neg (by simp;omega)]
  by_cases hn:qEH x=false
  ·exact .inr ⟨by simp only;rw [if_pos (.inr hn)],.inr ⟨x,by simp,hn⟩⟩
  ·refine .inl ⟨rfl,rfl,?_,rfl,h4⟩
   simp only
   rw [if_neg]
   intro e
   rcases e with e|e
   ·omega
   ·exact hn e
theorem qO7 {a b:Int×PS} (f:Int→Nd) (h:Sim a b):Sim (qC0 (f a.1) a.2) (qDZ (f b.1) b.2):=by
 rcases h with ⟨h1,h2⟩|⟨h1,h2⟩
 ·rw [h1];exact qHZ h2
 ·exact .inr ⟨qKo h1,qCQ h2⟩
theorem qI2 {c:UInt8} (hc:c∈([45,40,41,44,58]:List UInt8)) {p q:PS} (h:Lk p q):(qV [c] p).1=(sIs [c] q).1∧Lk (qV [c] p).2 (sIs [c] q).2:=by
 obtain ⟨h1,h2,h3,h4⟩:=h
 obtain ⟨e1,e2,e3,e4⟩:=qQx hc h2 h4
 refine ⟨e1,?_,?_,?_,?_⟩
 ·rw [e3];exact h1
 ·rw [e4];exact h2
 ·rw [e3,e4];exact h3
 ·rw [e2]
theorem qO8 {c:UInt8} (hc:c∈([45,40,41,44,58]:List UInt8)) {a b:Int×PS} (h:Sim a b):Sim (a.1,qB7 [c] a.2) (b.1,if (sIs [c] b.2).1=true then (sIs [c] b.2).2 else qKF (sIs [c] b.2).2):=by
 rcases h with ⟨h1,h2⟩|⟨h1,h2⟩
 ·obtain ⟨e1,e2⟩:=qI2 hc h2
  unfold qB7
  rw [if_neg (by rw [h2.1];simp),e1]
  by_cases ht:(sIs [c] b.2).1=true
  ·rw [if_pos ht,if_pos ht]
   exact .inl ⟨h1,e2⟩
  ·rw [if_neg ht,if_neg ht]
   exact .inr ⟨rfl,qEm _⟩
 ·refine .inr ⟨?_,qG8 h2⟩
  rw [qHY h1]
  simp [qKF]
def qIB (G:Nat) (least:Int):Nat→Int×PS→Int×PS→Prop
 |0,x,res=>res=x
 |m+1,x,res=>if ((m:Int)+1)<least then res=x else ∃g,G≤g∧qIB G least m (sP g (.rl ((m:Int)+1) x.1) x.2) res
theorem qLa {G G':Nat} (h:G'≤G) {least:Int}:∀(m:Nat) {x res:Int×PS},qIB G least m x res→qIB G' least m x res
 |0,x,res,ht=>ht
 |m+1,x,res,ht=>by
  unfold qIB at ht⊢
  split
  ·rename_i hc;rw [if_pos hc] at ht;exact ht
  ·rename_i hc
   rw [if_neg hc] at ht
   obtain ⟨g,h1,h2⟩:=ht
   exact ⟨g,Nat.le_trans h h1,qLa h m h2⟩
theorem qKp {G:Nat} {least:Int}:∀(m:Nat) {x res:Int×PS},x.2.2.1=true→qIB G least m x res→res.2.2.1=true
 |0,x,res,hb,ht=>by unfold qIB at ht;rw [ht];exact hb
 |m+1,x,res,hb,ht=>by
  unfold qIB at ht
  split at ht
  ·rw [ht];exact hb
  ·obtain ⟨g,_,h2⟩:=ht
   exact qKp m (qLZ g _ _ hb) h2
theorem qOD {G:Nat} {l:Nat} (hl0:1≤l) {g:Nat} (hg:G≤g):∀(m:Nat) {x y:Int×PS},l≤m→qIB G ((l:Int)+1) m x y→qIB G (l:Int) m x (sP g (.rl (l:Int) y.1) y.2)
 |0,x,y,hl,ht=>by omega
 |m+1,x,y,hl,ht=>by
  unfold qIB at ht⊢
  rw [if_neg (by omega)]
  by_cases e:l=m+1
  ·subst e
   rw [if_pos (by omega)] at ht
   subst ht
   refine ⟨g,hg,?_⟩
   have key:∀{z:Int×PS},qIB G ((m+1:Nat):Int) m z z:=fun {z}=>by
    cases m with
    |zero=>rfl
    |succ k=>unfold qIB;rw [if_pos (by omega)]
   exact key
  ·rw [if_neg (by omega)] at ht
   obtain ⟨g',h1,h2⟩:=ht
   exact ⟨g',h1,qOD hl0 hg m (by omega) h2⟩
theorem qO9 {G:Nat} {q:PS} (hq:q.2.1=false):∀(k:Nat),k≤4→∀g,G+k≤g→∃g5,G≤g5∧qIB G (5-(k:Int)) 4 (sP g5 (.row 5) q) (sP g (.row (5-(k:Int))) q)
 |0,_,g,hg=>⟨g,hg,by
  unfold qIB
  rw [if_pos (by decide)]
  simp⟩
 |k+1,hk,0,hg=>by omega
 |k+1,hk,g+1,hg=>by
  obtain ⟨g5,h1,h2⟩:=qO9 (G:=G) hq k (by omega) g (by omega)
  refine ⟨g5,h1,?_⟩
  have e:(5-((k+1:Nat):Int))=((4-k:Nat):Int):=by omega
  have e1:(5-(k:Int))=((4-k:Nat):Int)+1:=by omega
  rw [e1] at h2
  rw [e]
  have:=qOD (G:=G) (l:=4-k) (by omega) (g:=g) (by omega) 4 (by omega) h2
  have e2:sP (g+1) (.row ((4-k:Nat):Int)) q=sP g (.rl ((4-k:Nat):Int) (sP g (.row (((4-k:Nat):Int)+1)) q).1) (sP g (.row (((4-k:Nat):Int)+1)) q).2:=by
   simp only [sP]
   rw [if_neg (by rw [hq];simp),if_neg (by omega)]
  rw [e2]
  exact this
theorem qQa (H:RdOK) {r:List UInt8} (h:r.head?=some 35):∀(k:Nat) (n:Int),1≤n→n+k≤6→qO6 r.tail n k=qHx r n k
 |0,n,_,_=>rfl
 |k+1,n,h1,h2=>by
  obtain ⟨t,ht⟩:=H.n n ⟨h1,by omega⟩
  cases r with
  |nil=>cases h
  |cons c r=>
   simp only [List.head?_cons,Option.some.injEq] at h
   subst h
   simp only [qO6,qHx,ht,List.tail_cons]
   have ih:=qQa H (r:=35::r) rfl k (n+1) (by omega) (by omega)
   simp only [List.tail_cons] at ih
   rw [ih]
   simp [List.isPrefixOf]
theorem qPA {r:List UInt8}:∀(k:Nat) (n:Int) {m:Int},qHx r n k=some m→n≤m∧m<n+k
 |0,n,m,h=>by cases h
 |k+1,n,m,h=>by
  simp only [qHx] at h
  split at h
  ·simp only [Option.some.injEq] at h;omega
  ·have:=qPA k (n+1) h;omega
theorem qED (c:UInt8) (r:List UInt8):([c].isPrefixOf r=true)↔r.head?=some c:=by
 cases r with
 |nil=>simp [List.isPrefixOf]
 |cons d t=>simp [List.isPrefixOf];exact eq_comm
theorem qKq {c:UInt8} {q:PS} (hb:q.2.1=false):(sIs [c] q).1=true↔(tb q.1).head?=some c:=by
 unfold sIs
 rw [if_neg (by rw [hb];simp)]
 split
 ·rename_i h;exact ⟨fun _=>(qED c _).1 h,fun _=>rfl⟩
 ·rename_i h;exact ⟨fun e=>(by cases e),fun e=>absurd ((qED c _).2 e) h⟩
theorem qPY (r:List UInt8):(wd r).all wch=true:=by
 unfold wd
 induction r with
 |nil=>rfl
 |cons c r ih=>
  by_cases h:wch c=true
  ·simp only [List.takeWhile_cons,h,if_true,List.all_cons,Bool.true_and];exact ih
  ·simp [List.takeWhile_cons,h]
def qQz (N:Nat):Prop:=∀(p q:PS) (deep:Int) (f g:Nat),Lk p q→(tb p.1).length=N→0≤deep→deep+N≤400→20*N+4≤f→20*N+5≤g→Sim (pP f (.un deep) p) (sP g (.row 5) q)
def qQ0 (N:Nat):Prop:=∀(m:Nat),m≤4→∀(p q:PS) (deep least a:Int) (f:Nat) (res:Int×PS),Lk p q→(tb p.1).length=N→1≤least→0≤deep→deep+N≤400→20*N+5≤f→
 (qAk (tb p.1)=0∨lvl (qAk (tb p.1))≤m)→qIB (20*N+5) least m (a,q) res→SimP least (pP f (.loop least deep a) p) res
def qQb (N:Nat):Prop:=∀(p q:PS) (deep:Int) (k f g:Nat),k≤4→Lk p q→(tb p.1).length=N→0≤deep→deep+N≤400→20*N+6≤f→20*N+10≤g→SimP (5-(k:Int)) (pP f (.bin (5-(k:Int)) deep) p) (sP g (.row (5-(k:Int))) q)
def qQ1 (N:Nat):Prop:=∀(p q:PS) (deep op:Int) (kids:List Int) (f g:Nat),Lk p q→(tb p.1).length=N→0≤deep→deep+N+1≤400→20*N+8≤f→20*N+12≤g→Sim (pP f (.args op deep kids) p) (sP g (.call op kids) q)
theorem qRx (N:Nat) (hB:∀M,M<N→qQb M) (hT:∀M,M<N→qQ0 M):qQ0 N:=by
 intro m
 induction m with
 |zero=>
  intro hm p q deep least a f res hl hN hle hd hdN hf hpk ht
  have h0:qAk (tb p.1)=0:=by
   rcases hpk with h|h
   ·exact h
   ·have:=(qPX (op:=qAk (tb p.1))).1
    omega
  cases f with
  |zero=>omega
  |succ f=>
   simp only [pP]
   rw [if_neg (by rw [hl.1];simp),if_pos (.inl h0)]
   unfold qIB at ht
   subst ht
   refine .inl ⟨rfl,⟨hl.1,hl.2.1,hl.2.2.1,?_⟩,.inl ?_⟩
   ·simp only;rw [qCD];exact hl.2.2.2
   ·simp only;rw [qCD];exact h0
 |succ m ih=>
  intro hm p q deep least a f res hl hN hle hd hdN hf hpk ht
  unfold qIB at ht
  by_cases hc:(m:Int)+1<least
  ·rw [if_pos hc] at ht
   subst ht
   cases f with
   |zero=>omega
   |succ f=>
    have hst:qAk (tb p.1)=0∨lvl (qAk (tb p.1))<least:=by
     rcases hpk with h|h
     ·exact .inl h
     ·right;push_cast at h;omega
    simp only [pP]
    rw [if_neg (by rw [hl.1];simp),if_pos hst]
    refine .inl ⟨rfl,⟨hl.1,hl.2.1,hl.2.2.1,?_⟩,?_⟩
    ·simp only;rw [qCD];exact hl.2.2.2
    ·unfold qRm;simp only;rw [qCD];exact hst
  ·rw [if_neg hc] at ht
   obtain ⟨g,hg,ht⟩:=ht
   cases g with
   |zero=>omega
   |succ g=>
    have hin:=qQy (m:=(m:Int)+1) (by omega) (tb q.1)
    have hpq:tb p.1=tb q.1:=hl.2.2.2
    simp only [sP] at ht
    rw [if_neg (by rw [hl.2.1];simp)] at ht
    have ho:sOp ((m:Int)+1) q=(qDK ((m:Int)+1) (tb q.1) qBx,(if qDK ((m:Int)+1) (tb q.1) qBx=0 then tb q.1 else (tb q.1).drop (qAI (qDK ((m:Int)+1) (tb q.1) qBx)).size),q.2):=by
     unfold sOp;rw [if_neg (by rw [hl.2.1];simp)]
    by_cases hop:qAk (tb q.1)≠0∧lvl (qAk (tb q.1))=(m:Int)+1
    ·rw [if_pos hop] at hin
     rw [hin,if_neg hop.1] at ho
     rw [ho] at ht
     simp only at ht
     rw [if_neg hop.1] at ht
     cases f with
     |zero=>omega
     |succ f=>
      simp only [pP]
      rw [if_neg (by rw [hl.1];simp),if_neg (by rw [hpq];exact fun e=>e.elim (fun e=>hop.1 e) (fun e=>by have:=hop.2;omega))]
      rw [hpq]
      rcases qPv (tb q.1) with h0|⟨_,_,hsg⟩
      ·exact absurd h0 hop.1
      have hsz:(sgn (tb q.1)).length=(qAI (qAk (tb q.1))).size:=by rw [hsg,qAN]
      have hpos:0<(sgn (tb q.1)).length:=by
       cases hh:sgn (tb q.1) with
       |nil=>
        exfalso
        apply hop.1
        unfold qAk
        rw [hh]
        simp
       |cons c t=>simp
      have hdrop:(tb ((tb q.1).drop (sgn (tb q.1)).length)).length<N:=by
       have h1:=qw ((tb q.1).drop (sgn (tb q.1)).length)
       have h2:(sgn (tb q.1)).length≤(tb q.1).length∨(tb q.1).length<(sgn (tb q.1)).length:=by omega
       rw [List.length_drop] at h1
       have h3:(tb q.1).length=N:=by rw [←hpq];exact hN
       have h4:0<N:=by
        rcases Nat.eq_zero_or_pos N with h|h
        ·exfalso
         rw [h] at h3
         have:tb q.1= []:=List.eq_nil_of_length_eq_zero h3
         apply hop.1
         rw [this];rfl
        ·exact h
       omega
      have hlk:Lk ((tb q.1).drop (sgn (tb q.1)).length,p.2) ((tb q.1).drop (qAI (qAk (tb q.1))).size,q.2):=⟨hl.1,hl.2.1,hl.2.2.1,by simp only;rw [hsz]⟩
      have hb:=hB _ hdrop ((tb q.1).drop (sgn (tb q.1)).length,p.2) ((tb q.1).drop (qAI (qAk (tb q.1))).size,q.2) deep (3-m) f g (by omega) hlk rfl hd (by omega) (by omega) (by omega)
      have e5:(5-((3-m:Nat):Int))=(m:Int)+1+1:=by omega
      rw [e5] at hb
      rw [hop.2]
      have hlenA:=qDE f (.bin ((m:Int)+1+1) deep) ((tb q.1).drop (sgn (tb q.1)).length,p.2)
      generalize pP f (.bin ((m:Int)+1+1) deep) ((tb q.1).drop (sgn (tb q.1)).length,p.2)=A at hb hlenA⊢
      generalize hBB:sP g (.row ((m:Int)+1+1)) ((tb q.1).drop (qAI (qAk (tb q.1))).size,q.2)=B at hb ht
      rcases hb with ⟨b1,b2,b3⟩|⟨b1,b2⟩
      ·rw [b1]
       have hs:=qHZ (x:=ndK 5 (qAk (tb q.1)) [a,B.1]) b2
       generalize hC:qC0 (ndK 5 (qAk (tb q.1)) [a,B.1]) A.2=C at hs⊢
       generalize qDZ (ndK 5 (qAk (tb q.1)) [a,B.1]) B.2=D at hs ht
       rcases hs with ⟨c1,c2⟩|⟨c1,c2⟩
       ·have hrC:C.2.1=A.2.1:=by rw [←hC];exact qAq _ _
        have hN3:(tb C.2.1).length<N:=by
         rw [hrC]
         exact Nat.lt_of_le_of_lt hlenA hdrop
        refine hT _ hN3 (m+1) hm C.2 D.2 deep least C.1 f res c2 rfl hle hd (by omega) (by omega) ?_ ?_
        ·rw [hrC]
         rcases b3 with h|h
         ·exact .inl h
         ·right;push_cast;omega
        ·rw [c1]
         unfold qIB
         rw [if_neg hc]
         exact ⟨g,by omega,qLa (by omega) m ht⟩
       ·exact .inr ⟨qKp _ (qLZ g _ _ c1) ht,qCb f _ _ c2⟩
      ·exact .inr ⟨qKp _ (qLZ g _ _ (qKo b1)) ht,qCb f _ _ (qCQ b2)⟩
    ·rw [if_neg hop] at hin
     rw [hin,if_pos rfl] at ho
     rw [ho] at ht
     simp only at ht
     rw [if_pos trivial] at ht
     refine ih (by omega) p (tb q.1,q.2) deep least a f res ⟨hl.1,hl.2.1,hl.2.2.1,by simp only;rw [qCD];exact hpq⟩ hN hle hd hdN hf ?_ ht
     rw [hpq]
     rw [hpq] at hpk
     by_cases h0:qAk (tb q.1)=0
     ·exact .inl h0
     ·right
      rcases hpk with h|h
      ·exact absurd h h0
      ·have:lvl (qAk (tb q.1))≠(m:Int)+1:=fun e=>hop ⟨h0,e⟩
       push_cast at h
       omega
theorem qQ2 (N:Nat) (hA:qQz N) (hT:∀M,M≤N→qQ0 M):qQb N:=by
 intro p q deep k f g hk hl hN hd hdN hf hg
 obtain ⟨g5,hg5,ht⟩:=qO9 (G:=20*N+5) hl.2.1 k hk g (by omega)
 cases f with
 |zero=>omega
 |succ f=>
  simp only [pP]
  have ha:=hA p q deep f g5 hl hN hd hdN (by omega) hg5
  have hlen:=qDE f (.un deep) p
  generalize pP f (.un deep) p=A at ha hlen⊢
  generalize sP g5 (.row 5) q=B at ha ht
  rcases ha with ⟨h1,h2⟩|⟨h1,h2⟩
  ·have hM:(tb A.2.1).length≤N:=by omega
   refine hT _ hM 4 (by omega) A.2 B.2 deep (5-(k:Int)) A.1 f _ h2 rfl (by omega) hd (by omega) (by omega) (.inr ?_) ?_
   ·have:=(qPX (op:=qAk (tb A.2.1))).2;omega
   ·rw [h1];exact qLa (by omega) 4 ht
  ·exact .inr ⟨qKp 4 h1 ht,qCb f _ _ h2⟩
theorem qQ3 (H:RdOK) (N:Nat) (hB:qQb N) (hC:∀M,M<N→qQ1 M):qQ1 N:=by
 intro p q deep op kids f g hl hN hd hdN hf hg
 cases f with
 |zero=>omega
 |succ f=>
 cases g with
 |zero=>omega
 |succ g=>
 cases g with
 |zero=>omega
 |succ g=>
 have hpq:=hl.2.2.2
 have hpb:¬p.2.1=true:=by rw [hl.1];simp
 have hqb:¬q.2.1=true:=by rw [hl.2.1];simp
 have harg:Sim (qDp (qA5 p) (fun p=>pP f (.bin 1 (deep+1)) p)) (sP (g+1) .arg q)∧(tb (qDp (qA5 p) (fun p=>pP f (.bin 1 (deep+1)) p)).2.1).length≤N:=by
  refine ⟨?_,?_⟩
  ·have hw:Lk (wr (tb p.1),p.2) (wr (tb q.1),q.2):=⟨hl.1,hl.2.1,hl.2.2.1,by rw [hpq]⟩
   obtain ⟨e1,e2⟩:=qI2 (c:=58) (by decide) hw
   simp only [sP]
   unfold qDp qA5
   simp only
   rw [hpq] at e1 e2⊢
   by_cases hc:(qAr (BR (wd (tb q.1)))).2.2.2.2=true∧(qV [58] (wr (tb q.1),p.2)).1=true
   ·rw [if_pos hc,if_pos ⟨hc.1,e1▸hc.2⟩]
    simp only
    rw [e2.2.2.2]
    by_cases h2:(qAr (BR (wd (tb (sIs [58] (wr (tb q.1),q.2)).2.1)))).2.2.2.2=true
    ·rw [if_pos h2,h2]
     simp only [Bool.not_true,Bool.or_false]
     exact qHZ ⟨e2.1,e2.2.1,e2.2.2.1,rfl⟩
    ·rw [if_neg h2]
     refine .inr ⟨rfl,qCQ (.inl ?_)⟩
     simp only
     have h2:(qAr (BR (wd (tb (sIs [58] (wr (tb q.1),q.2)).2.1)))).2.2.2.2=false:=by simpa using h2
     rw [h2];simp
   ·rw [if_neg hc,if_neg (fun e=>hc ⟨e.1,e1.symm▸e.2⟩)]
    simp only
    have:=hB p (tb q.1,q.2) (deep+1) 4 f g (by omega) ⟨hl.1,hl.2.1,hl.2.2.1,by simp only;rw [qCD];exact hpq⟩ hN (by omega) (by omega) (by omega) (by omega)
    exact this.sim
  ·unfold qDp
   split
   ·rw [qAq];have:=qG9 p;omega
   ·have h1:=qDE f (.bin 1 (deep+1)) (qA5 p).2
    have h2:=qG9 p
    exact Nat.le_trans h1 (by omega)
 obtain ⟨harg,hal⟩:=harg
 simp only [pP]
 rw [if_neg hpb]
 have hs:sP (g+1+1) (.call op kids) q=(if (sIs [41] (sP (g+1) .arg q).2).1=true then qDZ (ndK 6 op (kids++ [(sP (g+1) .arg q).1])) (sIs [41] (sP (g+1) .arg q).2).2
  else sP (g+1) (.call op (kids++ [(sP (g+1) .arg q).1])) (if (sIs [44] (sIs [41] (sP (g+1) .arg q).2).2).1=true then (sIs [44] (sIs [41] (sP (g+1) .arg q).2).2).2 else qKF (sIs [44] (sIs [41] (sP (g+1) .arg q).2).2).2)):=by
  rw [sP]
  rw [if_neg hqb]
 rw [hs]
 generalize qDp (qA5 p) (fun p=>pP f (.bin 1 (deep+1)) p)=Q at harg hal⊢
 generalize sP (g+1) .arg q=A at harg⊢
 rcases harg with ⟨h1,h2⟩|⟨h1,h2⟩
 ·have hb2:=h2.2.1
  obtain ⟨c1,c2⟩:=qI2 (c:=44) (by decide) h2
  have i41:=qKq (c:=41) hb2
  have i44:=qKq (c:=44) hb2
  by_cases hc:(qV [44] Q.2).1=true
  ·rw [if_pos hc]
   have hh:=i44.1 (c1▸hc)
   have n41:¬(sIs [41] A.2).1=true:=fun e=>by rw [i41.1 e] at hh;cases hh
   rw [if_neg n41]
   have e41:(sIs [41] A.2).2=(tb A.2.1,A.2.2):=by
    unfold sIs at n41⊢
    rw [if_neg (by rw [hb2];simp)] at n41⊢
    split
    ·rename_i hx;rw [if_pos hx] at n41;exact absurd rfl n41
    ·rfl
   rw [e41]
   have e44:sIs [44] (tb A.2.1,A.2.2)=sIs [44] A.2:=by unfold sIs;simp only [qCD]
   rw [e44,if_pos (c1▸hc),h1]
   have hlt:=qDD (w:= [44]) (by simp) hc
   have htb:=qw (qV [44] Q.2).2.1
   exact hC _ (by omega) (qV [44] Q.2).2 (sIs [44] A.2).2 deep op _ f (g+1) c2 rfl hd (by omega) (by omega) (by omega)
  ·rw [if_neg hc]
   have et:(qV [44] Q.2).2=(tb Q.2.1,Q.2.2):=by
    unfold qV at hc⊢
    split
    ·rename_i hx;rw [if_pos hx] at hc;exact absurd rfl hc
    ·rfl
   rw [et]
   have hl2:Lk (tb Q.2.1,Q.2.2) A.2:=⟨h2.1,h2.2.1,h2.2.2.1,by simp only;rw [qCD];exact h2.2.2.2⟩
   have hm:=qO8 (c:=41) (by decide) (a:=(A.1,(tb Q.2.1,Q.2.2))) (b:=(A.1,A.2)) (.inl ⟨rfl,hl2⟩)
   by_cases h41:(sIs [41] A.2).1=true
   ·rw [if_pos h41]
    simp only [h41,if_true] at hm
    have:=qO7 (fun _=>ndK 6 op (kids++ [A.1])) hm
    rw [h1]
    exact this
   ·rw [if_neg h41]
    have e41:(sIs [41] A.2).2=(tb A.2.1,A.2.2):=by
     unfold sIs at h41⊢
     rw [if_neg (by rw [hb2];simp)] at h41⊢
     split
     ·rename_i hx;rw [if_pos hx] at h41;exact absurd rfl h41
     ·rfl
    have e44:sIs [44] (tb A.2.1,A.2.2)=sIs [44] A.2:=by unfold sIs;simp only [qCD]
    rw [e41,e44,if_neg (c1▸hc)]
    refine .inr ⟨qLZ _ _ _ rfl,qCQ ?_⟩
    simp only [if_neg h41] at hm
    rcases hm with ⟨_,_,hb,_⟩|⟨_,hdm⟩
    ·simp [qKF] at hb
    ·exact hdm
 ·have e41:sIs [41] A.2=(false,tb A.2.1,A.2.2):=qHY h1
  have e44:sIs [44] (tb A.2.1,A.2.2)=(false,tb (tb A.2.1),A.2.2):=qHY h1
  rw [e41]
  simp only [Bool.false_eq_true,if_false]
  rw [e44]
  simp only [Bool.false_eq_true,if_false]
  refine .inr ⟨qLZ _ _ _ rfl,?_⟩
  split
  ·exact qCb f _ _ (qDq h2)
  ·exact qCQ (qG8 (qDq h2))
theorem qPB {c d:UInt8} (h:c≠d) {r:List UInt8} (hr:r.head?=some c):¬r.head?=some d:=by rw [hr];simpa using h
theorem qQ4 (H:RdOK) (N:Nat) (hA:∀M,M<N→qQz M) (hB:∀M,M<N→qQb M) (hC:∀M,M<N→qQ1 M):qQz N:=by
 intro p q deep f g hl hN hd hdN hf hg
 cases f with
 |zero=>omega
 |succ f=>
 cases f with
 |zero=>omega
 |succ f=>
 cases g with
 |zero=>omega
 |succ g=>
 cases g with
 |zero=>omega
 |succ g=>
 have hpq:=hl.2.2.2
 have hpb:¬p.2.1=true:=by rw [hl.1];simp
 have hqb:¬q.2.1=true:=by rw [hl.2.1];simp
 have hq0:=hl.2.1
 have hs:sP (g+1+1) (.row 5) q=sP (g+1) .one q:=by
  rw [sP,if_neg hqb,if_pos rfl]
 rw [hs]
 obtain ⟨e1,e2⟩:=qI2 (c:=45) (by decide) hl
 rw [pP]
 rw [if_neg (by intro e;rcases e with e|e;omega;exact hpb e)]
 by_cases hc:(qV [45] p).1=true
 ·rw [if_pos hc]
  simp only [sP]
  rw [if_pos (e1▸hc)]
  have hlt:=qDD (w:= [45]) (by simp) hc
  have htb:=qw (qV [45] p).2.1
  exact qO7 (fun k=>ndK 4 0 [k]) (hA _ (by omega) _ _ (deep+1) (f+1) g e2 rfl (by omega) (by omega) (by omega) (by omega))
 ·rw [if_neg hc]
  have hp':(qV [45] p).2=(tb p.1,p.2):=by
   unfold qV at hc⊢
   split
   ·rename_i hx;rw [if_pos hx] at hc;exact absurd rfl hc
   ·rfl
  have hq':(sIs [45] q).2=(tb q.1,q.2):=by
   have hc:¬(sIs [45] q).1=true:=e1▸hc
   unfold sIs at hc⊢
   rw [if_neg hqb] at hc⊢
   split
   ·rename_i hx;rw [if_pos hx] at hc;exact absurd rfl hc
   ·rfl
  rw [hp']
  simp only [sP]
  rw [if_neg (e1▸hc),hq']
  simp only [pP,qCD]
  have hl2:Lk (tb p.1,p.2) (tb q.1,q.2):=⟨hl.1,hl.2.1,hl.2.2.1,by simp only [qCD];exact hpq⟩
  obtain ⟨f1,f2⟩:=qI2 (c:=40) (by decide) hl2
  have i40:=qKq (c:=40) (q:=(tb q.1,q.2)) hq0
  have i34:=qKq (c:=34) (q:=(tb q.1,q.2)) hq0
  have i35:=qKq (c:=35) (q:=(tb q.1,q.2)) hq0
  simp only [qCD] at i40 i34 i35
  rw [hpq] at hN f1 f2⊢
  by_cases h34:(tb q.1).head?=some 34
  ·rw [if_pos h34,if_neg (fun e=>qPB (by decide) h34 (i40.1 e)),if_pos (i34.2 h34)]
   have es:(sIs [34] (tb q.1,q.2)).2.1=(tb q.1).tail:=by
    have:=i34.2 h34
    unfold sIs at this⊢
    rw [if_neg hqb] at this⊢
    simp only [qCD] at this⊢
    split
    ·simp
    ·rename_i hx;rw [if_neg hx] at this;cases this
   rw [es]
   cases hqr:qBr [] (tb q.1).tail with
   |none=>exact .inr ⟨rfl,.inl rfl⟩
   |some st=>
    obtain ⟨s,t⟩:=st
    exact qHZ ⟨hl.1,hl.2.1,hl.2.2.1,rfl⟩
  ·rw [if_neg h34]
   by_cases h35:(tb q.1).head?=some 35
   ·rw [if_pos h35,if_neg (fun e=>qPB (by decide) h35 (i40.1 e)),if_neg (fun e=>h34 (i34.1 e)),if_pos (i35.2 h35)]
    have es:(sIs [35] (tb q.1,q.2)).2.1=(tb q.1).tail:=by
     have:=i35.2 h35
     unfold sIs at this⊢
     rw [if_neg hqb] at this⊢
     simp only [qCD] at this⊢
     split
     ·simp
     ·rename_i hx;rw [if_neg hx] at this;cases this
    rw [es,qQa H h35 5 1 (by omega) (by omega)]
    cases he:qHx (tb q.1) 1 5 with
    |some n=>
     simp only
     obtain ⟨t,ht⟩:=H.n n (by have:=qPA 5 1 he;omega)
     have hsz:(qe n).size=t.length+1:=by rw [←qAN,ht];rfl
     refine qHZ ⟨hl.1,hl.2.1,hl.2.2.1,?_⟩
     simp only
     rw [hsz]
     cases hr:tb q.1 with
     |nil=>rw [hr] at h35;cases h35
     |cons c r=>rfl
    |none=>
     simp only
     rw [if_neg (fun e=>e.1 h35)]
     have hw:wd (tb q.1)= []:=by
      cases hr:tb q.1 with
      |nil=>rw [hr] at h35;cases h35
      |cons c r=>
       rw [hr] at h35
       simp only [List.head?_cons,Option.some.injEq] at h35
       subst h35
       rfl
     rw [hw,if_neg (fun e=>H.v0 e.2),if_neg (by rw [H.p0];simp),H.f0]
     exact .inr ⟨rfl,qEm _⟩
   ·rw [if_neg h35]
    simp only
    by_cases h40:(qV [40] (tb q.1,p.2)).1=true
    ·rw [if_pos ⟨h35,h40⟩,if_pos (f1▸h40)]
     have hlt:=qDD (w:= [40]) (by simp) h40
     simp only [qCD] at hlt
     have htb:=qw (qV [40] (tb q.1,p.2)).2.1
     have hb:=(hB _ (by omega) _ _ (deep+1) 4 f g (by omega) f2 rfl (by omega) (by omega) (by omega) (by omega)).sim
     have e5:(5-((4:Nat):Int))=1:=by omega
     rw [e5] at hb
     exact qO8 (by decide) hb
    ·have n40:¬(sIs [40] (tb q.1,q.2)).1=true:=f1▸h40
     have n34:¬(sIs [34] (tb q.1,q.2)).1=true:=fun e=>h34 (i34.1 e)
     have n35:¬(sIs [35] (tb q.1,q.2)).1=true:=fun e=>h35 (i35.1 e)
     rw [if_neg (fun e=>h40 e.2),if_neg n40,if_neg n34,if_neg n35]
     have hl3:Lk (wr (tb q.1),p.2) (wr (tb q.1),q.2):=⟨hl.1,hl.2.1,hl.2.2.1,rfl⟩
     cases hfn:qFD (wd (tb q.1)) 1 10 with
     |some op=>
      simp only
      obtain ⟨z1,z2⟩:=H.f _ _ hfn
      rw [if_neg (by rw [z1];simp),if_neg (by rw [z2];simp)]
      have hne:1≤(wd (tb q.1)).length:=by
       cases hw:wd (tb q.1) with
       |nil=>rw [hw,H.f0] at hfn;cases hfn
       |cons c t=>simp
      have hlen:(wr (tb q.1)).length+1≤N:=by
       have:=congrArg List.length (wdr (tb q.1))
       simp only [List.length_append] at this
       omega
      obtain ⟨k1,k2⟩:=qI2 (c:=40) (by decide) hl3
      cases f with
      |zero=>omega
      |succ f=>
       simp only [pP]
       by_cases ht:(sIs [40] (wr (tb q.1),q.2)).1=true
       ·rw [if_pos ht]
        have em:qB7 [40] (wr (tb q.1),p.2)=(qV [40] (wr (tb q.1),p.2)).2:=by
         unfold qB7
         rw [if_neg hpb,if_pos (k1▸ht)]
        rw [em]
        have hlt:=qDD (w:= [40]) (by simp) (k1.symm▸ht)
        have h2:=qw (wr (tb q.1))
        have h3:=qw (qV [40] (wr (tb q.1),p.2)).2.1
        simp only at hlt
        exact hC _ (by omega) _ _ deep op [] f g k2 rfl hd (by omega) (by omega) (by omega)
       ·rw [if_neg ht]
        have em:qB7 [40] (wr (tb q.1),p.2)=qPW (qV [40] (wr (tb q.1),p.2)).2:=by
         unfold qB7
         rw [if_neg hpb,if_neg (k1▸ht)]
        rw [em]
        exact .inr ⟨rfl,qCb f _ _ (qEm _)⟩
     |none=>
      simp only
      by_cases hw0:wd (tb q.1)= []
      ·rw [hw0,if_neg (fun e=>H.v0 e.2),if_neg (by rw [H.p0];simp),if_neg (fun e=>e.2 rfl),if_neg (by rw [H.p0];simp)]
       exact .inr ⟨rfl,qEm _⟩
      ·by_cases hv:(qf (BR (wd (tb q.1)))).2.2.2=true
       ·rw [if_pos ⟨hv,H.v _ (qPY _) hw0 hv⟩,if_pos ⟨hv,hw0⟩]
        exact qHZ hl3
       ·have nv1:¬((qf (BR (wd (tb q.1)))).2.2.2=true∧((qf (BR (wd (tb q.1)))).1=1∨(qf (BR (wd (tb q.1)))).1=3)):=fun e=>hv e.1
        have nv2:¬((qf (BR (wd (tb q.1)))).2.2.2=true∧wd (tb q.1)≠ []):=fun e=>hv e.1
        rw [if_neg nv1,if_neg nv2]
        by_cases hp:(qAr (BR (wd (tb q.1)))).2.2.2.2=true
        ·rw [if_pos hp,if_pos hp]
         exact qHZ hl3
        ·rw [if_neg hp,if_neg hp]
         exact .inr ⟨rfl,qEm _⟩
theorem qQ5 (H:RdOK) (N:Nat):qQz N∧qQ0 N∧qQb N∧qQ1 N:=by
 induction N using Nat.strongRecOn with
 |ind N ih=>
  have hA:=qQ4 H N (fun M h=>(ih M h).1) (fun M h=>(ih M h).2.2.1) (fun M h=>(ih M h).2.2.2)
  have hT:=qRx N (fun M h=>(ih M h).2.2.1) (fun M h=>(ih M h).2.1)
  have hB:=qQ2 N hA (fun M h=>(Nat.lt_or_eq_of_le h).elim (fun h=>(ih M h).2.1) (fun h=>h▸hT))
  exact ⟨hA,hT,hB,qQ3 H N hB (fun M h=>(ih M h).2.2.2)⟩
theorem qAJ (r:List UInt8):(BR r).toList=r:=qBk r
theorem qb (r:List UInt8):(BR r).size=r.length:=by rw [←qAN,qAJ]
theorem qHy (s:ByteArray):BR s.toList=s:=qEA (qAJ _)
theorem qE0 (r:List UInt8) (a b:Nat):(BR r).extract a b=BR ((r.take b).drop a):=by
 refine qEA ?_
 rw [qAJ,Go.Lib.toList_data,ByteArray.data_extract,Array.toList_extract]
 simp [BR,List.extract_eq_take_drop,List.drop_take]
theorem qLb (a b:List UInt8):BR a++BR b=BR (a++b):=by
 refine qEA ?_
 rw [qAJ,Go.Lib.toList_data]
 simp [BR]
theorem qRI:∀i:Fin 256,((⟨#[32]⟩:ByteArray).data.toList.contains (UInt8.ofNat i.val))=(UInt8.ofNat i.val==32):=by decide+kernel
def wcS:ByteArray:=⟨#[65,66,67,68,69,70,71,72,73,74,75,76,77,78,79,80,81,82,83,84,85,86,87,88,89,90,48,49,50,51,52,53,54,55,56,57,36]⟩
theorem qRJ:∀i:Fin 256,(wcS.data.toList.contains (UInt8.ofNat i.val))=wch (UInt8.ofNat i.val):=by decide+kernel
theorem qPZ {f g:UInt8→Bool} (h:∀i:Fin 256,f (UInt8.ofNat i.val)=g (UInt8.ofNat i.val)) (c:UInt8):f c=g c:=by
 have h:=h ⟨c.toNat,UInt8.toNat_lt c⟩
 have e:UInt8.ofNat c.toNat=c:=by simp
 simp only [e] at h
 exact h
theorem qQB (r:List UInt8):Ev (qA7 · (BR r) ⟨#[32]⟩) (BR (tb r)):=by
 refine ⟨1,fun n hn=>?_⟩
 obtain ⟨m,rfl,hm⟩:=up1 hn
 show zM (BR r) ⟨#[32]⟩=_
 unfold zM
 rw [if_pos ⟨by decide,by decide+kernel⟩]
 unfold Lib.trimLeftS tb
 have:(fun c=>(⟨#[32]⟩:ByteArray).data.toList.contains c)=(fun c=>c==32):=funext (qPZ qRI)
 rw [this]
 rfl
theorem qQC (r:List UInt8):Ev (qA7 · (BR r) ⟨#[65,66,67,68,69,70,71,72,73,74,75,76,77,78,79,80,81,82,83,84,85,86,87,88,89,90,48,49,50,51,52,53,54,55,56,57,36]⟩) (BR (wr r)):=by
 refine ⟨1,fun n hn=>?_⟩
 obtain ⟨m,rfl,hm⟩:=up1 hn
 show zM (BR r) wcS=_
 unfold zM
 rw [if_pos ⟨by decide,by decide+kernel⟩]
 unfold Lib.trimLeftS wr
 have:(fun c=>wcS.data.toList.contains c)=wch:=funext (qPZ qRJ)
 rw [this]
 rfl
theorem qGK (r:List UInt8) (m:Nat) (b:Bool) (rows:List (List PV)):Ev (qAn · (BR r) m b rows) (BR (tb r),m,b,rows):=by
 obtain ⟨n1,h1⟩:=qQB r
 refine ⟨n1+1,fun n hn=>?_⟩
 obtain ⟨m,rfl,hm⟩:=up1 hn
 have h1:=h1 m (by omega)
 dsimp only at h1
 simp only [qAn,qC7,qC,qD,qG,qH,qJ,qK,Option.bind_some,qF,qM,qN,h1]
theorem qBN (m:Nat) (s w:List UInt8):qj (m+2) (BR s) (BR w)=some (w.isPrefixOf s):=by
 simp only [qj,qBo,qy,qAm,qC,qD,qG,qH,qJ,qK,Option.bind_some,qF,qM,qN,qb,qE0,qAJ]
 by_cases h:w.length≤s.length
 ·have h1:((s.length:Nat):Int)≥((w.length:Nat):Int):=by omega
  simp [h1,h,List.isPrefixOf_iff_prefix,List.prefix_iff_eq_take]
  by_cases e:w=s.take w.length
  ·simp [←e,List.isPrefixOf_iff_prefix.2 (List.prefix_iff_eq_take.2 e)]
  ·have e2:¬s.take w.length=w:=fun h=>e h.symm
   have e3:w.isPrefixOf s=false:=by
    rw [Bool.eq_false_iff]
    intro hp
    exact e (List.prefix_iff_eq_take.1 (List.isPrefixOf_iff_prefix.1 hp))
   simp [e2,e3]
 ·have h1:¬((s.length:Nat):Int)≥((w.length:Nat):Int):=by omega
  have e3:w.isPrefixOf s=false:=by
   rw [Bool.eq_false_iff]
   intro hp
   exact h (List.isPrefixOf_iff_prefix.1 hp).length_le
  simp [h1,e3]
theorem qPa (s w:List UInt8):Ev (qj · (BR s) (BR w)) (w.isPrefixOf s):=by
 refine ⟨2,fun n hn=>?_⟩
 obtain ⟨m,rfl,hm⟩:=up1 hn
 obtain ⟨m,rfl,hm⟩:=up1 hm
 exact qBN m s w
def qPC:List (List PV):=qDn.map fun w=> [PV.s (BR w)]
theorem qOE {n:Nat} {r:List UInt8} (m:Nat) (b:Bool) (rows:List (List PV)) (h:∀w∈qDn,qj n (BR r) (BR w)=some (w.isPrefixOf r)):
  ∀(k i M:Nat),i+k=15→k+1≤M→zC (qB9 n) M (15,15,(i:Int),qPC,BR r,m,b,rows)=some (match (qDn.drop i).find? (fun w=>w.isPrefixOf r) with|some w=> .inl (BR w,BR r,m,b,rows)|none=> .inr (BR r,m,b,rows))
 |k,i,0,h1,h2=>by omega
 |0,i,M+1,h1,h2=>by
  have hi:i=15:=by omega
  subst hi
  rw [qP (r:= .inr (BR r,m,b,rows)) (by simp [qB9,qC,qD,qG,qH,qJ,qK,Option.bind_some,qF,qM,qN])]
  rfl
 |k+1,i,M+1,h1,h2=>by
  have hi:i<qDn.length:=by simp [qDn];omega
  obtain ⟨w,hw⟩:∃w,qDn[i]?=some w:=⟨_,List.getElem?_eq_getElem hi⟩
  have hR:qPC[i]?=some [PV.s (BR w)]:=by simp [qPC,List.getElem?_map,hw]
  have hl:qPC.length=15:=rfl
  have hc:zj [PV.s (BR w)] 0=some (BR w):=rfl
  have hp:=h w (List.mem_of_getElem? hw)
  have hd:qDn.drop i=w::qDn.drop (i+1):=qEP hw
  have w5:IntKind.i64.wrap ((i:Int)+1)=((i+1:Nat):Int):=by rw [qZ (by omega)];omega
  rw [hd]
  simp only [List.find?_cons]
  cases hq:w.isPrefixOf r with
  |true=>
   rw [qP (r:= .inl (BR w,BR r,m,b,rows)) (by
    refine qE (by simp;omega) (qE (by simp [hl];omega) (qA hR (qA hc (qA (hp.trans (congrArg some hq)) (qE rfl rfl))))))]
  |false=>
   rw [qW (v':=(15,15,((i+1:Nat):Int),qPC,BR r,m,b,rows)) (by
    refine qE (by simp;omega) (qE (by simp [hl];omega) (qA hR (qA hc (qA (hp.trans (congrArg some hq)) (qO rfl ?_)))))
    rw [w5];rfl)]
   exact qOE m b rows h k (i+1) M (by omega) (by omega)
theorem qLc (r:List UInt8) (m:Nat) (b:Bool) (rows:List (List PV)):Ev (qBY · (BR r) m b rows) (BR (sgn (tb r)),BR (tb r),m,b,rows):=by
 obtain ⟨n1,h1⟩:=qGK r m b rows
 obtain ⟨n2,h2⟩:=qBj (F:=fun w n=>qj n (BR (tb r)) (BR w)) (f:=fun w=>w.isPrefixOf (tb r)) qDn (fun w _=>qPa (tb r) w)
 refine ⟨n1+n2+30,fun n hn=>?_⟩
 obtain ⟨k,rfl,hm⟩:=up1 hn
 have h1:=h1 k (by omega)
 have lp:=qOE m b rows (h2 k (by omega)) 15 0 k rfl (by omega)
 refine qA h1 (qA lp ?_)
 simp only [List.drop_zero]
 unfold sgn
 cases hq:qDn.find? (fun w=>w.isPrefixOf (tb r)) with
 |some w=>rfl
 |none=>rfl
theorem qPw (r:List UInt8):sgn r<+:r:=by
 unfold sgn
 split
 ·rename_i w hw
  have:=List.find?_some hw
  exact List.isPrefixOf_iff_prefix.1 (by simpa using this)
 ·exact List.nil_prefix
theorem qOF (w r:List UInt8) (m:Nat) (b:Bool) (rows:List (List PV)):Ev (ql · (BR w) (BR r) m b rows) (decide (sgn (tb r)=w),BR (if sgn (tb r)=w then (tb r).drop w.length else tb r),m,b,rows):=by
 obtain ⟨n1,h1⟩:=qLc r m b rows
 refine ⟨n1+1,fun n hn=>?_⟩
 obtain ⟨k,rfl,hm⟩:=up1 hn
 refine qA (h1 k (by omega)) ?_
 by_cases h:sgn (tb r)=w
 ·have hp:=(qPw (tb r)).length_le
  rw [h] at hp
  refine qO (by simp [qAJ,h]) (qE (by simp [qb];omega) ?_)
  rw [qC,qb,qb,qE0]
  simp [h]
 ·refine qE (by simp [qAJ,h]) ?_
  rw [qC]
  simp [h]
theorem qQD (r:List UInt8) (m:Nat) (b:Bool) (rows:List (List PV)) (hr:r.length≤1000):Ev (qA8 · (BR r) m b rows) (BR (wd (tb r)),BR (wr (tb r)),m,b,rows):=by
 obtain ⟨n1,h1⟩:=qGK r m b rows
 obtain ⟨n2,h2⟩:=qQC (tb r)
 refine ⟨n1+n2+1,fun n hn=>?_⟩
 obtain ⟨k,rfl,hm⟩:=up1 hn
 have hb:=qw r
 have hw:=qFu (tb r)
 have hsum:=congrArg List.length (wdr (tb r))
 simp only [List.length_append] at hsum
 have e:IntKind.i64.wrap (((tb r).length:Int)-((wr (tb r)).length:Int))=((wd (tb r)).length:Int):=by rw [qZ (by omega)];omega
 refine qA (h1 k (by omega)) (qA (h2 k (by omega)) ?_)
 simp only [qb,e]
 refine qE (by simp;omega) (qE (by simp;omega) ?_)
 rw [qC]
 have t1:(wd (tb r)++wr (tb r)).take (wd (tb r)).length=wd (tb r):=List.take_left ..
 have t2:(wd (tb r)++wr (tb r)).drop (wd (tb r)).length=wr (tb r):=List.drop_left ..
 rw [wdr] at t1 t2
 simp [qE0,t1,t2]
def qEn (p:PS):ByteArray×Nat×Bool×List (List PV):=(BR p.1,p.2.2.length,p.2.1,p.2.2.map qa)
def qF0 (r:Int×PS):Int×ByteArray×Nat×Bool×List (List PV):=(r.1,BR r.2.1,r.2.2.2.length,r.2.2.1,r.2.2.2.map qa)
def qNu (c:Nd):Prop:=(kd c).length≤2000∧c.2.2.2.2.1.size≤2000
structure Gd (p:PS):Prop where
 r:p.1.length≤1000
 n:p.2.2.length≤60
 s:∀x∈p.2.2,qNu x
theorem qLd (x:Nd) (p:PS) (h:p.2.2.length≤60):Ev (qm · x.1 x.2.1 x.2.2.1 x.2.2.2.1 x.2.2.2.2.1 x.2.2.2.2.2.1 x.2.2.2.2.2.2.1 x.2.2.2.2.2.2.2.1 x.2.2.2.2.2.2.2.2.1 x.2.2.2.2.2.2.2.2.2.1 x.2.2.2.2.2.2.2.2.2.2.1 x.2.2.2.2.2.2.2.2.2.2.2.1 x.2.2.2.2.2.2.2.2.2.2.2.2.1 ((kd x).map qAy) (BR p.1) p.2.2.length p.2.1 (p.2.2.map qa)) (qF0 (qC0 x p)):=by
 obtain ⟨r,b,l⟩:=p
 refine ⟨1,fun n hn=>?_⟩
 obtain ⟨m,rfl,hm⟩:=up1 hn
 replace h:l.length≤60:=h
 show qm (m+1) _ _ _ _ _ _ _ _ _ _ _ _ _ _ (BR r) l.length b (l.map qa)=_
 unfold qC0
 have w1:IntKind.i64.wrap (((l.length:Nat):Int)-1)=(l.length:Int)-1:=qZ (by omega)
 have w2:IntKind.i64.wrap ((((l.length+1):Nat):Int)-1)=(l.length:Int):=by rw [qZ (by omega)];omega
 cases b with
 |true=>
  rw [if_pos (.inl rfl)]
  refine qE rfl (qO rfl ?_)
  rw [qC,w1]
  rfl
 |false=>
  by_cases h6:60≤l.length
  ·rw [if_pos (.inr h6)]
   have d:decide (((l.length:Nat):Int)≥60)=true:=decide_eq_true (by omega)
   refine qO rfl (qO (by rw [d];rfl) ?_)
   rw [qC,w1,d]
   rfl
  ·have hn:¬(((r,false,l):PS).2.1=true∨60≤((r,false,l):PS).2.2.length):=by
    intro hh
    rcases hh with hh|hh
    ·exact absurd hh (by simp)
    ·exact h6 hh
   rw [if_neg hn]
   have d:decide (((l.length:Nat):Int)≥60)=false:=decide_eq_false (by omega)
   refine qO rfl (qE (by rw [d];rfl) (qE rfl (qE (decide_eq_true ⟨by simp,by decide,by decide,by simp;omega,rfl⟩) ?_)))
   rw [qC,w2,d]
   simp only [qF0,List.map_append,List.length_append]
   rfl
theorem qIt (v:V3) (p:PS) (h:p.2.2.length≤60):Ev (qh · v.1 v.2.1 v.2.2 (BR p.1) p.2.2.length p.2.1 (p.2.2.map qa)) (qF0 (qC0 (nd1 v) p)):=by
 obtain ⟨n1,h1⟩:=qLd (nd1 v) p h
 refine ⟨n1+1,fun n hn=>?_⟩
 obtain ⟨k,rfl,hm⟩:=up1 hn
 exact qA (h1 k (by omega)) rfl
theorem qFv {x:Nd} {p:PS} (h:Gd p) (hx:qNu x):Gd (qC0 x p).2:=by
 unfold qC0
 split
 ·exact ⟨h.r,h.n,h.s⟩
 ·rename_i hh
  refine ⟨h.r,?_,fun y hy=>?_⟩
  ·have:¬60≤p.2.2.length:=fun e=>hh (.inr e)
   simp;omega
  ·simp at hy
   rcases hy with hy|rfl
   ·exact h.s _ hy
   ·exact hx
theorem qCR {w:List UInt8} {p:PS} (h:Gd p):Gd (qV w p).2:=by
 have:=qHX w p
 have h2:=qw p.1
 have h3:=h.r
 refine ⟨by omega,?_,?_⟩
 ·unfold qV;split<;>exact h.n
 ·unfold qV;split<;>exact h.s
theorem qFE (w:List UInt8) (p:PS):Ev (ql · (BR w) (BR p.1) p.2.2.length p.2.1 (p.2.2.map qa)) ((qV w p).1,qEn (qV w p).2):=by
 obtain ⟨n1,h1⟩:=qOF w p.1 p.2.2.length p.2.1 (p.2.2.map qa)
 refine ⟨n1,fun n hn=>?_⟩
 have h1:=h1 n hn
 unfold qV
 by_cases h:sgn (tb p.1)=w
 ·simp only [h,if_true,decide_true] at h1
  rw [if_pos h];exact h1
 ·simp only [h,if_false,decide_false] at h1
  rw [if_neg h];exact h1
theorem qOj (p:PS) (h:p.1.length≤1000):Ev (qA8 · (BR p.1) p.2.2.length p.2.1 (p.2.2.map qa)) (BR (wd (tb p.1)),qEn (wr (tb p.1),p.2)):=qQD p.1 _ _ _ h
theorem qOk (r:List UInt8):(wd r).length≤r.length:=by
 have:=congrArg List.length (wdr r)
 simp only [List.length_append] at this
 omega
theorem qQc (r:List UInt8) (h:r.length≤1000):Ev (qAb · (BR (wd (tb r)))) (qAr (BR (wd (tb r)))):=qKj _ (by rw [qb];have:=qOk (tb r);have:=qw r;omega)
theorem qRn (r:List UInt8) (h:r.length≤1000):Ev (qd · (BR (wd (tb r)))) (qf (BR (wd (tb r)))):=qGG _ (by rw [qb];have:=qOk (tb r);have:=qw r;omega)
theorem qPD (c:UInt8) (t:List UInt8):Lib.cut (c::t) [34]=if c=34 then ([],t,true) else (c::(Lib.cut t [34]).1,(Lib.cut t [34]).2.1,(Lib.cut t [34]).2.2):=by
 by_cases h:c=34
 ·subst h
  rw [if_pos rfl]
  simp [Lib.cut,Lib.index,List.isPrefixOf]
 ·rw [if_neg h]
  have h':¬34=c:=fun e=>h e.symm
  have g:=Lib.index_ge t [34]
  unfold Lib.cut
  by_cases e:Lib.index t [34]= -1
  ·have:Lib.index (c::t) [34]= -1:=by simp [Lib.index,List.isPrefixOf,h',e]
   simp [this,e]
  ·have:Lib.index (c::t) [34]=Lib.index t [34]+1:=by simp [Lib.index,List.isPrefixOf,h',e]
   have p:0≤Lib.index t [34]:=by omega
   have p1:0≤Lib.index t [34]+1:=by omega
   have q:(Lib.index t [34]+1).toNat=(Lib.index t [34]).toNat+1:=by omega
   simp [this,p,p1,q]
theorem qRK (acc t:List UInt8):qBr acc (34::34::t)=qBr (acc++ [34]) t:=(qBr.eq_def acc _).trans (by simp)
theorem qRL (acc t:List UInt8) (h:t.head?≠some 34):qBr acc (34::t)=some (acc,t):=by
 refine (qBr.eq_def acc _).trans ?_
 cases t with
 |nil=>simp
 |cons d t=>
  have:¬d=34:=fun e=>h (by rw [e];rfl)
  simp [this]
theorem qRM (acc t:List UInt8) {c:UInt8} (h:¬c=34):qBr acc (c::t)=qBr (acc++ [c]) t:=(qBr.eq_def acc _).trans (by simp only [if_neg h])
theorem up3 {n n0:Nat} (h:n0+3≤n):∃m,n=m+3∧n0≤m:=⟨n-3,by omega,by omega⟩
theorem qOG:∀(r acc:List UInt8),qBr acc r=if (Lib.cut r [34]).2.2=true then (if (Lib.cut r [34]).2.1.head?=some 34 then qBr (acc++(Lib.cut r [34]).1++ [34]) (Lib.cut r [34]).2.1.tail else some (acc++(Lib.cut r [34]).1,(Lib.cut r [34]).2.1)) else none
 | [],acc=>by simp [qBr,Lib.cut,Lib.index]
 |c::t,acc=>by
  rw [qPD]
  by_cases h:c=34
  ·subst h
   rw [if_pos rfl]
   by_cases e:t.head?=some 34
   ·obtain ⟨u,rfl⟩:∃u,t=34::u:=by
     cases t with
     |nil=>cases e
     |cons d u=>simp at e;subst e;exact ⟨u,rfl⟩
    rw [qRK];simp
   ·rw [qRL acc t e];simp [e]
  ·simp only [if_neg h]
   rw [qRM acc t h,qOG t (acc++ [c])]
   simp
theorem qPx:∀r:List UInt8,(Lib.cut r [34]).1.length+(Lib.cut r [34]).2.1.length≤r.length∧((Lib.cut r [34]).2.2=true→(Lib.cut r [34]).2.1.length<r.length)
 | []=>by simp [Lib.cut,Lib.index]
 |c::t=>by
  rw [qPD]
  have ih:=qPx t
  split
  ·simp
  ·simp only [List.length_cons]
   exact ⟨by omega,fun h=>by have:=ih.2 h;omega⟩
theorem qFw:∀(k:Nat) (acc r:List UInt8) {s t:List UInt8},r.length≤k→qBr acc r=some (s,t)→s.length≤acc.length+r.length+1
 |k,acc,[],s,t,hk,h=>by simp [qBr] at h
 |0,acc,c::r,s,t,hk,h=>by simp at hk
 |k+1,acc,c::r,s,t,hk,h=>by
  simp only [List.length_cons] at hk
  unfold qBr at h
  split at h
  ·cases r with
   |nil=>
    simp at h
    rw [←h.1];simp;omega
   |cons d r'=>
    simp only at h
    split at h
    ·have:=qFw k _ r' (by simp at hk;omega) h
     simp at this⊢;omega
    ·simp at h
     rw [←h.1];simp;omega
  ·have:=qFw k _ r (by omega) h
   simp at this⊢;omega
theorem qRN (m:Nat) (r:List UInt8) (h:r.length≤1000):qGb (m+1) (BR r) ⟨#[34]⟩=some (BR (Lib.cut r [34]).1,BR (Lib.cut r [34]).2.1,(Lib.cut r [34]).2.2):=by
 show zAP (BR r) ⟨#[34]⟩=_
 unfold zAP
 rw [if_pos (by rw [qb];omega),←Go.Lib.toList_data (BR r),qAJ]
 rfl
theorem qLn (n:Nat) (orig:ByteArray) (m:Nat) (b:Bool) (rows:List (List PV)):∀(k:Nat) (r acc:List UInt8) (M:Nat),r.length≤k→acc.length+r.length≤1000→k+1≤M→
  zC (qCl (n+2)) M (BR acc,BR r,orig,m,b,rows)=some (match qBr acc r with
   |none=> .inl (-1,orig,m,true,rows)
   |some (s,t)=> .inr (BR s,BR t,orig,m,b,rows))
 |k,r,acc,0,h1,h2,h3=>by omega
 |k,r,acc,M+1,h1,h2,h3=>by
  have hc:=qRN (n+1) r (by omega)
  have hl:=qPx r
  have hp:=qBN n (Lib.cut r [34]).2.1 [34]
  rw [qOG]
  cases hf:(Lib.cut r [34]).2.2 with
  |false=>
   rw [if_neg (by simp)]
   refine (qP (r:= .inl (-1,orig,m,true,rows)) ?_).trans rfl
   refine qA hc (qE (by simp [hf]) rfl)
  |true=>
   rw [if_pos rfl]
   have hlt:=hl.2 hf
   by_cases hh:(Lib.cut r [34]).2.1.head?=some 34
   ·rw [if_pos hh]
    have hb:List.isPrefixOf [34] (Lib.cut r [34]).2.1=true:=(qED 34 _).2 hh
    obtain ⟨u,hu⟩:∃u,(Lib.cut r [34]).2.1=34::u:=by
     cases e:(Lib.cut r [34]).2.1 with
     |nil=>rw [e] at hh;cases hh
     |cons c u=>rw [e] at hh;simp at hh;subst hh;exact ⟨u,rfl⟩
    rw [hb] at hp
    rw [qW (v':=(BR (acc++(Lib.cut r [34]).1++ [34]),BR (Lib.cut r [34]).2.1.tail,orig,m,b,rows)) (by
     refine qA hc (qO (by simp [hf]) (qE (decide_eq_true (by rw [qb,qb];omega)) (qA hp (qO rfl (qE (decide_eq_true (by rw [qLb,qb,List.length_append];show _+1≤9223372036854775807;omega)) (qE (decide_eq_true ⟨by decide,by simp only [qb];rw [hu];simp;omega,by simp [qb]⟩) ?_))))))
     rw [qC]
     simp only [qLb,qb,qE0]
     rw [hu]
     simp
     exact (qLb (acc++(Lib.cut r [34]).1) [34]).trans (by rw [List.append_assoc]))]
    rw [hu] at hl hlt⊢
    simp only [List.length_cons] at hl hlt
    refine qLn n orig m b rows (k-1) _ _ M (by simp;omega) (by simp;omega) (by omega)
   ·rw [if_neg hh]
    have hb:List.isPrefixOf [34] (Lib.cut r [34]).2.1=false:=by
     rw [Bool.eq_false_iff];intro e;exact hh ((qED 34 _).1 e)
    rw [hb] at hp
    refine (qP (r:= .inr (BR (acc++(Lib.cut r [34]).1),BR (Lib.cut r [34]).2.1,orig,m,b,rows)) ?_).trans rfl
    refine qA hc (qO (by simp [hf]) (qE (decide_eq_true (by rw [qb,qb];omega)) (qA hp (qE rfl ?_))))
    rw [qC,qLb]
theorem qQE (t:List UInt8) (b:Bool) (l:List Nd) (h:t.length≤999) (hl:l.length≤60):Ev (qC8 · (BR (34::t)) l.length b (l.map qa)) (qF0 (match qBr [] t with
   |none=>(-1,34::t,true,l)
   |some (s,t')=>qC0 (nd1 (2,0,BR s)) (t',b,l))):=by
 have lp:=fun n M (hM:t.length+1≤M)=>qLn n (BR (34::t)) l.length b (l.map qa) t.length t [] M (Nat.le_refl _) (by simp;omega) hM
 cases hq:qBr [] t with
 |none=>
  refine ⟨t.length+1+3,fun n hn=>?_⟩
  obtain ⟨m,rfl,hm⟩:=up3 hn
  have lp:=lp m (m+2) (by omega)
  rw [hq] at lp
  refine qE (decide_eq_true ⟨by decide,by rw [qb];simp;omega,Int.le_refl _⟩) ?_
  have e:(BR (34::t)).extract ((1:Int)).toNat ((((BR (34::t)).size:Nat):Int)).toNat=BR t:=by rw [qE0,qb];simp
  rw [e]
  exact qA lp rfl
 |some st=>
  obtain ⟨s,t'⟩:=st
  obtain ⟨n1,h1⟩:=qIt (2,0,BR s) (t',b,l) hl
  refine ⟨n1+t.length+1+3,fun n hn=>?_⟩
  obtain ⟨m,rfl,hm⟩:=up3 hn
  have lp:=lp m (m+2) (by omega)
  rw [hq] at lp
  refine qE (decide_eq_true ⟨by decide,by rw [qb];simp;omega,Int.le_refl _⟩) ?_
  have e:(BR (34::t)).extract ((1:Int)).toNat ((((BR (34::t)).size:Nat):Int)).toNat=BR t:=by rw [qE0,qb];simp
  rw [e]
  exact qA lp (qA (h1 (m+2) (by omega)) rfl)
theorem qQ6 (m:Nat) (r:List UInt8) (w:ByteArray):qAB (m+1) (BR r) w=some (BR (if w.toList.isPrefixOf r=true then r.drop w.size else r),w.toList.isPrefixOf r):=by
 show zW (BR r) w=_
 unfold zW Lib.trimPrefix Lib.hasPrefix
 rw [←Go.Lib.toList_data (BR r),←Go.Lib.toList_data w,qAJ,qAN]
 rfl
theorem qPE {n:Nat} (deep:Int) (r:List UInt8) (b:Bool) (l:List Nd)
  (h1:∀i,0≤i∧i≤5→qAa n i=some (qe i)) (h2:∀i,1≤i∧i≤5→qBe n i=some (4,i,em))
  (h3:∀w,qAB n (BR r) w=some (BR (if w.toList.isPrefixOf r=true then r.drop w.size else r),w.toList.isPrefixOf r))
  (h4:∀i,1≤i∧i≤5→qh n 4 i em (BR (r.drop (qe i).size)) l.length b (l.map qa)=some (qF0 (qC0 (nd1 (4,i,em)) (r.drop (qe i).size,b,l)))):
  ∀(k:Nat) (i:Int) (M:Nat),1≤i→i+k=6→k+1≤M→zC (qBt n) M (deep,i,BR r,l.length,b,l.map qa)=some (match qHx r i k with
   |some e=> .inl (qF0 (qC0 (nd1 (4,e,em)) (r.drop (qe e).size,b,l)))
   |none=> .inr (deep,BR r,l.length,b,l.map qa))
 |k,i,0,_,_,h=>by omega
 |0,i,M+1,hi,hk,h=>by
  rw [qP (r:= .inr (deep,BR r,l.length,b,l.map qa)) (by exact qO (decide_eq_false (show ¬i≤5 by omega)) rfl)]
  rfl
 |k+1,i,M+1,hi,hk,h=>by
  have hi5:1≤i∧i≤5:=⟨hi,by omega⟩
  have c:=h3 (qe i)
  cases hq:(qe i).toList.isPrefixOf r with
  |true=>
   rw [hq,if_pos rfl] at c
   unfold qHx
   rw [if_pos hq]
   refine qP (qE (decide_eq_true (show i≤5 by omega)) (qA (h1 i ⟨by omega,by omega⟩) (qA c (qE rfl (qA (h2 i hi5) (qA (h4 i hi5) rfl))))))
  |false=>
   rw [hq,if_neg (by simp)] at c
   unfold qHx
   rw [if_neg (by rw [hq];simp)]
   have w1:IntKind.i64.wrap (i+1)=i+1:=qZ (by omega)
   rw [qW (v':=(deep,i+1,BR r,l.length,b,l.map qa)) (by refine qE (decide_eq_true (show i≤5 by omega)) (qA (h1 i ⟨by omega,by omega⟩) (qA c (qO rfl ?_)));rw [qC,w1])]
   exact qPE deep r b l h1 h2 h3 h4 k (i+1) M (by omega) (by omega) (by omega)
theorem qRO (deep:Int) (r:List UInt8) (b:Bool) (l:List Nd) (hl:l.length≤60):∃n0,∀n,n0≤n→∀M,n0≤M→zC (qBt n) M (deep,1,BR r,l.length,b,l.map qa)=some (match qHx r 1 5 with
   |some e=> .inl (qF0 (qC0 (nd1 (4,e,em)) (r.drop (qe e).size,b,l)))
   |none=> .inr (deep,BR r,l.length,b,l.map qa)):=by
 obtain ⟨n1,h1⟩:=qFB (F:=qAa) (f:=qe) (lo:=0) (by decide) qEB
 obtain ⟨n2,h2⟩:=qFB (F:=qBe) (f:=fun i=>(4,i,em)) (lo:=1) (by decide) (fun i _=>qJc i)
 obtain ⟨n4,h4⟩:=qFB (F:=fun n i=>qh n 4 i em (BR (r.drop (qe i).size)) l.length b (l.map qa)) (f:=fun i=>qF0 (qC0 (nd1 (4,i,em)) (r.drop (qe i).size,b,l))) (lo:=1) (by decide) (fun i _=>qIt (4,i,em) (r.drop (qe i).size,b,l) hl)
 refine ⟨n1+n2+n4+7,fun n hn M hM=>?_⟩
 exact qPE deep r b l (h1 n (by omega)) (h2 n (by omega)) (fun w=>by
  obtain ⟨m,rfl,_⟩:=up1 (show n1+1≤n by omega)
  exact qQ6 m r w) (h4 n (by omega)) 5 1 M (by omega) (by omega) (by omega)
theorem qPy {g:G_impl_reader_binary} {n:Nat} (deep:Int) (w:List UInt8) (p:PS) (res:Int→Int×PS) (h1:∀i,1≤i∧i≤10→qBy n i=some (fnS i)):
  ∀(k:Nat) (i:Int) (M:Nat),1≤i→i+k=11→k+1≤M→(∀op,qFD w i k=some op→g.impl_reader_call op deep (BR p.1) p.2.2.length p.2.1 (p.2.2.map qa)=some (qF0 (res op)))→
   zC (qAe g n) M (deep,BR w,i,BR p.1,p.2.2.length,p.2.1,p.2.2.map qa)=some (match qFD w i k with
   |some op=> .inl (qF0 (res op))
   |none=> .inr (qEn p))
 |k,i,0,_,_,h,_=>by omega
 |0,i,M+1,hi,hk,h,_=>by
  rw [qP (r:= .inr (qEn p)) (by exact qO (decide_eq_false (show ¬i≤10 by omega)) rfl)]
  rfl
 |k+1,i,M+1,hi,hk,h,hc=>by
  unfold qFD at hc⊢
  by_cases hq:(fnS i).toList=w
  ·rw [if_pos hq] at hc⊢
   refine qP (qE (decide_eq_true (show i≤10 by omega)) (qA (h1 i ⟨hi,by omega⟩) (qE (by simp [qAJ,hq]) (qA (hc i rfl) rfl))))
  ·rw [if_neg hq] at hc⊢
   have w1:IntKind.i64.wrap (i+1)=i+1:=qZ (by omega)
   have hq':¬w=(fnS i).toList:=fun e=>hq e.symm
   rw [qW (v':=(deep,BR w,i+1,BR p.1,p.2.2.length,p.2.1,p.2.2.map qa)) (by refine qE (decide_eq_true (show i≤10 by omega)) (qA (h1 i ⟨hi,by omega⟩) (qO (by simp [qAJ,hq']) ?_));rw [qC,w1])]
   exact qPy deep w p res h1 k (i+1) M (by omega) (by omega) (by omega) hc
theorem qRP:∃n0,∀n,n0≤n→∀i,1≤i∧i≤10→qBy n i=some (fnS i):=by
 obtain ⟨n1,h1⟩:=qBj (F:=fun (i:Nat) n=>qBy n ((i:Int)+1)) (f:=fun i=>fnS ((i:Int)+1)) (List.range 10) (fun i hi=>qIq _ (by have:=List.mem_range.1 hi;omega))
 refine ⟨n1,fun n hn i hi=>?_⟩
 have:=h1 n hn (i-1).toNat (List.mem_range.2 (by omega))
 rwa [show (((i-1).toNat:Nat):Int)+1=i by omega] at this
theorem qRQ:∃n0,∀n,n0≤n→∀i,1≤i∧i≤11→qBD n i=some (qAI i):=by
 obtain ⟨n1,h1⟩:=qBj (F:=fun (i:Nat) n=>qBD n ((i:Int)+1)) (f:=fun i=>qAI ((i:Int)+1)) (List.range 11) (fun i hi=>qFt _ (by have:=List.mem_range.1 hi;omega))
 refine ⟨n1,fun n hn i hi=>?_⟩
 have:=h1 n hn (i-1).toNat (List.mem_range.2 (by omega))
 rwa [show (((i-1).toNat:Nat):Int)+1=i by omega] at this
def opF (s:List UInt8):Int→Int→Nat→Int
 |op,_,0=>op
 |op,i,k+1=>opF s (if s=(qAI i).toList then i else op) (i+1) k
theorem qRR (r:List UInt8):opF (sgn r) 0 1 11=qAk r:=by
 unfold qAk
 generalize sgn r=s
 by_cases h1:s= [43]; · subst h1;decide+kernel
 by_cases h2:s= [45]; · subst h2;decide+kernel
 by_cases h3:s= [42]; · subst h3;decide+kernel
 by_cases h4:s= [47]; · subst h4;decide+kernel
 by_cases h5:s= [38]; · subst h5;decide+kernel
 by_cases h6:s= [61]; · subst h6;decide+kernel
 by_cases h7:s= [60,62]; · subst h7;decide+kernel
 by_cases h8:s= [60]; · subst h8;decide+kernel
 by_cases h9:s= [60,61]; · subst h9;decide+kernel
 by_cases h10:s= [62]; · subst h10;decide+kernel
 by_cases h11:s= [62,61]; · subst h11;decide+kernel
 rw [if_neg h1,if_neg h2,if_neg h3,if_neg h4,if_neg h5,if_neg h6,if_neg h7,if_neg h8,if_neg h9,if_neg h10,if_neg h11]
 rw [←sg1] at h1;rw [←sg2] at h2;rw [←sg3] at h3;rw [←sg4] at h4;rw [←sg5] at h5;rw [←sg6] at h6;rw [←sg7] at h7;rw [←sg8] at h8;rw [←sg9] at h9;rw [←qQY] at h10;rw [←qQZ] at h11
 simp only [opF,if_neg h1]
 simp only [show (1:Int)+1=2 from rfl,if_neg h2,show (2:Int)+1=3 from rfl,if_neg h3,show (3:Int)+1=4 from rfl,if_neg h4,show (4:Int)+1=5 from rfl,if_neg h5,show (5:Int)+1=6 from rfl,if_neg h6,show (6:Int)+1=7 from rfl,if_neg h7,show (7:Int)+1=8 from rfl,if_neg h8,show (8:Int)+1=9 from rfl,if_neg h9,show (9:Int)+1=10 from rfl,if_neg h10,show (10:Int)+1=11 from rfl,if_neg h11]
theorem qPF {n:Nat} (least deep a op i:Int) (r R:List UInt8) (m:Nat) (b:Bool) (rows:List (List PV)) (hi:1≤i∧i≤11)
  (h1:qBY n (BR r) m b rows=some (BR (sgn R),BR R,m,b,rows)) (h2:qBD n i=some (qAI i)):
  (qA3 n (least,deep,a,op,i,BR r,m,b,rows)).run=some (.inl (least,deep,a,if sgn R=(qAI i).toList then i else op,i+1,BR R,m,b,rows)):=by
 have w1:IntKind.i64.wrap (i+1)=i+1:=qZ (by omega)
 refine qE (decide_eq_true (show i≤11 by omega)) (qA h1 (qA h2 ?_))
 by_cases hq:sgn R=(qAI i).toList
 ·rw [if_pos hq]
  exact qE (by simp [qAJ,hq]) (by rw [qC,w1])
 ·rw [if_neg hq]
  exact qO (by simp [qAJ,hq]) (by rw [qC,w1])
theorem qPG {n:Nat} (least deep a:Int) (R:List UInt8) (m:Nat) (b:Bool) (rows:List (List PV))
  (h1:qBY n (BR R) m b rows=some (BR (sgn R),BR R,m,b,rows)) (h2:∀i,1≤i∧i≤11→qBD n i=some (qAI i)):
  ∀(k:Nat) (op i:Int) (M:Nat),1≤i→i+k=12→k+1≤M→zC (qA3 n) M (least,deep,a,op,i,BR R,m,b,rows)=some (least,deep,a,opF (sgn R) op i k,BR R,m,b,rows)
 |k,op,i,0,_,_,h=>by omega
 |0,op,i,M+1,hi,hk,h=>by
  rw [qP (r:=(least,deep,a,op,BR R,m,b,rows)) (by exact qO (decide_eq_false (show ¬i≤11 by omega)) rfl)]
  rfl
 |k+1,op,i,M+1,hi,hk,h=>by
  rw [qW (qPF least deep a op i R R m b rows ⟨hi,by omega⟩ h1 (h2 i ⟨hi,by omega⟩))]
  exact qPG least deep a R m b rows h1 h2 k _ (i+1) M (by omega) (by omega) (by omega)
theorem qQ7 (least deep a:Int) (r:List UInt8) (m:Nat) (b:Bool) (rows:List (List PV)):∃n0,∀n,n0≤n→∀M,n0≤M→zC (qA3 n) M (least,deep,a,0,1,BR r,m,b,rows)=some (least,deep,a,qAk (tb r),BR (tb r),m,b,rows):=by
 obtain ⟨n1,h1⟩:=qLc r m b rows
 obtain ⟨n2,h2⟩:=qLc (tb r) m b rows
 obtain ⟨n3,h3⟩:=qRQ
 refine ⟨n1+n2+n3+20,fun n hn M hM=>?_⟩
 obtain ⟨M,rfl,hM⟩:=up1 hM
 have h2:=h2 n (by omega)
 rw [qCD] at h2
 rw [qW (qPF least deep a 0 1 r (tb r) m b rows (by omega) (h1 n (by omega)) (h3 n (by omega) 1 (by omega)))]
 rw [show (1:Int)+1=2 from rfl,qPG least deep a (tb r) m b rows h2 (h3 n (by omega)) 10 _ 2 M (by omega) (by omega) (by omega),←qRR]
 rfl
theorem qPz {p:PS} (h:Gd p):Gd (qA5 p).2∧(qA5 p).2.1.length≤p.1.length∧∀x,(qA5 p).1=some x→qNu x:=by
 have h1:=qw p.1
 have h2:=qFu (tb p.1)
 have h0:=h.r
 unfold qA5
 simp only
 split
 ·have h3:=qHX [58] (wr (tb p.1),p.2)
  have h4:=qw (qV [58] (wr (tb p.1),p.2)).2.1
  have h5:=qFu (tb (qV [58] (wr (tb p.1),p.2)).2.1)
  have h6:=qw (wr (tb p.1))
  have e:(qV [58] (wr (tb p.1),p.2)).2.2.2=p.2.2:=by unfold qV;split<;>rfl
  simp only at h3
  refine ⟨⟨by simp only;omega,by rw [e];exact h.n,by rw [e];exact h.s⟩,by simp only;omega,fun x hx=>?_⟩
  cases hx
  exact ⟨by simp [kd,ndA],by simp [ndA,em];decide⟩
 ·exact ⟨h,Nat.le_refl _,fun x hx=>by cases hx⟩
theorem qQ8 (p:PS) (h:p.1.length≤1000):∃x:Nd,(∀y,(qA5 p).1=some y→x=y)∧Ev (qCs · (BR p.1) p.2.2.length p.2.1 (p.2.2.map qa)) (x.1,x.2.1,x.2.2.1,x.2.2.2.1,x.2.2.2.2.1,x.2.2.2.2.2.1,x.2.2.2.2.2.2.1,x.2.2.2.2.2.2.2.1,x.2.2.2.2.2.2.2.2.1,x.2.2.2.2.2.2.2.2.2.1,x.2.2.2.2.2.2.2.2.2.2.1,x.2.2.2.2.2.2.2.2.2.2.2.1,x.2.2.2.2.2.2.2.2.2.2.2.2.1,(kd x).map qAy,(qA5 p).1.isSome,qEn (qA5 p).2):=by
 have l1:=qw p.1
 have l2:=qFu (tb p.1)
 have l3:=qHX [58] (wr (tb p.1),p.2)
 have l6:=qw (wr (tb p.1))
 simp only at l3
 obtain ⟨n1,h1⟩:=qOj p h
 obtain ⟨n2,h2⟩:=qQc p.1 h
 obtain ⟨n3,h3⟩:=qFE [58] (wr (tb p.1),p.2)
 have hle:(qV [58] (wr (tb p.1),p.2)).2.1.length≤1000:=by omega
 obtain ⟨n4,h4⟩:=qOj (qV [58] (wr (tb p.1),p.2)).2 hle
 obtain ⟨n5,h5⟩:=qQc (qV [58] (wr (tb p.1),p.2)).2.1 hle
 have e:(qV [58] (wr (tb p.1),p.2)).2.2=p.2:=by unfold qV;split<;>rfl
 unfold qA5
 simp only
 by_cases hc:(qAr (BR (wd (tb p.1)))).2.2.2.2=true∧(qV [58] (wr (tb p.1),p.2)).1=true
 ·rw [if_pos hc]
  refine ⟨_,fun y hy=>by cases hy;rfl,n1+n2+n3+n4+n5+1,fun n hn=>?_⟩
  obtain ⟨k,rfl,hm⟩:=up1 hn
  refine qA (h1 k (by omega)) (qA (h2 k (by omega)) (qE hc.1 (qA (h3 k (by omega)) (qO (by simp only;rw [hc.2];rfl) (qA (h4 k (by omega)) (qA (h5 k (by omega)) ?_))))))
  cases hb:(qV [58] (wr (tb p.1),p.2)).2.2.1 with
  |true=>
   refine qE hb ?_
   rw [qC];rfl
  |false=>
   refine qO hb ?_
   rw [qC];rfl
 ·rw [if_neg hc]
  refine ⟨(0,0,0,0,⟨#[]⟩,0,0,false,false,0,0,false,false,[]),fun y hy=>(by cases hy),n1+n2+n3+1,fun n hn=>?_⟩
  obtain ⟨k,rfl,hm⟩:=up1 hn
  cases hr:(qAr (BR (wd (tb p.1)))).2.2.2.2 with
  |false=>exact qA (h1 k (by omega)) (qA (h2 k (by omega)) (qO hr rfl))
  |true=>
   have ht:(qV [58] (wr (tb p.1),p.2)).1=false:=by
    rw [Bool.eq_false_iff];exact fun e=>hc ⟨hr,e⟩
   refine qA (h1 k (by omega)) (qA (h2 k (by omega)) (qE hr (qA (h3 k (by omega)) (qE (by simp only;rw [ht];rfl) ?_))))
   rw [qC]
   simp only [qEn,e]
   rfl
theorem qIu {s:ByteArray} (h:(qf s).2.2.2=true) (hk:(qf s).1=1∨(qf s).1=3):(qf s).2.2.1.size≤2000:=by
 unfold qf at h hk⊢
 split at h
 ·rename_i hc
  rw [if_pos hc] at hk⊢
  have h1:=hc.1
  unfold okV at h1
  have h2:¬(qA6 s).1=2:=by
   simp only at hk
   omega
  rw [if_neg h2] at h1
  simp only [Bool.and_eq_true,beq_iff_eq] at h1
  have:=congrArg List.length h1.1
  rw [qAN] at this
  have h0:(qA6 s).2.2.size=0:=this
  show (qA6 s).2.2.size≤2000
  omega
 ·cases h
def Kj:PJ→PS→Prop
 | .args _ _ kids,p=>kids.length+p.1.length≤1500
 |_,_=>True
theorem qI3 {w:List UInt8} {p:PS} (h:Gd p):Gd (qB7 w p)∧(qB7 w p).1.length≤p.1.length:=by
 have h1:=qHX w p
 have h2:=qw p.1
 unfold qB7
 split
 ·exact ⟨h,Nat.le_refl _⟩
 ·split
  ·exact ⟨qCR h,by omega⟩
  ·exact ⟨⟨(qCR h).r,(qCR h).n,(qCR h).s⟩,by show (qV w p).2.1.length≤_;omega⟩
theorem qKr {p:PS} {r:List UInt8} (h:Gd p) (hr:r.length≤p.1.length):Gd (r,p.2):=⟨by have:=h.r;simp only;omega,h.n,h.s⟩
theorem qEI:∀(f:Nat) (j:PJ) (p:PS),Gd p→Kj j p→Gd (pP f j p).2∧(pP f j p).2.1.length≤p.1.length
 |0,j,p,h,_=>⟨h,Nat.le_refl _⟩
 |f+1,.bin least deep,p,h,_=>by
  unfold pP
  have a:=qEI f (.un deep) p h trivial
  have b:=qEI f (.loop least deep (pP f (.un deep) p).1) (pP f (.un deep) p).2 a.1 trivial
  exact ⟨b.1,Nat.le_trans b.2 a.2⟩
 |f+1,.loop least deep a,p,h,_=>by
  have h1:=qw p.1
  unfold pP
  split
  ·exact ⟨h,Nat.le_refl _⟩
  ·split
   ·exact ⟨qKr h h1,h1⟩
   ·have l1:((tb p.1).drop (sgn (tb p.1)).length).length≤p.1.length:=by simp;omega
    have b:=qEI f (.bin (lvl (qAk (tb p.1))+1) deep) ((tb p.1).drop (sgn (tb p.1)).length,p.2) (qKr h l1) trivial
    simp only
    have c:=qFv (x:=ndK 5 (qAk (tb p.1)) [a,(pP f (.bin (lvl (qAk (tb p.1))+1) deep) ((tb p.1).drop (sgn (tb p.1)).length,p.2)).1]) b.1 ⟨by simp [kd,ndK],by simp [ndK,em];decide⟩
    have d:=qEI f (.loop least deep (qC0 (ndK 5 (qAk (tb p.1)) [a,(pP f (.bin (lvl (qAk (tb p.1))+1) deep) ((tb p.1).drop (sgn (tb p.1)).length,p.2)).1]) (pP f (.bin (lvl (qAk (tb p.1))+1) deep) ((tb p.1).drop (sgn (tb p.1)).length,p.2)).2).1) _ c trivial
    refine ⟨d.1,Nat.le_trans d.2 ?_⟩
    rw [qAq]
    exact Nat.le_trans b.2 l1
 |f+1,.un deep,p,h,_=>by
  have h1:=qw p.1
  have h2:=qHX [45] p
  unfold pP
  split
  ·exact ⟨⟨h.r,h.n,h.s⟩,Nat.le_refl _⟩
  ·split
   ·simp only
    have b:=qEI f (.un (deep+1)) (qV [45] p).2 (qCR h) trivial
    refine ⟨qFv b.1 ⟨by simp [kd,ndK],by simp [ndK,em];decide⟩,?_⟩
    rw [qAq]
    exact Nat.le_trans b.2 (by omega)
   ·have b:=qEI f (.at deep) (qV [45] p).2 (qCR h) trivial
    exact ⟨b.1,Nat.le_trans b.2 (by omega)⟩
 |f+1,.at deep,p,h,_=>by
  have h1:=qw p.1
  have h2:=qHX [40] p
  have h3:=qFu (tb p.1)
  have h4:=h.r
  have g2:Gd (wr (tb p.1),p.2):=qKr h (by omega)
  unfold pP
  simp only
  split
  ·split
   ·exact ⟨⟨by simp only;omega,h.n,h.s⟩,h1⟩
   ·rename_i hh _ s t hq
    have a:=qI1 _ _ hq
    have b:=qFw _ _ _ (Nat.le_refl _) hq
    simp only [List.length_tail,List.length_nil] at a b
    refine ⟨qFv (qKr h (by omega)) ⟨by simp [kd,nd1],by simp only [nd1,qb];omega⟩,?_⟩
    rw [qAq];simp only;omega
  ·split
   ·refine ⟨qFv (qKr h (by simp;omega)) ⟨by simp [kd,nd1],by simp [nd1,em];decide⟩,?_⟩
    rw [qAq];simp;omega
   ·split
    ·have b:=qEI f (.bin 1 (deep+1)) (qV [40] p).2 (qCR h) trivial
     have c:=qI3 (w:= [41]) b.1
     exact ⟨c.1,Nat.le_trans c.2 (Nat.le_trans b.2 (by omega))⟩
    ·split
     ·rename_i hv
      refine ⟨qFv g2 ⟨by simp [kd,nd1],qIu hv.1 hv.2⟩,?_⟩
      rw [qAq];simp only;omega
     ·split
      ·refine ⟨qFv g2 ⟨by simp [kd,ndC],by simp [ndC,em];decide⟩,?_⟩
       rw [qAq];simp only;omega
      ·split
       ·rename_i op _
        have b:=qEI f (.call op deep) (wr (tb p.1),p.2) g2 trivial
        exact ⟨b.1,Nat.le_trans b.2 (by simp only;omega)⟩
       ·exact ⟨⟨g2.r,g2.n,g2.s⟩,by show (wr (tb p.1)).length≤_;omega⟩
 |f+1,.call op deep,p,h,_=>by
  unfold pP
  have a:=qI3 (w:= [40]) h
  have b:=qEI f (.args op deep []) (qB7 [40] p) a.1 (by have:=a.1.r;show 0+_≤_;omega)
  exact ⟨b.1,Nat.le_trans b.2 a.2⟩
 |f+1,.args op deep kids,p,h,hk=>by
  replace hk:kids.length+p.1.length≤1500:=hk
  unfold pP
  split
  ·refine ⟨qFv h ⟨by simp [kd,ndK];omega,by simp [ndK,em];decide⟩,?_⟩
   rw [qAq];exact Nat.le_refl _
  ·simp only
   have a:=qPz h
   have qg:Gd (qDp (qA5 p) (fun p=>pP f (.bin 1 (deep+1)) p)).2∧(qDp (qA5 p) (fun p=>pP f (.bin 1 (deep+1)) p)).2.1.length≤p.1.length:=by
    unfold qDp
    split
    ·rename_i x hx
     refine ⟨qFv a.1 (a.2.2 x hx),?_⟩
     rw [qAq];exact a.2.1
    ·have b:=qEI f (.bin 1 (deep+1)) (qA5 p).2 a.1 trivial
     exact ⟨b.1,Nat.le_trans b.2 a.2.1⟩
   generalize qDp (qA5 p) (fun p=>pP f (.bin 1 (deep+1)) p)=q at qg⊢
   have t0:=qg.2
   have t1:=qw q.2.1
   have t2:=qHX [44] q.2
   split
   ·rename_i ht
    have t3:=qDD (by simp) ht
    have b:=qEI f (.args op deep (kids++ [q.1])) (qV [44] q.2).2 (qCR qg.1) (by show (kids++ [q.1]).length+_≤_;simp;omega)
    exact ⟨b.1,Nat.le_trans b.2 (by omega)⟩
   ·have c:=qI3 (w:= [41]) (qCR (w:= [44]) qg.1)
    refine ⟨qFv c.1 ⟨by simp [kd,ndK];omega,by simp [ndK,em];decide⟩,?_⟩
    rw [qAq]
    exact Nat.le_trans c.2 (by omega)
def Ad (f:Nat):PJ→PS→Prop
 | .bin _ _,p=>20*(tb p.1).length+6≤f
 | .loop _ _ _,p=>20*(tb p.1).length+5≤f
 | .un _,p=>20*(tb p.1).length+4≤f
 | .at _,p=>20*(tb p.1).length+3≤f∧p.2.1=false
 | .call _ _,p=>20*(tb p.1).length+9≤f
 | .args _ _ _,p=>20*(tb p.1).length+8≤f
def Jd:PJ→Prop
 | .bin _ d=>0≤d∧d≤401
 | .loop _ d _=>0≤d∧d≤401
 | .un d=>0≤d∧d≤401
 | .at d=>0≤d∧d≤400
 | .call _ d=>0≤d∧d≤400
 | .args _ d _=>0≤d∧d≤400
def Wk:PJ→PS→Int×PS→Prop
 | .bin least deep,p,r=>Ev (qCM · least deep (BR p.1) p.2.2.length p.2.1 (p.2.2.map qa)) (qF0 r)
 | .loop least deep a,p,r=>∃n0,∀n,n0≤n→∀M,n0≤M→zC (qCm (qR n) n) M (least,deep,a,qEn p)=some (qF0 r)
 | .un deep,p,r=>Ev (qE6 · deep (BR p.1) p.2.2.length p.2.1 (p.2.2.map qa)) (qF0 r)
 | .at deep,p,r=>Ev (qFg · deep (BR p.1) p.2.2.length p.2.1 (p.2.2.map qa)) (qF0 r)
 | .call op deep,p,r=>Ev (qB6 · op deep (BR p.1) p.2.2.length p.2.1 (p.2.2.map qa)) (qF0 r)
 | .args op deep kids,p,r=>∃(ks:List Int) (p':PS),r=qC0 (ndK 6 op ks) p'∧Gd p'∧ks.length≤1501∧∃n0,∀n,n0≤n→∀M,n0≤M→
   zC (qCA (qR n) n) M (op,deep,kids.length,kids.map qAy,qEn p)=some (op,ks.length,ks.map qAy,qEn p')
theorem qKs (w:List UInt8) {p:PS} (h:p.2.1=false):(BR (qV w p).2.1,(qV w p).2.2.2.length,!(qV w p).1,(qV w p).2.2.2.map qa)=qEn (qB7 w p):=by
 have e:(qV w p).2.2=p.2:=by unfold qV;split<;>rfl
 unfold qB7
 rw [if_neg (by rw [h];simp)]
 cases hc:(qV w p).1 with
 |true=>rw [if_pos rfl];simp only [qEn,e,h];rfl
 |false=>rw [if_neg (by simp)];rfl
theorem qOl {r w:List UInt8} (hw:w≠ []) (h:w<+:r):(tb (r.drop w.length)).length<r.length:=by
 have h1:=qw (r.drop w.length)
 have h2:=h.length_le
 have h3:0<w.length:=List.length_pos_iff.2 hw
 simp only [List.length_drop] at h1
 omega
theorem qRo {r:List UInt8} (h:qAk r≠0):1≤qAk r∧qAk r≤11∧sgn r=(qAI (qAk r)).toList∧sgn r≠ []:=by
 rcases qPv r with e|⟨a,b,c⟩
 ·exact absurd e h
 ·refine ⟨a,b,c,fun e=>h ?_⟩
  unfold qAk;rw [e];decide
def qQd (f:Nat) (deep:Int) (w:List UInt8) (p2:PS):Int×PS:=
 if (qf (BR w)).2.2.2=true∧((qf (BR w)).1=1∨(qf (BR w)).1=3) then qC0 (nd1 ((qf (BR w)).1,(qf (BR w)).2.1,(qf (BR w)).2.2.1)) p2
 else if (qAr (BR w)).2.2.2.2=true then qC0 (ndC (qAr (BR w))) p2
 else match qFD w 1 10 with
 |some op=>pP f (.call op deep) p2
 |none=>(-1,qPW p2)
def qPb (g:G_impl_reader_binary) (n:Nat) (deep:Int) (w:ByteArray) (c:ByteArray×Nat×Bool×List (List PV)):Tr (Int×ByteArray×Nat×Bool×List (List PV)):=
 (.opt (qAb n w) fun r=>(.ask r.2.2.2.2
  (.opt (qm n 2 0 0 0 ⟨#[]⟩ r.1 r.2.1 r.2.2.1 r.2.2.2.1 0 0 false false [] c.1 c.2.1 c.2.2.1 c.2.2.2) fun s=> .done (s.1,s.2.1,s.2.2.1,s.2.2.2.1,s.2.2.2.2))
  (.opt (zC (qAe g n) n (deep,w,1,c.1,c.2.1,c.2.2.1,c.2.2.2)) fun s=>(.alt s (fun t=> .done (t.1,t.2.1,t.2.2.1,t.2.2.2.1,t.2.2.2.2)) (fun t=> .done (-1,t.1,t.2.1,true,t.2.2.2))))))
def qRE (g:G_impl_reader_binary) (n:Nat) (deep:Int) (w:ByteArray) (c:ByteArray×Nat×Bool×List (List PV)):Tr (Int×ByteArray×Nat×Bool×List (List PV)):=
 (.opt (qd n w) fun r=>(.ask r.2.2.2
  (.ask (r.1==1) (.opt (qh n r.1 r.2.1 r.2.2.1 c.1 c.2.1 c.2.2.1 c.2.2.2) fun s=> .done (s.1,s.2.1,s.2.2.1,s.2.2.2.1,s.2.2.2.2))
   (.ask (r.1==3) (.opt (qh n r.1 r.2.1 r.2.2.1 c.1 c.2.1 c.2.2.1 c.2.2.2) fun s=> .done (s.1,s.2.1,s.2.2.1,s.2.2.2.1,s.2.2.2.2))
    (qPb g n deep w c)))
  (qPb g n deep w c)))
theorem qQF (f:Nat) (deep:Int) (r:List UInt8) (p2:PS) (hr:r.length≤1000) (hp:p2.2.2.length≤60) (hc:∀op,qFD (wd (tb r)) 1 10=some op→Ev (qB6 · op deep (BR p2.1) p2.2.2.length p2.2.1 (p2.2.2.map qa)) (qF0 (pP f (.call op deep) p2))):
  ∃n0,∀n,n0≤n→(qPb (qR n) n deep (BR (wd (tb r))) (qEn p2)).run=some (qF0 (if (qAr (BR (wd (tb r)))).2.2.2.2=true then qC0 (ndC (qAr (BR (wd (tb r))))) p2 else match qFD (wd (tb r)) 1 10 with
   |some op=>pP f (.call op deep) p2
   |none=>(-1,qPW p2))):=by
 obtain ⟨n1,h1⟩:=qQc r hr
 obtain ⟨n2,h2⟩:=qLd (ndC (qAr (BR (wd (tb r))))) p2 hp
 obtain ⟨n3,h3⟩:=qRP
 obtain ⟨n4,h4⟩:∃n4,∀n,n4≤n→∀op,qFD (wd (tb r)) 1 10=some op→qB6 n op deep (BR p2.1) p2.2.2.length p2.2.1 (p2.2.2.map qa)=some (qF0 (pP f (.call op deep) p2)):=by
  cases hf:qFD (wd (tb r)) 1 10 with
  |none=>exact ⟨0,fun n _ op h=>by cases h⟩
  |some op=>obtain ⟨n4,h4⟩:=hc op hf;exact ⟨n4,fun n hn op' h=>by cases h;exact h4 n hn⟩
 refine ⟨n1+n2+n3+n4+12,fun n hn=>?_⟩
 have lp:=qPy (g:=qR n) deep (wd (tb r)) p2 (fun op=>pP f (.call op deep) p2) (h3 n (by omega)) 10 1 n (by omega) (by omega) (by omega) (h4 n (by omega))
 cases hb:(qAr (BR (wd (tb r)))).2.2.2.2 with
 |true=>
  rw [if_pos rfl]
  exact qA (h1 n (by omega)) (qE hb (qA (h2 n (by omega)) rfl))
 |false=>
  rw [if_neg (by simp)]
  refine qA (h1 n (by omega)) (qO hb (qA lp ?_))
  cases qFD (wd (tb r)) 1 10<;>rfl
theorem qQe (f:Nat) (deep:Int) (r:List UInt8) (p2:PS) (hr:r.length≤1000) (hp:p2.2.2.length≤60) (hc:∀op,qFD (wd (tb r)) 1 10=some op→Ev (qB6 · op deep (BR p2.1) p2.2.2.length p2.2.1 (p2.2.2.map qa)) (qF0 (pP f (.call op deep) p2))):
  ∃n0,∀n,n0≤n→(qRE (qR n) n deep (BR (wd (tb r))) (qEn p2)).run=some (qF0 (qQd f deep (wd (tb r)) p2)):=by
 obtain ⟨n1,h1⟩:=qRn r hr
 obtain ⟨n2,h2⟩:=qIt ((qf (BR (wd (tb r)))).1,(qf (BR (wd (tb r)))).2.1,(qf (BR (wd (tb r)))).2.2.1) p2 hp
 obtain ⟨n3,h3⟩:=qQF f deep r p2 hr hp hc
 refine ⟨n1+n2+n3,fun n hn=>?_⟩
 have h2:=h2 n (by omega)
 have h3:=h3 n (by omega)
 unfold qQd
 refine qA (h1 n (by omega)) ?_
 by_cases ho:(qf (BR (wd (tb r)))).2.2.2=true
 ·refine qE ho ?_
  by_cases k1:(qf (BR (wd (tb r)))).1=1
  ·rw [if_pos ⟨ho,.inl k1⟩]
   exact qE (by rw [k1];rfl) (qA h2 rfl)
  ·refine qO (beq_eq_false_iff_ne.2 k1) ?_
   by_cases k3:(qf (BR (wd (tb r)))).1=3
   ·rw [if_pos ⟨ho,.inr k3⟩]
    exact qE (by rw [k3];rfl) (qA h2 rfl)
   ·rw [if_neg (fun h=>h.2.elim k1 k3)]
    exact qO (beq_eq_false_iff_ne.2 k3) h3
 ·rw [if_neg (fun h=>ho h.1)]
  exact qO (by rw [Bool.eq_false_iff];exact ho) h3
theorem qRp (w:List UInt8) (p:PS):qV w (tb p.1,p.2)=qV w p:=by unfold qV;simp only [qCD]
theorem qI4 {c:UInt8} {r:List UInt8} (h:r.head?=some c):∃t,r=c::t:=by
 cases r with
 |nil=>cases h
 |cons d t=>simp at h;subst h;exact ⟨t,rfl⟩
theorem qER:∀(f:Nat) (j:PJ) (p:PS),Ad f j p→Jd j→Gd p→Kj j p→Wk j p (pP f j p)
 |0,j,p,ha,_,_,_=>by cases j<;>simp [Ad] at ha
 |f+1,.bin least deep,p,ha,hj,hg,_=>by
  replace ha:20*(tb p.1).length+6≤f+1:=ha
  obtain ⟨n1,h1⟩:=qER f (.un deep) p (by show 20*_+4≤f;omega) hj hg trivial
  have hl:=qDE f (.un deep) p
  obtain ⟨n2,h2⟩:=qER f (.loop least deep (pP f (.un deep) p).1) (pP f (.un deep) p).2 (by show 20*_+5≤f;omega) hj (qEI f (.un deep) p hg trivial).1 trivial
  refine ⟨n1+n2+1,fun n hn=>?_⟩
  obtain ⟨k,rfl,hm⟩:=up1 hn
  exact qA (h1 k (by omega)) (qA (h2 k (by omega) k (by omega)) rfl)
 |f+1,.loop least deep a,(r,b,l),ha,hj,hg,_=>by
  replace ha:20*(tb r).length+5≤f+1:=ha
  have hn60:l.length≤60:=hg.n
  have hr1:r.length≤1000:=hg.r
  have ht:=qw r
  unfold pP
  cases b with
  |true=>
   rw [if_pos rfl]
   refine ⟨1,fun n hn M hM=>?_⟩
   obtain ⟨M,rfl,hM⟩:=up1 hM
   exact qP (qO rfl rfl)
  |false=>
   rw [if_neg (by simp)]
   simp only
   obtain ⟨n1,h1⟩:=qQ7 least deep a r l.length false (l.map qa)
   by_cases h0:qAk (tb r)=0
   ·rw [if_pos (.inl h0)]
    refine ⟨n1+1,fun n hn M hM=>?_⟩
    obtain ⟨M,rfl,hM⟩:=up1 hM
    exact qP (qE rfl (qA (h1 n (by omega) n (by omega)) (qE (by simp only;rw [h0];rfl) rfl)))
   ·obtain ⟨o1,o2,o3,o4⟩:=qRo h0
    obtain ⟨n2,h2⟩:=qJg (qAk (tb r)) ⟨o1,o2⟩
    by_cases hl:lvl (qAk (tb r))<least
    ·rw [if_pos (.inr hl)]
     refine ⟨n1+n2+1,fun n hn M hM=>?_⟩
     obtain ⟨M,rfl,hM⟩:=up1 hM
     exact qP (qE rfl (qA (h1 n (by omega) n (by omega)) (qO (beq_eq_false_iff_ne.2 h0) (qA (h2 n (by omega)) (qE (decide_eq_true hl) rfl)))))
    ·rw [if_neg (fun h=>h.elim h0 hl)]
     have lv:=qPX (op:=qAk (tb r))
     have hlt:=qOl o4 (qPw (tb r))
     have hp1:Gd ((tb r).drop (sgn (tb r)).length,false,l):=⟨by simp;omega,hn60,hg.s⟩
     obtain ⟨n3,h3⟩:=qFt (qAk (tb r)) ⟨o1,o2⟩
     obtain ⟨n4,h4⟩:=qOF (qAI (qAk (tb r))).toList (tb r) l.length false (l.map qa)
     obtain ⟨n5,h5⟩:=qER f (.bin (lvl (qAk (tb r))+1) deep) ((tb r).drop (sgn (tb r)).length,false,l) (by show 20*_+6≤f;simp only;omega) hj hp1 trivial
     have g5:=qEI f (.bin (lvl (qAk (tb r))+1) deep) ((tb r).drop (sgn (tb r)).length,false,l) hp1 trivial
     have l5:=qDE f (.bin (lvl (qAk (tb r))+1) deep) ((tb r).drop (sgn (tb r)).length,false,l)
     simp only at l5
     generalize pP f (.bin (lvl (qAk (tb r))+1) deep) ((tb r).drop (sgn (tb r)).length,false,l)=q at h5 g5 l5⊢
     obtain ⟨n6,h6⟩:=qLd (ndK 5 (qAk (tb r)) [a,q.1]) q.2 g5.1.n
     have g6:=qFv (x:=ndK 5 (qAk (tb r)) [a,q.1]) g5.1 ⟨by simp [kd,ndK],by simp [ndK,em];decide⟩
     have e6:=qAq (ndK 5 (qAk (tb r)) [a,q.1]) q.2
     generalize qC0 (ndK 5 (qAk (tb r)) [a,q.1]) q.2=c at h6 g6 e6⊢
     obtain ⟨n7,h7⟩:=qER f (.loop least deep c.1) c.2 (by show 20*(tb c.2.1).length+5≤f;rw [e6];omega) hj g6 trivial
     refine ⟨n1+n2+n3+n4+n5+n6+n7+1,fun n hn M hM=>?_⟩
     obtain ⟨M,rfl,hM⟩:=up1 hM
     have w1:IntKind.i64.wrap (lvl (qAk (tb r))+1)=lvl (qAk (tb r))+1:=qZ (by omega)
     have h3:=h3 n (by omega)
     have h4:=h4 n (by omega)
     have h5:=h5 n (by omega)
     rw [qHy,qCD,←o3,if_pos rfl] at h4
     rw [←w1] at h5
     rw [qW (v':=(least,deep,c.1,qEn c.2)) (by
      exact qE rfl (qA (h1 n (by omega) n (by omega)) (qO (beq_eq_false_iff_ne.2 h0) (qA (h2 n (by omega)) (qO (decide_eq_false hl) (qA h3 (qA h4 (qA (h2 n (by omega)) (qA h5 (qE rfl (qA (h6 n (by omega)) rfl)))))))))))]
     exact h7 n (by omega) M (by omega)
 |f+1,.un deep,p,ha,hj,hg,_=>by
  replace ha:20*(tb p.1).length+4≤f+1:=ha
  replace hj:0≤deep∧deep≤401:=hj
  unfold pP
  by_cases hd:deep>400
  ·rw [if_pos (.inl hd)]
   refine ⟨1,fun n hn=>?_⟩
   obtain ⟨k,rfl,hm⟩:=up1 hn
   exact qE (decide_eq_true hd) (qE rfl rfl)
  ·cases hb:p.2.1 with
   |true=>
    rw [if_pos (.inr rfl)]
    refine ⟨1,fun n hn=>?_⟩
    obtain ⟨k,rfl,hm⟩:=up1 hn
    refine qO (decide_eq_false hd) (qE hb ?_)
    rw [qC,hb];rfl
   |false=>
    rw [if_neg (fun h=>h.elim hd (by simp))]
    obtain ⟨n1,h1⟩:=qFE [45] p
    have t1:=qDL [45] p
    cases hc:(qV [45] p).1 with
    |true=>
     rw [if_pos rfl]
     simp only
     have t2:=qDD (by simp) hc
     have t3:=qw (qV [45] p).2.1
     obtain ⟨n2,h2⟩:=qER f (.un (deep+1)) (qV [45] p).2 (by show 20*_+4≤f;omega) (by show 0≤deep+1∧deep+1≤401;omega) (qCR hg) trivial
     have g2:=qEI f (.un (deep+1)) (qV [45] p).2 (qCR hg) trivial
     generalize pP f (.un (deep+1)) (qV [45] p).2=q at h2 g2⊢
     obtain ⟨n3,h3⟩:=qLd (ndK 4 0 [q.1]) q.2 g2.1.n
     refine ⟨n1+n2+n3+1,fun n hn=>?_⟩
     obtain ⟨k,rfl,hm⟩:=up1 hn
     have w1:IntKind.i64.wrap (deep+1)=deep+1:=qZ (by omega)
     have h2:=h2 k (by omega)
     rw [←w1] at h2
     exact qO (decide_eq_false hd) (qO hb (qA (h1 k (by omega)) (qE hc (qA h2 (qE rfl (qA (h3 k (by omega)) rfl))))))
    |false=>
     rw [if_neg (by simp)]
     have e:(qV [45] p).2.2=p.2:=by unfold qV;split<;>rfl
     obtain ⟨n2,h2⟩:=qER f (.at deep) (qV [45] p).2 ⟨by omega,by rw [e];exact hb⟩ (by show 0≤deep∧deep≤400;omega) (qCR hg) trivial
     refine ⟨n1+n2+1,fun n hn=>?_⟩
     obtain ⟨k,rfl,hm⟩:=up1 hn
     exact qO (decide_eq_false hd) (qO hb (qA (h1 k (by omega)) (qO hc (qA (h2 k (by omega)) rfl))))
 |f+1,.at deep,(r0,b,l),ha,hj,hg,_=>by
  obtain ⟨ha,hb⟩:=ha
  replace ha:20*(tb r0).length+3≤f+1:=ha
  replace hb:b=false:=hb
  subst hb
  replace hj:0≤deep∧deep≤400:=hj
  have hn60:l.length≤60:=hg.n
  have hr1:r0.length≤1000:=hg.r
  have ht:=qw r0
  have ett:=qCD r0
  have eit:=qRp [40] (r0,false,l)
  obtain ⟨n1,h1⟩:=qGK r0 l.length false (l.map qa)
  have wdec:∀op,qFD (wd (tb r0)) 1 10=some op→(wr (tb r0)).length<(tb r0).length:=fun op h=>by
   have e:=congrArg List.length (wdr (tb r0))
   simp only [List.length_append] at e
   have:wd (tb r0)≠ []:=fun e=>by
    rw [e,show qFD [] 1 10=none by decide+kernel] at h
    cases h
   have:=List.length_pos_iff.2 this
   omega
  unfold pP
  simp only at eit⊢
  rw [←eit]
  generalize tb r0=r at*
  have hw:=qFu r
  have wordEv:∃n0,∀n,n0≤n→(qRE (qR n) n deep (BR (wd r)) (qEn (wr r,false,l))).run=some (qF0 (qQd f deep (wd r) (wr r,false,l))):=by
   have:=qQe f deep r (wr r,false,l) (by omega) hn60 (by
    rw [ett]
    intro op h
    exact qER f (.call op deep) (wr r,false,l) (by have:=wdec op h;have:=qw (wr r);show 20*(tb (wr r)).length+9≤f;omega) hj ⟨by simp only;omega,hn60,hg.s⟩ trivial)
   rwa [ett] at this
  obtain ⟨n9,h9⟩:=wordEv
  obtain ⟨n8,h8⟩:=qOj (r,false,l) (by simp only;omega)
  simp only [ett] at h8
  by_cases hq:r.head?=some 34
  ·rw [if_pos hq]
   obtain ⟨t,rfl⟩:=qI4 hq
   simp only [List.length_cons] at ht
   obtain ⟨n2,h2⟩:=qQE t false l (by omega) hn60
   refine ⟨n1+n2+3,fun n hn=>?_⟩
   obtain ⟨k,rfl,hm⟩:=up3 hn
   refine qA (h1 (k+2) (by omega)) (qA (qBN k (34::t) [34]) (qE rfl (qA (h2 (k+2) (by omega)) ?_)))
   rw [qC]
   simp only [List.tail_cons]
   all_goals (cases qBr [] t<;>rfl)
  ·rw [if_neg hq]
   have p34:List.isPrefixOf [34] r=false:=by rw [Bool.eq_false_iff];exact fun e=>hq ((qED 34 r).1 e)
   by_cases hh:r.head?=some 35
   ·have p35:List.isPrefixOf [35] r=true:=(qED 35 r).2 hh
    simp only [if_pos hh]
    obtain ⟨n2,h2⟩:=qRO deep r false l hn60
    cases he:qHx r 1 5 with
    |some e=>
     simp only
     refine ⟨n1+n2+3,fun n hn=>?_⟩
     obtain ⟨k,rfl,hm⟩:=up3 hn
     have h2:=h2 (k+2) (by omega) (k+2) (by omega)
     rw [he] at h2
     exact qA (h1 (k+2) (by omega)) (qA (qBN k r [34]) (qO p34 (qA (qBN k r [35]) (qE p35 (qA h2 rfl)))))
    |none=>
     simp only
     rw [if_neg (fun h=>h.1 hh)]
     refine ⟨n1+n2+n8+n9+3,fun n hn=>?_⟩
     obtain ⟨k,rfl,hm⟩:=up3 hn
     have h2:=h2 (k+2) (by omega) (k+2) (by omega)
     rw [he] at h2
     exact qA (h1 (k+2) (by omega)) (qA (qBN k r [34]) (qO p34 (qA (qBN k r [35]) (qE p35 (qA h2 (qA (h8 (k+2) (by omega)) (h9 (k+2) (by omega))))))))
   ·have p35:List.isPrefixOf [35] r=false:=by rw [Bool.eq_false_iff];exact fun e=>hh ((qED 35 r).1 e)
    simp only [if_neg hh]
    obtain ⟨n2,h2⟩:=qFE [40] (r,false,l)
    cases hc:(qV [40] (r,false,l)).1 with
    |true=>
     rw [if_pos ⟨hh,rfl⟩]
     have t2:=qDD (by simp) hc
     have t3:=qw (qV [40] (r,false,l)).2.1
     simp only [ett] at t2
     have g1:Gd (r,false,l):=⟨by simp only;omega,hn60,hg.s⟩
     obtain ⟨n3,h3⟩:=qER f (.bin 1 (deep+1)) (qV [40] (r,false,l)).2 (by show 20*_+6≤f;omega) (by show 0≤deep+1∧deep+1≤401;omega) (qCR g1) trivial
     generalize pP f (.bin 1 (deep+1)) (qV [40] (r,false,l)).2=q at h3⊢
     obtain ⟨n4,h4⟩:=qFE [41] q.2
     refine ⟨n1+n2+n3+n4+3,fun n hn=>?_⟩
     obtain ⟨k,rfl,hm⟩:=up3 hn
     have w1:IntKind.i64.wrap (deep+1)=deep+1:=qZ (by omega)
     have h3:=h3 (k+2) (by omega)
     rw [←w1] at h3
     cases hbb:q.2.2.1 with
     |true=>
      refine qA (h1 (k+2) (by omega)) (qA (qBN k r [34]) (qO p34 (qA (qBN k r [35]) (qO p35 (qA (h2 (k+2) (by omega)) (qE hc (qA h3 (qE hbb ?_))))))))
      rw [qC]
      unfold qB7
      rw [if_pos hbb]
      simp only [qF0,hbb]
     |false=>
      refine qA (h1 (k+2) (by omega)) (qA (qBN k r [34]) (qO p34 (qA (qBN k r [35]) (qO p35 (qA (h2 (k+2) (by omega)) (qE hc (qA h3 (qO hbb (qA (h4 (k+2) (by omega)) ?_)))))))))
      rw [qC]
      exact congrArg (fun x=>some (q.1,x)) (qKs [41] hbb)
    |false=>
     rw [if_neg (fun h=>by simp at h)]
     have e:(qV [40] (r,false,l)).2=(r,false,l):=by
      unfold qV at hc⊢
      split at hc
      ·cases hc
      ·rename_i hne
       rw [if_neg hne];simp only [ett]
     rw [hc,e] at h2
     refine ⟨n1+n2+n8+n9+3,fun n hn=>?_⟩
     obtain ⟨k,rfl,hm⟩:=up3 hn
     exact qA (h1 (k+2) (by omega)) (qA (qBN k r [34]) (qO p34 (qA (qBN k r [35]) (qO p35 (qA (h2 (k+2) (by omega)) (qO rfl (qA (h8 (k+2) (by omega)) (h9 (k+2) (by omega)))))))))
 |f+1,.call op deep,p,ha,hj,hg,_=>by
  replace ha:20*(tb p.1).length+9≤f+1:=ha
  unfold pP
  have gm:=qI3 (w:= [40]) hg
  have rm:=qI0 [40] p
  obtain ⟨ks,p',e1,e2,e3,n2,h2⟩:=qER f (.args op deep []) (qB7 [40] p) (by show 20*_+8≤f;omega) hj gm.1 (by have:=gm.1.r;show 0+_≤_;omega)
  obtain ⟨n1,h1⟩:=qFE [40] p
  obtain ⟨n3,h3⟩:=qLd (ndK 6 op ks) p' e2.n
  rw [e1]
  refine ⟨n1+n2+n3+1,fun n hn=>?_⟩
  obtain ⟨k,rfl,hm⟩:=up1 hn
  have h2:=h2 k (by omega) k (by omega)
  by_cases hb:p.2.1=true
  ·have em:qEn (qB7 [40] p)=(BR p.1,p.2.2.length,true,p.2.2.map qa):=by
    unfold qB7;rw [if_pos hb];simp only [qEn,hb]
   rw [em] at h2
   exact qE hb (qA h2 (qE (decide_eq_true (by simp)) (qA (h3 k (by omega)) rfl)))
  ·have hb:p.2.1=false:=by rw [Bool.eq_false_iff];exact hb
   have em:=qKs [40] hb
   rw [←em] at h2
   exact qO hb (qA (h1 k (by omega)) (qA h2 (qE (decide_eq_true (by simp)) (qA (h3 k (by omega)) rfl))))
 |f+1,.args op deep kids,p,ha,hj,hg,hk=>by
  replace ha:20*(tb p.1).length+8≤f+1:=ha
  replace hk:kids.length+p.1.length≤1500:=hk
  replace hj:0≤deep∧deep≤400:=hj
  unfold pP
  cases hb:p.2.1 with
  |true=>
   rw [if_pos rfl]
   refine ⟨kids,p,rfl,hg,by omega,1,fun n hn M hM=>?_⟩
   obtain ⟨M,rfl,hM⟩:=up1 hM
   exact qP (qO (by show (!p.2.1)=false;rw [hb];rfl) rfl)
  |false=>
   rw [if_neg (by simp)]
   simp only
   obtain ⟨x,hx,n1,h1⟩:=qQ8 p hg.r
   have ga:=qPz hg
   have ra:=qG9 p
   have tl0:=qw p.1
   have nb:∀k:Nat,(!(qEn p).2.2.1)=true:=fun _=>by show (!p.2.1)=true;rw [hb];rfl
   cases hi:(qA5 p).1 with
   |some y=>
    have hxy:=hx y hi
    subst hxy
    obtain ⟨n3,h3⟩:=qLd x (qA5 p).2 ga.1.n
    have eo:qDp (qA5 p) (fun p=>pP f (.bin 1 (deep+1)) p)=qC0 x (qA5 p).2:=by unfold qDp;rw [hi]
    rw [eo]
    have gq:Gd (qC0 x (qA5 p).2).2∧(qC0 x (qA5 p).2).2.1.length≤p.1.length∧(tb (qC0 x (qA5 p).2).2.1).length≤(tb p.1).length:=⟨qFv ga.1 (ga.2.2 x hi),by rw [qAq];exact ga.2.1,by rw [qAq];exact ra⟩
    have n2:=0
    generalize qC0 x (qA5 p).2=Q at h3 gq⊢
    obtain ⟨n4,h4⟩:=qFE [44] Q.2
    cases hc:(qV [44] Q.2).1 with
    |true=>
     obtain ⟨ks,p',e1,e2,e3,n6,h6⟩:=qER f (.args op deep (kids++ [Q.1])) (qV [44] Q.2).2 (by have:=qDD (by simp) hc;show 20*(tb (qV [44] Q.2).2.1).length+8≤f;have:=qw (qV [44] Q.2).2.1;omega) ⟨hj.1,hj.2⟩ (qCR gq.1) (by have:=qDD (by simp) hc;have:=qw Q.2.1;show (kids++ [Q.1]).length+_≤_;simp;omega)
     refine ⟨ks,p',by rw [if_pos rfl];exact e1,e2,e3,n1+n2+n3+n4+n6+1,fun k hn M hM=>?_⟩
     obtain ⟨M,rfl,hM⟩:=up1 hM
     rw [qW (v':=(op,deep,(kids++ [Q.1]).length,(kids++ [Q.1]).map qAy,qEn (qV [44] Q.2).2)) (by
      have h1:=h1 k (by omega)
      rw [hi] at h1
      refine qE (nb 0) (qA h1 (qE rfl (qA (h3 k (by omega)) (qE rfl (qE (decide_eq_true ⟨by simp,by decide,by decide,by simp;omega,rfl⟩) (qA (h4 k (by omega)) ?_))))))
      refine qO (by simp only;rw [hc];rfl) ?_
      rw [qC]
      simp only [List.length_append,List.map_append]
      rfl)]
     exact h6 k (by omega) M (by omega)
    |false=>
     obtain ⟨n5,h5⟩:=qFE [41] (qV [44] Q.2).2
     refine ⟨kids++ [Q.1],qB7 [41] (qV [44] Q.2).2,by rw [if_neg (by simp)],(qI3 (qCR gq.1)).1,by simp;omega,n1+n2+n3+n4+n5+1,fun k hn M hM=>?_⟩
     obtain ⟨M,rfl,hM⟩:=up1 hM
     cases hbb:(qV [44] Q.2).2.2.1 with
     |true=>
      rw [qP (r:=(op,(kids++ [Q.1]).length,(kids++ [Q.1]).map qAy,qEn (qB7 [41] (qV [44] Q.2).2))) (by
       have h1:=h1 k (by omega)
       rw [hi] at h1
       refine qE (nb 0) (qA h1 (qE rfl (qA (h3 k (by omega)) (qE rfl (qE (decide_eq_true ⟨by simp,by decide,by decide,by simp;omega,rfl⟩) (qA (h4 k (by omega)) ?_))))))
       refine qE (by simp only;rw [hc];rfl) (qE hbb ?_)
       rw [qC]
       unfold qB7
       rw [if_pos hbb]
       simp only [List.length_append,List.map_append,qEn,hbb]
       rfl)]
     |false=>
      rw [qP (r:=(op,(kids++ [Q.1]).length,(kids++ [Q.1]).map qAy,qEn (qB7 [41] (qV [44] Q.2).2))) (by
       have h1:=h1 k (by omega)
       rw [hi] at h1
       refine qE (nb 0) (qA h1 (qE rfl (qA (h3 k (by omega)) (qE rfl (qE (decide_eq_true ⟨by simp,by decide,by decide,by simp;omega,rfl⟩) (qA (h4 k (by omega)) ?_))))))
       refine qE (by simp only;rw [hc];rfl) (qO hbb (qA (h5 k (by omega)) ?_))
       rw [qC]
       simp only [List.length_append,List.map_append]
       exact congrArg (fun x=>some (Sum.inr (op,kids.length+1,kids.map qAy++ [[PV.i IntKind.i64 Q.1]],x))) (qKs [41] hbb))]
   |none=>
    have eo:qDp (qA5 p) (fun p=>pP f (.bin 1 (deep+1)) p)=pP f (.bin 1 (deep+1)) (qA5 p).2:=by unfold qDp;rw [hi]
    rw [eo]
    obtain ⟨n3,h3⟩:=qER f (.bin 1 (deep+1)) (qA5 p).2 (by show 20*_+6≤f;omega) (by show 0≤deep+1∧deep+1≤401;omega) ga.1 trivial
    have g3:=qEI f (.bin 1 (deep+1)) (qA5 p).2 ga.1 trivial
    have l3:=qDE f (.bin 1 (deep+1)) (qA5 p).2
    have w1:IntKind.i64.wrap (deep+1)=deep+1:=qZ (by omega)
    have gq:Gd (pP f (.bin 1 (deep+1)) (qA5 p).2).2∧(pP f (.bin 1 (deep+1)) (qA5 p).2).2.1.length≤p.1.length∧(tb (pP f (.bin 1 (deep+1)) (qA5 p).2).2.1).length≤(tb p.1).length:=⟨g3.1,Nat.le_trans g3.2 ga.2.1,Nat.le_trans l3 ra⟩
    rw [←w1] at h3
    have n2:=0
    rw [w1] at h3
    generalize pP f (.bin 1 (deep+1)) (qA5 p).2=Q at h3 gq⊢
    obtain ⟨n4,h4⟩:=qFE [44] Q.2
    cases hc:(qV [44] Q.2).1 with
    |true=>
     obtain ⟨ks,p',e1,e2,e3,n6,h6⟩:=qER f (.args op deep (kids++ [Q.1])) (qV [44] Q.2).2 (by have:=qDD (by simp) hc;show 20*(tb (qV [44] Q.2).2.1).length+8≤f;have:=qw (qV [44] Q.2).2.1;omega) ⟨hj.1,hj.2⟩ (qCR gq.1) (by have:=qDD (by simp) hc;have:=qw Q.2.1;show (kids++ [Q.1]).length+_≤_;simp;omega)
     refine ⟨ks,p',by rw [if_pos rfl];exact e1,e2,e3,n1+n2+n3+n4+n6+1,fun k hn M hM=>?_⟩
     obtain ⟨M,rfl,hM⟩:=up1 hM
     rw [qW (v':=(op,deep,(kids++ [Q.1]).length,(kids++ [Q.1]).map qAy,qEn (qV [44] Q.2).2)) (by
      have h1:=h1 k (by omega)
      rw [hi] at h1
      have h3:=h3 k (by omega)
      rw [←w1] at h3
      refine qE (nb 0) (qA h1 (qO rfl (qA h3 (qE rfl (qE (decide_eq_true ⟨by simp,by decide,by decide,by simp;omega,rfl⟩) (qA (h4 k (by omega)) ?_))))))
      refine qO (by simp only;rw [hc];rfl) ?_
      rw [qC]
      simp only [List.length_append,List.map_append]
      rfl)]
     exact h6 k (by omega) M (by omega)
    |false=>
     obtain ⟨n5,h5⟩:=qFE [41] (qV [44] Q.2).2
     refine ⟨kids++ [Q.1],qB7 [41] (qV [44] Q.2).2,by rw [if_neg (by simp)],(qI3 (qCR gq.1)).1,by simp;omega,n1+n2+n3+n4+n5+1,fun k hn M hM=>?_⟩
     obtain ⟨M,rfl,hM⟩:=up1 hM
     cases hbb:(qV [44] Q.2).2.2.1 with
     |true=>
      rw [qP (r:=(op,(kids++ [Q.1]).length,(kids++ [Q.1]).map qAy,qEn (qB7 [41] (qV [44] Q.2).2))) (by
       have h1:=h1 k (by omega)
       rw [hi] at h1
       have h3:=h3 k (by omega)
       rw [←w1] at h3
       refine qE (nb 0) (qA h1 (qO rfl (qA h3 (qE rfl (qE (decide_eq_true ⟨by simp,by decide,by decide,by simp;omega,rfl⟩) (qA (h4 k (by omega)) ?_))))))
       refine qE (by simp only;rw [hc];rfl) (qE hbb ?_)
       rw [qC]
       unfold qB7
       rw [if_pos hbb]
       simp only [List.length_append,List.map_append,qEn,hbb]
       rfl)]
     |false=>
      rw [qP (r:=(op,(kids++ [Q.1]).length,(kids++ [Q.1]).map qAy,qEn (qB7 [41] (qV [44] Q.2).2))) (by
       have h1:=h1 k (by omega)
       rw [hi] at h1
       have h3:=h3 k (by omega)
       rw [←w1] at h3
       refine qE (nb 0) (qA h1 (qO rfl (qA h3 (qE rfl (qE (decide_eq_true ⟨by simp,by decide,by decide,by simp;omega,rfl⟩) (qA (h4 k (by omega)) ?_))))))
       refine qE (by simp only;rw [hc];rfl) (qO hbb (qA (h5 k (by omega)) ?_))
       rw [qC]
       simp only [List.length_append,List.map_append]
       exact congrArg (fun x=>some (Sum.inr (op,kids.length+1,kids.map qAy++ [[PV.i IntKind.i64 Q.1]],x))) (qKs [41] hbb))]
def pos (s r:List UInt8):Int:=((s.length-r.length:Nat):Int)
def qCY (s:List UInt8) (q:PS):ByteArray×Int×Bool×Nat×List (List PV):=(BR s,pos s q.1,q.2.1,q.2.2.length,q.2.2.map qa)
def qCE (s:List UInt8) (r:Int×PS):Int×ByteArray×Int×Bool×Nat×List (List PV):=(r.1,qCY s r.2)
theorem qPH {s r:List UInt8} (h:r<:+s):s.drop (s.length-r.length)=r:=by
 obtain ⟨t,rfl⟩:=h
 simp
theorem qP0 (s r:List UInt8):(pos s r).toNat=s.length-r.length:=by unfold pos;simp
theorem qJi (s r:List UInt8):0≤pos s r:=by unfold pos;omega
theorem qCw {s r:List UInt8} (h:r<:+s):r.length≤s.length:=h.length_le
theorem qI5 {s r t:List UInt8} {k:Nat} (h:r<:+s) (e:t=r.drop k) (hk:k≤r.length):pos s r+(k:Int)=pos s t:=by
 subst e
 have:=qCw h
 unfold pos
 simp only [List.length_drop]
 omega
theorem qKt {s r:List UInt8} (h:r<:+s):(BR s).toList[(pos s r).toNat]?=r.head?:=by
 rw [qAJ,qP0,←List.head?_drop,qPH h]
theorem qPc {s r:List UInt8} (h:r<:+s):tb r<:+s:=(List.dropWhile_suffix _).trans h
theorem qNM {s t:List UInt8} {c:UInt8} (h:(c::t)<:+s):t<:+s:=(List.suffix_cons c t).trans h
theorem qMV {s r:List UInt8} {k:Nat} (h:r<:+s):(BR s).extract (pos s r).toNat (pos s r+(k:Int)).toNat=BR (r.take k):=by
 rw [qE0,qP0,show (pos s r+(k:Int)).toNat=(s.length-r.length)+k by unfold pos;omega,←List.take_drop,qPH h]
theorem qCo {b:Bool} (h:b=true):(!b)=false:=by rw [h];rfl
theorem qDM {b:Bool} (h:b=false):(!b)=true:=by rw [h];rfl
theorem qOH {s:List UInt8} (hs:s.length≤1000) (n:Nat) (b:Bool) (m:Nat) (rows:List (List PV)):∀(r:List UInt8) (M:Nat),r<:+s→r.length+1≤M→zC (qC6 n) M (BR s,pos s r,b,m,rows)=some (BR s,pos s (tb r),b,m,rows)
 |r,0,_,h=>by omega
 | [],M+1,h,_=>by
  exact qP (qO (decide_eq_false (show ¬pos s []<((BR s).size:Int) by rw [qb];unfold pos;simp)) rfl)
 |c::t,M+1,h,hM=>by
  have hl:=qCw h
  simp only [List.length_cons] at hl hM
  have g:=qKt h
  have p1:pos s (c::t)<((BR s).size:Int):=by rw [qb];unfold pos;simp only [List.length_cons];omega
  by_cases hc:c=32
  ·subst hc
   have w1:IntKind.i64.wrap (pos s (32::t)+1)=pos s t:=by
    have:=qI5 (k:=1) h (t:=t) rfl (by simp)
    rw [qZ (by unfold pos;omega)];exact this
   rw [qW (v':=(BR s,pos s t,b,m,rows)) (by
    refine qE (decide_eq_true p1) (qE (decide_eq_true (qJi _ _)) (qA g (qE rfl ?_)))
    rw [qC,w1])]
   have e:tb (32::t)=tb t:=by simp [tb]
   rw [e]
   exact qOH hs n b m rows t M (qNM h) (by omega)
  ·have e:tb (c::t)=c::t:=by simp [tb,hc]
   rw [e]
   refine qP (qE (decide_eq_true p1) (qE (decide_eq_true (qJi _ _)) (qA g (qO ?_ rfl))))
   rw [beq_eq_false_iff_ne]
   intro e
   exact hc (UInt8.toNat_inj.1 (show c.toNat=32 by omega))
theorem qOm {s:List UInt8} (hs:s.length≤1000) (q:PS) (h:q.1<:+s):Ev (qBS · (BR s) (pos s q.1) q.2.1 q.2.2.length (q.2.2.map qa)) (qCY s (tb q.1,q.2)):=by
 have hl:=qCw h
 refine ⟨q.1.length+2,fun n hn=>?_⟩
 obtain ⟨k,rfl,hm⟩:=up1 hn
 exact qA (qOH hs k q.2.1 q.2.2.length (q.2.2.map qa) q.1 k h (by omega)) rfl
theorem qFx {s:List UInt8} (hs:s.length≤1000) (w:List UInt8) (hw:w.length≤1000) (q:PS) (h:q.1<:+s):Ev (qAA · (BR w) (BR s) (pos s q.1) q.2.1 q.2.2.length (q.2.2.map qa)) ((sIs w q).1,qCY s (sIs w q).2):=by
 obtain ⟨n1,h1⟩:=qOm hs q h
 have ht:=qPc h
 have hl:=qCw ht
 refine ⟨n1+1,fun n hn=>?_⟩
 obtain ⟨k,rfl,hm⟩:=up1 hn
 have w1:IntKind.i64.wrap (pos s (tb q.1)+((BR w).size:Int))=pos s (tb q.1)+(w.length:Int):=by rw [qb];exact qZ (by unfold pos;omega)
 unfold sIs
 cases hb:q.2.1 with
 |true=>
  rw [if_pos rfl]
  have h1:=h1 k (by omega)
  rw [hb] at h1
  refine qA h1 (qE hb ?_)
  rw [qC]
 |false=>
  have h1:=h1 k (by omega)
  rw [hb] at h1
  rw [if_neg (by simp)]
  by_cases hf:pos s (tb q.1)+(w.length:Int)>(s.length:Int)
  ·have hn:¬w.isPrefixOf (tb q.1)=true:=by
    intro e
    have:=(List.isPrefixOf_iff_prefix.1 e).length_le
    unfold pos at hf
    omega
   rw [if_neg hn]
   refine qA h1 (qO hb (qE (decide_eq_true (show IntKind.i64.wrap (pos s (tb q.1)+((BR w).size:Int))>((BR s).size:Int) by rw [w1,qb];exact hf)) ?_))
   rw [qC]
  ·have hx:=qMV (k:=w.length) ht
   have hwl:w.length≤(tb q.1).length:=by unfold pos at hf;omega
   have cmp:((BR s).extract (pos s (tb q.1)).toNat (IntKind.i64.wrap (pos s (tb q.1)+((BR w).size:Int))).toNat).toList==(BR w).toList↔w.isPrefixOf (tb q.1)=true:=by
    rw [w1,hx,qAJ,qAJ,beq_iff_eq,List.isPrefixOf_iff_prefix,List.prefix_iff_eq_take]
    exact ⟨fun e=>e.symm,fun e=>e.symm⟩
   refine qA h1 (qO hb (qO (decide_eq_false (show ¬IntKind.i64.wrap (pos s (tb q.1)+((BR w).size:Int))>((BR s).size:Int) by rw [w1,qb];exact hf)) (qE (decide_eq_true (show 0≤pos s (tb q.1)∧pos s (tb q.1)≤IntKind.i64.wrap (pos s (tb q.1)+((BR w).size:Int))∧IntKind.i64.wrap (pos s (tb q.1)+((BR w).size:Int))≤((BR s).size:Int) by rw [w1,qb];exact ⟨qJi _ _,by omega,by omega⟩)) ?_)))
   by_cases hp:w.isPrefixOf (tb q.1)=true
   ·rw [if_pos hp]
    refine qO (qCo (cmp.2 hp)) ?_
    rw [qC]
    show some (true,BR s,IntKind.i64.wrap (pos s (tb q.1)+((BR w).size:Int)),q.2.1,q.2.2.length,q.2.2.map qa)=_
    rw [w1,qI5 ht rfl hwl]
    rfl
   ·rw [if_neg hp]
    refine qE (qDM (by rw [Bool.eq_false_iff];exact fun e=>hp (cmp.1 e))) ?_
    rw [qC]
theorem qIv {s:List UInt8} (x:Nd) (q:PS) (h:q.2.2.length≤5000) (hx:qNu x):Ev (qo · x.1 x.2.1 x.2.2.1 x.2.2.2.1 x.2.2.2.2.1 x.2.2.2.2.2.1 x.2.2.2.2.2.2.1 x.2.2.2.2.2.2.2.1 x.2.2.2.2.2.2.2.2.1 x.2.2.2.2.2.2.2.2.2.1 x.2.2.2.2.2.2.2.2.2.2.1 x.2.2.2.2.2.2.2.2.2.2.2.1 x.2.2.2.2.2.2.2.2.2.2.2.2.1 ((kd x).map qAy) (BR s) (pos s q.1) q.2.1 q.2.2.length (q.2.2.map qa)) (qCE s (qDZ x q)):=by
 obtain ⟨n1,h1⟩:=qG6 x (by have:=hx.2;omega)
 refine ⟨n1+1,fun n hn=>?_⟩
 obtain ⟨k,rfl,hm⟩:=up1 hn
 have w2:IntKind.i64.wrap ((((q.2.2.length+1):Nat):Int)-1)=(q.2.2.length:Int):=by rw [qZ (by omega)];omega
 refine qE rfl (qE (decide_eq_true ⟨by simp,by decide,by decide,by simp;omega,rfl⟩) ?_)
 unfold qDZ
 by_cases h6:60<q.2.2.length+1
 ·rw [if_pos (.inl h6)]
  refine qE (decide_eq_true (by omega)) ?_
  rw [qC,w2]
  simp only [qCE,qCY,List.map_append,List.length_append]
  rfl
 ·refine qO (decide_eq_false (by omega)) (qA (h1 k (by omega)) ?_)
  cases ho:qEH x with
  |true=>
   rw [if_neg (fun e=>e.elim h6 (by simp))]
   refine qO rfl ?_
   rw [qC,w2]
   simp only [qCE,qCY,List.map_append,List.length_append]
   rfl
  |false=>
   rw [if_pos (.inr rfl)]
   refine qE rfl ?_
   rw [qC,w2]
   simp only [qCE,qCY,List.map_append,List.length_append]
   rfl
theorem qLo {s:List UInt8} (hs:s.length≤1000) (n:Nat) (at0:Int) (b:Bool) (m:Nat) (rows:List (List PV)):∀(r:List UInt8) (M:Nat),r<:+s→r.length+1≤M→zC (qBn n) M (at0,BR s,pos s r,b,m,rows)=some (at0,BR s,pos s (wr r),b,m,rows)
 |r,0,_,h=>by omega
 | [],M+1,h,_=>by
  exact qP (qO (decide_eq_false (show ¬pos s []<((BR s).size:Int) by rw [qb];unfold pos;simp)) rfl)
 |c::t,M+1,h,hM=>by
  have hl:=qCw h
  simp only [List.length_cons] at hl hM
  have g:=qKt h
  have p1:pos s (c::t)<((BR s).size:Int):=by rw [qb];unfold pos;simp only [List.length_cons];omega
  have p0:decide (0≤pos s (c::t))=true:=decide_eq_true (qJi _ _)
  have w1:IntKind.i64.wrap (pos s (c::t)+1)=pos s t:=by
   have:=qI5 (k:=1) h (t:=t) rfl (by simp)
   rw [qZ (by unfold pos;omega)];exact this
  have yes:(wch c=true)→(qBn n (at0,BR s,pos s (c::t),b,m,rows)).run=some (.inl (at0,BR s,pos s t,b,m,rows)):=fun hc=>by
   have fin:some (Sum.inl (at0,BR s,IntKind.i64.wrap (pos s (c::t)+1),b,m,rows))=(some (Sum.inl (at0,BR s,pos s t,b,m,rows)):Option (_⊕(Int×ByteArray×Int×Bool×Nat×List (List PV)))):=by rw [w1]
   refine qE (decide_eq_true p1) (qE p0 (qA g ?_))
   by_cases a1:(c.toNat:Int)≥65
   ·refine qE (decide_eq_true a1) (qE p0 (qA g ?_))
    by_cases a2:(c.toNat:Int)≤90
    ·exact qE (decide_eq_true a2) fin
    ·refine qO (decide_eq_false a2) (qE p0 (qA g ?_))
     by_cases a3:(c.toNat:Int)≥48
     ·refine qE (decide_eq_true a3) (qE p0 (qA g ?_))
      by_cases a4:(c.toNat:Int)≤57
      ·exact qE (decide_eq_true a4) fin
      ·refine qO (decide_eq_false a4) (qE p0 (qA g ?_))
       have a5:c=36:=by
        unfold wch at hc
        simp only [Bool.or_eq_true,Bool.and_eq_true,decide_eq_true_eq,beq_iff_eq] at hc
        rcases hc with hc|hc|hc
        ·omega
        ·omega
        ·exact hc
       exact qE (by rw [a5];rfl) fin
     ·omega
   ·refine qO (decide_eq_false a1) (qE p0 (qA g ?_))
    by_cases a3:(c.toNat:Int)≥48
    ·refine qE (decide_eq_true a3) (qE p0 (qA g ?_))
     by_cases a4:(c.toNat:Int)≤57
     ·exact qE (decide_eq_true a4) fin
     ·refine qO (decide_eq_false a4) (qE p0 (qA g ?_))
      have a5:c=36:=by
       unfold wch at hc
       simp only [Bool.or_eq_true,Bool.and_eq_true,decide_eq_true_eq,beq_iff_eq] at hc
       rcases hc with hc|hc|hc
       ·omega
       ·omega
       ·exact hc
      exact qE (by rw [a5];rfl) fin
    ·refine qO (decide_eq_false a3) (qE p0 (qA g ?_))
     have a5:c=36:=by
      unfold wch at hc
      simp only [Bool.or_eq_true,Bool.and_eq_true,decide_eq_true_eq,beq_iff_eq] at hc
      rcases hc with hc|hc|hc
      ·omega
      ·omega
      ·exact hc
     exact qE (by rw [a5];rfl) fin
  have no:(wch c=false)→(qBn n (at0,BR s,pos s (c::t),b,m,rows)).run=some (.inr (at0,BR s,pos s (c::t),b,m,rows)):=fun hc=>by
   have hc':¬((65≤c.toNat∧c.toNat≤90)∨(48≤c.toNat∧c.toNat≤57)∨c=36):=fun e=>by
    have:wch c=true:=by
     unfold wch
     simp only [Bool.or_eq_true,Bool.and_eq_true,decide_eq_true_eq,beq_iff_eq]
     exact e
    rw [hc] at this;cases this
   have a5:((c.toNat:Int)==36)=false:=by
    rw [beq_eq_false_iff_ne];intro e
    exact hc' (.inr (.inr (UInt8.toNat_inj.1 (show c.toNat=36 by omega))))
   refine qE (decide_eq_true p1) (qE p0 (qA g ?_))
   by_cases a1:(c.toNat:Int)≥65
   ·have a2:¬(c.toNat:Int)≤90:=fun e=>hc' (.inl ⟨by omega,by omega⟩)
    refine qE (decide_eq_true a1) (qE p0 (qA g (qO (decide_eq_false a2) ?_)))
    refine qE p0 (qA g (qE (decide_eq_true (show (c.toNat:Int)≥48 by omega)) ?_))
    exact qE p0 (qA g (qO (decide_eq_false (show ¬(c.toNat:Int)≤57 by omega)) (qE p0 (qA g (qO a5 rfl)))))
   ·refine qO (decide_eq_false a1) (qE p0 (qA g ?_))
    by_cases a3:(c.toNat:Int)≥48
    ·have a4:¬(c.toNat:Int)≤57:=fun e=>hc' (.inr (.inl ⟨by omega,by omega⟩))
     exact qE (decide_eq_true a3) (qE p0 (qA g (qO (decide_eq_false a4) (qE p0 (qA g (qO a5 rfl))))))
    ·exact qO (decide_eq_false a3) (qE p0 (qA g (qO a5 rfl)))
  cases hc:wch c with
  |true=>
   rw [qW (yes hc),show wr (c::t)=wr t by simp [wr,hc]]
   exact qLo hs n at0 b m rows t M (qNM h) (by omega)
  |false=>
   rw [qP (no hc),show wr (c::t)=c::t by simp [wr,hc]]
theorem qNN {s:List UInt8} (hs:s.length≤1000) (q:PS) (h:q.1<:+s):Ev (qCf · (BR s) (pos s q.1) q.2.1 q.2.2.length (q.2.2.map qa)) (BR (wd q.1),qCY s (wr q.1,q.2)):=by
 have hl:=qCw h
 have hw:=qFu q.1
 have hd:=congrArg List.length (wdr q.1)
 simp only [List.length_append] at hd
 refine ⟨q.1.length+2,fun n hn=>?_⟩
 obtain ⟨k,rfl,hm⟩:=up1 hn
 refine qA (qLo hs k (pos s q.1) q.2.1 q.2.2.length (q.2.2.map qa) q.1 k h (by omega)) (qE (decide_eq_true ⟨qJi _ _,by unfold pos;simp only;omega,by rw [qb];unfold pos;simp only;omega⟩) ?_)
 rw [qC]
 have e:(pos s (wr q.1))=pos s q.1+((wd q.1).length:Int):=by unfold pos;omega
 have x:=qMV (k:=(wd q.1).length) h
 rw [←e] at x
 have t:q.1.take (wd q.1).length=wd q.1:=by
  have:=List.take_left (l₁:=wd q.1) (l₂:=wr q.1)
  rwa [wdr] at this
 rw [t] at x
 show some ((BR s).extract (pos s q.1).toNat (pos s (wr q.1)).toNat,_)=_
 rw [x]
 rfl
theorem qGL {s:List UInt8} (hs:s.length≤1000) {n:Nat} (b:Bool) (l:List Nd) (res:Int×PS):∀(k:Nat) (r acc:List UInt8) (M:Nat),r.length≤k→r<:+s→acc.length+r.length≤1001→r.length+1≤M→
  (∀w t,qBr acc r=some (w,t)→qo n 1 0 2 0 (BR w) 0 0 false false 0 0 false false [] (BR s) (pos s t) b l.length (l.map qa)=some (qCE s res))→
  zC (qDO n) M (BR acc,BR s,pos s r,b,l.length,l.map qa)=some (match qBr acc r with
   |none=> .inr (BR s,pos s [],b,l.length,l.map qa)
   |some _=> .inl (qCE s res))
 |k,r,acc,0,_,_,_,h,_=>by omega
 |k,[],acc,M+1,_,h,_,_,_=>by
  exact qP (qO (decide_eq_false (show ¬pos s []<((BR s).size:Int) by rw [qb];unfold pos;simp)) rfl)
 |0,c::t,acc,M+1,hk,_,_,_,_=>by simp at hk
 |k+1,c::t,acc,M+1,hk,h,ha,hM,hr=>by
  have hl:=qCw h
  simp only [List.length_cons] at hl hM hk ha
  have g:=qKt h
  have p1:pos s (c::t)<((BR s).size:Int):=by rw [qb];unfold pos;simp only [List.length_cons];omega
  have p0:decide (0≤pos s (c::t))=true:=decide_eq_true (qJi _ _)
  have pa:=qI5 (k:=1) h (t:=t) rfl (by simp)
  have w1:IntKind.i64.wrap (pos s (c::t)+1)=pos s t:=by rw [qZ (by unfold pos;omega)];exact pa
  by_cases hc:c=34
  ·subst hc
   have ht:=qNM h
   by_cases hq:t.head?=some 34
   ·obtain ⟨u,rfl⟩:=qI4 hq
    simp only [List.length_cons] at hl hM hk ha
    rw [qRK] at hr⊢
    have g2:=qKt ht
    have pb:=qI5 (k:=1) ht (t:=u) rfl (by simp)
    have w2:IntKind.i64.wrap (pos s (34::u)+1)=pos s u:=by rw [qZ (by unfold pos;omega)];exact pb
    rw [qW (v':=(BR (acc++ [34]),BR s,pos s u,b,l.length,l.map qa)) (by
     refine qE (decide_eq_true p1) (qE p0 (qA g (qO rfl (qO (decide_eq_false (show ¬IntKind.i64.wrap (pos s (34::34::u)+1)≥((BR s).size:Int) by rw [w1,qb];unfold pos;simp only [List.length_cons];omega)) (qE (decide_eq_true (show 0≤IntKind.i64.wrap (pos s (34::34::u)+1) by rw [w1];exact qJi _ _)) (qA (x:=34) (by show (BR s).toList[(IntKind.i64.wrap (pos s (34::34::u)+1)).toNat]?=_;rw [w1];exact g2) (qO rfl (qE (decide_eq_true (show (BR acc).size+1≤9223372036854775807 by rw [qb];omega)) ?_))))))))
     rw [qC]
     show some (Sum.inl (BR acc++BR [34],BR s,IntKind.i64.wrap (IntKind.i64.wrap (pos s (34::34::u)+1)+1),b,l.length,l.map qa))=_
     rw [w1,w2,qLb])]
    exact qGL hs b l res k u _ M (by omega) (qNM ht) (by simp;omega) (by omega) hr
   ·rw [qRL acc t hq] at hr⊢
    have hr:=hr acc t rfl
    refine qP (qE (decide_eq_true p1) (qE p0 (qA g (qO rfl ?_))))
    cases t with
    |nil=>
     refine qE (decide_eq_true (show IntKind.i64.wrap (pos s [34]+1)≥((BR s).size:Int) by rw [w1,qb];unfold pos;simp)) ?_
     rw [←w1] at hr
     exact qA hr rfl
    |cons d u=>
     have g2:=qKt ht
     have hd:¬d=34:=fun e=>hq (by rw [e];rfl)
     refine qO (decide_eq_false (show ¬IntKind.i64.wrap (pos s (34::d::u)+1)≥((BR s).size:Int) by rw [w1,qb];unfold pos;simp only [List.length_cons] at hl⊢;omega)) (qE (decide_eq_true (show 0≤IntKind.i64.wrap (pos s (34::d::u)+1) by rw [w1];exact qJi _ _)) (qA (x:=d) (by show (BR s).toList[(IntKind.i64.wrap (pos s (34::d::u)+1)).toNat]?=_;rw [w1];exact g2) (qE ?_ ?_)))
     ·rw [bne_iff_ne]
      intro e
      exact hd (UInt8.toNat_inj.1 (show d.toNat=34 by omega))
     ·rw [←w1] at hr
      exact qA hr rfl
  ·rw [qRM acc t hc] at hr⊢
   have hx:=qMV (k:=1) h
   rw [show ((1:Nat):Int)=1 from rfl] at hx pa
   have hx:(BR s).extract (pos s (c::t)).toNat (IntKind.i64.wrap (pos s (c::t)+1)).toNat=BR [c]:=by
    rw [w1,←pa];exact hx
   rw [qW (v':=(BR (acc++ [c]),BR s,pos s t,b,l.length,l.map qa)) (by
    refine qE (decide_eq_true p1) (qE p0 (qA g (qE ?_ (qE (decide_eq_true (show 0≤pos s (c::t)∧pos s (c::t)≤IntKind.i64.wrap (pos s (c::t)+1)∧IntKind.i64.wrap (pos s (c::t)+1)≤((BR s).size:Int) by rw [w1,qb];exact ⟨qJi _ _,by unfold pos;simp only [List.length_cons];omega,by unfold pos;omega⟩)) (qE (decide_eq_true (show (BR acc).size+((BR s).extract (pos s (c::t)).toNat (IntKind.i64.wrap (pos s (c::t)+1)).toNat).size≤9223372036854775807 by rw [hx,qb,qb];simp;omega)) ?_)))))
    ·rw [bne_iff_ne]
     intro e
     exact hc (UInt8.toNat_inj.1 (show c.toNat=34 by omega))
    ·rw [qC]
     show some (Sum.inl (BR acc++(BR s).extract (pos s (c::t)).toNat (IntKind.i64.wrap (pos s (c::t)+1)).toNat,BR s,IntKind.i64.wrap (pos s (c::t)+1),b,l.length,l.map qa))=_
     rw [hx,qLb,w1])]
   exact qGL hs b l res k t _ M (by omega) (qNM h) (by simp;omega) (by omega) hr
theorem qQf {s:List UInt8} (hs:s.length≤1000) (q:PS) (h:q.1<:+s) (hn:q.2.2.length≤5000):Ev (qEK · (BR s) (pos s q.1) q.2.1 q.2.2.length (q.2.2.map qa)) (qCE s (match qBr [] q.1 with
  |none=>(0,[],true,q.2.2)
  |some (w,t)=>qDZ (nd1 (2,0,BR w)) (t,q.2))):=by
 have hl:=qCw h
 cases hq:qBr [] q.1 with
 |none=>
  refine ⟨q.1.length+2,fun n hn=>?_⟩
  obtain ⟨k,rfl,hm⟩:=up1 hn
  have lp:=qGL hs (n:=k) q.2.1 q.2.2 (0,q) q.1.length q.1 [] k (Nat.le_refl _) h (by simp;omega) (by omega) (fun w t e=>by rw [hq] at e;cases e)
  rw [hq] at lp
  exact qA lp rfl
 |some wt=>
  obtain ⟨w,t⟩:=wt
  have hw:=qFw _ _ _ (Nat.le_refl _) hq
  simp only [List.length_nil] at hw
  obtain ⟨n1,h1⟩:=qIv (s:=s) (nd1 (2,0,BR w)) (t,q.2) hn ⟨by simp [kd,nd1],by simp only [nd1,qb];omega⟩
  refine ⟨n1+q.1.length+2,fun n hn=>?_⟩
  obtain ⟨k,rfl,hm⟩:=up1 hn
  have lp:=qGL hs (n:=k) q.2.1 q.2.2 (qDZ (nd1 (2,0,BR w)) (t,q.2)) q.1.length q.1 [] k (Nat.le_refl _) h (by simp;omega) (by omega) (fun w' t' e=>by rw [hq] at e;cases e;exact h1 k (by omega))
  rw [hq] at lp
  exact qA lp rfl
theorem qOn:∀o∈qBx,(qAI o).toList≠ []∧(qAI o).size≤2:=by decide+kernel
theorem qQg:∀o∈qBx,1≤o∧o≤11:=by decide
def opR:List (List PV):=qBx.map qAy
def rsL (level:Int) (r:List UInt8):List Int→List UInt8
 | []=>r
 |o::l=>if lvl o=level then rsL level (tb r) l else rsL level r l
theorem qLe {s:List UInt8} (hs:s.length≤1000) {n:Nat} (level:Int) (R:List UInt8) (hR:tb R=R) (m:Nat) (rows:List (List PV))
  (h1:∀o∈qBx,qB4 n o=some (lvl o)) (h2:∀o∈qBx,qCS n o=some (qAI o)):
  ∀(k i:Nat) (r:List UInt8) (M:Nat),i+k=11→k+1≤M→tb r=R→
  (∀r',tb r'=R→(r'=r∨r'=R)→∀o∈qBx,qAA n (qAI o) (BR s) (pos s r') false m rows=some (if (qAI o).toList.isPrefixOf R=true then (true,BR s,pos s (R.drop (qAI o).size),false,m,rows) else (false,BR s,pos s R,false,m,rows)))→
  zC (qDw n) M (level,11,(i:Int),opR,BR s,pos s r,false,m,rows)=some (if qDK level R (qBx.drop i)=0 then .inr (BR s,pos s (rsL level r (qBx.drop i)),false,m,rows) else .inl (qDK level R (qBx.drop i),BR s,pos s (R.drop (qAI (qDK level R (qBx.drop i))).size),false,m,rows))
 |k,i,r,0,_,h,_,_=>by omega
 |0,i,r,M+1,hk,_,_,_=>by
  have hi:i=11:=by omega
  subst hi
  exact qP (qO rfl rfl)
 |k+1,i,r,M+1,hk,hM,hr,h3=>by
  have hi:i<qBx.length:=by simp [qBx];omega
  obtain ⟨o,ho⟩:∃o,qBx[i]?=some o:=⟨_,List.getElem?_eq_getElem hi⟩
  have hin:=List.mem_of_getElem? ho
  have hR2:opR[i]?=some [PV.i .i64 o]:=by simp [opR,List.getElem?_map,ho,qAy]
  have hc:zE .i64 [PV.i .i64 o] 0=some o:=rfl
  have hd:qBx.drop i=o::qBx.drop (i+1):=qEP ho
  have w5:IntKind.i64.wrap ((i:Int)+1)=((i+1:Nat):Int):=by rw [qZ (by omega)];omega
  have g1:decide ((i:Int)<((11:Nat):Int))=true:=decide_eq_true (by omega)
  have g2:decide (11=opR.length∧0≤(i:Int)∧(i:Int)<((11:Nat):Int))=true:=decide_eq_true ⟨rfl,by omega,by omega⟩
  have h0:o≠0:=by have:=qQg o hin;omega
  rw [hd]
  by_cases hl:lvl o=level
  ·have is:=h3 r hr (.inl rfl) o hin
   by_cases hp:(qAI o).toList.isPrefixOf R=true
   ·have e:qDK level R (o::qBx.drop (i+1))=o:=by unfold qDK;rw [if_pos ⟨hl,hp⟩]
    rw [e,if_neg h0]
    rw [if_pos hp] at is
    exact qP (qE g1 (qE g2 (qA hR2 (qA hc (qA (h1 o hin) (qE (beq_iff_eq.2 hl) (qE g2 (qA hR2 (qA hc (qA (h2 o hin) (qA is (qE rfl (qE g2 (qA hR2 (qA hc rfl)))))))))))))))
   ·have e:qDK level R (o::qBx.drop (i+1))=qDK level R (qBx.drop (i+1)):=by
     conv=>lhs;unfold qDK
     rw [if_neg (fun h=>hp h.2)]
    have e2:rsL level r (o::qBx.drop (i+1))=rsL level R (qBx.drop (i+1)):=by
     conv=>lhs;unfold rsL
     rw [if_pos hl,hr]
    rw [e,e2]
    rw [if_neg hp] at is
    rw [qW (v':=(level,11,((i+1:Nat):Int),opR,BR s,pos s R,false,m,rows)) (by
     refine qE g1 (qE g2 (qA hR2 (qA hc (qA (h1 o hin) (qE (beq_iff_eq.2 hl) (qE g2 (qA hR2 (qA hc (qA (h2 o hin) (qA is (qO rfl ?_)))))))))))
     rw [qC,w5])]
    exact qLe hs level R hR m rows h1 h2 k (i+1) R M (by omega) (by omega) hR (fun r' a b=>h3 r' a (.inr (b.elim id id)))
  ·have e:qDK level R (o::qBx.drop (i+1))=qDK level R (qBx.drop (i+1)):=by
    conv=>lhs;unfold qDK
    rw [if_neg (fun h=>hl h.1)]
   have e2:rsL level r (o::qBx.drop (i+1))=rsL level r (qBx.drop (i+1)):=by
    conv=>lhs;unfold rsL
    rw [if_neg hl]
   rw [e,e2]
   rw [qW (v':=(level,11,((i+1:Nat):Int),opR,BR s,pos s r,false,m,rows)) (by
    refine qE g1 (qE g2 (qA hR2 (qA hc (qA (h1 o hin) (qO (beq_eq_false_iff_ne.2 hl) ?_)))))
    rw [qC,w5])]
   exact qLe hs level R hR m rows h1 h2 k (i+1) r M (by omega) (by omega) hr h3
theorem qRS {level:Int} (h:1≤level∧level≤4) (r:List UInt8):rsL level r qBx=tb r:=by
 have c:level=1∨level=2∨level=3∨level=4:=by omega
 rcases c with rfl|rfl|rfl|rfl<;>simp [rsL,qBx,lvl,qCD]
theorem qRT {s:List UInt8} (hs:s.length≤1000) {level:Int} (hl:1≤level∧level≤4) (q:PS) (hb:q.2.1=false) (h:q.1<:+s):Ev (qDx · level (BR s) (pos s q.1) q.2.1 q.2.2.length (q.2.2.map qa)) (qCE s (sOp level q)):=by
 obtain ⟨n1,h1⟩:=qBj (F:=fun o n=>qB4 n o) (f:=lvl) qBx (fun o _=>qHw o)
 obtain ⟨n2,h2⟩:=qBj (F:=fun o n=>qCS n o) (f:=qAI) qBx (fun o ho=>qIp o (qQg o ho))
 obtain ⟨n3,h3⟩:=qBj (F:=fun o n=>qAA n (qAI o) (BR s) (pos s q.1) q.2.1 q.2.2.length (q.2.2.map qa)) (f:=fun o=>((sIs (qAI o).toList q).1,qCY s (sIs (qAI o).toList q).2)) qBx (fun o ho=>by
  have:=qFx hs (qAI o).toList (by rw [qAN];have:=(qOn o ho).2;omega) q h
  rwa [qHy] at this)
 obtain ⟨n4,h4⟩:=qBj (F:=fun o n=>qAA n (qAI o) (BR s) (pos s (tb q.1)) q.2.1 q.2.2.length (q.2.2.map qa)) (f:=fun o=>((sIs (qAI o).toList (tb q.1,q.2)).1,qCY s (sIs (qAI o).toList (tb q.1,q.2)).2)) qBx (fun o ho=>by
  have:=qFx hs (qAI o).toList (by rw [qAN];have:=(qOn o ho).2;omega) (tb q.1,q.2) (qPc h)
  rwa [qHy] at this)
 refine ⟨n1+n2+n3+n4+13,fun n hn=>?_⟩
 obtain ⟨k,rfl,hm⟩:=up1 hn
 have lp:=qLe hs (n:=k) level (tb q.1) (qCD q.1) q.2.2.length (q.2.2.map qa) (h1 k (by omega)) (h2 k (by omega)) 11 0 q.1 k (by omega) (by omega) rfl (fun r' _ hr' o ho=>by
  rcases hr' with rfl|rfl
  ·have:=h3 k (by omega) o ho
   rw [hb] at this
   refine this.trans ?_
   unfold sIs
   rw [if_neg (by rw [hb];simp)]
   by_cases hp:(qAI o).toList.isPrefixOf (tb q.1)=true
   ·rw [if_pos hp,if_pos hp,qAN];simp only [qCY,hb]
   ·rw [if_neg hp,if_neg hp];simp only [qCY,hb]
  ·have:=h4 k (by omega) o ho
   rw [hb] at this
   refine this.trans ?_
   unfold sIs
   rw [if_neg (by rw [hb];simp)]
   simp only [qCD]
   by_cases hp:(qAI o).toList.isPrefixOf (tb q.1)=true
   ·rw [if_pos hp,if_pos hp,qAN];simp only [qCY,hb]
   ·rw [if_neg hp,if_neg hp];simp only [qCY,hb])
 rw [List.drop_zero,qRS hl] at lp
 unfold sOp
 rw [if_neg (by rw [hb];simp)]
 show qDx (k+1) level (BR s) (pos s q.1) q.2.1 q.2.2.length (q.2.2.map qa)=_
 rw [hb]
 by_cases h0:qDK level (tb q.1) qBx=0
 ·rw [if_pos h0] at lp
  rw [if_pos h0]
  refine qA lp ?_
  simp only [qCE,qCY,hb,h0]
  rfl
 ·rw [if_neg h0] at lp
  rw [if_neg h0]
  refine qA lp ?_
  simp only [qCE,qCY,hb]
  rfl
theorem qNO {s:List UInt8} (hs:s.length≤1000) {n:Nat} (r:List UInt8) (hr:r<:+s) (b:Bool) (l:List Nd)
  (h1:∀i,1≤i∧i≤5→qBC n i=some (qe i)) (h2:∀i,1≤i∧i≤5→qCe n i=some (4,i,em))
  (h4:∀i,1≤i∧i≤5→qo n 1 0 4 i em 0 0 false false 0 0 false false [] (BR s) (pos s (r.drop ((qe i).size-1))) b l.length (l.map qa)=some (qCE s (qDZ (nd1 (4,i,em)) (r.drop ((qe i).size-1),b,l)))):
  ∀(k:Nat) (i:Int) (M:Nat),1≤i→i+k=6→k+1≤M→zC (qCI n) M (i,BR s,pos s r,b,l.length,l.map qa)=some (match qO6 r i k with
   |some e=> .inl (qCE s (qDZ (nd1 (4,e,em)) (r.drop ((qe e).size-1),b,l)))
   |none=> .inr (BR s,pos s r,b,l.length,l.map qa))
 |k,i,0,_,_,h=>by omega
 |0,i,M+1,hi,hk,h=>by
  exact qP (qO (decide_eq_false (show ¬i≤5 by omega)) rfl)
 |k+1,i,M+1,hi,hk,h=>by
  have hi5:1≤i∧i≤5:=⟨hi,by omega⟩
  have hsz:1≤(qe i).size∧(qe i).size≤7:=by
   have c:i=1∨i=2∨i=3∨i=4∨i=5:=by omega
   rcases c with rfl|rfl|rfl|rfl|rfl<;>decide+kernel
  have hx:(qe i).extract ((1:Int)).toNat (((qe i).size:Nat):Int).toNat=BR (qe i).toList.tail:=by
   conv=>lhs;rw [←qHy (qe i)]
   rw [qE0,qb,qAN]
   congr 1
   rw [Int.toNat_natCast,List.take_of_length_le (by rw [qAN];omega)]
   exact List.drop_one
  have hxs:((qe i).extract ((1:Int)).toNat (((qe i).size:Nat):Int).toNat).size=(qe i).size-1:=by
   rw [hx,qb,List.length_tail,qAN]
  have hl:=qCw hr
  have w1:IntKind.i64.wrap (pos s r+(((qe i).extract ((1:Int)).toNat (((qe i).size:Nat):Int).toNat).size:Int))=pos s r+(((qe i).size-1:Nat):Int):=by
   rw [hxs];exact qZ (by unfold pos;omega)
  have w2:IntKind.i64.wrap (i+1)=i+1:=qZ (by omega)
  have ih:=qNO hs r hr b l h1 h2 h4 k (i+1) M (by omega) (by omega) (by omega)
  unfold qO6
  by_cases hf:pos s r+(((qe i).size-1:Nat):Int)≤(s.length:Int)
  ·have hk2:(qe i).size-1≤r.length:=by unfold pos at hf;omega
   have cmp:(((BR s).extract (pos s r).toNat (IntKind.i64.wrap (pos s r+(((qe i).extract ((1:Int)).toNat (((qe i).size:Nat):Int).toNat).size:Int))).toNat).toList==((qe i).extract ((1:Int)).toNat (((qe i).size:Nat):Int).toNat).toList)=true↔(qe i).toList.tail.isPrefixOf r=true:=by
    rw [w1,qMV hr,hx,qAJ,qAJ,beq_iff_eq,List.isPrefixOf_iff_prefix,List.prefix_iff_eq_take,List.length_tail,qAN]
    exact ⟨fun e=>e.symm,fun e=>e.symm⟩
   have g1:decide (IntKind.i64.wrap (pos s r+(((qe i).extract ((1:Int)).toNat (((qe i).size:Nat):Int).toNat).size:Int))≤((BR s).size:Int))=true:=decide_eq_true (by rw [w1,qb];exact hf)
   have g2:decide (0≤pos s r∧pos s r≤IntKind.i64.wrap (pos s r+(((qe i).extract ((1:Int)).toNat (((qe i).size:Nat):Int).toNat).size:Int))∧IntKind.i64.wrap (pos s r+(((qe i).extract ((1:Int)).toNat (((qe i).size:Nat):Int).toNat).size:Int))≤((BR s).size:Int))=true:=decide_eq_true (by rw [w1,qb];exact ⟨qJi _ _,by omega,hf⟩)
   by_cases hp:(qe i).toList.tail.isPrefixOf r=true
   ·rw [if_pos hp]
    have h4:=h4 i hi5
    rw [←qI5 hr rfl hk2,←w1] at h4
    exact qP (qE (decide_eq_true (show i≤5 by omega)) (qA (h1 i hi5) (qE (decide_eq_true ⟨by decide,by omega,Int.le_refl _⟩) (qE g1 (qE g2 (qE (cmp.2 hp) (qA (h2 i hi5) (qA h4 rfl))))))))
   ·rw [if_neg hp]
    rw [qW (v':=(i+1,BR s,pos s r,b,l.length,l.map qa)) (by
     refine qE (decide_eq_true (show i≤5 by omega)) (qA (h1 i hi5) (qE (decide_eq_true ⟨by decide,by omega,Int.le_refl _⟩) (qE g1 (qE g2 (qO (by rw [Bool.eq_false_iff];exact fun e=>hp (cmp.1 e)) ?_)))))
     rw [qC,w2])]
    exact ih
  ·have hp:¬(qe i).toList.tail.isPrefixOf r=true:=by
    intro e
    have:=(List.isPrefixOf_iff_prefix.1 e).length_le
    rw [List.length_tail,qAN] at this
    unfold pos at hf
    omega
   rw [if_neg hp]
   rw [qW (v':=(i+1,BR s,pos s r,b,l.length,l.map qa)) (by
    refine qE (decide_eq_true (show i≤5 by omega)) (qA (h1 i hi5) (qE (decide_eq_true ⟨by decide,by omega,Int.le_refl _⟩) (qO (decide_eq_false (by rw [w1,qb];exact hf)) ?_)))
    rw [qC,w2])]
   exact ih
theorem qQ9 {s:List UInt8} (hs:s.length≤1000) (r:List UInt8) (hr:r<:+s) (b:Bool) (l:List Nd) (hl:l.length≤5000):∃n0,∀n,n0≤n→∀M,n0≤M→zC (qCI n) M (1,BR s,pos s r,b,l.length,l.map qa)=some (match qO6 r 1 5 with
   |some e=> .inl (qCE s (qDZ (nd1 (4,e,em)) (r.drop ((qe e).size-1),b,l)))
   |none=> .inr (BR s,pos s r,b,l.length,l.map qa)):=by
 obtain ⟨n1,h1⟩:=qFB (F:=qBC) (f:=qe) (lo:=1) (by decide) (fun i hi=>qFq i ⟨by omega,hi.2⟩)
 obtain ⟨n2,h2⟩:=qFB (F:=qCe) (f:=fun i=>(4,i,em)) (lo:=1) (by decide) (fun i _=>qML i)
 obtain ⟨n4,h4⟩:=qFB (F:=fun n i=>qo n 1 0 4 i em 0 0 false false 0 0 false false [] (BR s) (pos s (r.drop ((qe i).size-1))) b l.length (l.map qa)) (f:=fun i=>qCE s (qDZ (nd1 (4,i,em)) (r.drop ((qe i).size-1),b,l))) (lo:=1) (by decide) (fun i _=>qIv (s:=s) (nd1 (4,i,em)) (r.drop ((qe i).size-1),b,l) hl ⟨by simp [kd,nd1],by simp [nd1,em];decide⟩)
 exact ⟨n1+n2+n4+7,fun n hn M hM=>qNO hs r hr b l (h1 n (by omega)) (h2 n (by omega)) (h4 n (by omega)) 5 1 M (by omega) (by omega) (by omega)⟩
theorem qRA:∃n0,∀n,n0≤n→∀i,1≤i∧i≤10→qCG n i=some (fnS i):=by
 obtain ⟨n1,h1⟩:=qBj (F:=fun (i:Nat) n=>qCG n ((i:Int)+1)) (f:=fun i=>fnS ((i:Int)+1)) (List.range 10) (fun i hi=>qKl _ (by have:=List.mem_range.1 hi;omega))
 refine ⟨n1,fun n hn i hi=>?_⟩
 have:=h1 n hn (i-1).toNat (List.mem_range.2 (by omega))
 rwa [show (((i-1).toNat:Nat):Int)+1=i by omega] at this
theorem qRU {i j:Int} (hi:1≤i∧i≤10) (hj:1≤j∧j≤10) (h:(fnS i).toList=(fnS j).toList):i=j:=by
 have t:∀a:Fin 10,∀b:Fin 10,(fnS (((a.val:Nat):Int)+1)).toList=(fnS (((b.val:Nat):Int)+1)).toList→a=b:=by decide+kernel
 have:=t ⟨(i-1).toNat,by omega⟩ ⟨(j-1).toNat,by omega⟩ (by
  simp only
  rw [show (((i-1).toNat:Nat):Int)+1=i by omega,show (((j-1).toNat:Nat):Int)+1=j by omega]
  exact h)
 have:=congrArg Fin.val this
 simp only at this
 omega
theorem qOI {g:G_spec_l3Rd_row} {n:Nat} {s:List UInt8} (w:List UInt8) (q:PS) (h1:∀i,1≤i∧i≤10→qCG n i=some (fnS i)):
  ∀(k:Nat) (i:Int) (M:Nat),1≤i→i+k=11→k+1≤M→(∀j,i≤j∧j≤10→(fnS j).toList≠w)→zC (qCq g n) M (BR w,i,qCY s q)=some (.inr (BR w,qCY s q))
 |k,i,0,_,_,h,_=>by omega
 |0,i,M+1,hi,hk,h,_=>qP (qO (decide_eq_false (show ¬i≤10 by omega)) rfl)
 |k+1,i,M+1,hi,hk,h,hn=>by
  have w1:IntKind.i64.wrap (i+1)=i+1:=qZ (by omega)
  rw [qW (v':=(BR w,i+1,qCY s q)) (by
   refine qE (decide_eq_true (show i≤10 by omega)) (qA (h1 i ⟨hi,by omega⟩) (qO (by rw [beq_eq_false_iff_ne];show (fnS i).toList≠(BR w).toList;rw [qAJ];exact hn i ⟨Int.le_refl _,by omega⟩) ?_))
   rw [qC,w1])]
  exact qOI w q h1 k (i+1) M (by omega) (by omega) (by omega) (fun j hj=>hn j ⟨by omega,hj.2⟩)
theorem qI6 {g:G_spec_l3Rd_row} {n:Nat} {s:List UInt8} (w:List UInt8) (q:PS) (res:Int→Int×PS) (h1:∀i,1≤i∧i≤10→qCG n i=some (fnS i))
  (h2:qAA n ⟨#[40]⟩ (BR s) (pos s q.1) q.2.1 q.2.2.length (q.2.2.map qa)=some ((sIs [40] q).1,qCY s (sIs [40] q).2)):
  ∀(k:Nat) (i:Int) (M:Nat),1≤i→i+k=11→k+1≤M→(∀op,qFD w i k=some op→(sIs [40] q).1=true→g.spec_l3Rd_call op (BR s) (pos s (sIs [40] q).2.1) (sIs [40] q).2.2.1 (sIs [40] q).2.2.2.length ((sIs [40] q).2.2.2.map qa)=some (qCE s (res op)))→
   zC (qCq g n) M (BR w,i,qCY s q)=some (match qFD w i k with
   |some op=>if (sIs [40] q).1=true then .inl (qCE s (res op)) else .inr (BR w,qCY s (sIs [40] q).2)
   |none=> .inr (BR w,qCY s q))
 |k,i,0,_,_,h,_=>by omega
 |0,i,M+1,hi,hk,h,_=>qP (qO (decide_eq_false (show ¬i≤10 by omega)) rfl)
 |k+1,i,M+1,hi,hk,h,hc=>by
  have w1:IntKind.i64.wrap (i+1)=i+1:=qZ (by omega)
  unfold qFD at hc⊢
  by_cases hq:(fnS i).toList=w
  ·rw [if_pos hq] at hc⊢
   have hqb:((fnS i).toList==(BR w).toList)=true:=by rw [beq_iff_eq,qAJ];exact hq
   simp only
   cases hi2:(sIs [40] q).1 with
   |true=>
    rw [if_pos rfl]
    exact qP (qE (decide_eq_true (show i≤10 by omega)) (qA (h1 i ⟨hi,by omega⟩) (qE hqb (qA h2 (qE hi2 (qA (hc i rfl hi2) rfl))))))
   |false=>
    rw [if_neg (by simp)]
    rw [qW (v':=(BR w,i+1,qCY s (sIs [40] q).2)) (by
     refine qE (decide_eq_true (show i≤10 by omega)) (qA (h1 i ⟨hi,by omega⟩) (qE hqb (qA h2 (qO hi2 ?_))))
     rw [qC,w1])]
    exact qOI w _ h1 k (i+1) M (by omega) (by omega) (by omega) (fun j hj e=>by
     have:=qRU (i:=i) (j:=j) ⟨hi,by omega⟩ ⟨by omega,hj.2⟩ (hq.trans e.symm)
     omega)
  ·rw [if_neg hq] at hc⊢
   rw [qW (v':=(BR w,i+1,qCY s q)) (by
    refine qE (decide_eq_true (show i≤10 by omega)) (qA (h1 i ⟨hi,by omega⟩) (qO (by rw [beq_eq_false_iff_ne];show (fnS i).toList≠(BR w).toList;rw [qAJ];exact hq) ?_))
    rw [qC,w1])]
   exact qI6 w q res h1 h2 k (i+1) M (by omega) (by omega) (by omega) hc
structure Go (k:Nat) (q q':PS):Prop where
 suf:q'.1<:+q.1
 sum:q'.2.2.length+q'.1.length+k≤q.2.2.length+q.1.length
 sm:(∀x∈q.2.2,qNu x)→∀x∈q'.2.2,qNu x
theorem Go.refl (q:PS):Go 0 q q:=⟨List.suffix_rfl,Nat.le_refl _,id⟩
theorem Go.trans {a b:Nat} {p q r:PS} (h:Go a p q) (h':Go b q r):Go (a+b) p r:=⟨h'.suf.trans h.suf,by have:=h.sum;have:=h'.sum;omega,fun e=>h'.sm (h.sm e)⟩
theorem Go.tr0 {p q r:PS} (h:Go 0 p q) (h':Go 0 q r):Go 0 p r:=h.trans h'
theorem Go.add {p q:PS} {x:Nd} (h:Go 1 p q) (hx:qNu x):Go 0 p (qDZ x q).2:=by
 refine ⟨h.suf,?_,fun e y hy=>?_⟩
 ·have:=h.sum
  simp only [qDZ,List.length_append,List.length_singleton]
  omega
 ·simp only [qDZ,List.mem_append,List.mem_singleton] at hy
  rcases hy with hy|rfl
  ·exact h.sm e y hy
  ·exact hx
theorem Go.weak {k:Nat} {p q:PS} (h:Go k p q):Go 0 p q:=⟨h.suf,by have:=h.sum;omega,h.sm⟩
theorem Go.of (q:PS) {r:List UInt8} (b:Bool) {k:Nat} (h:r<:+q.1) (hk:r.length+k≤q.1.length):Go k q (r,b,q.2.2):=⟨h,by simp only;omega,id⟩
theorem qKu (q:PS):Go 0 q (tb q.1,q.2):=⟨List.dropWhile_suffix _,by have:=qw q.1;simp only;omega,id⟩
theorem qOJ (q:PS):Go 0 q (wr (tb q.1),q.2):=⟨(List.dropWhile_suffix _).trans (List.dropWhile_suffix _),by have:=qw q.1;have:=qFu (tb q.1);simp only;omega,id⟩
theorem qQh (q:PS) (h:wd (tb q.1)≠ []):Go 1 q (wr (tb q.1),q.2):=⟨(List.dropWhile_suffix _).trans (List.dropWhile_suffix _),by
 have:=qw q.1
 have e:=congrArg List.length (wdr (tb q.1))
 have:=List.length_pos_iff.2 h
 simp only [List.length_append] at e
 simp only;omega,id⟩
theorem qJj {w:List UInt8} {q:PS} (h:(sIs w q).1=true):w<+:tb q.1∧(sIs w q).2=((tb q.1).drop w.length,q.2)∧q.2.1=false:=by
 unfold sIs at h⊢
 split at h
 ·cases h
 ·rename_i hb
  rw [if_neg hb]
  split at h
  ·rename_i hp
   rw [if_pos hp]
   exact ⟨List.isPrefixOf_iff_prefix.1 hp,rfl,by rw [Bool.eq_false_iff];exact hb⟩
  ·cases h
theorem qOK {w:List UInt8} {q:PS} (h:(sIs w q).1=false):(sIs w q).2=(tb q.1,q.2):=by
 unfold sIs at h⊢
 split at h
 ·rename_i hb;rw [if_pos hb]
 ·rename_i hb
  rw [if_neg hb]
  split at h
  ·cases h
  ·rename_i hp;rw [if_neg hp]
theorem qIw (w:List UInt8) (q:PS):Go 0 q (sIs w q).2:=by
 cases h:(sIs w q).1 with
 |true=>
  obtain ⟨_,h2,_⟩:=qJj h
  rw [h2]
  exact Go.tr0 (qKu q) ⟨List.drop_suffix _ _,by simp,id⟩
 |false=>rw [qOK h];exact qKu q
theorem qEE {w:List UInt8} (hw:w≠ []) {q:PS} (h:(sIs w q).1=true):Go 1 q (sIs w q).2:=by
 obtain ⟨h1,h2,_⟩:=qJj h
 rw [h2]
 have l1:=h1.length_le
 have l2:=List.length_pos_iff.2 hw
 have:=qw q.1
 exact ⟨(List.drop_suffix _ _).trans (List.dropWhile_suffix _),by simp;omega,id⟩
theorem qNP {k:Nat} {p q:PS} (h:Go k p q):Go k p (qKF q):=⟨h.suf,h.sum,h.sm⟩
theorem qQi:∀(t r:List UInt8),(tb r).length≤(tb (t++r)).length
 | [],r=>Nat.le_refl _
 |c::t,r=>by
  have ih:=qQi t r
  have:=qw (t++r)
  by_cases hc:c=32
  ·rw [show tb (c::t++r)=tb (t++r) by simp [tb,hc]];exact ih
  ·rw [show tb (c::t++r)=c::(t++r) by simp [tb,hc]]
   simp only [List.length_cons];omega
theorem Go.tb {k:Nat} {p q:PS} (h:Go k p q):(tb q.1).length≤(tb p.1).length:=by
 obtain ⟨t,ht⟩:=h.suf
 rw [←ht];exact qQi t q.1
theorem qP1 {w:List UInt8} (hw:w≠ []) {q:PS} (h:(sIs w q).1=true):(tb (sIs w q).2.1).length<(tb q.1).length:=by
 obtain ⟨h1,h2,_⟩:=qJj h
 rw [h2]
 exact qOl hw h1
theorem qP2 (level:Int) (r:List UInt8):∀l:List Int,qDK level r l≠0→qDK level r l∈l∧(qAI (qDK level r l)).toList<+:r
 | [],h=>absurd rfl h
 |o::l,h=>by
  unfold qDK at h⊢
  split at h
  ·rename_i hc
   rw [if_pos hc]
   exact ⟨List.mem_cons_self ..,List.isPrefixOf_iff_prefix.1 hc.2⟩
  ·rename_i hc
   rw [if_neg hc]
   have:=qP2 level r l h
   exact ⟨List.mem_cons_of_mem _ this.1,this.2⟩
theorem qRF (level:Int) (q:PS):Go 0 q (sOp level q).2∧((sOp level q).1≠0→Go 1 q (sOp level q).2∧(tb (sOp level q).2.1).length<(tb q.1).length):=by
 unfold sOp
 split
 ·exact ⟨qKu q,fun h=>absurd rfl h⟩
 ·simp only
  by_cases h:qDK level (tb q.1) qBx=0
  ·rw [if_pos h]
   exact ⟨qKu q,fun e=>absurd h e⟩
  ·rw [if_neg h]
   obtain ⟨h1,h2⟩:=qP2 level (tb q.1) qBx h
   have ne:=(qOn _ h1).1
   have l1:=h2.length_le
   have l2:=List.length_pos_iff.2 ne
   rw [qAN] at l1 l2
   have l3:=qw q.1
   have g:Go 1 q ((tb q.1).drop (qAI (qDK level (tb q.1) qBx)).size,q.2):=⟨(List.drop_suffix _ _).trans (List.dropWhile_suffix _),by simp;omega,id⟩
   have t:=qOl ne h2
   rw [qAN] at t
   exact ⟨g.weak,fun _=>⟨g,t⟩⟩
theorem qLf:∀(k:Nat) (acc r:List UInt8) {w t:List UInt8},r.length≤k→qBr acc r=some (w,t)→t<:+r
 |k,acc,[],w,t,hk,h=>by simp [qBr] at h
 |0,acc,c::r,w,t,hk,h=>by simp at hk
 |k+1,acc,c::r,w,t,hk,h=>by
  simp only [List.length_cons] at hk
  by_cases hc:c=34
  ·subst hc
   by_cases hq:r.head?=some 34
   ·obtain ⟨u,rfl⟩:=qI4 hq
    rw [qRK] at h
    simp only [List.length_cons] at hk
    have:=qLf k _ u (by omega) h
    exact this.trans ((List.suffix_cons 34 u).trans (List.suffix_cons 34 _))
   ·rw [qRL acc r hq] at h
    cases h
    exact List.suffix_cons 34 _
  ·rw [qRM acc r hc] at h
   exact (qLf k _ r (by omega) h).trans (List.suffix_cons c _)
def Ks:SJ→PS→Prop
 | .call _ kids,q=>q.2.1=true∨kids.length+q.1.length≤1500
 |_,_=>True
theorem qHa {k op:Int} {kids:List Int} (h:kids.length≤2000):qNu (ndK k op kids):=⟨h,by simp [ndK,em];decide⟩
theorem qBf {k:Nat} {p q:PS} (h:Go k p q):q.1.length≤p.1.length:=h.suf.length_le
theorem qEJ (H:RdOK):∀(f:Nat) (j:SJ) (q:PS),q.1.length≤1000→Ks j q→Go 0 q (sP f j q).2
 |0,j,q,_,_=>Go.refl q
 |f+1,.row level,q,hr,_=>by
  unfold sP
  split
  ·exact Go.refl q
  ·split
   ·exact qEJ H f .one q hr trivial
   ·have a:=qEJ H f (.row (level+1)) q hr trivial
    exact a.tr0 (qEJ H f (.rl level _) _ (Nat.le_trans (qBf a) hr) trivial)
 |f+1,.rl level a,q,hr,_=>by
  unfold sP
  split
  ·exact Go.refl q
  ·simp only
   have o:=qRF level q
   split
   ·exact o.1
   ·rename_i h0
    have o1:=(o.2 h0).1
    have b:=qEJ H f (.row (level+1)) (sOp level q).2 (Nat.le_trans (qBf o1) hr) trivial
    have c:=Go.add (x:=ndK 5 (sOp level q).1 [a,(sP f (.row (level+1)) (sOp level q).2).1]) (o1.trans b) (qHa (by simp))
    exact c.tr0 (qEJ H f (.rl level _) _ (Nat.le_trans (qBf c) hr) trivial)
 |f+1,.one,q,hr,_=>by
  unfold sP
  split
  ·rename_i h
   have a:=qEE (by simp) h
   have b:=qEJ H f (.row 5) (sIs [45] q).2 (Nat.le_trans (qBf a) hr) trivial
   exact Go.add (a.trans b) (qHa (by simp))
  ·have a:=qIw [45] q
   split
   ·rename_i h
    have c:=a.tr0 (qEE (by simp) h).weak
    have b:=qEJ H f (.row 1) (sIs [40] (sIs [45] q).2).2 (Nat.le_trans (qBf c) hr) trivial
    have d:=(c.tr0 b).tr0 (qIw [41] _)
    simp only
    split
    ·exact d
    ·exact qNP d
   ·simp only
    have t:=qKu q
    split
    ·rename_i h
     have c:=qEE (by simp) h
     obtain ⟨_,e,_⟩:=qJj h
     split
     ·exact ⟨List.nil_suffix,by simp,id⟩
     ·rename_i w u hq
      have d:=qLf _ _ _ (Nat.le_refl _) hq
      have d2:=d.length_le
      have dz:=qFw _ _ _ (Nat.le_refl _) hq
      have g:=t.trans c
      have l:=qBf g
      have sg:=g.sum
      have eq:(sIs [34] (tb q.1,q.2)).2.2=q.2:=by rw [e]
      rw [eq] at sg
      simp only [List.length_nil] at dz
      exact Go.add (q:=(u,q.2)) ⟨d.trans g.suf,by simp only;omega,id⟩ ⟨by simp [kd,nd1],by simp only [nd1,qb];omega⟩
    ·split
     ·rename_i h
      have c:=qEE (by simp) h
      obtain ⟨_,e,_⟩:=qJj h
      have g:=t.trans c
      have l:=qBf g
      have sg:=g.sum
      have eq:(sIs [35] (tb q.1,q.2)).2.2=q.2:=by rw [e]
      rw [eq] at sg
      split
      ·exact Go.add (q:=(_,q.2)) ⟨(List.drop_suffix _ _).trans g.suf,by simp;omega,id⟩ ⟨by simp [kd,nd1],by simp [nd1,em];decide⟩
      ·exact ⟨g.suf,by simp only;omega,id⟩
     ·have w:=qOJ q
      split
      ·split
       ·have c:=w.tr0 (qIw [40] _)
        exact c.tr0 (qEJ H f (.call _ []) _ (Nat.le_trans (qBf c) hr) (.inr (by have:=qBf c;simp only [List.length_nil];omega)))
       ·exact qNP (w.tr0 (qIw [40] _))
      ·split
       ·rename_i hv
        exact Go.add (qQh q hv.2) ⟨by simp [kd,nd1],qIu hv.1 (H.v _ (qPY _) hv.2 hv.1)⟩
       ·split
        ·rename_i hp
         exact Go.add (qQh q (fun e=>by rw [e,H.p0] at hp;cases hp)) ⟨by simp [kd,ndC],by simp [ndC,em];decide⟩
        ·exact qNP w
 |f+1,.call op kids,q,hr,hk=>by
  unfold sP
  split
  ·exact Go.refl q
  ·rename_i hb
   have hk:kids.length+q.1.length≤1500:=hk.elim (fun h=>absurd h hb) id
   have a:=qEJ H f .arg q hr trivial
   simp only
   split
   ·rename_i h
    exact Go.add (a.trans (qEE (by simp) h)) (qHa (by simp;omega))
   ·have c:=a.tr0 (qIw [41] _)
    split
    ·rename_i h
     have d:=c.trans (qEE (by simp) h)
     obtain ⟨e1,e2,_⟩:=qJj h
     have l:=e1.length_le
     have l2:=qBf c
     have l3:=qw (sIs [41] (sP f .arg q).2).2.1
     simp only [List.length_cons,List.length_nil] at l
     exact d.weak.tr0 (qEJ H f (.call op _) _ (Nat.le_trans (qBf d) hr) (.inr (by rw [e2];simp;omega)))
    ·have d:=qNP (c.tr0 (qIw [44] _))
     exact d.tr0 (qEJ H f (.call op _) _ (Nat.le_trans (qBf d) hr) (.inl rfl))
 |f+1,.arg,q,hr,_=>by
  unfold sP
  simp only
  have w:=qOJ q
  split
  ·rename_i h
   have c:=w.trans (qEE (by simp) h.2)
   have d:=c.trans (qOJ _)
   split
   ·exact Go.add d ⟨by simp [kd,ndA],by simp [ndA,em];decide⟩
   ·exact ⟨d.suf,by have:=d.sum;simp only at this⊢;omega,d.sm⟩
  ·have t:=qKu q
   exact t.tr0 (qEJ H f (.row 1) _ (Nat.le_trans (qBf t) hr) trivial)
def As (f:Nat):SJ→PS→Prop
 | .row level,q=>((20*(tb q.1).length+10:Nat):Int)-level≤f∧1≤level∧level≤5
 | .rl level _,q=>20*(tb q.1).length+5≤f∧1≤level∧level≤4
 | .one,q=>20*(tb q.1).length+4≤f∧q.2.1=false
 | .call _ _,q=>(q.2.1=true∧1≤f)∨20*(tb q.1).length+12≤f
 | .arg,q=>20*(tb q.1).length+10≤f
def Iv (s:List UInt8) (q:PS):Prop:=q.1<:+s∧q.2.2.length+q.1.length≤2000
theorem Iv.go {s:List UInt8} {k:Nat} {q q':PS} (h:Iv s q) (g:Go k q q'):Iv s q':=⟨g.suf.trans h.1,by have:=g.sum;have:=h.2;omega⟩
def Ws (s:List UInt8):SJ→PS→Int×PS→Prop
 | .row level,q,r=>Ev (qDc · level (BR s) (pos s q.1) q.2.1 q.2.2.length (q.2.2.map qa)) (qCE s r)
 | .rl level a,q,r=>∃x,(x= .inl (qCE s r)∨x= .inr (qCE s r))∧∃n0,∀n,n0≤n→∀M,n0≤M→zC (qDe (qc n) n) M (level,a,qCY s q)=some x
 | .one,q,r=>Ev (qHi · (BR s) (pos s q.1) q.2.1 q.2.2.length (q.2.2.map qa)) (qCE s r)
 | .call op kids,q,r=>∃x,(x= .inl (qCE s r)∨(x= .inr (qCY s r.2)∧r.1=0))∧∃n0,∀n,n0≤n→∀M,n0≤M→zC (qDP (qc n) n) M (op,kids.length,kids.map qAy,qCY s q)=some x
 | .arg,q,r=>Ev (qHj · (BR s) (pos s q.1) q.2.1 q.2.2.length (q.2.2.map qa)) (qCE s r)
theorem srp (r:List UInt8) (h:r.length≤1000):Ev (qAh · (BR (wd r))) (qAr (BR (wd r))):=qKi _ (by rw [qb];have:=qOk r;omega)
theorem srv (r:List UInt8) (h:r.length≤1000):Ev (qAD · (BR (wd r))) (qf (BR (wd r))):=qGH _ (by rw [qb];have:=qOk r;omega)
theorem qRq {r:List UInt8} (h:wd r≠ []):(tb (wr r)).length<r.length:=by
 have e:=congrArg List.length (wdr r)
 have:=List.length_pos_iff.2 h
 have:=qw (wr r)
 simp only [List.length_append] at e
 omega
def qOo (n:Nat) (w:ByteArray) (c:ByteArray×Int×Bool×Nat×List (List PV)):Tr (Int×ByteArray×Int×Bool×Nat×List (List PV)):=
 (.opt (qAh n w) fun r=>(.ask (!r.2.2.2.2) (.done (0,c.1,c.2.1,true,c.2.2.2.1,c.2.2.2.2))
  (.opt (qo n 2 0 0 0 ⟨#[]⟩ r.1 r.2.1 r.2.2.1 r.2.2.2.1 0 0 false false [] c.1 c.2.1 c.2.2.1 c.2.2.2.1 c.2.2.2.2) fun t=> .done (t.1,t.2.1,t.2.2.1,t.2.2.2.1,t.2.2.2.2.1,t.2.2.2.2.2))))
def qRV (n:Nat) (w:ByteArray) (c:ByteArray×Int×Bool×Nat×List (List PV)):Tr (Int×ByteArray×Int×Bool×Nat×List (List PV)):=
 (.opt (qAD n w) fun r=>(.ask r.2.2.2
  (.ask (!(w.toList==(⟨#[]⟩:ByteArray).toList))
   (.opt (qo n 1 0 r.1 r.2.1 r.2.2.1 0 0 false false 0 0 false false [] c.1 c.2.1 c.2.2.1 c.2.2.2.1 c.2.2.2.2) fun t=> .done (t.1,t.2.1,t.2.2.1,t.2.2.2.1,t.2.2.2.2.1,t.2.2.2.2.2))
   (qOo n w c))
  (qOo n w c)))
def qNQ (w:List UInt8) (q3:PS):Int×PS:=
 if (qf (BR w)).2.2.2=true∧w≠ [] then qDZ (nd1 ((qf (BR w)).1,(qf (BR w)).2.1,(qf (BR w)).2.2.1)) q3
 else if (qAr (BR w)).2.2.2.2=true then qDZ (ndC (qAr (BR w))) q3
 else (0,qKF q3)
theorem qOL (H:RdOK) {s:List UInt8} (r:List UInt8) (q:PS) (hr:r.length≤1000) (hn:q.2.2.length≤5000):∃n0,∀n,n0≤n→(qRV n (BR (wd r)) (qCY s q)).run=some (qCE s (qNQ (wd r) q)):=by
 obtain ⟨n1,h1⟩:=srv r hr
 obtain ⟨n2,h2⟩:=srp r hr
 obtain ⟨n4,h4⟩:=qIv (s:=s) (ndC (qAr (BR (wd r)))) q hn ⟨by simp [kd,ndC],by simp [ndC,em];decide⟩
 have place:∃n0,∀n,n0≤n→(qOo n (BR (wd r)) (qCY s q)).run=some (qCE s (if (qAr (BR (wd r))).2.2.2.2=true then qDZ (ndC (qAr (BR (wd r)))) q else (0,qKF q))):=by
  refine ⟨n2+n4,fun n hn=>?_⟩
  cases hp:(qAr (BR (wd r))).2.2.2.2 with
  |true=>rw [if_pos rfl];exact qA (h2 n (by omega)) (qO (qCo hp) (qA (h4 n (by omega)) rfl))
  |false=>rw [if_neg (by simp)];exact qA (h2 n (by omega)) (qE (qDM hp) rfl)
 obtain ⟨n5,h5⟩:=place
 by_cases hv:(qf (BR (wd r))).2.2.2=true∧wd r≠ []
 ·obtain ⟨n3,h3⟩:=qIv (s:=s) (nd1 ((qf (BR (wd r))).1,(qf (BR (wd r))).2.1,(qf (BR (wd r))).2.2.1)) q hn ⟨by simp [kd,nd1],qIu hv.1 (H.v _ (qPY _) hv.2 hv.1)⟩
  refine ⟨n1+n3,fun n hn=>?_⟩
  unfold qNQ
  rw [if_pos hv]
  exact qA (h1 n (by omega)) (qE hv.1 (qE (qDM (by rw [beq_eq_false_iff_ne,qAJ,q8];exact hv.2)) (qA (h3 n (by omega)) rfl)))
 ·refine ⟨n1+n5,fun n hn=>?_⟩
  unfold qNQ
  rw [if_neg hv]
  refine qA (h1 n (by omega)) ?_
  by_cases ho:(qf (BR (wd r))).2.2.2=true
  ·have e:wd r= []:=Classical.byContradiction fun e=>hv ⟨ho,e⟩
   exact qE ho (qO (qCo (by rw [beq_iff_eq,qAJ,q8];exact e)) (h5 n (by omega)))
  ·exact qO (by rw [Bool.eq_false_iff];exact ho) (h5 n (by omega))
theorem qES (H:RdOK) {s:List UInt8} (hs:s.length≤1000):∀(f:Nat) (j:SJ) (q:PS),As f j q→Iv s q→Ks j q→Ws s j q (sP f j q)
 |0,j,q,ha,_,_=>by cases j<;>simp [As] at ha<;>omega
 |f+1,.row level,q,ha,hi,_=>by
  obtain ⟨ha,hl1,hl5⟩:=ha
  have hr:q.1.length≤1000:=Nat.le_trans (qCw hi.1) hs
  unfold sP
  by_cases hb:q.2.1=true
  ·rw [if_pos hb]
   refine ⟨1,fun n hn=>?_⟩
   obtain ⟨k,rfl,hm⟩:=up1 hn
   exact qE hb rfl
  ·have hb:q.2.1=false:=by rw [Bool.eq_false_iff];exact hb
   rw [if_neg (by rw [hb];simp)]
   by_cases h5:level=5
   ·rw [if_pos h5]
    obtain ⟨n1,h1⟩:=qES H hs f .one q ⟨by omega,hb⟩ hi trivial
    refine ⟨n1+1,fun n hn=>?_⟩
    obtain ⟨k,rfl,hm⟩:=up1 hn
    exact qO hb (qE (beq_iff_eq.2 h5) (qA (h1 k (by omega)) rfl))
   ·rw [if_neg h5]
    have g:=qEJ H f (.row (level+1)) q hr trivial
    have gl:=g.tb
    obtain ⟨n1,h1⟩:=qES H hs f (.row (level+1)) q ⟨by omega,by omega,by omega⟩ hi trivial
    generalize sP f (.row (level+1)) q=Q at g gl h1⊢
    obtain ⟨x,hx,n2,h2⟩:=qES H hs f (.rl level Q.1) Q.2 ⟨by omega,by omega,by omega⟩ (hi.go g) trivial
    refine ⟨n1+n2+1,fun n hn=>?_⟩
    obtain ⟨k,rfl,hm⟩:=up1 hn
    have w1:IntKind.i64.wrap (level+1)=level+1:=qZ (by omega)
    have h1:=h1 k (by omega)
    rw [←w1] at h1
    have h2:=h2 k (by omega) k (by omega)
    rcases hx with rfl|rfl
    ·exact qO hb (qO (beq_eq_false_iff_ne.2 h5) (qA h1 (qA h2 rfl)))
    ·exact qO hb (qO (beq_eq_false_iff_ne.2 h5) (qA h1 (qA h2 rfl)))
 |f+1,.rl level a,q,ha,hi,_=>by
  obtain ⟨ha,hl1,hl4⟩:=ha
  have hr:q.1.length≤1000:=Nat.le_trans (qCw hi.1) hs
  unfold sP
  by_cases hb:q.2.1=true
  ·rw [if_pos hb]
   refine ⟨.inr (qCE s (a,q)),.inr rfl,1,fun n hn M hM=>?_⟩
   obtain ⟨M,rfl,hM⟩:=up1 hM
   exact qP (qO (qCo hb) rfl)
  ·have hb:q.2.1=false:=by rw [Bool.eq_false_iff];exact hb
   rw [if_neg (by rw [hb];simp)]
   simp only
   obtain ⟨n1,h1⟩:=qRT hs (level:=level) ⟨hl1,hl4⟩ q hb hi.1
   have o:=qRF level q
   generalize sOp level q=O at h1 o⊢
   by_cases h0:O.1=0
   ·rw [if_pos h0]
    refine ⟨.inl (qCE s (a,O.2)),.inl rfl,n1+1,fun n hn M hM=>?_⟩
    obtain ⟨M,rfl,hM⟩:=up1 hM
    exact qP (qE (qDM hb) (qA (h1 n (by omega)) (qE (beq_iff_eq.2 h0) rfl)))
   ·rw [if_neg h0]
    obtain ⟨o1,o2⟩:=o.2 h0
    have b:=qEJ H f (.row (level+1)) O.2 (Nat.le_trans (qBf o1) hr) trivial
    obtain ⟨n2,h2⟩:=qES H hs f (.row (level+1)) O.2 ⟨by omega,by omega,by omega⟩ (hi.go o1) trivial
    have ib:=(hi.go o1).go b
    have tbb:=b.tb
    have c:=Go.add (x:=ndK 5 O.1 [a,(sP f (.row (level+1)) O.2).1]) (o1.trans b) (qHa (by simp))
    generalize sP f (.row (level+1)) O.2=Q at h2 b ib tbb c⊢
    obtain ⟨n3,h3⟩:=qIv (s:=s) (ndK 5 O.1 [a,Q.1]) Q.2 (by have:=ib.2;omega) (qHa (by simp))
    have rest:(qDZ (ndK 5 O.1 [a,Q.1]) Q.2).2.1=Q.2.1:=rfl
    generalize qDZ (ndK 5 O.1 [a,Q.1]) Q.2=C at h3 c rest⊢
    obtain ⟨x,hx,n4,h4⟩:=qES H hs f (.rl level C.1) C.2 ⟨by rw [rest];omega,hl1,hl4⟩ (hi.go c) trivial
    refine ⟨x,hx,n1+n2+n3+n4+1,fun n hn M hM=>?_⟩
    obtain ⟨M,rfl,hM⟩:=up1 hM
    have w1:IntKind.i64.wrap (level+1)=level+1:=qZ (by omega)
    have h2:=h2 n (by omega)
    rw [←w1] at h2
    rw [qW (v':=(level,C.1,qCY s C.2)) (by
     exact qE (qDM hb) (qA (h1 n (by omega)) (qO (beq_eq_false_iff_ne.2 h0) (qA h2 (qE rfl (qA (h3 n (by omega)) rfl))))))]
    exact h4 n (by omega) M (by omega)
 |f+1,.one,q,ha,hi,_=>by
  obtain ⟨ha,hb⟩:=ha
  have hr:q.1.length≤1000:=Nat.le_trans (qCw hi.1) hs
  unfold sP
  obtain ⟨n1,h1⟩:=qFx hs [45] (by simp) q hi.1
  cases c1:(sIs [45] q).1 with
  |true=>
   rw [if_pos rfl]
   have a:=qEE (by simp) c1
   have al:=qP1 (by simp) c1
   have b:=qEJ H f (.row 5) (sIs [45] q).2 (Nat.le_trans (qBf a) hr) trivial
   obtain ⟨n2,h2⟩:=qES H hs f (.row 5) (sIs [45] q).2 ⟨by omega,by omega,by omega⟩ (hi.go a) trivial
   have ib:=(hi.go a).go b
   simp only
   generalize sP f (.row 5) (sIs [45] q).2=Q at h2 ib⊢
   obtain ⟨n3,h3⟩:=qIv (s:=s) (ndK 4 0 [Q.1]) Q.2 (by have:=ib.2;omega) (qHa (by simp))
   refine ⟨n1+n2+n3+1,fun n hn=>?_⟩
   obtain ⟨k,rfl,hm⟩:=up1 hn
   exact qA (h1 k (by omega)) (qE c1 (qA (h2 k (by omega)) (qE rfl (qA (h3 k (by omega)) rfl))))
  |false=>
   rw [if_neg (by simp)]
   have a:=qIw [45] q
   obtain ⟨n2,h2⟩:=qFx hs [40] (by simp) (sIs [45] q).2 (hi.go a).1
   cases c2:(sIs [40] (sIs [45] q).2).1 with
   |true=>
    rw [if_pos rfl]
    have b:=qEE (by simp) c2
    have al:=qP1 (by simp) c2
    have atb:=a.tb
    have g1:=a.trans b
    have b2:=qEJ H f (.row 1) (sIs [40] (sIs [45] q).2).2 (Nat.le_trans (qBf g1) hr) trivial
    obtain ⟨n3,h3⟩:=qES H hs f (.row 1) (sIs [40] (sIs [45] q).2).2 ⟨by omega,by omega,by omega⟩ (hi.go g1) trivial
    have ib:=(hi.go g1).go b2
    simp only
    generalize sP f (.row 1) (sIs [40] (sIs [45] q).2).2=Q at h3 ib⊢
    obtain ⟨n4,h4⟩:=qFx hs [41] (by simp) Q.2 ib.1
    refine ⟨n1+n2+n3+n4+1,fun n hn=>?_⟩
    obtain ⟨k,rfl,hm⟩:=up1 hn
    refine qA (h1 k (by omega)) (qO c1 (qA (h2 k (by omega)) (qE c2 (qA (h3 k (by omega)) (qA (h4 k (by omega)) ?_)))))
    cases c3:(sIs [41] Q.2).1 with
    |true=>rw [if_pos rfl];exact qO rfl rfl
    |false=>rw [if_neg (by simp)];exact qE rfl rfl
   |false=>
    rw [if_neg (by simp)]
    have e2:(sIs [40] (sIs [45] q).2).2=(tb q.1,q.2):=by
     rw [qOK c2,qOK c1];simp only [qCD]
    rw [e2] at h2
    have t:=qKu q
    have it:=hi.go t
    obtain ⟨n3,h3⟩:=qFx hs [34] (by simp) (tb q.1,q.2) it.1
    simp only
    cases c3:(sIs [34] (tb q.1,q.2)).1 with
    |true=>
     rw [if_pos rfl]
     have b:=qEE (by simp) c3
     have ib:=it.go b
     have eq2:(sIs [34] (tb q.1,q.2)).2.2=q.2:=by obtain ⟨_,e,_⟩:=qJj c3;rw [e]
     obtain ⟨n4,h4⟩:=qQf hs (sIs [34] (tb q.1,q.2)).2 ib.1 (by have:=ib.2;omega)
     refine ⟨n1+n2+n3+n4+1,fun n hn=>?_⟩
     obtain ⟨k,rfl,hm⟩:=up1 hn
     refine qA (h1 k (by omega)) (qO c1 (qA (h2 k (by omega)) (qO c2 (qA (h3 k (by omega)) (qE c3 (qA (h4 k (by omega)) ?_))))))
     rw [qC,eq2]
     all_goals (cases qBr [] (sIs [34] (tb q.1,q.2)).2.1<;>rfl)
    |false=>
     rw [if_neg (by simp)]
     have e3:(sIs [34] (tb q.1,q.2)).2=(tb q.1,q.2):=by rw [qOK c3];simp only [qCD]
     rw [e3] at h3
     obtain ⟨n4,h4⟩:=qFx hs [35] (by simp) (tb q.1,q.2) it.1
     cases c4:(sIs [35] (tb q.1,q.2)).1 with
     |true=>
      rw [if_pos rfl]
      have b:=qEE (by simp) c4
      have ib:=it.go b
      have eq2:(sIs [35] (tb q.1,q.2)).2.2=q.2:=by obtain ⟨_,e,_⟩:=qJj c4;rw [e]
      obtain ⟨n5,h5⟩:=qQ9 hs (sIs [35] (tb q.1,q.2)).2.1 ib.1 q.2.1 q.2.2 (by have:=hi.2;omega)
      have h4:=fun k hk=>h4 k hk
      refine ⟨n1+n2+n3+n4+n5+1,fun n hn=>?_⟩
      obtain ⟨k,rfl,hm⟩:=up1 hn
      have h4:=h4 k (by omega)
      have h5:=h5 k (by omega) k (by omega)
      have e4:qCY s (sIs [35] (tb q.1,q.2)).2=(BR s,pos s (sIs [35] (tb q.1,q.2)).2.1,q.2.1,q.2.2.length,q.2.2.map qa):=by unfold qCY;rw [eq2]
      rw [e4] at h4
      refine qA (h1 k (by omega)) (qO c1 (qA (h2 k (by omega)) (qO c2 (qA (h3 k (by omega)) (qO c3 (qA h4 (qE c4 (qA h5 ?_))))))))
      cases qO6 (sIs [35] (tb q.1,q.2)).2.1 1 5<;>rfl
     |false=>
      rw [if_neg (by simp)]
      have e4:(sIs [35] (tb q.1,q.2)).2=(tb q.1,q.2):=by rw [qOK c4];simp only [qCD]
      rw [e4] at h4
      obtain ⟨n5,h5⟩:=qNN hs (tb q.1,q.2) it.1
      have w:=qOJ q
      have iw:=hi.go w
      have htl:=qw q.1
      obtain ⟨n6,h6⟩:=qFx hs [40] (by simp) (wr (tb q.1),q.2) iw.1
      obtain ⟨n7,h7⟩:=qRA
      obtain ⟨n9,h9⟩:=qOL H (s:=s) (tb q.1) (wr (tb q.1),q.2) (by omega) (by have:=hi.2;simp only;omega)
      have gi:=qIw [40] (wr (tb q.1),q.2)
      cases hf:qFD (wd (tb q.1)) 1 10 with
      |none=>
       simp only
       refine ⟨n1+n2+n3+n4+n5+n6+n7+n9+12+1,fun n hn=>?_⟩
       obtain ⟨k,rfl,hm⟩:=up1 hn
       have lp:=qI6 (g:=qc k) (s:=s) (wd (tb q.1)) (wr (tb q.1),q.2) (fun _=>(0,q)) (h7 k (by omega)) (h6 k (by omega)) 10 1 k (by omega) (by omega) (by omega) (fun op h=>by rw [hf] at h;cases h)
       rw [hf] at lp
       exact qA (h1 k (by omega)) (qO c1 (qA (h2 k (by omega)) (qO c2 (qA (h3 k (by omega)) (qO c3 (qA (h4 k (by omega)) (qO c4 (qA (h5 k (by omega)) (qA lp (h9 k (by omega)))))))))))
      |some op=>
       have wne:wd (tb q.1)≠ []:=fun e=>by rw [e,H.f0] at hf;cases hf
       have wlt:=qRq wne
       simp only
       cases c5:(sIs [40] (wr (tb q.1),q.2)).1 with
       |true=>
        rw [if_pos rfl]
        have il:=qP1 (by simp) c5
        simp only at il
        obtain ⟨x,hx,n8,h8⟩:=qES H hs f (.call op []) (sIs [40] (wr (tb q.1),q.2)).2 (.inr (by omega)) (iw.go gi) (.inr (by have:=qBf (w.tr0 gi);simp only [List.length_nil];omega))
        have hcall:Ev (qGu · op (BR s) (pos s (sIs [40] (wr (tb q.1),q.2)).2.1) (sIs [40] (wr (tb q.1),q.2)).2.2.1 (sIs [40] (wr (tb q.1),q.2)).2.2.2.length ((sIs [40] (wr (tb q.1),q.2)).2.2.2.map qa)) (qCE s (sP f (.call op []) (sIs [40] (wr (tb q.1),q.2)).2)):=by
         refine ⟨n8+1,fun n hn=>?_⟩
         obtain ⟨k,rfl,hm⟩:=up1 hn
         have h8:=h8 k (by omega) k (by omega)
         rcases hx with rfl|⟨rfl,hz⟩
         ·exact qA h8 rfl
         ·refine qA h8 ?_
          show some ((0:Int),qCY s _)=some (_,qCY s _)
          rw [hz]
        obtain ⟨n10,h10⟩:=hcall
        refine ⟨n1+n2+n3+n4+n5+n6+n7+n10+12+1,fun n hn=>?_⟩
        obtain ⟨k,rfl,hm⟩:=up1 hn
        have lp:=qI6 (g:=qc k) (s:=s) (wd (tb q.1)) (wr (tb q.1),q.2) (fun op=>sP f (.call op []) (sIs [40] (wr (tb q.1),q.2)).2) (h7 k (by omega)) (h6 k (by omega)) 10 1 k (by omega) (by omega) (by omega) (fun op' h _=>by rw [hf] at h;cases h;exact h10 k (by omega))
        rw [hf] at lp
        simp only at lp
        rw [if_pos c5] at lp
        exact qA (h1 k (by omega)) (qO c1 (qA (h2 k (by omega)) (qO c2 (qA (h3 k (by omega)) (qO c3 (qA (h4 k (by omega)) (qO c4 (qA (h5 k (by omega)) (qA lp rfl)))))))))
       |false=>
        rw [if_neg (by simp)]
        obtain ⟨v1,v2⟩:=H.f _ _ hf
        obtain ⟨n9,h9⟩:=qOL H (s:=s) (tb q.1) (sIs [40] (wr (tb q.1),q.2)).2 (by omega) (by have:=(iw.go gi).2;omega)
        have er:qNQ (wd (tb q.1)) (sIs [40] (wr (tb q.1),q.2)).2=(0,qKF (sIs [40] (wr (tb q.1),q.2)).2):=by
         unfold qNQ
         rw [if_neg (fun h=>by rw [v1] at h;cases h.1),if_neg (by rw [v2];simp)]
        rw [er] at h9
        refine ⟨n1+n2+n3+n4+n5+n6+n7+n9+12+1,fun n hn=>?_⟩
        obtain ⟨k,rfl,hm⟩:=up1 hn
        have lp:=qI6 (g:=qc k) (s:=s) (wd (tb q.1)) (wr (tb q.1),q.2) (fun _=>(0,q)) (h7 k (by omega)) (h6 k (by omega)) 10 1 k (by omega) (by omega) (by omega) (fun op' h h'=>by rw [c5] at h';cases h')
        rw [hf] at lp
        simp only at lp
        rw [if_neg (by rw [c5];simp)] at lp
        exact qA (h1 k (by omega)) (qO c1 (qA (h2 k (by omega)) (qO c2 (qA (h3 k (by omega)) (qO c3 (qA (h4 k (by omega)) (qO c4 (qA (h5 k (by omega)) (qA lp (h9 k (by omega)))))))))))
 |f+1,.call op kids,q,ha,hi,hk=>by
  have hr:q.1.length≤1000:=Nat.le_trans (qCw hi.1) hs
  unfold sP
  by_cases hb:q.2.1=true
  ·rw [if_pos hb]
   refine ⟨.inr (qCY s q),.inr ⟨rfl,rfl⟩,1,fun n hn M hM=>?_⟩
   obtain ⟨M,rfl,hM⟩:=up1 hM
   exact qP (qO (qCo hb) rfl)
  ·have hk:kids.length+q.1.length≤1500:=hk.elim (fun h=>absurd h hb) id
   have ha:20*(tb q.1).length+12≤f+1:=ha.elim (fun h=>absurd h.1 hb) id
   have hb:q.2.1=false:=by rw [Bool.eq_false_iff];exact hb
   rw [if_neg (by rw [hb];simp)]
   simp only
   have a:=qEJ H f .arg q hr trivial
   obtain ⟨n1,h1⟩:=qES H hs f .arg q (by show 20*_+10≤f;omega) hi trivial
   generalize sP f .arg q=A at a h1⊢
   have ia:=hi.go a
   have ta:=a.tb
   have ra:=qBf a
   obtain ⟨n2,h2⟩:=qFx hs [41] (by simp) A.2 ia.1
   have kl:decide (kids.length=(kids.map qAy).length∧0<1∧0<8∧(kids.length+([[(PV.i .i64 A.1)]]:List (List PV)).length)*8≤140737488355328∧([[(PV.i .i64 A.1)]]:List (List PV)).all (fun e=>e.length==1)=true)=true:=decide_eq_true ⟨by simp,by decide,by decide,by simp;omega,rfl⟩
   have k1:(kids++ [A.1]).length=kids.length+1:=by simp
   have k2:(kids++ [A.1]).map qAy=kids.map qAy++ [[PV.i .i64 A.1]]:=by simp [qAy]
   cases c1:(sIs [41] A.2).1 with
   |true=>
    rw [if_pos rfl]
    have g:=a.trans (qEE (by simp) c1)
    obtain ⟨n3,h3⟩:=qIv (s:=s) (ndK 6 op (kids++ [A.1])) (sIs [41] A.2).2 (by have:=(hi.go g).2;omega) (qHa (by simp;omega))
    refine ⟨.inl (qCE s (qDZ (ndK 6 op (kids++ [A.1])) (sIs [41] A.2).2)),.inl rfl,n1+n2+n3+1,fun n hn M hM=>?_⟩
    obtain ⟨M,rfl,hM⟩:=up1 hM
    have h3:_=some _:=h3 n (by omega)
    simp only [ndK,kd] at h3
    rw [k2] at h3
    exact qP (qE (qDM hb) (qA (h1 n (by omega)) (qE rfl (qE kl (qA (h2 n (by omega)) (qE c1 (qE (decide_eq_true (by simp)) (qA h3 rfl))))))))
   |false=>
    rw [if_neg (by simp)]
    have g:=a.tr0 (qIw [41] A.2)
    have gt:=(qIw [41] A.2).tb
    have i2:=hi.go g
    obtain ⟨n3,h3⟩:=qFx hs [44] (by simp) (sIs [41] A.2).2 i2.1
    cases c2:(sIs [44] (sIs [41] A.2).2).1 with
    |true=>
     rw [if_pos rfl]
     have b:=qEE (by simp) c2
     have bl:=qP1 (by simp) c2
     have bs:=qBf (g.trans b)
     have b1:=b.sum
     have eq3:(sIs [44] (sIs [41] A.2).2).2.2=(sIs [41] A.2).2.2:=by obtain ⟨_,e,_⟩:=qJj c2;rw [e]
     rw [eq3] at b1
     have g0:=qBf g
     obtain ⟨x,hx,n4,h4⟩:=qES H hs f (.call op (kids++ [A.1])) (sIs [44] (sIs [41] A.2).2).2 (.inr (by omega)) (i2.go b) (.inr (by rw [k1];omega))
     refine ⟨x,hx,n1+n2+n3+n4+1,fun n hn M hM=>?_⟩
     obtain ⟨M,rfl,hM⟩:=up1 hM
     have h4:=h4 n (by omega) M (by omega)
     rw [k1,k2] at h4
     rw [qW (v':=(op,kids.length+1,kids.map qAy++ [[PV.i .i64 A.1]],qCY s (sIs [44] (sIs [41] A.2).2).2)) (by
      exact qE (qDM hb) (qA (h1 n (by omega)) (qE rfl (qE kl (qA (h2 n (by omega)) (qO c1 (qA (h3 n (by omega)) (qO (qCo c2) rfl))))))))]
     exact h4
    |false=>
     rw [if_neg (by simp)]
     have b:=qIw [44] (sIs [41] A.2).2
     obtain ⟨x,hx,n4,h4⟩:=qES H hs f (.call op (kids++ [A.1])) (qKF (sIs [44] (sIs [41] A.2).2).2) (.inl ⟨rfl,by omega⟩) (i2.go (qNP b)) (.inl rfl)
     refine ⟨x,hx,n1+n2+n3+n4+1,fun n hn M hM=>?_⟩
     obtain ⟨M,rfl,hM⟩:=up1 hM
     have h4:=h4 n (by omega) M (by omega)
     rw [k1,k2] at h4
     rw [qW (v':=(op,kids.length+1,kids.map qAy++ [[PV.i .i64 A.1]],qCY s (qKF (sIs [44] (sIs [41] A.2).2).2))) (by
      exact qE (qDM hb) (qA (h1 n (by omega)) (qE rfl (qE kl (qA (h2 n (by omega)) (qO c1 (qA (h3 n (by omega)) (qE (qDM c2) rfl))))))))]
     exact h4
 |f+1,.arg,q,ha,hi,_=>by
  replace ha:20*(tb q.1).length+10≤f+1:=ha
  have hr:q.1.length≤1000:=Nat.le_trans (qCw hi.1) hs
  have htl:=qw q.1
  unfold sP
  simp only
  have t:=qKu q
  have it:=hi.go t
  have w:=qOJ q
  have iw:=hi.go w
  obtain ⟨n1,h1⟩:=qOm hs q hi.1
  obtain ⟨n2,h2⟩:=qNN hs (tb q.1,q.2) it.1
  obtain ⟨n3,h3⟩:=srp (tb q.1) (by omega)
  obtain ⟨n4,h4⟩:=qFx hs [58] (by simp) (wr (tb q.1),q.2) iw.1
  have eq2:(sIs [58] (wr (tb q.1),q.2)).2.2=q.2:=by
   cases c:(sIs [58] (wr (tb q.1),q.2)).1 with
   |true=>obtain ⟨_,e,_⟩:=qJj c;rw [e]
   |false=>rw [qOK c]
  by_cases hc:(qAr (BR (wd (tb q.1)))).2.2.2.2=true∧(sIs [58] (wr (tb q.1),q.2)).1=true
  ·rw [if_pos hc]
   have g:=w.trans (qEE (by simp) hc.2)
   have ig:=hi.go g
   have rg:=qBf g
   generalize sIs [58] (wr (tb q.1),q.2)=I at*
   have gt:=qKu I.2
   have gw:=qOJ I.2
   have il:=qw I.2.1
   obtain ⟨n5,h5⟩:=qOm hs I.2 ig.1
   obtain ⟨n6,h6⟩:=qNN hs (tb I.2.1,I.2.2) (ig.go gt).1
   obtain ⟨n7,h7⟩:=srp (tb I.2.1) (by omega)
   cases hp:(qAr (BR (wd (tb I.2.1)))).2.2.2.2 with
   |true=>
    rw [if_pos rfl]
    obtain ⟨n8,h8⟩:=qIv (s:=s) (ndA (qAr (BR (wd (tb q.1)))) (qAr (BR (wd (tb I.2.1))))) (wr (tb I.2.1),I.2.2) (by have:=(ig.go gw).2;simp only at this⊢;omega) ⟨by simp [kd,ndA],by simp [ndA,em];decide⟩
    refine ⟨n1+n2+n3+n4+n5+n6+n7+n8+1,fun n hn=>?_⟩
    obtain ⟨k,rfl,hm⟩:=up1 hn
    exact qA (h1 k (by omega)) (qA (h2 k (by omega)) (qA (h3 k (by omega)) (qE hc.1 (qA (h4 k (by omega)) (qE hc.2 (qA (h5 k (by omega)) (qA (h6 k (by omega)) (qA (h7 k (by omega)) (qO (qCo hp) (qA (h8 k (by omega)) rfl))))))))))
   |false=>
    rw [if_neg (by simp)]
    refine ⟨n1+n2+n3+n4+n5+n6+n7+1,fun n hn=>?_⟩
    obtain ⟨k,rfl,hm⟩:=up1 hn
    exact qA (h1 k (by omega)) (qA (h2 k (by omega)) (qA (h3 k (by omega)) (qE hc.1 (qA (h4 k (by omega)) (qE hc.2 (qA (h5 k (by omega)) (qA (h6 k (by omega)) (qA (h7 k (by omega)) (qE (qDM hp) rfl)))))))))
  ·rw [if_neg hc]
   obtain ⟨n5,h5⟩:=qES H hs f (.row 1) (tb q.1,q.2) ⟨by simp only [qCD];omega,by omega,by omega⟩ it trivial
   refine ⟨n1+n2+n3+n4+n5+1,fun n hn=>?_⟩
   obtain ⟨k,rfl,hm⟩:=up1 hn
   cases hp:(qAr (BR (wd (tb q.1)))).2.2.2.2 with
   |true=>
    have ht:(sIs [58] (wr (tb q.1),q.2)).1=false:=by rw [Bool.eq_false_iff];exact fun e=>hc ⟨hp,e⟩
    have h4:=h4 k (by omega)
    have e4:qCY s (sIs [58] (wr (tb q.1),q.2)).2=(BR s,pos s (sIs [58] (wr (tb q.1),q.2)).2.1,q.2.1,q.2.2.length,q.2.2.map qa):=by unfold qCY;rw [eq2]
    rw [e4] at h4
    exact qA (h1 k (by omega)) (qA (h2 k (by omega)) (qA (h3 k (by omega)) (qE hp (qA h4 (qO ht (qA (h5 k (by omega)) rfl))))))
   |false=>exact qA (h1 k (by omega)) (qA (h2 k (by omega)) (qA (h3 k (by omega)) (qO hp (qA (h5 k (by omega)) rfl))))
theorem qQG {w:List UInt8} (h:w.all wch=true) (hn:w≠ []):(qA6 (BR w)).1=1∨(qA6 (BR w)).1=3:=by
 cases w with
 |nil=>exact absurd rfl hn
 |cons c t=>
  simp only [List.all_cons,Bool.and_eq_true] at h
  have h39:¬(c::t).head?=some 39:=by
   intro e;simp at e;rw [e] at h;exact absurd h.1 (by decide)
  have h35:¬(c::t).head?=some 35:=by
   intro e;simp at e;rw [e] at h;exact absurd h.1 (by decide)
  unfold qA6
  rw [qAJ,if_neg h39]
  split
  ·exact .inr rfl
  ·split
   ·exact .inr rfl
   ·exact .inl rfl
theorem qRW:RdOK where
 v:=fun w h hn ho=>by
  have c:=qQG h hn
  unfold qf at ho⊢
  split at ho
  ·rename_i hc;rw [if_pos hc];exact c
  ·cases ho
 v0:=by
  have:(qf (BR [])).1=0:=by
   have:(qf ⟨#[]⟩).1=0:=by decide+kernel
   exact this
  rw [this];decide
 p0:=by
  have:(qAr ⟨#[]⟩).2.2.2.2=false:=by decide+kernel
  exact this
 f:=fun w op h=>by
  have t:∀a:Fin 10,(qf (fnS (((a.val:Nat):Int)+1))).2.2.2=false∧(qAr (fnS (((a.val:Nat):Int)+1))).2.2.2.2=false:=by decide+kernel
  have e:∀(k:Nat) (i:Int),1≤i→i+k≤11→qFD w i k=some op→∃j:Int,1≤j∧j≤10∧(fnS j).toList=w:=by
   intro k
   induction k with
   |zero=>intro i _ _ h;cases h
   |succ k ih=>
    intro i h1 h2 h
    unfold qFD at h
    split at h
    ·rename_i hq;exact ⟨i,h1,by omega,hq⟩
    ·exact ih (i+1) (by omega) (by omega) h
  obtain ⟨j,j1,j2,rfl⟩:=e 10 1 (by omega) (by omega) h
  rw [qHy]
  have:=t ⟨(j-1).toNat,by omega⟩
  simp only at this
  rwa [show (((j-1).toNat:Nat):Int)+1=j by omega] at this
 f0:=by decide+kernel
 n:=fun n hn=>by
  have c:n=1∨n=2∨n=3∨n=4∨n=5:=by omega
  rcases c with rfl|rfl|rfl|rfl|rfl
  ·exact ⟨[68,73,86,33],by decide+kernel⟩
  ·exact ⟨[84,89,80,69,33],by decide+kernel⟩
  ·exact ⟨[82,69,70,33],by decide+kernel⟩
  ·exact ⟨[79,86,69,82,33],by decide+kernel⟩
  ·exact ⟨[67,89,67,76,69,33],by decide+kernel⟩
def qOM (s:ByteArray):PS:=(pP 4050 (.bin 1 0) (s.toList,false,[])).2
def qBO (s:ByteArray):List Nd×Bool:=
 if qBv s 200=true∧(qOM s).2.1=false∧tb (qOM s).1= []∧qEl (qOM s).2.2=true then ((qOM s).2.2,true) else ([],false)
theorem qI7 {s:ByteArray} (h:qBv s 200=true):s.toList.length≤200:=by
 unfold qBv at h
 simp only [Bool.and_eq_true,decide_eq_true_eq] at h
 rw [qAN];omega
theorem qPd {s:ByteArray} (h:qBv s 200=true):Gd (s.toList,false,[]):=⟨by have:=qI7 h;simp only;omega,by simp,fun x hx=>by cases hx⟩
theorem qI8 {l:List Nd} (h:∀x∈l,qNu x):∀c∈l,(kd c).length≤140737488351232∧c.2.2.2.2.1.size≤140737488351232:=fun c hc=>by
 have:=h c hc
 exact ⟨by have:=this.1;omega,by have:=this.2;omega⟩
theorem qJU (s:ByteArray) (hb:s.size≤140737488351232):Ev (qDi · s) ((qBO s).1.map qa,(qBO s).2):=by
 obtain ⟨n1,h1⟩:=qIi s 200 hb
 by_cases hp:qBv s 200=true
 ·have hl:=qI7 hp
  have htb:=qw s.toList
  have hg:=qPd hp
  obtain ⟨n2,h2⟩:=qER 4050 (.bin 1 0) (s.toList,false,[]) (by show 20*(tb s.toList).length+6≤4050;omega) ⟨by decide,by decide⟩ hg trivial
  have g:=(qEI 4050 (.bin 1 0) (s.toList,false,[]) hg trivial).1
  have e0:(pP 4050 (.bin 1 0) (s.toList,false,[])).2=qOM s:=rfl
  rw [e0] at g
  generalize pP 4050 (.bin 1 0) (s.toList,false,[])=P at h2 e0
  rw [qHy] at h2
  unfold qBO
  rw [←e0] at g⊢
  obtain ⟨n3,h3⟩:=qGK P.2.1 P.2.2.2.length P.2.2.1 (P.2.2.2.map qa)
  obtain ⟨n4,h4⟩:=qGJ P.2.2.2 (by have:=g.n;omega) (qI8 g.s)
  refine ⟨n1+n2+n3+n4+1,fun n hn=>?_⟩
  obtain ⟨k,rfl,hm⟩:=up1 hn
  have h1:=h1 k (by omega)
  rw [hp] at h1
  refine qA h1 (qO rfl (qA (h2 k (by omega)) (qA (h3 k (by omega)) ?_)))
  by_cases hbad:P.2.2.1=true
  ·rw [if_neg (fun h=>by rw [hbad] at h;cases h.2.1)]
   exact qE hbad (qE rfl rfl)
  ·have hbad:P.2.2.1=false:=by rw [Bool.eq_false_iff];exact hbad
   refine qO hbad ?_
   by_cases hr:tb P.2.1= []
   ·refine qO (qCo (by rw [beq_iff_eq,q8];show (BR (tb P.2.1)).toList= [];rw [qAJ];exact hr)) (qE (decide_eq_true (by simp)) (qA (h4 k (by omega)) (qE (qF _) ?_)))
    cases ho:qEl P.2.2.2 with
    |true=>
     rw [if_pos ⟨hp,hbad,hr,rfl⟩]
     exact qO rfl (qE (decide_eq_true (by simp)) rfl)
    |false=>
     rw [if_neg (fun h=>by cases h.2.2.2)]
     exact qE rfl (qE rfl rfl)
   ·rw [if_neg (fun h=>hr h.2.2.1)]
    exact qE (qDM (by rw [beq_eq_false_iff_ne,q8];show (BR (tb P.2.1)).toList≠ [];rw [qAJ];exact hr)) (qE rfl rfl)
 ·refine ⟨n1+1,fun n hn=>?_⟩
  obtain ⟨k,rfl,hm⟩:=up1 hn
  unfold qBO
  rw [if_neg (fun h=>hp h.1)]
  exact qA (h1 k (by omega)) (qE (qDM (by rw [Bool.eq_false_iff];exact hp)) (qE rfl rfl))
theorem qQH {l:List Nd} (h:∃x∈l,qEH x=false):qEl l=false:=by
 obtain ⟨x,hx,hb⟩:=h
 rw [Bool.eq_false_iff]
 intro ho
 unfold qEl at ho
 simp only [Bool.and_eq_true] at ho
 obtain ⟨i,hi⟩:=List.mem_iff_getElem?.1 hx
 have hil:=(List.getElem?_eq_some_iff.1 hi).1
 have:=(qEk.1 ho.2.1 (i:Int) (by omega) (by omega)).1
 unfold qFC at this
 have e:ndi l (i:Int)=x:=by unfold ndi;simp [hi]
 rw [e,hb] at this
 cases this
theorem qJV (s:ByteArray) (hb:s.size≤140737488351232):Ev (qDf · s) ((qBO s).1.map qa,(qBO s).2):=by
 obtain ⟨n1,h1⟩:=qHs s hb
 by_cases hp:qBv s 200=true
 ·have hl:=qI7 hp
  have hs:s.toList.length≤1000:=by omega
  have htb:=qw s.toList
  have hg:=qPd hp
  have gi:=(qEI 4050 (.bin 1 0) (s.toList,false,[]) hg trivial).1
  have sim:=(qQ5 qRW (tb s.toList).length).2.2.1 (s.toList,false,[]) (s.toList,false,[]) 0 4 4050 4050 (by omega) ⟨rfl,rfl,rfl,rfl⟩ rfl (by omega) (by omega) (by omega) (by omega)
  rw [show (5:Int)-((4:Nat):Int)=1 from rfl] at sim
  have iv:Iv s.toList (s.toList,false,[]):=⟨List.suffix_rfl,by simp;omega⟩
  obtain ⟨n2,h2⟩:=qES qRW hs 4050 (.row 1) (s.toList,false,[]) ⟨by simp only;omega,by omega,by omega⟩ iv trivial
  have g:=qEJ qRW 4050 (.row 1) (s.toList,false,[]) hs trivial
  have e0:(pP 4050 (.bin 1 0) (s.toList,false,[])).2=qOM s:=rfl
  generalize pP 4050 (.bin 1 0) (s.toList,false,[])=P at sim e0 gi
  generalize sP 4050 (.row 1) (s.toList,false,[])=Q at sim h2 g
  unfold qBO
  rw [←e0]
  obtain ⟨n3,h3⟩:=qOm hs Q.2 (iv.go g).1
  obtain ⟨n4,h4⟩:=qGI Q.2.2.2 (qI8 (g.sm (fun x hx=>by cases hx)))
  have p0:pos s.toList s.toList=0:=by unfold pos;simp
  simp only [qHy,p0] at h2 h3
  have g2:=(qPc (iv.go g).1)
  refine ⟨n1+n2+n3+n4+1,fun n hn=>?_⟩
  obtain ⟨k,rfl,hm⟩:=up1 hn
  have h1:=h1 k (by omega)
  rw [hp] at h1
  have h2:=h2 k (by omega)
  have h3:=h3 k (by omega)
  have e1:qCE s.toList Q=(Q.1,s,pos s.toList Q.2.1,Q.2.2.1,Q.2.2.2.length,Q.2.2.2.map qa):=by unfold qCE qCY;rw [qHy]
  have e2:qCY s.toList (tb Q.2.1,Q.2.2)=(s,pos s.toList (tb Q.2.1),Q.2.2.1,Q.2.2.2.length,Q.2.2.2.map qa):=by unfold qCY;rw [qHy]
  rw [e1] at h2
  rw [e2] at h3
  refine qA h1 (qO rfl (qA h2 (qA h3 ?_)))
  rcases sim with ⟨_,hk,_⟩|⟨hbad,hd⟩
  ·obtain ⟨k1,k2,k3,k4⟩:=hk
   rw [k1,k3,k4]
   refine qO k2 ?_
   by_cases hr:tb Q.2.1= []
   ·refine qO (decide_eq_false (show ¬pos s.toList (tb Q.2.1)<(s.size:Int) by rw [hr];unfold pos;simp [qAN])) (qE (decide_eq_true (by simp)) (qA (h4 k (by omega)) (qE (qF _) ?_)))
    cases ho:qEl Q.2.2.2 with
    |true=>
     rw [if_pos ⟨hp,rfl,hr,rfl⟩]
     exact qO rfl (qE (decide_eq_true (by simp)) rfl)
    |false=>
     rw [if_neg (fun h=>by cases h.2.2.2)]
     exact qE rfl (qE rfl rfl)
   ·rw [if_neg (fun h=>hr h.2.2.1)]
    have hlp:=List.length_pos_iff.2 hr
    have hsl:=qCw g2
    exact qE (decide_eq_true (show pos s.toList (tb Q.2.1)<(s.size:Int) by rw [qAN] at hsl;unfold pos;rw [qAN];omega)) (qE rfl rfl)
  ·rw [if_neg (fun h=>by
    rcases hd with hd|hd
    ·rw [hd] at h;cases h.2.1
    ·rw [qQH hd] at h;cases h.2.2.2)]
   exact qE hbad (qE rfl rfl)
 ·refine ⟨n1+1,fun n hn=>?_⟩
  obtain ⟨k,rfl,hm⟩:=up1 hn
  unfold qBO
  rw [if_neg (fun h=>hp h.1)]
  exact qA (h1 k (by omega)) (qE (qDM (by rw [Bool.eq_false_iff];exact hp)) (qE rfl rfl))
theorem qKv (s:ByteArray):(qBO s).1.length≤60∧∀x∈(qBO s).1,qNu x:=by
 unfold qBO
 split
 ·rename_i h
  have g:=(qEI 4050 (.bin 1 0) (s.toList,false,[]) (qPd h.1) trivial).1
  exact ⟨g.n,g.s⟩
 ·exact ⟨by simp,fun x hx=>by cases hx⟩
theorem qNR:∀(l:List UInt8) (acc:Nat) {u:Nat},l.all qAx=true→Lib.parseUintM (2^64-1) acc l= .ok u→u=qAZ acc l
 | [],acc,u,_,h=>by simp only [Lib.parseUintM] at h;cases h;rfl
 |c::r,acc,u,hd,h=>by
  simp only [List.all_cons,Bool.and_eq_true] at hd
  have hc:=hd.1
  simp only [qAx,Bool.and_eq_true,decide_eq_true_eq] at hc
  unfold Lib.parseUintM at h
  rw [qDJ]
  rw [if_pos hc] at h
  by_cases h1:1844674407370955162≤acc
  ·rw [if_pos h1] at h;cases h
  ·rw [if_neg h1] at h
   by_cases h2:2^64-1<acc*10+(c.toNat-48)
   ·rw [if_pos h2] at h;cases h
   ·rw [if_neg h2] at h
    exact qNR r _ hd.2 h
theorem qPe {p:UInt8→Bool}:∀l:List UInt8,(l.dropWhile p= [])↔l.all p=true
 | []=>by simp
 |c::r=>by
  rw [List.dropWhile_cons,List.all_cons]
  by_cases h:p c=true
  ·rw [if_pos h,h,Bool.true_and];exact qPe r
  ·rw [if_neg h];simp [h]
theorem qP3 {p:UInt8→Bool}:∀(l:List UInt8) {a:UInt8} {r:List UInt8},l.dropWhile p=a::r→p a=false
 | [],a,r,h=>by simp at h
 |c::l,a,r,h=>by
  rw [List.dropWhile_cons] at h
  by_cases hc:p c=true
  ·rw [if_pos hc] at h;exact qP3 l h
  ·rw [if_neg hc] at h
   cases h
   rw [Bool.eq_false_iff];exact hc
theorem qQj:∀i:Fin 256,((⟨#[48,49,50,51,52,53,54,55,56,57]⟩:ByteArray).data.toList.contains (UInt8.ofNat i.val))=qAx (UInt8.ofNat i.val):=by decide+kernel
theorem qPI {p:UInt8→Bool} {t:List UInt8}:((t.reverse.dropWhile p).reverse.dropWhile p= [])↔t.all p=true:=by
 rw [qPe]
 constructor
 ·intro h
  cases hx:t.reverse.dropWhile p with
  |nil=>
   rw [qPe] at hx
   rw [List.all_eq_true] at hx⊢
   exact fun x hx'=>hx x (by simpa using hx')
  |cons a r=>
   rw [List.all_eq_true] at h
   have h1:=h a (by rw [hx];simp)
   rw [qP3 _ hx] at h1
   cases h1
 ·intro h
  rw [List.all_eq_true] at h⊢
  intro x hx
  rw [List.mem_reverse] at hx
  exact h x (by simpa using (List.dropWhile_suffix p).subset hx)
def qF1 (s:List UInt8):List UInt8:=if s.head?=some 45 then s.tail else s
def qIx (s:List UInt8):Int:=if s.head?=some 45 then-((qAZ 0 (qF1 s):Nat):Int) else ((qAZ 0 (qF1 s):Nat):Int)
def qNv (s:List UInt8):Bool:=decide (qF1 s≠ [])&&(qF1 s).all qAx
def qEF (s:List UInt8):Bool:=qNv s&&okV 1 (qIx s) em
theorem qQk (s:List UInt8):(qF1 s).length≤s.length:=by unfold qF1;split<;>simp
theorem qPJ (s:List UInt8) (h:s.length≤1000):Ev (qDd · (BR s)) (qNv s):=by
 refine ⟨10,fun n hn=>?_⟩
 obtain ⟨k,rfl⟩:∃k,n=k+5:=⟨n-5,by omega⟩
 have tp:qDC (k+4) (BR s) ⟨#[45]⟩=some (BR (qF1 s)):=by
  have hp:qy (k+2) (BR s) ⟨#[45]⟩=some (List.isPrefixOf [45] s):=by
   have:=qBN (k+1) s [45]
   simp only [qj,qBo,qC,qD,qG,qH,qJ,qK,Option.bind_some,qF,qM,qN] at this
   have e:∀o:Option Bool,(o.bind fun x=>some x)=o:=fun o=>by cases o<;>rfl
   rw [e] at this
   exact this
  have inner:qBB (k+3) (BR s) ⟨#[45]⟩=some (BR (qF1 s)):=by
   by_cases hh:s.head?=some 45
   ·rw [(qED 45 s).2 hh] at hp
    obtain ⟨t,rfl⟩:=qI4 hh
    unfold qF1
    rw [if_pos hh]
    refine qA hp (qE rfl (qE (decide_eq_true ⟨by decide,by rw [qb];show (1:Int)≤_;simp;omega,Int.le_refl _⟩) ?_))
    rw [qC]
    show some ((BR (45::t)).extract 1 ((((BR (45::t)).size:Nat):Int)).toNat)=_
    rw [qE0,qb]
    simp
   ·have e:List.isPrefixOf [45] s=false:=by rw [Bool.eq_false_iff];exact fun e=>hh ((qED 45 s).1 e)
    rw [e] at hp
    unfold qF1
    rw [if_neg hh]
    exact qA hp (qO rfl rfl)
  exact qA inner rfl
 have tl:=qQk s
 unfold qNv
 generalize qF1 s=t at tp tl⊢
 refine qA tp ?_
 by_cases ht:t= []
 ·subst ht
  refine qO (qCo (by rw [qAJ,q8];rfl)) ?_
  rfl
 ·refine qE (qDM (by rw [beq_eq_false_iff_ne,qAJ,q8];exact ht)) ?_
  have tr:qFl (k+4) (BR t) ⟨#[48,49,50,51,52,53,54,55,56,57]⟩=some (BR (((t.reverse.dropWhile qAx).reverse).dropWhile qAx)):=by
   show zAF (BR t) ⟨#[48,49,50,51,52,53,54,55,56,57]⟩=_
   unfold zAF
   rw [if_pos ⟨by rw [qb];omega,by decide,by decide+kernel⟩]
   unfold Lib.trimS Lib.trimLeftS Lib.trimRightS
   have:(fun c=>(⟨#[48,49,50,51,52,53,54,55,56,57]⟩:ByteArray).data.toList.contains c)=qAx:=funext (qPZ qQj)
   rw [this,←Go.Lib.toList_data (BR t),qAJ]
   rfl
  refine qA tr ?_
  rw [qC]
  congr 1
  have dt:decide (t≠ [])=true:=decide_eq_true ht
  rw [dt,Bool.true_and,qAJ,q8]
  by_cases ha:t.all qAx=true
  ·rw [qPI.2 ha,ha];rfl
  ·have hx:¬(t.reverse.dropWhile qAx).reverse.dropWhile qAx= []:=fun e=>ha (qPI.1 e)
   rw [beq_eq_false_iff_ne.2 hx,Bool.eq_false_iff.2 ha]
theorem qRX {n:Int}:okV 1 n em=true↔-1000000000000000≤n∧n≤1000000000000000:=by
 simp [okV,em,q8]
theorem qLg {s:List UInt8} (h:qNv s=true):(∀n,Lib.parseIntB 64 s= .ok n→n=qIx s)∧(qEF s=true→Lib.parseIntB 64 s= .ok (qIx s)):=by
 have hd:=h
 unfold qNv at hd
 simp only [Bool.and_eq_true,decide_eq_true_eq] at hd
 obtain ⟨h1,h2⟩:=hd
 have p:(2:Nat)^(64-1)=9223372036854775808:=by decide
 have hne:s≠ []:=fun e=>h1 (by rw [e];rfl)
 obtain ⟨c,r,rfl⟩:∃c r,s=c::r:=by
  cases s with
  |nil=>exact absurd rfl hne
  |cons c r=>exact ⟨c,r,rfl⟩
 have c45:(c.toNat=45)↔c=45:=⟨fun e=>UInt8.toNat_inj.1 (show c.toNat=(45:UInt8).toNat from e),fun e=>by rw [e];rfl⟩
 have nt:qF1 (c::r)=if c.toNat=43∨c.toNat=45 then r else c::r:=by
  unfold qF1
  by_cases hc:c=45
  ·subst hc;simp
  ·have hc2:¬c.toNat=45:=fun e=>hc (c45.1 e)
   have ht:qF1 (c::r)=c::r:=by unfold qF1;rw [if_neg (by simpa using hc)]
   rw [ht] at h2
   simp only [List.all_cons,Bool.and_eq_true,qAx,decide_eq_true_eq] at h2
   rw [if_neg (by simpa using hc),if_neg (by omega)]
 have nv:qIx (c::r)=if c.toNat=45 then-((qAZ 0 (qF1 (c::r)):Nat):Int) else ((qAZ 0 (qF1 (c::r)):Nat):Int):=by
  unfold qIx
  by_cases hc:c=45
  ·subst hc;rfl
  ·rw [if_neg (by simpa using hc),if_neg (fun e=>hc (c45.1 e))]
 unfold Lib.parseIntB
 simp only
 rw [←nt]
 unfold Lib.parseUintB
 rw [if_neg h1]
 constructor
 ·intro n hn
  rcases hq:Lib.parseUintM (2^64-1) 0 (qF1 (c::r)) with u|_|_
  rotate_left
  ·rw [hq] at hn;cases hn
  ·rw [hq] at hn;cases hn
  ·have hu:=qNR _ 0 h2 hq
   rw [hq] at hn
   simp only at hn
   split at hn
   ·cases hn
   ·split at hn
    ·cases hn
    ·injection hn with hn
     rw [nv,←hu,←hn]
 ·intro ho
  unfold qEF at ho
  simp only [Bool.and_eq_true] at ho
  have hb:=qRX.1 ho.2
  have hv:qAZ 0 (qF1 (c::r))≤1000000000000000:=by
   rw [nv] at hb
   split at hb<;>omega
  rw [qLS _ 0 h2 (by omega)]
  simp only
  rw [if_neg (by rw [p];omega),if_neg (by rw [p];omega),nv]
def szL:List UInt8→List UInt8
 | []=> []
 |c::t=>if t≠ []∧c=48 then szL t else c::t
theorem qMW:∀l:List UInt8,qAZ 0 (szL l)=qAZ 0 l
 | []=>rfl
 |c::t=>by
  unfold szL
  split
  ·rename_i h
   rw [qMW t,qDJ,h.2]
   rfl
  ·rfl
theorem qOp:∀l:List UInt8,(szL l).all qAx=l.all qAx
 | []=>rfl
 |c::t=>by
  unfold szL
  split
  ·rename_i h
   rw [qOp t,List.all_cons,h.2]
   simp [qAx]
  ·rfl
theorem qRG:∀l:List UInt8,l≠ []→szL l≠ []
 | [],h=>absurd rfl h
 |c::t,_=>by
  unfold szL
  split
  ·rename_i h;exact qRG t h.1
  ·simp
theorem qOq:∀l:List UInt8,(szL l).head?=some 48→(szL l).length=1
 | [],h=>by cases h
 |c::t,h=>by
  unfold szL at h⊢
  split at h
  ·rename_i hc;rw [if_pos hc];exact qOq t h
  ·rename_i hc
   rw [if_neg hc]
   have h48:c=48:=by simpa using h
   have:t= []:=Classical.byContradiction fun e=>hc ⟨e,h48⟩
   rw [this];rfl
theorem qQl {l:List UInt8} (h:l≠ []):qE7 (szL l)=l.all qAx:=by
 unfold qE7
 rw [qOp]
 have h1:(szL l== [])=false:=beq_eq_false_iff_ne.2 (qRG l h)
 rw [h1]
 by_cases e:(szL l).head?=some 48
 ·rw [qOq l e];simp
 ·rw [beq_eq_false_iff_ne.2 e];simp
theorem qPK:∀(l:List UInt8) (acc:Nat),acc*10^l.length≤qAZ acc l
 | [],acc=>by rw [qFp];simp
 |c::r,acc=>by
  have:=qPK r (acc*10+(c.toNat-48))
  rw [qDJ,List.length_cons,Nat.pow_succ]
  refine Nat.le_trans ?_ this
  rw [show acc*(10^r.length*10)=acc*10*10^r.length by rw [Nat.mul_comm (10^r.length) 10,Nat.mul_assoc]]
  exact Nat.mul_le_mul_right _ (by omega)
theorem qRY {l:List UInt8} (hd:l.all qAx=true) (h:16<(szL l).length):10000000000000000≤qAZ 0 l:=by
 rw [←qMW]
 rw [←qOp] at hd
 have hh:=qOq l
 cases hz:szL l with
 |nil=>rw [hz] at h;simp at h
 |cons c r=>
  rw [hz] at h hd hh
  simp only [List.length_cons] at h
  have hc:¬c=48:=fun e=>by
   have:=hh (by rw [e];rfl)
   simp only [List.length_cons] at this
   omega
  simp only [List.all_cons,Bool.and_eq_true,qAx,decide_eq_true_eq] at hd
  have hc2:¬c.toNat=48:=fun e=>hc (UInt8.toNat_inj.1 (show c.toNat=(48:UInt8).toNat from e))
  rw [qDJ]
  have a:=qPK r (0*10+(c.toNat-48))
  have p:10^16≤10^r.length:=Nat.pow_le_pow_right (by decide) (by omega)
  have p16:(10:Nat)^16=10000000000000000:=by decide
  have:1*10^r.length≤(0*10+(c.toNat-48))*10^r.length:=Nat.mul_le_mul_right _ (by omega)
  omega
theorem qKw (n:Nat) (neg:Bool) (a b:Int) (e:ByteArray):∀(l:List UInt8) (M:Nat),l.length≤1000→l.length+1≤M→zC (qBW n) M (BR l,neg,a,b,e)=some (BR (szL l),neg,a,b,e)
 |l,0,_,h=>by omega
 | [],M+1,_,_=>qP (qO (decide_eq_false (show ¬((BR []).size:Int)>1 by rw [qb];decide)) rfl)
 |c::t,M+1,hl,h=>by
  simp only [List.length_cons] at h hl
  unfold szL
  by_cases ht:t= []
  ·rw [if_neg (fun h=>h.1 ht)]
   subst ht
   exact qP (qO (decide_eq_false (show ¬((BR [c]).size:Int)>1 by rw [qb];simp)) rfl)
  ·have hpos:=List.length_pos_iff.2 ht
   have g0:decide (((BR (c::t)).size:Int)>1)=true:=decide_eq_true (by rw [qb];simp only [List.length_cons];omega)
   have g1:(BR (c::t)).toList[((0:Int)).toNat]?=some c:=by rw [qAJ];rfl
   by_cases hc:c=48
   ·rw [if_pos ⟨ht,hc⟩]
    subst hc
    rw [qW (v':=(BR t,neg,a,b,e)) (by
     refine qE g0 (qE rfl (qA g1 (qE rfl (qE (decide_eq_true ⟨by decide,by rw [qb];simp only [List.length_cons];omega,Int.le_refl _⟩) ?_))))
     rw [qC]
     show some (Sum.inl ((BR (48::t)).extract 1 ((((BR (48::t)).size:Nat):Int)).toNat,neg,a,b,e))=_
     rw [qE0,qb]
     simp)]
    exact qKw n neg a b e t M (by omega) (by omega)
   ·rw [if_neg (fun h=>hc h.2)]
    refine qP (qE g0 (qE rfl (qA g1 (qO ?_ rfl))))
    rw [beq_eq_false_iff_ne]
    intro e
    exact hc (UInt8.toNat_inj.1 (show c.toNat=48 by omega))
theorem qRZ {l:List UInt8} (h:l≠ []):l1I (szL l) 16=if (szL l).length≤16∧l.all qAx=true then (((qAZ 0 l:Nat):Int),true) else (0,false):=by
 unfold l1I
 rw [qQl h,qMW]
 by_cases hh:(szL l).length≤16∧l.all qAx=true
 ·rw [if_pos hh,if_pos ⟨by have:=hh.1;omega,hh.2⟩]
 ·rw [if_neg hh,if_neg (fun e=>hh ⟨by have:=e.1;omega,e.2⟩)]
theorem qPL (neg:Bool) (t:List UInt8) (ht:t≠ []) (hl:t.length≤1000):∃r:Int×Int×ByteArray×Bool,(r.2.2.2=(t.all qAx&&okV 1 (if neg=true then-((qAZ 0 t:Nat):Int) else ((qAZ 0 t:Nat):Int)) em))∧(r.2.2.2=true→r=(1,(if neg=true then-((qAZ 0 t:Nat):Int) else ((qAZ 0 t:Nat):Int)),em,true))∧
  ∃n0,∀n,n0≤n→∃v:ByteArray×Bool×Int×Int×ByteArray,zC (qBW n) n (BR t,neg,0,0,⟨#[]⟩)=some v∧
   (Tr.opt (qq n v.1 16) fun r221=>(.ask (v.2.1)
    (.ask (r221.2) (.opt (qX n 1 (IntKind.i64.wrap (0-r221.1)) ⟨#[]⟩) fun r222=>(.done ((1:Int),(IntKind.i64.wrap (0-r221.1)),(⟨#[]⟩:ByteArray),r222))) (.done ((1:Int),(IntKind.i64.wrap (0-r221.1)),(⟨#[]⟩:ByteArray),false)))
    (.ask (r221.2) (.opt (qX n 1 r221.1 ⟨#[]⟩) fun r223=>(.done ((1:Int),r221.1,(⟨#[]⟩:ByteArray),r223))) (.done ((1:Int),r221.1,(⟨#[]⟩:ByteArray),false))))).run=some r:=by
 have hi:=qDY (BR (szL t)) 16 (by decide)
 rw [qAJ,qRZ ht] at hi
 obtain ⟨n1,h1⟩:=hi
 by_cases hh:(szL t).length≤16∧t.all qAx=true
 ·have hv:qAZ 0 t<10^(0+(szL t).length):=by
   have:=qOa (szL t) 0 0 (by rw [qOp];exact hh.2) (by decide)
   rwa [qMW] at this
  have hp:10^(0+(szL t).length)≤10^16:=Nat.pow_le_pow_right (by decide) (by omega)
  have p16:(10:Nat)^16=10000000000000000:=by decide
  have w1:IntKind.i64.wrap (0-((qAZ 0 t:Nat):Int))= -((qAZ 0 t:Nat):Int):=by rw [qZ (by omega)];omega
  cases neg with
  |true=>
   obtain ⟨n2,h2⟩:=q9 1 (-((qAZ 0 t:Nat):Int)) em (by decide)
   refine ⟨(1,-((qAZ 0 t:Nat):Int),em,okV 1 (-((qAZ 0 t:Nat):Int)) em),by rw [hh.2];simp,fun e=>?_,n1+n2+t.length+1,fun n hn=>⟨_,qKw n true 0 0 _ t n hl (by omega),?_⟩⟩
   ·simp only at e;rw [e];rfl
   ·have h1:=h1 n (by omega)
    rw [if_pos hh] at h1
    have h2:=h2 n (by omega)
    rw [←w1] at h2
    refine qA h1 (qE rfl (qE rfl (qA h2 ?_)))
    rw [qC,w1];rfl
  |false=>
   obtain ⟨n2,h2⟩:=q9 1 ((qAZ 0 t:Nat):Int) em (by decide)
   refine ⟨(1,((qAZ 0 t:Nat):Int),em,okV 1 ((qAZ 0 t:Nat):Int) em),by rw [hh.2];simp,fun e=>?_,n1+n2+t.length+1,fun n hn=>⟨_,qKw n false 0 0 _ t n hl (by omega),?_⟩⟩
   ·simp only at e;rw [e];rfl
   ·have h1:=h1 n (by omega)
    rw [if_pos hh] at h1
    exact qA h1 (qO rfl (qE rfl (qA (h2 n (by omega)) rfl)))
 ·have hno:(t.all qAx&&okV 1 (if neg=true then-((qAZ 0 t:Nat):Int) else ((qAZ 0 t:Nat):Int)) em)=false:=by
   rw [Bool.eq_false_iff]
   intro e
   simp only [Bool.and_eq_true] at e
   have hb:=qRX.1 e.2
   have:16<(szL t).length:=by
    have:¬(szL t).length≤16:=fun h=>hh ⟨h,e.1⟩
    omega
   have:=qRY e.1 this
   split at hb<;>omega
  cases neg with
  |true=>
   refine ⟨(1,IntKind.i64.wrap (0-0),em,false),hno.symm,(fun e=>by cases e),n1+t.length+1,fun n hn=>⟨_,qKw n true 0 0 _ t n hl (by omega),?_⟩⟩
   have h1:=h1 n (by omega)
   rw [if_neg hh] at h1
   exact qA h1 (qE rfl (qO rfl rfl))
  |false=>
   refine ⟨(1,0,em,false),hno.symm,(fun e=>by cases e),n1+t.length+1,fun n hn=>⟨_,qKw n false 0 0 _ t n hl (by omega),?_⟩⟩
   have h1:=h1 n (by omega)
   rw [if_neg hh] at h1
   exact qA h1 (qO rfl (qO rfl rfl))
theorem qPM (s:List UInt8) (hs:s≠ []) (hl:s.length≤1000):∃r:Int×Int×ByteArray×Bool,r.2.2.2=qEF s∧(qEF s=true→r=(1,qIx s,em,true))∧Ev (qEt · (BR s)) r:=by
 obtain ⟨c,t,rfl⟩:∃c t,s=c::t:=by
  cases s with
  |nil=>exact absurd rfl hs
  |cons c t=>exact ⟨c,t,rfl⟩
 simp only [List.length_cons] at hl
 have g0:decide (((BR (c::t)).size:Int)>0)=true:=decide_eq_true (by rw [qb];simp only [List.length_cons];omega)
 have g1:(BR (c::t)).toList[((0:Int)).toNat]?=some c:=by rw [qAJ];rfl
 by_cases hc:c=45
 ·subst hc
  have ext:(BR (45::t)).extract ((1:Int)).toNat ((((BR (45::t)).size:Nat):Int)).toNat=BR t:=by rw [qE0,qb];simp
  have g2:decide (0≤(1:Int)∧(1:Int)≤((BR (45::t)).size:Int)∧((BR (45::t)).size:Int)≤((BR (45::t)).size:Int))=true:=decide_eq_true ⟨by decide,by rw [qb];simp only [List.length_cons];omega,Int.le_refl _⟩
  have nt:qF1 (45::t)=t:=rfl
  have nv:qIx (45::t)= -((qAZ 0 t:Nat):Int):=rfl
  by_cases ht:t= []
  ·subst ht
   refine ⟨(0,0,⟨#[]⟩,false),by decide+kernel,(fun e=>by revert e;decide+kernel),1,fun n hn=>?_⟩
   obtain ⟨k,rfl,hm⟩:=up1 hn
   exact qE g0 (qE rfl (qA g1 (qE rfl (qE g2 (qE (by rw [ext,qAJ,q8];rfl) rfl)))))
  ·obtain ⟨r,r1,r2,n0,h0⟩:=qPL true t ht (by omega)
   have e:qEF (45::t)=(t.all qAx&&okV 1 (-((qAZ 0 t:Nat):Int)) em):=by
    unfold qEF qNv
    rw [nt,nv,decide_eq_true ht,Bool.true_and]
   rw [if_pos rfl] at r1 r2
   refine ⟨r,by rw [e];exact r1,fun h=>by rw [nv];exact r2 (by rw [r1,←e];exact h),n0+1,fun n hn=>?_⟩
   obtain ⟨k,rfl,hm⟩:=up1 hn
   obtain ⟨v,lp,fin⟩:=h0 k (by omega)
   rw [←ext] at lp
   exact qE g0 (qE rfl (qA g1 (qE rfl (qE g2 (qO (by rw [ext,beq_eq_false_iff_ne,qAJ,q8];exact ht) (qA lp fin))))))
 ·have c45:((c.toNat:Int)==45)=false:=by
   rw [beq_eq_false_iff_ne];intro e
   exact hc (UInt8.toNat_inj.1 (show c.toNat=45 by omega))
  have hh:¬(c::t).head?=some 45:=by simpa using hc
  have nt:qF1 (c::t)=c::t:=by unfold qF1;rw [if_neg hh]
  have nv:qIx (c::t)=((qAZ 0 (c::t):Nat):Int):=by unfold qIx;rw [if_neg hh,nt]
  obtain ⟨r,r1,r2,n0,h0⟩:=qPL false (c::t) (by simp) (by simp only [List.length_cons];omega)
  have e:qEF (c::t)=((c::t).all qAx&&okV 1 (((qAZ 0 (c::t):Nat):Int)) em):=by
   unfold qEF qNv
   rw [nt,nv,decide_eq_true (by simp),Bool.true_and]
  rw [if_neg (by simp)] at r1 r2
  refine ⟨r,by rw [e];exact r1,fun h=>by rw [nv];exact r2 (by rw [r1,←e];exact h),n0+1,fun n hn=>?_⟩
  obtain ⟨k,rfl,hm⟩:=up1 hn
  obtain ⟨v,lp,fin⟩:=h0 k (by omega)
  rw [←c45] at lp
  exact qE g0 (qE rfl (qA g1 (qO c45 (qO (by rw [beq_eq_false_iff_ne,qAJ,q8];simp) (qA lp fin)))))
def qDV (s:ByteArray):ByteArray×Bool:=
 if qBv s 200=false then (⟨#[]⟩,false) else if s.toList= [] then (⟨#[]⟩,true) else
 if s.toList.head?=some 61 then (if (qBO (BR s.toList.tail)).2=true∧(qCp (qBO (BR s.toList.tail)).1).toList≠ []∧(qCp (qBO (BR s.toList.tail)).1).size<200 then (⟨#[61]⟩++qCp (qBO (BR s.toList.tail)).1,true) else (⟨#[]⟩,false)) else
 if qEF s.toList=true then (qFz (qIx s.toList),true) else
 if (qf s).2.2.2=true then (s,true) else
 if s.size=200 then (⟨#[]⟩,false) else (⟨#[39]⟩++s,true)
theorem qPf (t:ByteArray):Ev (qBV · ((qBO t).1.map qa)) (qCp (qBO t).1):=qJS _ (by have:=(qKv t).1;omega) (qI8 (qKv t).2)
theorem qPg (t:ByteArray):Ev (qBb · ((qBO t).1.map qa)) (qCp (qBO t).1):=qJT _ (by have:=(qKv t).1;omega) (qI8 (qKv t).2)
theorem qNS (l:List Nd):(qCp l).size≤200:=by
 unfold qCp
 split
 ·split
  ·decide
  ·omega
 ·decide
theorem qFy {s:ByteArray} (h:s.toList≠ []):(s.toList==(⟨#[]⟩:ByteArray).toList)=false:=by rw [q8];exact beq_eq_false_iff_ne.2 h
theorem qNT {s:ByteArray} (h:s.toList= []):(s.toList==(⟨#[]⟩:ByteArray).toList)=true:=by rw [q8];exact beq_iff_eq.2 h
theorem qPN {s:ByteArray} (h:(qf s).2.2.2=true):okV (qf s).1 (qf s).2.1 (qf s).2.2.1=true∧(qBq (qf s).1 (qf s).2.1 (qf s).2.2.1)=s:=by
 unfold qf at h⊢
 split at h
 ·rename_i hc
  rw [if_pos hc]
  exact ⟨hc.1,qEA hc.2⟩
 ·cases h
theorem qRy {s:ByteArray} (h:qBv s 200=true):okV 2 0 s=true:=by
 unfold okV
 rw [if_pos rfl,h]
 rfl
theorem qKG {s:ByteArray} (h:qBv s 200=true):s.size≤200:=by have:=qI7 h;rw [qAN] at this;exact this
theorem qQm (s:ByteArray):(qBq 2 0 s).size=s.size+1:=by
 have e:qBq 2 0 s=⟨#[39]⟩++s:=rfl
 rw [e,ByteArray.size_append]
 show 1+s.size=_
 omega
theorem qQI {s:ByteArray} (h:(qf s).2.2.2=true):(qf s).2.2.1.size≤1000:=by
 obtain ⟨h1,h2⟩:=qPN h
 unfold okV at h1
 split at h1
 ·simp only [Bool.and_eq_true] at h1
  have:=qKG h1.2;omega
 ·simp only [Bool.and_eq_true,beq_iff_eq] at h1
  have:=congrArg List.length h1.1
  rw [qAN] at this
  simp only [List.length_nil] at this
  omega
theorem qHz (s:ByteArray) (hb:s.size≤140737488355328):Ev (qCj · s) (qDV s):=by
 obtain ⟨n1,h1⟩:=qG1 s hb
 unfold qDV
 cases hp:qBv s 200 with
 |false=>
  rw [if_pos rfl]
  refine ⟨n1+1,fun n hn=>?_⟩
  obtain ⟨k,rfl,hm⟩:=up1 hn
  exact qA (h1 k (by omega)) (qE (qDM hp) rfl)
 |true=>
  rw [if_neg (by simp)]
  have hsz:=qKG hp
  by_cases h0:s.toList= []
  ·rw [if_pos h0]
   refine ⟨n1+1,fun n hn=>?_⟩
   obtain ⟨k,rfl,hm⟩:=up1 hn
   exact qA (h1 k (by omega)) (qO (qCo hp) (qE (qNT h0) rfl))
  ·rw [if_neg h0]
   obtain ⟨c,t,hct⟩:∃c t,s.toList=c::t:=by
    cases h:s.toList with
    |nil=>exact absurd h h0
    |cons c t=>exact ⟨c,t,rfl⟩
   have g1:s.toList[((0:Int)).toNat]?=some c:=by rw [hct];rfl
   have hl:s.size=t.length+1:=by rw [←qAN,hct];rfl
   by_cases h61:s.toList.head?=some 61
   ·rw [if_pos h61]
    have hc:c=61:=by rw [hct] at h61;simpa using h61
    subst hc
    have ext:s.extract ((1:Int)).toNat (((s.size:Nat):Int)).toNat=BR s.toList.tail:=by
     conv=>lhs;rw [←qHy s]
     rw [qE0,qb,hct]
     simp
    obtain ⟨n2,h2⟩:=qJV (BR s.toList.tail) (by rw [qb,hct];simp;omega)
    obtain ⟨n3,h3⟩:=qPf (BR s.toList.tail)
    rw [←ext] at h2 h3⊢
    have fz:=qNS (qBO (s.extract ((1:Int)).toNat (((s.size:Nat):Int)).toNat)).1
    have w1:IntKind.i64.wrap (((qCp (qBO (s.extract ((1:Int)).toNat (((s.size:Nat):Int)).toNat)).1).size:Int)+1)=((qCp (qBO (s.extract ((1:Int)).toNat (((s.size:Nat):Int)).toNat)).1).size:Int)+1:=qZ (by omega)
    refine ⟨n1+n2+n3+1,fun n hn=>?_⟩
    obtain ⟨k,rfl,hm⟩:=up1 hn
    refine qA (h1 k (by omega)) (qO (qCo hp) (qO (qFy h0) (qE rfl (qA g1 (qE rfl (qE (decide_eq_true ⟨by decide,by omega,Int.le_refl _⟩) (qA (h2 k (by omega)) (qA (h3 k (by omega)) ?_))))))))
    by_cases hr:(qBO (s.extract ((1:Int)).toNat (((s.size:Nat):Int)).toNat)).2=true
    ·refine qO (qCo hr) ?_
     by_cases he:(qCp (qBO (s.extract ((1:Int)).toNat (((s.size:Nat):Int)).toNat)).1).toList= []
     ·rw [if_neg (fun h=>h.2.1 he)]
      exact qE (qNT he) rfl
     ·refine qO (qFy he) ?_
      by_cases hz:(qCp (qBO (s.extract ((1:Int)).toNat (((s.size:Nat):Int)).toNat)).1).size<200
      ·rw [if_pos ⟨hr,he,hz⟩]
       exact qO (decide_eq_false (by rw [w1];omega)) (qE (decide_eq_true (by show 1+(qCp (qBO (s.extract ((1:Int)).toNat (((s.size:Nat):Int)).toNat)).1).size≤9223372036854775807;omega)) rfl)
      ·rw [if_neg (fun h=>hz h.2.2)]
       exact qE (decide_eq_true (by rw [w1];omega)) rfl
    ·rw [if_neg (fun h=>hr h.1)]
     exact qE (qDM (by rw [Bool.eq_false_iff];exact hr)) rfl
   ·rw [if_neg h61]
    have hc:((c.toNat:Int)==61)=false:=by
     rw [beq_eq_false_iff_ne];intro e
     refine h61 ?_
     rw [hct,show c=61 from UInt8.toNat_inj.1 (show c.toNat=61 by omega)];rfl
    obtain ⟨r,r1,r2,n2,h2⟩:=qPM s.toList h0 (by rw [qAN];omega)
    rw [qHy] at h2
    obtain ⟨n3,h3⟩:=qGH s (by omega)
    cases hn:qEF s.toList with
    |true=>
     rw [if_pos rfl]
     have er:=r2 hn
     subst er
     have hok:okV 1 (qIx s.toList) em=true:=by unfold qEF at hn;simp only [Bool.and_eq_true] at hn;exact hn.2
     obtain ⟨n4,h4⟩:=qC4 1 (qIx s.toList) em (by decide)
     rw [if_pos hok] at h4
     refine ⟨n1+n2+n4+1,fun n hn=>?_⟩
     obtain ⟨k,rfl,hm⟩:=up1 hn
     exact qA (h1 k (by omega)) (qO (qCo hp) (qO (qFy h0) (qE rfl (qA g1 (qO hc (qA (h2 k (by omega)) (qE rfl (qA (h4 k (by omega)) rfl))))))))
    |false=>
     rw [if_neg (by simp)]
     have rf:r.2.2.2=false:=by rw [r1];exact hn
     by_cases hv:(qf s).2.2.2=true
     ·rw [if_pos hv]
      obtain ⟨v1,v2⟩:=qPN hv
      obtain ⟨n4,h4⟩:=qC4 (qf s).1 (qf s).2.1 (qf s).2.2.1 (by have:=qQI hv;omega)
      rw [if_pos v1,v2] at h4
      refine ⟨n1+n2+n3+n4+1,fun n hn=>?_⟩
      obtain ⟨k,rfl,hm⟩:=up1 hn
      exact qA (h1 k (by omega)) (qO (qCo hp) (qO (qFy h0) (qE rfl (qA g1 (qO hc (qA (h2 k (by omega)) (qO rf (qA (h3 k (by omega)) (qO (qCo hv) (qA (h4 k (by omega)) (qO (decide_eq_false (by omega)) rfl)))))))))))
     ·rw [if_neg hv]
      obtain ⟨n4,h4⟩:=qC4 2 0 s (by omega)
      rw [if_pos (qRy hp)] at h4
      have vz:=qQm s
      refine ⟨n1+n2+n3+n4+1,fun n hn=>?_⟩
      obtain ⟨k,rfl,hm⟩:=up1 hn
      refine qA (h1 k (by omega)) (qO (qCo hp) (qO (qFy h0) (qE rfl (qA g1 (qO hc (qA (h2 k (by omega)) (qO rf (qA (h3 k (by omega)) (qE (qDM (by rw [Bool.eq_false_iff];exact hv)) (qA (h4 k (by omega)) ?_))))))))))
      by_cases hz:s.size=200
      ·rw [if_pos hz]
       exact qE (decide_eq_true (by omega)) rfl
      ·rw [if_neg hz]
       exact qO (decide_eq_false (by omega)) rfl
theorem qPO (X:ByteArray):Ev (qEw · ((qBO X).1.map qa)) (⟨#[61]⟩++qCp (qBO X).1,decide ((qCp (qBO X).1).toList≠ [])&&decide ((qCp (qBO X).1).size<200)):=by
 obtain ⟨n1,h1⟩:=qPg X
 have fz:=qNS (qBO X).1
 refine ⟨n1+1,fun n hn=>?_⟩
 obtain ⟨k,rfl,hm⟩:=up1 hn
 refine qA (h1 k (by omega)) (qE (decide_eq_true (by show 1+(qCp (qBO X).1).size≤9223372036854775807;omega)) ?_)
 by_cases he:(qCp (qBO X).1).toList= []
 ·refine qO (qCo (qNT he)) ?_
  rw [qC,decide_eq_false (fun h=>h he),Bool.false_and]
 ·refine qE (qDM (qFy he)) ?_
  rw [qC,decide_eq_true he,Bool.true_and]
  have e:decide (((qCp (qBO X).1).size:Int)<200)=decide ((qCp (qBO X).1).size<200):=by rw [decide_eq_decide];omega
  exact congrArg (fun b:Bool=>some ((⟨#[61]⟩:ByteArray)++qCp (qBO X).1,b)) e
theorem qMP (s:ByteArray) (hb:s.size≤140737488355328):Ev (qFm · s) (qDV s):=by
 obtain ⟨n1,h1⟩:=qHt s 200 hb
 unfold qDV
 cases hp:qBv s 200 with
 |false=>
  rw [if_pos rfl]
  have h0:s.toList≠ []:=fun e=>by
   have:qBv s 200=true:=by
    unfold qBv
    have hz:s.size=0:=by rw [←qAN,e];rfl
    rw [e,hz];rfl
   rw [hp] at this;cases this
  refine ⟨n1+1,fun n hn=>?_⟩
  obtain ⟨k,rfl,hm⟩:=up1 hn
  refine qA (h1 k (by omega)) (qE (qDM hp) ?_)
  rw [qC,qFy h0]
 |true=>
  rw [if_neg (by simp)]
  have hsz:=qKG hp
  by_cases h0:s.toList= []
  ·rw [if_pos h0]
   refine ⟨n1+1,fun n hn=>?_⟩
   obtain ⟨k,rfl,hm⟩:=up1 hn
   refine qA (h1 k (by omega)) (qO (qCo hp) (qE (qNT h0) ?_))
   rw [qC,qNT h0]
  ·rw [if_neg h0]
   obtain ⟨n2,h2⟩:=qFA s 61
   by_cases h61:s.toList.head?=some 61
   ·rw [if_pos h61]
    rw [if_pos h61] at h2
    obtain ⟨n3,h3⟩:=qJU (BR s.toList.tail) (by rw [qb,List.length_tail,qAN];omega)
    obtain ⟨n4,h4⟩:=qPO (BR s.toList.tail)
    change ∀n,n2≤n→qAB n s ⟨#[61]⟩=some (BR s.toList.tail,true) at h2
    generalize BR s.toList.tail=X at h2 h3 h4⊢
    refine ⟨n1+n2+n3+n4+1,fun n hn=>?_⟩
    obtain ⟨k,rfl,hm⟩:=up1 hn
    have h4:=h4 k (by omega)
    refine qA (h1 k (by omega)) (qO (qCo hp) (qO (qFy h0) (qA (h2 k (by omega)) (qE rfl (qA (h3 k (by omega)) (qA h4 ?_))))))
    by_cases hr:(qBO X).2=true
    ·refine qO (qCo hr) ?_
     by_cases he:(qCp (qBO X).1).toList≠ []∧(qCp (qBO X).1).size<200
     ·rw [if_pos ⟨hr,he⟩]
      exact qO (qCo (by simp only;rw [decide_eq_true he.1,decide_eq_true he.2];rfl)) rfl
     ·rw [if_neg (fun h=>he h.2)]
      exact qE (qDM (by simp only;rw [Bool.eq_false_iff];intro e;simp only [Bool.and_eq_true,decide_eq_true_eq] at e;exact he e)) rfl
    ·rw [if_neg (fun h=>hr h.1)]
     exact qE (qDM (by rw [Bool.eq_false_iff];exact hr)) rfl
   ·rw [if_neg h61]
    rw [if_neg h61] at h2
    obtain ⟨n3,h3⟩:=qGG s (by omega)
    obtain ⟨n4,h4⟩:=qPJ s.toList (by rw [qAN];omega)
    rw [qHy] at h4
    have fin:∀k,n3≤k→(Tr.opt (qd k s) fun r=>(.ask (r.2.2.2) (.done (s,true)) (.ask (((s.size:Int)==(200:Int))) (.done ((⟨#[]⟩:ByteArray),false)) (.ask (decide ((⟨#[39]⟩:ByteArray).size+s.size≤9223372036854775807)) (.done (((⟨#[39]⟩:ByteArray)++s),true)) .fail)))).run=some (if (qf s).2.2.2=true then (s,true) else if s.size=200 then ((⟨#[]⟩:ByteArray),false) else (⟨#[39]⟩++s,true)):=fun k hk=>by
     refine qA (h3 k hk) ?_
     by_cases hv:(qf s).2.2.2=true
     ·rw [if_pos hv];exact qE hv rfl
     ·rw [if_neg hv]
      refine qO (by rw [Bool.eq_false_iff];exact hv) ?_
      by_cases hz:s.size=200
      ·rw [if_pos hz];exact qE (beq_iff_eq.2 (by omega)) rfl
      ·rw [if_neg hz]
       exact qO (beq_eq_false_iff_ne.2 (by omega)) (qE (decide_eq_true (by show 1+s.size≤9223372036854775807;omega)) rfl)
    have hpi:∀k,qAo (k+1) s 10 64=zK s 10 64:=fun k=>rfl
    have hL:zK s 10 64=(match Lib.parseIntB 64 s.toList with
     | .ok v=>some (.inl v)
     | .range=>some (.inr (Lib.intSat 64 s.toList))
     |_=>some (.inr 0)):=by
     unfold zK
     rw [if_pos ⟨rfl,rfl,by omega⟩,Go.Lib.toList_data]
     cases Lib.parseIntB 64 s.data.toList<;>rfl
    rcases hq:Lib.parseIntB 64 s.toList with v|_|_
    rotate_left
    ·have hn:qEF s.toList=false:=by
      rw [Bool.eq_false_iff];intro e
      have hd:qNv s.toList=true:=by unfold qEF at e;simp only [Bool.and_eq_true] at e;exact e.1
      have:=(qLg hd).2 e
      rw [hq] at this;cases this
     rw [hn,if_neg (by simp)]
     rw [hq] at hL
     refine ⟨n1+n2+n3+2,fun n hn=>?_⟩
     obtain ⟨k,rfl,hm⟩:=up1 hn
     obtain ⟨k,rfl,hm⟩:=up1 (show n1+n2+n3+1≤k by omega)
     exact qA (h1 (k+1) (by omega)) (qO (qCo hp) (qO (qFy h0) (qA (h2 (k+1) (by omega)) (qO rfl (qA ((hpi k).trans hL) (qO rfl (fin (k+1) (by omega))))))))
    ·have hn:qEF s.toList=false:=by
      rw [Bool.eq_false_iff];intro e
      have hd:qNv s.toList=true:=by unfold qEF at e;simp only [Bool.and_eq_true] at e;exact e.1
      have:=(qLg hd).2 e
      rw [hq] at this;cases this
     rw [hn,if_neg (by simp)]
     rw [hq] at hL
     refine ⟨n1+n2+n3+2,fun n hn=>?_⟩
     obtain ⟨k,rfl,hm⟩:=up1 hn
     obtain ⟨k,rfl,hm⟩:=up1 (show n1+n2+n3+1≤k by omega)
     exact qA (h1 (k+1) (by omega)) (qO (qCo hp) (qO (qFy h0) (qA (h2 (k+1) (by omega)) (qO rfl (qA ((hpi k).trans hL) (qO rfl (fin (k+1) (by omega))))))))
    ·rw [hq] at hL
     cases hd:qNv s.toList with
     |false=>
      have hn:qEF s.toList=false:=by unfold qEF;rw [hd];rfl
      rw [hn,if_neg (by simp)]
      refine ⟨n1+n2+n3+n4+2,fun n hn=>?_⟩
      obtain ⟨k,rfl,hm⟩:=up1 hn
      obtain ⟨k,rfl,hm⟩:=up1 (show n1+n2+n3+n4+1≤k by omega)
      have h4:=h4 (k+1) (by omega)
      rw [hd] at h4
      exact qA (h1 (k+1) (by omega)) (qO (qCo hp) (qO (qFy h0) (qA (h2 (k+1) (by omega)) (qO rfl (qA ((hpi k).trans hL) (qE rfl (qA h4 (qO rfl (fin (k+1) (by omega))))))))))
     |true=>
      have hv:=(qLg hd).1 v hq
      subst hv
      obtain ⟨n5,h5⟩:=qIj (qIx s.toList)
      obtain ⟨n6,h6⟩:=qEx 1 (qIx s.toList) em (by decide)
      have ei:qEF s.toList=okV 1 (qIx s.toList) em:=by unfold qEF;rw [hd,Bool.true_and]
      rw [ei]
      cases ho:okV 1 (qIx s.toList) em with
      |true=>
       rw [if_pos rfl]
       have hb2:=qRX.1 ho
       obtain ⟨n7,h7⟩:=qEz (qIx s.toList) (by omega)
       refine ⟨n1+n2+n3+n4+n5+n6+n7+2,fun n hn=>?_⟩
       obtain ⟨k,rfl,hm⟩:=up1 hn
       obtain ⟨k,rfl,hm⟩:=up1 (show n1+n2+n3+n4+n5+n6+n7+1≤k by omega)
       have h4:=h4 (k+1) (by omega)
       rw [hd] at h4
       exact qA (h1 (k+1) (by omega)) (qO (qCo hp) (qO (qFy h0) (qA (h2 (k+1) (by omega)) (qO rfl (qA ((hpi k).trans hL) (qE rfl (qA h4 (qE rfl (qA (h5 (k+1) (by omega)) (qA (h6 (k+1) (by omega)) (qE ho (qA (h7 (k+1) (by omega)) rfl))))))))))))
      |false=>
       rw [if_neg (by simp)]
       refine ⟨n1+n2+n3+n4+n5+n6+2,fun n hn=>?_⟩
       obtain ⟨k,rfl,hm⟩:=up1 hn
       obtain ⟨k,rfl,hm⟩:=up1 (show n1+n2+n3+n4+n5+n6+1≤k by omega)
       have h4:=h4 (k+1) (by omega)
       rw [hd] at h4
       exact qA (h1 (k+1) (by omega)) (qO (qCo hp) (qO (qFy h0) (qA (h2 (k+1) (by omega)) (qO rfl (qA ((hpi k).trans hL) (qE rfl (qA h4 (qE rfl (qA (h5 (k+1) (by omega)) (qA (h6 (k+1) (by omega)) (qO ho (fin (k+1) (by omega)))))))))))))
abbrev Cl:=Int×Int×ByteArray
def qQJ (s:ByteArray):Bool:=(qDV s).2&&(decide (s.toList≠ [])&&((qDV s).1.toList==s.toList))
theorem qLp (s:ByteArray) (hb:s.size≤140737488355328):Ev (qCy · s) (qQJ s):=by
 obtain ⟨n1,h1⟩:=qMP s hb
 refine ⟨n1+1,fun n hn=>?_⟩
 obtain ⟨k,rfl,hm⟩:=up1 hn
 refine qA (h1 k (by omega)) ?_
 unfold qQJ
 by_cases h2:(qDV s).2=true
 ·refine qE h2 ?_
  rw [h2,Bool.true_and]
  by_cases h3:s.toList= []
  ·refine qO (qCo (qNT h3)) ?_
   rw [qC,decide_eq_false (fun e=>e h3),Bool.false_and]
  ·refine qE (qDM (qFy h3)) ?_
   rw [qC,decide_eq_true h3,Bool.true_and]
 ·have h2:(qDV s).2=false:=by rw [Bool.eq_false_iff];exact h2
  refine qO h2 ?_
  rw [qC,h2,Bool.false_and]
structure SrcAt (n:Nat) (c:Cl):Prop where
 r1:qx n c.1 c.2.1=some (qA0 c.1 c.2.1)
 r2:qBK n c.1 c.2.1=some (qA0 c.1 c.2.1)
 i1:qCj n c.2.2=some (qDV c.2.2)
 i2:qCy n c.2.2=some (qQJ c.2.2)
def Fo (r:List UInt8):Prop:=∀c,r.head?=some c→c∈([38,43,45,42,47,60,61,62,41,44]:List UInt8)
def Sta (r:List UInt8):Prop:=∃c,r.head?=some c∧(wch c=true∨c=45∨c=40∨c=34∨c=35)
theorem qRa (a b:ByteArray):(a++b).toList=a.toList++b.toList:=by rw [Go.Lib.toList_data,qC3,Go.Lib.toList_data,Go.Lib.toList_data]
def lo (l:List Nd) (i:Int):Int:=qCX (qT l) (i.toNat+1) i
def tx (l:List Nd) (g:Nat) (i t:Int):List UInt8:=(qp l g i t).toList
structure RT (l:List Nd) (g:Nat) (i:Int):Prop where
 s:∀t,Sta (tx l g i t)
 c:∀(t:Int) (r:List UInt8),Fo r→∀d:UInt8,(d=58∨d=32)→(wr (tx l g i t++r)).head?≠some d
 u:∀(r:List UInt8) (deep:Int) (f:Nat),Fo r→0≤deep→deep+g≤400→20*(tx l g i 5++r).length+4≤f→pP f (.un deep) (tx l g i 5++r,false,l.take (lo l i).toNat)=(i,r,false,l.take (i.toNat+1))
 b:∀(t t':Int) (r:List UInt8) (deep:Int) (f:Nat),1≤t→t≤t'→t'≤5→Fo r→(qAk r=0∨lvl (qAk r)≤t')→0≤deep→deep+g≤400→20*(tx l g i t'++r).length+6≤f→
  ∃f2,20*r.length+5≤f2∧pP f (.bin t deep) (tx l g i t'++r,false,l.take (lo l i).toNat)=pP f2 (.loop t deep i) (r,false,l.take (i.toNat+1))
def Dwx {β:Type} (Q:β→Prop) (R:Nat→Tr β):Prop:=∃x,Q x∧Ev (fun n=>(R n).run) x
theorem qEo {α β:Type} {Q:β→Prop} {F:Nat→Option α} {r:α} {K:Nat→α→Tr β} (h:Ev F r) (hk:Dwx Q fun n=>K n r):Dwx Q fun n=> .opt (F n) (K n):=by
 obtain ⟨x,q,n1,h1⟩:=hk
 obtain ⟨n0,h0⟩:=h
 exact ⟨x,q,n0+n1,fun n hn=>qA (h0 n (by omega)) (h1 n (by omega))⟩
theorem qEp {β:Type} {Q:β→Prop} {b:Bool} {t e:Nat→Tr β} (h:b=true) (hk:Dwx Q t):Dwx Q fun n=> .ask b (t n) (e n):=by
 obtain ⟨x,q,n1,h1⟩:=hk
 exact ⟨x,q,n1,fun n hn=>qE h (h1 n hn)⟩
theorem qIy {β:Type} {Q:β→Prop} {b:Bool} {t e:Nat→Tr β} (h:b=false) (hk:Dwx Q e):Dwx Q fun n=> .ask b (t n) (e n):=by
 obtain ⟨x,q,n1,h1⟩:=hk
 exact ⟨x,q,n1,fun n hn=>qO h (h1 n hn)⟩
theorem qBl {β:Type} {Q:β→Prop} {x:β} (h:Q x):Dwx Q fun _=> .done x:=⟨x,h,0,fun _ _=>rfl⟩
theorem qNU {β:Type} {Q:β→Prop} {F:Nat→Option β} {R:Nat→Tr β} (h:Dwx Q R) (hF:∀n,F (n+1)=(R n).run):∃x,Q x∧Ev F x:=by
 obtain ⟨x,q,n1,h1⟩:=h
 refine ⟨x,q,n1+1,fun n hn=>?_⟩
 obtain ⟨m,rfl,hm⟩:=up1 hn
 rw [hF]
 exact h1 m hm
theorem qPP {β:Type} {F:Nat→Option β} {x:β} (h:∃y,y=x∧Ev F y):Ev F x:=by
 obtain ⟨y,rfl,h⟩:=h
 exact h
theorem qQn {s:ByteArray} (h:s.toList.all okc=true) (h2:s.size≤200):qBv s 200=true:=by
 unfold qBv
 rw [h,Bool.true_and,decide_eq_true_eq]
 omega
def qON {α R:Type} (f:Nat→α→Option R):Nat→List α→Option R
 |_,[]=>none
 |i,a::r=>match f i a with
  |some x=>some x
  |none=>qON f (i+1) r
theorem qRr {V R α:Type} {B:V→Tr (V⊕R)} (st:Nat→V) (l:List α) (f:Nat→α→Option R) (z:R) (hs:∀i a,l[i]?=some a→(B (st i)).run=some (match f i a with|some r=> .inr r|none=> .inl (st (i+1))))
  (he:(B (st l.length)).run=some (.inr z)):∀(M:Nat),l.length+1≤M→zC B M (st 0)=some ((qON f 0 l).getD z):=by
 have key:∀(r:List α) (i M:Nat),l.drop i=r→i+r.length=l.length→r.length+1≤M→zC B M (st i)=some ((qON f i r).getD z):=by
  intro r
  induction r with
  |nil=>
   intro i M h1 h2 h3
   obtain ⟨M,rfl⟩:∃q,M=q+1:=⟨M-1,by omega⟩
   have e:i=l.length:=by simpa using h2
   subst e
   rw [qP he]
   rfl
  |cons a r ih=>
   intro i M h1 h2 h3
   obtain ⟨M,rfl⟩:∃q,M=q+1:=⟨M-1,by omega⟩
   have hg:l[i]?=some a:=by rw [←List.head?_drop,h1];rfl
   have hd:l.drop (i+1)=r:=by rw [←List.tail_drop,h1];rfl
   have h4:=hs i a hg
   simp only [List.length_cons] at h2 h3
   unfold qON
   cases hf:f i a with
   |some x=>rw [hf] at h4;rw [qP h4];rfl
   |none=>rw [hf] at h4;rw [qW h4];exact ih (i+1) M hd (by omega) (by omega)
 exact fun M h=>key l 0 M rfl (by omega) h
def qI9 {α:Type} (p:Nat→α→Bool):Nat→List α→Bool
 |_,[]=>true
 |i,a::r=>p i a&&qI9 p (i+1) r
theorem qNV {α R:Type} {p:Nat→α→Bool} {e:R}:∀{l:List α} {i:Nat},qON (fun i a=>if p i a=true then none else some e) i l=if qI9 p i l=true then none else some e
 | [],i=>rfl
 |a::r,i=>by
  unfold qON qI9
  cases p i a with
  |true=>simp only [if_true,Bool.true_and];exact qNV
  |false=>rfl
theorem qQo {i:Nat} {k:Int} {l:List (List PV)} {e:List PV} (hk:k=(i:Int)) (h:l[i]?=some e):decide (0≤k∧k<l.length)=true∧l[k.toNat]?=some e:=by
 subst hk
 have:=(List.getElem?_eq_some_iff.1 h).1
 exact ⟨decide_eq_true (by omega),by rw [Int.toNat_natCast];exact h⟩
theorem qRs {F:Nat→Option Int} {T:Nat→Tr Bool} (h:∃N,∀n,N≤n→∃r,F n=some r) (hk:Dwx (· =true) T):Dwx (· =true) fun n=> .opt (F n) fun r=> .ask (decide (r<0)) (.done true) (T n):=by
 obtain ⟨x,rfl,n1,h1⟩:=hk
 obtain ⟨n0,h0⟩:=h
 refine ⟨true,rfl,n0+n1,fun n hn=>?_⟩
 obtain ⟨r,hr⟩:=h0 n (by omega)
 refine qA hr ?_
 by_cases h2:r<0
 ·exact qE (decide_eq_true h2) rfl
 ·exact qO (decide_eq_false h2) (h1 n (by omega))
abbrev Sm:=Int×Int×Int×ByteArray×Int
def qBs (c:Sm):List PV:= [.i .i64 c.1,.i .i64 c.2.1,.i .i64 c.2.2.1,.s c.2.2.2.1,.i .i64 c.2.2.2.2]
theorem qRB {rows:List (List PV)} (h:∀e∈rows,okR [.i .i64,.i .i64,.i .i64,.s,.i .i64] e):∃l:List Sm,rows=l.map qBs∧∀c∈l,c.2.2.2.1.size≤140737488351232:=by
 refine qOu (enc:=qBs) (P:=fun c=>c.2.2.2.1.size≤140737488351232) (fun e he=>?_) h
 obtain ⟨a,r1,rfl,p1,g1⟩:=zBL he
 obtain ⟨b,r2,rfl,p2,g2⟩:=zBL g1
 obtain ⟨c,r3,rfl,p3,g3⟩:=zBL g2
 obtain ⟨d,r4,rfl,p4,g4⟩:=zBL g3
 obtain ⟨f,r5,rfl,p5,g5⟩:=zBL g4
 obtain rfl:=zHA g5
 obtain ⟨x1,rfl,_⟩:=zHB p1
 obtain ⟨x2,rfl,_⟩:=zHB p2
 obtain ⟨x3,rfl,_⟩:=zHB p3
 obtain ⟨x4,rfl,w4⟩:=zKe p4
 obtain ⟨x5,rfl,_⟩:=zHB p5
 exact ⟨(x1,x2,x3,x4,x5),rfl,w4⟩
theorem qPh {l:List Sm} {i:Nat} {e:List PV} (h:(l.map qBs)[i]?=some e):∃c,l[i]?=some c∧e=qBs c:=by
 rw [List.getElem?_map] at h
 obtain ⟨c,hc,rfl⟩:=Option.map_eq_some_iff.1 h
 exact ⟨c,hc,rfl⟩
def qNw (s:ByteArray):Bool:=(qDV s).2&&((qDV s).1.toList==s.toList)
def wrS (s:ByteArray):Bool:=qNw (⟨#[61]⟩++s)
def inZ (x lo hi:Int):Bool:=decide (lo≤x∧x≤hi)
def stB (n:Nat) (i:Nat) (c:Sm):Bool:=
 if c.1=1 then qA0 c.2.1 c.2.2.1&&(wrS c.2.2.2.1&&c.2.2.2.2==0) else
 if c.1=2 then qA0 c.2.1 c.2.2.1&&(qNw c.2.2.2.1&&c.2.2.2.2==0) else
 if c.1=3 then (c.2.1==0&&c.2.2.1==0)&&(wrS c.2.2.2.1&&inZ c.2.2.2.2 1 ((n:Int)-1-(i:Int))) else
 if c.1=4 then (c.2.1==0&&c.2.2.1==0)&&(wrS c.2.2.2.1&&inZ c.2.2.2.2 1 (i:Int)) else
 if c.1=5 then (c.2.1==0&&c.2.2.1==0)&&(wrS c.2.2.2.1&&c.2.2.2.2==0) else false
def qNW (l:List Sm):Bool:=qI9 (stB l.length) 0 l&&decide ((l.length:Int)≤30)
theorem qRt (s:ByteArray):(⟨#[61]⟩++s:ByteArray).toList≠ []:=by
 have e:(⟨#[61]⟩:ByteArray).toList= [61]:=by decide+kernel
 rw [qRa,e]
 exact List.cons_ne_nil _ _
theorem qPQ {s:ByteArray} (hb:s.size≤140737488351232):(⟨#[61]⟩++s:ByteArray).size≤140737488355328∧decide ((⟨#[61]⟩:ByteArray).size+s.size≤9223372036854775807)=true:=by
 have e:(⟨#[61]⟩:ByteArray).size=1:=rfl
 rw [ByteArray.size_append,e]
 exact ⟨by omega,decide_eq_true (by omega)⟩
theorem qOr (s:ByteArray) (hb:s.size≤140737488351232):Ev (qB1 · s) (wrS s):=by
 refine qPP (qNU (R:=fun n=>qEO n s) (qEp (qPQ hb).2 (qEo (qLp _ (qPQ hb).1) (qBl ?_))) fun n=>rfl)
 unfold qQJ wrS qNw
 rw [decide_eq_true (qRt s),Bool.true_and]
theorem qNx (s:ByteArray) (hb:s.size≤140737488351232):Ev (qBJ · s) (wrS s):=by
 refine qPP (qNU (R:=fun n=>qDz n s) (qEp (qPQ hb).2 (qEo (qHz _ (qPQ hb).1) ?_)) fun n=>rfl)
 unfold wrS qNw
 cases h:(qDV (⟨#[61]⟩++s)).2 with
 |true=>exact qEp rfl (qEp (qPQ hb).2 (qBl rfl))
 |false=>exact qIy rfl (qBl rfl)
theorem qLq (x a b:Int):Ev (qAC · x a b) (inZ x a b):=by
 have h:=qAE x a b
 have e:inZ x a b=decide (a≤x∧x≤b):=rfl
 rw [e]
 exact h
theorem qLr (x a b:Int):Ev (qAY · x a b) (inZ x a b):=by
 have h:=qBu x a b
 have e:inZ x a b=decide (a≤x∧x≤b):=rfl
 rw [e]
 exact h
theorem nb {a b:Int} (h:¬a=b):(a==b)=false:=beq_eq_false_iff_ne.2 h
theorem qQK (n:Nat) (c:Sm) (i:Nat) (hb:c.2.2.2.1.size≤140737488351232):Ev (qCv · c.1 c.2.1 c.2.2.1 c.2.2.2.1 c.2.2.2.2 (i:Int) ((n:Int)-1-(i:Int))) (stB n i c):=by
 obtain ⟨k,a,b,s,m⟩:=c
 refine qPP (qNU (R:=fun q=>qDl q k a b s m (i:Int) ((n:Int)-1-(i:Int))) ?_ fun q=>rfl)
 unfold stB
 dsimp only
 have w:=qOr s hb
 by_cases k1:k=1
 ·subst k1
  refine qEp rfl (qEo (qCW a b) ?_)
  rw [if_pos rfl]
  cases qA0 a b with
  |false=>exact qIy rfl (qBl rfl)
  |true=>
   refine qEp rfl (qEo w ?_)
   cases wrS s with
   |false=>exact qIy rfl (qBl rfl)
   |true=>exact qEp rfl (qBl rfl)
 rw [if_neg k1]
 refine qIy (nb k1) ?_
 by_cases k2:k=2
 ·subst k2
  refine qEp rfl (qEo (qCW a b) ?_)
  rw [if_pos rfl]
  cases qA0 a b with
  |false=>exact qIy rfl (qBl rfl)
  |true=>
   refine qEp rfl ?_
   by_cases hs:s.toList= []
   ·refine qEp (qNT hs) (qBl ?_)
    have e:qNw s=true:=by
     unfold qNw qDV
     have hp:qBv s 200=true:=qQn (by rw [hs];rfl) (by have:=qAN s;rw [hs] at this;simp at this;omega)
     rw [if_neg (by rw [hp];simp),if_pos hs,hs]
     show (true&&((⟨#[]⟩:ByteArray).toList== []))=true
     rw [q8]
     rfl
    rw [e]
    simp
   ·refine qIy (qFy hs) (qEo (qLp s (by have:s.size≤140737488351232:=hb;omega)) ?_)
    have e:qQJ s=qNw s:=by unfold qQJ qNw;rw [decide_eq_true hs,Bool.true_and]
    rw [e]
    cases qNw s with
    |false=>exact qIy rfl (qBl rfl)
    |true=>exact qEp rfl (qBl rfl)
 rw [if_neg k2]
 refine qIy (nb k2) ?_
 have zz:∀{X:Bool} {t:Nat→Tr Bool},Dwx (fun y=>y=X) t→Dwx (fun y=>y=((a==0&&b==0)&&X)) fun q=> .ask ((a==(0:Int))&&((b==(0:Int))&&true)) (t q) (.done false):=fun {X t} h=>by
  rw [Bool.and_true]
  cases a==0&&b==0 with
  |false=>exact qIy rfl (qBl rfl)
  |true=>exact qEp rfl (by simpa using h)
 by_cases k3:k=3
 ·subst k3
  rw [if_pos rfl]
  refine qEp rfl (zz (qEo w ?_))
  cases wrS s with
  |false=>exact qIy rfl (qBl rfl)
  |true=>exact qEp rfl (qEo (qLq m 1 _) (qBl rfl))
 rw [if_neg k3]
 refine qIy (nb k3) ?_
 by_cases k4:k=4
 ·subst k4
  rw [if_pos rfl]
  refine qEp rfl (zz (qEo w ?_))
  cases wrS s with
  |false=>exact qIy rfl (qBl rfl)
  |true=>exact qEp rfl (qEo (qLq m 1 _) (qBl rfl))
 rw [if_neg k4]
 refine qIy (nb k4) ?_
 by_cases k5:k=5
 ·subst k5
  rw [if_pos rfl]
  refine qEp rfl (zz (qEo w ?_))
  cases wrS s with
  |false=>exact qIy rfl (qBl rfl)
  |true=>exact qEp rfl (qBl rfl)
 rw [if_neg k5]
 exact qIy (nb k5) (qBl rfl)
theorem qP4 {α R:Type} {F:Nat→α→Nat→Option R} {f:Nat→α→R}:∀(l:List α) (i:Nat),(∀i,∀c∈l,Ev (F i c) (f i c))→∃n0,∀n,n0≤n→∀j c,l[j]?=some c→F (i+j) c n=some (f (i+j) c)
 | [],i,_=>⟨0,fun n _ j c hc=>by simp at hc⟩
 |a::l,i,h=>by
  obtain ⟨n1,h1⟩:=h i a (List.mem_cons_self ..)
  obtain ⟨n2,h2⟩:=qP4 l (i+1) fun i c hc=>h i c (List.mem_cons_of_mem _ hc)
  refine ⟨n1+n2,fun n hn j c hc=>?_⟩
  cases j with
  |zero=>simp at hc;subst hc;exact h1 n (by omega)
  |succ j=>have:=h2 n (by omega) j c (by simpa using hc);rw [show i+(j+1)=i+1+j by omega];exact this
theorem qMQ (l:List Sm) (hb:l.length≤140737488351232) (hs:∀c∈l,c.2.2.2.1.size≤140737488351232):Ev (qFn · (l.map qBs)) (qNW l):=by
 obtain ⟨n0,h0⟩:=qP4 (F:=fun i (c:Sm) n=>qCv n c.1 c.2.1 c.2.2.1 c.2.2.2.1 c.2.2.2.2 (i:Int) ((l.length:Int)-1-(i:Int))) (f:=stB l.length) l 0 fun i c hc=>qQK l.length c i (hs c hc)
 refine ⟨n0+l.length+3,fun n hn=>?_⟩
 obtain ⟨m,rfl,hm⟩:=up1 hn
 have h:=qRr (B:=qD8 m) (fun i=>(l.map qBs,l.map qBs,((l.map qBs).length:Int),(i:Int))) l (fun i c=>if stB l.length i c=true then none else some (.inl false)) (.inr (l.map qBs))
  (fun i c he=>by
   have hi:=(List.getElem?_eq_some_iff.1 he).1
   have hg:(l.map qBs)[i]?=some (qBs c):=by rw [List.getElem?_map,he];rfl
   obtain ⟨a1,a2⟩:=qQo rfl hg
   have h1:=h0 m (by omega) i c he
   rw [Nat.zero_add] at h1
   have w1:IntKind.i64.wrap (IntKind.i64.wrap (((l.map qBs).length:Int)-1)-(i:Int))=(l.length:Int)-1-(i:Int):=by
    rw [List.length_map,qZ (x:=(l.length:Int)-1) (by omega),qZ (by omega)]
   refine qE (decide_eq_true (by simpa using hi)) (qE a1 (qA a2 (qE rfl (qA rfl (qA rfl (qA rfl (qA rfl (qA rfl ?_))))))))
   rw [w1]
   refine qA h1 ?_
   cases stB l.length i c with
   |true=>refine qO rfl ?_;dsimp only;rw [qZ (by omega)];rfl
   |false=>exact qE rfl rfl)
  (qO (decide_eq_false (by simp)) rfl) m (by omega)
 refine qA h ?_
 rw [qNV]
 unfold qNW
 cases qI9 (stB l.length) 0 l with
 |true=>simp [qC,qD,qG,qH,qJ,qK,Option.bind_some,qF,qM,qN]
 |false=>rfl
theorem qMR (l:List Sm) (hb:l.length≤140737488351232) (hs:∀c∈l,c.2.2.2.1.size≤140737488351232):Ev (qFU · (l.map qBs)) (qNW l):=by
 by_cases h30:(l.length:Int)>30
 ·refine qPP (qNU (R:=fun q=>qFT q (l.map qBs)) (qEp (decide_eq_true (by simpa using h30)) (qBl ?_)) fun q=>rfl)
  unfold qNW
  rw [decide_eq_false (by omega),Bool.and_false]
 obtain ⟨n1,h1⟩:=qBj (F:=fun (c:Sm) n=>qx n c.2.1 c.2.2.1) (f:=fun c=>qA0 c.2.1 c.2.2.1) l fun c hc=>qCV c.2.1 c.2.2.1
 obtain ⟨n2,h2⟩:=qBj (F:=fun (c:Sm) n=>qBJ n c.2.2.2.1) (f:=fun c=>wrS c.2.2.2.1) l fun c hc=>qNx c.2.2.2.1 (hs c hc)
 obtain ⟨n3,h3⟩:=qBj (F:=fun (c:Sm) n=>qCj n c.2.2.2.1) (f:=fun c=>qDV c.2.2.2.1) l fun c hc=>qHz c.2.2.2.1 (by have:=hs c hc;omega)
 obtain ⟨n4,h4⟩:=qP4 (F:=fun i (c:Sm) n=>qAY n c.2.2.2.2 1 ((l.length:Int)-1-(i:Int))) (f:=fun i c=>inZ c.2.2.2.2 1 ((l.length:Int)-1-(i:Int))) l 0 fun i c hc=>qLr c.2.2.2.2 1 ((l.length:Int)-1-(i:Int))
 obtain ⟨n5,h5⟩:=qP4 (F:=fun i (c:Sm) n=>qAY n c.2.2.2.2 1 (i:Int)) (f:=fun i c=>inZ c.2.2.2.2 1 (i:Int)) l 0 fun i c hc=>qLr c.2.2.2.2 1 (i:Int)
 refine ⟨n1+n2+n3+n4+n5+l.length+3,fun n hn=>?_⟩
 obtain ⟨m,rfl,hm⟩:=up1 hn
 have h:=qRr (B:=qD0 m) (fun i=>(l.map qBs,(i:Int))) l (fun i c=>if stB l.length i c=true then none else some (.inl false)) (.inr ())
  (fun i c he=>by
   have hi:=(List.getElem?_eq_some_iff.1 he).1
   have hmem:=List.mem_of_getElem? he
   have hg:(l.map qBs)[i]?=some (qBs c):=by rw [List.getElem?_map,he];rfl
   obtain ⟨a1,a2⟩:=qQo rfl hg
   have h1:=h1 m (by omega) c hmem
   have h2:=h2 m (by omega) c hmem
   have h3:=h3 m (by omega) c hmem
   have h4:=h4 m (by omega) i c he
   have h5:=h5 m (by omega) i c he
   rw [Nat.zero_add] at h4 h5
   obtain ⟨k,a,b,s,q⟩:=c
   dsimp only at h1 h2 h3 h4 h5
   have w1:IntKind.i64.wrap (IntKind.i64.wrap (((l.map qBs).length:Int)-1)-(i:Int))=(l.length:Int)-1-(i:Int):=by
    rw [List.length_map,qZ (x:=(l.length:Int)-1) (by omega),qZ (by omega)]
   have w2:IntKind.i64.wrap ((i:Int)+1)=((i+1:Nat):Int):=by rw [qZ (by omega)];omega
   refine qE (decide_eq_true (by simpa using hi)) (qE a1 (qA a2 (qE rfl (qA rfl (qA rfl (qA rfl (qA rfl (qA rfl ?_))))))))
   dsimp only
   rw [w1,w2]
   unfold stB
   dsimp only
   by_cases k1:k=1
   ·subst k1
    refine qE rfl (qA h1 ?_)
    rw [if_pos rfl]
    cases qA0 a b with
    |false=>exact qE rfl rfl
    |true=>
     refine qO rfl ?_
     by_cases q0:q=0
     ·subst q0
      refine qO rfl (qA h2 ?_)
      cases wrS s with
      |false=>exact qE rfl rfl
      |true=>exact qO rfl rfl
     ·refine qE (bne_iff_ne.2 q0) ?_
      rw [nb q0,Bool.and_false,Bool.and_false]
      rfl
   rw [if_neg k1]
   refine qO (nb k1) ?_
   by_cases k2:k=2
   ·subst k2
    refine qE rfl (qA h3 (qA h1 ?_))
    rw [if_pos rfl]
    cases qA0 a b with
    |false=>exact qE rfl rfl
    |true=>
     refine qO rfl ?_
     by_cases q0:q=0
     ·subst q0
      refine qO rfl ?_
      unfold qNw
      cases hq:(qDV s).2 with
      |false=>exact qE rfl rfl
      |true=>
       refine qO rfl ?_
       cases hq2:(qDV s).1.toList==s.toList with
       |false=>exact qE rfl rfl
       |true=>exact qO rfl rfl
     ·refine qE (bne_iff_ne.2 q0) ?_
      rw [nb q0,Bool.and_false,Bool.and_false]
      rfl
   rw [if_neg k2]
   refine qO (nb k2) ?_
   rw [Bool.and_true]
   by_cases k3:k=3
   ·subst k3
    rw [if_pos rfl]
    refine qE rfl ?_
    cases a==0&&b==0 with
    |false=>exact qE rfl rfl
    |true=>
     refine qO rfl (qA h4 ?_)
     cases inZ q 1 ((l.length:Int)-1-(i:Int)) with
     |false=>refine qE rfl ?_;rw [Bool.and_false,Bool.and_false];rfl
     |true=>
      refine qO rfl (qA h2 ?_)
      cases wrS s with
      |false=>exact qE rfl rfl
      |true=>exact qO rfl rfl
   rw [if_neg k3]
   refine qO (nb k3) ?_
   by_cases k4:k=4
   ·subst k4
    rw [if_pos rfl]
    refine qE rfl ?_
    cases a==0&&b==0 with
    |false=>exact qE rfl rfl
    |true=>
     refine qO rfl (qA h5 ?_)
     cases inZ q 1 (i:Int) with
     |false=>refine qE rfl ?_;rw [Bool.and_false,Bool.and_false];rfl
     |true=>
      refine qO rfl (qA h2 ?_)
      cases wrS s with
      |false=>exact qE rfl rfl
      |true=>exact qO rfl rfl
   rw [if_neg k4]
   refine qO (nb k4) ?_
   by_cases k5:k=5
   ·subst k5
    rw [if_pos rfl]
    refine qE rfl ?_
    cases a==0&&b==0 with
    |false=>exact qE rfl rfl
    |true=>
     refine qO rfl ?_
     by_cases q0:q=0
     ·subst q0
      refine qO rfl (qA h2 ?_)
      cases wrS s with
      |false=>exact qE rfl rfl
      |true=>exact qO rfl rfl
     ·refine qE (bne_iff_ne.2 q0) ?_
      rw [nb q0,Bool.and_false,Bool.and_false]
      rfl
   rw [if_neg k5]
   exact qO (nb k5) rfl)
  (qO (decide_eq_false (by simp)) rfl) m (by omega)
 refine qO (decide_eq_false (by simpa using h30)) (qA h ?_)
 rw [qNV]
 unfold qNW
 rw [decide_eq_true (by omega),Bool.and_true]
 cases qI9 (stB l.length) 0 l<;>rfl
theorem qMS (l:List Sm) (hb:l.length≤140737488351232) (left:Int):∀n,l.length+5≤n→∃r,qDt n (l.map qBs) left=some r:=by
 intro n hn
 obtain ⟨m,rfl,hm⟩:=up1 hn
 obtain ⟨q,rfl⟩:∃q,m=q+2:=⟨m-2,by omega⟩
 have un:∀(a b c:Int) (s:ByteArray) (d left:Int),∃r,qET (q+2) a b c s d left=some r:=fun a b c s d left=>by
  simp only [qET,qGM,qC,qD,qG,qH,qJ,qK,Option.bind_some,qF,qM,qN]
  by_cases h:IntKind.i64.wrap (left-s.size)<0
  ·exact ⟨-1,by simp [h]⟩
  ·exact ⟨IntKind.i64.wrap (left-s.size),by simp [h]⟩
 simp only [qDt,qFF,qC,qD,qG,qH,qJ,qK,Option.bind_some,qF,qM,qN]
 obtain ⟨r,h⟩:=qPj (B:=qBi (q+2)) (rows:=l.map qBs)
  (fun i e x he=>by
   obtain ⟨c,hc,rfl⟩:=qPh he
   have hi:i<l.length:=(List.getElem?_eq_some_iff.1 hc).1
   have hi':(i:Int)<l.length:=by omega
   have hw:IntKind.i64.wrap ((i:Int)+1)=(i:Int)+1:=qZ (by omega)
   obtain ⟨r,hr⟩:=un c.1 c.2.1 c.2.2.1 c.2.2.2.1 c.2.2.2.2 x
   by_cases h0:r<0
   ·exact .inr ⟨.inl (-1),by simp [qBi,qC,qD,qG,qH,qJ,qK,Option.bind_some,qF,qM,qN,hi',hc,qBs,zE,zj,hr,h0]⟩
   ·exact .inl ⟨r,by simp [qBi,qC,qD,qG,qH,qJ,qK,Option.bind_some,qF,qM,qN,hi',hc,qBs,zE,zj,hr,h0,hw]⟩)
  (fun x=>⟨.inr x,by simp [qBi,qC,qD,qG,qH,qJ,qK,Option.bind_some,qF,qM,qN]⟩) l.length 0 (q+2) (IntKind.i64.wrap (left-l.length)) (by simp) (by omega)
 simp only [Int.natCast_zero] at h
 by_cases h0:IntKind.i64.wrap (left-l.length)<0
 ·exact ⟨-1,by simp [h0]⟩
 ·rcases r with r|r
  ·exact ⟨r,by simp [h0,h,qC,qD,qG,qH,qJ,qK,Option.bind_some,qF,qM,qN]⟩
  ·exact ⟨r,by simp [h0,h,qC,qD,qG,qH,qJ,qK,Option.bind_some,qF,qM,qN]⟩
theorem qMT (l:List Sm) (hb:l.length*48≤140737488351232):Ev (qCc · (l.map qBs)) (l.length,l.map qBs):=by
 refine ⟨l.length+5,fun n hn=>?_⟩
 obtain ⟨m,rfl,hm⟩:=up1 hn
 simp only [qCc,qFG,qC,qD,qG,qH,qJ,qK,Option.bind_some,qF,qM,qN]
 have h:=qQM (B:=qCF m) (rows:=l.map qBs) (z:= [.i .i64 0,.i .i64 0,.i .i64 0,.s ⟨#[]⟩,.i .i64 0]) (r:=fun acc=>((l.map qBs).length,acc)) (M:=m)
  (fun i acc e he ha hz=>by
   obtain ⟨c,hc,rfl⟩:=qPh he
   have hi:i<l.length:=(List.getElem?_eq_some_iff.1 hc).1
   have hi':(i:Int)<l.length:=by omega
   obtain ⟨q,rfl⟩:∃q,m=q+2:=⟨m-2,by omega⟩
   have hw:IntKind.i64.wrap ((i:Int)+1)=(i:Int)+1:=qZ (by omega)
   have ha':acc.length=l.length:=by simpa using ha
   have un:∀(a b c:Int) (s:ByteArray) (d:Int),qEU (q+2) a b c s d=some (a,b,c,s,d):=fun a b c s d=>by simp only [qEU,qGN,qHB,qHA,qC,qD,qG,qH,qJ,qK,Option.bind_some,qF,qM,qN]
   simp [qCF,qC,qD,qG,qH,qJ,qK,Option.bind_some,qF,qM,qN,hi',hc,qBs,zE,zj,un,hz,ha',hw,zx])
  (fun acc ha=>by
   have ha':acc.length=l.length:=by simpa using ha
   simp [qCF,qC,qD,qG,qH,qJ,qK,Option.bind_some,qF,qM,qN])
  (by simp;omega)
 simp only [List.length_map,Int.toNat_natCast] at h⊢
 rw [h]
 have h1:(48:Int)*(l.length:Int)≤140737488355328:=by omega
 have h2:(l.length:Int)≤9223372036854775807:=by omega
 simp [qC,qD,qG,qH,qJ,qK,Option.bind_some,qF,qM,qN,h1,h2]
theorem qMU (l:List Sm) (hb:l.length≤140737488351232):Ev (qD9 · (l.map qBs) (l.map qBs)) true:=by
 refine ⟨l.length+5,fun n hn=>?_⟩
 obtain ⟨m,rfl,hm⟩:=up1 hn
 simp only [qD9,qFo,qC,qD,qG,qH,qJ,qK,Option.bind_some,qF,qM,qN]
 have h:=qPi (B:=qCO m) (rows:=l.map qBs) (r:= .inr ())
  (fun i e he=>by
   obtain ⟨c,hc,rfl⟩:=qPh he
   have hi:i<l.length:=(List.getElem?_eq_some_iff.1 hc).1
   have hi':(i:Int)<l.length:=by omega
   obtain ⟨q,rfl⟩:∃q,m=q+2:=⟨m-2,by omega⟩
   have hw:IntKind.i64.wrap ((i:Int)+1)=(i:Int)+1:=qZ (by omega)
   have un:∀(a b c:Int) (s:ByteArray) (d:Int),qEa (q+2) a b c s d a b c s d=some true:=fun a b c s d=>by simp [qEa,qGh,qHT,qHS,qC,qD,qG,qH,qJ,qK,Option.bind_some,qF,qM,qN]
   simp [qCO,qC,qD,qG,qH,qJ,qK,Option.bind_some,qF,qM,qN,hi',hc,qBs,zE,zj,un,hw])
  (by simp [qCO,qC,qD,qG,qH,qJ,qK,Option.bind_some,qF,qM,qN]) l.length 0 m (by simp) (by omega)
 simp only [Int.natCast_zero] at h
 simp [h,qC,qD,qG,qH,qJ,qK,Option.bind_some,qF,qM,qN]
theorem law (rows:List (List PV)) (w:rows.length*48≤140737488351232∧∀r∈rows,okR [.i .i64,.i .i64,.i .i64,.s,.i .i64] r):Ev (qEG · rows) true:=by
 obtain ⟨l,rfl,hs⟩:=qRB w.2
 have hl:l.length*48≤140737488351232:=by simpa using w.1
 have t1:=qMT l hl
 have eL:decide ((l.length:Nat)=(l.map qBs).length)=true:=decide_eq_true (by simp)
 refine qPP (qNU (R:=fun n=>qC2 n (l.map qBs)) (qRs ⟨_,qMS l (by omega) 1048576⟩ ?_) fun n=>rfl)
 refine qEo t1 (qEp eL (qEo (qMR l (by omega) hs) (qEp (qF _) (qEo t1 (qEp eL (qEo (qMQ l (by omega) hs) (qEp (qF _) (qIy (by simp) ?_))))))))
 exact qEo t1 (qEp eL (qEp eL (qEo (qMU l (by omega)) (qEp (qF _) (qIy rfl (qBl rfl))))))
def plB (c:Nd):Bool:=if c.1=2 then qA0 c.2.2.2.2.2.1 c.2.2.2.2.2.2.1 else if c.1=3 then qEy c.2.2.2.2.2.1 c.2.2.2.2.2.2.1 c.2.2.2.2.2.2.2.2.2.1 c.2.2.2.2.2.2.2.2.2.2.1 else true
structure PlaceCh (f:Nd→Nd):Prop where
 k:∀c,(f c).1=c.1
 n:∀c,qEH c=true→c.1=2∨c.1=3→qEH (f c)=plB (f c)
 kd:∀c,kd (f c)=kd c
end Go.Proofs.YtkkkfjgagjdcoaaGreatDoor.KFnExactMacroOk

