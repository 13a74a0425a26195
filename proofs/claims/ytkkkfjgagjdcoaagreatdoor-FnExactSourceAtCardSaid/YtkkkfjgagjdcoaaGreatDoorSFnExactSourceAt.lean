import Derived.Test.YtkkkfjgagjdcoaaGreatDoorTFnExactSourceAt
import Derived.Test.YtkkkfjgagjdcoaaGreatDoorE32
import Derived.Lib.Strings
import Derived.Test.YtkkkfjgagjdcoaaGreatDoorSFnExactSourceAtp1
namespace Go.Proofs.YtkkkfjgagjdcoaaGreatDoor.KFnExactSourceAt
open Go.Eng
set_option linter.unusedVariables false
set_option linter.unusedSimpArgs false
theorem qGu (r:List UInt8):qDN 2 r qBv=if [38].isPrefixOf r=true then 5 else 0:=by
 simp [qDN,qBv,lvl,sg1,sg2,sg3,sg4,sg5,sg6,sg7,sg8,sg9,qRE,qRF]
theorem qGv (r:List UInt8):qDN 3 r qBv=if [43].isPrefixOf r=true then 1 else if [45].isPrefixOf r=true then 2 else 0:=by
 simp [qDN,qBv,lvl,sg1,sg2,sg3,sg4,sg5,sg6,sg7,sg8,sg9,qRE,qRF]
theorem qGw (r:List UInt8):qDN 4 r qBv=if [42].isPrefixOf r=true then 3 else if [47].isPrefixOf r=true then 4 else 0:=by
 simp [qDN,qBv,lvl,sg1,sg2,sg3,sg4,sg5,sg6,sg7,sg8,sg9,qRE,qRF]
theorem qRf {m:Int} (hm:1≤m∧m≤4) (r:List UInt8):qDN m r qBv=if qAk r≠0∧lvl (qAk r)=m then qAk r else 0:=by
 have hm:m=1∨m=2∨m=3∨m=4:=by omega
 cases r with
 |nil=>rcases hm with rfl|rfl|rfl|rfl<;>simp [qGt,qGu,qGv,qGw,qAk,sgn,qDq,List.find?,List.isPrefixOf]
 |cons c t=>
  have f:∀d:UInt8,c≠d→(d==c)=false:=fun d hd=>by simpa using fun e=>hd e.symm
  by_cases h1:c=60
  ·subst h1
   cases t with
   |nil=>rcases hm with rfl|rfl|rfl|rfl<;>simp [qGt,qGu,qGv,qGw,qAk,qNv,List.isPrefixOf,lvl]
   |cons d t=>
    have g:∀e:UInt8,d≠e→(e==d)=false:=fun e hd=>by simpa using fun x=>hd x.symm
    by_cases hd:d=62
    ·subst hd;rcases hm with rfl|rfl|rfl|rfl<;>simp [qGt,qGu,qGv,qGw,qAk,qNv,List.isPrefixOf,lvl]
    ·by_cases hd2:d=61
     ·subst hd2;rcases hm with rfl|rfl|rfl|rfl<;>simp [qGt,qGu,qGv,qGw,qAk,qNv,List.isPrefixOf,lvl]
     ·rcases hm with rfl|rfl|rfl|rfl<;>simp [qGt,qGu,qGv,qGw,qAk,qNv,List.isPrefixOf,lvl,hd,hd2,g _ hd,g _ hd2]
  ·by_cases h2:c=62
   ·subst h2
    cases t with
    |nil=>rcases hm with rfl|rfl|rfl|rfl<;>simp [qGt,qGu,qGv,qGw,qAk,qPK,List.isPrefixOf,lvl]
    |cons d t=>
     have g:∀e:UInt8,d≠e→(e==d)=false:=fun e hd=>by simpa using fun x=>hd x.symm
     by_cases hd2:d=61
     ·subst hd2;rcases hm with rfl|rfl|rfl|rfl<;>simp [qGt,qGu,qGv,qGw,qAk,qPK,List.isPrefixOf,lvl]
     ·rcases hm with rfl|rfl|rfl|rfl<;>simp [qGt,qGu,qGv,qGw,qAk,qPK,List.isPrefixOf,lvl,hd2,g _ hd2]
   ·by_cases h:c∈([61,38,43,45,42,47,40,41,44,58]:List UInt8)
    ·have hs:sgn (c::t)= [c]:=by rw [qPJ c t h1 h2,if_pos h]
     simp only [List.mem_cons,List.not_mem_nil,or_false] at h
     rcases h with rfl|rfl|rfl|rfl|rfl|rfl|rfl|rfl|rfl|rfl<;>rcases hm with rfl|rfl|rfl|rfl<;>
      simp [qGt,qGu,qGv,qGw,qAk,hs,List.isPrefixOf,lvl]
    ·have hs:sgn (c::t)= []:=by rw [qPJ c t h1 h2,if_neg h]
     simp only [List.mem_cons,List.not_mem_nil,or_false,not_or] at h
     obtain ⟨a1,a2,a3,a4,a5,a6,a7,a8,a9,a10⟩:=h
     rcases hm with rfl|rfl|rfl|rfl<;>
      simp [qGt,qGu,qGv,qGw,qAk,hs,List.isPrefixOf,f _ h1,f _ h2,f _ a1,f _ a2,f _ a3,f _ a4,f _ a5,f _ a6]
theorem qQC {op:Int}:1≤lvl op∧lvl op≤4:=by unfold lvl;split<;>(try split)<;>(try split)<;>omega
def qK5 (p:PS):Prop:=p.2.1=true∨∃x∈p.2.2,qFE x=false
theorem qCR {x:Nd} {p:PS} (h:qK5 p):qK5 (qC1 x p).2:=by
 unfold qC1
 split
 ·exact .inl rfl
 ·rename_i hn
  rcases h with h|⟨y,hy,hb⟩
  ·exact absurd (.inl h) hn
  ·exact .inr ⟨y,List.mem_append_left _ hy,hb⟩
theorem qDt {w:List UInt8} {p:PS} (h:qK5 p):qK5 (qW w p).2:=by unfold qW;split<;>exact h
theorem qEp (p:PS):qK5 (qQB p):= .inl rfl
theorem qHI {w:List UInt8} {p:PS} (h:qK5 p):qK5 (qB4 w p):=by
 unfold qB4
 split
 ·exact h
 ·split
  ·exact qDt h
  ·exact qEp _
theorem qOm {p:PS} (h:qK5 p):qK5 (qA5 p).2:=by
 unfold qA5
 simp only
 split
 ·rcases h with h|h
  ·left
   simp only [Bool.or_eq_true]
   left
   have:(qW [58] (wr (tb p.1),p.2)).2.2=p.2:=by unfold qW;split<;>rfl
   rw [this];exact h
  ·right
   have:(qW [58] (wr (tb p.1),p.2)).2.2=p.2:=by unfold qW;split<;>rfl
   simp only [this]
   exact h
 ·exact h
theorem qCd:∀(f:Nat) (j:PJ) (p:PS),qK5 p→qK5 (pP f j p).2
 |0,j,p,h=>h
 |f+1,.bin least deep,p,h=>by
  simp only [pP]
  exact qCd f _ _ (qCd f _ _ h)
 |f+1,.loop least deep a,p,h=>by
  simp only [pP]
  split
  ·exact h
  ·split
   ·exact h
   ·exact qCd f _ _ (qCR (qCd f _ _ h))
 |f+1,.un deep,p,h=>by
  simp only [pP]
  split
  ·exact qEp _
  ·split
   ·exact qCR (qCd f _ _ (qDt h))
   ·exact qCd f _ _ (qDt h)
 |f+1,.at deep,p,h=>by
  simp only [pP]
  split
  ·split
   ·exact .inl rfl
   ·exact qCR h
  ·split
   ·exact qCR h
   ·split
    ·exact qHI (qCd f _ _ (qDt h))
    ·split
     ·exact qCR h
     ·split
      ·exact qCR h
      ·split
       ·exact qCd f _ _ h
       ·exact qEp _
 |f+1,.call op deep,p,h=>by
  simp only [pP]
  exact qCd f _ _ (qHI h)
 |f+1,.args op deep kids,p,h=>by
  simp only [pP]
  have hq:qK5 (qDs (qA5 p) (fun p=>pP f (.bin 1 (deep+1)) p)).2:=by
   unfold qDs
   split
   ·exact qCR (qOm h)
   ·exact qCd f _ _ (qOm h)
  revert hq
  generalize qDs (qA5 p) (fun p=>pP f (.bin 1 (deep+1)) p)=q
  intro hq
  split
  ·exact qCR h
  ·split
   ·exact qCd f _ _ (qDt hq)
   ·exact qCR (qHI (qDt hq))
theorem qAr (x:Nd) (p:PS):(qC1 x p).2.1=p.1:=by unfold qC1;split<;>rfl
theorem qDO (w:List UInt8) (p:PS):(tb (qW w p).2.1).length≤(tb p.1).length:=by
 unfold qW
 split
 ·refine Nat.le_trans (qx _) ?_
  simp
 ·simp only;rw [qCB];exact Nat.le_refl _
theorem qJD (w:List UInt8) (p:PS):(tb (qB4 w p).1).length≤(tb p.1).length:=by
 unfold qB4
 split
 ·exact Nat.le_refl _
 ·split
  ·exact qDO w p
  ·exact qDO w p
theorem qHJ (p:PS):(tb (qA5 p).2.1).length≤(tb p.1).length:=by
 unfold qA5
 simp only
 split
 ·simp only
  refine Nat.le_trans (qx _) (Nat.le_trans (qF5 _) (Nat.le_trans (qDO [58] _) ?_))
  exact Nat.le_trans (qx _) (qF5 _)
 ·exact Nat.le_refl _
theorem qJE:∀(acc r:List UInt8) {s t:List UInt8},qBs acc r=some (s,t)→t.length<r.length
 |acc,[],s,t,h=>by simp [qBs] at h
 |acc,c::r,s,t,h=>by
  unfold qBs at h
  by_cases hc:c=34
  ·rw [if_pos hc] at h
   match r,h with
   | [],h=>simp only [Option.some.injEq,Prod.mk.injEq] at h;rw [←h.2];simp
   |d::t',h=>
    simp only at h
    by_cases hd:d=34
    ·rw [if_pos hd] at h
     have:=qJE _ t' h
     simp only [List.length_cons];omega
    ·rw [if_neg hd] at h
     simp only [Option.some.injEq,Prod.mk.injEq] at h
     rw [←h.2];simp
  ·rw [if_neg hc] at h
   have:=qJE _ r h
   simp only [List.length_cons];omega
theorem qDI:∀(f:Nat) (j:PJ) (p:PS),(tb (pP f j p).2.1).length≤(tb p.1).length
 |0,j,p=>Nat.le_refl _
 |f+1,.bin least deep,p=>by
  simp only [pP]
  exact Nat.le_trans (qDI f _ _) (qDI f _ _)
 |f+1,.loop least deep a,p=>by
  simp only [pP]
  split
  ·exact Nat.le_refl _
  ·split
   ·simp only;rw [qCB];exact Nat.le_refl _
   ·refine Nat.le_trans (qDI f _ _) ?_
    rw [qAr]
    refine Nat.le_trans (qDI f _ _) (Nat.le_trans (qx _) ?_)
    simp
 |f+1,.un deep,p=>by
  simp only [pP]
  split
  ·exact Nat.le_refl _
  ·split
   ·rw [qAr]
    exact Nat.le_trans (qDI f _ _) (qDO _ _)
   ·exact Nat.le_trans (qDI f _ _) (qDO _ _)
 |f+1,.at deep,p=>by
  simp only [pP]
  split
  ·split
   ·simp only;rw [qCB];exact Nat.le_refl _
   ·rename_i s t hq
    rw [qAr]
    have:=qJE _ _ hq
    refine Nat.le_trans (qx _) ?_
    have h2:((tb p.1).tail).length≤(tb p.1).length:=by simp
    simp only;omega
  ·split
   ·rw [qAr]
    refine Nat.le_trans (qx _) ?_
    simp
   ·split
    ·exact Nat.le_trans (qJD _ _) (Nat.le_trans (qDI f _ _) (qDO _ _))
    ·have hw:(tb (wr (tb p.1))).length≤(tb p.1).length:=Nat.le_trans (qx _) (qF5 _)
     split
     ·rw [qAr];exact hw
     ·split
      ·rw [qAr];exact hw
      ·split
       ·exact Nat.le_trans (qDI f _ _) hw
       ·exact hw
 |f+1,.call op deep,p=>by
  simp only [pP]
  exact Nat.le_trans (qDI f _ _) (qJD _ _)
 |f+1,.args op deep kids,p=>by
  simp only [pP]
  have hq:(tb (qDs (qA5 p) (fun p=>pP f (.bin 1 (deep+1)) p)).2.1).length≤(tb p.1).length:=by
   unfold qDs
   split
   ·rw [qAr];exact qHJ p
   ·exact Nat.le_trans (qDI f _ _) (qHJ p)
  revert hq
  generalize qDs (qA5 p) (fun p=>pP f (.bin 1 (deep+1)) p)=q
  intro hq
  split
  ·rw [qAr];exact Nat.le_refl _
  ·split
   ·exact Nat.le_trans (qDI f _ _) (Nat.le_trans (qDO _ _) hq)
   ·rw [qAr]
    exact Nat.le_trans (qJD _ _) (Nat.le_trans (qDO _ _) hq)
structure RdOK:Prop where
 v:∀w:List UInt8,w.all wch=true→w≠ []→(qf (BR w)).2.2.2=true→(qf (BR w)).1=1∨(qf (BR w)).1=3
 v0:¬((qf (BR [])).1=1∨(qf (BR [])).1=3)
 p0:(qAs (BR [])).2.2.2.2=false
 f:∀w op,qFM w 1 10=some op→(qf (BR w)).2.2.2=false∧(qAs (BR w)).2.2.2.2=false
 f0:qFM [] 1 10=none
 n:∀n:Int,1≤n∧n≤5→∃t,(qe n).toList=35::t
def Lk (p q:PS):Prop:=p.2.1=false∧q.2.1=false∧p.2.2=q.2.2∧tb p.1=tb q.1
def Sim (a b:Int×PS):Prop:=(a.1=b.1∧Lk a.2 b.2)∨(b.2.2.1=true∧qK5 a.2)
def qSS (least:Int) (p:PS):Prop:=qAk (tb p.1)=0∨lvl (qAk (tb p.1))<least
def SimP (least:Int) (a b:Int×PS):Prop:=(a.1=b.1∧Lk a.2 b.2∧qSS least a.2)∨(b.2.2.1=true∧qK5 a.2)
theorem SimP.sim {least:Int} {a b:Int×PS} (h:SimP least a b):Sim a b:=h.elim (fun h=> .inl ⟨h.1,h.2.1⟩) .inr
theorem qK6 {x:Nd} {q:PS} (h:q.2.1=true):(qDb x q).2.2.1=true:=by
 unfold qDb;simp only;split
 ·rfl
 ·exact h
theorem qHi {w:List UInt8} {q:PS} (h:q.2.1=true):sIs w q=(false,tb q.1,q.2):=by unfold sIs;rw [if_pos h]
theorem qLw:∀(g:Nat) (j:SJ) (q:PS),q.2.1=true→(sP g j q).2.2.1=true
 |0,j,q,h=>h
 |g+1,.row level,q,h=>by simp only [sP];rw [if_pos h];exact h
 |g+1,.rl level a,q,h=>by simp only [sP];rw [if_pos h];exact h
 |g+1,.one,q,h=>by
  simp only [sP]
  rw [qHi (w:= [45]) h]
  simp only [Bool.false_eq_true,if_false]
  rw [qHi (w:= [40]) (q:=(tb q.1,q.2)) h]
  simp only [Bool.false_eq_true,if_false]
  rw [qHi (w:= [34]) (q:=(tb q.1,q.2)) h]
  simp only [Bool.false_eq_true,if_false]
  rw [qHi (w:= [35]) (q:=(tb q.1,q.2)) h]
  simp only [Bool.false_eq_true,if_false]
  split
  ·rw [qHi (w:= [40]) (q:=(wr (tb q.1),q.2)) h]
   simp [qKY]
  ·split
   ·exact qK6 h
   ·split
    ·exact qK6 h
    ·rfl
 |g+1,.call op kids,q,h=>by simp only [sP];rw [if_pos h];exact h
 |g+1,.arg,q,h=>by
  simp only [sP]
  rw [qHi (w:= [58]) (q:=(wr (tb q.1),q.2)) h]
  simp only [Bool.false_eq_true,and_false,if_false]
  exact qLw g _ _ h
theorem qHj {x:Nd} {p q:PS} (h:Lk p q):Sim (qC1 x p) (qDb x q):=by
 obtain ⟨h1,h2,h3,h4⟩:=h
 unfold qC1 qDb
 rw [h1,h2,h3]
 by_cases hl:60≤q.2.2.length
 ·refine .inr ⟨?_,.inl ?_⟩
  ·simp only;rw [if_pos (.inl (by omega))]
  ·rw [if_pos (.inr hl)]
 ·rw [if_neg (by simp;omega)]
  by_cases hn:qFE x=false
  ·exact .inr ⟨by simp only;rw [if_pos (.inr hn)],.inr ⟨x,by simp,hn⟩⟩
  ·refine .inl ⟨rfl,rfl,?_,rfl,h4⟩
   simp only
   rw [if_neg]
   intro e
   rcases e with e|e
   ·omega
   ·exact hn e
theorem qPn {a b:Int×PS} (f:Int→Nd) (h:Sim a b):Sim (qC1 (f a.1) a.2) (qDb (f b.1) b.2):=by
 rcases h with ⟨h1,h2⟩|⟨h1,h2⟩
 ·rw [h1];exact qHj h2
 ·exact .inr ⟨qK6 h1,qCR h2⟩
theorem qJF {c:UInt8} (hc:c∈([45,40,41,44,58]:List UInt8)) {p q:PS} (h:Lk p q):(qW [c] p).1=(sIs [c] q).1∧Lk (qW [c] p).2 (sIs [c] q).2:=by
 obtain ⟨h1,h2,h3,h4⟩:=h
 obtain ⟨e1,e2,e3,e4⟩:=qRe hc h2 h4
 refine ⟨e1,?_,?_,?_,?_⟩
 ·rw [e3];exact h1
 ·rw [e4];exact h2
 ·rw [e3,e4];exact h3
 ·rw [e2]
theorem qPo {c:UInt8} (hc:c∈([45,40,41,44,58]:List UInt8)) {a b:Int×PS} (h:Sim a b):Sim (a.1,qB4 [c] a.2) (b.1,if (sIs [c] b.2).1=true then (sIs [c] b.2).2 else qKY (sIs [c] b.2).2):=by
 rcases h with ⟨h1,h2⟩|⟨h1,h2⟩
 ·obtain ⟨e1,e2⟩:=qJF hc h2
  unfold qB4
  rw [if_neg (by rw [h2.1];simp),e1]
  by_cases ht:(sIs [c] b.2).1=true
  ·rw [if_pos ht,if_pos ht]
   exact .inl ⟨h1,e2⟩
  ·rw [if_neg ht,if_neg ht]
   exact .inr ⟨rfl,qEp _⟩
 ·refine .inr ⟨?_,qHI h2⟩
  rw [qHi h1]
  simp [qKY]
def qIK (G:Nat) (least:Int):Nat→Int×PS→Int×PS→Prop
 |0,x,res=>res=x
 |m+1,x,res=>if ((m:Int)+1)<least then res=x else ∃g,G≤g∧qIK G least m (sP g (.rl ((m:Int)+1) x.1) x.2) res
theorem qLx {G G':Nat} (h:G'≤G) {least:Int}:∀(m:Nat) {x res:Int×PS},qIK G least m x res→qIK G' least m x res
 |0,x,res,ht=>ht
 |m+1,x,res,ht=>by
  unfold qIK at ht⊢
  split
  ·rename_i hc;rw [if_pos hc] at ht;exact ht
  ·rename_i hc
   rw [if_neg hc] at ht
   obtain ⟨g,h1,h2⟩:=ht
   exact ⟨g,Nat.le_trans h h1,qLx h m h2⟩
theorem qK7 {G:Nat} {least:Int}:∀(m:Nat) {x res:Int×PS},x.2.2.1=true→qIK G least m x res→res.2.2.1=true
 |0,x,res,hb,ht=>by unfold qIK at ht;rw [ht];exact hb
 |m+1,x,res,hb,ht=>by
  unfold qIK at ht
  split at ht
  ·rw [ht];exact hb
  ·obtain ⟨g,_,h2⟩:=ht
   exact qK7 m (qLw g _ _ hb) h2
theorem qOn {G:Nat} {l:Nat} (hl0:1≤l) {g:Nat} (hg:G≤g):∀(m:Nat) {x y:Int×PS},l≤m→qIK G ((l:Int)+1) m x y→qIK G (l:Int) m x (sP g (.rl (l:Int) y.1) y.2)
 |0,x,y,hl,ht=>by omega
 |m+1,x,y,hl,ht=>by
  unfold qIK at ht⊢
  rw [if_neg (by omega)]
  by_cases e:l=m+1
  ·subst e
   rw [if_pos (by omega)] at ht
   subst ht
   refine ⟨g,hg,?_⟩
   have key:∀{z:Int×PS},qIK G ((m+1:Nat):Int) m z z:=fun {z}=>by
    cases m with
    |zero=>rfl
    |succ k=>unfold qIK;rw [if_pos (by omega)]
   exact key
  ·rw [if_neg (by omega)] at ht
   obtain ⟨g',h1,h2⟩:=ht
   exact ⟨g',h1,qOn hl0 hg m (by omega) h2⟩
theorem qPp {G:Nat} {q:PS} (hq:q.2.1=false):∀(k:Nat),k≤4→∀g,G+k≤g→∃g5,G≤g5∧qIK G (5-(k:Int)) 4 (sP g5 (.row 5) q) (sP g (.row (5-(k:Int))) q)
 |0,_,g,hg=>⟨g,hg,by
  unfold qIK
  rw [if_pos (by decide)]
  simp⟩
 |k+1,hk,0,hg=>by omega
 |k+1,hk,g+1,hg=>by
  obtain ⟨g5,h1,h2⟩:=qPp (G:=G) hq k (by omega) g (by omega)
  refine ⟨g5,h1,?_⟩
  have e:(5-((k+1:Nat):Int))=((4-k:Nat):Int):=by omega
  have e1:(5-(k:Int))=((4-k:Nat):Int)+1:=by omega
  rw [e1] at h2
  rw [e]
  have:=qOn (G:=G) (l:=4-k) (by omega) (g:=g) (by omega) 4 (by omega) h2
  have e2:sP (g+1) (.row ((4-k:Nat):Int)) q=sP g (.rl ((4-k:Nat):Int) (sP g (.row (((4-k:Nat):Int)+1)) q).1) (sP g (.row (((4-k:Nat):Int)+1)) q).2:=by
   simp only [sP]
   rw [if_neg (by rw [hq];simp),if_neg (by omega)]
  rw [e2]
  exact this
theorem qRG (H:RdOK) {r:List UInt8} (h:r.head?=some 35):∀(k:Nat) (n:Int),1≤n→n+k≤6→qPm r.tail n k=qH8 r n k
 |0,n,_,_=>rfl
 |k+1,n,h1,h2=>by
  obtain ⟨t,ht⟩:=H.n n ⟨h1,by omega⟩
  cases r with
  |nil=>cases h
  |cons c r=>
   simp only [List.head?_cons,Option.some.injEq] at h
   subst h
   simp only [qPm,qH8,ht,List.tail_cons]
   have ih:=qRG H (r:=35::r) rfl k (n+1) (by omega) (by omega)
   simp only [List.tail_cons] at ih
   rw [ih]
   simp [List.isPrefixOf]
theorem qPq {r:List UInt8}:∀(k:Nat) (n:Int) {m:Int},qH8 r n k=some m→n≤m∧m<n+k
 |0,n,m,h=>by cases h
 |k+1,n,m,h=>by
  simp only [qH8] at h
  split at h
  ·simp only [Option.some.injEq] at h;omega
  ·have:=qPq k (n+1) h;omega
theorem qEJ (c:UInt8) (r:List UInt8):([c].isPrefixOf r=true)↔r.head?=some c:=by
 cases r with
 |nil=>simp [List.isPrefixOf]
 |cons d t=>simp [List.isPrefixOf];exact eq_comm
theorem qK8 {c:UInt8} {q:PS} (hb:q.2.1=false):(sIs [c] q).1=true↔(tb q.1).head?=some c:=by
 unfold sIs
 rw [if_neg (by rw [hb];simp)]
 split
 ·rename_i h;exact ⟨fun _=>(qEJ c _).1 h,fun _=>rfl⟩
 ·rename_i h;exact ⟨fun e=>(by cases e),fun e=>absurd ((qEJ c _).2 e) h⟩
theorem qQD (r:List UInt8):(wd r).all wch=true:=by
 unfold wd
 induction r with
 |nil=>rfl
 |cons c r ih=>
  by_cases h:wch c=true
  ·simp only [List.takeWhile_cons,h,if_true,List.all_cons,Bool.true_and];exact ih
  ·simp [List.takeWhile_cons,h]
def qRg (N:Nat):Prop:=∀(p q:PS) (deep:Int) (f g:Nat),Lk p q→(tb p.1).length=N→0≤deep→deep+N≤400→20*N+4≤f→20*N+5≤g→Sim (pP f (.un deep) p) (sP g (.row 5) q)
def qRh (N:Nat):Prop:=∀(m:Nat),m≤4→∀(p q:PS) (deep least a:Int) (f:Nat) (res:Int×PS),Lk p q→(tb p.1).length=N→1≤least→0≤deep→deep+N≤400→20*N+5≤f→
 (qAk (tb p.1)=0∨lvl (qAk (tb p.1))≤m)→qIK (20*N+5) least m (a,q) res→SimP least (pP f (.loop least deep a) p) res
def qRH (N:Nat):Prop:=∀(p q:PS) (deep:Int) (k f g:Nat),k≤4→Lk p q→(tb p.1).length=N→0≤deep→deep+N≤400→20*N+6≤f→20*N+10≤g→SimP (5-(k:Int)) (pP f (.bin (5-(k:Int)) deep) p) (sP g (.row (5-(k:Int))) q)
def qRi (N:Nat):Prop:=∀(p q:PS) (deep op:Int) (kids:List Int) (f g:Nat),Lk p q→(tb p.1).length=N→0≤deep→deep+N+1≤400→20*N+8≤f→20*N+12≤g→Sim (pP f (.args op deep kids) p) (sP g (.call op kids) q)
theorem qSc (N:Nat) (hB:∀M,M<N→qRH M) (hT:∀M,M<N→qRh M):qRh N:=by
 intro m
 induction m with
 |zero=>
  intro hm p q deep least a f res hl hN hle hd hdN hf hpk ht
  have h0:qAk (tb p.1)=0:=by
   rcases hpk with h|h
   ·exact h
   ·have:=(qQC (op:=qAk (tb p.1))).1
    omega
  cases f with
  |zero=>omega
  |succ f=>
   simp only [pP]
   rw [if_neg (by rw [hl.1];simp),if_pos (.inl h0)]
   unfold qIK at ht
   subst ht
   refine .inl ⟨rfl,⟨hl.1,hl.2.1,hl.2.2.1,?_⟩,.inl ?_⟩
   ·simp only;rw [qCB];exact hl.2.2.2
   ·simp only;rw [qCB];exact h0
 |succ m ih=>
  intro hm p q deep least a f res hl hN hle hd hdN hf hpk ht
  unfold qIK at ht
  by_cases hc:(m:Int)+1<least
  ·rw [if_pos hc] at ht
   subst ht
   cases f with
   |zero=>omega
   |succ f=>
    have hst:qAk (tb p.1)=0∨lvl (qAk (tb p.1))<least:=by
     rcases hpk with h|h
     ·exact .inl h
     ·right;push_cast at h;omega
    simp only [pP]
    rw [if_neg (by rw [hl.1];simp),if_pos hst]
    refine .inl ⟨rfl,⟨hl.1,hl.2.1,hl.2.2.1,?_⟩,?_⟩
    ·simp only;rw [qCB];exact hl.2.2.2
    ·unfold qSS;simp only;rw [qCB];exact hst
  ·rw [if_neg hc] at ht
   obtain ⟨g,hg,ht⟩:=ht
   cases g with
   |zero=>omega
   |succ g=>
    have hin:=qRf (m:=(m:Int)+1) (by omega) (tb q.1)
    have hpq:tb p.1=tb q.1:=hl.2.2.2
    simp only [sP] at ht
    rw [if_neg (by rw [hl.2.1];simp)] at ht
    have ho:sOp ((m:Int)+1) q=(qDN ((m:Int)+1) (tb q.1) qBv,(if qDN ((m:Int)+1) (tb q.1) qBv=0 then tb q.1 else (tb q.1).drop (qAH (qDN ((m:Int)+1) (tb q.1) qBv)).size),q.2):=by
     unfold sOp;rw [if_neg (by rw [hl.2.1];simp)]
    by_cases hop:qAk (tb q.1)≠0∧lvl (qAk (tb q.1))=(m:Int)+1
    ·rw [if_pos hop] at hin
     rw [hin,if_neg hop.1] at ho
     rw [ho] at ht
     simp only at ht
     rw [if_neg hop.1] at ht
     cases f with
     |zero=>omega
     |succ f=>
      simp only [pP]
      rw [if_neg (by rw [hl.1];simp),if_neg (by rw [hpq];exact fun e=>e.elim (fun e=>hop.1 e) (fun e=>by have:=hop.2;omega))]
      rw [hpq]
      rcases qQb (tb q.1) with h0|⟨_,_,hsg⟩
      ·exact absurd h0 hop.1
      have hsz:(sgn (tb q.1)).length=(qAH (qAk (tb q.1))).size:=by rw [hsg,qAN]
      have hpos:0<(sgn (tb q.1)).length:=by
       cases hh:sgn (tb q.1) with
       |nil=>
        exfalso
        apply hop.1
        unfold qAk
        rw [hh]
        simp
       |cons c t=>simp
      have hdrop:(tb ((tb q.1).drop (sgn (tb q.1)).length)).length<N:=by
       have h1:=qx ((tb q.1).drop (sgn (tb q.1)).length)
       have h2:(sgn (tb q.1)).length≤(tb q.1).length∨(tb q.1).length<(sgn (tb q.1)).length:=by omega
       rw [List.length_drop] at h1
       have h3:(tb q.1).length=N:=by rw [←hpq];exact hN
       have h4:0<N:=by
        rcases Nat.eq_zero_or_pos N with h|h
        ·exfalso
         rw [h] at h3
         have:tb q.1= []:=List.eq_nil_of_length_eq_zero h3
         apply hop.1
         rw [this];rfl
        ·exact h
       omega
      have hlk:Lk ((tb q.1).drop (sgn (tb q.1)).length,p.2) ((tb q.1).drop (qAH (qAk (tb q.1))).size,q.2):=⟨hl.1,hl.2.1,hl.2.2.1,by simp only;rw [hsz]⟩
      have hb:=hB _ hdrop ((tb q.1).drop (sgn (tb q.1)).length,p.2) ((tb q.1).drop (qAH (qAk (tb q.1))).size,q.2) deep (3-m) f g (by omega) hlk rfl hd (by omega) (by omega) (by omega)
      have e5:(5-((3-m:Nat):Int))=(m:Int)+1+1:=by omega
      rw [e5] at hb
      rw [hop.2]
      have hlenA:=qDI f (.bin ((m:Int)+1+1) deep) ((tb q.1).drop (sgn (tb q.1)).length,p.2)
      generalize pP f (.bin ((m:Int)+1+1) deep) ((tb q.1).drop (sgn (tb q.1)).length,p.2)=A at hb hlenA⊢
      generalize hBB:sP g (.row ((m:Int)+1+1)) ((tb q.1).drop (qAH (qAk (tb q.1))).size,q.2)=B at hb ht
      rcases hb with ⟨b1,b2,b3⟩|⟨b1,b2⟩
      ·rw [b1]
       have hs:=qHj (x:=ndK 5 (qAk (tb q.1)) [a,B.1]) b2
       generalize hC:qC1 (ndK 5 (qAk (tb q.1)) [a,B.1]) A.2=C at hs⊢
       generalize qDb (ndK 5 (qAk (tb q.1)) [a,B.1]) B.2=D at hs ht
       rcases hs with ⟨c1,c2⟩|⟨c1,c2⟩
       ·have hrC:C.2.1=A.2.1:=by rw [←hC];exact qAr _ _
        have hN3:(tb C.2.1).length<N:=by
         rw [hrC]
         exact Nat.lt_of_le_of_lt hlenA hdrop
        refine hT _ hN3 (m+1) hm C.2 D.2 deep least C.1 f res c2 rfl hle hd (by omega) (by omega) ?_ ?_
        ·rw [hrC]
         rcases b3 with h|h
         ·exact .inl h
         ·right;push_cast;omega
        ·rw [c1]
         unfold qIK
         rw [if_neg hc]
         exact ⟨g,by omega,qLx (by omega) m ht⟩
       ·exact .inr ⟨qK7 _ (qLw g _ _ c1) ht,qCd f _ _ c2⟩
      ·exact .inr ⟨qK7 _ (qLw g _ _ (qK6 b1)) ht,qCd f _ _ (qCR b2)⟩
    ·rw [if_neg hop] at hin
     rw [hin,if_pos rfl] at ho
     rw [ho] at ht
     simp only at ht
     rw [if_pos trivial] at ht
     refine ih (by omega) p (tb q.1,q.2) deep least a f res ⟨hl.1,hl.2.1,hl.2.2.1,by simp only;rw [qCB];exact hpq⟩ hN hle hd hdN hf ?_ ht
     rw [hpq]
     rw [hpq] at hpk
     by_cases h0:qAk (tb q.1)=0
     ·exact .inl h0
     ·right
      rcases hpk with h|h
      ·exact absurd h h0
      ·have:lvl (qAk (tb q.1))≠(m:Int)+1:=fun e=>hop ⟨h0,e⟩
       push_cast at h
       omega
theorem qRj (N:Nat) (hA:qRg N) (hT:∀M,M≤N→qRh M):qRH N:=by
 intro p q deep k f g hk hl hN hd hdN hf hg
 obtain ⟨g5,hg5,ht⟩:=qPp (G:=20*N+5) hl.2.1 k hk g (by omega)
 cases f with
 |zero=>omega
 |succ f=>
  simp only [pP]
  have ha:=hA p q deep f g5 hl hN hd hdN (by omega) hg5
  have hlen:=qDI f (.un deep) p
  generalize pP f (.un deep) p=A at ha hlen⊢
  generalize sP g5 (.row 5) q=B at ha ht
  rcases ha with ⟨h1,h2⟩|⟨h1,h2⟩
  ·have hM:(tb A.2.1).length≤N:=by omega
   refine hT _ hM 4 (by omega) A.2 B.2 deep (5-(k:Int)) A.1 f _ h2 rfl (by omega) hd (by omega) (by omega) (.inr ?_) ?_
   ·have:=(qQC (op:=qAk (tb A.2.1))).2;omega
   ·rw [h1];exact qLx (by omega) 4 ht
  ·exact .inr ⟨qK7 4 h1 ht,qCd f _ _ h2⟩
theorem qRk (H:RdOK) (N:Nat) (hB:qRH N) (hC:∀M,M<N→qRi M):qRi N:=by
 intro p q deep op kids f g hl hN hd hdN hf hg
 cases f with
 |zero=>omega
 |succ f=>
 cases g with
 |zero=>omega
 |succ g=>
 cases g with
 |zero=>omega
 |succ g=>
 have hpq:=hl.2.2.2
 have hpb:¬p.2.1=true:=by rw [hl.1];simp
 have hqb:¬q.2.1=true:=by rw [hl.2.1];simp
 have harg:Sim (qDs (qA5 p) (fun p=>pP f (.bin 1 (deep+1)) p)) (sP (g+1) .arg q)∧(tb (qDs (qA5 p) (fun p=>pP f (.bin 1 (deep+1)) p)).2.1).length≤N:=by
  refine ⟨?_,?_⟩
  ·have hw:Lk (wr (tb p.1),p.2) (wr (tb q.1),q.2):=⟨hl.1,hl.2.1,hl.2.2.1,by rw [hpq]⟩
   obtain ⟨e1,e2⟩:=qJF (c:=58) (by decide) hw
   simp only [sP]
   unfold qDs qA5
   simp only
   rw [hpq] at e1 e2⊢
   by_cases hc:(qAs (BR (wd (tb q.1)))).2.2.2.2=true∧(qW [58] (wr (tb q.1),p.2)).1=true
   ·rw [if_pos hc,if_pos ⟨hc.1,e1▸hc.2⟩]
    simp only
    rw [e2.2.2.2]
    by_cases h2:(qAs (BR (wd (tb (sIs [58] (wr (tb q.1),q.2)).2.1)))).2.2.2.2=true
    ·rw [if_pos h2,h2]
     simp only [Bool.not_true,Bool.or_false]
     exact qHj ⟨e2.1,e2.2.1,e2.2.2.1,rfl⟩
    ·rw [if_neg h2]
     refine .inr ⟨rfl,qCR (.inl ?_)⟩
     simp only
     have h2:(qAs (BR (wd (tb (sIs [58] (wr (tb q.1),q.2)).2.1)))).2.2.2.2=false:=by simpa using h2
     rw [h2];simp
   ·rw [if_neg hc,if_neg (fun e=>hc ⟨e.1,e1.symm▸e.2⟩)]
    simp only
    have:=hB p (tb q.1,q.2) (deep+1) 4 f g (by omega) ⟨hl.1,hl.2.1,hl.2.2.1,by simp only;rw [qCB];exact hpq⟩ hN (by omega) (by omega) (by omega) (by omega)
    exact this.sim
  ·unfold qDs
   split
   ·rw [qAr];have:=qHJ p;omega
   ·have h1:=qDI f (.bin 1 (deep+1)) (qA5 p).2
    have h2:=qHJ p
    exact Nat.le_trans h1 (by omega)
 obtain ⟨harg,hal⟩:=harg
 simp only [pP]
 rw [if_neg hpb]
 have hs:sP (g+1+1) (.call op kids) q=(if (sIs [41] (sP (g+1) .arg q).2).1=true then qDb (ndK 6 op (kids++ [(sP (g+1) .arg q).1])) (sIs [41] (sP (g+1) .arg q).2).2
  else sP (g+1) (.call op (kids++ [(sP (g+1) .arg q).1])) (if (sIs [44] (sIs [41] (sP (g+1) .arg q).2).2).1=true then (sIs [44] (sIs [41] (sP (g+1) .arg q).2).2).2 else qKY (sIs [44] (sIs [41] (sP (g+1) .arg q).2).2).2)):=by
  rw [sP]
  rw [if_neg hqb]
 rw [hs]
 generalize qDs (qA5 p) (fun p=>pP f (.bin 1 (deep+1)) p)=Q at harg hal⊢
 generalize sP (g+1) .arg q=A at harg⊢
 rcases harg with ⟨h1,h2⟩|⟨h1,h2⟩
 ·have hb2:=h2.2.1
  obtain ⟨c1,c2⟩:=qJF (c:=44) (by decide) h2
  have i41:=qK8 (c:=41) hb2
  have i44:=qK8 (c:=44) hb2
  by_cases hc:(qW [44] Q.2).1=true
  ·rw [if_pos hc]
   have hh:=i44.1 (c1▸hc)
   have n41:¬(sIs [41] A.2).1=true:=fun e=>by rw [i41.1 e] at hh;cases hh
   rw [if_neg n41]
   have e41:(sIs [41] A.2).2=(tb A.2.1,A.2.2):=by
    unfold sIs at n41⊢
    rw [if_neg (by rw [hb2];simp)] at n41⊢
    split
    ·rename_i hx;rw [if_pos hx] at n41;exact absurd rfl n41
    ·rfl
   rw [e41]
   have e44:sIs [44] (tb A.2.1,A.2.2)=sIs [44] A.2:=by unfold sIs;simp only [qCB]
   rw [e44,if_pos (c1▸hc),h1]
   have hlt:=qDH (w:= [44]) (by simp) hc
   have htb:=qx (qW [44] Q.2).2.1
   exact hC _ (by omega) (qW [44] Q.2).2 (sIs [44] A.2).2 deep op _ f (g+1) c2 rfl hd (by omega) (by omega) (by omega)
  ·rw [if_neg hc]
   have et:(qW [44] Q.2).2=(tb Q.2.1,Q.2.2):=by
    unfold qW at hc⊢
    split
    ·rename_i hx;rw [if_pos hx] at hc;exact absurd rfl hc
    ·rfl
   rw [et]
   have hl2:Lk (tb Q.2.1,Q.2.2) A.2:=⟨h2.1,h2.2.1,h2.2.2.1,by simp only;rw [qCB];exact h2.2.2.2⟩
   have hm:=qPo (c:=41) (by decide) (a:=(A.1,(tb Q.2.1,Q.2.2))) (b:=(A.1,A.2)) (.inl ⟨rfl,hl2⟩)
   by_cases h41:(sIs [41] A.2).1=true
   ·rw [if_pos h41]
    simp only [h41,if_true] at hm
    have:=qPn (fun _=>ndK 6 op (kids++ [A.1])) hm
    rw [h1]
    exact this
   ·rw [if_neg h41]
    have e41:(sIs [41] A.2).2=(tb A.2.1,A.2.2):=by
     unfold sIs at h41⊢
     rw [if_neg (by rw [hb2];simp)] at h41⊢
     split
     ·rename_i hx;rw [if_pos hx] at h41;exact absurd rfl h41
     ·rfl
    have e44:sIs [44] (tb A.2.1,A.2.2)=sIs [44] A.2:=by unfold sIs;simp only [qCB]
    rw [e41,e44,if_neg (c1▸hc)]
    refine .inr ⟨qLw _ _ _ rfl,qCR ?_⟩
    simp only [if_neg h41] at hm
    rcases hm with ⟨_,_,hb,_⟩|⟨_,hdm⟩
    ·simp [qKY] at hb
    ·exact hdm
 ·have e41:sIs [41] A.2=(false,tb A.2.1,A.2.2):=qHi h1
  have e44:sIs [44] (tb A.2.1,A.2.2)=(false,tb (tb A.2.1),A.2.2):=qHi h1
  rw [e41]
  simp only [Bool.false_eq_true,if_false]
  rw [e44]
  simp only [Bool.false_eq_true,if_false]
  refine .inr ⟨qLw _ _ _ rfl,?_⟩
  split
  ·exact qCd f _ _ (qDt h2)
  ·exact qCR (qHI (qDt h2))
theorem qPr {c d:UInt8} (h:c≠d) {r:List UInt8} (hr:r.head?=some c):¬r.head?=some d:=by rw [hr];simpa using h
theorem qRl (H:RdOK) (N:Nat) (hA:∀M,M<N→qRg M) (hB:∀M,M<N→qRH M) (hC:∀M,M<N→qRi M):qRg N:=by
 intro p q deep f g hl hN hd hdN hf hg
 cases f with
 |zero=>omega
 |succ f=>
 cases f with
 |zero=>omega
 |succ f=>
 cases g with
 |zero=>omega
 |succ g=>
 cases g with
 |zero=>omega
 |succ g=>
 have hpq:=hl.2.2.2
 have hpb:¬p.2.1=true:=by rw [hl.1];simp
 have hqb:¬q.2.1=true:=by rw [hl.2.1];simp
 have hq0:=hl.2.1
 have hs:sP (g+1+1) (.row 5) q=sP (g+1) .one q:=by
  rw [sP,if_neg hqb,if_pos rfl]
 rw [hs]
 obtain ⟨e1,e2⟩:=qJF (c:=45) (by decide) hl
 rw [pP]
 rw [if_neg (by intro e;rcases e with e|e;omega;exact hpb e)]
 by_cases hc:(qW [45] p).1=true
 ·rw [if_pos hc]
  simp only [sP]
  rw [if_pos (e1▸hc)]
  have hlt:=qDH (w:= [45]) (by simp) hc
  have htb:=qx (qW [45] p).2.1
  exact qPn (fun k=>ndK 4 0 [k]) (hA _ (by omega) _ _ (deep+1) (f+1) g e2 rfl (by omega) (by omega) (by omega) (by omega))
 ·rw [if_neg hc]
  have hp':(qW [45] p).2=(tb p.1,p.2):=by
   unfold qW at hc⊢
   split
   ·rename_i hx;rw [if_pos hx] at hc;exact absurd rfl hc
   ·rfl
  have hq':(sIs [45] q).2=(tb q.1,q.2):=by
   have hc:¬(sIs [45] q).1=true:=e1▸hc
   unfold sIs at hc⊢
   rw [if_neg hqb] at hc⊢
   split
   ·rename_i hx;rw [if_pos hx] at hc;exact absurd rfl hc
   ·rfl
  rw [hp']
  simp only [sP]
  rw [if_neg (e1▸hc),hq']
  simp only [pP,qCB]
  have hl2:Lk (tb p.1,p.2) (tb q.1,q.2):=⟨hl.1,hl.2.1,hl.2.2.1,by simp only [qCB];exact hpq⟩
  obtain ⟨f1,f2⟩:=qJF (c:=40) (by decide) hl2
  have i40:=qK8 (c:=40) (q:=(tb q.1,q.2)) hq0
  have i34:=qK8 (c:=34) (q:=(tb q.1,q.2)) hq0
  have i35:=qK8 (c:=35) (q:=(tb q.1,q.2)) hq0
  simp only [qCB] at i40 i34 i35
  rw [hpq] at hN f1 f2⊢
  by_cases h34:(tb q.1).head?=some 34
  ·rw [if_pos h34,if_neg (fun e=>qPr (by decide) h34 (i40.1 e)),if_pos (i34.2 h34)]
   have es:(sIs [34] (tb q.1,q.2)).2.1=(tb q.1).tail:=by
    have:=i34.2 h34
    unfold sIs at this⊢
    rw [if_neg hqb] at this⊢
    simp only [qCB] at this⊢
    split
    ·simp
    ·rename_i hx;rw [if_neg hx] at this;cases this
   rw [es]
   cases hqr:qBs [] (tb q.1).tail with
   |none=>exact .inr ⟨rfl,.inl rfl⟩
   |some st=>
    obtain ⟨s,t⟩:=st
    exact qHj ⟨hl.1,hl.2.1,hl.2.2.1,rfl⟩
  ·rw [if_neg h34]
   by_cases h35:(tb q.1).head?=some 35
   ·rw [if_pos h35,if_neg (fun e=>qPr (by decide) h35 (i40.1 e)),if_neg (fun e=>h34 (i34.1 e)),if_pos (i35.2 h35)]
    have es:(sIs [35] (tb q.1,q.2)).2.1=(tb q.1).tail:=by
     have:=i35.2 h35
     unfold sIs at this⊢
     rw [if_neg hqb] at this⊢
     simp only [qCB] at this⊢
     split
     ·simp
     ·rename_i hx;rw [if_neg hx] at this;cases this
    rw [es,qRG H h35 5 1 (by omega) (by omega)]
    cases he:qH8 (tb q.1) 1 5 with
    |some n=>
     simp only
     obtain ⟨t,ht⟩:=H.n n (by have:=qPq 5 1 he;omega)
     have hsz:(qe n).size=t.length+1:=by rw [←qAN,ht];rfl
     refine qHj ⟨hl.1,hl.2.1,hl.2.2.1,?_⟩
     simp only
     rw [hsz]
     cases hr:tb q.1 with
     |nil=>rw [hr] at h35;cases h35
     |cons c r=>rfl
    |none=>
     simp only
     rw [if_neg (fun e=>e.1 h35)]
     have hw:wd (tb q.1)= []:=by
      cases hr:tb q.1 with
      |nil=>rw [hr] at h35;cases h35
      |cons c r=>
       rw [hr] at h35
       simp only [List.head?_cons,Option.some.injEq] at h35
       subst h35
       rfl
     rw [hw,if_neg (fun e=>H.v0 e.2),if_neg (by rw [H.p0];simp),H.f0]
     exact .inr ⟨rfl,qEp _⟩
   ·rw [if_neg h35]
    simp only
    by_cases h40:(qW [40] (tb q.1,p.2)).1=true
    ·rw [if_pos ⟨h35,h40⟩,if_pos (f1▸h40)]
     have hlt:=qDH (w:= [40]) (by simp) h40
     simp only [qCB] at hlt
     have htb:=qx (qW [40] (tb q.1,p.2)).2.1
     have hb:=(hB _ (by omega) _ _ (deep+1) 4 f g (by omega) f2 rfl (by omega) (by omega) (by omega) (by omega)).sim
     have e5:(5-((4:Nat):Int))=1:=by omega
     rw [e5] at hb
     exact qPo (by decide) hb
    ·have n40:¬(sIs [40] (tb q.1,q.2)).1=true:=f1▸h40
     have n34:¬(sIs [34] (tb q.1,q.2)).1=true:=fun e=>h34 (i34.1 e)
     have n35:¬(sIs [35] (tb q.1,q.2)).1=true:=fun e=>h35 (i35.1 e)
     rw [if_neg (fun e=>h40 e.2),if_neg n40,if_neg n34,if_neg n35]
     have hl3:Lk (wr (tb q.1),p.2) (wr (tb q.1),q.2):=⟨hl.1,hl.2.1,hl.2.2.1,rfl⟩
     cases hfn:qFM (wd (tb q.1)) 1 10 with
     |some op=>
      simp only
      obtain ⟨z1,z2⟩:=H.f _ _ hfn
      rw [if_neg (by rw [z1];simp),if_neg (by rw [z2];simp)]
      have hne:1≤(wd (tb q.1)).length:=by
       cases hw:wd (tb q.1) with
       |nil=>rw [hw,H.f0] at hfn;cases hfn
       |cons c t=>simp
      have hlen:(wr (tb q.1)).length+1≤N:=by
       have:=congrArg List.length (wdr (tb q.1))
       simp only [List.length_append] at this
       omega
      obtain ⟨k1,k2⟩:=qJF (c:=40) (by decide) hl3
      cases f with
      |zero=>omega
      |succ f=>
       simp only [pP]
       by_cases ht:(sIs [40] (wr (tb q.1),q.2)).1=true
       ·rw [if_pos ht]
        have em:qB4 [40] (wr (tb q.1),p.2)=(qW [40] (wr (tb q.1),p.2)).2:=by
         unfold qB4
         rw [if_neg hpb,if_pos (k1▸ht)]
        rw [em]
        have hlt:=qDH (w:= [40]) (by simp) (k1.symm▸ht)
        have h2:=qx (wr (tb q.1))
        have h3:=qx (qW [40] (wr (tb q.1),p.2)).2.1
        simp only at hlt
        exact hC _ (by omega) _ _ deep op [] f g k2 rfl hd (by omega) (by omega) (by omega)
       ·rw [if_neg ht]
        have em:qB4 [40] (wr (tb q.1),p.2)=qQB (qW [40] (wr (tb q.1),p.2)).2:=by
         unfold qB4
         rw [if_neg hpb,if_neg (k1▸ht)]
        rw [em]
        exact .inr ⟨rfl,qCd f _ _ (qEp _)⟩
     |none=>
      simp only
      by_cases hw0:wd (tb q.1)= []
      ·rw [hw0,if_neg (fun e=>H.v0 e.2),if_neg (by rw [H.p0];simp),if_neg (fun e=>e.2 rfl),if_neg (by rw [H.p0];simp)]
       exact .inr ⟨rfl,qEp _⟩
      ·by_cases hv:(qf (BR (wd (tb q.1)))).2.2.2=true
       ·rw [if_pos ⟨hv,H.v _ (qQD _) hw0 hv⟩,if_pos ⟨hv,hw0⟩]
        exact qHj hl3
       ·have nv1:¬((qf (BR (wd (tb q.1)))).2.2.2=true∧((qf (BR (wd (tb q.1)))).1=1∨(qf (BR (wd (tb q.1)))).1=3)):=fun e=>hv e.1
        have nv2:¬((qf (BR (wd (tb q.1)))).2.2.2=true∧wd (tb q.1)≠ []):=fun e=>hv e.1
        rw [if_neg nv1,if_neg nv2]
        by_cases hp:(qAs (BR (wd (tb q.1)))).2.2.2.2=true
        ·rw [if_pos hp,if_pos hp]
         exact qHj hl3
        ·rw [if_neg hp,if_neg hp]
         exact .inr ⟨rfl,qEp _⟩
theorem qRm (H:RdOK) (N:Nat):qRg N∧qRh N∧qRH N∧qRi N:=by
 induction N using Nat.strongRecOn with
 |ind N ih=>
  have hA:=qRl H N (fun M h=>(ih M h).1) (fun M h=>(ih M h).2.2.1) (fun M h=>(ih M h).2.2.2)
  have hT:=qSc N (fun M h=>(ih M h).2.2.1) (fun M h=>(ih M h).2.1)
  have hB:=qRj N hA (fun M h=>(Nat.lt_or_eq_of_le h).elim (fun h=>(ih M h).2.1) (fun h=>h▸hT))
  exact ⟨hA,hT,hB,qRk H N hB (fun M h=>(ih M h).2.2.2)⟩
theorem qAI (r:List UInt8):(BR r).toList=r:=qBl r
theorem qb (r:List UInt8):(BR r).size=r.length:=by rw [←qAN,qAI]
theorem qH9 (s:ByteArray):BR s.toList=s:=qEG (qAI _)
theorem qE5 (r:List UInt8) (a b:Nat):(BR r).extract a b=BR ((r.take b).drop a):=by
 refine qEG ?_
 rw [qAI,Go.Lib.toList_data,ByteArray.data_extract,Array.toList_extract]
 simp [BR,List.extract_eq_take_drop,List.drop_take]
theorem qLy (a b:List UInt8):BR a++BR b=BR (a++b):=by
 refine qEG ?_
 rw [qAI,Go.Lib.toList_data]
 simp [BR]
theorem qR0:∀i:Fin 256,((⟨#[32]⟩:ByteArray).data.toList.contains (UInt8.ofNat i.val))=(UInt8.ofNat i.val==32):=by decide+kernel
def wcS:ByteArray:=⟨#[65,66,67,68,69,70,71,72,73,74,75,76,77,78,79,80,81,82,83,84,85,86,87,88,89,90,48,49,50,51,52,53,54,55,56,57,36]⟩
theorem qR1:∀i:Fin 256,(wcS.data.toList.contains (UInt8.ofNat i.val))=wch (UInt8.ofNat i.val):=by decide+kernel
theorem qQE {f g:UInt8→Bool} (h:∀i:Fin 256,f (UInt8.ofNat i.val)=g (UInt8.ofNat i.val)) (c:UInt8):f c=g c:=by
 have h:=h ⟨c.toNat,UInt8.toNat_lt c⟩
 have e:UInt8.ofNat c.toNat=c:=by simp
 simp only [e] at h
 exact h
theorem qQs (r:List UInt8):Ev (qA7 · (BR r) ⟨#[32]⟩) (BR (tb r)):=by
 refine ⟨1,fun n hn=>?_⟩
 obtain ⟨m,rfl,hm⟩:=up1 hn
 show zL (BR r) ⟨#[32]⟩=_
 unfold zL
 rw [if_pos ⟨by decide,by decide+kernel⟩]
 unfold Lib.trimLeftS tb
 have:(fun c=>(⟨#[32]⟩:ByteArray).data.toList.contains c)=(fun c=>c==32):=funext (qQE qR0)
 rw [this]
 rfl
theorem qQt (r:List UInt8):Ev (qA7 · (BR r) ⟨#[65,66,67,68,69,70,71,72,73,74,75,76,77,78,79,80,81,82,83,84,85,86,87,88,89,90,48,49,50,51,52,53,54,55,56,57,36]⟩) (BR (wr r)):=by
 refine ⟨1,fun n hn=>?_⟩
 obtain ⟨m,rfl,hm⟩:=up1 hn
 show zL (BR r) wcS=_
 unfold zL
 rw [if_pos ⟨by decide,by decide+kernel⟩]
 unfold Lib.trimLeftS wr
 have:(fun c=>wcS.data.toList.contains c)=wch:=funext (qQE qR1)
 rw [this]
 rfl
theorem qGU (r:List UInt8) (m:Nat) (b:Bool) (rows:List (List PV)):Ev (qAo · (BR r) m b rows) (BR (tb r),m,b,rows):=by
 obtain ⟨n1,h1⟩:=qQs r
 refine ⟨n1+1,fun n hn=>?_⟩
 obtain ⟨m,rfl,hm⟩:=up1 hn
 have h1:=h1 m (by omega)
 dsimp only at h1
 simp only [qAo,qDA,qC,qE,qH,qJ,qK,qM,Option.bind_some,qF,qN,qG,h1]
theorem qBN (m:Nat) (s w:List UInt8):qj (m+2) (BR s) (BR w)=some (w.isPrefixOf s):=by
 simp only [qj,qBp,qy,qAm,qC,qE,qH,qJ,qK,qM,Option.bind_some,qF,qN,qG,qb,qE5,qAI]
 by_cases h:w.length≤s.length
 ·have h1:((s.length:Nat):Int)≥((w.length:Nat):Int):=by omega
  simp [h1,h,List.isPrefixOf_iff_prefix,List.prefix_iff_eq_take]
  by_cases e:w=s.take w.length
  ·simp [←e,List.isPrefixOf_iff_prefix.2 (List.prefix_iff_eq_take.2 e)]
  ·have e2:¬s.take w.length=w:=fun h=>e h.symm
   have e3:w.isPrefixOf s=false:=by
    rw [Bool.eq_false_iff]
    intro hp
    exact e (List.prefix_iff_eq_take.1 (List.isPrefixOf_iff_prefix.1 hp))
   simp [e2,e3]
 ·have h1:¬((s.length:Nat):Int)≥((w.length:Nat):Int):=by omega
  have e3:w.isPrefixOf s=false:=by
   rw [Bool.eq_false_iff]
   intro hp
   exact h (List.isPrefixOf_iff_prefix.1 hp).length_le
  simp [h1,e3]
theorem qQF (s w:List UInt8):Ev (qj · (BR s) (BR w)) (w.isPrefixOf s):=by
 refine ⟨2,fun n hn=>?_⟩
 obtain ⟨m,rfl,hm⟩:=up1 hn
 obtain ⟨m,rfl,hm⟩:=up1 hm
 exact qBN m s w
def qPs:List (List PV):=qDq.map fun w=> [PV.s (BR w)]
theorem qOo {n:Nat} {r:List UInt8} (m:Nat) (b:Bool) (rows:List (List PV)) (h:∀w∈qDq,qj n (BR r) (BR w)=some (w.isPrefixOf r)):
  ∀(k i M:Nat),i+k=15→k+1≤M→zC (qB6 n) M (15,15,(i:Int),qPs,BR r,m,b,rows)=some (match (qDq.drop i).find? (fun w=>w.isPrefixOf r) with|some w=> .inl (BR w,BR r,m,b,rows)|none=> .inr (BR r,m,b,rows))
 |k,i,0,h1,h2=>by omega
 |0,i,M+1,h1,h2=>by
  have hi:i=15:=by omega
  subst hi
  rw [qP (r:= .inr (BR r,m,b,rows)) (by simp [qB6,qC,qE,qH,qJ,qK,qM,Option.bind_some,qF,qN,qG])]
  rfl
 |k+1,i,M+1,h1,h2=>by
  have hi:i<qDq.length:=by simp [qDq];omega
  obtain ⟨w,hw⟩:∃w,qDq[i]?=some w:=⟨_,List.getElem?_eq_getElem hi⟩
  have hR:qPs[i]?=some [PV.s (BR w)]:=by simp [qPs,List.getElem?_map,hw]
  have hl:qPs.length=15:=rfl
  have hc:zX [PV.s (BR w)] 0=some (BR w):=rfl
  have hp:=h w (List.mem_of_getElem? hw)
  have hd:qDq.drop i=w::qDq.drop (i+1):=qC2 hw
  have w5:IntKind.i64.wrap ((i:Int)+1)=((i+1:Nat):Int):=by rw [qZ (by omega)];omega
  rw [hd]
  simp only [List.find?_cons]
  cases hq:w.isPrefixOf r with
  |true=>
   rw [qP (r:= .inl (BR w,BR r,m,b,rows)) (by
    refine qD (by simp;omega) (qD (by simp [hl];omega) (qA hR (qA hc (qA (hp.trans (congrArg some hq)) (qD rfl rfl))))))]
  |false=>
   rw [qT (v':=(15,15,((i+1:Nat):Int),qPs,BR r,m,b,rows)) (by
    refine qD (by simp;omega) (qD (by simp [hl];omega) (qA hR (qA hc (qA (hp.trans (congrArg some hq)) (qO rfl ?_)))))
    rw [w5];rfl)]
   exact qOo m b rows h k (i+1) M (by omega) (by omega)
theorem qLz (r:List UInt8) (m:Nat) (b:Bool) (rows:List (List PV)):Ev (qBZ · (BR r) m b rows) (BR (sgn (tb r)),BR (tb r),m,b,rows):=by
 obtain ⟨n1,h1⟩:=qGU r m b rows
 obtain ⟨n2,h2⟩:=qB8 (F:=fun w n=>qj n (BR (tb r)) (BR w)) (f:=fun w=>w.isPrefixOf (tb r)) qDq (fun w _=>qQF (tb r) w)
 refine ⟨n1+n2+30,fun n hn=>?_⟩
 obtain ⟨k,rfl,hm⟩:=up1 hn
 have h1:=h1 k (by omega)
 have lp:=qOo m b rows (h2 k (by omega)) 15 0 k rfl (by omega)
 refine qA h1 (qA lp ?_)
 simp only [List.drop_zero]
 unfold sgn
 cases hq:qDq.find? (fun w=>w.isPrefixOf (tb r)) with
 |some w=>rfl
 |none=>rfl
theorem qQc (r:List UInt8):sgn r<+:r:=by
 unfold sgn
 split
 ·rename_i w hw
  have:=List.find?_some hw
  exact List.isPrefixOf_iff_prefix.1 (by simpa using this)
 ·exact List.nil_prefix
theorem qOp (w r:List UInt8) (m:Nat) (b:Bool) (rows:List (List PV)):Ev (ql · (BR w) (BR r) m b rows) (decide (sgn (tb r)=w),BR (if sgn (tb r)=w then (tb r).drop w.length else tb r),m,b,rows):=by
 obtain ⟨n1,h1⟩:=qLz r m b rows
 refine ⟨n1+1,fun n hn=>?_⟩
 obtain ⟨k,rfl,hm⟩:=up1 hn
 refine qA (h1 k (by omega)) ?_
 by_cases h:sgn (tb r)=w
 ·have hp:=(qQc (tb r)).length_le
  rw [h] at hp
  refine qO (by simp [qAI,h]) (qD (by simp [qb];omega) ?_)
  rw [qC,qb,qb,qE5]
  simp [h]
 ·refine qD (by simp [qAI,h]) ?_
  rw [qC]
  simp [h]
theorem qQu (r:List UInt8) (m:Nat) (b:Bool) (rows:List (List PV)) (hr:r.length≤1000):Ev (qA8 · (BR r) m b rows) (BR (wd (tb r)),BR (wr (tb r)),m,b,rows):=by
 obtain ⟨n1,h1⟩:=qGU r m b rows
 obtain ⟨n2,h2⟩:=qQt (tb r)
 refine ⟨n1+n2+1,fun n hn=>?_⟩
 obtain ⟨k,rfl,hm⟩:=up1 hn
 have hb:=qx r
 have hw:=qF5 (tb r)
 have hsum:=congrArg List.length (wdr (tb r))
 simp only [List.length_append] at hsum
 have e:IntKind.i64.wrap (((tb r).length:Int)-((wr (tb r)).length:Int))=((wd (tb r)).length:Int):=by rw [qZ (by omega)];omega
 refine qA (h1 k (by omega)) (qA (h2 k (by omega)) ?_)
 simp only [qb,e]
 refine qD (by simp;omega) (qD (by simp;omega) ?_)
 rw [qC]
 have t1:(wd (tb r)++wr (tb r)).take (wd (tb r)).length=wd (tb r):=List.take_left ..
 have t2:(wd (tb r)++wr (tb r)).drop (wd (tb r)).length=wr (tb r):=List.drop_left ..
 rw [wdr] at t1 t2
 simp [qE5,t1,t2]
def qEq (p:PS):ByteArray×Nat×Bool×List (List PV):=(BR p.1,p.2.2.length,p.2.1,p.2.2.map qa)
def qGA (r:Int×PS):Int×ByteArray×Nat×Bool×List (List PV):=(r.1,BR r.2.1,r.2.2.2.length,r.2.2.1,r.2.2.2.map qa)
def qOW (c:Nd):Prop:=(kd c).length≤2000∧c.2.2.2.2.1.size≤2000
structure Gd (p:PS):Prop where
 r:p.1.length≤1000
 n:p.2.2.length≤60
 s:∀x∈p.2.2,qOW x
theorem qL0 (x:Nd) (p:PS) (h:p.2.2.length≤60):Ev (qm · x.1 x.2.1 x.2.2.1 x.2.2.2.1 x.2.2.2.2.1 x.2.2.2.2.2.1 x.2.2.2.2.2.2.1 x.2.2.2.2.2.2.2.1 x.2.2.2.2.2.2.2.2.1 x.2.2.2.2.2.2.2.2.2.1 x.2.2.2.2.2.2.2.2.2.2.1 x.2.2.2.2.2.2.2.2.2.2.2.1 x.2.2.2.2.2.2.2.2.2.2.2.2.1 ((kd x).map qAz) (BR p.1) p.2.2.length p.2.1 (p.2.2.map qa)) (qGA (qC1 x p)):=by
 obtain ⟨r,b,l⟩:=p
 refine ⟨1,fun n hn=>?_⟩
 obtain ⟨m,rfl,hm⟩:=up1 hn
 replace h:l.length≤60:=h
 show qm (m+1) _ _ _ _ _ _ _ _ _ _ _ _ _ _ (BR r) l.length b (l.map qa)=_
 unfold qC1
 have w1:IntKind.i64.wrap (((l.length:Nat):Int)-1)=(l.length:Int)-1:=qZ (by omega)
 have w2:IntKind.i64.wrap ((((l.length+1):Nat):Int)-1)=(l.length:Int):=by rw [qZ (by omega)];omega
 cases b with
 |true=>
  rw [if_pos (.inl rfl)]
  refine qD rfl (qO rfl ?_)
  rw [qC,w1]
  rfl
 |false=>
  by_cases h6:60≤l.length
  ·rw [if_pos (.inr h6)]
   have d:decide (((l.length:Nat):Int)≥60)=true:=decide_eq_true (by omega)
   refine qO rfl (qO (by rw [d];rfl) ?_)
   rw [qC,w1,d]
   rfl
  ·have hn:¬(((r,false,l):PS).2.1=true∨60≤((r,false,l):PS).2.2.length):=by
    intro hh
    rcases hh with hh|hh
    ·exact absurd hh (by simp)
    ·exact h6 hh
   rw [if_neg hn]
   have d:decide (((l.length:Nat):Int)≥60)=false:=decide_eq_false (by omega)
   refine qO rfl (qD (by rw [d];rfl) (qD rfl (qD (decide_eq_true ⟨by simp,by decide,by decide,by simp;omega,rfl⟩) ?_)))
   rw [qC,w2,d]
   simp only [qGA,List.map_append,List.length_append]
   rfl
theorem qI5 (v:V3) (p:PS) (h:p.2.2.length≤60):Ev (qh · v.1 v.2.1 v.2.2 (BR p.1) p.2.2.length p.2.1 (p.2.2.map qa)) (qGA (qC1 (nd1 v) p)):=by
 obtain ⟨n1,h1⟩:=qL0 (nd1 v) p h
 refine ⟨n1+1,fun n hn=>?_⟩
 obtain ⟨k,rfl,hm⟩:=up1 hn
 exact qA (h1 k (by omega)) rfl
theorem qF6 {x:Nd} {p:PS} (h:Gd p) (hx:qOW x):Gd (qC1 x p).2:=by
 unfold qC1
 split
 ·exact ⟨h.r,h.n,h.s⟩
 ·rename_i hh
  refine ⟨h.r,?_,fun y hy=>?_⟩
  ·have:¬60≤p.2.2.length:=fun e=>hh (.inr e)
   simp;omega
  ·simp at hy
   rcases hy with hy|rfl
   ·exact h.s _ hy
   ·exact hx
theorem qCS {w:List UInt8} {p:PS} (h:Gd p):Gd (qW w p).2:=by
 have:=qHh w p
 have h2:=qx p.1
 have h3:=h.r
 refine ⟨by omega,?_,?_⟩
 ·unfold qW;split<;>exact h.n
 ·unfold qW;split<;>exact h.s
theorem qFN (w:List UInt8) (p:PS):Ev (ql · (BR w) (BR p.1) p.2.2.length p.2.1 (p.2.2.map qa)) ((qW w p).1,qEq (qW w p).2):=by
 obtain ⟨n1,h1⟩:=qOp w p.1 p.2.2.length p.2.1 (p.2.2.map qa)
 refine ⟨n1,fun n hn=>?_⟩
 have h1:=h1 n hn
 unfold qW
 by_cases h:sgn (tb p.1)=w
 ·simp only [h,if_true,decide_true] at h1
  rw [if_pos h];exact h1
 ·simp only [h,if_false,decide_false] at h1
  rw [if_neg h];exact h1
theorem qPL (p:PS) (h:p.1.length≤1000):Ev (qA8 · (BR p.1) p.2.2.length p.2.1 (p.2.2.map qa)) (BR (wd (tb p.1)),qEq (wr (tb p.1),p.2)):=qQu p.1 _ _ _ h
theorem qPM (r:List UInt8):(wd r).length≤r.length:=by
 have:=congrArg List.length (wdr r)
 simp only [List.length_append] at this
 omega
theorem qRI (r:List UInt8) (h:r.length≤1000):Ev (qAa · (BR (wd (tb r)))) (qAs (BR (wd (tb r)))):=qK1 _ (by rw [qb];have:=qPM (tb r);have:=qx r;omega)
theorem qST (r:List UInt8) (h:r.length≤1000):Ev (qd · (BR (wd (tb r)))) (qf (BR (wd (tb r)))):=qGQ _ (by rw [qb];have:=qPM (tb r);have:=qx r;omega)
theorem qPt (c:UInt8) (t:List UInt8):Lib.cut (c::t) [34]=if c=34 then ([],t,true) else (c::(Lib.cut t [34]).1,(Lib.cut t [34]).2.1,(Lib.cut t [34]).2.2):=by
 by_cases h:c=34
 ·subst h
  rw [if_pos rfl]
  simp [Lib.cut,Lib.index,List.isPrefixOf]
 ·rw [if_neg h]
  have h':¬34=c:=fun e=>h e.symm
  have g:=Lib.index_ge t [34]
  unfold Lib.cut
  by_cases e:Lib.index t [34]= -1
  ·have:Lib.index (c::t) [34]= -1:=by simp [Lib.index,List.isPrefixOf,h',e]
   simp [this,e]
  ·have:Lib.index (c::t) [34]=Lib.index t [34]+1:=by simp [Lib.index,List.isPrefixOf,h',e]
   have p:0≤Lib.index t [34]:=by omega
   have p1:0≤Lib.index t [34]+1:=by omega
   have q:(Lib.index t [34]+1).toNat=(Lib.index t [34]).toNat+1:=by omega
   simp [this,p,p1,q]
theorem qR2 (acc t:List UInt8):qBs acc (34::34::t)=qBs (acc++ [34]) t:=(qBs.eq_def acc _).trans (by simp)
theorem qR3 (acc t:List UInt8) (h:t.head?≠some 34):qBs acc (34::t)=some (acc,t):=by
 refine (qBs.eq_def acc _).trans ?_
 cases t with
 |nil=>simp
 |cons d t=>
  have:¬d=34:=fun e=>h (by rw [e];rfl)
  simp [this]
theorem qR4 (acc t:List UInt8) {c:UInt8} (h:¬c=34):qBs acc (c::t)=qBs (acc++ [c]) t:=(qBs.eq_def acc _).trans (by simp only [if_neg h])
theorem up3 {n n0:Nat} (h:n0+3≤n):∃m,n=m+3∧n0≤m:=⟨n-3,by omega,by omega⟩
theorem qOq:∀(r acc:List UInt8),qBs acc r=if (Lib.cut r [34]).2.2=true then (if (Lib.cut r [34]).2.1.head?=some 34 then qBs (acc++(Lib.cut r [34]).1++ [34]) (Lib.cut r [34]).2.1.tail else some (acc++(Lib.cut r [34]).1,(Lib.cut r [34]).2.1)) else none
 | [],acc=>by simp [qBs,Lib.cut,Lib.index]
 |c::t,acc=>by
  rw [qPt]
  by_cases h:c=34
  ·subst h
   rw [if_pos rfl]
   by_cases e:t.head?=some 34
   ·obtain ⟨u,rfl⟩:∃u,t=34::u:=by
     cases t with
     |nil=>cases e
     |cons d u=>simp at e;subst e;exact ⟨u,rfl⟩
    rw [qR2];simp
   ·rw [qR3 acc t e];simp [e]
  ·simp only [if_neg h]
   rw [qR4 acc t h,qOq t (acc++ [c])]
   simp
theorem qQd:∀r:List UInt8,(Lib.cut r [34]).1.length+(Lib.cut r [34]).2.1.length≤r.length∧((Lib.cut r [34]).2.2=true→(Lib.cut r [34]).2.1.length<r.length)
 | []=>by simp [Lib.cut,Lib.index]
 |c::t=>by
  rw [qPt]
  have ih:=qQd t
  split
  ·simp
  ·simp only [List.length_cons]
   exact ⟨by omega,fun h=>by have:=ih.2 h;omega⟩
theorem qF7:∀(k:Nat) (acc r:List UInt8) {s t:List UInt8},r.length≤k→qBs acc r=some (s,t)→s.length≤acc.length+r.length+1
 |k,acc,[],s,t,hk,h=>by simp [qBs] at h
 |0,acc,c::r,s,t,hk,h=>by simp at hk
 |k+1,acc,c::r,s,t,hk,h=>by
  simp only [List.length_cons] at hk
  unfold qBs at h
  split at h
  ·cases r with
   |nil=>
    simp at h
    rw [←h.1];simp;omega
   |cons d r'=>
    simp only at h
    split at h
    ·have:=qF7 k _ r' (by simp at hk;omega) h
     simp at this⊢;omega
    ·simp at h
     rw [←h.1];simp;omega
  ·have:=qF7 k _ r (by omega) h
   simp at this⊢;omega
theorem qR5 (m:Nat) (r:List UInt8) (h:r.length≤1000):qGl (m+1) (BR r) ⟨#[34]⟩=some (BR (Lib.cut r [34]).1,BR (Lib.cut r [34]).2.1,(Lib.cut r [34]).2.2):=by
 show zAK (BR r) ⟨#[34]⟩=_
 unfold zAK
 rw [if_pos (by rw [qb];omega),←Go.Lib.toList_data (BR r),qAI]
 rfl
theorem qME (n:Nat) (orig:ByteArray) (m:Nat) (b:Bool) (rows:List (List PV)):∀(k:Nat) (r acc:List UInt8) (M:Nat),r.length≤k→acc.length+r.length≤1000→k+1≤M→
  zC (qCl (n+2)) M (BR acc,BR r,orig,m,b,rows)=some (match qBs acc r with
   |none=> .inl (-1,orig,m,true,rows)
   |some (s,t)=> .inr (BR s,BR t,orig,m,b,rows))
 |k,r,acc,0,h1,h2,h3=>by omega
 |k,r,acc,M+1,h1,h2,h3=>by
  have hc:=qR5 (n+1) r (by omega)
  have hl:=qQd r
  have hp:=qBN n (Lib.cut r [34]).2.1 [34]
  rw [qOq]
  cases hf:(Lib.cut r [34]).2.2 with
  |false=>
   rw [if_neg (by simp)]
   refine (qP (r:= .inl (-1,orig,m,true,rows)) ?_).trans rfl
   refine qA hc (qD (by simp [hf]) rfl)
  |true=>
   rw [if_pos rfl]
   have hlt:=hl.2 hf
   by_cases hh:(Lib.cut r [34]).2.1.head?=some 34
   ·rw [if_pos hh]
    have hb:List.isPrefixOf [34] (Lib.cut r [34]).2.1=true:=(qEJ 34 _).2 hh
    obtain ⟨u,hu⟩:∃u,(Lib.cut r [34]).2.1=34::u:=by
     cases e:(Lib.cut r [34]).2.1 with
     |nil=>rw [e] at hh;cases hh
     |cons c u=>rw [e] at hh;simp at hh;subst hh;exact ⟨u,rfl⟩
    rw [hb] at hp
    rw [qT (v':=(BR (acc++(Lib.cut r [34]).1++ [34]),BR (Lib.cut r [34]).2.1.tail,orig,m,b,rows)) (by
     refine qA hc (qO (by simp [hf]) (qD (decide_eq_true (by rw [qb,qb];omega)) (qA hp (qO rfl (qD (decide_eq_true (by rw [qLy,qb,List.length_append];show _+1≤9223372036854775807;omega)) (qD (decide_eq_true ⟨by decide,by simp only [qb];rw [hu];simp;omega,by simp [qb]⟩) ?_))))))
     rw [qC]
     simp only [qLy,qb,qE5]
     rw [hu]
     simp
     exact (qLy (acc++(Lib.cut r [34]).1) [34]).trans (by rw [List.append_assoc]))]
    rw [hu] at hl hlt⊢
    simp only [List.length_cons] at hl hlt
    refine qME n orig m b rows (k-1) _ _ M (by simp;omega) (by simp;omega) (by omega)
   ·rw [if_neg hh]
    have hb:List.isPrefixOf [34] (Lib.cut r [34]).2.1=false:=by
     rw [Bool.eq_false_iff];intro e;exact hh ((qEJ 34 _).1 e)
    rw [hb] at hp
    refine (qP (r:= .inr (BR (acc++(Lib.cut r [34]).1),BR (Lib.cut r [34]).2.1,orig,m,b,rows)) ?_).trans rfl
    refine qA hc (qO (by simp [hf]) (qD (decide_eq_true (by rw [qb,qb];omega)) (qA hp (qD rfl ?_))))
    rw [qC,qLy]
theorem qQv (t:List UInt8) (b:Bool) (l:List Nd) (h:t.length≤999) (hl:l.length≤60):Ev (qDB · (BR (34::t)) l.length b (l.map qa)) (qGA (match qBs [] t with
   |none=>(-1,34::t,true,l)
   |some (s,t')=>qC1 (nd1 (2,0,BR s)) (t',b,l))):=by
 have lp:=fun n M (hM:t.length+1≤M)=>qME n (BR (34::t)) l.length b (l.map qa) t.length t [] M (Nat.le_refl _) (by simp;omega) hM
 cases hq:qBs [] t with
 |none=>
  refine ⟨t.length+1+3,fun n hn=>?_⟩
  obtain ⟨m,rfl,hm⟩:=up3 hn
  have lp:=lp m (m+2) (by omega)
  rw [hq] at lp
  refine qD (decide_eq_true ⟨by decide,by rw [qb];simp;omega,Int.le_refl _⟩) ?_
  have e:(BR (34::t)).extract ((1:Int)).toNat ((((BR (34::t)).size:Nat):Int)).toNat=BR t:=by rw [qE5,qb];simp
  rw [e]
  exact qA lp rfl
 |some st=>
  obtain ⟨s,t'⟩:=st
  obtain ⟨n1,h1⟩:=qI5 (2,0,BR s) (t',b,l) hl
  refine ⟨n1+t.length+1+3,fun n hn=>?_⟩
  obtain ⟨m,rfl,hm⟩:=up3 hn
  have lp:=lp m (m+2) (by omega)
  rw [hq] at lp
  refine qD (decide_eq_true ⟨by decide,by rw [qb];simp;omega,Int.le_refl _⟩) ?_
  have e:(BR (34::t)).extract ((1:Int)).toNat ((((BR (34::t)).size:Nat):Int)).toNat=BR t:=by rw [qE5,qb];simp
  rw [e]
  exact qA lp (qA (h1 (m+2) (by omega)) rfl)
theorem qRn (m:Nat) (r:List UInt8) (w:ByteArray):qAA (m+1) (BR r) w=some (BR (if w.toList.isPrefixOf r=true then r.drop w.size else r),w.toList.isPrefixOf r):=by
 show zU (BR r) w=_
 unfold zU Lib.trimPrefix Lib.hasPrefix
 rw [←Go.Lib.toList_data (BR r),←Go.Lib.toList_data w,qAI,qAN]
 rfl
theorem qPu {n:Nat} (deep:Int) (r:List UInt8) (b:Bool) (l:List Nd)
  (h1:∀i,0≤i∧i≤5→qAZ n i=some (qe i)) (h2:∀i,1≤i∧i≤5→qBg n i=some (4,i,em))
  (h3:∀w,qAA n (BR r) w=some (BR (if w.toList.isPrefixOf r=true then r.drop w.size else r),w.toList.isPrefixOf r))
  (h4:∀i,1≤i∧i≤5→qh n 4 i em (BR (r.drop (qe i).size)) l.length b (l.map qa)=some (qGA (qC1 (nd1 (4,i,em)) (r.drop (qe i).size,b,l)))):
  ∀(k:Nat) (i:Int) (M:Nat),1≤i→i+k=6→k+1≤M→zC (qBt n) M (deep,i,BR r,l.length,b,l.map qa)=some (match qH8 r i k with
   |some e=> .inl (qGA (qC1 (nd1 (4,e,em)) (r.drop (qe e).size,b,l)))
   |none=> .inr (deep,BR r,l.length,b,l.map qa))
 |k,i,0,_,_,h=>by omega
 |0,i,M+1,hi,hk,h=>by
  rw [qP (r:= .inr (deep,BR r,l.length,b,l.map qa)) (by exact qO (decide_eq_false (show ¬i≤5 by omega)) rfl)]
  rfl
 |k+1,i,M+1,hi,hk,h=>by
  have hi5:1≤i∧i≤5:=⟨hi,by omega⟩
  have c:=h3 (qe i)
  cases hq:(qe i).toList.isPrefixOf r with
  |true=>
   rw [hq,if_pos rfl] at c
   unfold qH8
   rw [if_pos hq]
   refine qP (qD (decide_eq_true (show i≤5 by omega)) (qA (h1 i ⟨by omega,by omega⟩) (qA c (qD rfl (qA (h2 i hi5) (qA (h4 i hi5) rfl))))))
  |false=>
   rw [hq,if_neg (by simp)] at c
   unfold qH8
   rw [if_neg (by rw [hq];simp)]
   have w1:IntKind.i64.wrap (i+1)=i+1:=qZ (by omega)
   rw [qT (v':=(deep,i+1,BR r,l.length,b,l.map qa)) (by refine qD (decide_eq_true (show i≤5 by omega)) (qA (h1 i ⟨by omega,by omega⟩) (qA c (qO rfl ?_)));rw [qC,w1])]
   exact qPu deep r b l h1 h2 h3 h4 k (i+1) M (by omega) (by omega) (by omega)
theorem qR6 (deep:Int) (r:List UInt8) (b:Bool) (l:List Nd) (hl:l.length≤60):∃n0,∀n,n0≤n→∀M,n0≤M→zC (qBt n) M (deep,1,BR r,l.length,b,l.map qa)=some (match qH8 r 1 5 with
   |some e=> .inl (qGA (qC1 (nd1 (4,e,em)) (r.drop (qe e).size,b,l)))
   |none=> .inr (deep,BR r,l.length,b,l.map qa)):=by
 obtain ⟨n1,h1⟩:=qFK (F:=qAZ) (f:=qe) (lo:=0) (by decide) qEH
 obtain ⟨n2,h2⟩:=qFK (F:=qBg) (f:=fun i=>(4,i,em)) (lo:=1) (by decide) (fun i _=>qJt i)
 obtain ⟨n4,h4⟩:=qFK (F:=fun n i=>qh n 4 i em (BR (r.drop (qe i).size)) l.length b (l.map qa)) (f:=fun i=>qGA (qC1 (nd1 (4,i,em)) (r.drop (qe i).size,b,l))) (lo:=1) (by decide) (fun i _=>qI5 (4,i,em) (r.drop (qe i).size,b,l) hl)
 refine ⟨n1+n2+n4+7,fun n hn M hM=>?_⟩
 exact qPu deep r b l (h1 n (by omega)) (h2 n (by omega)) (fun w=>by
  obtain ⟨m,rfl,_⟩:=up1 (show n1+1≤n by omega)
  exact qRn m r w) (h4 n (by omega)) 5 1 M (by omega) (by omega) (by omega)
theorem qQe {g:G_impl_reader_binary} {n:Nat} (deep:Int) (w:List UInt8) (p:PS) (res:Int→Int×PS) (h1:∀i,1≤i∧i≤10→qBw n i=some (fnS i)):
  ∀(k:Nat) (i:Int) (M:Nat),1≤i→i+k=11→k+1≤M→(∀op,qFM w i k=some op→g.impl_reader_call op deep (BR p.1) p.2.2.length p.2.1 (p.2.2.map qa)=some (qGA (res op)))→
   zC (qAe g n) M (deep,BR w,i,BR p.1,p.2.2.length,p.2.1,p.2.2.map qa)=some (match qFM w i k with
   |some op=> .inl (qGA (res op))
   |none=> .inr (qEq p))
 |k,i,0,_,_,h,_=>by omega
 |0,i,M+1,hi,hk,h,_=>by
  rw [qP (r:= .inr (qEq p)) (by exact qO (decide_eq_false (show ¬i≤10 by omega)) rfl)]
  rfl
 |k+1,i,M+1,hi,hk,h,hc=>by
  unfold qFM at hc⊢
  by_cases hq:(fnS i).toList=w
  ·rw [if_pos hq] at hc⊢
   refine qP (qD (decide_eq_true (show i≤10 by omega)) (qA (h1 i ⟨hi,by omega⟩) (qD (by simp [qAI,hq]) (qA (hc i rfl) rfl))))
  ·rw [if_neg hq] at hc⊢
   have w1:IntKind.i64.wrap (i+1)=i+1:=qZ (by omega)
   have hq':¬w=(fnS i).toList:=fun e=>hq e.symm
   rw [qT (v':=(deep,BR w,i+1,BR p.1,p.2.2.length,p.2.1,p.2.2.map qa)) (by refine qD (decide_eq_true (show i≤10 by omega)) (qA (h1 i ⟨hi,by omega⟩) (qO (by simp [qAI,hq']) ?_));rw [qC,w1])]
   exact qQe deep w p res h1 k (i+1) M (by omega) (by omega) (by omega) hc
theorem qR7:∃n0,∀n,n0≤n→∀i,1≤i∧i≤10→qBw n i=some (fnS i):=by
 obtain ⟨n1,h1⟩:=qB8 (F:=fun (i:Nat) n=>qBw n ((i:Int)+1)) (f:=fun i=>fnS ((i:Int)+1)) (List.range 10) (fun i hi=>qI2 _ (by have:=List.mem_range.1 hi;omega))
 refine ⟨n1,fun n hn i hi=>?_⟩
 have:=h1 n hn (i-1).toNat (List.mem_range.2 (by omega))
 rwa [show (((i-1).toNat:Nat):Int)+1=i by omega] at this
theorem qR8:∃n0,∀n,n0≤n→∀i,1≤i∧i≤11→qBF n i=some (qAH i):=by
 obtain ⟨n1,h1⟩:=qB8 (F:=fun (i:Nat) n=>qBF n ((i:Int)+1)) (f:=fun i=>qAH ((i:Int)+1)) (List.range 11) (fun i hi=>qF4 _ (by have:=List.mem_range.1 hi;omega))
 refine ⟨n1,fun n hn i hi=>?_⟩
 have:=h1 n hn (i-1).toNat (List.mem_range.2 (by omega))
 rwa [show (((i-1).toNat:Nat):Int)+1=i by omega] at this
def opF (s:List UInt8):Int→Int→Nat→Int
 |op,_,0=>op
 |op,i,k+1=>opF s (if s=(qAH i).toList then i else op) (i+1) k
theorem qR9 (r:List UInt8):opF (sgn r) 0 1 11=qAk r:=by
 unfold qAk
 generalize sgn r=s
 by_cases h1:s= [43]; · subst h1;decide+kernel
 by_cases h2:s= [45]; · subst h2;decide+kernel
 by_cases h3:s= [42]; · subst h3;decide+kernel
 by_cases h4:s= [47]; · subst h4;decide+kernel
 by_cases h5:s= [38]; · subst h5;decide+kernel
 by_cases h6:s= [61]; · subst h6;decide+kernel
 by_cases h7:s= [60,62]; · subst h7;decide+kernel
 by_cases h8:s= [60]; · subst h8;decide+kernel
 by_cases h9:s= [60,61]; · subst h9;decide+kernel
 by_cases h10:s= [62]; · subst h10;decide+kernel
 by_cases h11:s= [62,61]; · subst h11;decide+kernel
 rw [if_neg h1,if_neg h2,if_neg h3,if_neg h4,if_neg h5,if_neg h6,if_neg h7,if_neg h8,if_neg h9,if_neg h10,if_neg h11]
 rw [←sg1] at h1;rw [←sg2] at h2;rw [←sg3] at h3;rw [←sg4] at h4;rw [←sg5] at h5;rw [←sg6] at h6;rw [←sg7] at h7;rw [←sg8] at h8;rw [←sg9] at h9;rw [←qRE] at h10;rw [←qRF] at h11
 simp only [opF,if_neg h1]
 simp only [show (1:Int)+1=2 from rfl,if_neg h2,show (2:Int)+1=3 from rfl,if_neg h3,show (3:Int)+1=4 from rfl,if_neg h4,show (4:Int)+1=5 from rfl,if_neg h5,show (5:Int)+1=6 from rfl,if_neg h6,show (6:Int)+1=7 from rfl,if_neg h7,show (7:Int)+1=8 from rfl,if_neg h8,show (8:Int)+1=9 from rfl,if_neg h9,show (9:Int)+1=10 from rfl,if_neg h10,show (10:Int)+1=11 from rfl,if_neg h11]
theorem qPv {n:Nat} (least deep a op i:Int) (r R:List UInt8) (m:Nat) (b:Bool) (rows:List (List PV)) (hi:1≤i∧i≤11)
  (h1:qBZ n (BR r) m b rows=some (BR (sgn R),BR R,m,b,rows)) (h2:qBF n i=some (qAH i)):
  (qA3 n (least,deep,a,op,i,BR r,m,b,rows)).run=some (.inl (least,deep,a,if sgn R=(qAH i).toList then i else op,i+1,BR R,m,b,rows)):=by
 have w1:IntKind.i64.wrap (i+1)=i+1:=qZ (by omega)
 refine qD (decide_eq_true (show i≤11 by omega)) (qA h1 (qA h2 ?_))
 by_cases hq:sgn R=(qAH i).toList
 ·rw [if_pos hq]
  exact qD (by simp [qAI,hq]) (by rw [qC,w1])
 ·rw [if_neg hq]
  exact qO (by simp [qAI,hq]) (by rw [qC,w1])
theorem qPw {n:Nat} (least deep a:Int) (R:List UInt8) (m:Nat) (b:Bool) (rows:List (List PV))
  (h1:qBZ n (BR R) m b rows=some (BR (sgn R),BR R,m,b,rows)) (h2:∀i,1≤i∧i≤11→qBF n i=some (qAH i)):
  ∀(k:Nat) (op i:Int) (M:Nat),1≤i→i+k=12→k+1≤M→zC (qA3 n) M (least,deep,a,op,i,BR R,m,b,rows)=some (least,deep,a,opF (sgn R) op i k,BR R,m,b,rows)
 |k,op,i,0,_,_,h=>by omega
 |0,op,i,M+1,hi,hk,h=>by
  rw [qP (r:=(least,deep,a,op,BR R,m,b,rows)) (by exact qO (decide_eq_false (show ¬i≤11 by omega)) rfl)]
  rfl
 |k+1,op,i,M+1,hi,hk,h=>by
  rw [qT (qPv least deep a op i R R m b rows ⟨hi,by omega⟩ h1 (h2 i ⟨hi,by omega⟩))]
  exact qPw least deep a R m b rows h1 h2 k _ (i+1) M (by omega) (by omega) (by omega)
theorem qRo (least deep a:Int) (r:List UInt8) (m:Nat) (b:Bool) (rows:List (List PV)):∃n0,∀n,n0≤n→∀M,n0≤M→zC (qA3 n) M (least,deep,a,0,1,BR r,m,b,rows)=some (least,deep,a,qAk (tb r),BR (tb r),m,b,rows):=by
 obtain ⟨n1,h1⟩:=qLz r m b rows
 obtain ⟨n2,h2⟩:=qLz (tb r) m b rows
 obtain ⟨n3,h3⟩:=qR8
 refine ⟨n1+n2+n3+20,fun n hn M hM=>?_⟩
 obtain ⟨M,rfl,hM⟩:=up1 hM
 have h2:=h2 n (by omega)
 rw [qCB] at h2
 rw [qT (qPv least deep a 0 1 r (tb r) m b rows (by omega) (h1 n (by omega)) (h3 n (by omega) 1 (by omega)))]
 rw [show (1:Int)+1=2 from rfl,qPw least deep a (tb r) m b rows h2 (h3 n (by omega)) 10 _ 2 M (by omega) (by omega) (by omega),←qR9]
 rfl
theorem qQf {p:PS} (h:Gd p):Gd (qA5 p).2∧(qA5 p).2.1.length≤p.1.length∧∀x,(qA5 p).1=some x→qOW x:=by
 have h1:=qx p.1
 have h2:=qF5 (tb p.1)
 have h0:=h.r
 unfold qA5
 simp only
 split
 ·have h3:=qHh [58] (wr (tb p.1),p.2)
  have h4:=qx (qW [58] (wr (tb p.1),p.2)).2.1
  have h5:=qF5 (tb (qW [58] (wr (tb p.1),p.2)).2.1)
  have h6:=qx (wr (tb p.1))
  have e:(qW [58] (wr (tb p.1),p.2)).2.2.2=p.2.2:=by unfold qW;split<;>rfl
  simp only at h3
  refine ⟨⟨by simp only;omega,by rw [e];exact h.n,by rw [e];exact h.s⟩,by simp only;omega,fun x hx=>?_⟩
  cases hx
  exact ⟨by simp [kd,ndA],by simp [ndA,em];decide⟩
 ·exact ⟨h,Nat.le_refl _,fun x hx=>by cases hx⟩
theorem qRp (p:PS) (h:p.1.length≤1000):∃x:Nd,(∀y,(qA5 p).1=some y→x=y)∧Ev (qCs · (BR p.1) p.2.2.length p.2.1 (p.2.2.map qa)) (x.1,x.2.1,x.2.2.1,x.2.2.2.1,x.2.2.2.2.1,x.2.2.2.2.2.1,x.2.2.2.2.2.2.1,x.2.2.2.2.2.2.2.1,x.2.2.2.2.2.2.2.2.1,x.2.2.2.2.2.2.2.2.2.1,x.2.2.2.2.2.2.2.2.2.2.1,x.2.2.2.2.2.2.2.2.2.2.2.1,x.2.2.2.2.2.2.2.2.2.2.2.2.1,(kd x).map qAz,(qA5 p).1.isSome,qEq (qA5 p).2):=by
 have l1:=qx p.1
 have l2:=qF5 (tb p.1)
 have l3:=qHh [58] (wr (tb p.1),p.2)
 have l6:=qx (wr (tb p.1))
 simp only at l3
 obtain ⟨n1,h1⟩:=qPL p h
 obtain ⟨n2,h2⟩:=qRI p.1 h
 obtain ⟨n3,h3⟩:=qFN [58] (wr (tb p.1),p.2)
 have hle:(qW [58] (wr (tb p.1),p.2)).2.1.length≤1000:=by omega
 obtain ⟨n4,h4⟩:=qPL (qW [58] (wr (tb p.1),p.2)).2 hle
 obtain ⟨n5,h5⟩:=qRI (qW [58] (wr (tb p.1),p.2)).2.1 hle
 have e:(qW [58] (wr (tb p.1),p.2)).2.2=p.2:=by unfold qW;split<;>rfl
 unfold qA5
 simp only
 by_cases hc:(qAs (BR (wd (tb p.1)))).2.2.2.2=true∧(qW [58] (wr (tb p.1),p.2)).1=true
 ·rw [if_pos hc]
  refine ⟨_,fun y hy=>by cases hy;rfl,n1+n2+n3+n4+n5+1,fun n hn=>?_⟩
  obtain ⟨k,rfl,hm⟩:=up1 hn
  refine qA (h1 k (by omega)) (qA (h2 k (by omega)) (qD hc.1 (qA (h3 k (by omega)) (qO (by simp only;rw [hc.2];rfl) (qA (h4 k (by omega)) (qA (h5 k (by omega)) ?_))))))
  cases hb:(qW [58] (wr (tb p.1),p.2)).2.2.1 with
  |true=>
   refine qD hb ?_
   rw [qC];rfl
  |false=>
   refine qO hb ?_
   rw [qC];rfl
 ·rw [if_neg hc]
  refine ⟨(0,0,0,0,⟨#[]⟩,0,0,false,false,0,0,false,false,[]),fun y hy=>(by cases hy),n1+n2+n3+1,fun n hn=>?_⟩
  obtain ⟨k,rfl,hm⟩:=up1 hn
  cases hr:(qAs (BR (wd (tb p.1)))).2.2.2.2 with
  |false=>exact qA (h1 k (by omega)) (qA (h2 k (by omega)) (qO hr rfl))
  |true=>
   have ht:(qW [58] (wr (tb p.1),p.2)).1=false:=by
    rw [Bool.eq_false_iff];exact fun e=>hc ⟨hr,e⟩
   refine qA (h1 k (by omega)) (qA (h2 k (by omega)) (qD hr (qA (h3 k (by omega)) (qD (by simp only;rw [ht];rfl) ?_))))
   rw [qC]
   simp only [qEq,e]
   rfl
theorem qI6 {s:ByteArray} (h:(qf s).2.2.2=true) (hk:(qf s).1=1∨(qf s).1=3):(qf s).2.2.1.size≤2000:=by
 unfold qf at h hk⊢
 split at h
 ·rename_i hc
  rw [if_pos hc] at hk⊢
  have h1:=hc.1
  unfold okV at h1
  have h2:¬(qA6 s).1=2:=by
   simp only at hk
   omega
  rw [if_neg h2] at h1
  simp only [Bool.and_eq_true,beq_iff_eq] at h1
  have:=congrArg List.length h1.1
  rw [qAN] at this
  have h0:(qA6 s).2.2.size=0:=this
  show (qA6 s).2.2.size≤2000
  omega
 ·cases h
def Kj:PJ→PS→Prop
 | .args _ _ kids,p=>kids.length+p.1.length≤1500
 |_,_=>True
theorem qJG {w:List UInt8} {p:PS} (h:Gd p):Gd (qB4 w p)∧(qB4 w p).1.length≤p.1.length:=by
 have h1:=qHh w p
 have h2:=qx p.1
 unfold qB4
 split
 ·exact ⟨h,Nat.le_refl _⟩
 ·split
  ·exact ⟨qCS h,by omega⟩
  ·exact ⟨⟨(qCS h).r,(qCS h).n,(qCS h).s⟩,by show (qW w p).2.1.length≤_;omega⟩
theorem qK9 {p:PS} {r:List UInt8} (h:Gd p) (hr:r.length≤p.1.length):Gd (r,p.2):=⟨by have:=h.r;simp only;omega,h.n,h.s⟩
theorem qEM:∀(f:Nat) (j:PJ) (p:PS),Gd p→Kj j p→Gd (pP f j p).2∧(pP f j p).2.1.length≤p.1.length
 |0,j,p,h,_=>⟨h,Nat.le_refl _⟩
 |f+1,.bin least deep,p,h,_=>by
  unfold pP
  have a:=qEM f (.un deep) p h trivial
  have b:=qEM f (.loop least deep (pP f (.un deep) p).1) (pP f (.un deep) p).2 a.1 trivial
  exact ⟨b.1,Nat.le_trans b.2 a.2⟩
 |f+1,.loop least deep a,p,h,_=>by
  have h1:=qx p.1
  unfold pP
  split
  ·exact ⟨h,Nat.le_refl _⟩
  ·split
   ·exact ⟨qK9 h h1,h1⟩
   ·have l1:((tb p.1).drop (sgn (tb p.1)).length).length≤p.1.length:=by simp;omega
    have b:=qEM f (.bin (lvl (qAk (tb p.1))+1) deep) ((tb p.1).drop (sgn (tb p.1)).length,p.2) (qK9 h l1) trivial
    simp only
    have c:=qF6 (x:=ndK 5 (qAk (tb p.1)) [a,(pP f (.bin (lvl (qAk (tb p.1))+1) deep) ((tb p.1).drop (sgn (tb p.1)).length,p.2)).1]) b.1 ⟨by simp [kd,ndK],by simp [ndK,em];decide⟩
    have d:=qEM f (.loop least deep (qC1 (ndK 5 (qAk (tb p.1)) [a,(pP f (.bin (lvl (qAk (tb p.1))+1) deep) ((tb p.1).drop (sgn (tb p.1)).length,p.2)).1]) (pP f (.bin (lvl (qAk (tb p.1))+1) deep) ((tb p.1).drop (sgn (tb p.1)).length,p.2)).2).1) _ c trivial
    refine ⟨d.1,Nat.le_trans d.2 ?_⟩
    rw [qAr]
    exact Nat.le_trans b.2 l1
 |f+1,.un deep,p,h,_=>by
  have h1:=qx p.1
  have h2:=qHh [45] p
  unfold pP
  split
  ·exact ⟨⟨h.r,h.n,h.s⟩,Nat.le_refl _⟩
  ·split
   ·simp only
    have b:=qEM f (.un (deep+1)) (qW [45] p).2 (qCS h) trivial
    refine ⟨qF6 b.1 ⟨by simp [kd,ndK],by simp [ndK,em];decide⟩,?_⟩
    rw [qAr]
    exact Nat.le_trans b.2 (by omega)
   ·have b:=qEM f (.at deep) (qW [45] p).2 (qCS h) trivial
    exact ⟨b.1,Nat.le_trans b.2 (by omega)⟩
 |f+1,.at deep,p,h,_=>by
  have h1:=qx p.1
  have h2:=qHh [40] p
  have h3:=qF5 (tb p.1)
  have h4:=h.r
  have g2:Gd (wr (tb p.1),p.2):=qK9 h (by omega)
  unfold pP
  simp only
  split
  ·split
   ·exact ⟨⟨by simp only;omega,h.n,h.s⟩,h1⟩
   ·rename_i hh _ s t hq
    have a:=qJE _ _ hq
    have b:=qF7 _ _ _ (Nat.le_refl _) hq
    simp only [List.length_tail,List.length_nil] at a b
    refine ⟨qF6 (qK9 h (by omega)) ⟨by simp [kd,nd1],by simp only [nd1,qb];omega⟩,?_⟩
    rw [qAr];simp only;omega
  ·split
   ·refine ⟨qF6 (qK9 h (by simp;omega)) ⟨by simp [kd,nd1],by simp [nd1,em];decide⟩,?_⟩
    rw [qAr];simp;omega
   ·split
    ·have b:=qEM f (.bin 1 (deep+1)) (qW [40] p).2 (qCS h) trivial
     have c:=qJG (w:= [41]) b.1
     exact ⟨c.1,Nat.le_trans c.2 (Nat.le_trans b.2 (by omega))⟩
    ·split
     ·rename_i hv
      refine ⟨qF6 g2 ⟨by simp [kd,nd1],qI6 hv.1 hv.2⟩,?_⟩
      rw [qAr];simp only;omega
     ·split
      ·refine ⟨qF6 g2 ⟨by simp [kd,ndC],by simp [ndC,em];decide⟩,?_⟩
       rw [qAr];simp only;omega
      ·split
       ·rename_i op _
        have b:=qEM f (.call op deep) (wr (tb p.1),p.2) g2 trivial
        exact ⟨b.1,Nat.le_trans b.2 (by simp only;omega)⟩
       ·exact ⟨⟨g2.r,g2.n,g2.s⟩,by show (wr (tb p.1)).length≤_;omega⟩
 |f+1,.call op deep,p,h,_=>by
  unfold pP
  have a:=qJG (w:= [40]) h
  have b:=qEM f (.args op deep []) (qB4 [40] p) a.1 (by have:=a.1.r;show 0+_≤_;omega)
  exact ⟨b.1,Nat.le_trans b.2 a.2⟩
 |f+1,.args op deep kids,p,h,hk=>by
  replace hk:kids.length+p.1.length≤1500:=hk
  unfold pP
  split
  ·refine ⟨qF6 h ⟨by simp [kd,ndK];omega,by simp [ndK,em];decide⟩,?_⟩
   rw [qAr];exact Nat.le_refl _
  ·simp only
   have a:=qQf h
   have qg:Gd (qDs (qA5 p) (fun p=>pP f (.bin 1 (deep+1)) p)).2∧(qDs (qA5 p) (fun p=>pP f (.bin 1 (deep+1)) p)).2.1.length≤p.1.length:=by
    unfold qDs
    split
    ·rename_i x hx
     refine ⟨qF6 a.1 (a.2.2 x hx),?_⟩
     rw [qAr];exact a.2.1
    ·have b:=qEM f (.bin 1 (deep+1)) (qA5 p).2 a.1 trivial
     exact ⟨b.1,Nat.le_trans b.2 a.2.1⟩
   generalize qDs (qA5 p) (fun p=>pP f (.bin 1 (deep+1)) p)=q at qg⊢
   have t0:=qg.2
   have t1:=qx q.2.1
   have t2:=qHh [44] q.2
   split
   ·rename_i ht
    have t3:=qDH (by simp) ht
    have b:=qEM f (.args op deep (kids++ [q.1])) (qW [44] q.2).2 (qCS qg.1) (by show (kids++ [q.1]).length+_≤_;simp;omega)
    exact ⟨b.1,Nat.le_trans b.2 (by omega)⟩
   ·have c:=qJG (w:= [41]) (qCS (w:= [44]) qg.1)
    refine ⟨qF6 c.1 ⟨by simp [kd,ndK];omega,by simp [ndK,em];decide⟩,?_⟩
    rw [qAr]
    exact Nat.le_trans c.2 (by omega)
def Ad (f:Nat):PJ→PS→Prop
 | .bin _ _,p=>20*(tb p.1).length+6≤f
 | .loop _ _ _,p=>20*(tb p.1).length+5≤f
 | .un _,p=>20*(tb p.1).length+4≤f
 | .at _,p=>20*(tb p.1).length+3≤f∧p.2.1=false
 | .call _ _,p=>20*(tb p.1).length+9≤f
 | .args _ _ _,p=>20*(tb p.1).length+8≤f
def Jd:PJ→Prop
 | .bin _ d=>0≤d∧d≤401
 | .loop _ d _=>0≤d∧d≤401
 | .un d=>0≤d∧d≤401
 | .at d=>0≤d∧d≤400
 | .call _ d=>0≤d∧d≤400
 | .args _ d _=>0≤d∧d≤400
def Wk:PJ→PS→Int×PS→Prop
 | .bin least deep,p,r=>Ev (qCM · least deep (BR p.1) p.2.2.length p.2.1 (p.2.2.map qa)) (qGA r)
 | .loop least deep a,p,r=>∃n0,∀n,n0≤n→∀M,n0≤M→zC (qCm (qR n) n) M (least,deep,a,qEq p)=some (qGA r)
 | .un deep,p,r=>Ev (qFC · deep (BR p.1) p.2.2.length p.2.1 (p.2.2.map qa)) (qGA r)
 | .at deep,p,r=>Ev (qFq · deep (BR p.1) p.2.2.length p.2.1 (p.2.2.map qa)) (qGA r)
 | .call op deep,p,r=>Ev (qB3 · op deep (BR p.1) p.2.2.length p.2.1 (p.2.2.map qa)) (qGA r)
 | .args op deep kids,p,r=>∃(ks:List Int) (p':PS),r=qC1 (ndK 6 op ks) p'∧Gd p'∧ks.length≤1501∧∃n0,∀n,n0≤n→∀M,n0≤M→
   zC (qB7 (qR n) n) M (op,deep,kids.length,kids.map qAz,qEq p)=some (op,ks.length,ks.map qAz,qEq p')
theorem qLA (w:List UInt8) {p:PS} (h:p.2.1=false):(BR (qW w p).2.1,(qW w p).2.2.2.length,!(qW w p).1,(qW w p).2.2.2.map qa)=qEq (qB4 w p):=by
 have e:(qW w p).2.2=p.2:=by unfold qW;split<;>rfl
 unfold qB4
 rw [if_neg (by rw [h];simp)]
 cases hc:(qW w p).1 with
 |true=>rw [if_pos rfl];simp only [qEq,e,h];rfl
 |false=>rw [if_neg (by simp)];rfl
theorem qPN {r w:List UInt8} (hw:w≠ []) (h:w<+:r):(tb (r.drop w.length)).length<r.length:=by
 have h1:=qx (r.drop w.length)
 have h2:=h.length_le
 have h3:0<w.length:=List.length_pos_iff.2 hw
 simp only [List.length_drop] at h1
 omega
theorem qSU {r:List UInt8} (h:qAk r≠0):1≤qAk r∧qAk r≤11∧sgn r=(qAH (qAk r)).toList∧sgn r≠ []:=by
 rcases qQb r with e|⟨a,b,c⟩
 ·exact absurd e h
 ·refine ⟨a,b,c,fun e=>h ?_⟩
  unfold qAk;rw [e];decide
def qRJ (f:Nat) (deep:Int) (w:List UInt8) (p2:PS):Int×PS:=
 if (qf (BR w)).2.2.2=true∧((qf (BR w)).1=1∨(qf (BR w)).1=3) then qC1 (nd1 ((qf (BR w)).1,(qf (BR w)).2.1,(qf (BR w)).2.2.1)) p2
 else if (qAs (BR w)).2.2.2.2=true then qC1 (ndC (qAs (BR w))) p2
 else match qFM w 1 10 with
 |some op=>pP f (.call op deep) p2
 |none=>(-1,qQB p2)
def qQG (g:G_impl_reader_binary) (n:Nat) (deep:Int) (w:ByteArray) (c:ByteArray×Nat×Bool×List (List PV)):Tr (Int×ByteArray×Nat×Bool×List (List PV)):=
 (.opt (qAa n w) fun r=>(.ask r.2.2.2.2
  (.opt (qm n 2 0 0 0 ⟨#[]⟩ r.1 r.2.1 r.2.2.1 r.2.2.2.1 0 0 false false [] c.1 c.2.1 c.2.2.1 c.2.2.2) fun s=> .done (s.1,s.2.1,s.2.2.1,s.2.2.2.1,s.2.2.2.2))
  (.opt (zC (qAe g n) n (deep,w,1,c.1,c.2.1,c.2.2.1,c.2.2.2)) fun s=>(.alt s (fun t=> .done (t.1,t.2.1,t.2.2.1,t.2.2.2.1,t.2.2.2.2)) (fun t=> .done (-1,t.1,t.2.1,true,t.2.2.2))))))
def qRw (g:G_impl_reader_binary) (n:Nat) (deep:Int) (w:ByteArray) (c:ByteArray×Nat×Bool×List (List PV)):Tr (Int×ByteArray×Nat×Bool×List (List PV)):=
 (.opt (qd n w) fun r=>(.ask r.2.2.2
  (.ask (r.1==1) (.opt (qh n r.1 r.2.1 r.2.2.1 c.1 c.2.1 c.2.2.1 c.2.2.2) fun s=> .done (s.1,s.2.1,s.2.2.1,s.2.2.2.1,s.2.2.2.2))
   (.ask (r.1==3) (.opt (qh n r.1 r.2.1 r.2.2.1 c.1 c.2.1 c.2.2.1 c.2.2.2) fun s=> .done (s.1,s.2.1,s.2.2.1,s.2.2.2.1,s.2.2.2.2))
    (qQG g n deep w c)))
  (qQG g n deep w c)))
theorem qQw (f:Nat) (deep:Int) (r:List UInt8) (p2:PS) (hr:r.length≤1000) (hp:p2.2.2.length≤60) (hc:∀op,qFM (wd (tb r)) 1 10=some op→Ev (qB3 · op deep (BR p2.1) p2.2.2.length p2.2.1 (p2.2.2.map qa)) (qGA (pP f (.call op deep) p2))):
  ∃n0,∀n,n0≤n→(qQG (qR n) n deep (BR (wd (tb r))) (qEq p2)).run=some (qGA (if (qAs (BR (wd (tb r)))).2.2.2.2=true then qC1 (ndC (qAs (BR (wd (tb r))))) p2 else match qFM (wd (tb r)) 1 10 with
   |some op=>pP f (.call op deep) p2
   |none=>(-1,qQB p2))):=by
 obtain ⟨n1,h1⟩:=qRI r hr
 obtain ⟨n2,h2⟩:=qL0 (ndC (qAs (BR (wd (tb r))))) p2 hp
 obtain ⟨n3,h3⟩:=qR7
 obtain ⟨n4,h4⟩:∃n4,∀n,n4≤n→∀op,qFM (wd (tb r)) 1 10=some op→qB3 n op deep (BR p2.1) p2.2.2.length p2.2.1 (p2.2.2.map qa)=some (qGA (pP f (.call op deep) p2)):=by
  cases hf:qFM (wd (tb r)) 1 10 with
  |none=>exact ⟨0,fun n _ op h=>by cases h⟩
  |some op=>obtain ⟨n4,h4⟩:=hc op hf;exact ⟨n4,fun n hn op' h=>by cases h;exact h4 n hn⟩
 refine ⟨n1+n2+n3+n4+12,fun n hn=>?_⟩
 have lp:=qQe (g:=qR n) deep (wd (tb r)) p2 (fun op=>pP f (.call op deep) p2) (h3 n (by omega)) 10 1 n (by omega) (by omega) (by omega) (h4 n (by omega))
 cases hb:(qAs (BR (wd (tb r)))).2.2.2.2 with
 |true=>
  rw [if_pos rfl]
  exact qA (h1 n (by omega)) (qD hb (qA (h2 n (by omega)) rfl))
 |false=>
  rw [if_neg (by simp)]
  refine qA (h1 n (by omega)) (qO hb (qA lp ?_))
  cases qFM (wd (tb r)) 1 10<;>rfl
theorem qRK (f:Nat) (deep:Int) (r:List UInt8) (p2:PS) (hr:r.length≤1000) (hp:p2.2.2.length≤60) (hc:∀op,qFM (wd (tb r)) 1 10=some op→Ev (qB3 · op deep (BR p2.1) p2.2.2.length p2.2.1 (p2.2.2.map qa)) (qGA (pP f (.call op deep) p2))):
  ∃n0,∀n,n0≤n→(qRw (qR n) n deep (BR (wd (tb r))) (qEq p2)).run=some (qGA (qRJ f deep (wd (tb r)) p2)):=by
 obtain ⟨n1,h1⟩:=qST r hr
 obtain ⟨n2,h2⟩:=qI5 ((qf (BR (wd (tb r)))).1,(qf (BR (wd (tb r)))).2.1,(qf (BR (wd (tb r)))).2.2.1) p2 hp
 obtain ⟨n3,h3⟩:=qQw f deep r p2 hr hp hc
 refine ⟨n1+n2+n3,fun n hn=>?_⟩
 have h2:=h2 n (by omega)
 have h3:=h3 n (by omega)
 unfold qRJ
 refine qA (h1 n (by omega)) ?_
 by_cases ho:(qf (BR (wd (tb r)))).2.2.2=true
 ·refine qD ho ?_
  by_cases k1:(qf (BR (wd (tb r)))).1=1
  ·rw [if_pos ⟨ho,.inl k1⟩]
   exact qD (by rw [k1];rfl) (qA h2 rfl)
  ·refine qO (beq_eq_false_iff_ne.2 k1) ?_
   by_cases k3:(qf (BR (wd (tb r)))).1=3
   ·rw [if_pos ⟨ho,.inr k3⟩]
    exact qD (by rw [k3];rfl) (qA h2 rfl)
   ·rw [if_neg (fun h=>h.2.elim k1 k3)]
    exact qO (beq_eq_false_iff_ne.2 k3) h3
 ·rw [if_neg (fun h=>ho h.1)]
  exact qO (by rw [Bool.eq_false_iff];exact ho) h3
theorem qSV (w:List UInt8) (p:PS):qW w (tb p.1,p.2)=qW w p:=by unfold qW;simp only [qCB]
theorem qJH {c:UInt8} {r:List UInt8} (h:r.head?=some c):∃t,r=c::t:=by
 cases r with
 |nil=>cases h
 |cons d t=>simp at h;subst h;exact ⟨t,rfl⟩
theorem qEU:∀(f:Nat) (j:PJ) (p:PS),Ad f j p→Jd j→Gd p→Kj j p→Wk j p (pP f j p)
 |0,j,p,ha,_,_,_=>by cases j<;>simp [Ad] at ha
 |f+1,.bin least deep,p,ha,hj,hg,_=>by
  replace ha:20*(tb p.1).length+6≤f+1:=ha
  obtain ⟨n1,h1⟩:=qEU f (.un deep) p (by show 20*_+4≤f;omega) hj hg trivial
  have hl:=qDI f (.un deep) p
  obtain ⟨n2,h2⟩:=qEU f (.loop least deep (pP f (.un deep) p).1) (pP f (.un deep) p).2 (by show 20*_+5≤f;omega) hj (qEM f (.un deep) p hg trivial).1 trivial
  refine ⟨n1+n2+1,fun n hn=>?_⟩
  obtain ⟨k,rfl,hm⟩:=up1 hn
  exact qA (h1 k (by omega)) (qA (h2 k (by omega) k (by omega)) rfl)
 |f+1,.loop least deep a,(r,b,l),ha,hj,hg,_=>by
  replace ha:20*(tb r).length+5≤f+1:=ha
  have hn60:l.length≤60:=hg.n
  have hr1:r.length≤1000:=hg.r
  have ht:=qx r
  unfold pP
  cases b with
  |true=>
   rw [if_pos rfl]
   refine ⟨1,fun n hn M hM=>?_⟩
   obtain ⟨M,rfl,hM⟩:=up1 hM
   exact qP (qO rfl rfl)
  |false=>
   rw [if_neg (by simp)]
   simp only
   obtain ⟨n1,h1⟩:=qRo least deep a r l.length false (l.map qa)
   by_cases h0:qAk (tb r)=0
   ·rw [if_pos (.inl h0)]
    refine ⟨n1+1,fun n hn M hM=>?_⟩
    obtain ⟨M,rfl,hM⟩:=up1 hM
    exact qP (qD rfl (qA (h1 n (by omega) n (by omega)) (qD (by simp only;rw [h0];rfl) rfl)))
   ·obtain ⟨o1,o2,o3,o4⟩:=qSU h0
    obtain ⟨n2,h2⟩:=qJx (qAk (tb r)) ⟨o1,o2⟩
    by_cases hl:lvl (qAk (tb r))<least
    ·rw [if_pos (.inr hl)]
     refine ⟨n1+n2+1,fun n hn M hM=>?_⟩
     obtain ⟨M,rfl,hM⟩:=up1 hM
     exact qP (qD rfl (qA (h1 n (by omega) n (by omega)) (qO (beq_eq_false_iff_ne.2 h0) (qA (h2 n (by omega)) (qD (decide_eq_true hl) rfl)))))
    ·rw [if_neg (fun h=>h.elim h0 hl)]
     have lv:=qQC (op:=qAk (tb r))
     have hlt:=qPN o4 (qQc (tb r))
     have hp1:Gd ((tb r).drop (sgn (tb r)).length,false,l):=⟨by simp;omega,hn60,hg.s⟩
     obtain ⟨n3,h3⟩:=qF4 (qAk (tb r)) ⟨o1,o2⟩
     obtain ⟨n4,h4⟩:=qOp (qAH (qAk (tb r))).toList (tb r) l.length false (l.map qa)
     obtain ⟨n5,h5⟩:=qEU f (.bin (lvl (qAk (tb r))+1) deep) ((tb r).drop (sgn (tb r)).length,false,l) (by show 20*_+6≤f;simp only;omega) hj hp1 trivial
     have g5:=qEM f (.bin (lvl (qAk (tb r))+1) deep) ((tb r).drop (sgn (tb r)).length,false,l) hp1 trivial
     have l5:=qDI f (.bin (lvl (qAk (tb r))+1) deep) ((tb r).drop (sgn (tb r)).length,false,l)
     simp only at l5
     generalize pP f (.bin (lvl (qAk (tb r))+1) deep) ((tb r).drop (sgn (tb r)).length,false,l)=q at h5 g5 l5⊢
     obtain ⟨n6,h6⟩:=qL0 (ndK 5 (qAk (tb r)) [a,q.1]) q.2 g5.1.n
     have g6:=qF6 (x:=ndK 5 (qAk (tb r)) [a,q.1]) g5.1 ⟨by simp [kd,ndK],by simp [ndK,em];decide⟩
     have e6:=qAr (ndK 5 (qAk (tb r)) [a,q.1]) q.2
     generalize qC1 (ndK 5 (qAk (tb r)) [a,q.1]) q.2=c at h6 g6 e6⊢
     obtain ⟨n7,h7⟩:=qEU f (.loop least deep c.1) c.2 (by show 20*(tb c.2.1).length+5≤f;rw [e6];omega) hj g6 trivial
     refine ⟨n1+n2+n3+n4+n5+n6+n7+1,fun n hn M hM=>?_⟩
     obtain ⟨M,rfl,hM⟩:=up1 hM
     have w1:IntKind.i64.wrap (lvl (qAk (tb r))+1)=lvl (qAk (tb r))+1:=qZ (by omega)
     have h3:=h3 n (by omega)
     have h4:=h4 n (by omega)
     have h5:=h5 n (by omega)
     rw [qH9,qCB,←o3,if_pos rfl] at h4
     rw [←w1] at h5
     rw [qT (v':=(least,deep,c.1,qEq c.2)) (by
      exact qD rfl (qA (h1 n (by omega) n (by omega)) (qO (beq_eq_false_iff_ne.2 h0) (qA (h2 n (by omega)) (qO (decide_eq_false hl) (qA h3 (qA h4 (qA (h2 n (by omega)) (qA h5 (qD rfl (qA (h6 n (by omega)) rfl)))))))))))]
     exact h7 n (by omega) M (by omega)
 |f+1,.un deep,p,ha,hj,hg,_=>by
  replace ha:20*(tb p.1).length+4≤f+1:=ha
  replace hj:0≤deep∧deep≤401:=hj
  unfold pP
  by_cases hd:deep>400
  ·rw [if_pos (.inl hd)]
   refine ⟨1,fun n hn=>?_⟩
   obtain ⟨k,rfl,hm⟩:=up1 hn
   exact qD (decide_eq_true hd) (qD rfl rfl)
  ·cases hb:p.2.1 with
   |true=>
    rw [if_pos (.inr rfl)]
    refine ⟨1,fun n hn=>?_⟩
    obtain ⟨k,rfl,hm⟩:=up1 hn
    refine qO (decide_eq_false hd) (qD hb ?_)
    rw [qC,hb];rfl
   |false=>
    rw [if_neg (fun h=>h.elim hd (by simp))]
    obtain ⟨n1,h1⟩:=qFN [45] p
    have t1:=qDO [45] p
    cases hc:(qW [45] p).1 with
    |true=>
     rw [if_pos rfl]
     simp only
     have t2:=qDH (by simp) hc
     have t3:=qx (qW [45] p).2.1
     obtain ⟨n2,h2⟩:=qEU f (.un (deep+1)) (qW [45] p).2 (by show 20*_+4≤f;omega) (by show 0≤deep+1∧deep+1≤401;omega) (qCS hg) trivial
     have g2:=qEM f (.un (deep+1)) (qW [45] p).2 (qCS hg) trivial
     generalize pP f (.un (deep+1)) (qW [45] p).2=q at h2 g2⊢
     obtain ⟨n3,h3⟩:=qL0 (ndK 4 0 [q.1]) q.2 g2.1.n
     refine ⟨n1+n2+n3+1,fun n hn=>?_⟩
     obtain ⟨k,rfl,hm⟩:=up1 hn
     have w1:IntKind.i64.wrap (deep+1)=deep+1:=qZ (by omega)
     have h2:=h2 k (by omega)
     rw [←w1] at h2
     exact qO (decide_eq_false hd) (qO hb (qA (h1 k (by omega)) (qD hc (qA h2 (qD rfl (qA (h3 k (by omega)) rfl))))))
    |false=>
     rw [if_neg (by simp)]
     have e:(qW [45] p).2.2=p.2:=by unfold qW;split<;>rfl
     obtain ⟨n2,h2⟩:=qEU f (.at deep) (qW [45] p).2 ⟨by omega,by rw [e];exact hb⟩ (by show 0≤deep∧deep≤400;omega) (qCS hg) trivial
     refine ⟨n1+n2+1,fun n hn=>?_⟩
     obtain ⟨k,rfl,hm⟩:=up1 hn
     exact qO (decide_eq_false hd) (qO hb (qA (h1 k (by omega)) (qO hc (qA (h2 k (by omega)) rfl))))
 |f+1,.at deep,(r0,b,l),ha,hj,hg,_=>by
  obtain ⟨ha,hb⟩:=ha
  replace ha:20*(tb r0).length+3≤f+1:=ha
  replace hb:b=false:=hb
  subst hb
  replace hj:0≤deep∧deep≤400:=hj
  have hn60:l.length≤60:=hg.n
  have hr1:r0.length≤1000:=hg.r
  have ht:=qx r0
  have ett:=qCB r0
  have eit:=qSV [40] (r0,false,l)
  obtain ⟨n1,h1⟩:=qGU r0 l.length false (l.map qa)
  have wdec:∀op,qFM (wd (tb r0)) 1 10=some op→(wr (tb r0)).length<(tb r0).length:=fun op h=>by
   have e:=congrArg List.length (wdr (tb r0))
   simp only [List.length_append] at e
   have:wd (tb r0)≠ []:=fun e=>by
    rw [e,show qFM [] 1 10=none by decide+kernel] at h
    cases h
   have:=List.length_pos_iff.2 this
   omega
  unfold pP
  simp only at eit⊢
  rw [←eit]
  generalize tb r0=r at*
  have hw:=qF5 r
  have wordEv:∃n0,∀n,n0≤n→(qRw (qR n) n deep (BR (wd r)) (qEq (wr r,false,l))).run=some (qGA (qRJ f deep (wd r) (wr r,false,l))):=by
   have:=qRK f deep r (wr r,false,l) (by omega) hn60 (by
    rw [ett]
    intro op h
    exact qEU f (.call op deep) (wr r,false,l) (by have:=wdec op h;have:=qx (wr r);show 20*(tb (wr r)).length+9≤f;omega) hj ⟨by simp only;omega,hn60,hg.s⟩ trivial)
   rwa [ett] at this
  obtain ⟨n9,h9⟩:=wordEv
  obtain ⟨n8,h8⟩:=qPL (r,false,l) (by simp only;omega)
  simp only [ett] at h8
  by_cases hq:r.head?=some 34
  ·rw [if_pos hq]
   obtain ⟨t,rfl⟩:=qJH hq
   simp only [List.length_cons] at ht
   obtain ⟨n2,h2⟩:=qQv t false l (by omega) hn60
   refine ⟨n1+n2+3,fun n hn=>?_⟩
   obtain ⟨k,rfl,hm⟩:=up3 hn
   refine qA (h1 (k+2) (by omega)) (qA (qBN k (34::t) [34]) (qD rfl (qA (h2 (k+2) (by omega)) ?_)))
   rw [qC]
   simp only [List.tail_cons]
   all_goals (cases qBs [] t<;>rfl)
  ·rw [if_neg hq]
   have p34:List.isPrefixOf [34] r=false:=by rw [Bool.eq_false_iff];exact fun e=>hq ((qEJ 34 r).1 e)
   by_cases hh:r.head?=some 35
   ·have p35:List.isPrefixOf [35] r=true:=(qEJ 35 r).2 hh
    simp only [if_pos hh]
    obtain ⟨n2,h2⟩:=qR6 deep r false l hn60
    cases he:qH8 r 1 5 with
    |some e=>
     simp only
     refine ⟨n1+n2+3,fun n hn=>?_⟩
     obtain ⟨k,rfl,hm⟩:=up3 hn
     have h2:=h2 (k+2) (by omega) (k+2) (by omega)
     rw [he] at h2
     exact qA (h1 (k+2) (by omega)) (qA (qBN k r [34]) (qO p34 (qA (qBN k r [35]) (qD p35 (qA h2 rfl)))))
    |none=>
     simp only
     rw [if_neg (fun h=>h.1 hh)]
     refine ⟨n1+n2+n8+n9+3,fun n hn=>?_⟩
     obtain ⟨k,rfl,hm⟩:=up3 hn
     have h2:=h2 (k+2) (by omega) (k+2) (by omega)
     rw [he] at h2
     exact qA (h1 (k+2) (by omega)) (qA (qBN k r [34]) (qO p34 (qA (qBN k r [35]) (qD p35 (qA h2 (qA (h8 (k+2) (by omega)) (h9 (k+2) (by omega))))))))
   ·have p35:List.isPrefixOf [35] r=false:=by rw [Bool.eq_false_iff];exact fun e=>hh ((qEJ 35 r).1 e)
    simp only [if_neg hh]
    obtain ⟨n2,h2⟩:=qFN [40] (r,false,l)
    cases hc:(qW [40] (r,false,l)).1 with
    |true=>
     rw [if_pos ⟨hh,rfl⟩]
     have t2:=qDH (by simp) hc
     have t3:=qx (qW [40] (r,false,l)).2.1
     simp only [ett] at t2
     have g1:Gd (r,false,l):=⟨by simp only;omega,hn60,hg.s⟩
     obtain ⟨n3,h3⟩:=qEU f (.bin 1 (deep+1)) (qW [40] (r,false,l)).2 (by show 20*_+6≤f;omega) (by show 0≤deep+1∧deep+1≤401;omega) (qCS g1) trivial
     generalize pP f (.bin 1 (deep+1)) (qW [40] (r,false,l)).2=q at h3⊢
     obtain ⟨n4,h4⟩:=qFN [41] q.2
     refine ⟨n1+n2+n3+n4+3,fun n hn=>?_⟩
     obtain ⟨k,rfl,hm⟩:=up3 hn
     have w1:IntKind.i64.wrap (deep+1)=deep+1:=qZ (by omega)
     have h3:=h3 (k+2) (by omega)
     rw [←w1] at h3
     cases hbb:q.2.2.1 with
     |true=>
      refine qA (h1 (k+2) (by omega)) (qA (qBN k r [34]) (qO p34 (qA (qBN k r [35]) (qO p35 (qA (h2 (k+2) (by omega)) (qD hc (qA h3 (qD hbb ?_))))))))
      rw [qC]
      unfold qB4
      rw [if_pos hbb]
      simp only [qGA,hbb]
     |false=>
      refine qA (h1 (k+2) (by omega)) (qA (qBN k r [34]) (qO p34 (qA (qBN k r [35]) (qO p35 (qA (h2 (k+2) (by omega)) (qD hc (qA h3 (qO hbb (qA (h4 (k+2) (by omega)) ?_)))))))))
      rw [qC]
      exact congrArg (fun x=>some (q.1,x)) (qLA [41] hbb)
    |false=>
     rw [if_neg (fun h=>by simp at h)]
     have e:(qW [40] (r,false,l)).2=(r,false,l):=by
      unfold qW at hc⊢
      split at hc
      ·cases hc
      ·rename_i hne
       rw [if_neg hne];simp only [ett]
     rw [hc,e] at h2
     refine ⟨n1+n2+n8+n9+3,fun n hn=>?_⟩
     obtain ⟨k,rfl,hm⟩:=up3 hn
     exact qA (h1 (k+2) (by omega)) (qA (qBN k r [34]) (qO p34 (qA (qBN k r [35]) (qO p35 (qA (h2 (k+2) (by omega)) (qO rfl (qA (h8 (k+2) (by omega)) (h9 (k+2) (by omega)))))))))
 |f+1,.call op deep,p,ha,hj,hg,_=>by
  replace ha:20*(tb p.1).length+9≤f+1:=ha
  unfold pP
  have gm:=qJG (w:= [40]) hg
  have rm:=qJD [40] p
  obtain ⟨ks,p',e1,e2,e3,n2,h2⟩:=qEU f (.args op deep []) (qB4 [40] p) (by show 20*_+8≤f;omega) hj gm.1 (by have:=gm.1.r;show 0+_≤_;omega)
  obtain ⟨n1,h1⟩:=qFN [40] p
  obtain ⟨n3,h3⟩:=qL0 (ndK 6 op ks) p' e2.n
  rw [e1]
  refine ⟨n1+n2+n3+1,fun n hn=>?_⟩
  obtain ⟨k,rfl,hm⟩:=up1 hn
  have h2:=h2 k (by omega) k (by omega)
  by_cases hb:p.2.1=true
  ·have em:qEq (qB4 [40] p)=(BR p.1,p.2.2.length,true,p.2.2.map qa):=by
    unfold qB4;rw [if_pos hb];simp only [qEq,hb]
   rw [em] at h2
   exact qD hb (qA h2 (qD (decide_eq_true (by simp)) (qA (h3 k (by omega)) rfl)))
  ·have hb:p.2.1=false:=by rw [Bool.eq_false_iff];exact hb
   have em:=qLA [40] hb
   rw [←em] at h2
   exact qO hb (qA (h1 k (by omega)) (qA h2 (qD (decide_eq_true (by simp)) (qA (h3 k (by omega)) rfl))))
 |f+1,.args op deep kids,p,ha,hj,hg,hk=>by
  replace ha:20*(tb p.1).length+8≤f+1:=ha
  replace hk:kids.length+p.1.length≤1500:=hk
  replace hj:0≤deep∧deep≤400:=hj
  unfold pP
  cases hb:p.2.1 with
  |true=>
   rw [if_pos rfl]
   refine ⟨kids,p,rfl,hg,by omega,1,fun n hn M hM=>?_⟩
   obtain ⟨M,rfl,hM⟩:=up1 hM
   exact qP (qO (by show (!p.2.1)=false;rw [hb];rfl) rfl)
  |false=>
   rw [if_neg (by simp)]
   simp only
   obtain ⟨x,hx,n1,h1⟩:=qRp p hg.r
   have ga:=qQf hg
   have ra:=qHJ p
   have tl0:=qx p.1
   have nb:∀k:Nat,(!(qEq p).2.2.1)=true:=fun _=>by show (!p.2.1)=true;rw [hb];rfl
   cases hi:(qA5 p).1 with
   |some y=>
    have hxy:=hx y hi
    subst hxy
    obtain ⟨n3,h3⟩:=qL0 x (qA5 p).2 ga.1.n
    have eo:qDs (qA5 p) (fun p=>pP f (.bin 1 (deep+1)) p)=qC1 x (qA5 p).2:=by unfold qDs;rw [hi]
    rw [eo]
    have gq:Gd (qC1 x (qA5 p).2).2∧(qC1 x (qA5 p).2).2.1.length≤p.1.length∧(tb (qC1 x (qA5 p).2).2.1).length≤(tb p.1).length:=⟨qF6 ga.1 (ga.2.2 x hi),by rw [qAr];exact ga.2.1,by rw [qAr];exact ra⟩
    have n2:=0
    generalize qC1 x (qA5 p).2=Q at h3 gq⊢
    obtain ⟨n4,h4⟩:=qFN [44] Q.2
    cases hc:(qW [44] Q.2).1 with
    |true=>
     obtain ⟨ks,p',e1,e2,e3,n6,h6⟩:=qEU f (.args op deep (kids++ [Q.1])) (qW [44] Q.2).2 (by have:=qDH (by simp) hc;show 20*(tb (qW [44] Q.2).2.1).length+8≤f;have:=qx (qW [44] Q.2).2.1;omega) ⟨hj.1,hj.2⟩ (qCS gq.1) (by have:=qDH (by simp) hc;have:=qx Q.2.1;show (kids++ [Q.1]).length+_≤_;simp;omega)
     refine ⟨ks,p',by rw [if_pos rfl];exact e1,e2,e3,n1+n2+n3+n4+n6+1,fun k hn M hM=>?_⟩
     obtain ⟨M,rfl,hM⟩:=up1 hM
     rw [qT (v':=(op,deep,(kids++ [Q.1]).length,(kids++ [Q.1]).map qAz,qEq (qW [44] Q.2).2)) (by
      have h1:=h1 k (by omega)
      rw [hi] at h1
      refine qD (nb 0) (qA h1 (qD rfl (qA (h3 k (by omega)) (qD rfl (qD (decide_eq_true ⟨by simp,by decide,by decide,by simp;omega,rfl⟩) (qA (h4 k (by omega)) ?_))))))
      refine qO (by simp only;rw [hc];rfl) ?_
      rw [qC]
      simp only [List.length_append,List.map_append]
      rfl)]
     exact h6 k (by omega) M (by omega)
    |false=>
     obtain ⟨n5,h5⟩:=qFN [41] (qW [44] Q.2).2
     refine ⟨kids++ [Q.1],qB4 [41] (qW [44] Q.2).2,by rw [if_neg (by simp)],(qJG (qCS gq.1)).1,by simp;omega,n1+n2+n3+n4+n5+1,fun k hn M hM=>?_⟩
     obtain ⟨M,rfl,hM⟩:=up1 hM
     cases hbb:(qW [44] Q.2).2.2.1 with
     |true=>
      rw [qP (r:=(op,(kids++ [Q.1]).length,(kids++ [Q.1]).map qAz,qEq (qB4 [41] (qW [44] Q.2).2))) (by
       have h1:=h1 k (by omega)
       rw [hi] at h1
       refine qD (nb 0) (qA h1 (qD rfl (qA (h3 k (by omega)) (qD rfl (qD (decide_eq_true ⟨by simp,by decide,by decide,by simp;omega,rfl⟩) (qA (h4 k (by omega)) ?_))))))
       refine qD (by simp only;rw [hc];rfl) (qD hbb ?_)
       rw [qC]
       unfold qB4
       rw [if_pos hbb]
       simp only [List.length_append,List.map_append,qEq,hbb]
       rfl)]
     |false=>
      rw [qP (r:=(op,(kids++ [Q.1]).length,(kids++ [Q.1]).map qAz,qEq (qB4 [41] (qW [44] Q.2).2))) (by
       have h1:=h1 k (by omega)
       rw [hi] at h1
       refine qD (nb 0) (qA h1 (qD rfl (qA (h3 k (by omega)) (qD rfl (qD (decide_eq_true ⟨by simp,by decide,by decide,by simp;omega,rfl⟩) (qA (h4 k (by omega)) ?_))))))
       refine qD (by simp only;rw [hc];rfl) (qO hbb (qA (h5 k (by omega)) ?_))
       rw [qC]
       simp only [List.length_append,List.map_append]
       exact congrArg (fun x=>some (Sum.inr (op,kids.length+1,kids.map qAz++ [[PV.i IntKind.i64 Q.1]],x))) (qLA [41] hbb))]
   |none=>
    have eo:qDs (qA5 p) (fun p=>pP f (.bin 1 (deep+1)) p)=pP f (.bin 1 (deep+1)) (qA5 p).2:=by unfold qDs;rw [hi]
    rw [eo]
    obtain ⟨n3,h3⟩:=qEU f (.bin 1 (deep+1)) (qA5 p).2 (by show 20*_+6≤f;omega) (by show 0≤deep+1∧deep+1≤401;omega) ga.1 trivial
    have g3:=qEM f (.bin 1 (deep+1)) (qA5 p).2 ga.1 trivial
    have l3:=qDI f (.bin 1 (deep+1)) (qA5 p).2
    have w1:IntKind.i64.wrap (deep+1)=deep+1:=qZ (by omega)
    have gq:Gd (pP f (.bin 1 (deep+1)) (qA5 p).2).2∧(pP f (.bin 1 (deep+1)) (qA5 p).2).2.1.length≤p.1.length∧(tb (pP f (.bin 1 (deep+1)) (qA5 p).2).2.1).length≤(tb p.1).length:=⟨g3.1,Nat.le_trans g3.2 ga.2.1,Nat.le_trans l3 ra⟩
    rw [←w1] at h3
    have n2:=0
    rw [w1] at h3
    generalize pP f (.bin 1 (deep+1)) (qA5 p).2=Q at h3 gq⊢
    obtain ⟨n4,h4⟩:=qFN [44] Q.2
    cases hc:(qW [44] Q.2).1 with
    |true=>
     obtain ⟨ks,p',e1,e2,e3,n6,h6⟩:=qEU f (.args op deep (kids++ [Q.1])) (qW [44] Q.2).2 (by have:=qDH (by simp) hc;show 20*(tb (qW [44] Q.2).2.1).length+8≤f;have:=qx (qW [44] Q.2).2.1;omega) ⟨hj.1,hj.2⟩ (qCS gq.1) (by have:=qDH (by simp) hc;have:=qx Q.2.1;show (kids++ [Q.1]).length+_≤_;simp;omega)
     refine ⟨ks,p',by rw [if_pos rfl];exact e1,e2,e3,n1+n2+n3+n4+n6+1,fun k hn M hM=>?_⟩
     obtain ⟨M,rfl,hM⟩:=up1 hM
     rw [qT (v':=(op,deep,(kids++ [Q.1]).length,(kids++ [Q.1]).map qAz,qEq (qW [44] Q.2).2)) (by
      have h1:=h1 k (by omega)
      rw [hi] at h1
      have h3:=h3 k (by omega)
      rw [←w1] at h3
      refine qD (nb 0) (qA h1 (qO rfl (qA h3 (qD rfl (qD (decide_eq_true ⟨by simp,by decide,by decide,by simp;omega,rfl⟩) (qA (h4 k (by omega)) ?_))))))
      refine qO (by simp only;rw [hc];rfl) ?_
      rw [qC]
      simp only [List.length_append,List.map_append]
      rfl)]
     exact h6 k (by omega) M (by omega)
    |false=>
     obtain ⟨n5,h5⟩:=qFN [41] (qW [44] Q.2).2
     refine ⟨kids++ [Q.1],qB4 [41] (qW [44] Q.2).2,by rw [if_neg (by simp)],(qJG (qCS gq.1)).1,by simp;omega,n1+n2+n3+n4+n5+1,fun k hn M hM=>?_⟩
     obtain ⟨M,rfl,hM⟩:=up1 hM
     cases hbb:(qW [44] Q.2).2.2.1 with
     |true=>
      rw [qP (r:=(op,(kids++ [Q.1]).length,(kids++ [Q.1]).map qAz,qEq (qB4 [41] (qW [44] Q.2).2))) (by
       have h1:=h1 k (by omega)
       rw [hi] at h1
       have h3:=h3 k (by omega)
       rw [←w1] at h3
       refine qD (nb 0) (qA h1 (qO rfl (qA h3 (qD rfl (qD (decide_eq_true ⟨by simp,by decide,by decide,by simp;omega,rfl⟩) (qA (h4 k (by omega)) ?_))))))
       refine qD (by simp only;rw [hc];rfl) (qD hbb ?_)
       rw [qC]
       unfold qB4
       rw [if_pos hbb]
       simp only [List.length_append,List.map_append,qEq,hbb]
       rfl)]
     |false=>
      rw [qP (r:=(op,(kids++ [Q.1]).length,(kids++ [Q.1]).map qAz,qEq (qB4 [41] (qW [44] Q.2).2))) (by
       have h1:=h1 k (by omega)
       rw [hi] at h1
       have h3:=h3 k (by omega)
       rw [←w1] at h3
       refine qD (nb 0) (qA h1 (qO rfl (qA h3 (qD rfl (qD (decide_eq_true ⟨by simp,by decide,by decide,by simp;omega,rfl⟩) (qA (h4 k (by omega)) ?_))))))
       refine qD (by simp only;rw [hc];rfl) (qO hbb (qA (h5 k (by omega)) ?_))
       rw [qC]
       simp only [List.length_append,List.map_append]
       exact congrArg (fun x=>some (Sum.inr (op,kids.length+1,kids.map qAz++ [[PV.i IntKind.i64 Q.1]],x))) (qLA [41] hbb))]
def pos (s r:List UInt8):Int:=((s.length-r.length:Nat):Int)
def qCa (s:List UInt8) (q:PS):ByteArray×Int×Bool×Nat×List (List PV):=(BR s,pos s q.1,q.2.1,q.2.2.length,q.2.2.map qa)
def qCC (s:List UInt8) (r:Int×PS):Int×ByteArray×Int×Bool×Nat×List (List PV):=(r.1,qCa s r.2)
theorem qPx {s r:List UInt8} (h:r<:+s):s.drop (s.length-r.length)=r:=by
 obtain ⟨t,rfl⟩:=h
 simp
theorem qQg (s r:List UInt8):(pos s r).toNat=s.length-r.length:=by unfold pos;simp
theorem qJz (s r:List UInt8):0≤pos s r:=by unfold pos;omega
theorem qCx {s r:List UInt8} (h:r<:+s):r.length≤s.length:=h.length_le
theorem qJI {s r t:List UInt8} {k:Nat} (h:r<:+s) (e:t=r.drop k) (hk:k≤r.length):pos s r+(k:Int)=pos s t:=by
 subst e
 have:=qCx h
 unfold pos
 simp only [List.length_drop]
 omega
theorem qLB {s r:List UInt8} (h:r<:+s):(BR s).toList[(pos s r).toNat]?=r.head?:=by
 rw [qAI,qQg,←List.head?_drop,qPx h]
theorem qQH {s r:List UInt8} (h:r<:+s):tb r<:+s:=(List.dropWhile_suffix _).trans h
theorem qNw {s t:List UInt8} {c:UInt8} (h:(c::t)<:+s):t<:+s:=(List.suffix_cons c t).trans h
theorem qM2 {s r:List UInt8} {k:Nat} (h:r<:+s):(BR s).extract (pos s r).toNat (pos s r+(k:Int)).toNat=BR (r.take k):=by
 rw [qE5,qQg,show (pos s r+(k:Int)).toNat=(s.length-r.length)+k by unfold pos;omega,←List.take_drop,qPx h]
theorem qAn {b:Bool} (h:b=true):(!b)=false:=by rw [h];rfl
theorem qCT {b:Bool} (h:b=false):(!b)=true:=by rw [h];rfl
theorem qOr {s:List UInt8} (hs:s.length≤1000) (n:Nat) (b:Bool) (m:Nat) (rows:List (List PV)):∀(r:List UInt8) (M:Nat),r<:+s→r.length+1≤M→zC (qC7 n) M (BR s,pos s r,b,m,rows)=some (BR s,pos s (tb r),b,m,rows)
 |r,0,_,h=>by omega
 | [],M+1,h,_=>by
  exact qP (qO (decide_eq_false (show ¬pos s []<((BR s).size:Int) by rw [qb];unfold pos;simp)) rfl)
 |c::t,M+1,h,hM=>by
  have hl:=qCx h
  simp only [List.length_cons] at hl hM
  have g:=qLB h
  have p1:pos s (c::t)<((BR s).size:Int):=by rw [qb];unfold pos;simp only [List.length_cons];omega
  by_cases hc:c=32
  ·subst hc
   have w1:IntKind.i64.wrap (pos s (32::t)+1)=pos s t:=by
    have:=qJI (k:=1) h (t:=t) rfl (by simp)
    rw [qZ (by unfold pos;omega)];exact this
   rw [qT (v':=(BR s,pos s t,b,m,rows)) (by
    refine qD (decide_eq_true p1) (qD (decide_eq_true (qJz _ _)) (qA g (qD rfl ?_)))
    rw [qC,w1])]
   have e:tb (32::t)=tb t:=by simp [tb]
   rw [e]
   exact qOr hs n b m rows t M (qNw h) (by omega)
  ·have e:tb (c::t)=c::t:=by simp [tb,hc]
   rw [e]
   refine qP (qD (decide_eq_true p1) (qD (decide_eq_true (qJz _ _)) (qA g (qO ?_ rfl))))
   rw [beq_eq_false_iff_ne]
   intro e
   exact hc (UInt8.toNat_inj.1 (show c.toNat=32 by omega))
theorem qPO {s:List UInt8} (hs:s.length≤1000) (q:PS) (h:q.1<:+s):Ev (qBS · (BR s) (pos s q.1) q.2.1 q.2.2.length (q.2.2.map qa)) (qCa s (tb q.1,q.2)):=by
 have hl:=qCx h
 refine ⟨q.1.length+2,fun n hn=>?_⟩
 obtain ⟨k,rfl,hm⟩:=up1 hn
 exact qA (qOr hs k q.2.1 q.2.2.length (q.2.2.map qa) q.1 k h (by omega)) rfl
theorem qF8 {s:List UInt8} (hs:s.length≤1000) (w:List UInt8) (hw:w.length≤1000) (q:PS) (h:q.1<:+s):Ev (q9 · (BR w) (BR s) (pos s q.1) q.2.1 q.2.2.length (q.2.2.map qa)) ((sIs w q).1,qCa s (sIs w q).2):=by
 obtain ⟨n1,h1⟩:=qPO hs q h
 have ht:=qQH h
 have hl:=qCx ht
 refine ⟨n1+1,fun n hn=>?_⟩
 obtain ⟨k,rfl,hm⟩:=up1 hn
 have w1:IntKind.i64.wrap (pos s (tb q.1)+((BR w).size:Int))=pos s (tb q.1)+(w.length:Int):=by rw [qb];exact qZ (by unfold pos;omega)
 unfold sIs
 cases hb:q.2.1 with
 |true=>
  rw [if_pos rfl]
  have h1:=h1 k (by omega)
  rw [hb] at h1
  refine qA h1 (qD hb ?_)
  rw [qC]
 |false=>
  have h1:=h1 k (by omega)
  rw [hb] at h1
  rw [if_neg (by simp)]
  by_cases hf:pos s (tb q.1)+(w.length:Int)>(s.length:Int)
  ·have hn:¬w.isPrefixOf (tb q.1)=true:=by
    intro e
    have:=(List.isPrefixOf_iff_prefix.1 e).length_le
    unfold pos at hf
    omega
   rw [if_neg hn]
   refine qA h1 (qO hb (qD (decide_eq_true (show IntKind.i64.wrap (pos s (tb q.1)+((BR w).size:Int))>((BR s).size:Int) by rw [w1,qb];exact hf)) ?_))
   rw [qC]
  ·have hx:=qM2 (k:=w.length) ht
   have hwl:w.length≤(tb q.1).length:=by unfold pos at hf;omega
   have cmp:((BR s).extract (pos s (tb q.1)).toNat (IntKind.i64.wrap (pos s (tb q.1)+((BR w).size:Int))).toNat).toList==(BR w).toList↔w.isPrefixOf (tb q.1)=true:=by
    rw [w1,hx,qAI,qAI,beq_iff_eq,List.isPrefixOf_iff_prefix,List.prefix_iff_eq_take]
    exact ⟨fun e=>e.symm,fun e=>e.symm⟩
   refine qA h1 (qO hb (qO (decide_eq_false (show ¬IntKind.i64.wrap (pos s (tb q.1)+((BR w).size:Int))>((BR s).size:Int) by rw [w1,qb];exact hf)) (qD (decide_eq_true (show 0≤pos s (tb q.1)∧pos s (tb q.1)≤IntKind.i64.wrap (pos s (tb q.1)+((BR w).size:Int))∧IntKind.i64.wrap (pos s (tb q.1)+((BR w).size:Int))≤((BR s).size:Int) by rw [w1,qb];exact ⟨qJz _ _,by omega,by omega⟩)) ?_)))
   by_cases hp:w.isPrefixOf (tb q.1)=true
   ·rw [if_pos hp]
    refine qO (qAn (cmp.2 hp)) ?_
    rw [qC]
    show some (true,BR s,IntKind.i64.wrap (pos s (tb q.1)+((BR w).size:Int)),q.2.1,q.2.2.length,q.2.2.map qa)=_
    rw [w1,qJI ht rfl hwl]
    rfl
   ·rw [if_neg hp]
    refine qD (qCT (by rw [Bool.eq_false_iff];exact fun e=>hp (cmp.1 e))) ?_
    rw [qC]
theorem qI7 {s:List UInt8} (x:Nd) (q:PS) (h:q.2.2.length≤5000) (hx:qOW x):Ev (qo · x.1 x.2.1 x.2.2.1 x.2.2.2.1 x.2.2.2.2.1 x.2.2.2.2.2.1 x.2.2.2.2.2.2.1 x.2.2.2.2.2.2.2.1 x.2.2.2.2.2.2.2.2.1 x.2.2.2.2.2.2.2.2.2.1 x.2.2.2.2.2.2.2.2.2.2.1 x.2.2.2.2.2.2.2.2.2.2.2.1 x.2.2.2.2.2.2.2.2.2.2.2.2.1 ((kd x).map qAz) (BR s) (pos s q.1) q.2.1 q.2.2.length (q.2.2.map qa)) (qCC s (qDb x q)):=by
 obtain ⟨n1,h1⟩:=qHG x (by have:=hx.2;omega)
 refine ⟨n1+1,fun n hn=>?_⟩
 obtain ⟨k,rfl,hm⟩:=up1 hn
 have w2:IntKind.i64.wrap ((((q.2.2.length+1):Nat):Int)-1)=(q.2.2.length:Int):=by rw [qZ (by omega)];omega
 refine qD rfl (qD (decide_eq_true ⟨by simp,by decide,by decide,by simp;omega,rfl⟩) ?_)
 unfold qDb
 by_cases h6:60<q.2.2.length+1
 ·rw [if_pos (.inl h6)]
  refine qD (decide_eq_true (by omega)) ?_
  rw [qC,w2]
  simp only [qCC,qCa,List.map_append,List.length_append]
  rfl
 ·refine qO (decide_eq_false (by omega)) (qA (h1 k (by omega)) ?_)
  cases ho:qFE x with
  |true=>
   rw [if_neg (fun e=>e.elim h6 (by simp))]
   refine qO rfl ?_
   rw [qC,w2]
   simp only [qCC,qCa,List.map_append,List.length_append]
   rfl
  |false=>
   rw [if_pos (.inr rfl)]
   refine qD rfl ?_
   rw [qC,w2]
   simp only [qCC,qCa,List.map_append,List.length_append]
   rfl
theorem qMF {s:List UInt8} (hs:s.length≤1000) (n:Nat) (at0:Int) (b:Bool) (m:Nat) (rows:List (List PV)):∀(r:List UInt8) (M:Nat),r<:+s→r.length+1≤M→zC (qBn n) M (at0,BR s,pos s r,b,m,rows)=some (at0,BR s,pos s (wr r),b,m,rows)
 |r,0,_,h=>by omega
 | [],M+1,h,_=>by
  exact qP (qO (decide_eq_false (show ¬pos s []<((BR s).size:Int) by rw [qb];unfold pos;simp)) rfl)
 |c::t,M+1,h,hM=>by
  have hl:=qCx h
  simp only [List.length_cons] at hl hM
  have g:=qLB h
  have p1:pos s (c::t)<((BR s).size:Int):=by rw [qb];unfold pos;simp only [List.length_cons];omega
  have p0:decide (0≤pos s (c::t))=true:=decide_eq_true (qJz _ _)
  have w1:IntKind.i64.wrap (pos s (c::t)+1)=pos s t:=by
   have:=qJI (k:=1) h (t:=t) rfl (by simp)
   rw [qZ (by unfold pos;omega)];exact this
  have yes:(wch c=true)→(qBn n (at0,BR s,pos s (c::t),b,m,rows)).run=some (.inl (at0,BR s,pos s t,b,m,rows)):=fun hc=>by
   have fin:some (Sum.inl (at0,BR s,IntKind.i64.wrap (pos s (c::t)+1),b,m,rows))=(some (Sum.inl (at0,BR s,pos s t,b,m,rows)):Option (_⊕(Int×ByteArray×Int×Bool×Nat×List (List PV)))):=by rw [w1]
   refine qD (decide_eq_true p1) (qD p0 (qA g ?_))
   by_cases a1:(c.toNat:Int)≥65
   ·refine qD (decide_eq_true a1) (qD p0 (qA g ?_))
    by_cases a2:(c.toNat:Int)≤90
    ·exact qD (decide_eq_true a2) fin
    ·refine qO (decide_eq_false a2) (qD p0 (qA g ?_))
     by_cases a3:(c.toNat:Int)≥48
     ·refine qD (decide_eq_true a3) (qD p0 (qA g ?_))
      by_cases a4:(c.toNat:Int)≤57
      ·exact qD (decide_eq_true a4) fin
      ·refine qO (decide_eq_false a4) (qD p0 (qA g ?_))
       have a5:c=36:=by
        unfold wch at hc
        simp only [Bool.or_eq_true,Bool.and_eq_true,decide_eq_true_eq,beq_iff_eq] at hc
        rcases hc with hc|hc|hc
        ·omega
        ·omega
        ·exact hc
       exact qD (by rw [a5];rfl) fin
     ·omega
   ·refine qO (decide_eq_false a1) (qD p0 (qA g ?_))
    by_cases a3:(c.toNat:Int)≥48
    ·refine qD (decide_eq_true a3) (qD p0 (qA g ?_))
     by_cases a4:(c.toNat:Int)≤57
     ·exact qD (decide_eq_true a4) fin
     ·refine qO (decide_eq_false a4) (qD p0 (qA g ?_))
      have a5:c=36:=by
       unfold wch at hc
       simp only [Bool.or_eq_true,Bool.and_eq_true,decide_eq_true_eq,beq_iff_eq] at hc
       rcases hc with hc|hc|hc
       ·omega
       ·omega
       ·exact hc
      exact qD (by rw [a5];rfl) fin
    ·refine qO (decide_eq_false a3) (qD p0 (qA g ?_))
     have a5:c=36:=by
      unfold wch at hc
      simp only [Bool.or_eq_true,Bool.and_eq_true,decide_eq_true_eq,beq_iff_eq] at hc
      rcases hc with hc|hc|hc
      ·omega
      ·omega
      ·exact hc
     exact qD (by rw [a5];rfl) fin
  have no:(wch c=false)→(qBn n (at0,BR s,pos s (c::t),b,m,rows)).run=some (.inr (at0,BR s,pos s (c::t),b,m,rows)):=fun hc=>by
   have hc':¬((65≤c.toNat∧c.toNat≤90)∨(48≤c.toNat∧c.toNat≤57)∨c=36):=fun e=>by
    have:wch c=true:=by
     unfold wch
     simp only [Bool.or_eq_true,Bool.and_eq_true,decide_eq_true_eq,beq_iff_eq]
     exact e
    rw [hc] at this;cases this
   have a5:((c.toNat:Int)==36)=false:=by
    rw [beq_eq_false_iff_ne];intro e
    exact hc' (.inr (.inr (UInt8.toNat_inj.1 (show c.toNat=36 by omega))))
   refine qD (decide_eq_true p1) (qD p0 (qA g ?_))
   by_cases a1:(c.toNat:Int)≥65
   ·have a2:¬(c.toNat:Int)≤90:=fun e=>hc' (.inl ⟨by omega,by omega⟩)
    refine qD (decide_eq_true a1) (qD p0 (qA g (qO (decide_eq_false a2) ?_)))
    refine qD p0 (qA g (qD (decide_eq_true (show (c.toNat:Int)≥48 by omega)) ?_))
    exact qD p0 (qA g (qO (decide_eq_false (show ¬(c.toNat:Int)≤57 by omega)) (qD p0 (qA g (qO a5 rfl)))))
   ·refine qO (decide_eq_false a1) (qD p0 (qA g ?_))
    by_cases a3:(c.toNat:Int)≥48
    ·have a4:¬(c.toNat:Int)≤57:=fun e=>hc' (.inr (.inl ⟨by omega,by omega⟩))
     exact qD (decide_eq_true a3) (qD p0 (qA g (qO (decide_eq_false a4) (qD p0 (qA g (qO a5 rfl))))))
    ·exact qO (decide_eq_false a3) (qD p0 (qA g (qO a5 rfl)))
  cases hc:wch c with
  |true=>
   rw [qT (yes hc),show wr (c::t)=wr t by simp [wr,hc]]
   exact qMF hs n at0 b m rows t M (qNw h) (by omega)
  |false=>
   rw [qP (no hc),show wr (c::t)=c::t by simp [wr,hc]]
theorem qNx {s:List UInt8} (hs:s.length≤1000) (q:PS) (h:q.1<:+s):Ev (qCh · (BR s) (pos s q.1) q.2.1 q.2.2.length (q.2.2.map qa)) (BR (wd q.1),qCa s (wr q.1,q.2)):=by
 have hl:=qCx h
 have hw:=qF5 q.1
 have hd:=congrArg List.length (wdr q.1)
 simp only [List.length_append] at hd
 refine ⟨q.1.length+2,fun n hn=>?_⟩
 obtain ⟨k,rfl,hm⟩:=up1 hn
 refine qA (qMF hs k (pos s q.1) q.2.1 q.2.2.length (q.2.2.map qa) q.1 k h (by omega)) (qD (decide_eq_true ⟨qJz _ _,by unfold pos;simp only;omega,by rw [qb];unfold pos;simp only;omega⟩) ?_)
 rw [qC]
 have e:(pos s (wr q.1))=pos s q.1+((wd q.1).length:Int):=by unfold pos;omega
 have x:=qM2 (k:=(wd q.1).length) h
 rw [←e] at x
 have t:q.1.take (wd q.1).length=wd q.1:=by
  have:=List.take_left (l₁:=wd q.1) (l₂:=wr q.1)
  rwa [wdr] at this
 rw [t] at x
 show some ((BR s).extract (pos s q.1).toNat (pos s (wr q.1)).toNat,_)=_
 rw [x]
 rfl
theorem qGV {s:List UInt8} (hs:s.length≤1000) {n:Nat} (b:Bool) (l:List Nd) (res:Int×PS):∀(k:Nat) (r acc:List UInt8) (M:Nat),r.length≤k→r<:+s→acc.length+r.length≤1001→r.length+1≤M→
  (∀w t,qBs acc r=some (w,t)→qo n 1 0 2 0 (BR w) 0 0 false false 0 0 false false [] (BR s) (pos s t) b l.length (l.map qa)=some (qCC s res))→
  zC (qDQ n) M (BR acc,BR s,pos s r,b,l.length,l.map qa)=some (match qBs acc r with
   |none=> .inr (BR s,pos s [],b,l.length,l.map qa)
   |some _=> .inl (qCC s res))
 |k,r,acc,0,_,_,_,h,_=>by omega
 |k,[],acc,M+1,_,h,_,_,_=>by
  exact qP (qO (decide_eq_false (show ¬pos s []<((BR s).size:Int) by rw [qb];unfold pos;simp)) rfl)
 |0,c::t,acc,M+1,hk,_,_,_,_=>by simp at hk
 |k+1,c::t,acc,M+1,hk,h,ha,hM,hr=>by
  have hl:=qCx h
  simp only [List.length_cons] at hl hM hk ha
  have g:=qLB h
  have p1:pos s (c::t)<((BR s).size:Int):=by rw [qb];unfold pos;simp only [List.length_cons];omega
  have p0:decide (0≤pos s (c::t))=true:=decide_eq_true (qJz _ _)
  have pa:=qJI (k:=1) h (t:=t) rfl (by simp)
  have w1:IntKind.i64.wrap (pos s (c::t)+1)=pos s t:=by rw [qZ (by unfold pos;omega)];exact pa
  by_cases hc:c=34
  ·subst hc
   have ht:=qNw h
   by_cases hq:t.head?=some 34
   ·obtain ⟨u,rfl⟩:=qJH hq
    simp only [List.length_cons] at hl hM hk ha
    rw [qR2] at hr⊢
    have g2:=qLB ht
    have pb:=qJI (k:=1) ht (t:=u) rfl (by simp)
    have w2:IntKind.i64.wrap (pos s (34::u)+1)=pos s u:=by rw [qZ (by unfold pos;omega)];exact pb
    rw [qT (v':=(BR (acc++ [34]),BR s,pos s u,b,l.length,l.map qa)) (by
     refine qD (decide_eq_true p1) (qD p0 (qA g (qO rfl (qO (decide_eq_false (show ¬IntKind.i64.wrap (pos s (34::34::u)+1)≥((BR s).size:Int) by rw [w1,qb];unfold pos;simp only [List.length_cons];omega)) (qD (decide_eq_true (show 0≤IntKind.i64.wrap (pos s (34::34::u)+1) by rw [w1];exact qJz _ _)) (qA (x:=34) (by show (BR s).toList[(IntKind.i64.wrap (pos s (34::34::u)+1)).toNat]?=_;rw [w1];exact g2) (qO rfl (qD (decide_eq_true (show (BR acc).size+1≤9223372036854775807 by rw [qb];omega)) ?_))))))))
     rw [qC]
     show some (Sum.inl (BR acc++BR [34],BR s,IntKind.i64.wrap (IntKind.i64.wrap (pos s (34::34::u)+1)+1),b,l.length,l.map qa))=_
     rw [w1,w2,qLy])]
    exact qGV hs b l res k u _ M (by omega) (qNw ht) (by simp;omega) (by omega) hr
   ·rw [qR3 acc t hq] at hr⊢
    have hr:=hr acc t rfl
    refine qP (qD (decide_eq_true p1) (qD p0 (qA g (qO rfl ?_))))
    cases t with
    |nil=>
     refine qD (decide_eq_true (show IntKind.i64.wrap (pos s [34]+1)≥((BR s).size:Int) by rw [w1,qb];unfold pos;simp)) ?_
     rw [←w1] at hr
     exact qA hr rfl
    |cons d u=>
     have g2:=qLB ht
     have hd:¬d=34:=fun e=>hq (by rw [e];rfl)
     refine qO (decide_eq_false (show ¬IntKind.i64.wrap (pos s (34::d::u)+1)≥((BR s).size:Int) by rw [w1,qb];unfold pos;simp only [List.length_cons] at hl⊢;omega)) (qD (decide_eq_true (show 0≤IntKind.i64.wrap (pos s (34::d::u)+1) by rw [w1];exact qJz _ _)) (qA (x:=d) (by show (BR s).toList[(IntKind.i64.wrap (pos s (34::d::u)+1)).toNat]?=_;rw [w1];exact g2) (qD ?_ ?_)))
     ·rw [bne_iff_ne]
      intro e
      exact hd (UInt8.toNat_inj.1 (show d.toNat=34 by omega))
     ·rw [←w1] at hr
      exact qA hr rfl
  ·rw [qR4 acc t hc] at hr⊢
   have hx:=qM2 (k:=1) h
   rw [show ((1:Nat):Int)=1 from rfl] at hx pa
   have hx:(BR s).extract (pos s (c::t)).toNat (IntKind.i64.wrap (pos s (c::t)+1)).toNat=BR [c]:=by
    rw [w1,←pa];exact hx
   rw [qT (v':=(BR (acc++ [c]),BR s,pos s t,b,l.length,l.map qa)) (by
    refine qD (decide_eq_true p1) (qD p0 (qA g (qD ?_ (qD (decide_eq_true (show 0≤pos s (c::t)∧pos s (c::t)≤IntKind.i64.wrap (pos s (c::t)+1)∧IntKind.i64.wrap (pos s (c::t)+1)≤((BR s).size:Int) by rw [w1,qb];exact ⟨qJz _ _,by unfold pos;simp only [List.length_cons];omega,by unfold pos;omega⟩)) (qD (decide_eq_true (show (BR acc).size+((BR s).extract (pos s (c::t)).toNat (IntKind.i64.wrap (pos s (c::t)+1)).toNat).size≤9223372036854775807 by rw [hx,qb,qb];simp;omega)) ?_)))))
    ·rw [bne_iff_ne]
     intro e
     exact hc (UInt8.toNat_inj.1 (show c.toNat=34 by omega))
    ·rw [qC]
     show some (Sum.inl (BR acc++(BR s).extract (pos s (c::t)).toNat (IntKind.i64.wrap (pos s (c::t)+1)).toNat,BR s,IntKind.i64.wrap (pos s (c::t)+1),b,l.length,l.map qa))=_
     rw [hx,qLy,w1])]
   exact qGV hs b l res k t _ M (by omega) (qNw h) (by simp;omega) (by omega) hr
theorem qRL {s:List UInt8} (hs:s.length≤1000) (q:PS) (h:q.1<:+s) (hn:q.2.2.length≤5000):Ev (qEP · (BR s) (pos s q.1) q.2.1 q.2.2.length (q.2.2.map qa)) (qCC s (match qBs [] q.1 with
  |none=>(0,[],true,q.2.2)
  |some (w,t)=>qDb (nd1 (2,0,BR w)) (t,q.2))):=by
 have hl:=qCx h
 cases hq:qBs [] q.1 with
 |none=>
  refine ⟨q.1.length+2,fun n hn=>?_⟩
  obtain ⟨k,rfl,hm⟩:=up1 hn
  have lp:=qGV hs (n:=k) q.2.1 q.2.2 (0,q) q.1.length q.1 [] k (Nat.le_refl _) h (by simp;omega) (by omega) (fun w t e=>by rw [hq] at e;cases e)
  rw [hq] at lp
  exact qA lp rfl
 |some wt=>
  obtain ⟨w,t⟩:=wt
  have hw:=qF7 _ _ _ (Nat.le_refl _) hq
  simp only [List.length_nil] at hw
  obtain ⟨n1,h1⟩:=qI7 (s:=s) (nd1 (2,0,BR w)) (t,q.2) hn ⟨by simp [kd,nd1],by simp only [nd1,qb];omega⟩
  refine ⟨n1+q.1.length+2,fun n hn=>?_⟩
  obtain ⟨k,rfl,hm⟩:=up1 hn
  have lp:=qGV hs (n:=k) q.2.1 q.2.2 (qDb (nd1 (2,0,BR w)) (t,q.2)) q.1.length q.1 [] k (Nat.le_refl _) h (by simp;omega) (by omega) (fun w' t' e=>by rw [hq] at e;cases e;exact h1 k (by omega))
  rw [hq] at lp
  exact qA lp rfl
theorem qPP:∀o∈qBv,(qAH o).toList≠ []∧(qAH o).size≤2:=by decide+kernel
theorem qRM:∀o∈qBv,1≤o∧o≤11:=by decide
def opR:List (List PV):=qBv.map qAz
def rsL (level:Int) (r:List UInt8):List Int→List UInt8
 | []=>r
 |o::l=>if lvl o=level then rsL level (tb r) l else rsL level r l
theorem qL1 {s:List UInt8} (hs:s.length≤1000) {n:Nat} (level:Int) (R:List UInt8) (hR:tb R=R) (m:Nat) (rows:List (List PV))
  (h1:∀o∈qBv,qB1 n o=some (lvl o)) (h2:∀o∈qBv,qCU n o=some (qAH o)):
  ∀(k i:Nat) (r:List UInt8) (M:Nat),i+k=11→k+1≤M→tb r=R→
  (∀r',tb r'=R→(r'=r∨r'=R)→∀o∈qBv,q9 n (qAH o) (BR s) (pos s r') false m rows=some (if (qAH o).toList.isPrefixOf R=true then (true,BR s,pos s (R.drop (qAH o).size),false,m,rows) else (false,BR s,pos s R,false,m,rows)))→
  zC (qD0 n) M (level,11,(i:Int),opR,BR s,pos s r,false,m,rows)=some (if qDN level R (qBv.drop i)=0 then .inr (BR s,pos s (rsL level r (qBv.drop i)),false,m,rows) else .inl (qDN level R (qBv.drop i),BR s,pos s (R.drop (qAH (qDN level R (qBv.drop i))).size),false,m,rows))
 |k,i,r,0,_,h,_,_=>by omega
 |0,i,r,M+1,hk,_,_,_=>by
  have hi:i=11:=by omega
  subst hi
  exact qP (qO rfl rfl)
 |k+1,i,r,M+1,hk,hM,hr,h3=>by
  have hi:i<qBv.length:=by simp [qBv];omega
  obtain ⟨o,ho⟩:∃o,qBv[i]?=some o:=⟨_,List.getElem?_eq_getElem hi⟩
  have hin:=List.mem_of_getElem? ho
  have hR2:opR[i]?=some [PV.i .i64 o]:=by simp [opR,List.getElem?_map,ho,qAz]
  have hc:zD .i64 [PV.i .i64 o] 0=some o:=rfl
  have hd:qBv.drop i=o::qBv.drop (i+1):=qC2 ho
  have w5:IntKind.i64.wrap ((i:Int)+1)=((i+1:Nat):Int):=by rw [qZ (by omega)];omega
  have g1:decide ((i:Int)<((11:Nat):Int))=true:=decide_eq_true (by omega)
  have g2:decide (11=opR.length∧0≤(i:Int)∧(i:Int)<((11:Nat):Int))=true:=decide_eq_true ⟨rfl,by omega,by omega⟩
  have h0:o≠0:=by have:=qRM o hin;omega
  rw [hd]
  by_cases hl:lvl o=level
  ·have is:=h3 r hr (.inl rfl) o hin
   by_cases hp:(qAH o).toList.isPrefixOf R=true
   ·have e:qDN level R (o::qBv.drop (i+1))=o:=by unfold qDN;rw [if_pos ⟨hl,hp⟩]
    rw [e,if_neg h0]
    rw [if_pos hp] at is
    exact qP (qD g1 (qD g2 (qA hR2 (qA hc (qA (h1 o hin) (qD (beq_iff_eq.2 hl) (qD g2 (qA hR2 (qA hc (qA (h2 o hin) (qA is (qD rfl (qD g2 (qA hR2 (qA hc rfl)))))))))))))))
   ·have e:qDN level R (o::qBv.drop (i+1))=qDN level R (qBv.drop (i+1)):=by
     conv=>lhs;unfold qDN
     rw [if_neg (fun h=>hp h.2)]
    have e2:rsL level r (o::qBv.drop (i+1))=rsL level R (qBv.drop (i+1)):=by
     conv=>lhs;unfold rsL
     rw [if_pos hl,hr]
    rw [e,e2]
    rw [if_neg hp] at is
    rw [qT (v':=(level,11,((i+1:Nat):Int),opR,BR s,pos s R,false,m,rows)) (by
     refine qD g1 (qD g2 (qA hR2 (qA hc (qA (h1 o hin) (qD (beq_iff_eq.2 hl) (qD g2 (qA hR2 (qA hc (qA (h2 o hin) (qA is (qO rfl ?_)))))))))))
     rw [qC,w5])]
    exact qL1 hs level R hR m rows h1 h2 k (i+1) R M (by omega) (by omega) hR (fun r' a b=>h3 r' a (.inr (b.elim id id)))
  ·have e:qDN level R (o::qBv.drop (i+1))=qDN level R (qBv.drop (i+1)):=by
    conv=>lhs;unfold qDN
    rw [if_neg (fun h=>hl h.1)]
   have e2:rsL level r (o::qBv.drop (i+1))=rsL level r (qBv.drop (i+1)):=by
    conv=>lhs;unfold rsL
    rw [if_neg hl]
   rw [e,e2]
   rw [qT (v':=(level,11,((i+1:Nat):Int),opR,BR s,pos s r,false,m,rows)) (by
    refine qD g1 (qD g2 (qA hR2 (qA hc (qA (h1 o hin) (qO (beq_eq_false_iff_ne.2 hl) ?_)))))
    rw [qC,w5])]
   exact qL1 hs level R hR m rows h1 h2 k (i+1) r M (by omega) (by omega) hr h3
theorem qSA {level:Int} (h:1≤level∧level≤4) (r:List UInt8):rsL level r qBv=tb r:=by
 have c:level=1∨level=2∨level=3∨level=4:=by omega
 rcases c with rfl|rfl|rfl|rfl<;>simp [rsL,qBv,lvl,qCB]
theorem qSB {s:List UInt8} (hs:s.length≤1000) {level:Int} (hl:1≤level∧level≤4) (q:PS) (hb:q.2.1=false) (h:q.1<:+s):Ev (qD1 · level (BR s) (pos s q.1) q.2.1 q.2.2.length (q.2.2.map qa)) (qCC s (sOp level q)):=by
 obtain ⟨n1,h1⟩:=qB8 (F:=fun o n=>qB1 n o) (f:=lvl) qBv (fun o _=>qH7 o)
 obtain ⟨n2,h2⟩:=qB8 (F:=fun o n=>qCU n o) (f:=qAH) qBv (fun o ho=>qI1 o (qRM o ho))
 obtain ⟨n3,h3⟩:=qB8 (F:=fun o n=>q9 n (qAH o) (BR s) (pos s q.1) q.2.1 q.2.2.length (q.2.2.map qa)) (f:=fun o=>((sIs (qAH o).toList q).1,qCa s (sIs (qAH o).toList q).2)) qBv (fun o ho=>by
  have:=qF8 hs (qAH o).toList (by rw [qAN];have:=(qPP o ho).2;omega) q h
  rwa [qH9] at this)
 obtain ⟨n4,h4⟩:=qB8 (F:=fun o n=>q9 n (qAH o) (BR s) (pos s (tb q.1)) q.2.1 q.2.2.length (q.2.2.map qa)) (f:=fun o=>((sIs (qAH o).toList (tb q.1,q.2)).1,qCa s (sIs (qAH o).toList (tb q.1,q.2)).2)) qBv (fun o ho=>by
  have:=qF8 hs (qAH o).toList (by rw [qAN];have:=(qPP o ho).2;omega) (tb q.1,q.2) (qQH h)
  rwa [qH9] at this)
 refine ⟨n1+n2+n3+n4+13,fun n hn=>?_⟩
 obtain ⟨k,rfl,hm⟩:=up1 hn
 have lp:=qL1 hs (n:=k) level (tb q.1) (qCB q.1) q.2.2.length (q.2.2.map qa) (h1 k (by omega)) (h2 k (by omega)) 11 0 q.1 k (by omega) (by omega) rfl (fun r' _ hr' o ho=>by
  rcases hr' with rfl|rfl
  ·have:=h3 k (by omega) o ho
   rw [hb] at this
   refine this.trans ?_
   unfold sIs
   rw [if_neg (by rw [hb];simp)]
   by_cases hp:(qAH o).toList.isPrefixOf (tb q.1)=true
   ·rw [if_pos hp,if_pos hp,qAN];simp only [qCa,hb]
   ·rw [if_neg hp,if_neg hp];simp only [qCa,hb]
  ·have:=h4 k (by omega) o ho
   rw [hb] at this
   refine this.trans ?_
   unfold sIs
   rw [if_neg (by rw [hb];simp)]
   simp only [qCB]
   by_cases hp:(qAH o).toList.isPrefixOf (tb q.1)=true
   ·rw [if_pos hp,if_pos hp,qAN];simp only [qCa,hb]
   ·rw [if_neg hp,if_neg hp];simp only [qCa,hb])
 rw [List.drop_zero,qSA hl] at lp
 unfold sOp
 rw [if_neg (by rw [hb];simp)]
 show qD1 (k+1) level (BR s) (pos s q.1) q.2.1 q.2.2.length (q.2.2.map qa)=_
 rw [hb]
 by_cases h0:qDN level (tb q.1) qBv=0
 ·rw [if_pos h0] at lp
  rw [if_pos h0]
  refine qA lp ?_
  simp only [qCC,qCa,hb,h0]
  rfl
 ·rw [if_neg h0] at lp
  rw [if_neg h0]
  refine qA lp ?_
  simp only [qCC,qCa,hb]
  rfl
theorem qNy {s:List UInt8} (hs:s.length≤1000) {n:Nat} (r:List UInt8) (hr:r<:+s) (b:Bool) (l:List Nd)
  (h1:∀i,1≤i∧i≤5→qBE n i=some (qe i)) (h2:∀i,1≤i∧i≤5→qCg n i=some (4,i,em))
  (h4:∀i,1≤i∧i≤5→qo n 1 0 4 i em 0 0 false false 0 0 false false [] (BR s) (pos s (r.drop ((qe i).size-1))) b l.length (l.map qa)=some (qCC s (qDb (nd1 (4,i,em)) (r.drop ((qe i).size-1),b,l)))):
  ∀(k:Nat) (i:Int) (M:Nat),1≤i→i+k=6→k+1≤M→zC (qCH n) M (i,BR s,pos s r,b,l.length,l.map qa)=some (match qPm r i k with
   |some e=> .inl (qCC s (qDb (nd1 (4,e,em)) (r.drop ((qe e).size-1),b,l)))
   |none=> .inr (BR s,pos s r,b,l.length,l.map qa))
 |k,i,0,_,_,h=>by omega
 |0,i,M+1,hi,hk,h=>by
  exact qP (qO (decide_eq_false (show ¬i≤5 by omega)) rfl)
 |k+1,i,M+1,hi,hk,h=>by
  have hi5:1≤i∧i≤5:=⟨hi,by omega⟩
  have hsz:1≤(qe i).size∧(qe i).size≤7:=by
   have c:i=1∨i=2∨i=3∨i=4∨i=5:=by omega
   rcases c with rfl|rfl|rfl|rfl|rfl<;>decide+kernel
  have hx:(qe i).extract ((1:Int)).toNat (((qe i).size:Nat):Int).toNat=BR (qe i).toList.tail:=by
   conv=>lhs;rw [←qH9 (qe i)]
   rw [qE5,qb,qAN]
   congr 1
   rw [Int.toNat_natCast,List.take_of_length_le (by rw [qAN];omega)]
   exact List.drop_one
  have hxs:((qe i).extract ((1:Int)).toNat (((qe i).size:Nat):Int).toNat).size=(qe i).size-1:=by
   rw [hx,qb,List.length_tail,qAN]
  have hl:=qCx hr
  have w1:IntKind.i64.wrap (pos s r+(((qe i).extract ((1:Int)).toNat (((qe i).size:Nat):Int).toNat).size:Int))=pos s r+(((qe i).size-1:Nat):Int):=by
   rw [hxs];exact qZ (by unfold pos;omega)
  have w2:IntKind.i64.wrap (i+1)=i+1:=qZ (by omega)
  have ih:=qNy hs r hr b l h1 h2 h4 k (i+1) M (by omega) (by omega) (by omega)
  unfold qPm
  by_cases hf:pos s r+(((qe i).size-1:Nat):Int)≤(s.length:Int)
  ·have hk2:(qe i).size-1≤r.length:=by unfold pos at hf;omega
   have cmp:(((BR s).extract (pos s r).toNat (IntKind.i64.wrap (pos s r+(((qe i).extract ((1:Int)).toNat (((qe i).size:Nat):Int).toNat).size:Int))).toNat).toList==((qe i).extract ((1:Int)).toNat (((qe i).size:Nat):Int).toNat).toList)=true↔(qe i).toList.tail.isPrefixOf r=true:=by
    rw [w1,qM2 hr,hx,qAI,qAI,beq_iff_eq,List.isPrefixOf_iff_prefix,List.prefix_iff_eq_take,List.length_tail,qAN]
    exact ⟨fun e=>e.symm,fun e=>e.symm⟩
   have g1:decide (IntKind.i64.wrap (pos s r+(((qe i).extract ((1:Int)).toNat (((qe i).size:Nat):Int).toNat).size:Int))≤((BR s).size:Int))=true:=decide_eq_true (by rw [w1,qb];exact hf)
   have g2:decide (0≤pos s r∧pos s r≤IntKind.i64.wrap (pos s r+(((qe i).extract ((1:Int)).toNat (((qe i).size:Nat):Int).toNat).size:Int))∧IntKind.i64.wrap (pos s r+(((qe i).extract ((1:Int)).toNat (((qe i).size:Nat):Int).toNat).size:Int))≤((BR s).size:Int))=true:=decide_eq_true (by rw [w1,qb];exact ⟨qJz _ _,by omega,hf⟩)
   by_cases hp:(qe i).toList.tail.isPrefixOf r=true
   ·rw [if_pos hp]
    have h4:=h4 i hi5
    rw [←qJI hr rfl hk2,←w1] at h4
    exact qP (qD (decide_eq_true (show i≤5 by omega)) (qA (h1 i hi5) (qD (decide_eq_true ⟨by decide,by omega,Int.le_refl _⟩) (qD g1 (qD g2 (qD (cmp.2 hp) (qA (h2 i hi5) (qA h4 rfl))))))))
   ·rw [if_neg hp]
    rw [qT (v':=(i+1,BR s,pos s r,b,l.length,l.map qa)) (by
     refine qD (decide_eq_true (show i≤5 by omega)) (qA (h1 i hi5) (qD (decide_eq_true ⟨by decide,by omega,Int.le_refl _⟩) (qD g1 (qD g2 (qO (by rw [Bool.eq_false_iff];exact fun e=>hp (cmp.1 e)) ?_)))))
     rw [qC,w2])]
    exact ih
  ·have hp:¬(qe i).toList.tail.isPrefixOf r=true:=by
    intro e
    have:=(List.isPrefixOf_iff_prefix.1 e).length_le
    rw [List.length_tail,qAN] at this
    unfold pos at hf
    omega
   rw [if_neg hp]
   rw [qT (v':=(i+1,BR s,pos s r,b,l.length,l.map qa)) (by
    refine qD (decide_eq_true (show i≤5 by omega)) (qA (h1 i hi5) (qD (decide_eq_true ⟨by decide,by omega,Int.le_refl _⟩) (qO (decide_eq_false (by rw [w1,qb];exact hf)) ?_)))
    rw [qC,w2])]
   exact ih
theorem qRq {s:List UInt8} (hs:s.length≤1000) (r:List UInt8) (hr:r<:+s) (b:Bool) (l:List Nd) (hl:l.length≤5000):∃n0,∀n,n0≤n→∀M,n0≤M→zC (qCH n) M (1,BR s,pos s r,b,l.length,l.map qa)=some (match qPm r 1 5 with
   |some e=> .inl (qCC s (qDb (nd1 (4,e,em)) (r.drop ((qe e).size-1),b,l)))
   |none=> .inr (BR s,pos s r,b,l.length,l.map qa)):=by
 obtain ⟨n1,h1⟩:=qFK (F:=qBE) (f:=qe) (lo:=1) (by decide) (fun i hi=>qF1 i ⟨by omega,hi.2⟩)
 obtain ⟨n2,h2⟩:=qFK (F:=qCg) (f:=fun i=>(4,i,em)) (lo:=1) (by decide) (fun i _=>qMr i)
 obtain ⟨n4,h4⟩:=qFK (F:=fun n i=>qo n 1 0 4 i em 0 0 false false 0 0 false false [] (BR s) (pos s (r.drop ((qe i).size-1))) b l.length (l.map qa)) (f:=fun i=>qCC s (qDb (nd1 (4,i,em)) (r.drop ((qe i).size-1),b,l))) (lo:=1) (by decide) (fun i _=>qI7 (s:=s) (nd1 (4,i,em)) (r.drop ((qe i).size-1),b,l) hl ⟨by simp [kd,nd1],by simp [nd1,em];decide⟩)
 exact ⟨n1+n2+n4+7,fun n hn M hM=>qNy hs r hr b l (h1 n (by omega)) (h2 n (by omega)) (h4 n (by omega)) 5 1 M (by omega) (by omega) (by omega)⟩
theorem qRr:∃n0,∀n,n0≤n→∀i,1≤i∧i≤10→qCF n i=some (fnS i):=by
 obtain ⟨n1,h1⟩:=qB8 (F:=fun (i:Nat) n=>qCF n ((i:Int)+1)) (f:=fun i=>fnS ((i:Int)+1)) (List.range 10) (fun i hi=>qK3 _ (by have:=List.mem_range.1 hi;omega))
 refine ⟨n1,fun n hn i hi=>?_⟩
 have:=h1 n hn (i-1).toNat (List.mem_range.2 (by omega))
 rwa [show (((i-1).toNat:Nat):Int)+1=i by omega] at this
theorem qSC {i j:Int} (hi:1≤i∧i≤10) (hj:1≤j∧j≤10) (h:(fnS i).toList=(fnS j).toList):i=j:=by
 have t:∀a:Fin 10,∀b:Fin 10,(fnS (((a.val:Nat):Int)+1)).toList=(fnS (((b.val:Nat):Int)+1)).toList→a=b:=by decide+kernel
 have:=t ⟨(i-1).toNat,by omega⟩ ⟨(j-1).toNat,by omega⟩ (by
  simp only
  rw [show (((i-1).toNat:Nat):Int)+1=i by omega,show (((j-1).toNat:Nat):Int)+1=j by omega]
  exact h)
 have:=congrArg Fin.val this
 simp only at this
 omega
theorem qOs {g:G_spec_l3Rd_row} {n:Nat} {s:List UInt8} (w:List UInt8) (q:PS) (h1:∀i,1≤i∧i≤10→qCF n i=some (fnS i)):
  ∀(k:Nat) (i:Int) (M:Nat),1≤i→i+k=11→k+1≤M→(∀j,i≤j∧j≤10→(fnS j).toList≠w)→zC (qCq g n) M (BR w,i,qCa s q)=some (.inr (BR w,qCa s q))
 |k,i,0,_,_,h,_=>by omega
 |0,i,M+1,hi,hk,h,_=>qP (qO (decide_eq_false (show ¬i≤10 by omega)) rfl)
 |k+1,i,M+1,hi,hk,h,hn=>by
  have w1:IntKind.i64.wrap (i+1)=i+1:=qZ (by omega)
  rw [qT (v':=(BR w,i+1,qCa s q)) (by
   refine qD (decide_eq_true (show i≤10 by omega)) (qA (h1 i ⟨hi,by omega⟩) (qO (by rw [beq_eq_false_iff_ne];show (fnS i).toList≠(BR w).toList;rw [qAI];exact hn i ⟨Int.le_refl _,by omega⟩) ?_))
   rw [qC,w1])]
  exact qOs w q h1 k (i+1) M (by omega) (by omega) (by omega) (fun j hj=>hn j ⟨by omega,hj.2⟩)
theorem qJJ {g:G_spec_l3Rd_row} {n:Nat} {s:List UInt8} (w:List UInt8) (q:PS) (res:Int→Int×PS) (h1:∀i,1≤i∧i≤10→qCF n i=some (fnS i))
  (h2:q9 n ⟨#[40]⟩ (BR s) (pos s q.1) q.2.1 q.2.2.length (q.2.2.map qa)=some ((sIs [40] q).1,qCa s (sIs [40] q).2)):
  ∀(k:Nat) (i:Int) (M:Nat),1≤i→i+k=11→k+1≤M→(∀op,qFM w i k=some op→(sIs [40] q).1=true→g.spec_l3Rd_call op (BR s) (pos s (sIs [40] q).2.1) (sIs [40] q).2.2.1 (sIs [40] q).2.2.2.length ((sIs [40] q).2.2.2.map qa)=some (qCC s (res op)))→
   zC (qCq g n) M (BR w,i,qCa s q)=some (match qFM w i k with
   |some op=>if (sIs [40] q).1=true then .inl (qCC s (res op)) else .inr (BR w,qCa s (sIs [40] q).2)
   |none=> .inr (BR w,qCa s q))
 |k,i,0,_,_,h,_=>by omega
 |0,i,M+1,hi,hk,h,_=>qP (qO (decide_eq_false (show ¬i≤10 by omega)) rfl)
 |k+1,i,M+1,hi,hk,h,hc=>by
  have w1:IntKind.i64.wrap (i+1)=i+1:=qZ (by omega)
  unfold qFM at hc⊢
  by_cases hq:(fnS i).toList=w
  ·rw [if_pos hq] at hc⊢
   have hqb:((fnS i).toList==(BR w).toList)=true:=by rw [beq_iff_eq,qAI];exact hq
   simp only
   cases hi2:(sIs [40] q).1 with
   |true=>
    rw [if_pos rfl]
    exact qP (qD (decide_eq_true (show i≤10 by omega)) (qA (h1 i ⟨hi,by omega⟩) (qD hqb (qA h2 (qD hi2 (qA (hc i rfl hi2) rfl))))))
   |false=>
    rw [if_neg (by simp)]
    rw [qT (v':=(BR w,i+1,qCa s (sIs [40] q).2)) (by
     refine qD (decide_eq_true (show i≤10 by omega)) (qA (h1 i ⟨hi,by omega⟩) (qD hqb (qA h2 (qO hi2 ?_))))
     rw [qC,w1])]
    exact qOs w _ h1 k (i+1) M (by omega) (by omega) (by omega) (fun j hj e=>by
     have:=qSC (i:=i) (j:=j) ⟨hi,by omega⟩ ⟨by omega,hj.2⟩ (hq.trans e.symm)
     omega)
  ·rw [if_neg hq] at hc⊢
   rw [qT (v':=(BR w,i+1,qCa s q)) (by
    refine qD (decide_eq_true (show i≤10 by omega)) (qA (h1 i ⟨hi,by omega⟩) (qO (by rw [beq_eq_false_iff_ne];show (fnS i).toList≠(BR w).toList;rw [qAI];exact hq) ?_))
    rw [qC,w1])]
   exact qJJ w q res h1 h2 k (i+1) M (by omega) (by omega) (by omega) hc
structure Go (k:Nat) (q q':PS):Prop where
 suf:q'.1<:+q.1
 sum:q'.2.2.length+q'.1.length+k≤q.2.2.length+q.1.length
 sm:(∀x∈q.2.2,qOW x)→∀x∈q'.2.2,qOW x
theorem Go.refl (q:PS):Go 0 q q:=⟨List.suffix_rfl,Nat.le_refl _,id⟩
theorem Go.trans {a b:Nat} {p q r:PS} (h:Go a p q) (h':Go b q r):Go (a+b) p r:=⟨h'.suf.trans h.suf,by have:=h.sum;have:=h'.sum;omega,fun e=>h'.sm (h.sm e)⟩
theorem Go.tr0 {p q r:PS} (h:Go 0 p q) (h':Go 0 q r):Go 0 p r:=h.trans h'
theorem Go.add {p q:PS} {x:Nd} (h:Go 1 p q) (hx:qOW x):Go 0 p (qDb x q).2:=by
 refine ⟨h.suf,?_,fun e y hy=>?_⟩
 ·have:=h.sum
  simp only [qDb,List.length_append,List.length_singleton]
  omega
 ·simp only [qDb,List.mem_append,List.mem_singleton] at hy
  rcases hy with hy|rfl
  ·exact h.sm e y hy
  ·exact hx
theorem Go.weak {k:Nat} {p q:PS} (h:Go k p q):Go 0 p q:=⟨h.suf,by have:=h.sum;omega,h.sm⟩
theorem Go.of (q:PS) {r:List UInt8} (b:Bool) {k:Nat} (h:r<:+q.1) (hk:r.length+k≤q.1.length):Go k q (r,b,q.2.2):=⟨h,by simp only;omega,id⟩
theorem qLC (q:PS):Go 0 q (tb q.1,q.2):=⟨List.dropWhile_suffix _,by have:=qx q.1;simp only;omega,id⟩
theorem qOt (q:PS):Go 0 q (wr (tb q.1),q.2):=⟨(List.dropWhile_suffix _).trans (List.dropWhile_suffix _),by have:=qx q.1;have:=qF5 (tb q.1);simp only;omega,id⟩
theorem qRN (q:PS) (h:wd (tb q.1)≠ []):Go 1 q (wr (tb q.1),q.2):=⟨(List.dropWhile_suffix _).trans (List.dropWhile_suffix _),by
 have:=qx q.1
 have e:=congrArg List.length (wdr (tb q.1))
 have:=List.length_pos_iff.2 h
 simp only [List.length_append] at e
 simp only;omega,id⟩
theorem qJ0 {w:List UInt8} {q:PS} (h:(sIs w q).1=true):w<+:tb q.1∧(sIs w q).2=((tb q.1).drop w.length,q.2)∧q.2.1=false:=by
 unfold sIs at h⊢
 split at h
 ·cases h
 ·rename_i hb
  rw [if_neg hb]
  split at h
  ·rename_i hp
   rw [if_pos hp]
   exact ⟨List.isPrefixOf_iff_prefix.1 hp,rfl,by rw [Bool.eq_false_iff];exact hb⟩
  ·cases h
theorem qOu {w:List UInt8} {q:PS} (h:(sIs w q).1=false):(sIs w q).2=(tb q.1,q.2):=by
 unfold sIs at h⊢
 split at h
 ·rename_i hb;rw [if_pos hb]
 ·rename_i hb
  rw [if_neg hb]
  split at h
  ·cases h
  ·rename_i hp;rw [if_neg hp]
theorem qI8 (w:List UInt8) (q:PS):Go 0 q (sIs w q).2:=by
 cases h:(sIs w q).1 with
 |true=>
  obtain ⟨_,h2,_⟩:=qJ0 h
  rw [h2]
  exact Go.tr0 (qLC q) ⟨List.drop_suffix _ _,by simp,id⟩
 |false=>rw [qOu h];exact qLC q
theorem qEK {w:List UInt8} (hw:w≠ []) {q:PS} (h:(sIs w q).1=true):Go 1 q (sIs w q).2:=by
 obtain ⟨h1,h2,_⟩:=qJ0 h
 rw [h2]
 have l1:=h1.length_le
 have l2:=List.length_pos_iff.2 hw
 have:=qx q.1
 exact ⟨(List.drop_suffix _ _).trans (List.dropWhile_suffix _),by simp;omega,id⟩
theorem qNz {k:Nat} {p q:PS} (h:Go k p q):Go k p (qKY q):=⟨h.suf,h.sum,h.sm⟩
theorem qRO:∀(t r:List UInt8),(tb r).length≤(tb (t++r)).length
 | [],r=>Nat.le_refl _
 |c::t,r=>by
  have ih:=qRO t r
  have:=qx (t++r)
  by_cases hc:c=32
  ·rw [show tb (c::t++r)=tb (t++r) by simp [tb,hc]];exact ih
  ·rw [show tb (c::t++r)=c::(t++r) by simp [tb,hc]]
   simp only [List.length_cons];omega
theorem Go.tb {k:Nat} {p q:PS} (h:Go k p q):(tb q.1).length≤(tb p.1).length:=by
 obtain ⟨t,ht⟩:=h.suf
 rw [←ht];exact qRO t q.1
theorem qQh {w:List UInt8} (hw:w≠ []) {q:PS} (h:(sIs w q).1=true):(tb (sIs w q).2.1).length<(tb q.1).length:=by
 obtain ⟨h1,h2,_⟩:=qJ0 h
 rw [h2]
 exact qPN hw h1
theorem qQi (level:Int) (r:List UInt8):∀l:List Int,qDN level r l≠0→qDN level r l∈l∧(qAH (qDN level r l)).toList<+:r
 | [],h=>absurd rfl h
 |o::l,h=>by
  unfold qDN at h⊢
  split at h
  ·rename_i hc
   rw [if_pos hc]
   exact ⟨List.mem_cons_self ..,List.isPrefixOf_iff_prefix.1 hc.2⟩
  ·rename_i hc
   rw [if_neg hc]
   have:=qQi level r l h
   exact ⟨List.mem_cons_of_mem _ this.1,this.2⟩
theorem qRx (level:Int) (q:PS):Go 0 q (sOp level q).2∧((sOp level q).1≠0→Go 1 q (sOp level q).2∧(tb (sOp level q).2.1).length<(tb q.1).length):=by
 unfold sOp
 split
 ·exact ⟨qLC q,fun h=>absurd rfl h⟩
 ·simp only
  by_cases h:qDN level (tb q.1) qBv=0
  ·rw [if_pos h]
   exact ⟨qLC q,fun e=>absurd h e⟩
  ·rw [if_neg h]
   obtain ⟨h1,h2⟩:=qQi level (tb q.1) qBv h
   have ne:=(qPP _ h1).1
   have l1:=h2.length_le
   have l2:=List.length_pos_iff.2 ne
   rw [qAN] at l1 l2
   have l3:=qx q.1
   have g:Go 1 q ((tb q.1).drop (qAH (qDN level (tb q.1) qBv)).size,q.2):=⟨(List.drop_suffix _ _).trans (List.dropWhile_suffix _),by simp;omega,id⟩
   have t:=qPN ne h2
   rw [qAN] at t
   exact ⟨g.weak,fun _=>⟨g,t⟩⟩
theorem qL2:∀(k:Nat) (acc r:List UInt8) {w t:List UInt8},r.length≤k→qBs acc r=some (w,t)→t<:+r
 |k,acc,[],w,t,hk,h=>by simp [qBs] at h
 |0,acc,c::r,w,t,hk,h=>by simp at hk
 |k+1,acc,c::r,w,t,hk,h=>by
  simp only [List.length_cons] at hk
  by_cases hc:c=34
  ·subst hc
   by_cases hq:r.head?=some 34
   ·obtain ⟨u,rfl⟩:=qJH hq
    rw [qR2] at h
    simp only [List.length_cons] at hk
    have:=qL2 k _ u (by omega) h
    exact this.trans ((List.suffix_cons 34 u).trans (List.suffix_cons 34 _))
   ·rw [qR3 acc r hq] at h
    cases h
    exact List.suffix_cons 34 _
  ·rw [qR4 acc r hc] at h
   exact (qL2 k _ r (by omega) h).trans (List.suffix_cons c _)
def Ks:SJ→PS→Prop
 | .call _ kids,q=>q.2.1=true∨kids.length+q.1.length≤1500
 |_,_=>True
theorem qHk {k op:Int} {kids:List Int} (h:kids.length≤2000):qOW (ndK k op kids):=⟨h,by simp [ndK,em];decide⟩
theorem qBh {k:Nat} {p q:PS} (h:Go k p q):q.1.length≤p.1.length:=h.suf.length_le
theorem qEN (H:RdOK):∀(f:Nat) (j:SJ) (q:PS),q.1.length≤1000→Ks j q→Go 0 q (sP f j q).2
 |0,j,q,_,_=>Go.refl q
 |f+1,.row level,q,hr,_=>by
  unfold sP
  split
  ·exact Go.refl q
  ·split
   ·exact qEN H f .one q hr trivial
   ·have a:=qEN H f (.row (level+1)) q hr trivial
    exact a.tr0 (qEN H f (.rl level _) _ (Nat.le_trans (qBh a) hr) trivial)
 |f+1,.rl level a,q,hr,_=>by
  unfold sP
  split
  ·exact Go.refl q
  ·simp only
   have o:=qRx level q
   split
   ·exact o.1
   ·rename_i h0
    have o1:=(o.2 h0).1
    have b:=qEN H f (.row (level+1)) (sOp level q).2 (Nat.le_trans (qBh o1) hr) trivial
    have c:=Go.add (x:=ndK 5 (sOp level q).1 [a,(sP f (.row (level+1)) (sOp level q).2).1]) (o1.trans b) (qHk (by simp))
    exact c.tr0 (qEN H f (.rl level _) _ (Nat.le_trans (qBh c) hr) trivial)
 |f+1,.one,q,hr,_=>by
  unfold sP
  split
  ·rename_i h
   have a:=qEK (by simp) h
   have b:=qEN H f (.row 5) (sIs [45] q).2 (Nat.le_trans (qBh a) hr) trivial
   exact Go.add (a.trans b) (qHk (by simp))
  ·have a:=qI8 [45] q
   split
   ·rename_i h
    have c:=a.tr0 (qEK (by simp) h).weak
    have b:=qEN H f (.row 1) (sIs [40] (sIs [45] q).2).2 (Nat.le_trans (qBh c) hr) trivial
    have d:=(c.tr0 b).tr0 (qI8 [41] _)
    simp only
    split
    ·exact d
    ·exact qNz d
   ·simp only
    have t:=qLC q
    split
    ·rename_i h
     have c:=qEK (by simp) h
     obtain ⟨_,e,_⟩:=qJ0 h
     split
     ·exact ⟨List.nil_suffix,by simp,id⟩
     ·rename_i w u hq
      have d:=qL2 _ _ _ (Nat.le_refl _) hq
      have d2:=d.length_le
      have dz:=qF7 _ _ _ (Nat.le_refl _) hq
      have g:=t.trans c
      have l:=qBh g
      have sg:=g.sum
      have eq:(sIs [34] (tb q.1,q.2)).2.2=q.2:=by rw [e]
      rw [eq] at sg
      simp only [List.length_nil] at dz
      exact Go.add (q:=(u,q.2)) ⟨d.trans g.suf,by simp only;omega,id⟩ ⟨by simp [kd,nd1],by simp only [nd1,qb];omega⟩
    ·split
     ·rename_i h
      have c:=qEK (by simp) h
      obtain ⟨_,e,_⟩:=qJ0 h
      have g:=t.trans c
      have l:=qBh g
      have sg:=g.sum
      have eq:(sIs [35] (tb q.1,q.2)).2.2=q.2:=by rw [e]
      rw [eq] at sg
      split
      ·exact Go.add (q:=(_,q.2)) ⟨(List.drop_suffix _ _).trans g.suf,by simp;omega,id⟩ ⟨by simp [kd,nd1],by simp [nd1,em];decide⟩
      ·exact ⟨g.suf,by simp only;omega,id⟩
     ·have w:=qOt q
      split
      ·split
       ·have c:=w.tr0 (qI8 [40] _)
        exact c.tr0 (qEN H f (.call _ []) _ (Nat.le_trans (qBh c) hr) (.inr (by have:=qBh c;simp only [List.length_nil];omega)))
       ·exact qNz (w.tr0 (qI8 [40] _))
      ·split
       ·rename_i hv
        exact Go.add (qRN q hv.2) ⟨by simp [kd,nd1],qI6 hv.1 (H.v _ (qQD _) hv.2 hv.1)⟩
       ·split
        ·rename_i hp
         exact Go.add (qRN q (fun e=>by rw [e,H.p0] at hp;cases hp)) ⟨by simp [kd,ndC],by simp [ndC,em];decide⟩
        ·exact qNz w
 |f+1,.call op kids,q,hr,hk=>by
  unfold sP
  split
  ·exact Go.refl q
  ·rename_i hb
   have hk:kids.length+q.1.length≤1500:=hk.elim (fun h=>absurd h hb) id
   have a:=qEN H f .arg q hr trivial
   simp only
   split
   ·rename_i h
    exact Go.add (a.trans (qEK (by simp) h)) (qHk (by simp;omega))
   ·have c:=a.tr0 (qI8 [41] _)
    split
    ·rename_i h
     have d:=c.trans (qEK (by simp) h)
     obtain ⟨e1,e2,_⟩:=qJ0 h
     have l:=e1.length_le
     have l2:=qBh c
     have l3:=qx (sIs [41] (sP f .arg q).2).2.1
     simp only [List.length_cons,List.length_nil] at l
     exact d.weak.tr0 (qEN H f (.call op _) _ (Nat.le_trans (qBh d) hr) (.inr (by rw [e2];simp;omega)))
    ·have d:=qNz (c.tr0 (qI8 [44] _))
     exact d.tr0 (qEN H f (.call op _) _ (Nat.le_trans (qBh d) hr) (.inl rfl))
 |f+1,.arg,q,hr,_=>by
  unfold sP
  simp only
  have w:=qOt q
  split
  ·rename_i h
   have c:=w.trans (qEK (by simp) h.2)
   have d:=c.trans (qOt _)
   split
   ·exact Go.add d ⟨by simp [kd,ndA],by simp [ndA,em];decide⟩
   ·exact ⟨d.suf,by have:=d.sum;simp only at this⊢;omega,d.sm⟩
  ·have t:=qLC q
   exact t.tr0 (qEN H f (.row 1) _ (Nat.le_trans (qBh t) hr) trivial)
def As (f:Nat):SJ→PS→Prop
 | .row level,q=>((20*(tb q.1).length+10:Nat):Int)-level≤f∧1≤level∧level≤5
 | .rl level _,q=>20*(tb q.1).length+5≤f∧1≤level∧level≤4
 | .one,q=>20*(tb q.1).length+4≤f∧q.2.1=false
 | .call _ _,q=>(q.2.1=true∧1≤f)∨20*(tb q.1).length+12≤f
 | .arg,q=>20*(tb q.1).length+10≤f
def Iv (s:List UInt8) (q:PS):Prop:=q.1<:+s∧q.2.2.length+q.1.length≤2000
theorem Iv.go {s:List UInt8} {k:Nat} {q q':PS} (h:Iv s q) (g:Go k q q'):Iv s q':=⟨g.suf.trans h.1,by have:=g.sum;have:=h.2;omega⟩
def Ws (s:List UInt8):SJ→PS→Int×PS→Prop
 | .row level,q,r=>Ev (qDe · level (BR s) (pos s q.1) q.2.1 q.2.2.length (q.2.2.map qa)) (qCC s r)
 | .rl level a,q,r=>∃x,(x= .inl (qCC s r)∨x= .inr (qCC s r))∧∃n0,∀n,n0≤n→∀M,n0≤M→zC (qDg (qc n) n) M (level,a,qCa s q)=some x
 | .one,q,r=>Ev (qHs · (BR s) (pos s q.1) q.2.1 q.2.2.length (q.2.2.map qa)) (qCC s r)
 | .call op kids,q,r=>∃x,(x= .inl (qCC s r)∨(x= .inr (qCa s r.2)∧r.1=0))∧∃n0,∀n,n0≤n→∀M,n0≤M→zC (qDR (qc n) n) M (op,kids.length,kids.map qAz,qCa s q)=some x
 | .arg,q,r=>Ev (qHt · (BR s) (pos s q.1) q.2.1 q.2.2.length (q.2.2.map qa)) (qCC s r)
theorem srp (r:List UInt8) (h:r.length≤1000):Ev (qAh · (BR (wd r))) (qAs (BR (wd r))):=qK0 _ (by rw [qb];have:=qPM r;omega)
theorem srv (r:List UInt8) (h:r.length≤1000):Ev (qAC · (BR (wd r))) (qf (BR (wd r))):=qGR _ (by rw [qb];have:=qPM r;omega)
theorem qSW {r:List UInt8} (h:wd r≠ []):(tb (wr r)).length<r.length:=by
 have e:=congrArg List.length (wdr r)
 have:=List.length_pos_iff.2 h
 have:=qx (wr r)
 simp only [List.length_append] at e
 omega
def qPQ (n:Nat) (w:ByteArray) (c:ByteArray×Int×Bool×Nat×List (List PV)):Tr (Int×ByteArray×Int×Bool×Nat×List (List PV)):=
 (.opt (qAh n w) fun r=>(.ask (!r.2.2.2.2) (.done (0,c.1,c.2.1,true,c.2.2.2.1,c.2.2.2.2))
  (.opt (qo n 2 0 0 0 ⟨#[]⟩ r.1 r.2.1 r.2.2.1 r.2.2.2.1 0 0 false false [] c.1 c.2.1 c.2.2.1 c.2.2.2.1 c.2.2.2.2) fun t=> .done (t.1,t.2.1,t.2.2.1,t.2.2.2.1,t.2.2.2.2.1,t.2.2.2.2.2))))
def qSD (n:Nat) (w:ByteArray) (c:ByteArray×Int×Bool×Nat×List (List PV)):Tr (Int×ByteArray×Int×Bool×Nat×List (List PV)):=
 (.opt (qAC n w) fun r=>(.ask r.2.2.2
  (.ask (!(w.toList==(⟨#[]⟩:ByteArray).toList))
   (.opt (qo n 1 0 r.1 r.2.1 r.2.2.1 0 0 false false 0 0 false false [] c.1 c.2.1 c.2.2.1 c.2.2.2.1 c.2.2.2.2) fun t=> .done (t.1,t.2.1,t.2.2.1,t.2.2.2.1,t.2.2.2.2.1,t.2.2.2.2.2))
   (qPQ n w c))
  (qPQ n w c)))
def qN0 (w:List UInt8) (q3:PS):Int×PS:=
 if (qf (BR w)).2.2.2=true∧w≠ [] then qDb (nd1 ((qf (BR w)).1,(qf (BR w)).2.1,(qf (BR w)).2.2.1)) q3
 else if (qAs (BR w)).2.2.2.2=true then qDb (ndC (qAs (BR w))) q3
 else (0,qKY q3)
theorem qOv (H:RdOK) {s:List UInt8} (r:List UInt8) (q:PS) (hr:r.length≤1000) (hn:q.2.2.length≤5000):∃n0,∀n,n0≤n→(qSD n (BR (wd r)) (qCa s q)).run=some (qCC s (qN0 (wd r) q)):=by
 obtain ⟨n1,h1⟩:=srv r hr
 obtain ⟨n2,h2⟩:=srp r hr
 obtain ⟨n4,h4⟩:=qI7 (s:=s) (ndC (qAs (BR (wd r)))) q hn ⟨by simp [kd,ndC],by simp [ndC,em];decide⟩
 have place:∃n0,∀n,n0≤n→(qPQ n (BR (wd r)) (qCa s q)).run=some (qCC s (if (qAs (BR (wd r))).2.2.2.2=true then qDb (ndC (qAs (BR (wd r)))) q else (0,qKY q))):=by
  refine ⟨n2+n4,fun n hn=>?_⟩
  cases hp:(qAs (BR (wd r))).2.2.2.2 with
  |true=>rw [if_pos rfl];exact qA (h2 n (by omega)) (qO (qAn hp) (qA (h4 n (by omega)) rfl))
  |false=>rw [if_neg (by simp)];exact qA (h2 n (by omega)) (qD (qCT hp) rfl)
 obtain ⟨n5,h5⟩:=place
 by_cases hv:(qf (BR (wd r))).2.2.2=true∧wd r≠ []
 ·obtain ⟨n3,h3⟩:=qI7 (s:=s) (nd1 ((qf (BR (wd r))).1,(qf (BR (wd r))).2.1,(qf (BR (wd r))).2.2.1)) q hn ⟨by simp [kd,nd1],qI6 hv.1 (H.v _ (qQD _) hv.2 hv.1)⟩
  refine ⟨n1+n3,fun n hn=>?_⟩
  unfold qN0
  rw [if_pos hv]
  exact qA (h1 n (by omega)) (qD hv.1 (qD (qCT (by rw [beq_eq_false_iff_ne,qAI,qAB];exact hv.2)) (qA (h3 n (by omega)) rfl)))
 ·refine ⟨n1+n5,fun n hn=>?_⟩
  unfold qN0
  rw [if_neg hv]
  refine qA (h1 n (by omega)) ?_
  by_cases ho:(qf (BR (wd r))).2.2.2=true
  ·have e:wd r= []:=Classical.byContradiction fun e=>hv ⟨ho,e⟩
   exact qD ho (qO (qAn (by rw [beq_iff_eq,qAI,qAB];exact e)) (h5 n (by omega)))
  ·exact qO (by rw [Bool.eq_false_iff];exact ho) (h5 n (by omega))
theorem qEV (H:RdOK) {s:List UInt8} (hs:s.length≤1000):∀(f:Nat) (j:SJ) (q:PS),As f j q→Iv s q→Ks j q→Ws s j q (sP f j q)
 |0,j,q,ha,_,_=>by cases j<;>simp [As] at ha<;>omega
 |f+1,.row level,q,ha,hi,_=>by
  obtain ⟨ha,hl1,hl5⟩:=ha
  have hr:q.1.length≤1000:=Nat.le_trans (qCx hi.1) hs
  unfold sP
  by_cases hb:q.2.1=true
  ·rw [if_pos hb]
   refine ⟨1,fun n hn=>?_⟩
   obtain ⟨k,rfl,hm⟩:=up1 hn
   exact qD hb rfl
  ·have hb:q.2.1=false:=by rw [Bool.eq_false_iff];exact hb
   rw [if_neg (by rw [hb];simp)]
   by_cases h5:level=5
   ·rw [if_pos h5]
    obtain ⟨n1,h1⟩:=qEV H hs f .one q ⟨by omega,hb⟩ hi trivial
    refine ⟨n1+1,fun n hn=>?_⟩
    obtain ⟨k,rfl,hm⟩:=up1 hn
    exact qO hb (qD (beq_iff_eq.2 h5) (qA (h1 k (by omega)) rfl))
   ·rw [if_neg h5]
    have g:=qEN H f (.row (level+1)) q hr trivial
    have gl:=g.tb
    obtain ⟨n1,h1⟩:=qEV H hs f (.row (level+1)) q ⟨by omega,by omega,by omega⟩ hi trivial
    generalize sP f (.row (level+1)) q=Q at g gl h1⊢
    obtain ⟨x,hx,n2,h2⟩:=qEV H hs f (.rl level Q.1) Q.2 ⟨by omega,by omega,by omega⟩ (hi.go g) trivial
    refine ⟨n1+n2+1,fun n hn=>?_⟩
    obtain ⟨k,rfl,hm⟩:=up1 hn
    have w1:IntKind.i64.wrap (level+1)=level+1:=qZ (by omega)
    have h1:=h1 k (by omega)
    rw [←w1] at h1
    have h2:=h2 k (by omega) k (by omega)
    rcases hx with rfl|rfl
    ·exact qO hb (qO (beq_eq_false_iff_ne.2 h5) (qA h1 (qA h2 rfl)))
    ·exact qO hb (qO (beq_eq_false_iff_ne.2 h5) (qA h1 (qA h2 rfl)))
 |f+1,.rl level a,q,ha,hi,_=>by
  obtain ⟨ha,hl1,hl4⟩:=ha
  have hr:q.1.length≤1000:=Nat.le_trans (qCx hi.1) hs
  unfold sP
  by_cases hb:q.2.1=true
  ·rw [if_pos hb]
   refine ⟨.inr (qCC s (a,q)),.inr rfl,1,fun n hn M hM=>?_⟩
   obtain ⟨M,rfl,hM⟩:=up1 hM
   exact qP (qO (qAn hb) rfl)
  ·have hb:q.2.1=false:=by rw [Bool.eq_false_iff];exact hb
   rw [if_neg (by rw [hb];simp)]
   simp only
   obtain ⟨n1,h1⟩:=qSB hs (level:=level) ⟨hl1,hl4⟩ q hb hi.1
   have o:=qRx level q
   generalize sOp level q=O at h1 o⊢
   by_cases h0:O.1=0
   ·rw [if_pos h0]
    refine ⟨.inl (qCC s (a,O.2)),.inl rfl,n1+1,fun n hn M hM=>?_⟩
    obtain ⟨M,rfl,hM⟩:=up1 hM
    exact qP (qD (qCT hb) (qA (h1 n (by omega)) (qD (beq_iff_eq.2 h0) rfl)))
   ·rw [if_neg h0]
    obtain ⟨o1,o2⟩:=o.2 h0
    have b:=qEN H f (.row (level+1)) O.2 (Nat.le_trans (qBh o1) hr) trivial
    obtain ⟨n2,h2⟩:=qEV H hs f (.row (level+1)) O.2 ⟨by omega,by omega,by omega⟩ (hi.go o1) trivial
    have ib:=(hi.go o1).go b
    have tbb:=b.tb
    have c:=Go.add (x:=ndK 5 O.1 [a,(sP f (.row (level+1)) O.2).1]) (o1.trans b) (qHk (by simp))
    generalize sP f (.row (level+1)) O.2=Q at h2 b ib tbb c⊢
    obtain ⟨n3,h3⟩:=qI7 (s:=s) (ndK 5 O.1 [a,Q.1]) Q.2 (by have:=ib.2;omega) (qHk (by simp))
    have rest:(qDb (ndK 5 O.1 [a,Q.1]) Q.2).2.1=Q.2.1:=rfl
    generalize qDb (ndK 5 O.1 [a,Q.1]) Q.2=C at h3 c rest⊢
    obtain ⟨x,hx,n4,h4⟩:=qEV H hs f (.rl level C.1) C.2 ⟨by rw [rest];omega,hl1,hl4⟩ (hi.go c) trivial
    refine ⟨x,hx,n1+n2+n3+n4+1,fun n hn M hM=>?_⟩
    obtain ⟨M,rfl,hM⟩:=up1 hM
    have w1:IntKind.i64.wrap (level+1)=level+1:=qZ (by omega)
    have h2:=h2 n (by omega)
    rw [←w1] at h2
    rw [qT (v':=(level,C.1,qCa s C.2)) (by
     exact qD (qCT hb) (qA (h1 n (by omega)) (qO (beq_eq_false_iff_ne.2 h0) (qA h2 (qD rfl (qA (h3 n (by omega)) rfl))))))]
    exact h4 n (by omega) M (by omega)
 |f+1,.one,q,ha,hi,_=>by
  obtain ⟨ha,hb⟩:=ha
  have hr:q.1.length≤1000:=Nat.le_trans (qCx hi.1) hs
  unfold sP
  obtain ⟨n1,h1⟩:=qF8 hs [45] (by simp) q hi.1
  cases c1:(sIs [45] q).1 with
  |true=>
   rw [if_pos rfl]
   have a:=qEK (by simp) c1
   have al:=qQh (by simp) c1
   have b:=qEN H f (.row 5) (sIs [45] q).2 (Nat.le_trans (qBh a) hr) trivial
   obtain ⟨n2,h2⟩:=qEV H hs f (.row 5) (sIs [45] q).2 ⟨by omega,by omega,by omega⟩ (hi.go a) trivial
   have ib:=(hi.go a).go b
   simp only
   generalize sP f (.row 5) (sIs [45] q).2=Q at h2 ib⊢
   obtain ⟨n3,h3⟩:=qI7 (s:=s) (ndK 4 0 [Q.1]) Q.2 (by have:=ib.2;omega) (qHk (by simp))
   refine ⟨n1+n2+n3+1,fun n hn=>?_⟩
   obtain ⟨k,rfl,hm⟩:=up1 hn
   exact qA (h1 k (by omega)) (qD c1 (qA (h2 k (by omega)) (qD rfl (qA (h3 k (by omega)) rfl))))
  |false=>
   rw [if_neg (by simp)]
   have a:=qI8 [45] q
   obtain ⟨n2,h2⟩:=qF8 hs [40] (by simp) (sIs [45] q).2 (hi.go a).1
   cases c2:(sIs [40] (sIs [45] q).2).1 with
   |true=>
    rw [if_pos rfl]
    have b:=qEK (by simp) c2
    have al:=qQh (by simp) c2
    have atb:=a.tb
    have g1:=a.trans b
    have b2:=qEN H f (.row 1) (sIs [40] (sIs [45] q).2).2 (Nat.le_trans (qBh g1) hr) trivial
    obtain ⟨n3,h3⟩:=qEV H hs f (.row 1) (sIs [40] (sIs [45] q).2).2 ⟨by omega,by omega,by omega⟩ (hi.go g1) trivial
    have ib:=(hi.go g1).go b2
    simp only
    generalize sP f (.row 1) (sIs [40] (sIs [45] q).2).2=Q at h3 ib⊢
    obtain ⟨n4,h4⟩:=qF8 hs [41] (by simp) Q.2 ib.1
    refine ⟨n1+n2+n3+n4+1,fun n hn=>?_⟩
    obtain ⟨k,rfl,hm⟩:=up1 hn
    refine qA (h1 k (by omega)) (qO c1 (qA (h2 k (by omega)) (qD c2 (qA (h3 k (by omega)) (qA (h4 k (by omega)) ?_)))))
    cases c3:(sIs [41] Q.2).1 with
    |true=>rw [if_pos rfl];exact qO rfl rfl
    |false=>rw [if_neg (by simp)];exact qD rfl rfl
   |false=>
    rw [if_neg (by simp)]
    have e2:(sIs [40] (sIs [45] q).2).2=(tb q.1,q.2):=by
     rw [qOu c2,qOu c1];simp only [qCB]
    rw [e2] at h2
    have t:=qLC q
    have it:=hi.go t
    obtain ⟨n3,h3⟩:=qF8 hs [34] (by simp) (tb q.1,q.2) it.1
    simp only
    cases c3:(sIs [34] (tb q.1,q.2)).1 with
    |true=>
     rw [if_pos rfl]
     have b:=qEK (by simp) c3
     have ib:=it.go b
     have eq2:(sIs [34] (tb q.1,q.2)).2.2=q.2:=by obtain ⟨_,e,_⟩:=qJ0 c3;rw [e]
     obtain ⟨n4,h4⟩:=qRL hs (sIs [34] (tb q.1,q.2)).2 ib.1 (by have:=ib.2;omega)
     refine ⟨n1+n2+n3+n4+1,fun n hn=>?_⟩
     obtain ⟨k,rfl,hm⟩:=up1 hn
     refine qA (h1 k (by omega)) (qO c1 (qA (h2 k (by omega)) (qO c2 (qA (h3 k (by omega)) (qD c3 (qA (h4 k (by omega)) ?_))))))
     rw [qC,eq2]
     all_goals (cases qBs [] (sIs [34] (tb q.1,q.2)).2.1<;>rfl)
    |false=>
     rw [if_neg (by simp)]
     have e3:(sIs [34] (tb q.1,q.2)).2=(tb q.1,q.2):=by rw [qOu c3];simp only [qCB]
     rw [e3] at h3
     obtain ⟨n4,h4⟩:=qF8 hs [35] (by simp) (tb q.1,q.2) it.1
     cases c4:(sIs [35] (tb q.1,q.2)).1 with
     |true=>
      rw [if_pos rfl]
      have b:=qEK (by simp) c4
      have ib:=it.go b
      have eq2:(sIs [35] (tb q.1,q.2)).2.2=q.2:=by obtain ⟨_,e,_⟩:=qJ0 c4;rw [e]
      obtain ⟨n5,h5⟩:=qRq hs (sIs [35] (tb q.1,q.2)).2.1 ib.1 q.2.1 q.2.2 (by have:=hi.2;omega)
      have h4:=fun k hk=>h4 k hk
      refine ⟨n1+n2+n3+n4+n5+1,fun n hn=>?_⟩
      obtain ⟨k,rfl,hm⟩:=up1 hn
      have h4:=h4 k (by omega)
      have h5:=h5 k (by omega) k (by omega)
      have e4:qCa s (sIs [35] (tb q.1,q.2)).2=(BR s,pos s (sIs [35] (tb q.1,q.2)).2.1,q.2.1,q.2.2.length,q.2.2.map qa):=by unfold qCa;rw [eq2]
      rw [e4] at h4
      refine qA (h1 k (by omega)) (qO c1 (qA (h2 k (by omega)) (qO c2 (qA (h3 k (by omega)) (qO c3 (qA h4 (qD c4 (qA h5 ?_))))))))
      cases qPm (sIs [35] (tb q.1,q.2)).2.1 1 5<;>rfl
     |false=>
      rw [if_neg (by simp)]
      have e4:(sIs [35] (tb q.1,q.2)).2=(tb q.1,q.2):=by rw [qOu c4];simp only [qCB]
      rw [e4] at h4
      obtain ⟨n5,h5⟩:=qNx hs (tb q.1,q.2) it.1
      have w:=qOt q
      have iw:=hi.go w
      have htl:=qx q.1
      obtain ⟨n6,h6⟩:=qF8 hs [40] (by simp) (wr (tb q.1),q.2) iw.1
      obtain ⟨n7,h7⟩:=qRr
      obtain ⟨n9,h9⟩:=qOv H (s:=s) (tb q.1) (wr (tb q.1),q.2) (by omega) (by have:=hi.2;simp only;omega)
      have gi:=qI8 [40] (wr (tb q.1),q.2)
      cases hf:qFM (wd (tb q.1)) 1 10 with
      |none=>
       simp only
       refine ⟨n1+n2+n3+n4+n5+n6+n7+n9+12+1,fun n hn=>?_⟩
       obtain ⟨k,rfl,hm⟩:=up1 hn
       have lp:=qJJ (g:=qc k) (s:=s) (wd (tb q.1)) (wr (tb q.1),q.2) (fun _=>(0,q)) (h7 k (by omega)) (h6 k (by omega)) 10 1 k (by omega) (by omega) (by omega) (fun op h=>by rw [hf] at h;cases h)
       rw [hf] at lp
       exact qA (h1 k (by omega)) (qO c1 (qA (h2 k (by omega)) (qO c2 (qA (h3 k (by omega)) (qO c3 (qA (h4 k (by omega)) (qO c4 (qA (h5 k (by omega)) (qA lp (h9 k (by omega)))))))))))
      |some op=>
       have wne:wd (tb q.1)≠ []:=fun e=>by rw [e,H.f0] at hf;cases hf
       have wlt:=qSW wne
       simp only
       cases c5:(sIs [40] (wr (tb q.1),q.2)).1 with
       |true=>
        rw [if_pos rfl]
        have il:=qQh (by simp) c5
        simp only at il
        obtain ⟨x,hx,n8,h8⟩:=qEV H hs f (.call op []) (sIs [40] (wr (tb q.1),q.2)).2 (.inr (by omega)) (iw.go gi) (.inr (by have:=qBh (w.tr0 gi);simp only [List.length_nil];omega))
        have hcall:Ev (qG4 · op (BR s) (pos s (sIs [40] (wr (tb q.1),q.2)).2.1) (sIs [40] (wr (tb q.1),q.2)).2.2.1 (sIs [40] (wr (tb q.1),q.2)).2.2.2.length ((sIs [40] (wr (tb q.1),q.2)).2.2.2.map qa)) (qCC s (sP f (.call op []) (sIs [40] (wr (tb q.1),q.2)).2)):=by
         refine ⟨n8+1,fun n hn=>?_⟩
         obtain ⟨k,rfl,hm⟩:=up1 hn
         have h8:=h8 k (by omega) k (by omega)
         rcases hx with rfl|⟨rfl,hz⟩
         ·exact qA h8 rfl
         ·refine qA h8 ?_
          show some ((0:Int),qCa s _)=some (_,qCa s _)
          rw [hz]
        obtain ⟨n10,h10⟩:=hcall
        refine ⟨n1+n2+n3+n4+n5+n6+n7+n10+12+1,fun n hn=>?_⟩
        obtain ⟨k,rfl,hm⟩:=up1 hn
        have lp:=qJJ (g:=qc k) (s:=s) (wd (tb q.1)) (wr (tb q.1),q.2) (fun op=>sP f (.call op []) (sIs [40] (wr (tb q.1),q.2)).2) (h7 k (by omega)) (h6 k (by omega)) 10 1 k (by omega) (by omega) (by omega) (fun op' h _=>by rw [hf] at h;cases h;exact h10 k (by omega))
        rw [hf] at lp
        simp only at lp
        rw [if_pos c5] at lp
        exact qA (h1 k (by omega)) (qO c1 (qA (h2 k (by omega)) (qO c2 (qA (h3 k (by omega)) (qO c3 (qA (h4 k (by omega)) (qO c4 (qA (h5 k (by omega)) (qA lp rfl)))))))))
       |false=>
        rw [if_neg (by simp)]
        obtain ⟨v1,v2⟩:=H.f _ _ hf
        obtain ⟨n9,h9⟩:=qOv H (s:=s) (tb q.1) (sIs [40] (wr (tb q.1),q.2)).2 (by omega) (by have:=(iw.go gi).2;omega)
        have er:qN0 (wd (tb q.1)) (sIs [40] (wr (tb q.1),q.2)).2=(0,qKY (sIs [40] (wr (tb q.1),q.2)).2):=by
         unfold qN0
         rw [if_neg (fun h=>by rw [v1] at h;cases h.1),if_neg (by rw [v2];simp)]
        rw [er] at h9
        refine ⟨n1+n2+n3+n4+n5+n6+n7+n9+12+1,fun n hn=>?_⟩
        obtain ⟨k,rfl,hm⟩:=up1 hn
        have lp:=qJJ (g:=qc k) (s:=s) (wd (tb q.1)) (wr (tb q.1),q.2) (fun _=>(0,q)) (h7 k (by omega)) (h6 k (by omega)) 10 1 k (by omega) (by omega) (by omega) (fun op' h h'=>by rw [c5] at h';cases h')
        rw [hf] at lp
        simp only at lp
        rw [if_neg (by rw [c5];simp)] at lp
        exact qA (h1 k (by omega)) (qO c1 (qA (h2 k (by omega)) (qO c2 (qA (h3 k (by omega)) (qO c3 (qA (h4 k (by omega)) (qO c4 (qA (h5 k (by omega)) (qA lp (h9 k (by omega)))))))))))
 |f+1,.call op kids,q,ha,hi,hk=>by
  have hr:q.1.length≤1000:=Nat.le_trans (qCx hi.1) hs
  unfold sP
  by_cases hb:q.2.1=true
  ·rw [if_pos hb]
   refine ⟨.inr (qCa s q),.inr ⟨rfl,rfl⟩,1,fun n hn M hM=>?_⟩
   obtain ⟨M,rfl,hM⟩:=up1 hM
   exact qP (qO (qAn hb) rfl)
  ·have hk:kids.length+q.1.length≤1500:=hk.elim (fun h=>absurd h hb) id
   have ha:20*(tb q.1).length+12≤f+1:=ha.elim (fun h=>absurd h.1 hb) id
   have hb:q.2.1=false:=by rw [Bool.eq_false_iff];exact hb
   rw [if_neg (by rw [hb];simp)]
   simp only
   have a:=qEN H f .arg q hr trivial
   obtain ⟨n1,h1⟩:=qEV H hs f .arg q (by show 20*_+10≤f;omega) hi trivial
   generalize sP f .arg q=A at a h1⊢
   have ia:=hi.go a
   have ta:=a.tb
   have ra:=qBh a
   obtain ⟨n2,h2⟩:=qF8 hs [41] (by simp) A.2 ia.1
   have kl:decide (kids.length=(kids.map qAz).length∧0<1∧0<8∧(kids.length+([[(PV.i .i64 A.1)]]:List (List PV)).length)*8≤140737488355328∧([[(PV.i .i64 A.1)]]:List (List PV)).all (fun e=>e.length==1)=true)=true:=decide_eq_true ⟨by simp,by decide,by decide,by simp;omega,rfl⟩
   have k1:(kids++ [A.1]).length=kids.length+1:=by simp
   have k2:(kids++ [A.1]).map qAz=kids.map qAz++ [[PV.i .i64 A.1]]:=by simp [qAz]
   cases c1:(sIs [41] A.2).1 with
   |true=>
    rw [if_pos rfl]
    have g:=a.trans (qEK (by simp) c1)
    obtain ⟨n3,h3⟩:=qI7 (s:=s) (ndK 6 op (kids++ [A.1])) (sIs [41] A.2).2 (by have:=(hi.go g).2;omega) (qHk (by simp;omega))
    refine ⟨.inl (qCC s (qDb (ndK 6 op (kids++ [A.1])) (sIs [41] A.2).2)),.inl rfl,n1+n2+n3+1,fun n hn M hM=>?_⟩
    obtain ⟨M,rfl,hM⟩:=up1 hM
    have h3:_=some _:=h3 n (by omega)
    simp only [ndK,kd] at h3
    rw [k2] at h3
    exact qP (qD (qCT hb) (qA (h1 n (by omega)) (qD rfl (qD kl (qA (h2 n (by omega)) (qD c1 (qD (decide_eq_true (by simp)) (qA h3 rfl))))))))
   |false=>
    rw [if_neg (by simp)]
    have g:=a.tr0 (qI8 [41] A.2)
    have gt:=(qI8 [41] A.2).tb
    have i2:=hi.go g
    obtain ⟨n3,h3⟩:=qF8 hs [44] (by simp) (sIs [41] A.2).2 i2.1
    cases c2:(sIs [44] (sIs [41] A.2).2).1 with
    |true=>
     rw [if_pos rfl]
     have b:=qEK (by simp) c2
     have bl:=qQh (by simp) c2
     have bs:=qBh (g.trans b)
     have b1:=b.sum
     have eq3:(sIs [44] (sIs [41] A.2).2).2.2=(sIs [41] A.2).2.2:=by obtain ⟨_,e,_⟩:=qJ0 c2;rw [e]
     rw [eq3] at b1
     have g0:=qBh g
     obtain ⟨x,hx,n4,h4⟩:=qEV H hs f (.call op (kids++ [A.1])) (sIs [44] (sIs [41] A.2).2).2 (.inr (by omega)) (i2.go b) (.inr (by rw [k1];omega))
     refine ⟨x,hx,n1+n2+n3+n4+1,fun n hn M hM=>?_⟩
     obtain ⟨M,rfl,hM⟩:=up1 hM
     have h4:=h4 n (by omega) M (by omega)
     rw [k1,k2] at h4
     rw [qT (v':=(op,kids.length+1,kids.map qAz++ [[PV.i .i64 A.1]],qCa s (sIs [44] (sIs [41] A.2).2).2)) (by
      exact qD (qCT hb) (qA (h1 n (by omega)) (qD rfl (qD kl (qA (h2 n (by omega)) (qO c1 (qA (h3 n (by omega)) (qO (qAn c2) rfl))))))))]
     exact h4
    |false=>
     rw [if_neg (by simp)]
     have b:=qI8 [44] (sIs [41] A.2).2
     obtain ⟨x,hx,n4,h4⟩:=qEV H hs f (.call op (kids++ [A.1])) (qKY (sIs [44] (sIs [41] A.2).2).2) (.inl ⟨rfl,by omega⟩) (i2.go (qNz b)) (.inl rfl)
     refine ⟨x,hx,n1+n2+n3+n4+1,fun n hn M hM=>?_⟩
     obtain ⟨M,rfl,hM⟩:=up1 hM
     have h4:=h4 n (by omega) M (by omega)
     rw [k1,k2] at h4
     rw [qT (v':=(op,kids.length+1,kids.map qAz++ [[PV.i .i64 A.1]],qCa s (qKY (sIs [44] (sIs [41] A.2).2).2))) (by
      exact qD (qCT hb) (qA (h1 n (by omega)) (qD rfl (qD kl (qA (h2 n (by omega)) (qO c1 (qA (h3 n (by omega)) (qD (qCT c2) rfl))))))))]
     exact h4
 |f+1,.arg,q,ha,hi,_=>by
  replace ha:20*(tb q.1).length+10≤f+1:=ha
  have hr:q.1.length≤1000:=Nat.le_trans (qCx hi.1) hs
  have htl:=qx q.1
  unfold sP
  simp only
  have t:=qLC q
  have it:=hi.go t
  have w:=qOt q
  have iw:=hi.go w
  obtain ⟨n1,h1⟩:=qPO hs q hi.1
  obtain ⟨n2,h2⟩:=qNx hs (tb q.1,q.2) it.1
  obtain ⟨n3,h3⟩:=srp (tb q.1) (by omega)
  obtain ⟨n4,h4⟩:=qF8 hs [58] (by simp) (wr (tb q.1),q.2) iw.1
  have eq2:(sIs [58] (wr (tb q.1),q.2)).2.2=q.2:=by
   cases c:(sIs [58] (wr (tb q.1),q.2)).1 with
   |true=>obtain ⟨_,e,_⟩:=qJ0 c;rw [e]
   |false=>rw [qOu c]
  by_cases hc:(qAs (BR (wd (tb q.1)))).2.2.2.2=true∧(sIs [58] (wr (tb q.1),q.2)).1=true
  ·rw [if_pos hc]
   have g:=w.trans (qEK (by simp) hc.2)
   have ig:=hi.go g
   have rg:=qBh g
   generalize sIs [58] (wr (tb q.1),q.2)=I at*
   have gt:=qLC I.2
   have gw:=qOt I.2
   have il:=qx I.2.1
   obtain ⟨n5,h5⟩:=qPO hs I.2 ig.1
   obtain ⟨n6,h6⟩:=qNx hs (tb I.2.1,I.2.2) (ig.go gt).1
   obtain ⟨n7,h7⟩:=srp (tb I.2.1) (by omega)
   cases hp:(qAs (BR (wd (tb I.2.1)))).2.2.2.2 with
   |true=>
    rw [if_pos rfl]
    obtain ⟨n8,h8⟩:=qI7 (s:=s) (ndA (qAs (BR (wd (tb q.1)))) (qAs (BR (wd (tb I.2.1))))) (wr (tb I.2.1),I.2.2) (by have:=(ig.go gw).2;simp only at this⊢;omega) ⟨by simp [kd,ndA],by simp [ndA,em];decide⟩
    refine ⟨n1+n2+n3+n4+n5+n6+n7+n8+1,fun n hn=>?_⟩
    obtain ⟨k,rfl,hm⟩:=up1 hn
    exact qA (h1 k (by omega)) (qA (h2 k (by omega)) (qA (h3 k (by omega)) (qD hc.1 (qA (h4 k (by omega)) (qD hc.2 (qA (h5 k (by omega)) (qA (h6 k (by omega)) (qA (h7 k (by omega)) (qO (qAn hp) (qA (h8 k (by omega)) rfl))))))))))
   |false=>
    rw [if_neg (by simp)]
    refine ⟨n1+n2+n3+n4+n5+n6+n7+1,fun n hn=>?_⟩
    obtain ⟨k,rfl,hm⟩:=up1 hn
    exact qA (h1 k (by omega)) (qA (h2 k (by omega)) (qA (h3 k (by omega)) (qD hc.1 (qA (h4 k (by omega)) (qD hc.2 (qA (h5 k (by omega)) (qA (h6 k (by omega)) (qA (h7 k (by omega)) (qD (qCT hp) rfl)))))))))
  ·rw [if_neg hc]
   obtain ⟨n5,h5⟩:=qEV H hs f (.row 1) (tb q.1,q.2) ⟨by simp only [qCB];omega,by omega,by omega⟩ it trivial
   refine ⟨n1+n2+n3+n4+n5+1,fun n hn=>?_⟩
   obtain ⟨k,rfl,hm⟩:=up1 hn
   cases hp:(qAs (BR (wd (tb q.1)))).2.2.2.2 with
   |true=>
    have ht:(sIs [58] (wr (tb q.1),q.2)).1=false:=by rw [Bool.eq_false_iff];exact fun e=>hc ⟨hp,e⟩
    have h4:=h4 k (by omega)
    have e4:qCa s (sIs [58] (wr (tb q.1),q.2)).2=(BR s,pos s (sIs [58] (wr (tb q.1),q.2)).2.1,q.2.1,q.2.2.length,q.2.2.map qa):=by unfold qCa;rw [eq2]
    rw [e4] at h4
    exact qA (h1 k (by omega)) (qA (h2 k (by omega)) (qA (h3 k (by omega)) (qD hp (qA h4 (qO ht (qA (h5 k (by omega)) rfl))))))
   |false=>exact qA (h1 k (by omega)) (qA (h2 k (by omega)) (qA (h3 k (by omega)) (qO hp (qA (h5 k (by omega)) rfl))))
theorem qQx {w:List UInt8} (h:w.all wch=true) (hn:w≠ []):(qA6 (BR w)).1=1∨(qA6 (BR w)).1=3:=by
 cases w with
 |nil=>exact absurd rfl hn
 |cons c t=>
  simp only [List.all_cons,Bool.and_eq_true] at h
  have h39:¬(c::t).head?=some 39:=by
   intro e;simp at e;rw [e] at h;exact absurd h.1 (by decide)
  have h35:¬(c::t).head?=some 35:=by
   intro e;simp at e;rw [e] at h;exact absurd h.1 (by decide)
  unfold qA6
  rw [qAI,if_neg h39]
  split
  ·exact .inr rfl
  ·split
   ·exact .inr rfl
   ·exact .inl rfl
theorem qSE:RdOK where
 v:=fun w h hn ho=>by
  have c:=qQx h hn
  unfold qf at ho⊢
  split at ho
  ·rename_i hc;rw [if_pos hc];exact c
  ·cases ho
 v0:=by
  have:(qf (BR [])).1=0:=by
   have:(qf ⟨#[]⟩).1=0:=by decide+kernel
   exact this
  rw [this];decide
 p0:=by
  have:(qAs ⟨#[]⟩).2.2.2.2=false:=by decide+kernel
  exact this
 f:=fun w op h=>by
  have t:∀a:Fin 10,(qf (fnS (((a.val:Nat):Int)+1))).2.2.2=false∧(qAs (fnS (((a.val:Nat):Int)+1))).2.2.2.2=false:=by decide+kernel
  have e:∀(k:Nat) (i:Int),1≤i→i+k≤11→qFM w i k=some op→∃j:Int,1≤j∧j≤10∧(fnS j).toList=w:=by
   intro k
   induction k with
   |zero=>intro i _ _ h;cases h
   |succ k ih=>
    intro i h1 h2 h
    unfold qFM at h
    split at h
    ·rename_i hq;exact ⟨i,h1,by omega,hq⟩
    ·exact ih (i+1) (by omega) (by omega) h
  obtain ⟨j,j1,j2,rfl⟩:=e 10 1 (by omega) (by omega) h
  rw [qH9]
  have:=t ⟨(j-1).toNat,by omega⟩
  simp only at this
  rwa [show (((j-1).toNat:Nat):Int)+1=j by omega] at this
 f0:=by decide+kernel
 n:=fun n hn=>by
  have c:n=1∨n=2∨n=3∨n=4∨n=5:=by omega
  rcases c with rfl|rfl|rfl|rfl|rfl
  ·exact ⟨[68,73,86,33],by decide+kernel⟩
  ·exact ⟨[84,89,80,69,33],by decide+kernel⟩
  ·exact ⟨[82,69,70,33],by decide+kernel⟩
  ·exact ⟨[79,86,69,82,33],by decide+kernel⟩
  ·exact ⟨[67,89,67,76,69,33],by decide+kernel⟩
def qOw (s:ByteArray):PS:=(pP 4050 (.bin 1 0) (s.toList,false,[])).2
def qBO (s:ByteArray):List Nd×Bool:=
 if qCX s 200=true∧(qOw s).2.1=false∧tb (qOw s).1= []∧qEo (qOw s).2.2=true then ((qOw s).2.2,true) else ([],false)
theorem qJK {s:ByteArray} (h:qCX s 200=true):s.toList.length≤200:=by
 unfold qCX at h
 simp only [Bool.and_eq_true,decide_eq_true_eq] at h
 rw [qAN];omega
theorem qQI {s:ByteArray} (h:qCX s 200=true):Gd (s.toList,false,[]):=⟨by have:=qJK h;simp only;omega,by simp,fun x hx=>by cases hx⟩
theorem qJL {l:List Nd} (h:∀x∈l,qOW x):∀c∈l,(kd c).length≤140737488351232∧c.2.2.2.2.1.size≤140737488351232:=fun c hc=>by
 have:=h c hc
 exact ⟨by have:=this.1;omega,by have:=this.2;omega⟩
theorem qJj (s:ByteArray) (hb:s.size≤140737488351232):Ev (qDl · s) ((qBO s).1.map qa,(qBO s).2):=by
 obtain ⟨n1,h1⟩:=qIu s 200 hb
 by_cases hp:qCX s 200=true
 ·have hl:=qJK hp
  have htb:=qx s.toList
  have hg:=qQI hp
  obtain ⟨n2,h2⟩:=qEU 4050 (.bin 1 0) (s.toList,false,[]) (by show 20*(tb s.toList).length+6≤4050;omega) ⟨by decide,by decide⟩ hg trivial
  have g:=(qEM 4050 (.bin 1 0) (s.toList,false,[]) hg trivial).1
  have e0:(pP 4050 (.bin 1 0) (s.toList,false,[])).2=qOw s:=rfl
  rw [e0] at g
  generalize pP 4050 (.bin 1 0) (s.toList,false,[])=P at h2 e0
  rw [qH9] at h2
  unfold qBO
  rw [←e0] at g⊢
  obtain ⟨n3,h3⟩:=qGU P.2.1 P.2.2.2.length P.2.2.1 (P.2.2.2.map qa)
  obtain ⟨n4,h4⟩:=qGT P.2.2.2 (by have:=g.n;omega) (qJL g.s)
  refine ⟨n1+n2+n3+n4+1,fun n hn=>?_⟩
  obtain ⟨k,rfl,hm⟩:=up1 hn
  have h1:=h1 k (by omega)
  rw [hp] at h1
  refine qA h1 (qO rfl (qA (h2 k (by omega)) (qA (h3 k (by omega)) ?_)))
  by_cases hbad:P.2.2.1=true
  ·rw [if_neg (fun h=>by rw [hbad] at h;cases h.2.1)]
   exact qD hbad (qD rfl rfl)
  ·have hbad:P.2.2.1=false:=by rw [Bool.eq_false_iff];exact hbad
   refine qO hbad ?_
   by_cases hr:tb P.2.1= []
   ·refine qO (qAn (by rw [beq_iff_eq,qAB];show (BR (tb P.2.1)).toList= [];rw [qAI];exact hr)) (qD (decide_eq_true (by simp)) (qA (h4 k (by omega)) (qD (qF _) ?_)))
    cases ho:qEo P.2.2.2 with
    |true=>
     rw [if_pos ⟨hp,hbad,hr,rfl⟩]
     exact qO rfl (qD (decide_eq_true (by simp)) rfl)
    |false=>
     rw [if_neg (fun h=>by cases h.2.2.2)]
     exact qD rfl (qD rfl rfl)
   ·rw [if_neg (fun h=>hr h.2.2.1)]
    exact qD (qCT (by rw [beq_eq_false_iff_ne,qAB];show (BR (tb P.2.1)).toList≠ [];rw [qAI];exact hr)) (qD rfl rfl)
 ·refine ⟨n1+1,fun n hn=>?_⟩
  obtain ⟨k,rfl,hm⟩:=up1 hn
  unfold qBO
  rw [if_neg (fun h=>hp h.1)]
  exact qA (h1 k (by omega)) (qD (qCT (by rw [Bool.eq_false_iff];exact hp)) (qD rfl rfl))
theorem qQy {l:List Nd} (h:∃x∈l,qFE x=false):qEo l=false:=by
 obtain ⟨x,hx,hb⟩:=h
 rw [Bool.eq_false_iff]
 intro ho
 unfold qEo at ho
 simp only [Bool.and_eq_true] at ho
 obtain ⟨i,hi⟩:=List.mem_iff_getElem?.1 hx
 have hil:=(List.getElem?_eq_some_iff.1 hi).1
 have:=(qEn.1 ho.2.1 (i:Int) (by omega) (by omega)).1
 unfold qFL at this
 have e:ndi l (i:Int)=x:=by unfold ndi;simp [hi]
 rw [e,hb] at this
 cases this
theorem qJk (s:ByteArray) (hb:s.size≤140737488351232):Ev (qDh · s) ((qBO s).1.map qa,(qBO s).2):=by
 obtain ⟨n1,h1⟩:=qH2 s hb
 by_cases hp:qCX s 200=true
 ·have hl:=qJK hp
  have hs:s.toList.length≤1000:=by omega
  have htb:=qx s.toList
  have hg:=qQI hp
  have gi:=(qEM 4050 (.bin 1 0) (s.toList,false,[]) hg trivial).1
  have sim:=(qRm qSE (tb s.toList).length).2.2.1 (s.toList,false,[]) (s.toList,false,[]) 0 4 4050 4050 (by omega) ⟨rfl,rfl,rfl,rfl⟩ rfl (by omega) (by omega) (by omega) (by omega)
  rw [show (5:Int)-((4:Nat):Int)=1 from rfl] at sim
  have iv:Iv s.toList (s.toList,false,[]):=⟨List.suffix_rfl,by simp;omega⟩
  obtain ⟨n2,h2⟩:=qEV qSE hs 4050 (.row 1) (s.toList,false,[]) ⟨by simp only;omega,by omega,by omega⟩ iv trivial
  have g:=qEN qSE 4050 (.row 1) (s.toList,false,[]) hs trivial
  have e0:(pP 4050 (.bin 1 0) (s.toList,false,[])).2=qOw s:=rfl
  generalize pP 4050 (.bin 1 0) (s.toList,false,[])=P at sim e0 gi
  generalize sP 4050 (.row 1) (s.toList,false,[])=Q at sim h2 g
  unfold qBO
  rw [←e0]
  obtain ⟨n3,h3⟩:=qPO hs Q.2 (iv.go g).1
  obtain ⟨n4,h4⟩:=qGS Q.2.2.2 (qJL (g.sm (fun x hx=>by cases hx)))
  have p0:pos s.toList s.toList=0:=by unfold pos;simp
  simp only [qH9,p0] at h2 h3
  have g2:=(qQH (iv.go g).1)
  refine ⟨n1+n2+n3+n4+1,fun n hn=>?_⟩
  obtain ⟨k,rfl,hm⟩:=up1 hn
  have h1:=h1 k (by omega)
  rw [hp] at h1
  have h2:=h2 k (by omega)
  have h3:=h3 k (by omega)
  have e1:qCC s.toList Q=(Q.1,s,pos s.toList Q.2.1,Q.2.2.1,Q.2.2.2.length,Q.2.2.2.map qa):=by unfold qCC qCa;rw [qH9]
  have e2:qCa s.toList (tb Q.2.1,Q.2.2)=(s,pos s.toList (tb Q.2.1),Q.2.2.1,Q.2.2.2.length,Q.2.2.2.map qa):=by unfold qCa;rw [qH9]
  rw [e1] at h2
  rw [e2] at h3
  refine qA h1 (qO rfl (qA h2 (qA h3 ?_)))
  rcases sim with ⟨_,hk,_⟩|⟨hbad,hd⟩
  ·obtain ⟨k1,k2,k3,k4⟩:=hk
   rw [k1,k3,k4]
   refine qO k2 ?_
   by_cases hr:tb Q.2.1= []
   ·refine qO (decide_eq_false (show ¬pos s.toList (tb Q.2.1)<(s.size:Int) by rw [hr];unfold pos;simp [qAN])) (qD (decide_eq_true (by simp)) (qA (h4 k (by omega)) (qD (qF _) ?_)))
    cases ho:qEo Q.2.2.2 with
    |true=>
     rw [if_pos ⟨hp,rfl,hr,rfl⟩]
     exact qO rfl (qD (decide_eq_true (by simp)) rfl)
    |false=>
     rw [if_neg (fun h=>by cases h.2.2.2)]
     exact qD rfl (qD rfl rfl)
   ·rw [if_neg (fun h=>hr h.2.2.1)]
    have hlp:=List.length_pos_iff.2 hr
    have hsl:=qCx g2
    exact qD (decide_eq_true (show pos s.toList (tb Q.2.1)<(s.size:Int) by rw [qAN] at hsl;unfold pos;rw [qAN];omega)) (qD rfl rfl)
  ·rw [if_neg (fun h=>by
    rcases hd with hd|hd
    ·rw [hd] at h;cases h.2.1
    ·rw [qQy hd] at h;cases h.2.2.2)]
   exact qD hbad (qD rfl rfl)
 ·refine ⟨n1+1,fun n hn=>?_⟩
  obtain ⟨k,rfl,hm⟩:=up1 hn
  unfold qBO
  rw [if_neg (fun h=>hp h.1)]
  exact qA (h1 k (by omega)) (qD (qCT (by rw [Bool.eq_false_iff];exact hp)) (qD rfl rfl))
theorem qLD (s:ByteArray):(qBO s).1.length≤60∧∀x∈(qBO s).1,qOW x:=by
 unfold qBO
 split
 ·rename_i h
  have g:=(qEM 4050 (.bin 1 0) (s.toList,false,[]) (qQI h.1) trivial).1
  exact ⟨g.n,g.s⟩
 ·exact ⟨by simp,fun x hx=>by cases hx⟩
theorem qN1:∀(l:List UInt8) (acc:Nat) {u:Nat},l.all qAy=true→Lib.parseUintM (2^64-1) acc l= .ok u→u=qAY acc l
 | [],acc,u,_,h=>by simp only [Lib.parseUintM] at h;cases h;rfl
 |c::r,acc,u,hd,h=>by
  simp only [List.all_cons,Bool.and_eq_true] at hd
  have hc:=hd.1
  simp only [qAy,Bool.and_eq_true,decide_eq_true_eq] at hc
  unfold Lib.parseUintM at h
  rw [qDM]
  rw [if_pos hc] at h
  by_cases h1:1844674407370955162≤acc
  ·rw [if_pos h1] at h;cases h
  ·rw [if_neg h1] at h
   by_cases h2:2^64-1<acc*10+(c.toNat-48)
   ·rw [if_pos h2] at h;cases h
   ·rw [if_neg h2] at h
    exact qN1 r _ hd.2 h
theorem qQJ {p:UInt8→Bool}:∀l:List UInt8,(l.dropWhile p= [])↔l.all p=true
 | []=>by simp
 |c::r=>by
  rw [List.dropWhile_cons,List.all_cons]
  by_cases h:p c=true
  ·rw [if_pos h,h,Bool.true_and];exact qQJ r
  ·rw [if_neg h];simp [h]
theorem qQj {p:UInt8→Bool}:∀(l:List UInt8) {a:UInt8} {r:List UInt8},l.dropWhile p=a::r→p a=false
 | [],a,r,h=>by simp at h
 |c::l,a,r,h=>by
  rw [List.dropWhile_cons] at h
  by_cases hc:p c=true
  ·rw [if_pos hc] at h;exact qQj l h
  ·rw [if_neg hc] at h
   cases h
   rw [Bool.eq_false_iff];exact hc
theorem qRP:∀i:Fin 256,((⟨#[48,49,50,51,52,53,54,55,56,57]⟩:ByteArray).data.toList.contains (UInt8.ofNat i.val))=qAy (UInt8.ofNat i.val):=by decide+kernel
theorem qPy {p:UInt8→Bool} {t:List UInt8}:((t.reverse.dropWhile p).reverse.dropWhile p= [])↔t.all p=true:=by
 rw [qQJ]
 constructor
 ·intro h
  cases hx:t.reverse.dropWhile p with
  |nil=>
   rw [qQJ] at hx
   rw [List.all_eq_true] at hx⊢
   exact fun x hx'=>hx x (by simpa using hx')
  |cons a r=>
   rw [List.all_eq_true] at h
   have h1:=h a (by rw [hx];simp)
   rw [qQj _ hx] at h1
   cases h1
 ·intro h
  rw [List.all_eq_true] at h⊢
  intro x hx
  rw [List.mem_reverse] at hx
  exact h x (by simpa using (List.dropWhile_suffix p).subset hx)
def qGB (s:List UInt8):List UInt8:=if s.head?=some 45 then s.tail else s
def qI9 (s:List UInt8):Int:=if s.head?=some 45 then-((qAY 0 (qGB s):Nat):Int) else ((qAY 0 (qGB s):Nat):Int)
def qOX (s:List UInt8):Bool:=decide (qGB s≠ [])&&(qGB s).all qAy
def qEL (s:List UInt8):Bool:=qOX s&&okV 1 (qI9 s) em
theorem qRQ (s:List UInt8):(qGB s).length≤s.length:=by unfold qGB;split<;>simp
theorem qPz (s:List UInt8) (h:s.length≤1000):Ev (qDf · (BR s)) (qOX s):=by
 refine ⟨10,fun n hn=>?_⟩
 obtain ⟨k,rfl⟩:∃k,n=k+5:=⟨n-5,by omega⟩
 have tp:qDF (k+4) (BR s) ⟨#[45]⟩=some (BR (qGB s)):=by
  have hp:qy (k+2) (BR s) ⟨#[45]⟩=some (List.isPrefixOf [45] s):=by
   have:=qBN (k+1) s [45]
   simp only [qj,qBp,qC,qE,qH,qJ,qK,qM,Option.bind_some,qF,qN,qG] at this
   have e:∀o:Option Bool,(o.bind fun x=>some x)=o:=fun o=>by cases o<;>rfl
   rw [e] at this
   exact this
  have inner:qBD (k+3) (BR s) ⟨#[45]⟩=some (BR (qGB s)):=by
   by_cases hh:s.head?=some 45
   ·rw [(qEJ 45 s).2 hh] at hp
    obtain ⟨t,rfl⟩:=qJH hh
    unfold qGB
    rw [if_pos hh]
    refine qA hp (qD rfl (qD (decide_eq_true ⟨by decide,by rw [qb];show (1:Int)≤_;simp;omega,Int.le_refl _⟩) ?_))
    rw [qC]
    show some ((BR (45::t)).extract 1 ((((BR (45::t)).size:Nat):Int)).toNat)=_
    rw [qE5,qb]
    simp
   ·have e:List.isPrefixOf [45] s=false:=by rw [Bool.eq_false_iff];exact fun e=>hh ((qEJ 45 s).1 e)
    rw [e] at hp
    unfold qGB
    rw [if_neg hh]
    exact qA hp (qO rfl rfl)
  exact qA inner rfl
 have tl:=qRQ s
 unfold qOX
 generalize qGB s=t at tp tl⊢
 refine qA tp ?_
 by_cases ht:t= []
 ·subst ht
  refine qO (qAn (by rw [qAI,qAB];rfl)) ?_
  rfl
 ·refine qD (qCT (by rw [beq_eq_false_iff_ne,qAI,qAB];exact ht)) ?_
  have tr:qFv (k+4) (BR t) ⟨#[48,49,50,51,52,53,54,55,56,57]⟩=some (BR (((t.reverse.dropWhile qAy).reverse).dropWhile qAy)):=by
   show zAE (BR t) ⟨#[48,49,50,51,52,53,54,55,56,57]⟩=_
   unfold zAE
   rw [if_pos ⟨by rw [qb];omega,by decide,by decide+kernel⟩]
   unfold Lib.trimS Lib.trimLeftS Lib.trimRightS
   have:(fun c=>(⟨#[48,49,50,51,52,53,54,55,56,57]⟩:ByteArray).data.toList.contains c)=qAy:=funext (qQE qRP)
   rw [this,←Go.Lib.toList_data (BR t),qAI]
   rfl
  refine qA tr ?_
  rw [qC]
  congr 1
  have dt:decide (t≠ [])=true:=decide_eq_true ht
  rw [dt,Bool.true_and,qAI,qAB]
  by_cases ha:t.all qAy=true
  ·rw [qPy.2 ha,ha];rfl
  ·have hx:¬(t.reverse.dropWhile qAy).reverse.dropWhile qAy= []:=fun e=>ha (qPy.1 e)
   rw [beq_eq_false_iff_ne.2 hx,Bool.eq_false_iff.2 ha]
theorem qSF {n:Int}:okV 1 n em=true↔-1000000000000000≤n∧n≤1000000000000000:=by
 simp [okV,em,qAB]
theorem qL3 {s:List UInt8} (h:qOX s=true):(∀n,Lib.parseIntB 64 s= .ok n→n=qI9 s)∧(qEL s=true→Lib.parseIntB 64 s= .ok (qI9 s)):=by
 have hd:=h
 unfold qOX at hd
 simp only [Bool.and_eq_true,decide_eq_true_eq] at hd
 obtain ⟨h1,h2⟩:=hd
 have p:(2:Nat)^(64-1)=9223372036854775808:=by decide
 have hne:s≠ []:=fun e=>h1 (by rw [e];rfl)
 obtain ⟨c,r,rfl⟩:∃c r,s=c::r:=by
  cases s with
  |nil=>exact absurd rfl hne
  |cons c r=>exact ⟨c,r,rfl⟩
 have c45:(c.toNat=45)↔c=45:=⟨fun e=>UInt8.toNat_inj.1 (show c.toNat=(45:UInt8).toNat from e),fun e=>by rw [e];rfl⟩
 have nt:qGB (c::r)=if c.toNat=43∨c.toNat=45 then r else c::r:=by
  unfold qGB
  by_cases hc:c=45
  ·subst hc;simp
  ·have hc2:¬c.toNat=45:=fun e=>hc (c45.1 e)
   have ht:qGB (c::r)=c::r:=by unfold qGB;rw [if_neg (by simpa using hc)]
   rw [ht] at h2
   simp only [List.all_cons,Bool.and_eq_true,qAy,decide_eq_true_eq] at h2
   rw [if_neg (by simpa using hc),if_neg (by omega)]
 have nv:qI9 (c::r)=if c.toNat=45 then-((qAY 0 (qGB (c::r)):Nat):Int) else ((qAY 0 (qGB (c::r)):Nat):Int):=by
  unfold qI9
  by_cases hc:c=45
  ·subst hc;rfl
  ·rw [if_neg (by simpa using hc),if_neg (fun e=>hc (c45.1 e))]
 unfold Lib.parseIntB
 simp only
 rw [←nt]
 unfold Lib.parseUintB
 rw [if_neg h1]
 constructor
 ·intro n hn
  rcases hq : Lib.parseUintM (2^64-1) 0 (qGB (c::r)) with u | _ | _
  rotate_left
  · rw [hq] at hn;cases hn
  · rw [hq] at hn;cases hn
  ·have hu:=qN1 _ 0 h2 hq
   rw [hq] at hn
   simp only at hn
   split at hn
   ·cases hn
   ·split at hn
    ·cases hn
    ·injection hn with hn
     rw [nv,←hu,←hn]
 ·intro ho
  unfold qEL at ho
  simp only [Bool.and_eq_true] at ho
  have hb:=qSF.1 ho.2
  have hv:qAY 0 (qGB (c::r))≤1000000000000000:=by
   rw [nv] at hb
   split at hb<;>omega
  rw [qLp _ 0 h2 (by omega)]
  simp only
  rw [if_neg (by rw [p];omega),if_neg (by rw [p];omega),nv]
def szL:List UInt8→List UInt8
 | []=> []
 |c::t=>if t≠ []∧c=48 then szL t else c::t
theorem qM3:∀l:List UInt8,qAY 0 (szL l)=qAY 0 l
 | []=>rfl
 |c::t=>by
  unfold szL
  split
  ·rename_i h
   rw [qM3 t,qDM,h.2]
   rfl
  ·rfl
theorem qPR:∀l:List UInt8,(szL l).all qAy=l.all qAy
 | []=>rfl
 |c::t=>by
  unfold szL
  split
  ·rename_i h
   rw [qPR t,List.all_cons,h.2]
   simp [qAy]
  ·rfl
theorem qRy:∀l:List UInt8,l≠ []→szL l≠ []
 | [],h=>absurd rfl h
 |c::t,_=>by
  unfold szL
  split
  ·rename_i h;exact qRy t h.1
  ·simp
theorem qPS:∀l:List UInt8,(szL l).head?=some 48→(szL l).length=1
 | [],h=>by cases h
 |c::t,h=>by
  unfold szL at h⊢
  split at h
  ·rename_i hc;rw [if_pos hc];exact qPS t h
  ·rename_i hc
   rw [if_neg hc]
   have h48:c=48:=by simpa using h
   have:t= []:=Classical.byContradiction fun e=>hc ⟨e,h48⟩
   rw [this];rfl
theorem qRR {l:List UInt8} (h:l≠ []):qFD (szL l)=l.all qAy:=by
 unfold qFD
 rw [qPR]
 have h1:(szL l== [])=false:=beq_eq_false_iff_ne.2 (qRy l h)
 rw [h1]
 by_cases e:(szL l).head?=some 48
 ·rw [qPS l e];simp
 ·rw [beq_eq_false_iff_ne.2 e];simp
theorem qP0:∀(l:List UInt8) (acc:Nat),acc*10^l.length≤qAY acc l
 | [],acc=>by rw [qF0];simp
 |c::r,acc=>by
  have:=qP0 r (acc*10+(c.toNat-48))
  rw [qDM,List.length_cons,Nat.pow_succ]
  refine Nat.le_trans ?_ this
  rw [show acc*(10^r.length*10)=acc*10*10^r.length by rw [Nat.mul_comm (10^r.length) 10,Nat.mul_assoc]]
  exact Nat.mul_le_mul_right _ (by omega)
theorem qSG {l:List UInt8} (hd:l.all qAy=true) (h:16<(szL l).length):10000000000000000≤qAY 0 l:=by
 rw [←qM3]
 rw [←qPR] at hd
 have hh:=qPS l
 cases hz:szL l with
 |nil=>rw [hz] at h;simp at h
 |cons c r=>
  rw [hz] at h hd hh
  simp only [List.length_cons] at h
  have hc:¬c=48:=fun e=>by
   have:=hh (by rw [e];rfl)
   simp only [List.length_cons] at this
   omega
  simp only [List.all_cons,Bool.and_eq_true,qAy,decide_eq_true_eq] at hd
  have hc2:¬c.toNat=48:=fun e=>hc (UInt8.toNat_inj.1 (show c.toNat=(48:UInt8).toNat from e))
  rw [qDM]
  have a:=qP0 r (0*10+(c.toNat-48))
  have p:10^16≤10^r.length:=Nat.pow_le_pow_right (by decide) (by omega)
  have p16:(10:Nat)^16=10000000000000000:=by decide
  have:1*10^r.length≤(0*10+(c.toNat-48))*10^r.length:=Nat.mul_le_mul_right _ (by omega)
  omega
theorem qLE (n:Nat) (neg:Bool) (a b:Int) (e:ByteArray):∀(l:List UInt8) (M:Nat),l.length≤1000→l.length+1≤M→zC (qBW n) M (BR l,neg,a,b,e)=some (BR (szL l),neg,a,b,e)
 |l,0,_,h=>by omega
 | [],M+1,_,_=>qP (qO (decide_eq_false (show ¬((BR []).size:Int)>1 by rw [qb];decide)) rfl)
 |c::t,M+1,hl,h=>by
  simp only [List.length_cons] at h hl
  unfold szL
  by_cases ht:t= []
  ·rw [if_neg (fun h=>h.1 ht)]
   subst ht
   exact qP (qO (decide_eq_false (show ¬((BR [c]).size:Int)>1 by rw [qb];simp)) rfl)
  ·have hpos:=List.length_pos_iff.2 ht
   have g0:decide (((BR (c::t)).size:Int)>1)=true:=decide_eq_true (by rw [qb];simp only [List.length_cons];omega)
   have g1:(BR (c::t)).toList[((0:Int)).toNat]?=some c:=by rw [qAI];rfl
   by_cases hc:c=48
   ·rw [if_pos ⟨ht,hc⟩]
    subst hc
    rw [qT (v':=(BR t,neg,a,b,e)) (by
     refine qD g0 (qD rfl (qA g1 (qD rfl (qD (decide_eq_true ⟨by decide,by rw [qb];simp only [List.length_cons];omega,Int.le_refl _⟩) ?_))))
     rw [qC]
     show some (Sum.inl ((BR (48::t)).extract 1 ((((BR (48::t)).size:Nat):Int)).toNat,neg,a,b,e))=_
     rw [qE5,qb]
     simp)]
    exact qLE n neg a b e t M (by omega) (by omega)
   ·rw [if_neg (fun h=>hc h.2)]
    refine qP (qD g0 (qD rfl (qA g1 (qO ?_ rfl))))
    rw [beq_eq_false_iff_ne]
    intro e
    exact hc (UInt8.toNat_inj.1 (show c.toNat=48 by omega))
theorem qSH {l:List UInt8} (h:l≠ []):l1I (szL l) 16=if (szL l).length≤16∧l.all qAy=true then (((qAY 0 l:Nat):Int),true) else (0,false):=by
 unfold l1I
 rw [qRR h,qM3]
 by_cases hh:(szL l).length≤16∧l.all qAy=true
 ·rw [if_pos hh,if_pos ⟨by have:=hh.1;omega,hh.2⟩]
 ·rw [if_neg hh,if_neg (fun e=>hh ⟨by have:=e.1;omega,e.2⟩)]
theorem qP1 (neg:Bool) (t:List UInt8) (ht:t≠ []) (hl:t.length≤1000):∃r:Int×Int×ByteArray×Bool,(r.2.2.2=(t.all qAy&&okV 1 (if neg=true then-((qAY 0 t:Nat):Int) else ((qAY 0 t:Nat):Int)) em))∧(r.2.2.2=true→r=(1,(if neg=true then-((qAY 0 t:Nat):Int) else ((qAY 0 t:Nat):Int)),em,true))∧
  ∃n0,∀n,n0≤n→∃v:ByteArray×Bool×Int×Int×ByteArray,zC (qBW n) n (BR t,neg,0,0,⟨#[]⟩)=some v∧
   (Tr.opt (qq n v.1 16) fun r221=>(.ask (v.2.1)
    (.ask (r221.2) (.opt (qX n 1 (IntKind.i64.wrap (0-r221.1)) ⟨#[]⟩) fun r222=>(.done ((1:Int),(IntKind.i64.wrap (0-r221.1)),(⟨#[]⟩:ByteArray),r222))) (.done ((1:Int),(IntKind.i64.wrap (0-r221.1)),(⟨#[]⟩:ByteArray),false)))
    (.ask (r221.2) (.opt (qX n 1 r221.1 ⟨#[]⟩) fun r223=>(.done ((1:Int),r221.1,(⟨#[]⟩:ByteArray),r223))) (.done ((1:Int),r221.1,(⟨#[]⟩:ByteArray),false))))).run=some r:=by
 have hi:=qDa (BR (szL t)) 16 (by decide)
 rw [qAI,qSH ht] at hi
 obtain ⟨n1,h1⟩:=hi
 by_cases hh:(szL t).length≤16∧t.all qAy=true
 ·have hv:qAY 0 t<10^(0+(szL t).length):=by
   have:=qPC (szL t) 0 0 (by rw [qPR];exact hh.2) (by decide)
   rwa [qM3] at this
  have hp:10^(0+(szL t).length)≤10^16:=Nat.pow_le_pow_right (by decide) (by omega)
  have p16:(10:Nat)^16=10000000000000000:=by decide
  have w1:IntKind.i64.wrap (0-((qAY 0 t:Nat):Int))= -((qAY 0 t:Nat):Int):=by rw [qZ (by omega)];omega
  cases neg with
  |true=>
   obtain ⟨n2,h2⟩:=q8 1 (-((qAY 0 t:Nat):Int)) em (by decide)
   refine ⟨(1,-((qAY 0 t:Nat):Int),em,okV 1 (-((qAY 0 t:Nat):Int)) em),by rw [hh.2];simp,fun e=>?_,n1+n2+t.length+1,fun n hn=>⟨_,qLE n true 0 0 _ t n hl (by omega),?_⟩⟩
   ·simp only at e;rw [e];rfl
   ·have h1:=h1 n (by omega)
    rw [if_pos hh] at h1
    have h2:=h2 n (by omega)
    rw [←w1] at h2
    refine qA h1 (qD rfl (qD rfl (qA h2 ?_)))
    rw [qC,w1];rfl
  |false=>
   obtain ⟨n2,h2⟩:=q8 1 ((qAY 0 t:Nat):Int) em (by decide)
   refine ⟨(1,((qAY 0 t:Nat):Int),em,okV 1 ((qAY 0 t:Nat):Int) em),by rw [hh.2];simp,fun e=>?_,n1+n2+t.length+1,fun n hn=>⟨_,qLE n false 0 0 _ t n hl (by omega),?_⟩⟩
   ·simp only at e;rw [e];rfl
   ·have h1:=h1 n (by omega)
    rw [if_pos hh] at h1
    exact qA h1 (qO rfl (qD rfl (qA (h2 n (by omega)) rfl)))
 ·have hno:(t.all qAy&&okV 1 (if neg=true then-((qAY 0 t:Nat):Int) else ((qAY 0 t:Nat):Int)) em)=false:=by
   rw [Bool.eq_false_iff]
   intro e
   simp only [Bool.and_eq_true] at e
   have hb:=qSF.1 e.2
   have:16<(szL t).length:=by
    have:¬(szL t).length≤16:=fun h=>hh ⟨h,e.1⟩
    omega
   have:=qSG e.1 this
   split at hb<;>omega
  cases neg with
  |true=>
   refine ⟨(1,IntKind.i64.wrap (0-0),em,false),hno.symm,(fun e=>by cases e),n1+t.length+1,fun n hn=>⟨_,qLE n true 0 0 _ t n hl (by omega),?_⟩⟩
   have h1:=h1 n (by omega)
   rw [if_neg hh] at h1
   exact qA h1 (qD rfl (qO rfl rfl))
  |false=>
   refine ⟨(1,0,em,false),hno.symm,(fun e=>by cases e),n1+t.length+1,fun n hn=>⟨_,qLE n false 0 0 _ t n hl (by omega),?_⟩⟩
   have h1:=h1 n (by omega)
   rw [if_neg hh] at h1
   exact qA h1 (qO rfl (qO rfl rfl))
theorem qP2 (s:List UInt8) (hs:s≠ []) (hl:s.length≤1000):∃r:Int×Int×ByteArray×Bool,r.2.2.2=qEL s∧(qEL s=true→r=(1,qI9 s,em,true))∧Ev (qEu · (BR s)) r:=by
 obtain ⟨c,t,rfl⟩:∃c t,s=c::t:=by
  cases s with
  |nil=>exact absurd rfl hs
  |cons c t=>exact ⟨c,t,rfl⟩
 simp only [List.length_cons] at hl
 have g0:decide (((BR (c::t)).size:Int)>0)=true:=decide_eq_true (by rw [qb];simp only [List.length_cons];omega)
 have g1:(BR (c::t)).toList[((0:Int)).toNat]?=some c:=by rw [qAI];rfl
 by_cases hc:c=45
 ·subst hc
  have ext:(BR (45::t)).extract ((1:Int)).toNat ((((BR (45::t)).size:Nat):Int)).toNat=BR t:=by rw [qE5,qb];simp
  have g2:decide (0≤(1:Int)∧(1:Int)≤((BR (45::t)).size:Int)∧((BR (45::t)).size:Int)≤((BR (45::t)).size:Int))=true:=decide_eq_true ⟨by decide,by rw [qb];simp only [List.length_cons];omega,Int.le_refl _⟩
  have nt:qGB (45::t)=t:=rfl
  have nv:qI9 (45::t)= -((qAY 0 t:Nat):Int):=rfl
  by_cases ht:t= []
  ·subst ht
   refine ⟨(0,0,⟨#[]⟩,false),by decide+kernel,(fun e=>by revert e;decide+kernel),1,fun n hn=>?_⟩
   obtain ⟨k,rfl,hm⟩:=up1 hn
   exact qD g0 (qD rfl (qA g1 (qD rfl (qD g2 (qD (by rw [ext,qAI,qAB];rfl) rfl)))))
  ·obtain ⟨r,r1,r2,n0,h0⟩:=qP1 true t ht (by omega)
   have e:qEL (45::t)=(t.all qAy&&okV 1 (-((qAY 0 t:Nat):Int)) em):=by
    unfold qEL qOX
    rw [nt,nv,decide_eq_true ht,Bool.true_and]
   rw [if_pos rfl] at r1 r2
   refine ⟨r,by rw [e];exact r1,fun h=>by rw [nv];exact r2 (by rw [r1,←e];exact h),n0+1,fun n hn=>?_⟩
   obtain ⟨k,rfl,hm⟩:=up1 hn
   obtain ⟨v,lp,fin⟩:=h0 k (by omega)
   rw [←ext] at lp
   exact qD g0 (qD rfl (qA g1 (qD rfl (qD g2 (qO (by rw [ext,beq_eq_false_iff_ne,qAI,qAB];exact ht) (qA lp fin))))))
 ·have c45:((c.toNat:Int)==45)=false:=by
   rw [beq_eq_false_iff_ne];intro e
   exact hc (UInt8.toNat_inj.1 (show c.toNat=45 by omega))
  have hh:¬(c::t).head?=some 45:=by simpa using hc
  have nt:qGB (c::t)=c::t:=by unfold qGB;rw [if_neg hh]
  have nv:qI9 (c::t)=((qAY 0 (c::t):Nat):Int):=by unfold qI9;rw [if_neg hh,nt]
  obtain ⟨r,r1,r2,n0,h0⟩:=qP1 false (c::t) (by simp) (by simp only [List.length_cons];omega)
  have e:qEL (c::t)=((c::t).all qAy&&okV 1 (((qAY 0 (c::t):Nat):Int)) em):=by
   unfold qEL qOX
   rw [nt,nv,decide_eq_true (by simp),Bool.true_and]
  rw [if_neg (by simp)] at r1 r2
  refine ⟨r,by rw [e];exact r1,fun h=>by rw [nv];exact r2 (by rw [r1,←e];exact h),n0+1,fun n hn=>?_⟩
  obtain ⟨k,rfl,hm⟩:=up1 hn
  obtain ⟨v,lp,fin⟩:=h0 k (by omega)
  rw [←c45] at lp
  exact qD g0 (qD rfl (qA g1 (qO c45 (qO (by rw [beq_eq_false_iff_ne,qAI,qAB];simp) (qA lp fin)))))
def qE6 (s:ByteArray):ByteArray×Bool:=
 if qCX s 200=false then (⟨#[]⟩,false) else if s.toList= [] then (⟨#[]⟩,true) else
 if s.toList.head?=some 61 then (if (qBO (BR s.toList.tail)).2=true∧(qCo (qBO (BR s.toList.tail)).1).toList≠ []∧(qCo (qBO (BR s.toList.tail)).1).size<200 then (⟨#[61]⟩++qCo (qBO (BR s.toList.tail)).1,true) else (⟨#[]⟩,false)) else
 if qEL s.toList=true then (qF9 (qI9 s.toList),true) else
 if (qf s).2.2.2=true then (s,true) else
 if s.size=200 then (⟨#[]⟩,false) else (⟨#[39]⟩++s,true)
theorem qQK (t:ByteArray):Ev (qBV · ((qBO t).1.map qa)) (qCo (qBO t).1):=qJh _ (by have:=(qLD t).1;omega) (qJL (qLD t).2)
theorem qQL (t:ByteArray):Ev (qBc · ((qBO t).1.map qa)) (qCo (qBO t).1):=qJi _ (by have:=(qLD t).1;omega) (qJL (qLD t).2)
theorem qN2 (l:List Nd):(qCo l).size≤200:=by
 unfold qCo
 split
 ·split
  ·decide
  ·omega
 ·decide
theorem qEO {s:ByteArray} (h:s.toList≠ []):(s.toList==(⟨#[]⟩:ByteArray).toList)=false:=by rw [qAB];exact beq_eq_false_iff_ne.2 h
theorem qN3 {s:ByteArray} (h:s.toList= []):(s.toList==(⟨#[]⟩:ByteArray).toList)=true:=by rw [qAB];exact beq_iff_eq.2 h
theorem qP3 {s:ByteArray} (h:(qf s).2.2.2=true):okV (qf s).1 (qf s).2.1 (qf s).2.2.1=true∧(qBr (qf s).1 (qf s).2.1 (qf s).2.2.1)=s:=by
 unfold qf at h⊢
 split at h
 ·rename_i hc
  rw [if_pos hc]
  exact ⟨hc.1,qEG hc.2⟩
 ·cases h
theorem qSd {s:ByteArray} (h:qCX s 200=true):okV 2 0 s=true:=by
 unfold okV
 rw [if_pos rfl,h]
 rfl
theorem qKZ {s:ByteArray} (h:qCX s 200=true):s.size≤200:=by have:=qJK h;rw [qAN] at this;exact this
theorem qRS (s:ByteArray):(qBr 2 0 s).size=s.size+1:=by
 have e:qBr 2 0 s=⟨#[39]⟩++s:=rfl
 rw [e,ByteArray.size_append]
 show 1+s.size=_
 omega
theorem qQz {s:ByteArray} (h:(qf s).2.2.2=true):(qf s).2.2.1.size≤1000:=by
 obtain ⟨h1,h2⟩:=qP3 h
 unfold okV at h1
 split at h1
 ·simp only [Bool.and_eq_true] at h1
  have:=qKZ h1.2;omega
 ·simp only [Bool.and_eq_true,beq_iff_eq] at h1
  have:=congrArg List.length h1.1
  rw [qAN] at this
  simp only [List.length_nil] at this
  omega
theorem qMv (s:ByteArray) (hb:s.size≤140737488355328):Ev (qD3 · s) (qE6 s):=by
 obtain ⟨n1,h1⟩:=qHB s hb
 unfold qE6
 cases hp:qCX s 200 with
 |false=>
  rw [if_pos rfl]
  refine ⟨n1+1,fun n hn=>?_⟩
  obtain ⟨k,rfl,hm⟩:=up1 hn
  exact qA (h1 k (by omega)) (qD (qCT hp) rfl)
 |true=>
  rw [if_neg (by simp)]
  have hsz:=qKZ hp
  by_cases h0:s.toList= []
  ·rw [if_pos h0]
   refine ⟨n1+1,fun n hn=>?_⟩
   obtain ⟨k,rfl,hm⟩:=up1 hn
   exact qA (h1 k (by omega)) (qO (qAn hp) (qD (qN3 h0) rfl))
  ·rw [if_neg h0]
   obtain ⟨c,t,hct⟩:∃c t,s.toList=c::t:=by
    cases h:s.toList with
    |nil=>exact absurd h h0
    |cons c t=>exact ⟨c,t,rfl⟩
   have g1:s.toList[((0:Int)).toNat]?=some c:=by rw [hct];rfl
   have hl:s.size=t.length+1:=by rw [←qAN,hct];rfl
   by_cases h61:s.toList.head?=some 61
   ·rw [if_pos h61]
    have hc:c=61:=by rw [hct] at h61;simpa using h61
    subst hc
    have ext:s.extract ((1:Int)).toNat (((s.size:Nat):Int)).toNat=BR s.toList.tail:=by
     conv=>lhs;rw [←qH9 s]
     rw [qE5,qb,hct]
     simp
    obtain ⟨n2,h2⟩:=qJk (BR s.toList.tail) (by rw [qb,hct];simp;omega)
    obtain ⟨n3,h3⟩:=qQK (BR s.toList.tail)
    rw [←ext] at h2 h3⊢
    have fz:=qN2 (qBO (s.extract ((1:Int)).toNat (((s.size:Nat):Int)).toNat)).1
    have w1:IntKind.i64.wrap (((qCo (qBO (s.extract ((1:Int)).toNat (((s.size:Nat):Int)).toNat)).1).size:Int)+1)=((qCo (qBO (s.extract ((1:Int)).toNat (((s.size:Nat):Int)).toNat)).1).size:Int)+1:=qZ (by omega)
    refine ⟨n1+n2+n3+1,fun n hn=>?_⟩
    obtain ⟨k,rfl,hm⟩:=up1 hn
    refine qA (h1 k (by omega)) (qO (qAn hp) (qO (qEO h0) (qD rfl (qA g1 (qD rfl (qD (decide_eq_true ⟨by decide,by omega,Int.le_refl _⟩) (qA (h2 k (by omega)) (qA (h3 k (by omega)) ?_))))))))
    by_cases hr:(qBO (s.extract ((1:Int)).toNat (((s.size:Nat):Int)).toNat)).2=true
    ·refine qO (qAn hr) ?_
     by_cases he:(qCo (qBO (s.extract ((1:Int)).toNat (((s.size:Nat):Int)).toNat)).1).toList= []
     ·rw [if_neg (fun h=>h.2.1 he)]
      exact qD (qN3 he) rfl
     ·refine qO (qEO he) ?_
      by_cases hz:(qCo (qBO (s.extract ((1:Int)).toNat (((s.size:Nat):Int)).toNat)).1).size<200
      ·rw [if_pos ⟨hr,he,hz⟩]
       exact qO (decide_eq_false (by rw [w1];omega)) (qD (decide_eq_true (by show 1+(qCo (qBO (s.extract ((1:Int)).toNat (((s.size:Nat):Int)).toNat)).1).size≤9223372036854775807;omega)) rfl)
      ·rw [if_neg (fun h=>hz h.2.2)]
       exact qD (decide_eq_true (by rw [w1];omega)) rfl
    ·rw [if_neg (fun h=>hr h.1)]
     exact qD (qCT (by rw [Bool.eq_false_iff];exact hr)) rfl
   ·rw [if_neg h61]
    have hc:((c.toNat:Int)==61)=false:=by
     rw [beq_eq_false_iff_ne];intro e
     refine h61 ?_
     rw [hct,show c=61 from UInt8.toNat_inj.1 (show c.toNat=61 by omega)];rfl
    obtain ⟨r,r1,r2,n2,h2⟩:=qP2 s.toList h0 (by rw [qAN];omega)
    rw [qH9] at h2
    obtain ⟨n3,h3⟩:=qGR s (by omega)
    cases hn:qEL s.toList with
    |true=>
     rw [if_pos rfl]
     have er:=r2 hn
     subst er
     have hok:okV 1 (qI9 s.toList) em=true:=by unfold qEL at hn;simp only [Bool.and_eq_true] at hn;exact hn.2
     obtain ⟨n4,h4⟩:=qC5 1 (qI9 s.toList) em (by decide)
     rw [if_pos hok] at h4
     refine ⟨n1+n2+n4+1,fun n hn=>?_⟩
     obtain ⟨k,rfl,hm⟩:=up1 hn
     exact qA (h1 k (by omega)) (qO (qAn hp) (qO (qEO h0) (qD rfl (qA g1 (qO hc (qA (h2 k (by omega)) (qD rfl (qA (h4 k (by omega)) rfl))))))))
    |false=>
     rw [if_neg (by simp)]
     have rf:r.2.2.2=false:=by rw [r1];exact hn
     by_cases hv:(qf s).2.2.2=true
     ·rw [if_pos hv]
      obtain ⟨v1,v2⟩:=qP3 hv
      obtain ⟨n4,h4⟩:=qC5 (qf s).1 (qf s).2.1 (qf s).2.2.1 (by have:=qQz hv;omega)
      rw [if_pos v1,v2] at h4
      refine ⟨n1+n2+n3+n4+1,fun n hn=>?_⟩
      obtain ⟨k,rfl,hm⟩:=up1 hn
      exact qA (h1 k (by omega)) (qO (qAn hp) (qO (qEO h0) (qD rfl (qA g1 (qO hc (qA (h2 k (by omega)) (qO rf (qA (h3 k (by omega)) (qO (qAn hv) (qA (h4 k (by omega)) (qO (decide_eq_false (by omega)) rfl)))))))))))
     ·rw [if_neg hv]
      obtain ⟨n4,h4⟩:=qC5 2 0 s (by omega)
      rw [if_pos (qSd hp)] at h4
      have vz:=qRS s
      refine ⟨n1+n2+n3+n4+1,fun n hn=>?_⟩
      obtain ⟨k,rfl,hm⟩:=up1 hn
      refine qA (h1 k (by omega)) (qO (qAn hp) (qO (qEO h0) (qD rfl (qA g1 (qO hc (qA (h2 k (by omega)) (qO rf (qA (h3 k (by omega)) (qD (qCT (by rw [Bool.eq_false_iff];exact hv)) (qA (h4 k (by omega)) ?_))))))))))
      by_cases hz:s.size=200
      ·rw [if_pos hz]
       exact qD (decide_eq_true (by omega)) rfl
      ·rw [if_neg hz]
       exact qO (decide_eq_false (by omega)) rfl
theorem qP4 (X:ByteArray):Ev (qEz · ((qBO X).1.map qa)) (⟨#[61]⟩++qCo (qBO X).1,decide ((qCo (qBO X).1).toList≠ [])&&decide ((qCo (qBO X).1).size<200)):=by
 obtain ⟨n1,h1⟩:=qQL X
 have fz:=qN2 (qBO X).1
 refine ⟨n1+1,fun n hn=>?_⟩
 obtain ⟨k,rfl,hm⟩:=up1 hn
 refine qA (h1 k (by omega)) (qD (decide_eq_true (by show 1+(qCo (qBO X).1).size≤9223372036854775807;omega)) ?_)
 by_cases he:(qCo (qBO X).1).toList= []
 ·refine qO (qAn (qN3 he)) ?_
  rw [qC,decide_eq_false (fun h=>h he),Bool.false_and]
 ·refine qD (qCT (qEO he)) ?_
  rw [qC,decide_eq_true he,Bool.true_and]
  have e:decide (((qCo (qBO X).1).size:Int)<200)=decide ((qCo (qBO X).1).size<200):=by rw [decide_eq_decide];omega
  exact congrArg (fun b:Bool=>some ((⟨#[61]⟩:ByteArray)++qCo (qBO X).1,b)) e
theorem qMw (s:ByteArray) (hb:s.size≤140737488355328):Ev (qFw · s) (qE6 s):=by
 obtain ⟨n1,h1⟩:=qH3 s 200 hb
 unfold qE6
 cases hp:qCX s 200 with
 |false=>
  rw [if_pos rfl]
  have h0:s.toList≠ []:=fun e=>by
   have:qCX s 200=true:=by
    unfold qCX
    have hz:s.size=0:=by rw [←qAN,e];rfl
    rw [e,hz];rfl
   rw [hp] at this;cases this
  refine ⟨n1+1,fun n hn=>?_⟩
  obtain ⟨k,rfl,hm⟩:=up1 hn
  refine qA (h1 k (by omega)) (qD (qCT hp) ?_)
  rw [qC,qEO h0]
 |true=>
  rw [if_neg (by simp)]
  have hsz:=qKZ hp
  by_cases h0:s.toList= []
  ·rw [if_pos h0]
   refine ⟨n1+1,fun n hn=>?_⟩
   obtain ⟨k,rfl,hm⟩:=up1 hn
   refine qA (h1 k (by omega)) (qO (qAn hp) (qD (qN3 h0) ?_))
   rw [qC,qN3 h0]
  ·rw [if_neg h0]
   obtain ⟨n2,h2⟩:=qFJ s 61
   by_cases h61:s.toList.head?=some 61
   ·rw [if_pos h61]
    rw [if_pos h61] at h2
    obtain ⟨n3,h3⟩:=qJj (BR s.toList.tail) (by rw [qb,List.length_tail,qAN];omega)
    obtain ⟨n4,h4⟩:=qP4 (BR s.toList.tail)
    change ∀n,n2≤n→qAA n s ⟨#[61]⟩=some (BR s.toList.tail,true) at h2
    generalize BR s.toList.tail=X at h2 h3 h4⊢
    refine ⟨n1+n2+n3+n4+1,fun n hn=>?_⟩
    obtain ⟨k,rfl,hm⟩:=up1 hn
    have h4:=h4 k (by omega)
    refine qA (h1 k (by omega)) (qO (qAn hp) (qO (qEO h0) (qA (h2 k (by omega)) (qD rfl (qA (h3 k (by omega)) (qA h4 ?_))))))
    by_cases hr:(qBO X).2=true
    ·refine qO (qAn hr) ?_
     by_cases he:(qCo (qBO X).1).toList≠ []∧(qCo (qBO X).1).size<200
     ·rw [if_pos ⟨hr,he⟩]
      exact qO (qAn (by simp only;rw [decide_eq_true he.1,decide_eq_true he.2];rfl)) rfl
     ·rw [if_neg (fun h=>he h.2)]
      exact qD (qCT (by simp only;rw [Bool.eq_false_iff];intro e;simp only [Bool.and_eq_true,decide_eq_true_eq] at e;exact he e)) rfl
    ·rw [if_neg (fun h=>hr h.1)]
     exact qD (qCT (by rw [Bool.eq_false_iff];exact hr)) rfl
   ·rw [if_neg h61]
    rw [if_neg h61] at h2
    obtain ⟨n3,h3⟩:=qGQ s (by omega)
    obtain ⟨n4,h4⟩:=qPz s.toList (by rw [qAN];omega)
    rw [qH9] at h4
    have fin:∀k,n3≤k→(Tr.opt (qd k s) fun r=>(.ask (r.2.2.2) (.done (s,true)) (.ask (((s.size:Int)==(200:Int))) (.done ((⟨#[]⟩:ByteArray),false)) (.ask (decide ((⟨#[39]⟩:ByteArray).size+s.size≤9223372036854775807)) (.done (((⟨#[39]⟩:ByteArray)++s),true)) .fail)))).run=some (if (qf s).2.2.2=true then (s,true) else if s.size=200 then ((⟨#[]⟩:ByteArray),false) else (⟨#[39]⟩++s,true)):=fun k hk=>by
     refine qA (h3 k hk) ?_
     by_cases hv:(qf s).2.2.2=true
     ·rw [if_pos hv];exact qD hv rfl
     ·rw [if_neg hv]
      refine qO (by rw [Bool.eq_false_iff];exact hv) ?_
      by_cases hz:s.size=200
      ·rw [if_pos hz];exact qD (beq_iff_eq.2 (by omega)) rfl
      ·rw [if_neg hz]
       exact qO (beq_eq_false_iff_ne.2 (by omega)) (qD (decide_eq_true (by show 1+s.size≤9223372036854775807;omega)) rfl)
    have hpi:∀k,qAp (k+1) s 10 64=zK s 10 64:=fun k=>rfl
    have hL:zK s 10 64=(match Lib.parseIntB 64 s.toList with
     | .ok v=>some (.inl v)
     | .range=>some (.inr (Lib.intSat 64 s.toList))
     | _ => some (.inr 0)):=by
     unfold zK
     rw [if_pos ⟨rfl,rfl,by omega⟩,Go.Lib.toList_data]
     cases Lib.parseIntB 64 s.data.toList<;>rfl
    rcases hq : Lib.parseIntB 64 s.toList with v | _ | _
    rotate_left
    ·have hn:qEL s.toList=false:=by
      rw [Bool.eq_false_iff];intro e
      have hd:qOX s.toList=true:=by unfold qEL at e;simp only [Bool.and_eq_true] at e;exact e.1
      have:=(qL3 hd).2 e
      rw [hq] at this;cases this
     rw [hn,if_neg (by simp)]
     rw [hq] at hL
     refine ⟨n1+n2+n3+2,fun n hn=>?_⟩
     obtain ⟨k,rfl,hm⟩:=up1 hn
     obtain ⟨k,rfl,hm⟩:=up1 (show n1+n2+n3+1≤k by omega)
     exact qA (h1 (k+1) (by omega)) (qO (qAn hp) (qO (qEO h0) (qA (h2 (k+1) (by omega)) (qO rfl (qA ((hpi k).trans hL) (qO rfl (fin (k+1) (by omega))))))))
    ·have hn:qEL s.toList=false:=by
      rw [Bool.eq_false_iff];intro e
      have hd:qOX s.toList=true:=by unfold qEL at e;simp only [Bool.and_eq_true] at e;exact e.1
      have:=(qL3 hd).2 e
      rw [hq] at this;cases this
     rw [hn,if_neg (by simp)]
     rw [hq] at hL
     refine ⟨n1+n2+n3+2,fun n hn=>?_⟩
     obtain ⟨k,rfl,hm⟩:=up1 hn
     obtain ⟨k,rfl,hm⟩:=up1 (show n1+n2+n3+1≤k by omega)
     exact qA (h1 (k+1) (by omega)) (qO (qAn hp) (qO (qEO h0) (qA (h2 (k+1) (by omega)) (qO rfl (qA ((hpi k).trans hL) (qO rfl (fin (k+1) (by omega))))))))
    ·rw [hq] at hL
     cases hd:qOX s.toList with
     |false=>
      have hn:qEL s.toList=false:=by unfold qEL;rw [hd];rfl
      rw [hn,if_neg (by simp)]
      refine ⟨n1+n2+n3+n4+2,fun n hn=>?_⟩
      obtain ⟨k,rfl,hm⟩:=up1 hn
      obtain ⟨k,rfl,hm⟩:=up1 (show n1+n2+n3+n4+1≤k by omega)
      have h4:=h4 (k+1) (by omega)
      rw [hd] at h4
      exact qA (h1 (k+1) (by omega)) (qO (qAn hp) (qO (qEO h0) (qA (h2 (k+1) (by omega)) (qO rfl (qA ((hpi k).trans hL) (qD rfl (qA h4 (qO rfl (fin (k+1) (by omega))))))))))
     |true=>
      have hv:=(qL3 hd).1 v hq
      subst hv
      obtain ⟨n5,h5⟩:=qIv (qI9 s.toList)
      obtain ⟨n6,h6⟩:=qE3 1 (qI9 s.toList) em (by decide)
      have ei:qEL s.toList=okV 1 (qI9 s.toList) em:=by unfold qEL;rw [hd,Bool.true_and]
      rw [ei]
      cases ho:okV 1 (qI9 s.toList) em with
      |true=>
       rw [if_pos rfl]
       have hb2:=qSF.1 ho
       obtain ⟨n7,h7⟩:=qE4 (qI9 s.toList) (by omega)
       refine ⟨n1+n2+n3+n4+n5+n6+n7+2,fun n hn=>?_⟩
       obtain ⟨k,rfl,hm⟩:=up1 hn
       obtain ⟨k,rfl,hm⟩:=up1 (show n1+n2+n3+n4+n5+n6+n7+1≤k by omega)
       have h4:=h4 (k+1) (by omega)
       rw [hd] at h4
       exact qA (h1 (k+1) (by omega)) (qO (qAn hp) (qO (qEO h0) (qA (h2 (k+1) (by omega)) (qO rfl (qA ((hpi k).trans hL) (qD rfl (qA h4 (qD rfl (qA (h5 (k+1) (by omega)) (qA (h6 (k+1) (by omega)) (qD ho (qA (h7 (k+1) (by omega)) rfl))))))))))))
      |false=>
       rw [if_neg (by simp)]
       refine ⟨n1+n2+n3+n4+n5+n6+2,fun n hn=>?_⟩
       obtain ⟨k,rfl,hm⟩:=up1 hn
       obtain ⟨k,rfl,hm⟩:=up1 (show n1+n2+n3+n4+n5+n6+1≤k by omega)
       have h4:=h4 (k+1) (by omega)
       rw [hd] at h4
       exact qA (h1 (k+1) (by omega)) (qO (qAn hp) (qO (qEO h0) (qA (h2 (k+1) (by omega)) (qO rfl (qA ((hpi k).trans hL) (qD rfl (qA h4 (qD rfl (qA (h5 (k+1) (by omega)) (qA (h6 (k+1) (by omega)) (qO ho (fin (k+1) (by omega)))))))))))))
abbrev Cl:=Int×Int×ByteArray
def qw (c:Cl):List PV:= [.i .i64 c.1,.i .i64 c.2.1,.s c.2.2]
theorem qRs {rows:List (List PV)} (h:∀e∈rows,okR [.i .i64,.i .i64,.s] e):∃l:List Cl,rows=l.map qw∧∀c∈l,c.2.2.size≤140737488351232:=by
 refine qPZ (fun e h=>?_) h
 obtain ⟨c0,t0,rfl,p0,h⟩:=zA8 h
 obtain ⟨c1,t1,rfl,p1,h1⟩:=zA8 h
 obtain ⟨c2,t2,rfl,p2,h2⟩:=zA8 h1
 obtain rfl:=zEt h2
 obtain ⟨x0,rfl,_⟩:=zGY p0
 obtain ⟨x1,rfl,_⟩:=zGY p1
 obtain ⟨x2,rfl,w⟩:=zJp p2
 exact ⟨(x0,x1,x2),rfl,w⟩
theorem qQM {l:List Cl} {i:Nat} {e:List PV} (h:(l.map qw)[i]?=some e):∃c,l[i]?=some c∧e=qw c:=by
 rw [List.getElem?_map] at h
 obtain ⟨c,h1,h2⟩:=Option.map_eq_some_iff.1 h
 exact ⟨c,h1,h2.symm⟩
def qJl (s:ByteArray):Bool:=(qE6 s).2&&(decide (s.toList≠ [])&&((qE6 s).1.toList==s.toList))
def qKa (l:List Cl) (i:Nat) (c:Cl):Bool:=match i with
 |0=>true
 |j+1=>match l[j]? with
  |some p=>qH4 p.1 p.2.1 c.1 c.2.1
  |none=>true
def qJA (l:List Cl):Nat→List Cl→Bool
 |_,[]=>true
 |i,c::r=>qBC c.1 c.2.1&&(qJl c.2.2&&qKa l i c)&&qJA l (i+1) r
def qJB (l:List Cl):Bool:=qJA l 0 l&&decide ((l.length:Int)≤120)
theorem qP5 (s:ByteArray) (hb:s.size≤140737488355328):Ev (qCz · s) (qJl s):=by
 obtain ⟨n1,h1⟩:=qMw s hb
 refine ⟨n1+1,fun n hn=>?_⟩
 obtain ⟨k,rfl,hm⟩:=up1 hn
 refine qA (h1 k (by omega)) ?_
 unfold qJl
 by_cases h2:(qE6 s).2=true
 ·refine qD h2 ?_
  rw [h2,Bool.true_and]
  by_cases h3:s.toList= []
  ·refine qO (qAn (qN3 h3)) ?_
   rw [qC,decide_eq_false (fun e=>e h3),Bool.false_and]
  ·refine qD (qCT (qEO h3)) ?_
   rw [qC,decide_eq_true h3,Bool.true_and]
 ·have h2:(qE6 s).2=false:=by rw [Bool.eq_false_iff];exact h2
  refine qO h2 ?_
  rw [qC,h2,Bool.false_and]
structure SrcAt (n:Nat) (c:Cl):Prop where
 r1:qAD n c.1 c.2.1=some (qBC c.1 c.2.1)
 r2:qBf n c.1 c.2.1=some (qBC c.1 c.2.1)
 i1:qD3 n c.2.2=some (qE6 c.2.2)
 i2:qCz n c.2.2=some (qJl c.2.2)
theorem qRT (c:Cl) (hb:c.2.2.size≤140737488351232):∃n0,∀n,n0≤n→SrcAt n c:=by
 obtain ⟨n1,h1⟩:=qCY c.1 c.2.1
 obtain ⟨n2,h2⟩:=qC3 c.1 c.2.1
 obtain ⟨n3,h3⟩:=qMv c.2.2 (by omega)
 obtain ⟨n4,h4⟩:=qP5 c.2.2 (by omega)
 exact ⟨n1+n2+n3+n4,fun n hn=>⟨h1 n (by omega),h2 n (by omega),h3 n (by omega),h4 n (by omega)⟩⟩
theorem qPT:∀(l:List Cl),(∀c∈l,c.2.2.size≤140737488351232)→∃n0,∀n,n0≤n→∀c∈l,SrcAt n c
 | [],_=>⟨0,fun n _ c hc=>by cases hc⟩
 |a::l,h=>by
  obtain ⟨n1,h1⟩:=qRT a (h a (List.mem_cons_self ..))
  obtain ⟨n2,h2⟩:=qPT l fun c hc=>h c (List.mem_cons_of_mem _ hc)
  exact ⟨n1+n2,fun n hn c hc=>by
   rcases List.mem_cons.1 hc with rfl|hc
   ·exact h1 n (by omega)
   ·exact h2 n (by omega) c hc⟩
theorem qLF (n:Nat) (l:List Cl) (hb:l.length≤140737488351232) (hs:∀c∈l,SrcAt n c) (ha:∀a b c d,qC8 n a b c d=some (qH4 a b c d)):
  ∀(m i M:Nat),l.length=i+m→m+1≤M→zC (qD4 n) M (l.map qw,(i:Int))=some (if qJA l i (l.drop i)=true then .inr () else .inl false)
 |m,i,0,h1,h2=>by omega
 |0,i,M+1,h1,h2=>by
  rw [List.drop_eq_nil_of_le (by omega)]
  exact qP (qO (decide_eq_false (show ¬((i:Int)<((l.map qw).length:Int)) by rw [List.length_map];omega)) rfl)
 |m+1,i,M+1,h1,h2=>by
  have hl:i<l.length:=by omega
  have hg:=List.getElem?_eq_getElem hl
  have hm:=List.getElem_mem hl
  rw [qC2 hg]
  generalize l[i]=c at hg hm
  have S:=hs c hm
  have hw:IntKind.i64.wrap ((i:Int)+1)=((i+1:Nat):Int):=by rw [qZ (by omega)];omega
  have g1:decide ((i:Int)<((l.map qw).length:Int))=true:=decide_eq_true (by rw [List.length_map];omega)
  have g2:decide (0≤(i:Int)∧(i:Int)<((l.map qw).length:Int))=true:=decide_eq_true ⟨by omega,by rw [List.length_map];omega⟩
  have g3:(l.map qw)[((i:Int)).toNat]?=some (qw c):=by rw [Int.toNat_natCast,List.getElem?_map,hg];rfl
  have k3:decide ((qw c).length=3)=true:=rfl
  have cs:zX (qw c) 2=some c.2.2:=rfl
  have c0:zD .i64 (qw c) 0=some c.1:=rfl
  have c1:zD .i64 (qw c) 1=some c.2.1:=rfl
  have ih:=qLF n l hb hs ha m (i+1) M (by omega) (by omega)
  unfold qJA
  by_cases hR:qBC c.1 c.2.1=true
  rotate_left
  ·have hR:qBC c.1 c.2.1=false:=by rw [Bool.eq_false_iff];exact hR
   rw [hR,Bool.false_and,Bool.false_and,if_neg (by simp)]
   exact qP (qD g1 (qD g2 (qA g3 (qD k3 (qA cs (qA S.i1 (qD g2 (qA g3 (qD k3 (qA c0 (qA c1 (qA S.r1 (qD (qCT hR) rfl)))))))))))))
  rw [hR,Bool.true_and]
  by_cases hI:(qE6 c.2.2).2=true
  rotate_left
  ·have hI:(qE6 c.2.2).2=false:=by rw [Bool.eq_false_iff];exact hI
   have e:qJl c.2.2=false:=by unfold qJl;rw [hI];rfl
   rw [e,Bool.false_and,Bool.false_and,if_neg (by simp)]
   exact qP (qD g1 (qD g2 (qA g3 (qD k3 (qA cs (qA S.i1 (qD g2 (qA g3 (qD k3 (qA c0 (qA c1 (qA S.r1 (qO (qAn hR) (qD (qCT hI) rfl))))))))))))))
  by_cases hE:c.2.2.toList= []
  ·have e:qJl c.2.2=false:=by unfold qJl;rw [decide_eq_false (fun h=>h hE),Bool.false_and,Bool.and_false]
   rw [e,Bool.false_and,Bool.false_and,if_neg (by simp)]
   exact qP (qD g1 (qD g2 (qA g3 (qD k3 (qA cs (qA S.i1 (qD g2 (qA g3 (qD k3 (qA c0 (qA c1 (qA S.r1 (qO (qAn hR) (qO (qAn hI) (qD g2 (qA g3 (qD k3 (qA cs (qD (qN3 hE) rfl)))))))))))))))))))
  by_cases hQ:(qE6 c.2.2).1.toList=c.2.2.toList
  rotate_left
  ·have e:qJl c.2.2=false:=by unfold qJl;rw [beq_eq_false_iff_ne.2 hQ,Bool.and_false,Bool.and_false]
   rw [e,Bool.false_and,Bool.false_and,if_neg (by simp)]
   exact qP (qD g1 (qD g2 (qA g3 (qD k3 (qA cs (qA S.i1 (qD g2 (qA g3 (qD k3 (qA c0 (qA c1 (qA S.r1 (qO (qAn hR) (qO (qAn hI) (qD g2 (qA g3 (qD k3 (qA cs (qO (qEO hE) (qD g2 (qA g3 (qD k3 (qA cs (qD (qCT (beq_eq_false_iff_ne.2 hQ)) rfl))))))))))))))))))))))))
  have e:qJl c.2.2=true:=by unfold qJl;rw [hI,decide_eq_true hE,beq_iff_eq.2 hQ];rfl
  rw [e,Bool.true_and]
  cases i with
  |zero=>
   rw [show qKa l 0 c=true from rfl,Bool.true_and]
   rw [qT (v':=(l.map qw,((0+1:Nat):Int))) (by
    refine qD g1 (qD g2 (qA g3 (qD k3 (qA cs (qA S.i1 (qD g2 (qA g3 (qD k3 (qA c0 (qA c1 (qA S.r1 (qO (qAn hR) (qO (qAn hI) (qD g2 (qA g3 (qD k3 (qA cs (qO (qEO hE) (qD g2 (qA g3 (qD k3 (qA cs (qO (qAn (beq_iff_eq.2 hQ)) (qO rfl ?_))))))))))))))))))))))))
    rw [qC,hw])]
   exact ih
  |succ j=>
   have hj:j<l.length:=by omega
   have hgj:=List.getElem?_eq_getElem hj
   generalize l[j]=p at hgj
   have wj:IntKind.i64.wrap (((j+1:Nat):Int)-1)=(j:Int):=by rw [qZ (by omega)];omega
   have a1:decide (((j+1:Nat):Int)>0)=true:=decide_eq_true (by omega)
   have j2:decide (0≤IntKind.i64.wrap (((j+1:Nat):Int)-1)∧IntKind.i64.wrap (((j+1:Nat):Int)-1)<((l.map qw).length:Int))=true:=decide_eq_true (by rw [wj,List.length_map];omega)
   have j3:(l.map qw)[(IntKind.i64.wrap (((j+1:Nat):Int)-1)).toNat]?=some (qw p):=by rw [wj,Int.toNat_natCast,List.getElem?_map,hgj];rfl
   have p0:zD .i64 (qw p) 0=some p.1:=rfl
   have p1:zD .i64 (qw p) 1=some p.2.1:=rfl
   have h5:=ha p.1 p.2.1 c.1 c.2.1
   have ep:qKa l (j+1) c=qH4 p.1 p.2.1 c.1 c.2.1:=by unfold qKa;simp only [hgj]
   rw [ep]
   by_cases hA:qH4 p.1 p.2.1 c.1 c.2.1=true
   ·rw [hA,Bool.true_and]
    rw [qT (v':=(l.map qw,((j+1+1:Nat):Int))) (by
     refine qD g1 (qD g2 (qA g3 (qD k3 (qA cs (qA S.i1 (qD g2 (qA g3 (qD k3 (qA c0 (qA c1 (qA S.r1 (qO (qAn hR) (qO (qAn hI) (qD g2 (qA g3 (qD k3 (qA cs (qO (qEO hE) (qD g2 (qA g3 (qD k3 (qA cs (qO (qAn (beq_iff_eq.2 hQ)) (qD a1 (qD j2 (qA j3 (qD rfl (qA p0 (qA p1 (qD g2 (qA g3 (qD k3 (qA c0 (qA c1 (qA h5 (qO (qAn hA) ?_))))))))))))))))))))))))))))))))))))
     rw [qC,hw])]
    exact ih
   ·have hA:qH4 p.1 p.2.1 c.1 c.2.1=false:=by rw [Bool.eq_false_iff];exact hA
    rw [hA,Bool.false_and,if_neg (by simp)]
    exact qP (qD g1 (qD g2 (qA g3 (qD k3 (qA cs (qA S.i1 (qD g2 (qA g3 (qD k3 (qA c0 (qA c1 (qA S.r1 (qO (qAn hR) (qO (qAn hI) (qD g2 (qA g3 (qD k3 (qA cs (qO (qEO hE) (qD g2 (qA g3 (qD k3 (qA cs (qO (qAn (beq_iff_eq.2 hQ)) (qD a1 (qD j2 (qA j3 (qD rfl (qA p0 (qA p1 (qD g2 (qA g3 (qD k3 (qA c0 (qA c1 (qA h5 (qD (qCT hA) rfl)))))))))))))))))))))))))))))))))))))
theorem qMx (l:List Cl) (hb:l.length≤140737488351232) (hs:∀c∈l,c.2.2.size≤140737488351232):Ev (qFd · (l.map qw)) (qJB l):=by
 obtain ⟨n1,h1⟩:=qPT l hs
 refine ⟨n1+l.length+3,fun n hn=>?_⟩
 obtain ⟨m,rfl,hm⟩:=up1 hn
 have ha:∀a b c d,qC8 m a b c d=some (qH4 a b c d):=fun a b c d=>by
  obtain ⟨q,rfl⟩:∃q,m=q+1:=⟨m-1,by omega⟩
  simp only [qC8,qFc,qC,qE,qH,qJ,qK,qM,Option.bind_some,qF,qN,qG]
  unfold qH4
  by_cases h:b<d
  ·simp [h]
  ·by_cases h':b=d
   ·subst h';simp
   ·simp [h,h']
 have h:=qLF m l hb (h1 m (by omega)) ha l.length 0 m (by omega) (by omega)
 simp only [Int.natCast_zero,List.drop_zero] at h
 unfold qJB
 by_cases h0:(l.length:Int)>120
 ·refine qD (decide_eq_true (by rw [List.length_map];exact h0)) ?_
  rw [qC,decide_eq_false (by omega),Bool.and_false]
 ·refine qO (decide_eq_false (by rw [List.length_map];exact h0)) (qA h ?_)
  rw [decide_eq_true (show (l.length:Int)≤120 by omega),Bool.and_true]
  cases qJA l 0 l<;>rfl
theorem qLG (n:Nat) (l:List Cl) (hb:l.length≤140737488351232) (hs:∀c∈l,SrcAt n c) (ha:∀p∈l,∀c∈l,qBX n p.1 p.2.1 c.1 c.2.1=some (qCw [qKS p.2.1 c.2.1,qKS p.1 c.1])):
  ∀(m i M:Nat),l.length=i+m→m+1≤M→zC (qED n) M (l.map qw,l.map qw,(l.length:Int),(i:Int))=some (if qJA l i (l.drop i)=true then .inr (l.map qw) else .inl false)
 |m,i,0,h1,h2=>by omega
 |0,i,M+1,h1,h2=>by
  rw [List.drop_eq_nil_of_le (by omega)]
  exact qP (qO (decide_eq_false (show ¬((i:Int)<(l.length:Int)) by omega)) rfl)
 |m+1,i,M+1,h1,h2=>by
  have hl:i<l.length:=by omega
  have hg:=List.getElem?_eq_getElem hl
  have hm:=List.getElem_mem hl
  rw [qC2 hg]
  generalize l[i]=c at hg hm
  have S:=hs c hm
  have hw:IntKind.i64.wrap ((i:Int)+1)=((i+1:Nat):Int):=by rw [qZ (by omega)];omega
  have g1:decide ((i:Int)<(l.length:Int))=true:=decide_eq_true (by omega)
  have g2:decide (0≤(i:Int)∧(i:Int)<((l.map qw).length:Int))=true:=decide_eq_true ⟨by omega,by rw [List.length_map];omega⟩
  have g3:(l.map qw)[((i:Int)).toNat]?=some (qw c):=by rw [Int.toNat_natCast,List.getElem?_map,hg];rfl
  have k3:decide ((qw c).length=3)=true:=rfl
  have cs:zX (qw c) 2=some c.2.2:=rfl
  have c0:zD .i64 (qw c) 0=some c.1:=rfl
  have c1:zD .i64 (qw c) 1=some c.2.1:=rfl
  have ih:=qLG n l hb hs ha m (i+1) M (by omega) (by omega)
  unfold qJA
  by_cases hR:qBC c.1 c.2.1=true
  rotate_left
  ·have hR:qBC c.1 c.2.1=false:=by rw [Bool.eq_false_iff];exact hR
   rw [hR,Bool.false_and,Bool.false_and,if_neg (by simp)]
   exact qP (qD g1 (qD g2 (qA g3 (qD k3 (qA c0 (qA c1 (qA cs (qA S.r2 (qD (qCT hR) rfl)))))))))
  rw [hR,Bool.true_and]
  cases i with
  |zero=>
   rw [show qKa l 0 c=true from rfl,Bool.and_true]
   by_cases hS:qJl c.2.2=true
   ·rw [hS,Bool.true_and]
    rw [qT (v':=(l.map qw,l.map qw,(l.length:Int),((0+1:Nat):Int))) (by
     refine qD g1 (qD g2 (qA g3 (qD k3 (qA c0 (qA c1 (qA cs (qA S.r2 (qO (qAn hR) (qO rfl (qA S.i2 (qO (qAn hS) ?_)))))))))))
     rw [qC,hw])]
    exact ih
   ·have hS:qJl c.2.2=false:=by rw [Bool.eq_false_iff];exact hS
    rw [hS,Bool.false_and,if_neg (by simp)]
    exact qP (qD g1 (qD g2 (qA g3 (qD k3 (qA c0 (qA c1 (qA cs (qA S.r2 (qO (qAn hR) (qO rfl (qA S.i2 (qD (qCT hS) rfl))))))))))))
  |succ j=>
   have hj:j<l.length:=by omega
   have hgj:=List.getElem?_eq_getElem hj
   have hmj:=List.getElem_mem hj
   generalize l[j]=p at hgj hmj
   have wj:IntKind.i64.wrap (((j+1:Nat):Int)-1)=(j:Int):=by rw [qZ (by omega)];omega
   have a1:decide (((j+1:Nat):Int)>0)=true:=decide_eq_true (by omega)
   have j2:decide (0≤IntKind.i64.wrap (((j+1:Nat):Int)-1)∧IntKind.i64.wrap (((j+1:Nat):Int)-1)<((l.map qw).length:Int))=true:=decide_eq_true (by rw [wj,List.length_map];omega)
   have j3:(l.map qw)[(IntKind.i64.wrap (((j+1:Nat):Int)-1)).toNat]?=some (qw p):=by rw [wj,Int.toNat_natCast,List.getElem?_map,hgj];rfl
   have p0:zD .i64 (qw p) 0=some p.1:=rfl
   have p1:zD .i64 (qw p) 1=some p.2.1:=rfl
   have h5:=ha p hmj c hm
   have h6:=qQl p.1 p.2.1 c.1 c.2.1
   have ep:qKa l (j+1) c=qH4 p.1 p.2.1 c.1 c.2.1:=by unfold qKa;simp only [hgj]
   rw [ep]
   by_cases hA:qH4 p.1 p.2.1 c.1 c.2.1=true
   ·rw [hA] at h6
    rw [hA,Bool.and_true]
    by_cases hS:qJl c.2.2=true
    ·rw [hS,Bool.true_and]
     rw [qT (v':=(l.map qw,l.map qw,(l.length:Int),((j+1+1:Nat):Int))) (by
      refine qD g1 (qD g2 (qA g3 (qD k3 (qA c0 (qA c1 (qA cs (qA S.r2 (qO (qAn hR) (qD a1 (qD j2 (qA j3 (qD rfl (qA p0 (qA p1 (qA h5 (qO h6 (qA S.i2 (qO (qAn hS) ?_))))))))))))))))))
      rw [qC,hw])]
     exact ih
    ·have hS:qJl c.2.2=false:=by rw [Bool.eq_false_iff];exact hS
     rw [hS,Bool.false_and,if_neg (by simp)]
     exact qP (qD g1 (qD g2 (qA g3 (qD k3 (qA c0 (qA c1 (qA cs (qA S.r2 (qO (qAn hR) (qD a1 (qD j2 (qA j3 (qD rfl (qA p0 (qA p1 (qA h5 (qO h6 (qA S.i2 (qD (qCT hS) rfl)))))))))))))))))))
   ·have hA:qH4 p.1 p.2.1 c.1 c.2.1=false:=by rw [Bool.eq_false_iff];exact hA
    rw [hA] at h6
    rw [hA,Bool.and_false,Bool.false_and,if_neg (by simp)]
    exact qP (qD g1 (qD g2 (qA g3 (qD k3 (qA c0 (qA c1 (qA cs (qA S.r2 (qO (qAn hR) (qD a1 (qD j2 (qA j3 (qD rfl (qA p0 (qA p1 (qA h5 (qD h6 rfl)))))))))))))))))
theorem qMy (l:List Cl) (hb:l.length≤140737488351232) (hs:∀c∈l,c.2.2.size≤140737488351232):Ev (qFx · (l.map qw)) (qJB l):=by
 obtain ⟨n1,h1⟩:=qPT l hs
 obtain ⟨n3,h3⟩:=qB8 (F:=fun (pc:Cl×Cl) n=>qBX n pc.1.1 pc.1.2.1 pc.2.1 pc.2.2.1) (f:=fun pc=>qCw [qKS pc.1.2.1 pc.2.2.1,qKS pc.1.1 pc.2.1]) (l.flatMap fun p=>l.map fun c=>(p,c)) fun pc _=>qJf pc.1.1 pc.1.2.1 pc.2.1 pc.2.2.1
 refine ⟨n1+n3+l.length+3,fun n hn=>?_⟩
 obtain ⟨m,rfl,hm⟩:=up1 hn
 have h:=qLG m l hb (h1 m (by omega)) (fun p hp c hc=>h3 m (by omega) (p,c) (List.mem_flatMap.2 ⟨p,hp,List.mem_map.2 ⟨c,hc,rfl⟩⟩)) l.length 0 m (by omega) (by omega)
 simp only [Int.natCast_zero,List.drop_zero] at h
 rw [show (l.length:Int)=((l.map qw).length:Int) by rw [List.length_map]] at h
 unfold qJB
 refine qA h ?_
 cases qJA l 0 l with
 |true=>
  rw [if_pos rfl,Bool.true_and]
  show some (decide (((l.map qw).length:Int)≤120))=_
  rw [List.length_map]
 |false=>rfl
theorem qN4 (n:Nat) (a b:Int) (s:ByteArray) (left:Int):∃r,qEW (n+1) a b s left=some r:=by
 simp only [qEW,qGW,qC,qE,qH,qJ,qK,qM,Option.bind_some,qF,qN,qG]
 by_cases h:IntKind.i64.wrap (left-s.size)<0
 ·exact ⟨-1,by simp [h]⟩
 ·exact ⟨IntKind.i64.wrap (left-s.size),by simp [h]⟩
theorem qMz (l:List Cl) (hb:l.length≤140737488351232) (left:Int):∀n,l.length+5≤n→∃r,qDw n (l.map qw) left=some r:=by
 intro n hn
 obtain ⟨m,rfl,hm⟩:=up1 hn
 obtain ⟨q,rfl⟩:∃q,m=q+2:=⟨m-2,by omega⟩
 simp only [qDw,qFO,qC,qE,qH,qJ,qK,qM,Option.bind_some,qF,qN,qG]
 obtain ⟨r,h⟩:=qQP (B:=qBk (q+2)) (rows:=l.map qw)
  (fun i e x he=>by
   obtain ⟨c,hc,rfl⟩:=qQM he
   have hi:i<l.length:=(List.getElem?_eq_some_iff.1 hc).1
   have hi':(i:Int)<l.length:=by omega
   have hw:IntKind.i64.wrap ((i:Int)+1)=(i:Int)+1:=qZ (by omega)
   obtain ⟨r,hr⟩:=qN4 (q+1) c.1 c.2.1 c.2.2 x
   by_cases h0:r<0
   ·exact .inr ⟨.inl (-1),by simp [qBk,qC,qE,qH,qJ,qK,qM,Option.bind_some,qF,qN,qG,hi',hc,qw,zD,zX,hr,h0]⟩
   ·exact .inl ⟨r,by simp [qBk,qC,qE,qH,qJ,qK,qM,Option.bind_some,qF,qN,qG,hi',hc,qw,zD,zX,hr,h0,hw]⟩)
  (fun x=>⟨.inr x,by simp [qBk,qC,qE,qH,qJ,qK,qM,Option.bind_some,qF,qN,qG]⟩) l.length 0 (q+2) (IntKind.i64.wrap (left-l.length)) (by simp) (by omega)
 simp only [Int.natCast_zero] at h
 by_cases h0:IntKind.i64.wrap (left-l.length)<0
 ·exact ⟨-1,by simp [h0]⟩
 ·rcases r with r|r
  ·exact ⟨r,by simp [h0,h,qC,qE,qH,qJ,qK,qM,Option.bind_some,qF,qN,qG]⟩
  ·exact ⟨r,by simp [h0,h,qC,qE,qH,qJ,qK,qM,Option.bind_some,qF,qN,qG]⟩
theorem qN5 (n:Nat) (a b:Int) (s:ByteArray):qEX (n+2) a b s=some (a,b,s):=by
 simp only [qEX,qGX,qCp,qFG,qC,qE,qH,qJ,qK,qM,Option.bind_some,qF,qN,qG]
theorem qM0 (l:List Cl) (hb:l.length*32≤140737488351232):Ev (qCe · (l.map qw)) (l.length,l.map qw):=by
 refine ⟨l.length+5,fun n hn=>?_⟩
 obtain ⟨m,rfl,hm⟩:=up1 hn
 simp only [qCe,qFP,qC,qE,qH,qJ,qK,qM,Option.bind_some,qF,qN,qG]
 have h:=qQ2 (B:=qCE m) (rows:=l.map qw) (z:= [.i .i64 0,.i .i64 0,.s ⟨#[]⟩]) (r:=fun acc=>((l.map qw).length,acc)) (M:=m)
  (fun i acc e he ha hz=>by
   obtain ⟨c,hc,rfl⟩:=qQM he
   have hi:i<l.length:=(List.getElem?_eq_some_iff.1 hc).1
   have hi':(i:Int)<l.length:=by omega
   obtain ⟨q,rfl⟩:∃q,m=q+2:=⟨m-2,by omega⟩
   have hw:IntKind.i64.wrap ((i:Int)+1)=(i:Int)+1:=qZ (by omega)
   have ha':acc.length=l.length:=by simpa using ha
   simp [qCE,qC,qE,qH,qJ,qK,qM,Option.bind_some,qF,qN,qG,hi',hc,qw,zD,zX,qN5,hz,ha',hw,zx])
  (fun acc ha=>by
   have ha':acc.length=l.length:=by simpa using ha
   simp [qCE,qC,qE,qH,qJ,qK,qM,Option.bind_some,qF,qN,qG])
  (by simp;omega)
 simp only [List.length_map,Int.toNat_natCast] at h⊢
 rw [h]
 have h1:(32:Int)*(l.length:Int)≤140737488355328:=by omega
 have h2:(l.length:Int)≤9223372036854775807:=by omega
 simp [qC,qE,qH,qJ,qK,qM,Option.bind_some,qF,qN,qG,h1,h2]
theorem qN6 (n:Nat) (a b:Int) (s:ByteArray):qEd (n+2) a b s a b s=some true:=by
 simp only [qEd,qGr,qHc,qHb,qC,qE,qH,qJ,qK,qM,Option.bind_some,qF,qN,qG]
 simp [qC,qE,qH,qJ,qK,qM,Option.bind_some,qF,qN,qG]
theorem qM1 (l:List Cl) (hb:l.length≤140737488351232):Ev (qEE · (l.map qw) (l.map qw)) true:=by
 refine ⟨l.length+5,fun n hn=>?_⟩
 obtain ⟨m,rfl,hm⟩:=up1 hn
 simp only [qEE,qFy,qC,qE,qH,qJ,qK,qM,Option.bind_some,qF,qN,qG]
 have h:=qQO (B:=qCO m) (rows:=l.map qw) (r:= .inr ())
  (fun i e he=>by
   obtain ⟨c,hc,rfl⟩:=qQM he
   have hi:i<l.length:=(List.getElem?_eq_some_iff.1 hc).1
   have hi':(i:Int)<l.length:=by omega
   obtain ⟨q,rfl⟩:∃q,m=q+2:=⟨m-2,by omega⟩
   have hw:IntKind.i64.wrap ((i:Int)+1)=(i:Int)+1:=qZ (by omega)
   simp [qCO,qC,qE,qH,qJ,qK,qM,Option.bind_some,qF,qN,qG,hi',hc,qw,zD,zX,qN6,hw])
  (by simp [qCO,qC,qE,qH,qJ,qK,qM,Option.bind_some,qF,qN,qG]) l.length 0 m (by simp) (by omega)
 simp only [Int.natCast_zero] at h
 simp [h,qC,qE,qH,qJ,qK,qM,Option.bind_some,qF,qN,qG]
def Fo (r:List UInt8):Prop:=∀c,r.head?=some c→c∈([38,43,45,42,47,60,61,62,41,44]:List UInt8)
def Sta (r:List UInt8):Prop:=∃c,r.head?=some c∧(wch c=true∨c=45∨c=40∨c=34∨c=35)
def lo (l:List Nd) (i:Int):Int:=qCZ (qU l) (i.toNat+1) i
def tx (l:List Nd) (g:Nat) (i t:Int):List UInt8:=(qp l g i t).toList
structure RT (l:List Nd) (g:Nat) (i:Int):Prop where
 s:∀t,Sta (tx l g i t)
 c:∀(t:Int) (r:List UInt8),Fo r→∀d:UInt8,(d=58∨d=32)→(wr (tx l g i t++r)).head?≠some d
 u:∀(r:List UInt8) (deep:Int) (f:Nat),Fo r→0≤deep→deep+g≤400→20*(tx l g i 5++r).length+4≤f→pP f (.un deep) (tx l g i 5++r,false,l.take (lo l i).toNat)=(i,r,false,l.take (i.toNat+1))
 b:∀(t t':Int) (r:List UInt8) (deep:Int) (f:Nat),1≤t→t≤t'→t'≤5→Fo r→(qAk r=0∨lvl (qAk r)≤t')→0≤deep→deep+g≤400→20*(tx l g i t'++r).length+6≤f→
  ∃f2,20*r.length+5≤f2∧pP f (.bin t deep) (tx l g i t'++r,false,l.take (lo l i).toNat)=pP f2 (.loop t deep i) (r,false,l.take (i.toNat+1))
def Dwx {β:Type} (Q:β→Prop) (R:Nat→Tr β):Prop:=∃x,Q x∧Ev (fun n=>(R n).run) x
theorem qIA {α β:Type} {Q:β→Prop} {F:Nat→Option α} {r:α} {K:Nat→α→Tr β} (h:Ev F r) (hk:Dwx Q fun n=>K n r):Dwx Q fun n=> .opt (F n) (K n):=by
 obtain ⟨x,q,n1,h1⟩:=hk
 obtain ⟨n0,h0⟩:=h
 exact ⟨x,q,n0+n1,fun n hn=>qA (h0 n (by omega)) (h1 n (by omega))⟩
theorem qPU {β:Type} {Q:β→Prop} {b:Bool} {t e:Nat→Tr β} (h:b=true) (hk:Dwx Q t):Dwx Q fun n=> .ask b (t n) (e n):=by
 obtain ⟨x,q,n1,h1⟩:=hk
 exact ⟨x,q,n1,fun n hn=>qD h (h1 n hn)⟩
theorem qRt {β:Type} {Q:β→Prop} {b:Bool} {t e:Nat→Tr β} (h:b=false) (hk:Dwx Q e):Dwx Q fun n=> .ask b (t n) (e n):=by
 obtain ⟨x,q,n1,h1⟩:=hk
 exact ⟨x,q,n1,fun n hn=>qO h (h1 n hn)⟩
theorem qLH {β:Type} {Q:β→Prop} {x:β} (h:Q x):Dwx Q fun _=> .done x:=⟨x,h,0,fun _ _=>rfl⟩
theorem qQN {β:Type} {Q:β→Prop} {F:Nat→Option β} {R:Nat→Tr β} (h:Dwx Q R) (hF:∀n,F (n+1)=(R n).run):∃x,Q x∧Ev F x:=by
 obtain ⟨x,q,n1,h1⟩:=h
 refine ⟨x,q,n1+1,fun n hn=>?_⟩
 obtain ⟨m,rfl,hm⟩:=up1 hn
 rw [hF]
 exact h1 m hm
def qOx {α R:Type} (f:Nat→α→Option R):Nat→List α→Option R
 |_,[]=>none
 |i,a::r=>match f i a with
  |some x=>some x
  |none=>qOx f (i+1) r
theorem qSX {V R α:Type} {B:V→Tr (V⊕R)} (st:Nat→V) (l:List α) (f:Nat→α→Option R) (z:R) (hs:∀i a,l[i]?=some a→(B (st i)).run=some (match f i a with|some r=> .inr r|none=> .inl (st (i+1))))
  (he:(B (st l.length)).run=some (.inr z)):∀(M:Nat),l.length+1≤M→zC B M (st 0)=some ((qOx f 0 l).getD z):=by
 have key:∀(r:List α) (i M:Nat),l.drop i=r→i+r.length=l.length→r.length+1≤M→zC B M (st i)=some ((qOx f i r).getD z):=by
  intro r
  induction r with
  |nil=>
   intro i M h1 h2 h3
   obtain ⟨M,rfl⟩:∃q,M=q+1:=⟨M-1,by omega⟩
   have e:i=l.length:=by simpa using h2
   subst e
   rw [qP he]
   rfl
  |cons a r ih=>
   intro i M h1 h2 h3
   obtain ⟨M,rfl⟩:∃q,M=q+1:=⟨M-1,by omega⟩
   have hg:l[i]?=some a:=by rw [←List.head?_drop,h1];rfl
   have hd:l.drop (i+1)=r:=by rw [←List.tail_drop,h1];rfl
   have h4:=hs i a hg
   simp only [List.length_cons] at h2 h3
   unfold qOx
   cases hf:f i a with
   |some x=>rw [hf] at h4;rw [qP h4];rfl
   |none=>rw [hf] at h4;rw [qT h4];exact ih (i+1) M hd (by omega) (by omega)
 exact fun M h=>key l 0 M rfl (by omega) h
theorem qRU {i:Nat} {k:Int} {l:List (List PV)} {e:List PV} (hk:k=(i:Int)) (h:l[i]?=some e):decide (0≤k∧k<l.length)=true∧l[k.toNat]?=some e:=by
 subst hk
 have:=(List.getElem?_eq_some_iff.1 h).1
 exact ⟨decide_eq_true (by omega),by rw [Int.toNat_natCast];exact h⟩
def qQ0 (l:List Cl) (c r:Int):ByteArray:=((l.find? fun e=>e.1==c&&e.2.1==r).map (·.2.2)).getD ⟨#[]⟩
theorem qN7 {R:Type} (c r:Int) (g:ByteArray→R):∀(l:List Cl) (i:Nat),qOx (fun _ (e:Cl)=>if (e.1==c&&e.2.1==r)=true then some (g e.2.2) else none) i l=(l.find? fun e=>e.1==c&&e.2.1==r).map fun e=>g e.2.2
 | [],i=>rfl
 |a::l,i=>by
  unfold qOx
  rw [List.find?_cons]
  cases a.1==c&&a.2.1==r with
  |true=>rfl
  |false=>exact qN7 c r g l (i+1)
theorem qL4 (l:List Cl) (c r:Int) (hb:l.length≤140737488351232):Ev (qE0 · (l.map qw) c r) (qQ0 l c r):=by
 refine ⟨l.length+3,fun n hn=>?_⟩
 obtain ⟨m,rfl,hm⟩:=up1 hn
 have h:=qSX (B:=qDo m) (fun i=>(l.map qw,((l.map qw).length:Int),(i:Int),c,r)) l (fun _ e=>if (e.1==c&&e.2.1==r)=true then some (.inl e.2.2) else none) (.inr ())
  (fun i e he=>by
   have hi:=(List.getElem?_eq_some_iff.1 he).1
   have hg:(l.map qw)[i]?=some (qw e):=by rw [List.getElem?_map,he];rfl
   obtain ⟨a1,a2⟩:=qRU rfl hg
   refine qD (decide_eq_true (by simpa using hi)) (qD a1 (qA a2 (qD rfl (qA rfl (qA rfl (qA rfl ?_))))))
   rw [Bool.and_true]
   cases hc:e.1==c&&e.2.1==r with
   |true=>exact qD rfl rfl
   |false=>
    refine qO rfl ?_
    dsimp only
    rw [qZ (by omega)]
    rfl)
  (qO (decide_eq_false (by simp)) rfl) m (by omega)
 refine qA h ?_
 rw [qN7]
 unfold qQ0
 cases l.find? fun e=>e.1==c&&e.2.1==r<;>rfl
theorem qPV (l:List Cl) (c r:Int) (hb:l.length≤140737488351232):Ev (qIa · (l.map qw) c r) (qQ0 l c r):=by
 refine ⟨l.length+3,fun n hn=>?_⟩
 obtain ⟨m,rfl,hm⟩:=up1 hn
 have h:=qSX (B:=qFe m) (fun i=>(l.map qw,(i:Int),c,r)) l (fun _ e=>if (e.1==c&&e.2.1==r)=true then some (.inl e.2.2) else none) (.inr ())
  (fun i e he=>by
   have hi:=(List.getElem?_eq_some_iff.1 he).1
   have hg:(l.map qw)[i]?=some (qw e):=by rw [List.getElem?_map,he];rfl
   obtain ⟨a1,a2⟩:=qRU rfl hg
   refine qD (decide_eq_true (by simpa using hi)) (qD a1 (qA a2 (qD rfl (qA rfl (qA rfl ?_)))))
   rw [Bool.and_true]
   cases hc:e.1==c&&e.2.1==r with
   |true=>exact qD rfl (qD a1 (qA a2 (qD rfl (qA rfl rfl))))
   |false=>
    refine qO rfl ?_
    dsimp only
    rw [qZ (by omega)]
    rfl)
  (qO (decide_eq_false (by simp)) rfl) m (by omega)
 refine qA h ?_
 rw [qN7]
 unfold qQ0
 cases l.find? fun e=>e.1==c&&e.2.1==r<;>rfl
theorem qSY {F:Nat→Option Int} {T:Nat→Tr Bool} (h:∃N,∀n,N≤n→∃r,F n=some r) (hk:Dwx (· =true) T):Dwx (· =true) fun n=> .opt (F n) fun r=> .ask (decide (r<0)) (.done true) (T n):=by
 obtain ⟨x,rfl,n1,h1⟩:=hk
 obtain ⟨n0,h0⟩:=h
 refine ⟨true,rfl,n0+n1,fun n hn=>?_⟩
 obtain ⟨r,hr⟩:=h0 n (by omega)
 refine qA hr ?_
 by_cases h2:r<0
 ·exact qD (decide_eq_true h2) rfl
 ·exact qO (decide_eq_false h2) (h1 n (by omega))
theorem qRV {β:Type} {F:Nat→Option β} {x:β} (h:∃y,y=x∧Ev F y):Ev F x:=by
 obtain ⟨y,rfl,h⟩:=h
 exact h
theorem qL5 (l:List Cl) (c r:Int) (hb:l.length≤140737488351232) (hs:∀c∈l,c.2.2.size≤140737488351232):Ev (qE2 · (l.map qw) c r) (if qJB l=true then qQ0 l c r else ⟨#[]⟩):=by
 refine qRV (qQN (R:=fun n=>qE1 n (l.map qw) c r) (qIA (qMy l hb hs) ?_) fun n=>rfl)
 cases qJB l with
 |true=>exact qRt rfl (qIA (qL4 l c r hb) (qLH rfl))
 |false=>exact qPU rfl (qLH rfl)
theorem qL6 (l:List Cl) (c r:Int) (hb:l.length≤140737488351232) (hs:∀c∈l,c.2.2.size≤140737488351232):Ev (qEw · (l.map qw) c r) (if qJB l=true then qQ0 l c r else ⟨#[]⟩):=by
 refine qRV (qQN (R:=fun n=>qEv n (l.map qw) c r) (qIA (qMx l hb hs) ?_) fun n=>rfl)
 cases qJB l with
 |true=>exact qRt rfl (qIA (qPV l c r hb) (qLH rfl))
 |false=>exact qPU rfl (qLH rfl)
theorem law (rows:List (List PV)) (c r:Int) (w:rows.length*32≤140737488351232∧∀r∈rows,okR [.i .i64,.i .i64,.s] r) (w1:(Lit.int .i64 c).wf=true) (w2:(Lit.int .i64 r).wf=true):Ev (qEF · rows c r) true:=by
 obtain ⟨l,rfl,hs⟩:=qRs w.2
 have hl:l.length*32≤140737488351232:=by simpa using w.1
 have t1:=qM0 l hl
 have t2:=qOT c r
 refine qRV (qQN (R:=fun n=>qCv n (l.map qw) c r) (qSY ⟨_,qMz l (by omega) 1048576⟩ ?_) fun n=>rfl)
 have eL:decide ((l.length:Nat)=(l.map qw).length)=true:=decide_eq_true (by simp)
 refine qIA t1 (qIA t2 (qPU eL (qIA (qL6 l c r (by omega) hs) (qPU (qG _) (qIA t1 (qIA t2 (qPU eL (qIA (qL5 l c r (by omega) hs) (qPU (qG _) (qRt (by simp) ?_))))))))))
 exact qIA t1 (qPU eL (qPU eL (qIA (qM1 l (by omega)) (qPU (qF _) (qRt rfl (qLH rfl))))))
theorem nb {a b:Int} (h:¬a=b):(a==b)=false:=beq_eq_false_iff_ne.2 h
end Go.Proofs.YtkkkfjgagjdcoaaGreatDoor.KFnExactSourceAt

