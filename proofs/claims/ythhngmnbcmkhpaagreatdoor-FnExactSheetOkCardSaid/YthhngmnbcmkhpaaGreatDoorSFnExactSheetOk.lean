import Derived.Test.YthhngmnbcmkhpaaGreatDoorTFnExactSheetOk
import Derived.Test.YthhngmnbcmkhpaaGreatDoorE32
import Derived.Lib.Strings
import Derived.Test.YthhngmnbcmkhpaaGreatDoorSFnExactSheetOkp1
namespace Go.Proofs.YthhngmnbcmkhpaaGreatDoor.KFnExactSheetOk
open Go.Eng
set_option linter.unusedVariables false
set_option linter.unusedSimpArgs false
theorem qRp {c:UInt8} (hc:c∈([45,40,41,44,58]:List UInt8)) (r:List UInt8):(sgn r= [c])↔([c].isPrefixOf r=true):=by
 cases r with
 |nil=>
  have:sgn []= []:=rfl
  rw [this]
  simp [List.isPrefixOf]
 |cons d t=>
  have hcc:c≠60∧c≠62∧c∈([61,38,43,45,42,47,40,41,44,58]:List UInt8):=by
   simp only [List.mem_cons,List.not_mem_nil,or_false] at hc
   rcases hc with rfl|rfl|rfl|rfl|rfl<;>decide
  have e:([c].isPrefixOf (d::t)=true)↔c=d:=by simp [List.isPrefixOf]
  rw [e]
  by_cases h1:d=60
  ·subst h1
   rw [qNU]
   constructor
   ·intro h;split at h
    ·cases h
    ·split at h
     ·cases h
     ·simp only [List.cons.injEq,and_true] at h;exact absurd h.symm hcc.1
   ·intro h;exact absurd h hcc.1
  ·by_cases h2:d=62
   ·subst h2
    rw [qOq]
    constructor
    ·intro h;split at h
     ·cases h
     ·simp only [List.cons.injEq,and_true] at h;exact absurd h.symm hcc.2.1
    ·intro h;exact absurd h hcc.2.1
   ·rw [qOp d t h1 h2]
    constructor
    ·intro h;split at h
     ·simp only [List.cons.injEq,and_true] at h;exact h.symm
     ·cases h
    ·intro h;subst h;rw [if_pos hcc.2.2]
theorem qQ4 {c:UInt8} (hc:c∈([45,40,41,44,58]:List UInt8)) {p q:PS} (hb:q.2.1=false) (ht:tb p.1=tb q.1):(qW [c] p).1=(sIs [c] q).1∧(qW [c] p).2.1=(sIs [c] q).2.1∧(qW [c] p).2.2=p.2∧(sIs [c] q).2.2=q.2:=by
 have h:=qRp hc (tb q.1)
 unfold qW sIs
 rw [ht,hb]
 by_cases hs:sgn (tb q.1)= [c]
 ·rw [if_pos hs,if_neg (by simp),if_pos (h.1 hs)]
  exact ⟨rfl,rfl,rfl,rfl⟩
 ·rw [if_neg hs,if_neg (by simp),if_neg (fun e=>hs (h.2 e))]
  exact ⟨rfl,rfl,rfl,rfl⟩
theorem qDJ {w:List UInt8} (hw:w≠ []) {p:PS} (h:(qW w p).1=true):(qW w p).2.1.length<(tb p.1).length:=by
 unfold qW at h⊢
 by_cases hs:sgn (tb p.1)=w
 ·rw [if_pos hs]
  have hp:w.isPrefixOf (tb p.1)=true:=by
   unfold sgn at hs
   split at hs
   ·rename_i x hx
    subst hs
    have:=List.find?_some hx
    simpa using this
   ·exact absurd hs.symm hw
  obtain ⟨t,ht⟩:=List.isPrefixOf_iff_prefix.1 hp
  have h0:0<w.length:=List.length_pos_iff.2 hw
  have h1:=congrArg List.length ht
  simp only [List.length_append] at h1
  simp only [List.length_drop]
  omega
 ·rw [if_neg hs] at h;cases h
theorem qHb (w:List UInt8) (p:PS):(qW w p).2.1.length≤(tb p.1).length:=by
 unfold qW
 split
 ·simp
 ·exact Nat.le_refl _
theorem qP4 (r:List UInt8):(qAm r=0)∨(1≤qAm r∧qAm r≤11∧sgn r=(qAI (qAm r)).toList):=by
 unfold qAm
 repeat' (split; · rename_i h;right;rw [h];exact ⟨by decide,by decide,by decide+kernel⟩)
 left;rfl
theorem sg1:(qAI 1).toList= [43]:=by decide+kernel
theorem sg2:(qAI 2).toList= [45]:=by decide+kernel
theorem sg3:(qAI 3).toList= [42]:=by decide+kernel
theorem sg4:(qAI 4).toList= [47]:=by decide+kernel
theorem sg5:(qAI 5).toList= [38]:=by decide+kernel
theorem sg6:(qAI 6).toList= [61]:=by decide+kernel
theorem sg7:(qAI 7).toList= [60,62]:=by decide+kernel
theorem sg8:(qAI 8).toList= [60]:=by decide+kernel
theorem sg9:(qAI 9).toList= [60,61]:=by decide+kernel
theorem qQg:(qAI 10).toList= [62]:=by decide+kernel
theorem qQh:(qAI 11).toList= [62,61]:=by decide+kernel
theorem qGo (r:List UInt8):qDP 1 r qBx=if [60,62].isPrefixOf r=true then 7 else if [60,61].isPrefixOf r=true then 9 else if [62,61].isPrefixOf r=true then 11 else if [61].isPrefixOf r=true then 6 else if [60].isPrefixOf r=true then 8 else if [62].isPrefixOf r=true then 10 else 0:=by
 simp [qDP,qBx,lvl,sg1,sg2,sg3,sg4,sg5,sg6,sg7,sg8,sg9,qQg,qQh]
theorem qGp (r:List UInt8):qDP 2 r qBx=if [38].isPrefixOf r=true then 5 else 0:=by
 simp [qDP,qBx,lvl,sg1,sg2,sg3,sg4,sg5,sg6,sg7,sg8,sg9,qQg,qQh]
theorem qGq (r:List UInt8):qDP 3 r qBx=if [43].isPrefixOf r=true then 1 else if [45].isPrefixOf r=true then 2 else 0:=by
 simp [qDP,qBx,lvl,sg1,sg2,sg3,sg4,sg5,sg6,sg7,sg8,sg9,qQg,qQh]
theorem qGr (r:List UInt8):qDP 4 r qBx=if [42].isPrefixOf r=true then 3 else if [47].isPrefixOf r=true then 4 else 0:=by
 simp [qDP,qBx,lvl,sg1,sg2,sg3,sg4,sg5,sg6,sg7,sg8,sg9,qQg,qQh]
theorem qQ5 {m:Int} (hm:1≤m∧m≤4) (r:List UInt8):qDP m r qBx=if qAm r≠0∧lvl (qAm r)=m then qAm r else 0:=by
 have hm:m=1∨m=2∨m=3∨m=4:=by omega
 cases r with
 |nil=>rcases hm with rfl|rfl|rfl|rfl<;>simp [qGo,qGp,qGq,qGr,qAm,sgn,qDr,List.find?,List.isPrefixOf]
 |cons c t=>
  have f:∀d:UInt8,c≠d→(d==c)=false:=fun d hd=>by simpa using fun e=>hd e.symm
  by_cases h1:c=60
  ·subst h1
   cases t with
   |nil=>rcases hm with rfl|rfl|rfl|rfl<;>simp [qGo,qGp,qGq,qGr,qAm,qNU,List.isPrefixOf,lvl]
   |cons d t=>
    have g:∀e:UInt8,d≠e→(e==d)=false:=fun e hd=>by simpa using fun x=>hd x.symm
    by_cases hd:d=62
    ·subst hd;rcases hm with rfl|rfl|rfl|rfl<;>simp [qGo,qGp,qGq,qGr,qAm,qNU,List.isPrefixOf,lvl]
    ·by_cases hd2:d=61
     ·subst hd2;rcases hm with rfl|rfl|rfl|rfl<;>simp [qGo,qGp,qGq,qGr,qAm,qNU,List.isPrefixOf,lvl]
     ·rcases hm with rfl|rfl|rfl|rfl<;>simp [qGo,qGp,qGq,qGr,qAm,qNU,List.isPrefixOf,lvl,hd,hd2,g _ hd,g _ hd2]
  ·by_cases h2:c=62
   ·subst h2
    cases t with
    |nil=>rcases hm with rfl|rfl|rfl|rfl<;>simp [qGo,qGp,qGq,qGr,qAm,qOq,List.isPrefixOf,lvl]
    |cons d t=>
     have g:∀e:UInt8,d≠e→(e==d)=false:=fun e hd=>by simpa using fun x=>hd x.symm
     by_cases hd2:d=61
     ·subst hd2;rcases hm with rfl|rfl|rfl|rfl<;>simp [qGo,qGp,qGq,qGr,qAm,qOq,List.isPrefixOf,lvl]
     ·rcases hm with rfl|rfl|rfl|rfl<;>simp [qGo,qGp,qGq,qGr,qAm,qOq,List.isPrefixOf,lvl,hd2,g _ hd2]
   ·by_cases h:c∈([61,38,43,45,42,47,40,41,44,58]:List UInt8)
    ·have hs:sgn (c::t)= [c]:=by rw [qOp c t h1 h2,if_pos h]
     simp only [List.mem_cons,List.not_mem_nil,or_false] at h
     rcases h with rfl|rfl|rfl|rfl|rfl|rfl|rfl|rfl|rfl|rfl<;>rcases hm with rfl|rfl|rfl|rfl<;>
      simp [qGo,qGp,qGq,qGr,qAm,hs,List.isPrefixOf,lvl]
    ·have hs:sgn (c::t)= []:=by rw [qOp c t h1 h2,if_neg h]
     simp only [List.mem_cons,List.not_mem_nil,or_false,not_or] at h
     obtain ⟨a1,a2,a3,a4,a5,a6,a7,a8,a9,a10⟩:=h
     rcases hm with rfl|rfl|rfl|rfl<;>
      simp [qGo,qGp,qGq,qGr,qAm,hs,List.isPrefixOf,f _ h1,f _ h2,f _ a1,f _ a2,f _ a3,f _ a4,f _ a5,f _ a6]
theorem qPg {op:Int}:1≤lvl op∧lvl op≤4:=by unfold lvl;split<;>(try split)<;>(try split)<;>omega
def qKr (p:PS):Prop:=p.2.1=true∨∃x∈p.2.2,qFA x=false
theorem qCS {x:Nd} {p:PS} (h:qKr p):qKr (qCz x p).2:=by
 unfold qCz
 split
 ·exact .inl rfl
 ·rename_i hn
  rcases h with h|⟨y,hy,hb⟩
  ·exact absurd (.inl h) hn
  ·exact .inr ⟨y,List.mem_append_left _ hy,hb⟩
theorem qDu {w:List UInt8} {p:PS} (h:qKr p):qKr (qW w p).2:=by unfold qW;split<;>exact h
theorem qEp (p:PS):qKr (qPf p):= .inl rfl
theorem qHB {w:List UInt8} {p:PS} (h:qKr p):qKr (qB5 w p):=by
 unfold qB5
 split
 ·exact h
 ·split
  ·exact qDu h
  ·exact qEp _
theorem qOK {p:PS} (h:qKr p):qKr (qA7 p).2:=by
 unfold qA7
 simp only
 split
 ·rcases h with h|h
  ·left
   simp only [Bool.or_eq_true]
   left
   have:(qW [58] (wr (tb p.1),p.2)).2.2=p.2:=by unfold qW;split<;>rfl
   rw [this];exact h
  ·right
   have:(qW [58] (wr (tb p.1),p.2)).2.2=p.2:=by unfold qW;split<;>rfl
   simp only [this]
   exact h
 ·exact h
theorem qCc:∀(f:Nat) (j:PJ) (p:PS),qKr p→qKr (pP f j p).2
 |0,j,p,h=>h
 |f+1,.bin least deep,p,h=>by
  simp only [pP]
  exact qCc f _ _ (qCc f _ _ h)
 |f+1,.loop least deep a,p,h=>by
  simp only [pP]
  split
  ·exact h
  ·split
   ·exact h
   ·exact qCc f _ _ (qCS (qCc f _ _ h))
 |f+1,.un deep,p,h=>by
  simp only [pP]
  split
  ·exact qEp _
  ·split
   ·exact qCS (qCc f _ _ (qDu h))
   ·exact qCc f _ _ (qDu h)
 |f+1,.at deep,p,h=>by
  simp only [pP]
  split
  ·split
   ·exact .inl rfl
   ·exact qCS h
  ·split
   ·exact qCS h
   ·split
    ·exact qHB (qCc f _ _ (qDu h))
    ·split
     ·exact qCS h
     ·split
      ·exact qCS h
      ·split
       ·exact qCc f _ _ h
       ·exact qEp _
 |f+1,.call op deep,p,h=>by
  simp only [pP]
  exact qCc f _ _ (qHB h)
 |f+1,.args op deep kids,p,h=>by
  simp only [pP]
  have hq:qKr (qDt (qA7 p) (fun p=>pP f (.bin 1 (deep+1)) p)).2:=by
   unfold qDt
   split
   ·exact qCS (qOK h)
   ·exact qCc f _ _ (qOK h)
  revert hq
  generalize qDt (qA7 p) (fun p=>pP f (.bin 1 (deep+1)) p)=q
  intro hq
  split
  ·exact qCS h
  ·split
   ·exact qCc f _ _ (qDu hq)
   ·exact qCS (qHB (qDu hq))
theorem qAt (x:Nd) (p:PS):(qCz x p).2.1=p.1:=by unfold qCz;split<;>rfl
theorem qDQ (w:List UInt8) (p:PS):(tb (qW w p).2.1).length≤(tb p.1).length:=by
 unfold qW
 split
 ·refine Nat.le_trans (qy _) ?_
  simp
 ·simp only;rw [qCC];exact Nat.le_refl _
theorem qI2 (w:List UInt8) (p:PS):(tb (qB5 w p).1).length≤(tb p.1).length:=by
 unfold qB5
 split
 ·exact Nat.le_refl _
 ·split
  ·exact qDQ w p
  ·exact qDQ w p
theorem qHC (p:PS):(tb (qA7 p).2.1).length≤(tb p.1).length:=by
 unfold qA7
 simp only
 split
 ·simp only
  refine Nat.le_trans (qy _) (Nat.le_trans (qF0 _) (Nat.le_trans (qDQ [58] _) ?_))
  exact Nat.le_trans (qy _) (qF0 _)
 ·exact Nat.le_refl _
theorem qI3:∀(acc r:List UInt8) {s t:List UInt8},qBu acc r=some (s,t)→t.length<r.length
 |acc,[],s,t,h=>by simp [qBu] at h
 |acc,c::r,s,t,h=>by
  unfold qBu at h
  by_cases hc:c=34
  ·rw [if_pos hc] at h
   match r,h with
   | [],h=>simp only [Option.some.injEq,Prod.mk.injEq] at h;rw [←h.2];simp
   |d::t',h=>
    simp only at h
    by_cases hd:d=34
    ·rw [if_pos hd] at h
     have:=qI3 _ t' h
     simp only [List.length_cons];omega
    ·rw [if_neg hd] at h
     simp only [Option.some.injEq,Prod.mk.injEq] at h
     rw [←h.2];simp
  ·rw [if_neg hc] at h
   have:=qI3 _ r h
   simp only [List.length_cons];omega
theorem qDK:∀(f:Nat) (j:PJ) (p:PS),(tb (pP f j p).2.1).length≤(tb p.1).length
 |0,j,p=>Nat.le_refl _
 |f+1,.bin least deep,p=>by
  simp only [pP]
  exact Nat.le_trans (qDK f _ _) (qDK f _ _)
 |f+1,.loop least deep a,p=>by
  simp only [pP]
  split
  ·exact Nat.le_refl _
  ·split
   ·simp only;rw [qCC];exact Nat.le_refl _
   ·refine Nat.le_trans (qDK f _ _) ?_
    rw [qAt]
    refine Nat.le_trans (qDK f _ _) (Nat.le_trans (qy _) ?_)
    simp
 |f+1,.un deep,p=>by
  simp only [pP]
  split
  ·exact Nat.le_refl _
  ·split
   ·rw [qAt]
    exact Nat.le_trans (qDK f _ _) (qDQ _ _)
   ·exact Nat.le_trans (qDK f _ _) (qDQ _ _)
 |f+1,.at deep,p=>by
  simp only [pP]
  split
  ·split
   ·simp only;rw [qCC];exact Nat.le_refl _
   ·rename_i s t hq
    rw [qAt]
    have:=qI3 _ _ hq
    refine Nat.le_trans (qy _) ?_
    have h2:((tb p.1).tail).length≤(tb p.1).length:=by simp
    simp only;omega
  ·split
   ·rw [qAt]
    refine Nat.le_trans (qy _) ?_
    simp
   ·split
    ·exact Nat.le_trans (qI2 _ _) (Nat.le_trans (qDK f _ _) (qDQ _ _))
    ·have hw:(tb (wr (tb p.1))).length≤(tb p.1).length:=Nat.le_trans (qy _) (qF0 _)
     split
     ·rw [qAt];exact hw
     ·split
      ·rw [qAt];exact hw
      ·split
       ·exact Nat.le_trans (qDK f _ _) hw
       ·exact hw
 |f+1,.call op deep,p=>by
  simp only [pP]
  exact Nat.le_trans (qDK f _ _) (qI2 _ _)
 |f+1,.args op deep kids,p=>by
  simp only [pP]
  have hq:(tb (qDt (qA7 p) (fun p=>pP f (.bin 1 (deep+1)) p)).2.1).length≤(tb p.1).length:=by
   unfold qDt
   split
   ·rw [qAt];exact qHC p
   ·exact Nat.le_trans (qDK f _ _) (qHC p)
  revert hq
  generalize qDt (qA7 p) (fun p=>pP f (.bin 1 (deep+1)) p)=q
  intro hq
  split
  ·rw [qAt];exact Nat.le_refl _
  ·split
   ·exact Nat.le_trans (qDK f _ _) (Nat.le_trans (qDQ _ _) hq)
   ·rw [qAt]
    exact Nat.le_trans (qI2 _ _) (Nat.le_trans (qDQ _ _) hq)
structure RdOK:Prop where
 v:∀w:List UInt8,w.all wch=true→w≠ []→(qf (BR w)).2.2.2=true→(qf (BR w)).1=1∨(qf (BR w)).1=3
 v0:¬((qf (BR [])).1=1∨(qf (BR [])).1=3)
 p0:(qAu (BR [])).2.2.2.2=false
 f:∀w op,qFH w 1 10=some op→(qf (BR w)).2.2.2=false∧(qAu (BR w)).2.2.2.2=false
 f0:qFH [] 1 10=none
 n:∀n:Int,1≤n∧n≤5→∃t,(qe n).toList=35::t
def Lk (p q:PS):Prop:=p.2.1=false∧q.2.1=false∧p.2.2=q.2.2∧tb p.1=tb q.1
def Sim (a b:Int×PS):Prop:=(a.1=b.1∧Lk a.2 b.2)∨(b.2.2.1=true∧qKr a.2)
def qRq (least:Int) (p:PS):Prop:=qAm (tb p.1)=0∨lvl (qAm (tb p.1))<least
def SimP (least:Int) (a b:Int×PS):Prop:=(a.1=b.1∧Lk a.2 b.2∧qRq least a.2)∨(b.2.2.1=true∧qKr a.2)
theorem SimP.sim {least:Int} {a b:Int×PS} (h:SimP least a b):Sim a b:=h.elim (fun h=> .inl ⟨h.1,h.2.1⟩) .inr
theorem qKs {x:Nd} {q:PS} (h:q.2.1=true):(qDd x q).2.2.1=true:=by
 unfold qDd;simp only;split
 ·rfl
 ·exact h
theorem qHc {w:List UInt8} {q:PS} (h:q.2.1=true):sIs w q=(false,tb q.1,q.2):=by unfold sIs;rw [if_pos h]
theorem qLf:∀(g:Nat) (j:SJ) (q:PS),q.2.1=true→(sP g j q).2.2.1=true
 |0,j,q,h=>h
 |g+1,.row level,q,h=>by simp only [sP];rw [if_pos h];exact h
 |g+1,.rl level a,q,h=>by simp only [sP];rw [if_pos h];exact h
 |g+1,.one,q,h=>by
  simp only [sP]
  rw [qHc (w:= [45]) h]
  simp only [Bool.false_eq_true,if_false]
  rw [qHc (w:= [40]) (q:=(tb q.1,q.2)) h]
  simp only [Bool.false_eq_true,if_false]
  rw [qHc (w:= [34]) (q:=(tb q.1,q.2)) h]
  simp only [Bool.false_eq_true,if_false]
  rw [qHc (w:= [35]) (q:=(tb q.1,q.2)) h]
  simp only [Bool.false_eq_true,if_false]
  split
  ·rw [qHc (w:= [40]) (q:=(wr (tb q.1),q.2)) h]
   simp [qKK]
  ·split
   ·exact qKs h
   ·split
    ·exact qKs h
    ·rfl
 |g+1,.call op kids,q,h=>by simp only [sP];rw [if_pos h];exact h
 |g+1,.arg,q,h=>by
  simp only [sP]
  rw [qHc (w:= [58]) (q:=(wr (tb q.1),q.2)) h]
  simp only [Bool.false_eq_true,and_false,if_false]
  exact qLf g _ _ h
theorem qHd {x:Nd} {p q:PS} (h:Lk p q):Sim (qCz x p) (qDd x q):=by
 obtain ⟨h1,h2,h3,h4⟩:=h
 unfold qCz qDd
 rw [h1,h2,h3]
 by_cases hl:60≤q.2.2.length
 ·refine .inr ⟨?_,.inl ?_⟩
  ·simp only;rw [if_pos (.inl (by omega))]
  ·rw [if_pos (.inr hl)]
 ·rw [if_neg (by simp;omega)]
  by_cases hn:qFA x=false
  ·exact .inr ⟨by simp only;rw [if_pos (.inr hn)],.inr ⟨x,by simp,hn⟩⟩
  ·refine .inl ⟨rfl,rfl,?_,rfl,h4⟩
   simp only
   rw [if_neg]
   intro e
   rcases e with e|e
   ·omega
   ·exact hn e
theorem qPH {a b:Int×PS} (f:Int→Nd) (h:Sim a b):Sim (qCz (f a.1) a.2) (qDd (f b.1) b.2):=by
 rcases h with ⟨h1,h2⟩|⟨h1,h2⟩
 ·rw [h1];exact qHd h2
 ·exact .inr ⟨qKs h1,qCS h2⟩
theorem qI4 {c:UInt8} (hc:c∈([45,40,41,44,58]:List UInt8)) {p q:PS} (h:Lk p q):(qW [c] p).1=(sIs [c] q).1∧Lk (qW [c] p).2 (sIs [c] q).2:=by
 obtain ⟨h1,h2,h3,h4⟩:=h
 obtain ⟨e1,e2,e3,e4⟩:=qQ4 hc h2 h4
 refine ⟨e1,?_,?_,?_,?_⟩
 ·rw [e3];exact h1
 ·rw [e4];exact h2
 ·rw [e3,e4];exact h3
 ·rw [e2]
theorem qPI {c:UInt8} (hc:c∈([45,40,41,44,58]:List UInt8)) {a b:Int×PS} (h:Sim a b):Sim (a.1,qB5 [c] a.2) (b.1,if (sIs [c] b.2).1=true then (sIs [c] b.2).2 else qKK (sIs [c] b.2).2):=by
 rcases h with ⟨h1,h2⟩|⟨h1,h2⟩
 ·obtain ⟨e1,e2⟩:=qI4 hc h2
  unfold qB5
  rw [if_neg (by rw [h2.1];simp),e1]
  by_cases ht:(sIs [c] b.2).1=true
  ·rw [if_pos ht,if_pos ht]
   exact .inl ⟨h1,e2⟩
  ·rw [if_neg ht,if_neg ht]
   exact .inr ⟨rfl,qEp _⟩
 ·refine .inr ⟨?_,qHB h2⟩
  rw [qHc h1]
  simp [qKK]
def qIC (G:Nat) (least:Int):Nat→Int×PS→Int×PS→Prop
 |0,x,res=>res=x
 |m+1,x,res=>if ((m:Int)+1)<least then res=x else ∃g,G≤g∧qIC G least m (sP g (.rl ((m:Int)+1) x.1) x.2) res
theorem qLg {G G':Nat} (h:G'≤G) {least:Int}:∀(m:Nat) {x res:Int×PS},qIC G least m x res→qIC G' least m x res
 |0,x,res,ht=>ht
 |m+1,x,res,ht=>by
  unfold qIC at ht⊢
  split
  ·rename_i hc;rw [if_pos hc] at ht;exact ht
  ·rename_i hc
   rw [if_neg hc] at ht
   obtain ⟨g,h1,h2⟩:=ht
   exact ⟨g,Nat.le_trans h h1,qLg h m h2⟩
theorem qKt {G:Nat} {least:Int}:∀(m:Nat) {x res:Int×PS},x.2.2.1=true→qIC G least m x res→res.2.2.1=true
 |0,x,res,hb,ht=>by unfold qIC at ht;rw [ht];exact hb
 |m+1,x,res,hb,ht=>by
  unfold qIC at ht
  split at ht
  ·rw [ht];exact hb
  ·obtain ⟨g,_,h2⟩:=ht
   exact qKt m (qLf g _ _ hb) h2
theorem qOL {G:Nat} {l:Nat} (hl0:1≤l) {g:Nat} (hg:G≤g):∀(m:Nat) {x y:Int×PS},l≤m→qIC G ((l:Int)+1) m x y→qIC G (l:Int) m x (sP g (.rl (l:Int) y.1) y.2)
 |0,x,y,hl,ht=>by omega
 |m+1,x,y,hl,ht=>by
  unfold qIC at ht⊢
  rw [if_neg (by omega)]
  by_cases e:l=m+1
  ·subst e
   rw [if_pos (by omega)] at ht
   subst ht
   refine ⟨g,hg,?_⟩
   have key:∀{z:Int×PS},qIC G ((m+1:Nat):Int) m z z:=fun {z}=>by
    cases m with
    |zero=>rfl
    |succ k=>unfold qIC;rw [if_pos (by omega)]
   exact key
  ·rw [if_neg (by omega)] at ht
   obtain ⟨g',h1,h2⟩:=ht
   exact ⟨g',h1,qOL hl0 hg m (by omega) h2⟩
theorem qPJ {G:Nat} {q:PS} (hq:q.2.1=false):∀(k:Nat),k≤4→∀g,G+k≤g→∃g5,G≤g5∧qIC G (5-(k:Int)) 4 (sP g5 (.row 5) q) (sP g (.row (5-(k:Int))) q)
 |0,_,g,hg=>⟨g,hg,by
  unfold qIC
  rw [if_pos (by decide)]
  simp⟩
 |k+1,hk,0,hg=>by omega
 |k+1,hk,g+1,hg=>by
  obtain ⟨g5,h1,h2⟩:=qPJ (G:=G) hq k (by omega) g (by omega)
  refine ⟨g5,h1,?_⟩
  have e:(5-((k+1:Nat):Int))=((4-k:Nat):Int):=by omega
  have e1:(5-(k:Int))=((4-k:Nat):Int)+1:=by omega
  rw [e1] at h2
  rw [e]
  have:=qOL (G:=G) (l:=4-k) (by omega) (g:=g) (by omega) 4 (by omega) h2
  have e2:sP (g+1) (.row ((4-k:Nat):Int)) q=sP g (.rl ((4-k:Nat):Int) (sP g (.row (((4-k:Nat):Int)+1)) q).1) (sP g (.row (((4-k:Nat):Int)+1)) q).2:=by
   simp only [sP]
   rw [if_neg (by rw [hq];simp),if_neg (by omega)]
  rw [e2]
  exact this
theorem qQi (H:RdOK) {r:List UInt8} (h:r.head?=some 35):∀(k:Nat) (n:Int),1≤n→n+k≤6→qPG r.tail n k=qHz r n k
 |0,n,_,_=>rfl
 |k+1,n,h1,h2=>by
  obtain ⟨t,ht⟩:=H.n n ⟨h1,by omega⟩
  cases r with
  |nil=>cases h
  |cons c r=>
   simp only [List.head?_cons,Option.some.injEq] at h
   subst h
   simp only [qPG,qHz,ht,List.tail_cons]
   have ih:=qQi H (r:=35::r) rfl k (n+1) (by omega) (by omega)
   simp only [List.tail_cons] at ih
   rw [ih]
   simp [List.isPrefixOf]
theorem qPK {r:List UInt8}:∀(k:Nat) (n:Int) {m:Int},qHz r n k=some m→n≤m∧m<n+k
 |0,n,m,h=>by cases h
 |k+1,n,m,h=>by
  simp only [qHz] at h
  split at h
  ·simp only [Option.some.injEq] at h;omega
  ·have:=qPK k (n+1) h;omega
theorem qEJ (c:UInt8) (r:List UInt8):([c].isPrefixOf r=true)↔r.head?=some c:=by
 cases r with
 |nil=>simp [List.isPrefixOf]
 |cons d t=>simp [List.isPrefixOf];exact eq_comm
theorem qKu {c:UInt8} {q:PS} (hb:q.2.1=false):(sIs [c] q).1=true↔(tb q.1).head?=some c:=by
 unfold sIs
 rw [if_neg (by rw [hb];simp)]
 split
 ·rename_i h;exact ⟨fun _=>(qEJ c _).1 h,fun _=>rfl⟩
 ·rename_i h;exact ⟨fun e=>(by cases e),fun e=>absurd ((qEJ c _).2 e) h⟩
theorem qPh (r:List UInt8):(wd r).all wch=true:=by
 unfold wd
 induction r with
 |nil=>rfl
 |cons c r ih=>
  by_cases h:wch c=true
  ·simp only [List.takeWhile_cons,h,if_true,List.all_cons,Bool.true_and];exact ih
  ·simp [List.takeWhile_cons,h]
def qQ6 (N:Nat):Prop:=∀(p q:PS) (deep:Int) (f g:Nat),Lk p q→(tb p.1).length=N→0≤deep→deep+N≤400→20*N+4≤f→20*N+5≤g→Sim (pP f (.un deep) p) (sP g (.row 5) q)
def qQ7 (N:Nat):Prop:=∀(m:Nat),m≤4→∀(p q:PS) (deep least a:Int) (f:Nat) (res:Int×PS),Lk p q→(tb p.1).length=N→1≤least→0≤deep→deep+N≤400→20*N+5≤f→
 (qAm (tb p.1)=0∨lvl (qAm (tb p.1))≤m)→qIC (20*N+5) least m (a,q) res→SimP least (pP f (.loop least deep a) p) res
def qQj (N:Nat):Prop:=∀(p q:PS) (deep:Int) (k f g:Nat),k≤4→Lk p q→(tb p.1).length=N→0≤deep→deep+N≤400→20*N+6≤f→20*N+10≤g→SimP (5-(k:Int)) (pP f (.bin (5-(k:Int)) deep) p) (sP g (.row (5-(k:Int))) q)
def qQ8 (N:Nat):Prop:=∀(p q:PS) (deep op:Int) (kids:List Int) (f g:Nat),Lk p q→(tb p.1).length=N→0≤deep→deep+N+1≤400→20*N+8≤f→20*N+12≤g→Sim (pP f (.args op deep kids) p) (sP g (.call op kids) q)
theorem qRv (N:Nat) (hB:∀M,M<N→qQj M) (hT:∀M,M<N→qQ7 M):qQ7 N:=by
 intro m
 induction m with
 |zero=>
  intro hm p q deep least a f res hl hN hle hd hdN hf hpk ht
  have h0:qAm (tb p.1)=0:=by
   rcases hpk with h|h
   ·exact h
   ·have:=(qPg (op:=qAm (tb p.1))).1
    omega
  cases f with
  |zero=>omega
  |succ f=>
   simp only [pP]
   rw [if_neg (by rw [hl.1];simp),if_pos (.inl h0)]
   unfold qIC at ht
   subst ht
   refine .inl ⟨rfl,⟨hl.1,hl.2.1,hl.2.2.1,?_⟩,.inl ?_⟩
   ·simp only;rw [qCC];exact hl.2.2.2
   ·simp only;rw [qCC];exact h0
 |succ m ih=>
  intro hm p q deep least a f res hl hN hle hd hdN hf hpk ht
  unfold qIC at ht
  by_cases hc:(m:Int)+1<least
  ·rw [if_pos hc] at ht
   subst ht
   cases f with
   |zero=>omega
   |succ f=>
    have hst:qAm (tb p.1)=0∨lvl (qAm (tb p.1))<least:=by
     rcases hpk with h|h
     ·exact .inl h
     ·right;push_cast at h;omega
    simp only [pP]
    rw [if_neg (by rw [hl.1];simp),if_pos hst]
    refine .inl ⟨rfl,⟨hl.1,hl.2.1,hl.2.2.1,?_⟩,?_⟩
    ·simp only;rw [qCC];exact hl.2.2.2
    ·unfold qRq;simp only;rw [qCC];exact hst
  ·rw [if_neg hc] at ht
   obtain ⟨g,hg,ht⟩:=ht
   cases g with
   |zero=>omega
   |succ g=>
    have hin:=qQ5 (m:=(m:Int)+1) (by omega) (tb q.1)
    have hpq:tb p.1=tb q.1:=hl.2.2.2
    simp only [sP] at ht
    rw [if_neg (by rw [hl.2.1];simp)] at ht
    have ho:sOp ((m:Int)+1) q=(qDP ((m:Int)+1) (tb q.1) qBx,(if qDP ((m:Int)+1) (tb q.1) qBx=0 then tb q.1 else (tb q.1).drop (qAI (qDP ((m:Int)+1) (tb q.1) qBx)).size),q.2):=by
     unfold sOp;rw [if_neg (by rw [hl.2.1];simp)]
    by_cases hop:qAm (tb q.1)≠0∧lvl (qAm (tb q.1))=(m:Int)+1
    ·rw [if_pos hop] at hin
     rw [hin,if_neg hop.1] at ho
     rw [ho] at ht
     simp only at ht
     rw [if_neg hop.1] at ht
     cases f with
     |zero=>omega
     |succ f=>
      simp only [pP]
      rw [if_neg (by rw [hl.1];simp),if_neg (by rw [hpq];exact fun e=>e.elim (fun e=>hop.1 e) (fun e=>by have:=hop.2;omega))]
      rw [hpq]
      rcases qP4 (tb q.1) with h0|⟨_,_,hsg⟩
      ·exact absurd h0 hop.1
      have hsz:(sgn (tb q.1)).length=(qAI (qAm (tb q.1))).size:=by rw [hsg,qAO]
      have hpos:0<(sgn (tb q.1)).length:=by
       cases hh:sgn (tb q.1) with
       |nil=>
        exfalso
        apply hop.1
        unfold qAm
        rw [hh]
        simp
       |cons c t=>simp
      have hdrop:(tb ((tb q.1).drop (sgn (tb q.1)).length)).length<N:=by
       have h1:=qy ((tb q.1).drop (sgn (tb q.1)).length)
       have h2:(sgn (tb q.1)).length≤(tb q.1).length∨(tb q.1).length<(sgn (tb q.1)).length:=by omega
       rw [List.length_drop] at h1
       have h3:(tb q.1).length=N:=by rw [←hpq];exact hN
       have h4:0<N:=by
        rcases Nat.eq_zero_or_pos N with h|h
        ·exfalso
         rw [h] at h3
         have:tb q.1= []:=List.eq_nil_of_length_eq_zero h3
         apply hop.1
         rw [this];rfl
        ·exact h
       omega
      have hlk:Lk ((tb q.1).drop (sgn (tb q.1)).length,p.2) ((tb q.1).drop (qAI (qAm (tb q.1))).size,q.2):=⟨hl.1,hl.2.1,hl.2.2.1,by simp only;rw [hsz]⟩
      have hb:=hB _ hdrop ((tb q.1).drop (sgn (tb q.1)).length,p.2) ((tb q.1).drop (qAI (qAm (tb q.1))).size,q.2) deep (3-m) f g (by omega) hlk rfl hd (by omega) (by omega) (by omega)
      have e5:(5-((3-m:Nat):Int))=(m:Int)+1+1:=by omega
      rw [e5] at hb
      rw [hop.2]
      have hlenA:=qDK f (.bin ((m:Int)+1+1) deep) ((tb q.1).drop (sgn (tb q.1)).length,p.2)
      generalize pP f (.bin ((m:Int)+1+1) deep) ((tb q.1).drop (sgn (tb q.1)).length,p.2)=A at hb hlenA⊢
      generalize hBB:sP g (.row ((m:Int)+1+1)) ((tb q.1).drop (qAI (qAm (tb q.1))).size,q.2)=B at hb ht
      rcases hb with ⟨b1,b2,b3⟩|⟨b1,b2⟩
      ·rw [b1]
       have hs:=qHd (x:=ndK 5 (qAm (tb q.1)) [a,B.1]) b2
       generalize hC:qCz (ndK 5 (qAm (tb q.1)) [a,B.1]) A.2=C at hs⊢
       generalize qDd (ndK 5 (qAm (tb q.1)) [a,B.1]) B.2=D at hs ht
       rcases hs with ⟨c1,c2⟩|⟨c1,c2⟩
       ·have hrC:C.2.1=A.2.1:=by rw [←hC];exact qAt _ _
        have hN3:(tb C.2.1).length<N:=by
         rw [hrC]
         exact Nat.lt_of_le_of_lt hlenA hdrop
        refine hT _ hN3 (m+1) hm C.2 D.2 deep least C.1 f res c2 rfl hle hd (by omega) (by omega) ?_ ?_
        ·rw [hrC]
         rcases b3 with h|h
         ·exact .inl h
         ·right;push_cast;omega
        ·rw [c1]
         unfold qIC
         rw [if_neg hc]
         exact ⟨g,by omega,qLg (by omega) m ht⟩
       ·exact .inr ⟨qKt _ (qLf g _ _ c1) ht,qCc f _ _ c2⟩
      ·exact .inr ⟨qKt _ (qLf g _ _ (qKs b1)) ht,qCc f _ _ (qCS b2)⟩
    ·rw [if_neg hop] at hin
     rw [hin,if_pos rfl] at ho
     rw [ho] at ht
     simp only at ht
     rw [if_pos trivial] at ht
     refine ih (by omega) p (tb q.1,q.2) deep least a f res ⟨hl.1,hl.2.1,hl.2.2.1,by simp only;rw [qCC];exact hpq⟩ hN hle hd hdN hf ?_ ht
     rw [hpq]
     rw [hpq] at hpk
     by_cases h0:qAm (tb q.1)=0
     ·exact .inl h0
     ·right
      rcases hpk with h|h
      ·exact absurd h h0
      ·have:lvl (qAm (tb q.1))≠(m:Int)+1:=fun e=>hop ⟨h0,e⟩
       push_cast at h
       omega
theorem qQ9 (N:Nat) (hA:qQ6 N) (hT:∀M,M≤N→qQ7 M):qQj N:=by
 intro p q deep k f g hk hl hN hd hdN hf hg
 obtain ⟨g5,hg5,ht⟩:=qPJ (G:=20*N+5) hl.2.1 k hk g (by omega)
 cases f with
 |zero=>omega
 |succ f=>
  simp only [pP]
  have ha:=hA p q deep f g5 hl hN hd hdN (by omega) hg5
  have hlen:=qDK f (.un deep) p
  generalize pP f (.un deep) p=A at ha hlen⊢
  generalize sP g5 (.row 5) q=B at ha ht
  rcases ha with ⟨h1,h2⟩|⟨h1,h2⟩
  ·have hM:(tb A.2.1).length≤N:=by omega
   refine hT _ hM 4 (by omega) A.2 B.2 deep (5-(k:Int)) A.1 f _ h2 rfl (by omega) hd (by omega) (by omega) (.inr ?_) ?_
   ·have:=(qPg (op:=qAm (tb A.2.1))).2;omega
   ·rw [h1];exact qLg (by omega) 4 ht
  ·exact .inr ⟨qKt 4 h1 ht,qCc f _ _ h2⟩
theorem qRA (H:RdOK) (N:Nat) (hB:qQj N) (hC:∀M,M<N→qQ8 M):qQ8 N:=by
 intro p q deep op kids f g hl hN hd hdN hf hg
 cases f with
 |zero=>omega
 |succ f=>
 cases g with
 |zero=>omega
 |succ g=>
 cases g with
 |zero=>omega
 |succ g=>
 have hpq:=hl.2.2.2
 have hpb:¬p.2.1=true:=by rw [hl.1];simp
 have hqb:¬q.2.1=true:=by rw [hl.2.1];simp
 have harg:Sim (qDt (qA7 p) (fun p=>pP f (.bin 1 (deep+1)) p)) (sP (g+1) .arg q)∧(tb (qDt (qA7 p) (fun p=>pP f (.bin 1 (deep+1)) p)).2.1).length≤N:=by
  refine ⟨?_,?_⟩
  ·have hw:Lk (wr (tb p.1),p.2) (wr (tb q.1),q.2):=⟨hl.1,hl.2.1,hl.2.2.1,by rw [hpq]⟩
   obtain ⟨e1,e2⟩:=qI4 (c:=58) (by decide) hw
   simp only [sP]
   unfold qDt qA7
   simp only
   rw [hpq] at e1 e2⊢
   by_cases hc:(qAu (BR (wd (tb q.1)))).2.2.2.2=true∧(qW [58] (wr (tb q.1),p.2)).1=true
   ·rw [if_pos hc,if_pos ⟨hc.1,e1▸hc.2⟩]
    simp only
    rw [e2.2.2.2]
    by_cases h2:(qAu (BR (wd (tb (sIs [58] (wr (tb q.1),q.2)).2.1)))).2.2.2.2=true
    ·rw [if_pos h2,h2]
     simp only [Bool.not_true,Bool.or_false]
     exact qHd ⟨e2.1,e2.2.1,e2.2.2.1,rfl⟩
    ·rw [if_neg h2]
     refine .inr ⟨rfl,qCS (.inl ?_)⟩
     simp only
     have h2:(qAu (BR (wd (tb (sIs [58] (wr (tb q.1),q.2)).2.1)))).2.2.2.2=false:=by simpa using h2
     rw [h2];simp
   ·rw [if_neg hc,if_neg (fun e=>hc ⟨e.1,e1.symm▸e.2⟩)]
    simp only
    have:=hB p (tb q.1,q.2) (deep+1) 4 f g (by omega) ⟨hl.1,hl.2.1,hl.2.2.1,by simp only;rw [qCC];exact hpq⟩ hN (by omega) (by omega) (by omega) (by omega)
    exact this.sim
  ·unfold qDt
   split
   ·rw [qAt];have:=qHC p;omega
   ·have h1:=qDK f (.bin 1 (deep+1)) (qA7 p).2
    have h2:=qHC p
    exact Nat.le_trans h1 (by omega)
 obtain ⟨harg,hal⟩:=harg
 simp only [pP]
 rw [if_neg hpb]
 have hs:sP (g+1+1) (.call op kids) q=(if (sIs [41] (sP (g+1) .arg q).2).1=true then qDd (ndK 6 op (kids++ [(sP (g+1) .arg q).1])) (sIs [41] (sP (g+1) .arg q).2).2
  else sP (g+1) (.call op (kids++ [(sP (g+1) .arg q).1])) (if (sIs [44] (sIs [41] (sP (g+1) .arg q).2).2).1=true then (sIs [44] (sIs [41] (sP (g+1) .arg q).2).2).2 else qKK (sIs [44] (sIs [41] (sP (g+1) .arg q).2).2).2)):=by
  rw [sP]
  rw [if_neg hqb]
 rw [hs]
 generalize qDt (qA7 p) (fun p=>pP f (.bin 1 (deep+1)) p)=Q at harg hal⊢
 generalize sP (g+1) .arg q=A at harg⊢
 rcases harg with ⟨h1,h2⟩|⟨h1,h2⟩
 ·have hb2:=h2.2.1
  obtain ⟨c1,c2⟩:=qI4 (c:=44) (by decide) h2
  have i41:=qKu (c:=41) hb2
  have i44:=qKu (c:=44) hb2
  by_cases hc:(qW [44] Q.2).1=true
  ·rw [if_pos hc]
   have hh:=i44.1 (c1▸hc)
   have n41:¬(sIs [41] A.2).1=true:=fun e=>by rw [i41.1 e] at hh;cases hh
   rw [if_neg n41]
   have e41:(sIs [41] A.2).2=(tb A.2.1,A.2.2):=by
    unfold sIs at n41⊢
    rw [if_neg (by rw [hb2];simp)] at n41⊢
    split
    ·rename_i hx;rw [if_pos hx] at n41;exact absurd rfl n41
    ·rfl
   rw [e41]
   have e44:sIs [44] (tb A.2.1,A.2.2)=sIs [44] A.2:=by unfold sIs;simp only [qCC]
   rw [e44,if_pos (c1▸hc),h1]
   have hlt:=qDJ (w:= [44]) (by simp) hc
   have htb:=qy (qW [44] Q.2).2.1
   exact hC _ (by omega) (qW [44] Q.2).2 (sIs [44] A.2).2 deep op _ f (g+1) c2 rfl hd (by omega) (by omega) (by omega)
  ·rw [if_neg hc]
   have et:(qW [44] Q.2).2=(tb Q.2.1,Q.2.2):=by
    unfold qW at hc⊢
    split
    ·rename_i hx;rw [if_pos hx] at hc;exact absurd rfl hc
    ·rfl
   rw [et]
   have hl2:Lk (tb Q.2.1,Q.2.2) A.2:=⟨h2.1,h2.2.1,h2.2.2.1,by simp only;rw [qCC];exact h2.2.2.2⟩
   have hm:=qPI (c:=41) (by decide) (a:=(A.1,(tb Q.2.1,Q.2.2))) (b:=(A.1,A.2)) (.inl ⟨rfl,hl2⟩)
   by_cases h41:(sIs [41] A.2).1=true
   ·rw [if_pos h41]
    simp only [h41,if_true] at hm
    have:=qPH (fun _=>ndK 6 op (kids++ [A.1])) hm
    rw [h1]
    exact this
   ·rw [if_neg h41]
    have e41:(sIs [41] A.2).2=(tb A.2.1,A.2.2):=by
     unfold sIs at h41⊢
     rw [if_neg (by rw [hb2];simp)] at h41⊢
     split
     ·rename_i hx;rw [if_pos hx] at h41;exact absurd rfl h41
     ·rfl
    have e44:sIs [44] (tb A.2.1,A.2.2)=sIs [44] A.2:=by unfold sIs;simp only [qCC]
    rw [e41,e44,if_neg (c1▸hc)]
    refine .inr ⟨qLf _ _ _ rfl,qCS ?_⟩
    simp only [if_neg h41] at hm
    rcases hm with ⟨_,_,hb,_⟩|⟨_,hdm⟩
    ·simp [qKK] at hb
    ·exact hdm
 ·have e41:sIs [41] A.2=(false,tb A.2.1,A.2.2):=qHc h1
  have e44:sIs [44] (tb A.2.1,A.2.2)=(false,tb (tb A.2.1),A.2.2):=qHc h1
  rw [e41]
  simp only [Bool.false_eq_true,if_false]
  rw [e44]
  simp only [Bool.false_eq_true,if_false]
  refine .inr ⟨qLf _ _ _ rfl,?_⟩
  split
  ·exact qCc f _ _ (qDu h2)
  ·exact qCS (qHB (qDu h2))
theorem qPL {c d:UInt8} (h:c≠d) {r:List UInt8} (hr:r.head?=some c):¬r.head?=some d:=by rw [hr];simpa using h
theorem qRB (H:RdOK) (N:Nat) (hA:∀M,M<N→qQ6 M) (hB:∀M,M<N→qQj M) (hC:∀M,M<N→qQ8 M):qQ6 N:=by
 intro p q deep f g hl hN hd hdN hf hg
 cases f with
 |zero=>omega
 |succ f=>
 cases f with
 |zero=>omega
 |succ f=>
 cases g with
 |zero=>omega
 |succ g=>
 cases g with
 |zero=>omega
 |succ g=>
 have hpq:=hl.2.2.2
 have hpb:¬p.2.1=true:=by rw [hl.1];simp
 have hqb:¬q.2.1=true:=by rw [hl.2.1];simp
 have hq0:=hl.2.1
 have hs:sP (g+1+1) (.row 5) q=sP (g+1) .one q:=by
  rw [sP,if_neg hqb,if_pos rfl]
 rw [hs]
 obtain ⟨e1,e2⟩:=qI4 (c:=45) (by decide) hl
 rw [pP]
 rw [if_neg (by intro e;rcases e with e|e;omega;exact hpb e)]
 by_cases hc:(qW [45] p).1=true
 ·rw [if_pos hc]
  simp only [sP]
  rw [if_pos (e1▸hc)]
  have hlt:=qDJ (w:= [45]) (by simp) hc
  have htb:=qy (qW [45] p).2.1
  exact qPH (fun k=>ndK 4 0 [k]) (hA _ (by omega) _ _ (deep+1) (f+1) g e2 rfl (by omega) (by omega) (by omega) (by omega))
 ·rw [if_neg hc]
  have hp':(qW [45] p).2=(tb p.1,p.2):=by
   unfold qW at hc⊢
   split
   ·rename_i hx;rw [if_pos hx] at hc;exact absurd rfl hc
   ·rfl
  have hq':(sIs [45] q).2=(tb q.1,q.2):=by
   have hc:¬(sIs [45] q).1=true:=e1▸hc
   unfold sIs at hc⊢
   rw [if_neg hqb] at hc⊢
   split
   ·rename_i hx;rw [if_pos hx] at hc;exact absurd rfl hc
   ·rfl
  rw [hp']
  simp only [sP]
  rw [if_neg (e1▸hc),hq']
  simp only [pP,qCC]
  have hl2:Lk (tb p.1,p.2) (tb q.1,q.2):=⟨hl.1,hl.2.1,hl.2.2.1,by simp only [qCC];exact hpq⟩
  obtain ⟨f1,f2⟩:=qI4 (c:=40) (by decide) hl2
  have i40:=qKu (c:=40) (q:=(tb q.1,q.2)) hq0
  have i34:=qKu (c:=34) (q:=(tb q.1,q.2)) hq0
  have i35:=qKu (c:=35) (q:=(tb q.1,q.2)) hq0
  simp only [qCC] at i40 i34 i35
  rw [hpq] at hN f1 f2⊢
  by_cases h34:(tb q.1).head?=some 34
  ·rw [if_pos h34,if_neg (fun e=>qPL (by decide) h34 (i40.1 e)),if_pos (i34.2 h34)]
   have es:(sIs [34] (tb q.1,q.2)).2.1=(tb q.1).tail:=by
    have:=i34.2 h34
    unfold sIs at this⊢
    rw [if_neg hqb] at this⊢
    simp only [qCC] at this⊢
    split
    ·simp
    ·rename_i hx;rw [if_neg hx] at this;cases this
   rw [es]
   cases hqr:qBu [] (tb q.1).tail with
   |none=>exact .inr ⟨rfl,.inl rfl⟩
   |some st=>
    obtain ⟨s,t⟩:=st
    exact qHd ⟨hl.1,hl.2.1,hl.2.2.1,rfl⟩
  ·rw [if_neg h34]
   by_cases h35:(tb q.1).head?=some 35
   ·rw [if_pos h35,if_neg (fun e=>qPL (by decide) h35 (i40.1 e)),if_neg (fun e=>h34 (i34.1 e)),if_pos (i35.2 h35)]
    have es:(sIs [35] (tb q.1,q.2)).2.1=(tb q.1).tail:=by
     have:=i35.2 h35
     unfold sIs at this⊢
     rw [if_neg hqb] at this⊢
     simp only [qCC] at this⊢
     split
     ·simp
     ·rename_i hx;rw [if_neg hx] at this;cases this
    rw [es,qQi H h35 5 1 (by omega) (by omega)]
    cases he:qHz (tb q.1) 1 5 with
    |some n=>
     simp only
     obtain ⟨t,ht⟩:=H.n n (by have:=qPK 5 1 he;omega)
     have hsz:(qe n).size=t.length+1:=by rw [←qAO,ht];rfl
     refine qHd ⟨hl.1,hl.2.1,hl.2.2.1,?_⟩
     simp only
     rw [hsz]
     cases hr:tb q.1 with
     |nil=>rw [hr] at h35;cases h35
     |cons c r=>rfl
    |none=>
     simp only
     rw [if_neg (fun e=>e.1 h35)]
     have hw:wd (tb q.1)= []:=by
      cases hr:tb q.1 with
      |nil=>rw [hr] at h35;cases h35
      |cons c r=>
       rw [hr] at h35
       simp only [List.head?_cons,Option.some.injEq] at h35
       subst h35
       rfl
     rw [hw,if_neg (fun e=>H.v0 e.2),if_neg (by rw [H.p0];simp),H.f0]
     exact .inr ⟨rfl,qEp _⟩
   ·rw [if_neg h35]
    simp only
    by_cases h40:(qW [40] (tb q.1,p.2)).1=true
    ·rw [if_pos ⟨h35,h40⟩,if_pos (f1▸h40)]
     have hlt:=qDJ (w:= [40]) (by simp) h40
     simp only [qCC] at hlt
     have htb:=qy (qW [40] (tb q.1,p.2)).2.1
     have hb:=(hB _ (by omega) _ _ (deep+1) 4 f g (by omega) f2 rfl (by omega) (by omega) (by omega) (by omega)).sim
     have e5:(5-((4:Nat):Int))=1:=by omega
     rw [e5] at hb
     exact qPI (by decide) hb
    ·have n40:¬(sIs [40] (tb q.1,q.2)).1=true:=f1▸h40
     have n34:¬(sIs [34] (tb q.1,q.2)).1=true:=fun e=>h34 (i34.1 e)
     have n35:¬(sIs [35] (tb q.1,q.2)).1=true:=fun e=>h35 (i35.1 e)
     rw [if_neg (fun e=>h40 e.2),if_neg n40,if_neg n34,if_neg n35]
     have hl3:Lk (wr (tb q.1),p.2) (wr (tb q.1),q.2):=⟨hl.1,hl.2.1,hl.2.2.1,rfl⟩
     cases hfn:qFH (wd (tb q.1)) 1 10 with
     |some op=>
      simp only
      obtain ⟨z1,z2⟩:=H.f _ _ hfn
      rw [if_neg (by rw [z1];simp),if_neg (by rw [z2];simp)]
      have hne:1≤(wd (tb q.1)).length:=by
       cases hw:wd (tb q.1) with
       |nil=>rw [hw,H.f0] at hfn;cases hfn
       |cons c t=>simp
      have hlen:(wr (tb q.1)).length+1≤N:=by
       have:=congrArg List.length (wdr (tb q.1))
       simp only [List.length_append] at this
       omega
      obtain ⟨k1,k2⟩:=qI4 (c:=40) (by decide) hl3
      cases f with
      |zero=>omega
      |succ f=>
       simp only [pP]
       by_cases ht:(sIs [40] (wr (tb q.1),q.2)).1=true
       ·rw [if_pos ht]
        have em:qB5 [40] (wr (tb q.1),p.2)=(qW [40] (wr (tb q.1),p.2)).2:=by
         unfold qB5
         rw [if_neg hpb,if_pos (k1▸ht)]
        rw [em]
        have hlt:=qDJ (w:= [40]) (by simp) (k1.symm▸ht)
        have h2:=qy (wr (tb q.1))
        have h3:=qy (qW [40] (wr (tb q.1),p.2)).2.1
        simp only at hlt
        exact hC _ (by omega) _ _ deep op [] f g k2 rfl hd (by omega) (by omega) (by omega)
       ·rw [if_neg ht]
        have em:qB5 [40] (wr (tb q.1),p.2)=qPf (qW [40] (wr (tb q.1),p.2)).2:=by
         unfold qB5
         rw [if_neg hpb,if_neg (k1▸ht)]
        rw [em]
        exact .inr ⟨rfl,qCc f _ _ (qEp _)⟩
     |none=>
      simp only
      by_cases hw0:wd (tb q.1)= []
      ·rw [hw0,if_neg (fun e=>H.v0 e.2),if_neg (by rw [H.p0];simp),if_neg (fun e=>e.2 rfl),if_neg (by rw [H.p0];simp)]
       exact .inr ⟨rfl,qEp _⟩
      ·by_cases hv:(qf (BR (wd (tb q.1)))).2.2.2=true
       ·rw [if_pos ⟨hv,H.v _ (qPh _) hw0 hv⟩,if_pos ⟨hv,hw0⟩]
        exact qHd hl3
       ·have nv1:¬((qf (BR (wd (tb q.1)))).2.2.2=true∧((qf (BR (wd (tb q.1)))).1=1∨(qf (BR (wd (tb q.1)))).1=3)):=fun e=>hv e.1
        have nv2:¬((qf (BR (wd (tb q.1)))).2.2.2=true∧wd (tb q.1)≠ []):=fun e=>hv e.1
        rw [if_neg nv1,if_neg nv2]
        by_cases hp:(qAu (BR (wd (tb q.1)))).2.2.2.2=true
        ·rw [if_pos hp,if_pos hp]
         exact qHd hl3
        ·rw [if_neg hp,if_neg hp]
         exact .inr ⟨rfl,qEp _⟩
theorem qRC (H:RdOK) (N:Nat):qQ6 N∧qQ7 N∧qQj N∧qQ8 N:=by
 induction N using Nat.strongRecOn with
 |ind N ih=>
  have hA:=qRB H N (fun M h=>(ih M h).1) (fun M h=>(ih M h).2.2.1) (fun M h=>(ih M h).2.2.2)
  have hT:=qRv N (fun M h=>(ih M h).2.2.1) (fun M h=>(ih M h).2.1)
  have hB:=qQ9 N hA (fun M h=>(Nat.lt_or_eq_of_le h).elim (fun h=>(ih M h).2.1) (fun h=>h▸hT))
  exact ⟨hA,hT,hB,qRA H N hB (fun M h=>(ih M h).2.2.2)⟩
theorem qAJ (r:List UInt8):(BR r).toList=r:=qBn r
theorem qb (r:List UInt8):(BR r).size=r.length:=by rw [←qAO,qAJ]
theorem qH0 (s:ByteArray):BR s.toList=s:=qEG (qAJ _)
theorem qE1 (r:List UInt8) (a b:Nat):(BR r).extract a b=BR ((r.take b).drop a):=by
 refine qEG ?_
 rw [qAJ,Go.Lib.toList_data,ByteArray.data_extract,Array.toList_extract]
 simp [BR,List.extract_eq_take_drop,List.drop_take]
theorem qLh (a b:List UInt8):BR a++BR b=BR (a++b):=by
 refine qEG ?_
 rw [qAJ,Go.Lib.toList_data]
 simp [BR]
theorem qRP:∀i:Fin 256,((⟨#[32]⟩:ByteArray).data.toList.contains (UInt8.ofNat i.val))=(UInt8.ofNat i.val==32):=by decide+kernel
def wcS:ByteArray:=⟨#[65,66,67,68,69,70,71,72,73,74,75,76,77,78,79,80,81,82,83,84,85,86,87,88,89,90,48,49,50,51,52,53,54,55,56,57,36]⟩
theorem qRQ:∀i:Fin 256,(wcS.data.toList.contains (UInt8.ofNat i.val))=wch (UInt8.ofNat i.val):=by decide+kernel
theorem qPi {f g:UInt8→Bool} (h:∀i:Fin 256,f (UInt8.ofNat i.val)=g (UInt8.ofNat i.val)) (c:UInt8):f c=g c:=by
 have h:=h ⟨c.toNat,UInt8.toNat_lt c⟩
 have e:UInt8.ofNat c.toNat=c:=by simp
 simp only [e] at h
 exact h
theorem qQL (r:List UInt8):Ev (qA9 · (BR r) ⟨#[32]⟩) (BR (tb r)):=by
 refine ⟨1,fun n hn=>?_⟩
 obtain ⟨m,rfl,hm⟩:=up1 hn
 show zN (BR r) ⟨#[32]⟩=_
 unfold zN
 rw [if_pos ⟨by decide,by decide+kernel⟩]
 unfold Lib.trimLeftS tb
 have:(fun c=>(⟨#[32]⟩:ByteArray).data.toList.contains c)=(fun c=>c==32):=funext (qPi qRP)
 rw [this]
 rfl
theorem qQM (r:List UInt8):Ev (qA9 · (BR r) ⟨#[65,66,67,68,69,70,71,72,73,74,75,76,77,78,79,80,81,82,83,84,85,86,87,88,89,90,48,49,50,51,52,53,54,55,56,57,36]⟩) (BR (wr r)):=by
 refine ⟨1,fun n hn=>?_⟩
 obtain ⟨m,rfl,hm⟩:=up1 hn
 show zN (BR r) wcS=_
 unfold zN
 rw [if_pos ⟨by decide,by decide+kernel⟩]
 unfold Lib.trimLeftS wr
 have:(fun c=>wcS.data.toList.contains c)=wch:=funext (qPi qRQ)
 rw [this]
 rfl
theorem qGP (r:List UInt8) (m:Nat) (b:Bool) (rows:List (List PV)):Ev (qAq · (BR r) m b rows) (BR (tb r),m,b,rows):=by
 obtain ⟨n1,h1⟩:=qQL r
 refine ⟨n1+1,fun n hn=>?_⟩
 obtain ⟨m,rfl,hm⟩:=up1 hn
 have h1:=h1 m (by omega)
 dsimp only at h1
 simp only [qAq,qDC,qC,qE,qG,qH,qJ,qK,Option.bind_some,qF,qM,qN,h1]
theorem qBP (m:Nat) (s w:List UInt8):qj (m+2) (BR s) (BR w)=some (w.isPrefixOf s):=by
 simp only [qj,qBr,qz,qAo,qC,qE,qG,qH,qJ,qK,Option.bind_some,qF,qM,qN,qb,qE1,qAJ]
 by_cases h:w.length≤s.length
 ·have h1:((s.length:Nat):Int)≥((w.length:Nat):Int):=by omega
  simp [h1,h,List.isPrefixOf_iff_prefix,List.prefix_iff_eq_take]
  by_cases e:w=s.take w.length
  ·simp [←e,List.isPrefixOf_iff_prefix.2 (List.prefix_iff_eq_take.2 e)]
  ·have e2:¬s.take w.length=w:=fun h=>e h.symm
   have e3:w.isPrefixOf s=false:=by
    rw [Bool.eq_false_iff]
    intro hp
    exact e (List.prefix_iff_eq_take.1 (List.isPrefixOf_iff_prefix.1 hp))
   simp [e2,e3]
 ·have h1:¬((s.length:Nat):Int)≥((w.length:Nat):Int):=by omega
  have e3:w.isPrefixOf s=false:=by
   rw [Bool.eq_false_iff]
   intro hp
   exact h (List.isPrefixOf_iff_prefix.1 hp).length_le
  simp [h1,e3]
theorem qPj (s w:List UInt8):Ev (qj · (BR s) (BR w)) (w.isPrefixOf s):=by
 refine ⟨2,fun n hn=>?_⟩
 obtain ⟨m,rfl,hm⟩:=up1 hn
 obtain ⟨m,rfl,hm⟩:=up1 hm
 exact qBP m s w
def qPM:List (List PV):=qDr.map fun w=> [PV.s (BR w)]
theorem qOM {n:Nat} {r:List UInt8} (m:Nat) (b:Bool) (rows:List (List PV)) (h:∀w∈qDr,qj n (BR r) (BR w)=some (w.isPrefixOf r)):
  ∀(k i M:Nat),i+k=15→k+1≤M→zC (qB7 n) M (15,15,(i:Int),qPM,BR r,m,b,rows)=some (match (qDr.drop i).find? (fun w=>w.isPrefixOf r) with|some w=> .inl (BR w,BR r,m,b,rows)|none=> .inr (BR r,m,b,rows))
 |k,i,0,h1,h2=>by omega
 |0,i,M+1,h1,h2=>by
  have hi:i=15:=by omega
  subst hi
  rw [qP (r:= .inr (BR r,m,b,rows)) (by simp [qB7,qC,qE,qG,qH,qJ,qK,Option.bind_some,qF,qM,qN])]
  rfl
 |k+1,i,M+1,h1,h2=>by
  have hi:i<qDr.length:=by simp [qDr];omega
  obtain ⟨w,hw⟩:∃w,qDr[i]?=some w:=⟨_,List.getElem?_eq_getElem hi⟩
  have hR:qPM[i]?=some [PV.s (BR w)]:=by simp [qPM,List.getElem?_map,hw]
  have hl:qPM.length=15:=rfl
  have hc:zc [PV.s (BR w)] 0=some (BR w):=rfl
  have hp:=h w (List.mem_of_getElem? hw)
  have hd:qDr.drop i=w::qDr.drop (i+1):=qC1 hw
  have w5:IntKind.i64.wrap ((i:Int)+1)=((i+1:Nat):Int):=by rw [qa (by omega)];omega
  rw [hd]
  simp only [List.find?_cons]
  cases hq:w.isPrefixOf r with
  |true=>
   rw [qP (r:= .inl (BR w,BR r,m,b,rows)) (by
    refine qD (by simp;omega) (qD (by simp [hl];omega) (qA hR (qA hc (qA (hp.trans (congrArg some hq)) (qD rfl rfl))))))]
  |false=>
   rw [qT (v':=(15,15,((i+1:Nat):Int),qPM,BR r,m,b,rows)) (by
    refine qD (by simp;omega) (qD (by simp [hl];omega) (qA hR (qA hc (qA (hp.trans (congrArg some hq)) (qO rfl ?_)))))
    rw [w5];rfl)]
   exact qOM m b rows h k (i+1) M (by omega) (by omega)
theorem qLi (r:List UInt8) (m:Nat) (b:Bool) (rows:List (List PV)):Ev (qBb · (BR r) m b rows) (BR (sgn (tb r)),BR (tb r),m,b,rows):=by
 obtain ⟨n1,h1⟩:=qGP r m b rows
 obtain ⟨n2,h2⟩:=qB9 (F:=fun w n=>qj n (BR (tb r)) (BR w)) (f:=fun w=>w.isPrefixOf (tb r)) qDr (fun w _=>qPj (tb r) w)
 refine ⟨n1+n2+30,fun n hn=>?_⟩
 obtain ⟨k,rfl,hm⟩:=up1 hn
 have h1:=h1 k (by omega)
 have lp:=qOM m b rows (h2 k (by omega)) 15 0 k rfl (by omega)
 refine qA h1 (qA lp ?_)
 simp only [List.drop_zero]
 unfold sgn
 cases hq:qDr.find? (fun w=>w.isPrefixOf (tb r)) with
 |some w=>rfl
 |none=>rfl
theorem qP5 (r:List UInt8):sgn r<+:r:=by
 unfold sgn
 split
 ·rename_i w hw
  have:=List.find?_some hw
  exact List.isPrefixOf_iff_prefix.1 (by simpa using this)
 ·exact List.nil_prefix
theorem qON (w r:List UInt8) (m:Nat) (b:Bool) (rows:List (List PV)):Ev (ql · (BR w) (BR r) m b rows) (decide (sgn (tb r)=w),BR (if sgn (tb r)=w then (tb r).drop w.length else tb r),m,b,rows):=by
 obtain ⟨n1,h1⟩:=qLi r m b rows
 refine ⟨n1+1,fun n hn=>?_⟩
 obtain ⟨k,rfl,hm⟩:=up1 hn
 refine qA (h1 k (by omega)) ?_
 by_cases h:sgn (tb r)=w
 ·have hp:=(qP5 (tb r)).length_le
  rw [h] at hp
  refine qO (by simp [qAJ,h]) (qD (by simp [qb];omega) ?_)
  rw [qC,qb,qb,qE1]
  simp [h]
 ·refine qD (by simp [qAJ,h]) ?_
  rw [qC]
  simp [h]
theorem qQN (r:List UInt8) (m:Nat) (b:Bool) (rows:List (List PV)) (hr:r.length≤1000):Ev (qBA · (BR r) m b rows) (BR (wd (tb r)),BR (wr (tb r)),m,b,rows):=by
 obtain ⟨n1,h1⟩:=qGP r m b rows
 obtain ⟨n2,h2⟩:=qQM (tb r)
 refine ⟨n1+n2+1,fun n hn=>?_⟩
 obtain ⟨k,rfl,hm⟩:=up1 hn
 have hb:=qy r
 have hw:=qF0 (tb r)
 have hsum:=congrArg List.length (wdr (tb r))
 simp only [List.length_append] at hsum
 have e:IntKind.i64.wrap (((tb r).length:Int)-((wr (tb r)).length:Int))=((wd (tb r)).length:Int):=by rw [qa (by omega)];omega
 refine qA (h1 k (by omega)) (qA (h2 k (by omega)) ?_)
 simp only [qb,e]
 refine qD (by simp;omega) (qD (by simp;omega) ?_)
 rw [qC]
 have t1:(wd (tb r)++wr (tb r)).take (wd (tb r)).length=wd (tb r):=List.take_left ..
 have t2:(wd (tb r)++wr (tb r)).drop (wd (tb r)).length=wr (tb r):=List.drop_left ..
 rw [wdr] at t1 t2
 simp [qE1,t1,t2]
def qEq (p:PS):ByteArray×Nat×Bool×List (List PV):=(BR p.1,p.2.2.length,p.2.1,p.2.2.map qZ)
def qF5 (r:Int×PS):Int×ByteArray×Nat×Bool×List (List PV):=(r.1,BR r.2.1,r.2.2.2.length,r.2.2.1,r.2.2.2.map qZ)
def qN4 (c:Nd):Prop:=(kd c).length≤2000∧c.2.2.2.2.1.size≤2000
structure Gd (p:PS):Prop where
 r:p.1.length≤1000
 n:p.2.2.length≤60
 s:∀x∈p.2.2,qN4 x
theorem qLj (x:Nd) (p:PS) (h:p.2.2.length≤60):Ev (qm · x.1 x.2.1 x.2.2.1 x.2.2.2.1 x.2.2.2.2.1 x.2.2.2.2.2.1 x.2.2.2.2.2.2.1 x.2.2.2.2.2.2.2.1 x.2.2.2.2.2.2.2.2.1 x.2.2.2.2.2.2.2.2.2.1 x.2.2.2.2.2.2.2.2.2.2.1 x.2.2.2.2.2.2.2.2.2.2.2.1 x.2.2.2.2.2.2.2.2.2.2.2.2.1 ((kd x).map qA1) (BR p.1) p.2.2.length p.2.1 (p.2.2.map qZ)) (qF5 (qCz x p)):=by
 obtain ⟨r,b,l⟩:=p
 refine ⟨1,fun n hn=>?_⟩
 obtain ⟨m,rfl,hm⟩:=up1 hn
 replace h:l.length≤60:=h
 show qm (m+1) _ _ _ _ _ _ _ _ _ _ _ _ _ _ (BR r) l.length b (l.map qZ)=_
 unfold qCz
 have w1:IntKind.i64.wrap (((l.length:Nat):Int)-1)=(l.length:Int)-1:=qa (by omega)
 have w2:IntKind.i64.wrap ((((l.length+1):Nat):Int)-1)=(l.length:Int):=by rw [qa (by omega)];omega
 cases b with
 |true=>
  rw [if_pos (.inl rfl)]
  refine qD rfl (qO rfl ?_)
  rw [qC,w1]
  rfl
 |false=>
  by_cases h6:60≤l.length
  ·rw [if_pos (.inr h6)]
   have d:decide (((l.length:Nat):Int)≥60)=true:=decide_eq_true (by omega)
   refine qO rfl (qO (by rw [d];rfl) ?_)
   rw [qC,w1,d]
   rfl
  ·have hn:¬(((r,false,l):PS).2.1=true∨60≤((r,false,l):PS).2.2.length):=by
    intro hh
    rcases hh with hh|hh
    ·exact absurd hh (by simp)
    ·exact h6 hh
   rw [if_neg hn]
   have d:decide (((l.length:Nat):Int)≥60)=false:=decide_eq_false (by omega)
   refine qO rfl (qD (by rw [d];rfl) (qD rfl (qD (decide_eq_true ⟨by simp,by decide,by decide,by simp;omega,rfl⟩) ?_)))
   rw [qC,w2,d]
   simp only [qF5,List.map_append,List.length_append]
   rfl
theorem qIv (v:V3) (p:PS) (h:p.2.2.length≤60):Ev (qh · v.1 v.2.1 v.2.2 (BR p.1) p.2.2.length p.2.1 (p.2.2.map qZ)) (qF5 (qCz (nd1 v) p)):=by
 obtain ⟨n1,h1⟩:=qLj (nd1 v) p h
 refine ⟨n1+1,fun n hn=>?_⟩
 obtain ⟨k,rfl,hm⟩:=up1 hn
 exact qA (h1 k (by omega)) rfl
theorem qF1 {x:Nd} {p:PS} (h:Gd p) (hx:qN4 x):Gd (qCz x p).2:=by
 unfold qCz
 split
 ·exact ⟨h.r,h.n,h.s⟩
 ·rename_i hh
  refine ⟨h.r,?_,fun y hy=>?_⟩
  ·have:¬60≤p.2.2.length:=fun e=>hh (.inr e)
   simp;omega
  ·simp at hy
   rcases hy with hy|rfl
   ·exact h.s _ hy
   ·exact hx
theorem qCT {w:List UInt8} {p:PS} (h:Gd p):Gd (qW w p).2:=by
 have:=qHb w p
 have h2:=qy p.1
 have h3:=h.r
 refine ⟨by omega,?_,?_⟩
 ·unfold qW;split<;>exact h.n
 ·unfold qW;split<;>exact h.s
theorem qFI (w:List UInt8) (p:PS):Ev (ql · (BR w) (BR p.1) p.2.2.length p.2.1 (p.2.2.map qZ)) ((qW w p).1,qEq (qW w p).2):=by
 obtain ⟨n1,h1⟩:=qON w p.1 p.2.2.length p.2.1 (p.2.2.map qZ)
 refine ⟨n1,fun n hn=>?_⟩
 have h1:=h1 n hn
 unfold qW
 by_cases h:sgn (tb p.1)=w
 ·simp only [h,if_true,decide_true] at h1
  rw [if_pos h];exact h1
 ·simp only [h,if_false,decide_false] at h1
  rw [if_neg h];exact h1
theorem qOr (p:PS) (h:p.1.length≤1000):Ev (qBA · (BR p.1) p.2.2.length p.2.1 (p.2.2.map qZ)) (BR (wd (tb p.1)),qEq (wr (tb p.1),p.2)):=qQN p.1 _ _ _ h
theorem qOs (r:List UInt8):(wd r).length≤r.length:=by
 have:=congrArg List.length (wdr r)
 simp only [List.length_append] at this
 omega
theorem qQk (r:List UInt8) (h:r.length≤1000):Ev (qAc · (BR (wd (tb r)))) (qAu (BR (wd (tb r)))):=qKn _ (by rw [qb];have:=qOs (tb r);have:=qy r;omega)
theorem qRr (r:List UInt8) (h:r.length≤1000):Ev (qd · (BR (wd (tb r)))) (qf (BR (wd (tb r)))):=qGL _ (by rw [qb];have:=qOs (tb r);have:=qy r;omega)
theorem qPN (c:UInt8) (t:List UInt8):Lib.cut (c::t) [34]=if c=34 then ([],t,true) else (c::(Lib.cut t [34]).1,(Lib.cut t [34]).2.1,(Lib.cut t [34]).2.2):=by
 by_cases h:c=34
 ·subst h
  rw [if_pos rfl]
  simp [Lib.cut,Lib.index,List.isPrefixOf]
 ·rw [if_neg h]
  have h':¬34=c:=fun e=>h e.symm
  have g:=Lib.index_ge t [34]
  unfold Lib.cut
  by_cases e:Lib.index t [34]= -1
  ·have:Lib.index (c::t) [34]= -1:=by simp [Lib.index,List.isPrefixOf,h',e]
   simp [this,e]
  ·have:Lib.index (c::t) [34]=Lib.index t [34]+1:=by simp [Lib.index,List.isPrefixOf,h',e]
   have p:0≤Lib.index t [34]:=by omega
   have p1:0≤Lib.index t [34]+1:=by omega
   have q:(Lib.index t [34]+1).toNat=(Lib.index t [34]).toNat+1:=by omega
   simp [this,p,p1,q]
theorem qRR (acc t:List UInt8):qBu acc (34::34::t)=qBu (acc++ [34]) t:=(qBu.eq_def acc _).trans (by simp)
theorem qRS (acc t:List UInt8) (h:t.head?≠some 34):qBu acc (34::t)=some (acc,t):=by
 refine (qBu.eq_def acc _).trans ?_
 cases t with
 |nil=>simp
 |cons d t=>
  have:¬d=34:=fun e=>h (by rw [e];rfl)
  simp [this]
theorem qRT (acc t:List UInt8) {c:UInt8} (h:¬c=34):qBu acc (c::t)=qBu (acc++ [c]) t:=(qBu.eq_def acc _).trans (by simp only [if_neg h])
theorem up3 {n n0:Nat} (h:n0+3≤n):∃m,n=m+3∧n0≤m:=⟨n-3,by omega,by omega⟩
theorem qOO:∀(r acc:List UInt8),qBu acc r=if (Lib.cut r [34]).2.2=true then (if (Lib.cut r [34]).2.1.head?=some 34 then qBu (acc++(Lib.cut r [34]).1++ [34]) (Lib.cut r [34]).2.1.tail else some (acc++(Lib.cut r [34]).1,(Lib.cut r [34]).2.1)) else none
 | [],acc=>by simp [qBu,Lib.cut,Lib.index]
 |c::t,acc=>by
  rw [qPN]
  by_cases h:c=34
  ·subst h
   rw [if_pos rfl]
   by_cases e:t.head?=some 34
   ·obtain ⟨u,rfl⟩:∃u,t=34::u:=by
     cases t with
     |nil=>cases e
     |cons d u=>simp at e;subst e;exact ⟨u,rfl⟩
    rw [qRR];simp
   ·rw [qRS acc t e];simp [e]
  ·simp only [if_neg h]
   rw [qRT acc t h,qOO t (acc++ [c])]
   simp
theorem qP6:∀r:List UInt8,(Lib.cut r [34]).1.length+(Lib.cut r [34]).2.1.length≤r.length∧((Lib.cut r [34]).2.2=true→(Lib.cut r [34]).2.1.length<r.length)
 | []=>by simp [Lib.cut,Lib.index]
 |c::t=>by
  rw [qPN]
  have ih:=qP6 t
  split
  ·simp
  ·simp only [List.length_cons]
   exact ⟨by omega,fun h=>by have:=ih.2 h;omega⟩
theorem qF2:∀(k:Nat) (acc r:List UInt8) {s t:List UInt8},r.length≤k→qBu acc r=some (s,t)→s.length≤acc.length+r.length+1
 |k,acc,[],s,t,hk,h=>by simp [qBu] at h
 |0,acc,c::r,s,t,hk,h=>by simp at hk
 |k+1,acc,c::r,s,t,hk,h=>by
  simp only [List.length_cons] at hk
  unfold qBu at h
  split at h
  ·cases r with
   |nil=>
    simp at h
    rw [←h.1];simp;omega
   |cons d r'=>
    simp only at h
    split at h
    ·have:=qF2 k _ r' (by simp at hk;omega) h
     simp at this⊢;omega
    ·simp at h
     rw [←h.1];simp;omega
  ·have:=qF2 k _ r (by omega) h
   simp at this⊢;omega
theorem qRU (m:Nat) (r:List UInt8) (h:r.length≤1000):qGg (m+1) (BR r) ⟨#[34]⟩=some (BR (Lib.cut r [34]).1,BR (Lib.cut r [34]).2.1,(Lib.cut r [34]).2.2):=by
 show zAP (BR r) ⟨#[34]⟩=_
 unfold zAP
 rw [if_pos (by rw [qb];omega),←Go.Lib.toList_data (BR r),qAJ]
 rfl
theorem qLt (n:Nat) (orig:ByteArray) (m:Nat) (b:Bool) (rows:List (List PV)):∀(k:Nat) (r acc:List UInt8) (M:Nat),r.length≤k→acc.length+r.length≤1000→k+1≤M→
  zC (qCl (n+2)) M (BR acc,BR r,orig,m,b,rows)=some (match qBu acc r with
   |none=> .inl (-1,orig,m,true,rows)
   |some (s,t)=> .inr (BR s,BR t,orig,m,b,rows))
 |k,r,acc,0,h1,h2,h3=>by omega
 |k,r,acc,M+1,h1,h2,h3=>by
  have hc:=qRU (n+1) r (by omega)
  have hl:=qP6 r
  have hp:=qBP n (Lib.cut r [34]).2.1 [34]
  rw [qOO]
  cases hf:(Lib.cut r [34]).2.2 with
  |false=>
   rw [if_neg (by simp)]
   refine (qP (r:= .inl (-1,orig,m,true,rows)) ?_).trans rfl
   refine qA hc (qD (by simp [hf]) rfl)
  |true=>
   rw [if_pos rfl]
   have hlt:=hl.2 hf
   by_cases hh:(Lib.cut r [34]).2.1.head?=some 34
   ·rw [if_pos hh]
    have hb:List.isPrefixOf [34] (Lib.cut r [34]).2.1=true:=(qEJ 34 _).2 hh
    obtain ⟨u,hu⟩:∃u,(Lib.cut r [34]).2.1=34::u:=by
     cases e:(Lib.cut r [34]).2.1 with
     |nil=>rw [e] at hh;cases hh
     |cons c u=>rw [e] at hh;simp at hh;subst hh;exact ⟨u,rfl⟩
    rw [hb] at hp
    rw [qT (v':=(BR (acc++(Lib.cut r [34]).1++ [34]),BR (Lib.cut r [34]).2.1.tail,orig,m,b,rows)) (by
     refine qA hc (qO (by simp [hf]) (qD (decide_eq_true (by rw [qb,qb];omega)) (qA hp (qO rfl (qD (decide_eq_true (by rw [qLh,qb,List.length_append];show _+1≤9223372036854775807;omega)) (qD (decide_eq_true ⟨by decide,by simp only [qb];rw [hu];simp;omega,by simp [qb]⟩) ?_))))))
     rw [qC]
     simp only [qLh,qb,qE1]
     rw [hu]
     simp
     exact (qLh (acc++(Lib.cut r [34]).1) [34]).trans (by rw [List.append_assoc]))]
    rw [hu] at hl hlt⊢
    simp only [List.length_cons] at hl hlt
    refine qLt n orig m b rows (k-1) _ _ M (by simp;omega) (by simp;omega) (by omega)
   ·rw [if_neg hh]
    have hb:List.isPrefixOf [34] (Lib.cut r [34]).2.1=false:=by
     rw [Bool.eq_false_iff];intro e;exact hh ((qEJ 34 _).1 e)
    rw [hb] at hp
    refine (qP (r:= .inr (BR (acc++(Lib.cut r [34]).1),BR (Lib.cut r [34]).2.1,orig,m,b,rows)) ?_).trans rfl
    refine qA hc (qO (by simp [hf]) (qD (decide_eq_true (by rw [qb,qb];omega)) (qA hp (qD rfl ?_))))
    rw [qC,qLh]
theorem qQO (t:List UInt8) (b:Bool) (l:List Nd) (h:t.length≤999) (hl:l.length≤60):Ev (qDD · (BR (34::t)) l.length b (l.map qZ)) (qF5 (match qBu [] t with
   |none=>(-1,34::t,true,l)
   |some (s,t')=>qCz (nd1 (2,0,BR s)) (t',b,l))):=by
 have lp:=fun n M (hM:t.length+1≤M)=>qLt n (BR (34::t)) l.length b (l.map qZ) t.length t [] M (Nat.le_refl _) (by simp;omega) hM
 cases hq:qBu [] t with
 |none=>
  refine ⟨t.length+1+3,fun n hn=>?_⟩
  obtain ⟨m,rfl,hm⟩:=up3 hn
  have lp:=lp m (m+2) (by omega)
  rw [hq] at lp
  refine qD (decide_eq_true ⟨by decide,by rw [qb];simp;omega,Int.le_refl _⟩) ?_
  have e:(BR (34::t)).extract ((1:Int)).toNat ((((BR (34::t)).size:Nat):Int)).toNat=BR t:=by rw [qE1,qb];simp
  rw [e]
  exact qA lp rfl
 |some st=>
  obtain ⟨s,t'⟩:=st
  obtain ⟨n1,h1⟩:=qIv (2,0,BR s) (t',b,l) hl
  refine ⟨n1+t.length+1+3,fun n hn=>?_⟩
  obtain ⟨m,rfl,hm⟩:=up3 hn
  have lp:=lp m (m+2) (by omega)
  rw [hq] at lp
  refine qD (decide_eq_true ⟨by decide,by rw [qb];simp;omega,Int.le_refl _⟩) ?_
  have e:(BR (34::t)).extract ((1:Int)).toNat ((((BR (34::t)).size:Nat):Int)).toNat=BR t:=by rw [qE1,qb];simp
  rw [e]
  exact qA lp (qA (h1 (m+2) (by omega)) rfl)
theorem qRD (m:Nat) (r:List UInt8) (w:ByteArray):qAB (m+1) (BR r) w=some (BR (if w.toList.isPrefixOf r=true then r.drop w.size else r),w.toList.isPrefixOf r):=by
 show zY (BR r) w=_
 unfold zY Lib.trimPrefix Lib.hasPrefix
 rw [←Go.Lib.toList_data (BR r),←Go.Lib.toList_data w,qAJ,qAO]
 rfl
theorem qPO {n:Nat} (deep:Int) (r:List UInt8) (b:Bool) (l:List Nd)
  (h1:∀i,0≤i∧i≤5→qAb n i=some (qe i)) (h2:∀i,1≤i∧i≤5→qBi n i=some (4,i,em))
  (h3:∀w,qAB n (BR r) w=some (BR (if w.toList.isPrefixOf r=true then r.drop w.size else r),w.toList.isPrefixOf r))
  (h4:∀i,1≤i∧i≤5→qh n 4 i em (BR (r.drop (qe i).size)) l.length b (l.map qZ)=some (qF5 (qCz (nd1 (4,i,em)) (r.drop (qe i).size,b,l)))):
  ∀(k:Nat) (i:Int) (M:Nat),1≤i→i+k=6→k+1≤M→zC (qBv n) M (deep,i,BR r,l.length,b,l.map qZ)=some (match qHz r i k with
   |some e=> .inl (qF5 (qCz (nd1 (4,e,em)) (r.drop (qe e).size,b,l)))
   |none=> .inr (deep,BR r,l.length,b,l.map qZ))
 |k,i,0,_,_,h=>by omega
 |0,i,M+1,hi,hk,h=>by
  rw [qP (r:= .inr (deep,BR r,l.length,b,l.map qZ)) (by exact qO (decide_eq_false (show ¬i≤5 by omega)) rfl)]
  rfl
 |k+1,i,M+1,hi,hk,h=>by
  have hi5:1≤i∧i≤5:=⟨hi,by omega⟩
  have c:=h3 (qe i)
  cases hq:(qe i).toList.isPrefixOf r with
  |true=>
   rw [hq,if_pos rfl] at c
   unfold qHz
   rw [if_pos hq]
   refine qP (qD (decide_eq_true (show i≤5 by omega)) (qA (h1 i ⟨by omega,by omega⟩) (qA c (qD rfl (qA (h2 i hi5) (qA (h4 i hi5) rfl))))))
  |false=>
   rw [hq,if_neg (by simp)] at c
   unfold qHz
   rw [if_neg (by rw [hq];simp)]
   have w1:IntKind.i64.wrap (i+1)=i+1:=qa (by omega)
   rw [qT (v':=(deep,i+1,BR r,l.length,b,l.map qZ)) (by refine qD (decide_eq_true (show i≤5 by omega)) (qA (h1 i ⟨by omega,by omega⟩) (qA c (qO rfl ?_)));rw [qC,w1])]
   exact qPO deep r b l h1 h2 h3 h4 k (i+1) M (by omega) (by omega) (by omega)
theorem qRV (deep:Int) (r:List UInt8) (b:Bool) (l:List Nd) (hl:l.length≤60):∃n0,∀n,n0≤n→∀M,n0≤M→zC (qBv n) M (deep,1,BR r,l.length,b,l.map qZ)=some (match qHz r 1 5 with
   |some e=> .inl (qF5 (qCz (nd1 (4,e,em)) (r.drop (qe e).size,b,l)))
   |none=> .inr (deep,BR r,l.length,b,l.map qZ)):=by
 obtain ⟨n1,h1⟩:=qFF (F:=qAb) (f:=qe) (lo:=0) (by decide) qEH
 obtain ⟨n2,h2⟩:=qFF (F:=qBi) (f:=fun i=>(4,i,em)) (lo:=1) (by decide) (fun i _=>qJh i)
 obtain ⟨n4,h4⟩:=qFF (F:=fun n i=>qh n 4 i em (BR (r.drop (qe i).size)) l.length b (l.map qZ)) (f:=fun i=>qF5 (qCz (nd1 (4,i,em)) (r.drop (qe i).size,b,l))) (lo:=1) (by decide) (fun i _=>qIv (4,i,em) (r.drop (qe i).size,b,l) hl)
 refine ⟨n1+n2+n4+7,fun n hn M hM=>?_⟩
 exact qPO deep r b l (h1 n (by omega)) (h2 n (by omega)) (fun w=>by
  obtain ⟨m,rfl,_⟩:=up1 (show n1+1≤n by omega)
  exact qRD m r w) (h4 n (by omega)) 5 1 M (by omega) (by omega) (by omega)
theorem qP7 {g:G_impl_reader_binary} {n:Nat} (deep:Int) (w:List UInt8) (p:PS) (res:Int→Int×PS) (h1:∀i,1≤i∧i≤10→qBy n i=some (fnS i)):
  ∀(k:Nat) (i:Int) (M:Nat),1≤i→i+k=11→k+1≤M→(∀op,qFH w i k=some op→g.impl_reader_call op deep (BR p.1) p.2.2.length p.2.1 (p.2.2.map qZ)=some (qF5 (res op)))→
   zC (qAg g n) M (deep,BR w,i,BR p.1,p.2.2.length,p.2.1,p.2.2.map qZ)=some (match qFH w i k with
   |some op=> .inl (qF5 (res op))
   |none=> .inr (qEq p))
 |k,i,0,_,_,h,_=>by omega
 |0,i,M+1,hi,hk,h,_=>by
  rw [qP (r:= .inr (qEq p)) (by exact qO (decide_eq_false (show ¬i≤10 by omega)) rfl)]
  rfl
 |k+1,i,M+1,hi,hk,h,hc=>by
  unfold qFH at hc⊢
  by_cases hq:(fnS i).toList=w
  ·rw [if_pos hq] at hc⊢
   refine qP (qD (decide_eq_true (show i≤10 by omega)) (qA (h1 i ⟨hi,by omega⟩) (qD (by simp [qAJ,hq]) (qA (hc i rfl) rfl))))
  ·rw [if_neg hq] at hc⊢
   have w1:IntKind.i64.wrap (i+1)=i+1:=qa (by omega)
   have hq':¬w=(fnS i).toList:=fun e=>hq e.symm
   rw [qT (v':=(deep,BR w,i+1,BR p.1,p.2.2.length,p.2.1,p.2.2.map qZ)) (by refine qD (decide_eq_true (show i≤10 by omega)) (qA (h1 i ⟨hi,by omega⟩) (qO (by simp [qAJ,hq']) ?_));rw [qC,w1])]
   exact qP7 deep w p res h1 k (i+1) M (by omega) (by omega) (by omega) hc
theorem qRW:∃n0,∀n,n0≤n→∀i,1≤i∧i≤10→qBy n i=some (fnS i):=by
 obtain ⟨n1,h1⟩:=qB9 (F:=fun (i:Nat) n=>qBy n ((i:Int)+1)) (f:=fun i=>fnS ((i:Int)+1)) (List.range 10) (fun i hi=>qIs _ (by have:=List.mem_range.1 hi;omega))
 refine ⟨n1,fun n hn i hi=>?_⟩
 have:=h1 n hn (i-1).toNat (List.mem_range.2 (by omega))
 rwa [show (((i-1).toNat:Nat):Int)+1=i by omega] at this
theorem qRX:∃n0,∀n,n0≤n→∀i,1≤i∧i≤11→qBH n i=some (qAI i):=by
 obtain ⟨n1,h1⟩:=qB9 (F:=fun (i:Nat) n=>qBH n ((i:Int)+1)) (f:=fun i=>qAI ((i:Int)+1)) (List.range 11) (fun i hi=>qFz _ (by have:=List.mem_range.1 hi;omega))
 refine ⟨n1,fun n hn i hi=>?_⟩
 have:=h1 n hn (i-1).toNat (List.mem_range.2 (by omega))
 rwa [show (((i-1).toNat:Nat):Int)+1=i by omega] at this
def opF (s:List UInt8):Int→Int→Nat→Int
 |op,_,0=>op
 |op,i,k+1=>opF s (if s=(qAI i).toList then i else op) (i+1) k
theorem qRY (r:List UInt8):opF (sgn r) 0 1 11=qAm r:=by
 unfold qAm
 generalize sgn r=s
 by_cases h1:s= [43]; · subst h1;decide+kernel
 by_cases h2:s= [45]; · subst h2;decide+kernel
 by_cases h3:s= [42]; · subst h3;decide+kernel
 by_cases h4:s= [47]; · subst h4;decide+kernel
 by_cases h5:s= [38]; · subst h5;decide+kernel
 by_cases h6:s= [61]; · subst h6;decide+kernel
 by_cases h7:s= [60,62]; · subst h7;decide+kernel
 by_cases h8:s= [60]; · subst h8;decide+kernel
 by_cases h9:s= [60,61]; · subst h9;decide+kernel
 by_cases h10:s= [62]; · subst h10;decide+kernel
 by_cases h11:s= [62,61]; · subst h11;decide+kernel
 rw [if_neg h1,if_neg h2,if_neg h3,if_neg h4,if_neg h5,if_neg h6,if_neg h7,if_neg h8,if_neg h9,if_neg h10,if_neg h11]
 rw [←sg1] at h1;rw [←sg2] at h2;rw [←sg3] at h3;rw [←sg4] at h4;rw [←sg5] at h5;rw [←sg6] at h6;rw [←sg7] at h7;rw [←sg8] at h8;rw [←sg9] at h9;rw [←qQg] at h10;rw [←qQh] at h11
 simp only [opF,if_neg h1]
 simp only [show (1:Int)+1=2 from rfl,if_neg h2,show (2:Int)+1=3 from rfl,if_neg h3,show (3:Int)+1=4 from rfl,if_neg h4,show (4:Int)+1=5 from rfl,if_neg h5,show (5:Int)+1=6 from rfl,if_neg h6,show (6:Int)+1=7 from rfl,if_neg h7,show (7:Int)+1=8 from rfl,if_neg h8,show (8:Int)+1=9 from rfl,if_neg h9,show (9:Int)+1=10 from rfl,if_neg h10,show (10:Int)+1=11 from rfl,if_neg h11]
theorem qPP {n:Nat} (least deep a op i:Int) (r R:List UInt8) (m:Nat) (b:Bool) (rows:List (List PV)) (hi:1≤i∧i≤11)
  (h1:qBb n (BR r) m b rows=some (BR (sgn R),BR R,m,b,rows)) (h2:qBH n i=some (qAI i)):
  (qA5 n (least,deep,a,op,i,BR r,m,b,rows)).run=some (.inl (least,deep,a,if sgn R=(qAI i).toList then i else op,i+1,BR R,m,b,rows)):=by
 have w1:IntKind.i64.wrap (i+1)=i+1:=qa (by omega)
 refine qD (decide_eq_true (show i≤11 by omega)) (qA h1 (qA h2 ?_))
 by_cases hq:sgn R=(qAI i).toList
 ·rw [if_pos hq]
  exact qD (by simp [qAJ,hq]) (by rw [qC,w1])
 ·rw [if_neg hq]
  exact qO (by simp [qAJ,hq]) (by rw [qC,w1])
theorem qPQ {n:Nat} (least deep a:Int) (R:List UInt8) (m:Nat) (b:Bool) (rows:List (List PV))
  (h1:qBb n (BR R) m b rows=some (BR (sgn R),BR R,m,b,rows)) (h2:∀i,1≤i∧i≤11→qBH n i=some (qAI i)):
  ∀(k:Nat) (op i:Int) (M:Nat),1≤i→i+k=12→k+1≤M→zC (qA5 n) M (least,deep,a,op,i,BR R,m,b,rows)=some (least,deep,a,opF (sgn R) op i k,BR R,m,b,rows)
 |k,op,i,0,_,_,h=>by omega
 |0,op,i,M+1,hi,hk,h=>by
  rw [qP (r:=(least,deep,a,op,BR R,m,b,rows)) (by exact qO (decide_eq_false (show ¬i≤11 by omega)) rfl)]
  rfl
 |k+1,op,i,M+1,hi,hk,h=>by
  rw [qT (qPP least deep a op i R R m b rows ⟨hi,by omega⟩ h1 (h2 i ⟨hi,by omega⟩))]
  exact qPQ least deep a R m b rows h1 h2 k _ (i+1) M (by omega) (by omega) (by omega)
theorem qRE (least deep a:Int) (r:List UInt8) (m:Nat) (b:Bool) (rows:List (List PV)):∃n0,∀n,n0≤n→∀M,n0≤M→zC (qA5 n) M (least,deep,a,0,1,BR r,m,b,rows)=some (least,deep,a,qAm (tb r),BR (tb r),m,b,rows):=by
 obtain ⟨n1,h1⟩:=qLi r m b rows
 obtain ⟨n2,h2⟩:=qLi (tb r) m b rows
 obtain ⟨n3,h3⟩:=qRX
 refine ⟨n1+n2+n3+20,fun n hn M hM=>?_⟩
 obtain ⟨M,rfl,hM⟩:=up1 hM
 have h2:=h2 n (by omega)
 rw [qCC] at h2
 rw [qT (qPP least deep a 0 1 r (tb r) m b rows (by omega) (h1 n (by omega)) (h3 n (by omega) 1 (by omega)))]
 rw [show (1:Int)+1=2 from rfl,qPQ least deep a (tb r) m b rows h2 (h3 n (by omega)) 10 _ 2 M (by omega) (by omega) (by omega),←qRY]
 rfl
theorem qP8 {p:PS} (h:Gd p):Gd (qA7 p).2∧(qA7 p).2.1.length≤p.1.length∧∀x,(qA7 p).1=some x→qN4 x:=by
 have h1:=qy p.1
 have h2:=qF0 (tb p.1)
 have h0:=h.r
 unfold qA7
 simp only
 split
 ·have h3:=qHb [58] (wr (tb p.1),p.2)
  have h4:=qy (qW [58] (wr (tb p.1),p.2)).2.1
  have h5:=qF0 (tb (qW [58] (wr (tb p.1),p.2)).2.1)
  have h6:=qy (wr (tb p.1))
  have e:(qW [58] (wr (tb p.1),p.2)).2.2.2=p.2.2:=by unfold qW;split<;>rfl
  simp only at h3
  refine ⟨⟨by simp only;omega,by rw [e];exact h.n,by rw [e];exact h.s⟩,by simp only;omega,fun x hx=>?_⟩
  cases hx
  exact ⟨by simp [kd,ndA],by simp [ndA,em];decide⟩
 ·exact ⟨h,Nat.le_refl _,fun x hx=>by cases hx⟩
theorem qRF (p:PS) (h:p.1.length≤1000):∃x:Nd,(∀y,(qA7 p).1=some y→x=y)∧Ev (qCr · (BR p.1) p.2.2.length p.2.1 (p.2.2.map qZ)) (x.1,x.2.1,x.2.2.1,x.2.2.2.1,x.2.2.2.2.1,x.2.2.2.2.2.1,x.2.2.2.2.2.2.1,x.2.2.2.2.2.2.2.1,x.2.2.2.2.2.2.2.2.1,x.2.2.2.2.2.2.2.2.2.1,x.2.2.2.2.2.2.2.2.2.2.1,x.2.2.2.2.2.2.2.2.2.2.2.1,x.2.2.2.2.2.2.2.2.2.2.2.2.1,(kd x).map qA1,(qA7 p).1.isSome,qEq (qA7 p).2):=by
 have l1:=qy p.1
 have l2:=qF0 (tb p.1)
 have l3:=qHb [58] (wr (tb p.1),p.2)
 have l6:=qy (wr (tb p.1))
 simp only at l3
 obtain ⟨n1,h1⟩:=qOr p h
 obtain ⟨n2,h2⟩:=qQk p.1 h
 obtain ⟨n3,h3⟩:=qFI [58] (wr (tb p.1),p.2)
 have hle:(qW [58] (wr (tb p.1),p.2)).2.1.length≤1000:=by omega
 obtain ⟨n4,h4⟩:=qOr (qW [58] (wr (tb p.1),p.2)).2 hle
 obtain ⟨n5,h5⟩:=qQk (qW [58] (wr (tb p.1),p.2)).2.1 hle
 have e:(qW [58] (wr (tb p.1),p.2)).2.2=p.2:=by unfold qW;split<;>rfl
 unfold qA7
 simp only
 by_cases hc:(qAu (BR (wd (tb p.1)))).2.2.2.2=true∧(qW [58] (wr (tb p.1),p.2)).1=true
 ·rw [if_pos hc]
  refine ⟨_,fun y hy=>by cases hy;rfl,n1+n2+n3+n4+n5+1,fun n hn=>?_⟩
  obtain ⟨k,rfl,hm⟩:=up1 hn
  refine qA (h1 k (by omega)) (qA (h2 k (by omega)) (qD hc.1 (qA (h3 k (by omega)) (qO (by simp only;rw [hc.2];rfl) (qA (h4 k (by omega)) (qA (h5 k (by omega)) ?_))))))
  cases hb:(qW [58] (wr (tb p.1),p.2)).2.2.1 with
  |true=>
   refine qD hb ?_
   rw [qC];rfl
  |false=>
   refine qO hb ?_
   rw [qC];rfl
 ·rw [if_neg hc]
  refine ⟨(0,0,0,0,⟨#[]⟩,0,0,false,false,0,0,false,false,[]),fun y hy=>(by cases hy),n1+n2+n3+1,fun n hn=>?_⟩
  obtain ⟨k,rfl,hm⟩:=up1 hn
  cases hr:(qAu (BR (wd (tb p.1)))).2.2.2.2 with
  |false=>exact qA (h1 k (by omega)) (qA (h2 k (by omega)) (qO hr rfl))
  |true=>
   have ht:(qW [58] (wr (tb p.1),p.2)).1=false:=by
    rw [Bool.eq_false_iff];exact fun e=>hc ⟨hr,e⟩
   refine qA (h1 k (by omega)) (qA (h2 k (by omega)) (qD hr (qA (h3 k (by omega)) (qD (by simp only;rw [ht];rfl) ?_))))
   rw [qC]
   simp only [qEq,e]
   rfl
theorem qIw {s:ByteArray} (h:(qf s).2.2.2=true) (hk:(qf s).1=1∨(qf s).1=3):(qf s).2.2.1.size≤2000:=by
 unfold qf at h hk⊢
 split at h
 ·rename_i hc
  rw [if_pos hc] at hk⊢
  have h1:=hc.1
  unfold okV at h1
  have h2:¬(qA8 s).1=2:=by
   simp only at hk
   omega
  rw [if_neg h2] at h1
  simp only [Bool.and_eq_true,beq_iff_eq] at h1
  have:=congrArg List.length h1.1
  rw [qAO] at this
  have h0:(qA8 s).2.2.size=0:=this
  show (qA8 s).2.2.size≤2000
  omega
 ·cases h
def Kj:PJ→PS→Prop
 | .args _ _ kids,p=>kids.length+p.1.length≤1500
 |_,_=>True
theorem qI5 {w:List UInt8} {p:PS} (h:Gd p):Gd (qB5 w p)∧(qB5 w p).1.length≤p.1.length:=by
 have h1:=qHb w p
 have h2:=qy p.1
 unfold qB5
 split
 ·exact ⟨h,Nat.le_refl _⟩
 ·split
  ·exact ⟨qCT h,by omega⟩
  ·exact ⟨⟨(qCT h).r,(qCT h).n,(qCT h).s⟩,by show (qW w p).2.1.length≤_;omega⟩
theorem qKv {p:PS} {r:List UInt8} (h:Gd p) (hr:r.length≤p.1.length):Gd (r,p.2):=⟨by have:=h.r;simp only;omega,h.n,h.s⟩
theorem qEM:∀(f:Nat) (j:PJ) (p:PS),Gd p→Kj j p→Gd (pP f j p).2∧(pP f j p).2.1.length≤p.1.length
 |0,j,p,h,_=>⟨h,Nat.le_refl _⟩
 |f+1,.bin least deep,p,h,_=>by
  unfold pP
  have a:=qEM f (.un deep) p h trivial
  have b:=qEM f (.loop least deep (pP f (.un deep) p).1) (pP f (.un deep) p).2 a.1 trivial
  exact ⟨b.1,Nat.le_trans b.2 a.2⟩
 |f+1,.loop least deep a,p,h,_=>by
  have h1:=qy p.1
  unfold pP
  split
  ·exact ⟨h,Nat.le_refl _⟩
  ·split
   ·exact ⟨qKv h h1,h1⟩
   ·have l1:((tb p.1).drop (sgn (tb p.1)).length).length≤p.1.length:=by simp;omega
    have b:=qEM f (.bin (lvl (qAm (tb p.1))+1) deep) ((tb p.1).drop (sgn (tb p.1)).length,p.2) (qKv h l1) trivial
    simp only
    have c:=qF1 (x:=ndK 5 (qAm (tb p.1)) [a,(pP f (.bin (lvl (qAm (tb p.1))+1) deep) ((tb p.1).drop (sgn (tb p.1)).length,p.2)).1]) b.1 ⟨by simp [kd,ndK],by simp [ndK,em];decide⟩
    have d:=qEM f (.loop least deep (qCz (ndK 5 (qAm (tb p.1)) [a,(pP f (.bin (lvl (qAm (tb p.1))+1) deep) ((tb p.1).drop (sgn (tb p.1)).length,p.2)).1]) (pP f (.bin (lvl (qAm (tb p.1))+1) deep) ((tb p.1).drop (sgn (tb p.1)).length,p.2)).2).1) _ c trivial
    refine ⟨d.1,Nat.le_trans d.2 ?_⟩
    rw [qAt]
    exact Nat.le_trans b.2 l1
 |f+1,.un deep,p,h,_=>by
  have h1:=qy p.1
  have h2:=qHb [45] p
  unfold pP
  split
  ·exact ⟨⟨h.r,h.n,h.s⟩,Nat.le_refl _⟩
  ·split
   ·simp only
    have b:=qEM f (.un (deep+1)) (qW [45] p).2 (qCT h) trivial
    refine ⟨qF1 b.1 ⟨by simp [kd,ndK],by simp [ndK,em];decide⟩,?_⟩
    rw [qAt]
    exact Nat.le_trans b.2 (by omega)
   ·have b:=qEM f (.at deep) (qW [45] p).2 (qCT h) trivial
    exact ⟨b.1,Nat.le_trans b.2 (by omega)⟩
 |f+1,.at deep,p,h,_=>by
  have h1:=qy p.1
  have h2:=qHb [40] p
  have h3:=qF0 (tb p.1)
  have h4:=h.r
  have g2:Gd (wr (tb p.1),p.2):=qKv h (by omega)
  unfold pP
  simp only
  split
  ·split
   ·exact ⟨⟨by simp only;omega,h.n,h.s⟩,h1⟩
   ·rename_i hh _ s t hq
    have a:=qI3 _ _ hq
    have b:=qF2 _ _ _ (Nat.le_refl _) hq
    simp only [List.length_tail,List.length_nil] at a b
    refine ⟨qF1 (qKv h (by omega)) ⟨by simp [kd,nd1],by simp only [nd1,qb];omega⟩,?_⟩
    rw [qAt];simp only;omega
  ·split
   ·refine ⟨qF1 (qKv h (by simp;omega)) ⟨by simp [kd,nd1],by simp [nd1,em];decide⟩,?_⟩
    rw [qAt];simp;omega
   ·split
    ·have b:=qEM f (.bin 1 (deep+1)) (qW [40] p).2 (qCT h) trivial
     have c:=qI5 (w:= [41]) b.1
     exact ⟨c.1,Nat.le_trans c.2 (Nat.le_trans b.2 (by omega))⟩
    ·split
     ·rename_i hv
      refine ⟨qF1 g2 ⟨by simp [kd,nd1],qIw hv.1 hv.2⟩,?_⟩
      rw [qAt];simp only;omega
     ·split
      ·refine ⟨qF1 g2 ⟨by simp [kd,ndC],by simp [ndC,em];decide⟩,?_⟩
       rw [qAt];simp only;omega
      ·split
       ·rename_i op _
        have b:=qEM f (.call op deep) (wr (tb p.1),p.2) g2 trivial
        exact ⟨b.1,Nat.le_trans b.2 (by simp only;omega)⟩
       ·exact ⟨⟨g2.r,g2.n,g2.s⟩,by show (wr (tb p.1)).length≤_;omega⟩
 |f+1,.call op deep,p,h,_=>by
  unfold pP
  have a:=qI5 (w:= [40]) h
  have b:=qEM f (.args op deep []) (qB5 [40] p) a.1 (by have:=a.1.r;show 0+_≤_;omega)
  exact ⟨b.1,Nat.le_trans b.2 a.2⟩
 |f+1,.args op deep kids,p,h,hk=>by
  replace hk:kids.length+p.1.length≤1500:=hk
  unfold pP
  split
  ·refine ⟨qF1 h ⟨by simp [kd,ndK];omega,by simp [ndK,em];decide⟩,?_⟩
   rw [qAt];exact Nat.le_refl _
  ·simp only
   have a:=qP8 h
   have qg:Gd (qDt (qA7 p) (fun p=>pP f (.bin 1 (deep+1)) p)).2∧(qDt (qA7 p) (fun p=>pP f (.bin 1 (deep+1)) p)).2.1.length≤p.1.length:=by
    unfold qDt
    split
    ·rename_i x hx
     refine ⟨qF1 a.1 (a.2.2 x hx),?_⟩
     rw [qAt];exact a.2.1
    ·have b:=qEM f (.bin 1 (deep+1)) (qA7 p).2 a.1 trivial
     exact ⟨b.1,Nat.le_trans b.2 a.2.1⟩
   generalize qDt (qA7 p) (fun p=>pP f (.bin 1 (deep+1)) p)=q at qg⊢
   have t0:=qg.2
   have t1:=qy q.2.1
   have t2:=qHb [44] q.2
   split
   ·rename_i ht
    have t3:=qDJ (by simp) ht
    have b:=qEM f (.args op deep (kids++ [q.1])) (qW [44] q.2).2 (qCT qg.1) (by show (kids++ [q.1]).length+_≤_;simp;omega)
    exact ⟨b.1,Nat.le_trans b.2 (by omega)⟩
   ·have c:=qI5 (w:= [41]) (qCT (w:= [44]) qg.1)
    refine ⟨qF1 c.1 ⟨by simp [kd,ndK];omega,by simp [ndK,em];decide⟩,?_⟩
    rw [qAt]
    exact Nat.le_trans c.2 (by omega)
def Ad (f:Nat):PJ→PS→Prop
 | .bin _ _,p=>20*(tb p.1).length+6≤f
 | .loop _ _ _,p=>20*(tb p.1).length+5≤f
 | .un _,p=>20*(tb p.1).length+4≤f
 | .at _,p=>20*(tb p.1).length+3≤f∧p.2.1=false
 | .call _ _,p=>20*(tb p.1).length+9≤f
 | .args _ _ _,p=>20*(tb p.1).length+8≤f
def Jd:PJ→Prop
 | .bin _ d=>0≤d∧d≤401
 | .loop _ d _=>0≤d∧d≤401
 | .un d=>0≤d∧d≤401
 | .at d=>0≤d∧d≤400
 | .call _ d=>0≤d∧d≤400
 | .args _ d _=>0≤d∧d≤400
def Wk:PJ→PS→Int×PS→Prop
 | .bin least deep,p,r=>Ev (qCN · least deep (BR p.1) p.2.2.length p.2.1 (p.2.2.map qZ)) (qF5 r)
 | .loop least deep a,p,r=>∃n0,∀n,n0≤n→∀M,n0≤M→zC (qCm (qR n) n) M (least,deep,a,qEq p)=some (qF5 r)
 | .un deep,p,r=>Ev (qE8 · deep (BR p.1) p.2.2.length p.2.1 (p.2.2.map qZ)) (qF5 r)
 | .at deep,p,r=>Ev (qFk · deep (BR p.1) p.2.2.length p.2.1 (p.2.2.map qZ)) (qF5 r)
 | .call op deep,p,r=>Ev (qB4 · op deep (BR p.1) p.2.2.length p.2.1 (p.2.2.map qZ)) (qF5 r)
 | .args op deep kids,p,r=>∃(ks:List Int) (p':PS),r=qCz (ndK 6 op ks) p'∧Gd p'∧ks.length≤1501∧∃n0,∀n,n0≤n→∀M,n0≤M→
   zC (qB8 (qR n) n) M (op,deep,kids.length,kids.map qA1,qEq p)=some (op,ks.length,ks.map qA1,qEq p')
theorem qKw (w:List UInt8) {p:PS} (h:p.2.1=false):(BR (qW w p).2.1,(qW w p).2.2.2.length,!(qW w p).1,(qW w p).2.2.2.map qZ)=qEq (qB5 w p):=by
 have e:(qW w p).2.2=p.2:=by unfold qW;split<;>rfl
 unfold qB5
 rw [if_neg (by rw [h];simp)]
 cases hc:(qW w p).1 with
 |true=>rw [if_pos rfl];simp only [qEq,e,h];rfl
 |false=>rw [if_neg (by simp)];rfl
theorem qOt {r w:List UInt8} (hw:w≠ []) (h:w<+:r):(tb (r.drop w.length)).length<r.length:=by
 have h1:=qy (r.drop w.length)
 have h2:=h.length_le
 have h3:0<w.length:=List.length_pos_iff.2 hw
 simp only [List.length_drop] at h1
 omega
theorem qRs {r:List UInt8} (h:qAm r≠0):1≤qAm r∧qAm r≤11∧sgn r=(qAI (qAm r)).toList∧sgn r≠ []:=by
 rcases qP4 r with e|⟨a,b,c⟩
 ·exact absurd e h
 ·refine ⟨a,b,c,fun e=>h ?_⟩
  unfold qAm;rw [e];decide
def qQl (f:Nat) (deep:Int) (w:List UInt8) (p2:PS):Int×PS:=
 if (qf (BR w)).2.2.2=true∧((qf (BR w)).1=1∨(qf (BR w)).1=3) then qCz (nd1 ((qf (BR w)).1,(qf (BR w)).2.1,(qf (BR w)).2.2.1)) p2
 else if (qAu (BR w)).2.2.2.2=true then qCz (ndC (qAu (BR w))) p2
 else match qFH w 1 10 with
 |some op=>pP f (.call op deep) p2
 |none=>(-1,qPf p2)
def qPk (g:G_impl_reader_binary) (n:Nat) (deep:Int) (w:ByteArray) (c:ByteArray×Nat×Bool×List (List PV)):Tr (Int×ByteArray×Nat×Bool×List (List PV)):=
 (.opt (qAc n w) fun r=>(.ask r.2.2.2.2
  (.opt (qm n 2 0 0 0 ⟨#[]⟩ r.1 r.2.1 r.2.2.1 r.2.2.2.1 0 0 false false [] c.1 c.2.1 c.2.2.1 c.2.2.2) fun s=> .done (s.1,s.2.1,s.2.2.1,s.2.2.2.1,s.2.2.2.2))
  (.opt (zC (qAg g n) n (deep,w,1,c.1,c.2.1,c.2.2.1,c.2.2.2)) fun s=>(.alt s (fun t=> .done (t.1,t.2.1,t.2.2.1,t.2.2.2.1,t.2.2.2.2)) (fun t=> .done (-1,t.1,t.2.1,true,t.2.2.2))))))
def qRL (g:G_impl_reader_binary) (n:Nat) (deep:Int) (w:ByteArray) (c:ByteArray×Nat×Bool×List (List PV)):Tr (Int×ByteArray×Nat×Bool×List (List PV)):=
 (.opt (qd n w) fun r=>(.ask r.2.2.2
  (.ask (r.1==1) (.opt (qh n r.1 r.2.1 r.2.2.1 c.1 c.2.1 c.2.2.1 c.2.2.2) fun s=> .done (s.1,s.2.1,s.2.2.1,s.2.2.2.1,s.2.2.2.2))
   (.ask (r.1==3) (.opt (qh n r.1 r.2.1 r.2.2.1 c.1 c.2.1 c.2.2.1 c.2.2.2) fun s=> .done (s.1,s.2.1,s.2.2.1,s.2.2.2.1,s.2.2.2.2))
    (qPk g n deep w c)))
  (qPk g n deep w c)))
theorem qQP (f:Nat) (deep:Int) (r:List UInt8) (p2:PS) (hr:r.length≤1000) (hp:p2.2.2.length≤60) (hc:∀op,qFH (wd (tb r)) 1 10=some op→Ev (qB4 · op deep (BR p2.1) p2.2.2.length p2.2.1 (p2.2.2.map qZ)) (qF5 (pP f (.call op deep) p2))):
  ∃n0,∀n,n0≤n→(qPk (qR n) n deep (BR (wd (tb r))) (qEq p2)).run=some (qF5 (if (qAu (BR (wd (tb r)))).2.2.2.2=true then qCz (ndC (qAu (BR (wd (tb r))))) p2 else match qFH (wd (tb r)) 1 10 with
   |some op=>pP f (.call op deep) p2
   |none=>(-1,qPf p2))):=by
 obtain ⟨n1,h1⟩:=qQk r hr
 obtain ⟨n2,h2⟩:=qLj (ndC (qAu (BR (wd (tb r))))) p2 hp
 obtain ⟨n3,h3⟩:=qRW
 obtain ⟨n4,h4⟩:∃n4,∀n,n4≤n→∀op,qFH (wd (tb r)) 1 10=some op→qB4 n op deep (BR p2.1) p2.2.2.length p2.2.1 (p2.2.2.map qZ)=some (qF5 (pP f (.call op deep) p2)):=by
  cases hf:qFH (wd (tb r)) 1 10 with
  |none=>exact ⟨0,fun n _ op h=>by cases h⟩
  |some op=>obtain ⟨n4,h4⟩:=hc op hf;exact ⟨n4,fun n hn op' h=>by cases h;exact h4 n hn⟩
 refine ⟨n1+n2+n3+n4+12,fun n hn=>?_⟩
 have lp:=qP7 (g:=qR n) deep (wd (tb r)) p2 (fun op=>pP f (.call op deep) p2) (h3 n (by omega)) 10 1 n (by omega) (by omega) (by omega) (h4 n (by omega))
 cases hb:(qAu (BR (wd (tb r)))).2.2.2.2 with
 |true=>
  rw [if_pos rfl]
  exact qA (h1 n (by omega)) (qD hb (qA (h2 n (by omega)) rfl))
 |false=>
  rw [if_neg (by simp)]
  refine qA (h1 n (by omega)) (qO hb (qA lp ?_))
  cases qFH (wd (tb r)) 1 10<;>rfl
theorem qQm (f:Nat) (deep:Int) (r:List UInt8) (p2:PS) (hr:r.length≤1000) (hp:p2.2.2.length≤60) (hc:∀op,qFH (wd (tb r)) 1 10=some op→Ev (qB4 · op deep (BR p2.1) p2.2.2.length p2.2.1 (p2.2.2.map qZ)) (qF5 (pP f (.call op deep) p2))):
  ∃n0,∀n,n0≤n→(qRL (qR n) n deep (BR (wd (tb r))) (qEq p2)).run=some (qF5 (qQl f deep (wd (tb r)) p2)):=by
 obtain ⟨n1,h1⟩:=qRr r hr
 obtain ⟨n2,h2⟩:=qIv ((qf (BR (wd (tb r)))).1,(qf (BR (wd (tb r)))).2.1,(qf (BR (wd (tb r)))).2.2.1) p2 hp
 obtain ⟨n3,h3⟩:=qQP f deep r p2 hr hp hc
 refine ⟨n1+n2+n3,fun n hn=>?_⟩
 have h2:=h2 n (by omega)
 have h3:=h3 n (by omega)
 unfold qQl
 refine qA (h1 n (by omega)) ?_
 by_cases ho:(qf (BR (wd (tb r)))).2.2.2=true
 ·refine qD ho ?_
  by_cases k1:(qf (BR (wd (tb r)))).1=1
  ·rw [if_pos ⟨ho,.inl k1⟩]
   exact qD (by rw [k1];rfl) (qA h2 rfl)
  ·refine qO (beq_eq_false_iff_ne.2 k1) ?_
   by_cases k3:(qf (BR (wd (tb r)))).1=3
   ·rw [if_pos ⟨ho,.inr k3⟩]
    exact qD (by rw [k3];rfl) (qA h2 rfl)
   ·rw [if_neg (fun h=>h.2.elim k1 k3)]
    exact qO (beq_eq_false_iff_ne.2 k3) h3
 ·rw [if_neg (fun h=>ho h.1)]
  exact qO (by rw [Bool.eq_false_iff];exact ho) h3
theorem qRt (w:List UInt8) (p:PS):qW w (tb p.1,p.2)=qW w p:=by unfold qW;simp only [qCC]
theorem qI6 {c:UInt8} {r:List UInt8} (h:r.head?=some c):∃t,r=c::t:=by
 cases r with
 |nil=>cases h
 |cons d t=>simp at h;subst h;exact ⟨t,rfl⟩
theorem qEU:∀(f:Nat) (j:PJ) (p:PS),Ad f j p→Jd j→Gd p→Kj j p→Wk j p (pP f j p)
 |0,j,p,ha,_,_,_=>by cases j<;>simp [Ad] at ha
 |f+1,.bin least deep,p,ha,hj,hg,_=>by
  replace ha:20*(tb p.1).length+6≤f+1:=ha
  obtain ⟨n1,h1⟩:=qEU f (.un deep) p (by show 20*_+4≤f;omega) hj hg trivial
  have hl:=qDK f (.un deep) p
  obtain ⟨n2,h2⟩:=qEU f (.loop least deep (pP f (.un deep) p).1) (pP f (.un deep) p).2 (by show 20*_+5≤f;omega) hj (qEM f (.un deep) p hg trivial).1 trivial
  refine ⟨n1+n2+1,fun n hn=>?_⟩
  obtain ⟨k,rfl,hm⟩:=up1 hn
  exact qA (h1 k (by omega)) (qA (h2 k (by omega) k (by omega)) rfl)
 |f+1,.loop least deep a,(r,b,l),ha,hj,hg,_=>by
  replace ha:20*(tb r).length+5≤f+1:=ha
  have hn60:l.length≤60:=hg.n
  have hr1:r.length≤1000:=hg.r
  have ht:=qy r
  unfold pP
  cases b with
  |true=>
   rw [if_pos rfl]
   refine ⟨1,fun n hn M hM=>?_⟩
   obtain ⟨M,rfl,hM⟩:=up1 hM
   exact qP (qO rfl rfl)
  |false=>
   rw [if_neg (by simp)]
   simp only
   obtain ⟨n1,h1⟩:=qRE least deep a r l.length false (l.map qZ)
   by_cases h0:qAm (tb r)=0
   ·rw [if_pos (.inl h0)]
    refine ⟨n1+1,fun n hn M hM=>?_⟩
    obtain ⟨M,rfl,hM⟩:=up1 hM
    exact qP (qD rfl (qA (h1 n (by omega) n (by omega)) (qD (by simp only;rw [h0];rfl) rfl)))
   ·obtain ⟨o1,o2,o3,o4⟩:=qRs h0
    obtain ⟨n2,h2⟩:=qJl (qAm (tb r)) ⟨o1,o2⟩
    by_cases hl:lvl (qAm (tb r))<least
    ·rw [if_pos (.inr hl)]
     refine ⟨n1+n2+1,fun n hn M hM=>?_⟩
     obtain ⟨M,rfl,hM⟩:=up1 hM
     exact qP (qD rfl (qA (h1 n (by omega) n (by omega)) (qO (beq_eq_false_iff_ne.2 h0) (qA (h2 n (by omega)) (qD (decide_eq_true hl) rfl)))))
    ·rw [if_neg (fun h=>h.elim h0 hl)]
     have lv:=qPg (op:=qAm (tb r))
     have hlt:=qOt o4 (qP5 (tb r))
     have hp1:Gd ((tb r).drop (sgn (tb r)).length,false,l):=⟨by simp;omega,hn60,hg.s⟩
     obtain ⟨n3,h3⟩:=qFz (qAm (tb r)) ⟨o1,o2⟩
     obtain ⟨n4,h4⟩:=qON (qAI (qAm (tb r))).toList (tb r) l.length false (l.map qZ)
     obtain ⟨n5,h5⟩:=qEU f (.bin (lvl (qAm (tb r))+1) deep) ((tb r).drop (sgn (tb r)).length,false,l) (by show 20*_+6≤f;simp only;omega) hj hp1 trivial
     have g5:=qEM f (.bin (lvl (qAm (tb r))+1) deep) ((tb r).drop (sgn (tb r)).length,false,l) hp1 trivial
     have l5:=qDK f (.bin (lvl (qAm (tb r))+1) deep) ((tb r).drop (sgn (tb r)).length,false,l)
     simp only at l5
     generalize pP f (.bin (lvl (qAm (tb r))+1) deep) ((tb r).drop (sgn (tb r)).length,false,l)=q at h5 g5 l5⊢
     obtain ⟨n6,h6⟩:=qLj (ndK 5 (qAm (tb r)) [a,q.1]) q.2 g5.1.n
     have g6:=qF1 (x:=ndK 5 (qAm (tb r)) [a,q.1]) g5.1 ⟨by simp [kd,ndK],by simp [ndK,em];decide⟩
     have e6:=qAt (ndK 5 (qAm (tb r)) [a,q.1]) q.2
     generalize qCz (ndK 5 (qAm (tb r)) [a,q.1]) q.2=c at h6 g6 e6⊢
     obtain ⟨n7,h7⟩:=qEU f (.loop least deep c.1) c.2 (by show 20*(tb c.2.1).length+5≤f;rw [e6];omega) hj g6 trivial
     refine ⟨n1+n2+n3+n4+n5+n6+n7+1,fun n hn M hM=>?_⟩
     obtain ⟨M,rfl,hM⟩:=up1 hM
     have w1:IntKind.i64.wrap (lvl (qAm (tb r))+1)=lvl (qAm (tb r))+1:=qa (by omega)
     have h3:=h3 n (by omega)
     have h4:=h4 n (by omega)
     have h5:=h5 n (by omega)
     rw [qH0,qCC,←o3,if_pos rfl] at h4
     rw [←w1] at h5
     rw [qT (v':=(least,deep,c.1,qEq c.2)) (by
      exact qD rfl (qA (h1 n (by omega) n (by omega)) (qO (beq_eq_false_iff_ne.2 h0) (qA (h2 n (by omega)) (qO (decide_eq_false hl) (qA h3 (qA h4 (qA (h2 n (by omega)) (qA h5 (qD rfl (qA (h6 n (by omega)) rfl)))))))))))]
     exact h7 n (by omega) M (by omega)
 |f+1,.un deep,p,ha,hj,hg,_=>by
  replace ha:20*(tb p.1).length+4≤f+1:=ha
  replace hj:0≤deep∧deep≤401:=hj
  unfold pP
  by_cases hd:deep>400
  ·rw [if_pos (.inl hd)]
   refine ⟨1,fun n hn=>?_⟩
   obtain ⟨k,rfl,hm⟩:=up1 hn
   exact qD (decide_eq_true hd) (qD rfl rfl)
  ·cases hb:p.2.1 with
   |true=>
    rw [if_pos (.inr rfl)]
    refine ⟨1,fun n hn=>?_⟩
    obtain ⟨k,rfl,hm⟩:=up1 hn
    refine qO (decide_eq_false hd) (qD hb ?_)
    rw [qC,hb];rfl
   |false=>
    rw [if_neg (fun h=>h.elim hd (by simp))]
    obtain ⟨n1,h1⟩:=qFI [45] p
    have t1:=qDQ [45] p
    cases hc:(qW [45] p).1 with
    |true=>
     rw [if_pos rfl]
     simp only
     have t2:=qDJ (by simp) hc
     have t3:=qy (qW [45] p).2.1
     obtain ⟨n2,h2⟩:=qEU f (.un (deep+1)) (qW [45] p).2 (by show 20*_+4≤f;omega) (by show 0≤deep+1∧deep+1≤401;omega) (qCT hg) trivial
     have g2:=qEM f (.un (deep+1)) (qW [45] p).2 (qCT hg) trivial
     generalize pP f (.un (deep+1)) (qW [45] p).2=q at h2 g2⊢
     obtain ⟨n3,h3⟩:=qLj (ndK 4 0 [q.1]) q.2 g2.1.n
     refine ⟨n1+n2+n3+1,fun n hn=>?_⟩
     obtain ⟨k,rfl,hm⟩:=up1 hn
     have w1:IntKind.i64.wrap (deep+1)=deep+1:=qa (by omega)
     have h2:=h2 k (by omega)
     rw [←w1] at h2
     exact qO (decide_eq_false hd) (qO hb (qA (h1 k (by omega)) (qD hc (qA h2 (qD rfl (qA (h3 k (by omega)) rfl))))))
    |false=>
     rw [if_neg (by simp)]
     have e:(qW [45] p).2.2=p.2:=by unfold qW;split<;>rfl
     obtain ⟨n2,h2⟩:=qEU f (.at deep) (qW [45] p).2 ⟨by omega,by rw [e];exact hb⟩ (by show 0≤deep∧deep≤400;omega) (qCT hg) trivial
     refine ⟨n1+n2+1,fun n hn=>?_⟩
     obtain ⟨k,rfl,hm⟩:=up1 hn
     exact qO (decide_eq_false hd) (qO hb (qA (h1 k (by omega)) (qO hc (qA (h2 k (by omega)) rfl))))
 |f+1,.at deep,(r0,b,l),ha,hj,hg,_=>by
  obtain ⟨ha,hb⟩:=ha
  replace ha:20*(tb r0).length+3≤f+1:=ha
  replace hb:b=false:=hb
  subst hb
  replace hj:0≤deep∧deep≤400:=hj
  have hn60:l.length≤60:=hg.n
  have hr1:r0.length≤1000:=hg.r
  have ht:=qy r0
  have ett:=qCC r0
  have eit:=qRt [40] (r0,false,l)
  obtain ⟨n1,h1⟩:=qGP r0 l.length false (l.map qZ)
  have wdec:∀op,qFH (wd (tb r0)) 1 10=some op→(wr (tb r0)).length<(tb r0).length:=fun op h=>by
   have e:=congrArg List.length (wdr (tb r0))
   simp only [List.length_append] at e
   have:wd (tb r0)≠ []:=fun e=>by
    rw [e,show qFH [] 1 10=none by decide+kernel] at h
    cases h
   have:=List.length_pos_iff.2 this
   omega
  unfold pP
  simp only at eit⊢
  rw [←eit]
  generalize tb r0=r at*
  have hw:=qF0 r
  have wordEv:∃n0,∀n,n0≤n→(qRL (qR n) n deep (BR (wd r)) (qEq (wr r,false,l))).run=some (qF5 (qQl f deep (wd r) (wr r,false,l))):=by
   have:=qQm f deep r (wr r,false,l) (by omega) hn60 (by
    rw [ett]
    intro op h
    exact qEU f (.call op deep) (wr r,false,l) (by have:=wdec op h;have:=qy (wr r);show 20*(tb (wr r)).length+9≤f;omega) hj ⟨by simp only;omega,hn60,hg.s⟩ trivial)
   rwa [ett] at this
  obtain ⟨n9,h9⟩:=wordEv
  obtain ⟨n8,h8⟩:=qOr (r,false,l) (by simp only;omega)
  simp only [ett] at h8
  by_cases hq:r.head?=some 34
  ·rw [if_pos hq]
   obtain ⟨t,rfl⟩:=qI6 hq
   simp only [List.length_cons] at ht
   obtain ⟨n2,h2⟩:=qQO t false l (by omega) hn60
   refine ⟨n1+n2+3,fun n hn=>?_⟩
   obtain ⟨k,rfl,hm⟩:=up3 hn
   refine qA (h1 (k+2) (by omega)) (qA (qBP k (34::t) [34]) (qD rfl (qA (h2 (k+2) (by omega)) ?_)))
   rw [qC]
   simp only [List.tail_cons]
   all_goals (cases qBu [] t<;>rfl)
  ·rw [if_neg hq]
   have p34:List.isPrefixOf [34] r=false:=by rw [Bool.eq_false_iff];exact fun e=>hq ((qEJ 34 r).1 e)
   by_cases hh:r.head?=some 35
   ·have p35:List.isPrefixOf [35] r=true:=(qEJ 35 r).2 hh
    simp only [if_pos hh]
    obtain ⟨n2,h2⟩:=qRV deep r false l hn60
    cases he:qHz r 1 5 with
    |some e=>
     simp only
     refine ⟨n1+n2+3,fun n hn=>?_⟩
     obtain ⟨k,rfl,hm⟩:=up3 hn
     have h2:=h2 (k+2) (by omega) (k+2) (by omega)
     rw [he] at h2
     exact qA (h1 (k+2) (by omega)) (qA (qBP k r [34]) (qO p34 (qA (qBP k r [35]) (qD p35 (qA h2 rfl)))))
    |none=>
     simp only
     rw [if_neg (fun h=>h.1 hh)]
     refine ⟨n1+n2+n8+n9+3,fun n hn=>?_⟩
     obtain ⟨k,rfl,hm⟩:=up3 hn
     have h2:=h2 (k+2) (by omega) (k+2) (by omega)
     rw [he] at h2
     exact qA (h1 (k+2) (by omega)) (qA (qBP k r [34]) (qO p34 (qA (qBP k r [35]) (qD p35 (qA h2 (qA (h8 (k+2) (by omega)) (h9 (k+2) (by omega))))))))
   ·have p35:List.isPrefixOf [35] r=false:=by rw [Bool.eq_false_iff];exact fun e=>hh ((qEJ 35 r).1 e)
    simp only [if_neg hh]
    obtain ⟨n2,h2⟩:=qFI [40] (r,false,l)
    cases hc:(qW [40] (r,false,l)).1 with
    |true=>
     rw [if_pos ⟨hh,rfl⟩]
     have t2:=qDJ (by simp) hc
     have t3:=qy (qW [40] (r,false,l)).2.1
     simp only [ett] at t2
     have g1:Gd (r,false,l):=⟨by simp only;omega,hn60,hg.s⟩
     obtain ⟨n3,h3⟩:=qEU f (.bin 1 (deep+1)) (qW [40] (r,false,l)).2 (by show 20*_+6≤f;omega) (by show 0≤deep+1∧deep+1≤401;omega) (qCT g1) trivial
     generalize pP f (.bin 1 (deep+1)) (qW [40] (r,false,l)).2=q at h3⊢
     obtain ⟨n4,h4⟩:=qFI [41] q.2
     refine ⟨n1+n2+n3+n4+3,fun n hn=>?_⟩
     obtain ⟨k,rfl,hm⟩:=up3 hn
     have w1:IntKind.i64.wrap (deep+1)=deep+1:=qa (by omega)
     have h3:=h3 (k+2) (by omega)
     rw [←w1] at h3
     cases hbb:q.2.2.1 with
     |true=>
      refine qA (h1 (k+2) (by omega)) (qA (qBP k r [34]) (qO p34 (qA (qBP k r [35]) (qO p35 (qA (h2 (k+2) (by omega)) (qD hc (qA h3 (qD hbb ?_))))))))
      rw [qC]
      unfold qB5
      rw [if_pos hbb]
      simp only [qF5,hbb]
     |false=>
      refine qA (h1 (k+2) (by omega)) (qA (qBP k r [34]) (qO p34 (qA (qBP k r [35]) (qO p35 (qA (h2 (k+2) (by omega)) (qD hc (qA h3 (qO hbb (qA (h4 (k+2) (by omega)) ?_)))))))))
      rw [qC]
      exact congrArg (fun x=>some (q.1,x)) (qKw [41] hbb)
    |false=>
     rw [if_neg (fun h=>by simp at h)]
     have e:(qW [40] (r,false,l)).2=(r,false,l):=by
      unfold qW at hc⊢
      split at hc
      ·cases hc
      ·rename_i hne
       rw [if_neg hne];simp only [ett]
     rw [hc,e] at h2
     refine ⟨n1+n2+n8+n9+3,fun n hn=>?_⟩
     obtain ⟨k,rfl,hm⟩:=up3 hn
     exact qA (h1 (k+2) (by omega)) (qA (qBP k r [34]) (qO p34 (qA (qBP k r [35]) (qO p35 (qA (h2 (k+2) (by omega)) (qO rfl (qA (h8 (k+2) (by omega)) (h9 (k+2) (by omega)))))))))
 |f+1,.call op deep,p,ha,hj,hg,_=>by
  replace ha:20*(tb p.1).length+9≤f+1:=ha
  unfold pP
  have gm:=qI5 (w:= [40]) hg
  have rm:=qI2 [40] p
  obtain ⟨ks,p',e1,e2,e3,n2,h2⟩:=qEU f (.args op deep []) (qB5 [40] p) (by show 20*_+8≤f;omega) hj gm.1 (by have:=gm.1.r;show 0+_≤_;omega)
  obtain ⟨n1,h1⟩:=qFI [40] p
  obtain ⟨n3,h3⟩:=qLj (ndK 6 op ks) p' e2.n
  rw [e1]
  refine ⟨n1+n2+n3+1,fun n hn=>?_⟩
  obtain ⟨k,rfl,hm⟩:=up1 hn
  have h2:=h2 k (by omega) k (by omega)
  by_cases hb:p.2.1=true
  ·have em:qEq (qB5 [40] p)=(BR p.1,p.2.2.length,true,p.2.2.map qZ):=by
    unfold qB5;rw [if_pos hb];simp only [qEq,hb]
   rw [em] at h2
   exact qD hb (qA h2 (qD (decide_eq_true (by simp)) (qA (h3 k (by omega)) rfl)))
  ·have hb:p.2.1=false:=by rw [Bool.eq_false_iff];exact hb
   have em:=qKw [40] hb
   rw [←em] at h2
   exact qO hb (qA (h1 k (by omega)) (qA h2 (qD (decide_eq_true (by simp)) (qA (h3 k (by omega)) rfl))))
 |f+1,.args op deep kids,p,ha,hj,hg,hk=>by
  replace ha:20*(tb p.1).length+8≤f+1:=ha
  replace hk:kids.length+p.1.length≤1500:=hk
  replace hj:0≤deep∧deep≤400:=hj
  unfold pP
  cases hb:p.2.1 with
  |true=>
   rw [if_pos rfl]
   refine ⟨kids,p,rfl,hg,by omega,1,fun n hn M hM=>?_⟩
   obtain ⟨M,rfl,hM⟩:=up1 hM
   exact qP (qO (by show (!p.2.1)=false;rw [hb];rfl) rfl)
  |false=>
   rw [if_neg (by simp)]
   simp only
   obtain ⟨x,hx,n1,h1⟩:=qRF p hg.r
   have ga:=qP8 hg
   have ra:=qHC p
   have tl0:=qy p.1
   have nb:∀k:Nat,(!(qEq p).2.2.1)=true:=fun _=>by show (!p.2.1)=true;rw [hb];rfl
   cases hi:(qA7 p).1 with
   |some y=>
    have hxy:=hx y hi
    subst hxy
    obtain ⟨n3,h3⟩:=qLj x (qA7 p).2 ga.1.n
    have eo:qDt (qA7 p) (fun p=>pP f (.bin 1 (deep+1)) p)=qCz x (qA7 p).2:=by unfold qDt;rw [hi]
    rw [eo]
    have gq:Gd (qCz x (qA7 p).2).2∧(qCz x (qA7 p).2).2.1.length≤p.1.length∧(tb (qCz x (qA7 p).2).2.1).length≤(tb p.1).length:=⟨qF1 ga.1 (ga.2.2 x hi),by rw [qAt];exact ga.2.1,by rw [qAt];exact ra⟩
    have n2:=0
    generalize qCz x (qA7 p).2=Q at h3 gq⊢
    obtain ⟨n4,h4⟩:=qFI [44] Q.2
    cases hc:(qW [44] Q.2).1 with
    |true=>
     obtain ⟨ks,p',e1,e2,e3,n6,h6⟩:=qEU f (.args op deep (kids++ [Q.1])) (qW [44] Q.2).2 (by have:=qDJ (by simp) hc;show 20*(tb (qW [44] Q.2).2.1).length+8≤f;have:=qy (qW [44] Q.2).2.1;omega) ⟨hj.1,hj.2⟩ (qCT gq.1) (by have:=qDJ (by simp) hc;have:=qy Q.2.1;show (kids++ [Q.1]).length+_≤_;simp;omega)
     refine ⟨ks,p',by rw [if_pos rfl];exact e1,e2,e3,n1+n2+n3+n4+n6+1,fun k hn M hM=>?_⟩
     obtain ⟨M,rfl,hM⟩:=up1 hM
     rw [qT (v':=(op,deep,(kids++ [Q.1]).length,(kids++ [Q.1]).map qA1,qEq (qW [44] Q.2).2)) (by
      have h1:=h1 k (by omega)
      rw [hi] at h1
      refine qD (nb 0) (qA h1 (qD rfl (qA (h3 k (by omega)) (qD rfl (qD (decide_eq_true ⟨by simp,by decide,by decide,by simp;omega,rfl⟩) (qA (h4 k (by omega)) ?_))))))
      refine qO (by simp only;rw [hc];rfl) ?_
      rw [qC]
      simp only [List.length_append,List.map_append]
      rfl)]
     exact h6 k (by omega) M (by omega)
    |false=>
     obtain ⟨n5,h5⟩:=qFI [41] (qW [44] Q.2).2
     refine ⟨kids++ [Q.1],qB5 [41] (qW [44] Q.2).2,by rw [if_neg (by simp)],(qI5 (qCT gq.1)).1,by simp;omega,n1+n2+n3+n4+n5+1,fun k hn M hM=>?_⟩
     obtain ⟨M,rfl,hM⟩:=up1 hM
     cases hbb:(qW [44] Q.2).2.2.1 with
     |true=>
      rw [qP (r:=(op,(kids++ [Q.1]).length,(kids++ [Q.1]).map qA1,qEq (qB5 [41] (qW [44] Q.2).2))) (by
       have h1:=h1 k (by omega)
       rw [hi] at h1
       refine qD (nb 0) (qA h1 (qD rfl (qA (h3 k (by omega)) (qD rfl (qD (decide_eq_true ⟨by simp,by decide,by decide,by simp;omega,rfl⟩) (qA (h4 k (by omega)) ?_))))))
       refine qD (by simp only;rw [hc];rfl) (qD hbb ?_)
       rw [qC]
       unfold qB5
       rw [if_pos hbb]
       simp only [List.length_append,List.map_append,qEq,hbb]
       rfl)]
     |false=>
      rw [qP (r:=(op,(kids++ [Q.1]).length,(kids++ [Q.1]).map qA1,qEq (qB5 [41] (qW [44] Q.2).2))) (by
       have h1:=h1 k (by omega)
       rw [hi] at h1
       refine qD (nb 0) (qA h1 (qD rfl (qA (h3 k (by omega)) (qD rfl (qD (decide_eq_true ⟨by simp,by decide,by decide,by simp;omega,rfl⟩) (qA (h4 k (by omega)) ?_))))))
       refine qD (by simp only;rw [hc];rfl) (qO hbb (qA (h5 k (by omega)) ?_))
       rw [qC]
       simp only [List.length_append,List.map_append]
       exact congrArg (fun x=>some (Sum.inr (op,kids.length+1,kids.map qA1++ [[PV.i IntKind.i64 Q.1]],x))) (qKw [41] hbb))]
   |none=>
    have eo:qDt (qA7 p) (fun p=>pP f (.bin 1 (deep+1)) p)=pP f (.bin 1 (deep+1)) (qA7 p).2:=by unfold qDt;rw [hi]
    rw [eo]
    obtain ⟨n3,h3⟩:=qEU f (.bin 1 (deep+1)) (qA7 p).2 (by show 20*_+6≤f;omega) (by show 0≤deep+1∧deep+1≤401;omega) ga.1 trivial
    have g3:=qEM f (.bin 1 (deep+1)) (qA7 p).2 ga.1 trivial
    have l3:=qDK f (.bin 1 (deep+1)) (qA7 p).2
    have w1:IntKind.i64.wrap (deep+1)=deep+1:=qa (by omega)
    have gq:Gd (pP f (.bin 1 (deep+1)) (qA7 p).2).2∧(pP f (.bin 1 (deep+1)) (qA7 p).2).2.1.length≤p.1.length∧(tb (pP f (.bin 1 (deep+1)) (qA7 p).2).2.1).length≤(tb p.1).length:=⟨g3.1,Nat.le_trans g3.2 ga.2.1,Nat.le_trans l3 ra⟩
    rw [←w1] at h3
    have n2:=0
    rw [w1] at h3
    generalize pP f (.bin 1 (deep+1)) (qA7 p).2=Q at h3 gq⊢
    obtain ⟨n4,h4⟩:=qFI [44] Q.2
    cases hc:(qW [44] Q.2).1 with
    |true=>
     obtain ⟨ks,p',e1,e2,e3,n6,h6⟩:=qEU f (.args op deep (kids++ [Q.1])) (qW [44] Q.2).2 (by have:=qDJ (by simp) hc;show 20*(tb (qW [44] Q.2).2.1).length+8≤f;have:=qy (qW [44] Q.2).2.1;omega) ⟨hj.1,hj.2⟩ (qCT gq.1) (by have:=qDJ (by simp) hc;have:=qy Q.2.1;show (kids++ [Q.1]).length+_≤_;simp;omega)
     refine ⟨ks,p',by rw [if_pos rfl];exact e1,e2,e3,n1+n2+n3+n4+n6+1,fun k hn M hM=>?_⟩
     obtain ⟨M,rfl,hM⟩:=up1 hM
     rw [qT (v':=(op,deep,(kids++ [Q.1]).length,(kids++ [Q.1]).map qA1,qEq (qW [44] Q.2).2)) (by
      have h1:=h1 k (by omega)
      rw [hi] at h1
      have h3:=h3 k (by omega)
      rw [←w1] at h3
      refine qD (nb 0) (qA h1 (qO rfl (qA h3 (qD rfl (qD (decide_eq_true ⟨by simp,by decide,by decide,by simp;omega,rfl⟩) (qA (h4 k (by omega)) ?_))))))
      refine qO (by simp only;rw [hc];rfl) ?_
      rw [qC]
      simp only [List.length_append,List.map_append]
      rfl)]
     exact h6 k (by omega) M (by omega)
    |false=>
     obtain ⟨n5,h5⟩:=qFI [41] (qW [44] Q.2).2
     refine ⟨kids++ [Q.1],qB5 [41] (qW [44] Q.2).2,by rw [if_neg (by simp)],(qI5 (qCT gq.1)).1,by simp;omega,n1+n2+n3+n4+n5+1,fun k hn M hM=>?_⟩
     obtain ⟨M,rfl,hM⟩:=up1 hM
     cases hbb:(qW [44] Q.2).2.2.1 with
     |true=>
      rw [qP (r:=(op,(kids++ [Q.1]).length,(kids++ [Q.1]).map qA1,qEq (qB5 [41] (qW [44] Q.2).2))) (by
       have h1:=h1 k (by omega)
       rw [hi] at h1
       have h3:=h3 k (by omega)
       rw [←w1] at h3
       refine qD (nb 0) (qA h1 (qO rfl (qA h3 (qD rfl (qD (decide_eq_true ⟨by simp,by decide,by decide,by simp;omega,rfl⟩) (qA (h4 k (by omega)) ?_))))))
       refine qD (by simp only;rw [hc];rfl) (qD hbb ?_)
       rw [qC]
       unfold qB5
       rw [if_pos hbb]
       simp only [List.length_append,List.map_append,qEq,hbb]
       rfl)]
     |false=>
      rw [qP (r:=(op,(kids++ [Q.1]).length,(kids++ [Q.1]).map qA1,qEq (qB5 [41] (qW [44] Q.2).2))) (by
       have h1:=h1 k (by omega)
       rw [hi] at h1
       have h3:=h3 k (by omega)
       rw [←w1] at h3
       refine qD (nb 0) (qA h1 (qO rfl (qA h3 (qD rfl (qD (decide_eq_true ⟨by simp,by decide,by decide,by simp;omega,rfl⟩) (qA (h4 k (by omega)) ?_))))))
       refine qD (by simp only;rw [hc];rfl) (qO hbb (qA (h5 k (by omega)) ?_))
       rw [qC]
       simp only [List.length_append,List.map_append]
       exact congrArg (fun x=>some (Sum.inr (op,kids.length+1,kids.map qA1++ [[PV.i IntKind.i64 Q.1]],x))) (qKw [41] hbb))]
def pos (s r:List UInt8):Int:=((s.length-r.length:Nat):Int)
def qCZ (s:List UInt8) (q:PS):ByteArray×Int×Bool×Nat×List (List PV):=(BR s,pos s q.1,q.2.1,q.2.2.length,q.2.2.map qZ)
def qCD (s:List UInt8) (r:Int×PS):Int×ByteArray×Int×Bool×Nat×List (List PV):=(r.1,qCZ s r.2)
theorem qPR {s r:List UInt8} (h:r<:+s):s.drop (s.length-r.length)=r:=by
 obtain ⟨t,rfl⟩:=h
 simp
theorem qP9 (s r:List UInt8):(pos s r).toNat=s.length-r.length:=by unfold pos;simp
theorem qJn (s r:List UInt8):0≤pos s r:=by unfold pos;omega
theorem qCv {s r:List UInt8} (h:r<:+s):r.length≤s.length:=h.length_le
theorem qI7 {s r t:List UInt8} {k:Nat} (h:r<:+s) (e:t=r.drop k) (hk:k≤r.length):pos s r+(k:Int)=pos s t:=by
 subst e
 have:=qCv h
 unfold pos
 simp only [List.length_drop]
 omega
theorem qKx {s r:List UInt8} (h:r<:+s):(BR s).toList[(pos s r).toNat]?=r.head?:=by
 rw [qAJ,qP9,←List.head?_drop,qPR h]
theorem qPl {s r:List UInt8} (h:r<:+s):tb r<:+s:=(List.dropWhile_suffix _).trans h
theorem qNV {s t:List UInt8} {c:UInt8} (h:(c::t)<:+s):t<:+s:=(List.suffix_cons c t).trans h
theorem qMc {s r:List UInt8} {k:Nat} (h:r<:+s):(BR s).extract (pos s r).toNat (pos s r+(k:Int)).toNat=BR (r.take k):=by
 rw [qE1,qP9,show (pos s r+(k:Int)).toNat=(s.length-r.length)+k by unfold pos;omega,←List.take_drop,qPR h]
theorem qAp {b:Bool} (h:b=true):(!b)=false:=by rw [h];rfl
theorem qCU {b:Bool} (h:b=false):(!b)=true:=by rw [h];rfl
theorem qOP {s:List UInt8} (hs:s.length≤1000) (n:Nat) (b:Bool) (m:Nat) (rows:List (List PV)):∀(r:List UInt8) (M:Nat),r<:+s→r.length+1≤M→zC (qC9 n) M (BR s,pos s r,b,m,rows)=some (BR s,pos s (tb r),b,m,rows)
 |r,0,_,h=>by omega
 | [],M+1,h,_=>by
  exact qP (qO (decide_eq_false (show ¬pos s []<((BR s).size:Int) by rw [qb];unfold pos;simp)) rfl)
 |c::t,M+1,h,hM=>by
  have hl:=qCv h
  simp only [List.length_cons] at hl hM
  have g:=qKx h
  have p1:pos s (c::t)<((BR s).size:Int):=by rw [qb];unfold pos;simp only [List.length_cons];omega
  by_cases hc:c=32
  ·subst hc
   have w1:IntKind.i64.wrap (pos s (32::t)+1)=pos s t:=by
    have:=qI7 (k:=1) h (t:=t) rfl (by simp)
    rw [qa (by unfold pos;omega)];exact this
   rw [qT (v':=(BR s,pos s t,b,m,rows)) (by
    refine qD (decide_eq_true p1) (qD (decide_eq_true (qJn _ _)) (qA g (qD rfl ?_)))
    rw [qC,w1])]
   have e:tb (32::t)=tb t:=by simp [tb]
   rw [e]
   exact qOP hs n b m rows t M (qNV h) (by omega)
  ·have e:tb (c::t)=c::t:=by simp [tb,hc]
   rw [e]
   refine qP (qD (decide_eq_true p1) (qD (decide_eq_true (qJn _ _)) (qA g (qO ?_ rfl))))
   rw [beq_eq_false_iff_ne]
   intro e
   exact hc (UInt8.toNat_inj.1 (show c.toNat=32 by omega))
theorem qOu {s:List UInt8} (hs:s.length≤1000) (q:PS) (h:q.1<:+s):Ev (qBU · (BR s) (pos s q.1) q.2.1 q.2.2.length (q.2.2.map qZ)) (qCZ s (tb q.1,q.2)):=by
 have hl:=qCv h
 refine ⟨q.1.length+2,fun n hn=>?_⟩
 obtain ⟨k,rfl,hm⟩:=up1 hn
 exact qA (qOP hs k q.2.1 q.2.2.length (q.2.2.map qZ) q.1 k h (by omega)) rfl
theorem qF3 {s:List UInt8} (hs:s.length≤1000) (w:List UInt8) (hw:w.length≤1000) (q:PS) (h:q.1<:+s):Ev (qAA · (BR w) (BR s) (pos s q.1) q.2.1 q.2.2.length (q.2.2.map qZ)) ((sIs w q).1,qCZ s (sIs w q).2):=by
 obtain ⟨n1,h1⟩:=qOu hs q h
 have ht:=qPl h
 have hl:=qCv ht
 refine ⟨n1+1,fun n hn=>?_⟩
 obtain ⟨k,rfl,hm⟩:=up1 hn
 have w1:IntKind.i64.wrap (pos s (tb q.1)+((BR w).size:Int))=pos s (tb q.1)+(w.length:Int):=by rw [qb];exact qa (by unfold pos;omega)
 unfold sIs
 cases hb:q.2.1 with
 |true=>
  rw [if_pos rfl]
  have h1:=h1 k (by omega)
  rw [hb] at h1
  refine qA h1 (qD hb ?_)
  rw [qC]
 |false=>
  have h1:=h1 k (by omega)
  rw [hb] at h1
  rw [if_neg (by simp)]
  by_cases hf:pos s (tb q.1)+(w.length:Int)>(s.length:Int)
  ·have hn:¬w.isPrefixOf (tb q.1)=true:=by
    intro e
    have:=(List.isPrefixOf_iff_prefix.1 e).length_le
    unfold pos at hf
    omega
   rw [if_neg hn]
   refine qA h1 (qO hb (qD (decide_eq_true (show IntKind.i64.wrap (pos s (tb q.1)+((BR w).size:Int))>((BR s).size:Int) by rw [w1,qb];exact hf)) ?_))
   rw [qC]
  ·have hx:=qMc (k:=w.length) ht
   have hwl:w.length≤(tb q.1).length:=by unfold pos at hf;omega
   have cmp:((BR s).extract (pos s (tb q.1)).toNat (IntKind.i64.wrap (pos s (tb q.1)+((BR w).size:Int))).toNat).toList==(BR w).toList↔w.isPrefixOf (tb q.1)=true:=by
    rw [w1,hx,qAJ,qAJ,beq_iff_eq,List.isPrefixOf_iff_prefix,List.prefix_iff_eq_take]
    exact ⟨fun e=>e.symm,fun e=>e.symm⟩
   refine qA h1 (qO hb (qO (decide_eq_false (show ¬IntKind.i64.wrap (pos s (tb q.1)+((BR w).size:Int))>((BR s).size:Int) by rw [w1,qb];exact hf)) (qD (decide_eq_true (show 0≤pos s (tb q.1)∧pos s (tb q.1)≤IntKind.i64.wrap (pos s (tb q.1)+((BR w).size:Int))∧IntKind.i64.wrap (pos s (tb q.1)+((BR w).size:Int))≤((BR s).size:Int) by rw [w1,qb];exact ⟨qJn _ _,by omega,by omega⟩)) ?_)))
   by_cases hp:w.isPrefixOf (tb q.1)=true
   ·rw [if_pos hp]
    refine qO (qAp (cmp.2 hp)) ?_
    rw [qC]
    show some (true,BR s,IntKind.i64.wrap (pos s (tb q.1)+((BR w).size:Int)),q.2.1,q.2.2.length,q.2.2.map qZ)=_
    rw [w1,qI7 ht rfl hwl]
    rfl
   ·rw [if_neg hp]
    refine qD (qCU (by rw [Bool.eq_false_iff];exact fun e=>hp (cmp.1 e))) ?_
    rw [qC]
theorem qIx {s:List UInt8} (x:Nd) (q:PS) (h:q.2.2.length≤5000) (hx:qN4 x):Ev (qo · x.1 x.2.1 x.2.2.1 x.2.2.2.1 x.2.2.2.2.1 x.2.2.2.2.2.1 x.2.2.2.2.2.2.1 x.2.2.2.2.2.2.2.1 x.2.2.2.2.2.2.2.2.1 x.2.2.2.2.2.2.2.2.2.1 x.2.2.2.2.2.2.2.2.2.2.1 x.2.2.2.2.2.2.2.2.2.2.2.1 x.2.2.2.2.2.2.2.2.2.2.2.2.1 ((kd x).map qA1) (BR s) (pos s q.1) q.2.1 q.2.2.length (q.2.2.map qZ)) (qCD s (qDd x q)):=by
 obtain ⟨n1,h1⟩:=qG9 x (by have:=hx.2;omega)
 refine ⟨n1+1,fun n hn=>?_⟩
 obtain ⟨k,rfl,hm⟩:=up1 hn
 have w2:IntKind.i64.wrap ((((q.2.2.length+1):Nat):Int)-1)=(q.2.2.length:Int):=by rw [qa (by omega)];omega
 refine qD rfl (qD (decide_eq_true ⟨by simp,by decide,by decide,by simp;omega,rfl⟩) ?_)
 unfold qDd
 by_cases h6:60<q.2.2.length+1
 ·rw [if_pos (.inl h6)]
  refine qD (decide_eq_true (by omega)) ?_
  rw [qC,w2]
  simp only [qCD,qCZ,List.map_append,List.length_append]
  rfl
 ·refine qO (decide_eq_false (by omega)) (qA (h1 k (by omega)) ?_)
  cases ho:qFA x with
  |true=>
   rw [if_neg (fun e=>e.elim h6 (by simp))]
   refine qO rfl ?_
   rw [qC,w2]
   simp only [qCD,qCZ,List.map_append,List.length_append]
   rfl
  |false=>
   rw [if_pos (.inr rfl)]
   refine qD rfl ?_
   rw [qC,w2]
   simp only [qCD,qCZ,List.map_append,List.length_append]
   rfl
theorem qLu {s:List UInt8} (hs:s.length≤1000) (n:Nat) (at0:Int) (b:Bool) (m:Nat) (rows:List (List PV)):∀(r:List UInt8) (M:Nat),r<:+s→r.length+1≤M→zC (qBp n) M (at0,BR s,pos s r,b,m,rows)=some (at0,BR s,pos s (wr r),b,m,rows)
 |r,0,_,h=>by omega
 | [],M+1,h,_=>by
  exact qP (qO (decide_eq_false (show ¬pos s []<((BR s).size:Int) by rw [qb];unfold pos;simp)) rfl)
 |c::t,M+1,h,hM=>by
  have hl:=qCv h
  simp only [List.length_cons] at hl hM
  have g:=qKx h
  have p1:pos s (c::t)<((BR s).size:Int):=by rw [qb];unfold pos;simp only [List.length_cons];omega
  have p0:decide (0≤pos s (c::t))=true:=decide_eq_true (qJn _ _)
  have w1:IntKind.i64.wrap (pos s (c::t)+1)=pos s t:=by
   have:=qI7 (k:=1) h (t:=t) rfl (by simp)
   rw [qa (by unfold pos;omega)];exact this
  have yes:(wch c=true)→(qBp n (at0,BR s,pos s (c::t),b,m,rows)).run=some (.inl (at0,BR s,pos s t,b,m,rows)):=fun hc=>by
   have fin:some (Sum.inl (at0,BR s,IntKind.i64.wrap (pos s (c::t)+1),b,m,rows))=(some (Sum.inl (at0,BR s,pos s t,b,m,rows)):Option (_⊕(Int×ByteArray×Int×Bool×Nat×List (List PV)))):=by rw [w1]
   refine qD (decide_eq_true p1) (qD p0 (qA g ?_))
   by_cases a1:(c.toNat:Int)≥65
   ·refine qD (decide_eq_true a1) (qD p0 (qA g ?_))
    by_cases a2:(c.toNat:Int)≤90
    ·exact qD (decide_eq_true a2) fin
    ·refine qO (decide_eq_false a2) (qD p0 (qA g ?_))
     by_cases a3:(c.toNat:Int)≥48
     ·refine qD (decide_eq_true a3) (qD p0 (qA g ?_))
      by_cases a4:(c.toNat:Int)≤57
      ·exact qD (decide_eq_true a4) fin
      ·refine qO (decide_eq_false a4) (qD p0 (qA g ?_))
       have a5:c=36:=by
        unfold wch at hc
        simp only [Bool.or_eq_true,Bool.and_eq_true,decide_eq_true_eq,beq_iff_eq] at hc
        rcases hc with hc|hc|hc
        ·omega
        ·omega
        ·exact hc
       exact qD (by rw [a5];rfl) fin
     ·omega
   ·refine qO (decide_eq_false a1) (qD p0 (qA g ?_))
    by_cases a3:(c.toNat:Int)≥48
    ·refine qD (decide_eq_true a3) (qD p0 (qA g ?_))
     by_cases a4:(c.toNat:Int)≤57
     ·exact qD (decide_eq_true a4) fin
     ·refine qO (decide_eq_false a4) (qD p0 (qA g ?_))
      have a5:c=36:=by
       unfold wch at hc
       simp only [Bool.or_eq_true,Bool.and_eq_true,decide_eq_true_eq,beq_iff_eq] at hc
       rcases hc with hc|hc|hc
       ·omega
       ·omega
       ·exact hc
      exact qD (by rw [a5];rfl) fin
    ·refine qO (decide_eq_false a3) (qD p0 (qA g ?_))
     have a5:c=36:=by
      unfold wch at hc
      simp only [Bool.or_eq_true,Bool.and_eq_true,decide_eq_true_eq,beq_iff_eq] at hc
      rcases hc with hc|hc|hc
      ·omega
      ·omega
      ·exact hc
     exact qD (by rw [a5];rfl) fin
  have no:(wch c=false)→(qBp n (at0,BR s,pos s (c::t),b,m,rows)).run=some (.inr (at0,BR s,pos s (c::t),b,m,rows)):=fun hc=>by
   have hc':¬((65≤c.toNat∧c.toNat≤90)∨(48≤c.toNat∧c.toNat≤57)∨c=36):=fun e=>by
    have:wch c=true:=by
     unfold wch
     simp only [Bool.or_eq_true,Bool.and_eq_true,decide_eq_true_eq,beq_iff_eq]
     exact e
    rw [hc] at this;cases this
   have a5:((c.toNat:Int)==36)=false:=by
    rw [beq_eq_false_iff_ne];intro e
    exact hc' (.inr (.inr (UInt8.toNat_inj.1 (show c.toNat=36 by omega))))
   refine qD (decide_eq_true p1) (qD p0 (qA g ?_))
   by_cases a1:(c.toNat:Int)≥65
   ·have a2:¬(c.toNat:Int)≤90:=fun e=>hc' (.inl ⟨by omega,by omega⟩)
    refine qD (decide_eq_true a1) (qD p0 (qA g (qO (decide_eq_false a2) ?_)))
    refine qD p0 (qA g (qD (decide_eq_true (show (c.toNat:Int)≥48 by omega)) ?_))
    exact qD p0 (qA g (qO (decide_eq_false (show ¬(c.toNat:Int)≤57 by omega)) (qD p0 (qA g (qO a5 rfl)))))
   ·refine qO (decide_eq_false a1) (qD p0 (qA g ?_))
    by_cases a3:(c.toNat:Int)≥48
    ·have a4:¬(c.toNat:Int)≤57:=fun e=>hc' (.inr (.inl ⟨by omega,by omega⟩))
     exact qD (decide_eq_true a3) (qD p0 (qA g (qO (decide_eq_false a4) (qD p0 (qA g (qO a5 rfl))))))
    ·exact qO (decide_eq_false a3) (qD p0 (qA g (qO a5 rfl)))
  cases hc:wch c with
  |true=>
   rw [qT (yes hc),show wr (c::t)=wr t by simp [wr,hc]]
   exact qLu hs n at0 b m rows t M (qNV h) (by omega)
  |false=>
   rw [qP (no hc),show wr (c::t)=c::t by simp [wr,hc]]
theorem qNW {s:List UInt8} (hs:s.length≤1000) (q:PS) (h:q.1<:+s):Ev (qCh · (BR s) (pos s q.1) q.2.1 q.2.2.length (q.2.2.map qZ)) (BR (wd q.1),qCZ s (wr q.1,q.2)):=by
 have hl:=qCv h
 have hw:=qF0 q.1
 have hd:=congrArg List.length (wdr q.1)
 simp only [List.length_append] at hd
 refine ⟨q.1.length+2,fun n hn=>?_⟩
 obtain ⟨k,rfl,hm⟩:=up1 hn
 refine qA (qLu hs k (pos s q.1) q.2.1 q.2.2.length (q.2.2.map qZ) q.1 k h (by omega)) (qD (decide_eq_true ⟨qJn _ _,by unfold pos;simp only;omega,by rw [qb];unfold pos;simp only;omega⟩) ?_)
 rw [qC]
 have e:(pos s (wr q.1))=pos s q.1+((wd q.1).length:Int):=by unfold pos;omega
 have x:=qMc (k:=(wd q.1).length) h
 rw [←e] at x
 have t:q.1.take (wd q.1).length=wd q.1:=by
  have:=List.take_left (l₁:=wd q.1) (l₂:=wr q.1)
  rwa [wdr] at this
 rw [t] at x
 show some ((BR s).extract (pos s q.1).toNat (pos s (wr q.1)).toNat,_)=_
 rw [x]
 rfl
theorem qGQ {s:List UInt8} (hs:s.length≤1000) {n:Nat} (b:Bool) (l:List Nd) (res:Int×PS):∀(k:Nat) (r acc:List UInt8) (M:Nat),r.length≤k→r<:+s→acc.length+r.length≤1001→r.length+1≤M→
  (∀w t,qBu acc r=some (w,t)→qo n 1 0 2 0 (BR w) 0 0 false false 0 0 false false [] (BR s) (pos s t) b l.length (l.map qZ)=some (qCD s res))→
  zC (qDS n) M (BR acc,BR s,pos s r,b,l.length,l.map qZ)=some (match qBu acc r with
   |none=> .inr (BR s,pos s [],b,l.length,l.map qZ)
   |some _=> .inl (qCD s res))
 |k,r,acc,0,_,_,_,h,_=>by omega
 |k,[],acc,M+1,_,h,_,_,_=>by
  exact qP (qO (decide_eq_false (show ¬pos s []<((BR s).size:Int) by rw [qb];unfold pos;simp)) rfl)
 |0,c::t,acc,M+1,hk,_,_,_,_=>by simp at hk
 |k+1,c::t,acc,M+1,hk,h,ha,hM,hr=>by
  have hl:=qCv h
  simp only [List.length_cons] at hl hM hk ha
  have g:=qKx h
  have p1:pos s (c::t)<((BR s).size:Int):=by rw [qb];unfold pos;simp only [List.length_cons];omega
  have p0:decide (0≤pos s (c::t))=true:=decide_eq_true (qJn _ _)
  have pa:=qI7 (k:=1) h (t:=t) rfl (by simp)
  have w1:IntKind.i64.wrap (pos s (c::t)+1)=pos s t:=by rw [qa (by unfold pos;omega)];exact pa
  by_cases hc:c=34
  ·subst hc
   have ht:=qNV h
   by_cases hq:t.head?=some 34
   ·obtain ⟨u,rfl⟩:=qI6 hq
    simp only [List.length_cons] at hl hM hk ha
    rw [qRR] at hr⊢
    have g2:=qKx ht
    have pb:=qI7 (k:=1) ht (t:=u) rfl (by simp)
    have w2:IntKind.i64.wrap (pos s (34::u)+1)=pos s u:=by rw [qa (by unfold pos;omega)];exact pb
    rw [qT (v':=(BR (acc++ [34]),BR s,pos s u,b,l.length,l.map qZ)) (by
     refine qD (decide_eq_true p1) (qD p0 (qA g (qO rfl (qO (decide_eq_false (show ¬IntKind.i64.wrap (pos s (34::34::u)+1)≥((BR s).size:Int) by rw [w1,qb];unfold pos;simp only [List.length_cons];omega)) (qD (decide_eq_true (show 0≤IntKind.i64.wrap (pos s (34::34::u)+1) by rw [w1];exact qJn _ _)) (qA (x:=34) (by show (BR s).toList[(IntKind.i64.wrap (pos s (34::34::u)+1)).toNat]?=_;rw [w1];exact g2) (qO rfl (qD (decide_eq_true (show (BR acc).size+1≤9223372036854775807 by rw [qb];omega)) ?_))))))))
     rw [qC]
     show some (Sum.inl (BR acc++BR [34],BR s,IntKind.i64.wrap (IntKind.i64.wrap (pos s (34::34::u)+1)+1),b,l.length,l.map qZ))=_
     rw [w1,w2,qLh])]
    exact qGQ hs b l res k u _ M (by omega) (qNV ht) (by simp;omega) (by omega) hr
   ·rw [qRS acc t hq] at hr⊢
    have hr:=hr acc t rfl
    refine qP (qD (decide_eq_true p1) (qD p0 (qA g (qO rfl ?_))))
    cases t with
    |nil=>
     refine qD (decide_eq_true (show IntKind.i64.wrap (pos s [34]+1)≥((BR s).size:Int) by rw [w1,qb];unfold pos;simp)) ?_
     rw [←w1] at hr
     exact qA hr rfl
    |cons d u=>
     have g2:=qKx ht
     have hd:¬d=34:=fun e=>hq (by rw [e];rfl)
     refine qO (decide_eq_false (show ¬IntKind.i64.wrap (pos s (34::d::u)+1)≥((BR s).size:Int) by rw [w1,qb];unfold pos;simp only [List.length_cons] at hl⊢;omega)) (qD (decide_eq_true (show 0≤IntKind.i64.wrap (pos s (34::d::u)+1) by rw [w1];exact qJn _ _)) (qA (x:=d) (by show (BR s).toList[(IntKind.i64.wrap (pos s (34::d::u)+1)).toNat]?=_;rw [w1];exact g2) (qD ?_ ?_)))
     ·rw [bne_iff_ne]
      intro e
      exact hd (UInt8.toNat_inj.1 (show d.toNat=34 by omega))
     ·rw [←w1] at hr
      exact qA hr rfl
  ·rw [qRT acc t hc] at hr⊢
   have hx:=qMc (k:=1) h
   rw [show ((1:Nat):Int)=1 from rfl] at hx pa
   have hx:(BR s).extract (pos s (c::t)).toNat (IntKind.i64.wrap (pos s (c::t)+1)).toNat=BR [c]:=by
    rw [w1,←pa];exact hx
   rw [qT (v':=(BR (acc++ [c]),BR s,pos s t,b,l.length,l.map qZ)) (by
    refine qD (decide_eq_true p1) (qD p0 (qA g (qD ?_ (qD (decide_eq_true (show 0≤pos s (c::t)∧pos s (c::t)≤IntKind.i64.wrap (pos s (c::t)+1)∧IntKind.i64.wrap (pos s (c::t)+1)≤((BR s).size:Int) by rw [w1,qb];exact ⟨qJn _ _,by unfold pos;simp only [List.length_cons];omega,by unfold pos;omega⟩)) (qD (decide_eq_true (show (BR acc).size+((BR s).extract (pos s (c::t)).toNat (IntKind.i64.wrap (pos s (c::t)+1)).toNat).size≤9223372036854775807 by rw [hx,qb,qb];simp;omega)) ?_)))))
    ·rw [bne_iff_ne]
     intro e
     exact hc (UInt8.toNat_inj.1 (show c.toNat=34 by omega))
    ·rw [qC]
     show some (Sum.inl (BR acc++(BR s).extract (pos s (c::t)).toNat (IntKind.i64.wrap (pos s (c::t)+1)).toNat,BR s,IntKind.i64.wrap (pos s (c::t)+1),b,l.length,l.map qZ))=_
     rw [hx,qLh,w1])]
   exact qGQ hs b l res k t _ M (by omega) (qNV h) (by simp;omega) (by omega) hr
theorem qQn {s:List UInt8} (hs:s.length≤1000) (q:PS) (h:q.1<:+s) (hn:q.2.2.length≤5000):Ev (qEP · (BR s) (pos s q.1) q.2.1 q.2.2.length (q.2.2.map qZ)) (qCD s (match qBu [] q.1 with
  |none=>(0,[],true,q.2.2)
  |some (w,t)=>qDd (nd1 (2,0,BR w)) (t,q.2))):=by
 have hl:=qCv h
 cases hq:qBu [] q.1 with
 |none=>
  refine ⟨q.1.length+2,fun n hn=>?_⟩
  obtain ⟨k,rfl,hm⟩:=up1 hn
  have lp:=qGQ hs (n:=k) q.2.1 q.2.2 (0,q) q.1.length q.1 [] k (Nat.le_refl _) h (by simp;omega) (by omega) (fun w t e=>by rw [hq] at e;cases e)
  rw [hq] at lp
  exact qA lp rfl
 |some wt=>
  obtain ⟨w,t⟩:=wt
  have hw:=qF2 _ _ _ (Nat.le_refl _) hq
  simp only [List.length_nil] at hw
  obtain ⟨n1,h1⟩:=qIx (s:=s) (nd1 (2,0,BR w)) (t,q.2) hn ⟨by simp [kd,nd1],by simp only [nd1,qb];omega⟩
  refine ⟨n1+q.1.length+2,fun n hn=>?_⟩
  obtain ⟨k,rfl,hm⟩:=up1 hn
  have lp:=qGQ hs (n:=k) q.2.1 q.2.2 (qDd (nd1 (2,0,BR w)) (t,q.2)) q.1.length q.1 [] k (Nat.le_refl _) h (by simp;omega) (by omega) (fun w' t' e=>by rw [hq] at e;cases e;exact h1 k (by omega))
  rw [hq] at lp
  exact qA lp rfl
theorem qOv:∀o∈qBx,(qAI o).toList≠ []∧(qAI o).size≤2:=by decide+kernel
theorem qQo:∀o∈qBx,1≤o∧o≤11:=by decide
def opR:List (List PV):=qBx.map qA1
def rsL (level:Int) (r:List UInt8):List Int→List UInt8
 | []=>r
 |o::l=>if lvl o=level then rsL level (tb r) l else rsL level r l
theorem qLk {s:List UInt8} (hs:s.length≤1000) {n:Nat} (level:Int) (R:List UInt8) (hR:tb R=R) (m:Nat) (rows:List (List PV))
  (h1:∀o∈qBx,qB2 n o=some (lvl o)) (h2:∀o∈qBx,qCV n o=some (qAI o)):
  ∀(k i:Nat) (r:List UInt8) (M:Nat),i+k=11→k+1≤M→tb r=R→
  (∀r',tb r'=R→(r'=r∨r'=R)→∀o∈qBx,qAA n (qAI o) (BR s) (pos s r') false m rows=some (if (qAI o).toList.isPrefixOf R=true then (true,BR s,pos s (R.drop (qAI o).size),false,m,rows) else (false,BR s,pos s R,false,m,rows)))→
  zC (qD1 n) M (level,11,(i:Int),opR,BR s,pos s r,false,m,rows)=some (if qDP level R (qBx.drop i)=0 then .inr (BR s,pos s (rsL level r (qBx.drop i)),false,m,rows) else .inl (qDP level R (qBx.drop i),BR s,pos s (R.drop (qAI (qDP level R (qBx.drop i))).size),false,m,rows))
 |k,i,r,0,_,h,_,_=>by omega
 |0,i,r,M+1,hk,_,_,_=>by
  have hi:i=11:=by omega
  subst hi
  exact qP (qO rfl rfl)
 |k+1,i,r,M+1,hk,hM,hr,h3=>by
  have hi:i<qBx.length:=by simp [qBx];omega
  obtain ⟨o,ho⟩:∃o,qBx[i]?=some o:=⟨_,List.getElem?_eq_getElem hi⟩
  have hin:=List.mem_of_getElem? ho
  have hR2:opR[i]?=some [PV.i .i64 o]:=by simp [opR,List.getElem?_map,ho,qA1]
  have hc:zE .i64 [PV.i .i64 o] 0=some o:=rfl
  have hd:qBx.drop i=o::qBx.drop (i+1):=qC1 ho
  have w5:IntKind.i64.wrap ((i:Int)+1)=((i+1:Nat):Int):=by rw [qa (by omega)];omega
  have g1:decide ((i:Int)<((11:Nat):Int))=true:=decide_eq_true (by omega)
  have g2:decide (11=opR.length∧0≤(i:Int)∧(i:Int)<((11:Nat):Int))=true:=decide_eq_true ⟨rfl,by omega,by omega⟩
  have h0:o≠0:=by have:=qQo o hin;omega
  rw [hd]
  by_cases hl:lvl o=level
  ·have is:=h3 r hr (.inl rfl) o hin
   by_cases hp:(qAI o).toList.isPrefixOf R=true
   ·have e:qDP level R (o::qBx.drop (i+1))=o:=by unfold qDP;rw [if_pos ⟨hl,hp⟩]
    rw [e,if_neg h0]
    rw [if_pos hp] at is
    exact qP (qD g1 (qD g2 (qA hR2 (qA hc (qA (h1 o hin) (qD (beq_iff_eq.2 hl) (qD g2 (qA hR2 (qA hc (qA (h2 o hin) (qA is (qD rfl (qD g2 (qA hR2 (qA hc rfl)))))))))))))))
   ·have e:qDP level R (o::qBx.drop (i+1))=qDP level R (qBx.drop (i+1)):=by
     conv=>lhs;unfold qDP
     rw [if_neg (fun h=>hp h.2)]
    have e2:rsL level r (o::qBx.drop (i+1))=rsL level R (qBx.drop (i+1)):=by
     conv=>lhs;unfold rsL
     rw [if_pos hl,hr]
    rw [e,e2]
    rw [if_neg hp] at is
    rw [qT (v':=(level,11,((i+1:Nat):Int),opR,BR s,pos s R,false,m,rows)) (by
     refine qD g1 (qD g2 (qA hR2 (qA hc (qA (h1 o hin) (qD (beq_iff_eq.2 hl) (qD g2 (qA hR2 (qA hc (qA (h2 o hin) (qA is (qO rfl ?_)))))))))))
     rw [qC,w5])]
    exact qLk hs level R hR m rows h1 h2 k (i+1) R M (by omega) (by omega) hR (fun r' a b=>h3 r' a (.inr (b.elim id id)))
  ·have e:qDP level R (o::qBx.drop (i+1))=qDP level R (qBx.drop (i+1)):=by
    conv=>lhs;unfold qDP
    rw [if_neg (fun h=>hl h.1)]
   have e2:rsL level r (o::qBx.drop (i+1))=rsL level r (qBx.drop (i+1)):=by
    conv=>lhs;unfold rsL
    rw [if_neg hl]
   rw [e,e2]
   rw [qT (v':=(level,11,((i+1:Nat):Int),opR,BR s,pos s r,false,m,rows)) (by
    refine qD g1 (qD g2 (qA hR2 (qA hc (qA (h1 o hin) (qO (beq_eq_false_iff_ne.2 hl) ?_)))))
    rw [qC,w5])]
   exact qLk hs level R hR m rows h1 h2 k (i+1) r M (by omega) (by omega) hr h3
theorem qRZ {level:Int} (h:1≤level∧level≤4) (r:List UInt8):rsL level r qBx=tb r:=by
 have c:level=1∨level=2∨level=3∨level=4:=by omega
 rcases c with rfl|rfl|rfl|rfl<;>simp [rsL,qBx,lvl,qCC]
theorem qRa {s:List UInt8} (hs:s.length≤1000) {level:Int} (hl:1≤level∧level≤4) (q:PS) (hb:q.2.1=false) (h:q.1<:+s):Ev (qD2 · level (BR s) (pos s q.1) q.2.1 q.2.2.length (q.2.2.map qZ)) (qCD s (sOp level q)):=by
 obtain ⟨n1,h1⟩:=qB9 (F:=fun o n=>qB2 n o) (f:=lvl) qBx (fun o _=>qHy o)
 obtain ⟨n2,h2⟩:=qB9 (F:=fun o n=>qCV n o) (f:=qAI) qBx (fun o ho=>qIr o (qQo o ho))
 obtain ⟨n3,h3⟩:=qB9 (F:=fun o n=>qAA n (qAI o) (BR s) (pos s q.1) q.2.1 q.2.2.length (q.2.2.map qZ)) (f:=fun o=>((sIs (qAI o).toList q).1,qCZ s (sIs (qAI o).toList q).2)) qBx (fun o ho=>by
  have:=qF3 hs (qAI o).toList (by rw [qAO];have:=(qOv o ho).2;omega) q h
  rwa [qH0] at this)
 obtain ⟨n4,h4⟩:=qB9 (F:=fun o n=>qAA n (qAI o) (BR s) (pos s (tb q.1)) q.2.1 q.2.2.length (q.2.2.map qZ)) (f:=fun o=>((sIs (qAI o).toList (tb q.1,q.2)).1,qCZ s (sIs (qAI o).toList (tb q.1,q.2)).2)) qBx (fun o ho=>by
  have:=qF3 hs (qAI o).toList (by rw [qAO];have:=(qOv o ho).2;omega) (tb q.1,q.2) (qPl h)
  rwa [qH0] at this)
 refine ⟨n1+n2+n3+n4+13,fun n hn=>?_⟩
 obtain ⟨k,rfl,hm⟩:=up1 hn
 have lp:=qLk hs (n:=k) level (tb q.1) (qCC q.1) q.2.2.length (q.2.2.map qZ) (h1 k (by omega)) (h2 k (by omega)) 11 0 q.1 k (by omega) (by omega) rfl (fun r' _ hr' o ho=>by
  rcases hr' with rfl|rfl
  ·have:=h3 k (by omega) o ho
   rw [hb] at this
   refine this.trans ?_
   unfold sIs
   rw [if_neg (by rw [hb];simp)]
   by_cases hp:(qAI o).toList.isPrefixOf (tb q.1)=true
   ·rw [if_pos hp,if_pos hp,qAO];simp only [qCZ,hb]
   ·rw [if_neg hp,if_neg hp];simp only [qCZ,hb]
  ·have:=h4 k (by omega) o ho
   rw [hb] at this
   refine this.trans ?_
   unfold sIs
   rw [if_neg (by rw [hb];simp)]
   simp only [qCC]
   by_cases hp:(qAI o).toList.isPrefixOf (tb q.1)=true
   ·rw [if_pos hp,if_pos hp,qAO];simp only [qCZ,hb]
   ·rw [if_neg hp,if_neg hp];simp only [qCZ,hb])
 rw [List.drop_zero,qRZ hl] at lp
 unfold sOp
 rw [if_neg (by rw [hb];simp)]
 show qD2 (k+1) level (BR s) (pos s q.1) q.2.1 q.2.2.length (q.2.2.map qZ)=_
 rw [hb]
 by_cases h0:qDP level (tb q.1) qBx=0
 ·rw [if_pos h0] at lp
  rw [if_pos h0]
  refine qA lp ?_
  simp only [qCD,qCZ,hb,h0]
  rfl
 ·rw [if_neg h0] at lp
  rw [if_neg h0]
  refine qA lp ?_
  simp only [qCD,qCZ,hb]
  rfl
theorem qNX {s:List UInt8} (hs:s.length≤1000) {n:Nat} (r:List UInt8) (hr:r<:+s) (b:Bool) (l:List Nd)
  (h1:∀i,1≤i∧i≤5→qBG n i=some (qe i)) (h2:∀i,1≤i∧i≤5→qCg n i=some (4,i,em))
  (h4:∀i,1≤i∧i≤5→qo n 1 0 4 i em 0 0 false false 0 0 false false [] (BR s) (pos s (r.drop ((qe i).size-1))) b l.length (l.map qZ)=some (qCD s (qDd (nd1 (4,i,em)) (r.drop ((qe i).size-1),b,l)))):
  ∀(k:Nat) (i:Int) (M:Nat),1≤i→i+k=6→k+1≤M→zC (qCI n) M (i,BR s,pos s r,b,l.length,l.map qZ)=some (match qPG r i k with
   |some e=> .inl (qCD s (qDd (nd1 (4,e,em)) (r.drop ((qe e).size-1),b,l)))
   |none=> .inr (BR s,pos s r,b,l.length,l.map qZ))
 |k,i,0,_,_,h=>by omega
 |0,i,M+1,hi,hk,h=>by
  exact qP (qO (decide_eq_false (show ¬i≤5 by omega)) rfl)
 |k+1,i,M+1,hi,hk,h=>by
  have hi5:1≤i∧i≤5:=⟨hi,by omega⟩
  have hsz:1≤(qe i).size∧(qe i).size≤7:=by
   have c:i=1∨i=2∨i=3∨i=4∨i=5:=by omega
   rcases c with rfl|rfl|rfl|rfl|rfl<;>decide+kernel
  have hx:(qe i).extract ((1:Int)).toNat (((qe i).size:Nat):Int).toNat=BR (qe i).toList.tail:=by
   conv=>lhs;rw [←qH0 (qe i)]
   rw [qE1,qb,qAO]
   congr 1
   rw [Int.toNat_natCast,List.take_of_length_le (by rw [qAO];omega)]
   exact List.drop_one
  have hxs:((qe i).extract ((1:Int)).toNat (((qe i).size:Nat):Int).toNat).size=(qe i).size-1:=by
   rw [hx,qb,List.length_tail,qAO]
  have hl:=qCv hr
  have w1:IntKind.i64.wrap (pos s r+(((qe i).extract ((1:Int)).toNat (((qe i).size:Nat):Int).toNat).size:Int))=pos s r+(((qe i).size-1:Nat):Int):=by
   rw [hxs];exact qa (by unfold pos;omega)
  have w2:IntKind.i64.wrap (i+1)=i+1:=qa (by omega)
  have ih:=qNX hs r hr b l h1 h2 h4 k (i+1) M (by omega) (by omega) (by omega)
  unfold qPG
  by_cases hf:pos s r+(((qe i).size-1:Nat):Int)≤(s.length:Int)
  ·have hk2:(qe i).size-1≤r.length:=by unfold pos at hf;omega
   have cmp:(((BR s).extract (pos s r).toNat (IntKind.i64.wrap (pos s r+(((qe i).extract ((1:Int)).toNat (((qe i).size:Nat):Int).toNat).size:Int))).toNat).toList==((qe i).extract ((1:Int)).toNat (((qe i).size:Nat):Int).toNat).toList)=true↔(qe i).toList.tail.isPrefixOf r=true:=by
    rw [w1,qMc hr,hx,qAJ,qAJ,beq_iff_eq,List.isPrefixOf_iff_prefix,List.prefix_iff_eq_take,List.length_tail,qAO]
    exact ⟨fun e=>e.symm,fun e=>e.symm⟩
   have g1:decide (IntKind.i64.wrap (pos s r+(((qe i).extract ((1:Int)).toNat (((qe i).size:Nat):Int).toNat).size:Int))≤((BR s).size:Int))=true:=decide_eq_true (by rw [w1,qb];exact hf)
   have g2:decide (0≤pos s r∧pos s r≤IntKind.i64.wrap (pos s r+(((qe i).extract ((1:Int)).toNat (((qe i).size:Nat):Int).toNat).size:Int))∧IntKind.i64.wrap (pos s r+(((qe i).extract ((1:Int)).toNat (((qe i).size:Nat):Int).toNat).size:Int))≤((BR s).size:Int))=true:=decide_eq_true (by rw [w1,qb];exact ⟨qJn _ _,by omega,hf⟩)
   by_cases hp:(qe i).toList.tail.isPrefixOf r=true
   ·rw [if_pos hp]
    have h4:=h4 i hi5
    rw [←qI7 hr rfl hk2,←w1] at h4
    exact qP (qD (decide_eq_true (show i≤5 by omega)) (qA (h1 i hi5) (qD (decide_eq_true ⟨by decide,by omega,Int.le_refl _⟩) (qD g1 (qD g2 (qD (cmp.2 hp) (qA (h2 i hi5) (qA h4 rfl))))))))
   ·rw [if_neg hp]
    rw [qT (v':=(i+1,BR s,pos s r,b,l.length,l.map qZ)) (by
     refine qD (decide_eq_true (show i≤5 by omega)) (qA (h1 i hi5) (qD (decide_eq_true ⟨by decide,by omega,Int.le_refl _⟩) (qD g1 (qD g2 (qO (by rw [Bool.eq_false_iff];exact fun e=>hp (cmp.1 e)) ?_)))))
     rw [qC,w2])]
    exact ih
  ·have hp:¬(qe i).toList.tail.isPrefixOf r=true:=by
    intro e
    have:=(List.isPrefixOf_iff_prefix.1 e).length_le
    rw [List.length_tail,qAO] at this
    unfold pos at hf
    omega
   rw [if_neg hp]
   rw [qT (v':=(i+1,BR s,pos s r,b,l.length,l.map qZ)) (by
    refine qD (decide_eq_true (show i≤5 by omega)) (qA (h1 i hi5) (qD (decide_eq_true ⟨by decide,by omega,Int.le_refl _⟩) (qO (decide_eq_false (by rw [w1,qb];exact hf)) ?_)))
    rw [qC,w2])]
   exact ih
theorem qRG {s:List UInt8} (hs:s.length≤1000) (r:List UInt8) (hr:r<:+s) (b:Bool) (l:List Nd) (hl:l.length≤5000):∃n0,∀n,n0≤n→∀M,n0≤M→zC (qCI n) M (1,BR s,pos s r,b,l.length,l.map qZ)=some (match qPG r 1 5 with
   |some e=> .inl (qCD s (qDd (nd1 (4,e,em)) (r.drop ((qe e).size-1),b,l)))
   |none=> .inr (BR s,pos s r,b,l.length,l.map qZ)):=by
 obtain ⟨n1,h1⟩:=qFF (F:=qBG) (f:=qe) (lo:=1) (by decide) (fun i hi=>qFw i ⟨by omega,hi.2⟩)
 obtain ⟨n2,h2⟩:=qFF (F:=qCg) (f:=fun i=>(4,i,em)) (lo:=1) (by decide) (fun i _=>qMR i)
 obtain ⟨n4,h4⟩:=qFF (F:=fun n i=>qo n 1 0 4 i em 0 0 false false 0 0 false false [] (BR s) (pos s (r.drop ((qe i).size-1))) b l.length (l.map qZ)) (f:=fun i=>qCD s (qDd (nd1 (4,i,em)) (r.drop ((qe i).size-1),b,l))) (lo:=1) (by decide) (fun i _=>qIx (s:=s) (nd1 (4,i,em)) (r.drop ((qe i).size-1),b,l) hl ⟨by simp [kd,nd1],by simp [nd1,em];decide⟩)
 exact ⟨n1+n2+n4+7,fun n hn M hM=>qNX hs r hr b l (h1 n (by omega)) (h2 n (by omega)) (h4 n (by omega)) 5 1 M (by omega) (by omega) (by omega)⟩
theorem qRH:∃n0,∀n,n0≤n→∀i,1≤i∧i≤10→qCG n i=some (fnS i):=by
 obtain ⟨n1,h1⟩:=qB9 (F:=fun (i:Nat) n=>qCG n ((i:Int)+1)) (f:=fun i=>fnS ((i:Int)+1)) (List.range 10) (fun i hi=>qKp _ (by have:=List.mem_range.1 hi;omega))
 refine ⟨n1,fun n hn i hi=>?_⟩
 have:=h1 n hn (i-1).toNat (List.mem_range.2 (by omega))
 rwa [show (((i-1).toNat:Nat):Int)+1=i by omega] at this
theorem qRb {i j:Int} (hi:1≤i∧i≤10) (hj:1≤j∧j≤10) (h:(fnS i).toList=(fnS j).toList):i=j:=by
 have t:∀a:Fin 10,∀b:Fin 10,(fnS (((a.val:Nat):Int)+1)).toList=(fnS (((b.val:Nat):Int)+1)).toList→a=b:=by decide+kernel
 have:=t ⟨(i-1).toNat,by omega⟩ ⟨(j-1).toNat,by omega⟩ (by
  simp only
  rw [show (((i-1).toNat:Nat):Int)+1=i by omega,show (((j-1).toNat:Nat):Int)+1=j by omega]
  exact h)
 have:=congrArg Fin.val this
 simp only at this
 omega
theorem qOQ {g:G_spec_l3Rd_row} {n:Nat} {s:List UInt8} (w:List UInt8) (q:PS) (h1:∀i,1≤i∧i≤10→qCG n i=some (fnS i)):
  ∀(k:Nat) (i:Int) (M:Nat),1≤i→i+k=11→k+1≤M→(∀j,i≤j∧j≤10→(fnS j).toList≠w)→zC (qCp g n) M (BR w,i,qCZ s q)=some (.inr (BR w,qCZ s q))
 |k,i,0,_,_,h,_=>by omega
 |0,i,M+1,hi,hk,h,_=>qP (qO (decide_eq_false (show ¬i≤10 by omega)) rfl)
 |k+1,i,M+1,hi,hk,h,hn=>by
  have w1:IntKind.i64.wrap (i+1)=i+1:=qa (by omega)
  rw [qT (v':=(BR w,i+1,qCZ s q)) (by
   refine qD (decide_eq_true (show i≤10 by omega)) (qA (h1 i ⟨hi,by omega⟩) (qO (by rw [beq_eq_false_iff_ne];show (fnS i).toList≠(BR w).toList;rw [qAJ];exact hn i ⟨Int.le_refl _,by omega⟩) ?_))
   rw [qC,w1])]
  exact qOQ w q h1 k (i+1) M (by omega) (by omega) (by omega) (fun j hj=>hn j ⟨by omega,hj.2⟩)
theorem qI8 {g:G_spec_l3Rd_row} {n:Nat} {s:List UInt8} (w:List UInt8) (q:PS) (res:Int→Int×PS) (h1:∀i,1≤i∧i≤10→qCG n i=some (fnS i))
  (h2:qAA n ⟨#[40]⟩ (BR s) (pos s q.1) q.2.1 q.2.2.length (q.2.2.map qZ)=some ((sIs [40] q).1,qCZ s (sIs [40] q).2)):
  ∀(k:Nat) (i:Int) (M:Nat),1≤i→i+k=11→k+1≤M→(∀op,qFH w i k=some op→(sIs [40] q).1=true→g.spec_l3Rd_call op (BR s) (pos s (sIs [40] q).2.1) (sIs [40] q).2.2.1 (sIs [40] q).2.2.2.length ((sIs [40] q).2.2.2.map qZ)=some (qCD s (res op)))→
   zC (qCp g n) M (BR w,i,qCZ s q)=some (match qFH w i k with
   |some op=>if (sIs [40] q).1=true then .inl (qCD s (res op)) else .inr (BR w,qCZ s (sIs [40] q).2)
   |none=> .inr (BR w,qCZ s q))
 |k,i,0,_,_,h,_=>by omega
 |0,i,M+1,hi,hk,h,_=>qP (qO (decide_eq_false (show ¬i≤10 by omega)) rfl)
 |k+1,i,M+1,hi,hk,h,hc=>by
  have w1:IntKind.i64.wrap (i+1)=i+1:=qa (by omega)
  unfold qFH at hc⊢
  by_cases hq:(fnS i).toList=w
  ·rw [if_pos hq] at hc⊢
   have hqb:((fnS i).toList==(BR w).toList)=true:=by rw [beq_iff_eq,qAJ];exact hq
   simp only
   cases hi2:(sIs [40] q).1 with
   |true=>
    rw [if_pos rfl]
    exact qP (qD (decide_eq_true (show i≤10 by omega)) (qA (h1 i ⟨hi,by omega⟩) (qD hqb (qA h2 (qD hi2 (qA (hc i rfl hi2) rfl))))))
   |false=>
    rw [if_neg (by simp)]
    rw [qT (v':=(BR w,i+1,qCZ s (sIs [40] q).2)) (by
     refine qD (decide_eq_true (show i≤10 by omega)) (qA (h1 i ⟨hi,by omega⟩) (qD hqb (qA h2 (qO hi2 ?_))))
     rw [qC,w1])]
    exact qOQ w _ h1 k (i+1) M (by omega) (by omega) (by omega) (fun j hj e=>by
     have:=qRb (i:=i) (j:=j) ⟨hi,by omega⟩ ⟨by omega,hj.2⟩ (hq.trans e.symm)
     omega)
  ·rw [if_neg hq] at hc⊢
   rw [qT (v':=(BR w,i+1,qCZ s q)) (by
    refine qD (decide_eq_true (show i≤10 by omega)) (qA (h1 i ⟨hi,by omega⟩) (qO (by rw [beq_eq_false_iff_ne];show (fnS i).toList≠(BR w).toList;rw [qAJ];exact hq) ?_))
    rw [qC,w1])]
   exact qI8 w q res h1 h2 k (i+1) M (by omega) (by omega) (by omega) hc
structure Go (k:Nat) (q q':PS):Prop where
 suf:q'.1<:+q.1
 sum:q'.2.2.length+q'.1.length+k≤q.2.2.length+q.1.length
 sm:(∀x∈q.2.2,qN4 x)→∀x∈q'.2.2,qN4 x
theorem Go.refl (q:PS):Go 0 q q:=⟨List.suffix_rfl,Nat.le_refl _,id⟩
theorem Go.trans {a b:Nat} {p q r:PS} (h:Go a p q) (h':Go b q r):Go (a+b) p r:=⟨h'.suf.trans h.suf,by have:=h.sum;have:=h'.sum;omega,fun e=>h'.sm (h.sm e)⟩
theorem Go.tr0 {p q r:PS} (h:Go 0 p q) (h':Go 0 q r):Go 0 p r:=h.trans h'
theorem Go.add {p q:PS} {x:Nd} (h:Go 1 p q) (hx:qN4 x):Go 0 p (qDd x q).2:=by
 refine ⟨h.suf,?_,fun e y hy=>?_⟩
 ·have:=h.sum
  simp only [qDd,List.length_append,List.length_singleton]
  omega
 ·simp only [qDd,List.mem_append,List.mem_singleton] at hy
  rcases hy with hy|rfl
  ·exact h.sm e y hy
  ·exact hx
theorem Go.weak {k:Nat} {p q:PS} (h:Go k p q):Go 0 p q:=⟨h.suf,by have:=h.sum;omega,h.sm⟩
theorem Go.of (q:PS) {r:List UInt8} (b:Bool) {k:Nat} (h:r<:+q.1) (hk:r.length+k≤q.1.length):Go k q (r,b,q.2.2):=⟨h,by simp only;omega,id⟩
theorem qKy (q:PS):Go 0 q (tb q.1,q.2):=⟨List.dropWhile_suffix _,by have:=qy q.1;simp only;omega,id⟩
theorem qOR (q:PS):Go 0 q (wr (tb q.1),q.2):=⟨(List.dropWhile_suffix _).trans (List.dropWhile_suffix _),by have:=qy q.1;have:=qF0 (tb q.1);simp only;omega,id⟩
theorem qQp (q:PS) (h:wd (tb q.1)≠ []):Go 1 q (wr (tb q.1),q.2):=⟨(List.dropWhile_suffix _).trans (List.dropWhile_suffix _),by
 have:=qy q.1
 have e:=congrArg List.length (wdr (tb q.1))
 have:=List.length_pos_iff.2 h
 simp only [List.length_append] at e
 simp only;omega,id⟩
theorem qJo {w:List UInt8} {q:PS} (h:(sIs w q).1=true):w<+:tb q.1∧(sIs w q).2=((tb q.1).drop w.length,q.2)∧q.2.1=false:=by
 unfold sIs at h⊢
 split at h
 ·cases h
 ·rename_i hb
  rw [if_neg hb]
  split at h
  ·rename_i hp
   rw [if_pos hp]
   exact ⟨List.isPrefixOf_iff_prefix.1 hp,rfl,by rw [Bool.eq_false_iff];exact hb⟩
  ·cases h
theorem qOS {w:List UInt8} {q:PS} (h:(sIs w q).1=false):(sIs w q).2=(tb q.1,q.2):=by
 unfold sIs at h⊢
 split at h
 ·rename_i hb;rw [if_pos hb]
 ·rename_i hb
  rw [if_neg hb]
  split at h
  ·cases h
  ·rename_i hp;rw [if_neg hp]
theorem qIy (w:List UInt8) (q:PS):Go 0 q (sIs w q).2:=by
 cases h:(sIs w q).1 with
 |true=>
  obtain ⟨_,h2,_⟩:=qJo h
  rw [h2]
  exact Go.tr0 (qKy q) ⟨List.drop_suffix _ _,by simp,id⟩
 |false=>rw [qOS h];exact qKy q
theorem qEK {w:List UInt8} (hw:w≠ []) {q:PS} (h:(sIs w q).1=true):Go 1 q (sIs w q).2:=by
 obtain ⟨h1,h2,_⟩:=qJo h
 rw [h2]
 have l1:=h1.length_le
 have l2:=List.length_pos_iff.2 hw
 have:=qy q.1
 exact ⟨(List.drop_suffix _ _).trans (List.dropWhile_suffix _),by simp;omega,id⟩
theorem qNY {k:Nat} {p q:PS} (h:Go k p q):Go k p (qKK q):=⟨h.suf,h.sum,h.sm⟩
theorem qQq:∀(t r:List UInt8),(tb r).length≤(tb (t++r)).length
 | [],r=>Nat.le_refl _
 |c::t,r=>by
  have ih:=qQq t r
  have:=qy (t++r)
  by_cases hc:c=32
  ·rw [show tb (c::t++r)=tb (t++r) by simp [tb,hc]];exact ih
  ·rw [show tb (c::t++r)=c::(t++r) by simp [tb,hc]]
   simp only [List.length_cons];omega
theorem Go.tb {k:Nat} {p q:PS} (h:Go k p q):(tb q.1).length≤(tb p.1).length:=by
 obtain ⟨t,ht⟩:=h.suf
 rw [←ht];exact qQq t q.1
theorem qQA {w:List UInt8} (hw:w≠ []) {q:PS} (h:(sIs w q).1=true):(tb (sIs w q).2.1).length<(tb q.1).length:=by
 obtain ⟨h1,h2,_⟩:=qJo h
 rw [h2]
 exact qOt hw h1
theorem qQB (level:Int) (r:List UInt8):∀l:List Int,qDP level r l≠0→qDP level r l∈l∧(qAI (qDP level r l)).toList<+:r
 | [],h=>absurd rfl h
 |o::l,h=>by
  unfold qDP at h⊢
  split at h
  ·rename_i hc
   rw [if_pos hc]
   exact ⟨List.mem_cons_self ..,List.isPrefixOf_iff_prefix.1 hc.2⟩
  ·rename_i hc
   rw [if_neg hc]
   have:=qQB level r l h
   exact ⟨List.mem_cons_of_mem _ this.1,this.2⟩
theorem qRM (level:Int) (q:PS):Go 0 q (sOp level q).2∧((sOp level q).1≠0→Go 1 q (sOp level q).2∧(tb (sOp level q).2.1).length<(tb q.1).length):=by
 unfold sOp
 split
 ·exact ⟨qKy q,fun h=>absurd rfl h⟩
 ·simp only
  by_cases h:qDP level (tb q.1) qBx=0
  ·rw [if_pos h]
   exact ⟨qKy q,fun e=>absurd h e⟩
  ·rw [if_neg h]
   obtain ⟨h1,h2⟩:=qQB level (tb q.1) qBx h
   have ne:=(qOv _ h1).1
   have l1:=h2.length_le
   have l2:=List.length_pos_iff.2 ne
   rw [qAO] at l1 l2
   have l3:=qy q.1
   have g:Go 1 q ((tb q.1).drop (qAI (qDP level (tb q.1) qBx)).size,q.2):=⟨(List.drop_suffix _ _).trans (List.dropWhile_suffix _),by simp;omega,id⟩
   have t:=qOt ne h2
   rw [qAO] at t
   exact ⟨g.weak,fun _=>⟨g,t⟩⟩
theorem qLl:∀(k:Nat) (acc r:List UInt8) {w t:List UInt8},r.length≤k→qBu acc r=some (w,t)→t<:+r
 |k,acc,[],w,t,hk,h=>by simp [qBu] at h
 |0,acc,c::r,w,t,hk,h=>by simp at hk
 |k+1,acc,c::r,w,t,hk,h=>by
  simp only [List.length_cons] at hk
  by_cases hc:c=34
  ·subst hc
   by_cases hq:r.head?=some 34
   ·obtain ⟨u,rfl⟩:=qI6 hq
    rw [qRR] at h
    simp only [List.length_cons] at hk
    have:=qLl k _ u (by omega) h
    exact this.trans ((List.suffix_cons 34 u).trans (List.suffix_cons 34 _))
   ·rw [qRS acc r hq] at h
    cases h
    exact List.suffix_cons 34 _
  ·rw [qRT acc r hc] at h
   exact (qLl k _ r (by omega) h).trans (List.suffix_cons c _)
def Ks:SJ→PS→Prop
 | .call _ kids,q=>q.2.1=true∨kids.length+q.1.length≤1500
 |_,_=>True
theorem qHe {k op:Int} {kids:List Int} (h:kids.length≤2000):qN4 (ndK k op kids):=⟨h,by simp [ndK,em];decide⟩
theorem qBj {k:Nat} {p q:PS} (h:Go k p q):q.1.length≤p.1.length:=h.suf.length_le
theorem qEN (H:RdOK):∀(f:Nat) (j:SJ) (q:PS),q.1.length≤1000→Ks j q→Go 0 q (sP f j q).2
 |0,j,q,_,_=>Go.refl q
 |f+1,.row level,q,hr,_=>by
  unfold sP
  split
  ·exact Go.refl q
  ·split
   ·exact qEN H f .one q hr trivial
   ·have a:=qEN H f (.row (level+1)) q hr trivial
    exact a.tr0 (qEN H f (.rl level _) _ (Nat.le_trans (qBj a) hr) trivial)
 |f+1,.rl level a,q,hr,_=>by
  unfold sP
  split
  ·exact Go.refl q
  ·simp only
   have o:=qRM level q
   split
   ·exact o.1
   ·rename_i h0
    have o1:=(o.2 h0).1
    have b:=qEN H f (.row (level+1)) (sOp level q).2 (Nat.le_trans (qBj o1) hr) trivial
    have c:=Go.add (x:=ndK 5 (sOp level q).1 [a,(sP f (.row (level+1)) (sOp level q).2).1]) (o1.trans b) (qHe (by simp))
    exact c.tr0 (qEN H f (.rl level _) _ (Nat.le_trans (qBj c) hr) trivial)
 |f+1,.one,q,hr,_=>by
  unfold sP
  split
  ·rename_i h
   have a:=qEK (by simp) h
   have b:=qEN H f (.row 5) (sIs [45] q).2 (Nat.le_trans (qBj a) hr) trivial
   exact Go.add (a.trans b) (qHe (by simp))
  ·have a:=qIy [45] q
   split
   ·rename_i h
    have c:=a.tr0 (qEK (by simp) h).weak
    have b:=qEN H f (.row 1) (sIs [40] (sIs [45] q).2).2 (Nat.le_trans (qBj c) hr) trivial
    have d:=(c.tr0 b).tr0 (qIy [41] _)
    simp only
    split
    ·exact d
    ·exact qNY d
   ·simp only
    have t:=qKy q
    split
    ·rename_i h
     have c:=qEK (by simp) h
     obtain ⟨_,e,_⟩:=qJo h
     split
     ·exact ⟨List.nil_suffix,by simp,id⟩
     ·rename_i w u hq
      have d:=qLl _ _ _ (Nat.le_refl _) hq
      have d2:=d.length_le
      have dz:=qF2 _ _ _ (Nat.le_refl _) hq
      have g:=t.trans c
      have l:=qBj g
      have sg:=g.sum
      have eq:(sIs [34] (tb q.1,q.2)).2.2=q.2:=by rw [e]
      rw [eq] at sg
      simp only [List.length_nil] at dz
      exact Go.add (q:=(u,q.2)) ⟨d.trans g.suf,by simp only;omega,id⟩ ⟨by simp [kd,nd1],by simp only [nd1,qb];omega⟩
    ·split
     ·rename_i h
      have c:=qEK (by simp) h
      obtain ⟨_,e,_⟩:=qJo h
      have g:=t.trans c
      have l:=qBj g
      have sg:=g.sum
      have eq:(sIs [35] (tb q.1,q.2)).2.2=q.2:=by rw [e]
      rw [eq] at sg
      split
      ·exact Go.add (q:=(_,q.2)) ⟨(List.drop_suffix _ _).trans g.suf,by simp;omega,id⟩ ⟨by simp [kd,nd1],by simp [nd1,em];decide⟩
      ·exact ⟨g.suf,by simp only;omega,id⟩
     ·have w:=qOR q
      split
      ·split
       ·have c:=w.tr0 (qIy [40] _)
        exact c.tr0 (qEN H f (.call _ []) _ (Nat.le_trans (qBj c) hr) (.inr (by have:=qBj c;simp only [List.length_nil];omega)))
       ·exact qNY (w.tr0 (qIy [40] _))
      ·split
       ·rename_i hv
        exact Go.add (qQp q hv.2) ⟨by simp [kd,nd1],qIw hv.1 (H.v _ (qPh _) hv.2 hv.1)⟩
       ·split
        ·rename_i hp
         exact Go.add (qQp q (fun e=>by rw [e,H.p0] at hp;cases hp)) ⟨by simp [kd,ndC],by simp [ndC,em];decide⟩
        ·exact qNY w
 |f+1,.call op kids,q,hr,hk=>by
  unfold sP
  split
  ·exact Go.refl q
  ·rename_i hb
   have hk:kids.length+q.1.length≤1500:=hk.elim (fun h=>absurd h hb) id
   have a:=qEN H f .arg q hr trivial
   simp only
   split
   ·rename_i h
    exact Go.add (a.trans (qEK (by simp) h)) (qHe (by simp;omega))
   ·have c:=a.tr0 (qIy [41] _)
    split
    ·rename_i h
     have d:=c.trans (qEK (by simp) h)
     obtain ⟨e1,e2,_⟩:=qJo h
     have l:=e1.length_le
     have l2:=qBj c
     have l3:=qy (sIs [41] (sP f .arg q).2).2.1
     simp only [List.length_cons,List.length_nil] at l
     exact d.weak.tr0 (qEN H f (.call op _) _ (Nat.le_trans (qBj d) hr) (.inr (by rw [e2];simp;omega)))
    ·have d:=qNY (c.tr0 (qIy [44] _))
     exact d.tr0 (qEN H f (.call op _) _ (Nat.le_trans (qBj d) hr) (.inl rfl))
 |f+1,.arg,q,hr,_=>by
  unfold sP
  simp only
  have w:=qOR q
  split
  ·rename_i h
   have c:=w.trans (qEK (by simp) h.2)
   have d:=c.trans (qOR _)
   split
   ·exact Go.add d ⟨by simp [kd,ndA],by simp [ndA,em];decide⟩
   ·exact ⟨d.suf,by have:=d.sum;simp only at this⊢;omega,d.sm⟩
  ·have t:=qKy q
   exact t.tr0 (qEN H f (.row 1) _ (Nat.le_trans (qBj t) hr) trivial)
def As (f:Nat):SJ→PS→Prop
 | .row level,q=>((20*(tb q.1).length+10:Nat):Int)-level≤f∧1≤level∧level≤5
 | .rl level _,q=>20*(tb q.1).length+5≤f∧1≤level∧level≤4
 | .one,q=>20*(tb q.1).length+4≤f∧q.2.1=false
 | .call _ _,q=>(q.2.1=true∧1≤f)∨20*(tb q.1).length+12≤f
 | .arg,q=>20*(tb q.1).length+10≤f
def Iv (s:List UInt8) (q:PS):Prop:=q.1<:+s∧q.2.2.length+q.1.length≤2000
theorem Iv.go {s:List UInt8} {k:Nat} {q q':PS} (h:Iv s q) (g:Go k q q'):Iv s q':=⟨g.suf.trans h.1,by have:=g.sum;have:=h.2;omega⟩
def Ws (s:List UInt8):SJ→PS→Int×PS→Prop
 | .row level,q,r=>Ev (qDg · level (BR s) (pos s q.1) q.2.1 q.2.2.length (q.2.2.map qZ)) (qCD s r)
 | .rl level a,q,r=>∃x,(x= .inl (qCD s r)∨x= .inr (qCD s r))∧∃n0,∀n,n0≤n→∀M,n0≤M→zC (qDi (qc n) n) M (level,a,qCZ s q)=some x
 | .one,q,r=>Ev (qHm · (BR s) (pos s q.1) q.2.1 q.2.2.length (q.2.2.map qZ)) (qCD s r)
 | .call op kids,q,r=>∃x,(x= .inl (qCD s r)∨(x= .inr (qCZ s r.2)∧r.1=0))∧∃n0,∀n,n0≤n→∀M,n0≤M→zC (qDT (qc n) n) M (op,kids.length,kids.map qA1,qCZ s q)=some x
 | .arg,q,r=>Ev (qHn · (BR s) (pos s q.1) q.2.1 q.2.2.length (q.2.2.map qZ)) (qCD s r)
theorem srp (r:List UInt8) (h:r.length≤1000):Ev (qAj · (BR (wd r))) (qAu (BR (wd r))):=qKm _ (by rw [qb];have:=qOs r;omega)
theorem srv (r:List UInt8) (h:r.length≤1000):Ev (qAD · (BR (wd r))) (qf (BR (wd r))):=qGM _ (by rw [qb];have:=qOs r;omega)
theorem qRu {r:List UInt8} (h:wd r≠ []):(tb (wr r)).length<r.length:=by
 have e:=congrArg List.length (wdr r)
 have:=List.length_pos_iff.2 h
 have:=qy (wr r)
 simp only [List.length_append] at e
 omega
def qOw (n:Nat) (w:ByteArray) (c:ByteArray×Int×Bool×Nat×List (List PV)):Tr (Int×ByteArray×Int×Bool×Nat×List (List PV)):=
 (.opt (qAj n w) fun r=>(.ask (!r.2.2.2.2) (.done (0,c.1,c.2.1,true,c.2.2.2.1,c.2.2.2.2))
  (.opt (qo n 2 0 0 0 ⟨#[]⟩ r.1 r.2.1 r.2.2.1 r.2.2.2.1 0 0 false false [] c.1 c.2.1 c.2.2.1 c.2.2.2.1 c.2.2.2.2) fun t=> .done (t.1,t.2.1,t.2.2.1,t.2.2.2.1,t.2.2.2.2.1,t.2.2.2.2.2))))
def qRc (n:Nat) (w:ByteArray) (c:ByteArray×Int×Bool×Nat×List (List PV)):Tr (Int×ByteArray×Int×Bool×Nat×List (List PV)):=
 (.opt (qAD n w) fun r=>(.ask r.2.2.2
  (.ask (!(w.toList==(⟨#[]⟩:ByteArray).toList))
   (.opt (qo n 1 0 r.1 r.2.1 r.2.2.1 0 0 false false 0 0 false false [] c.1 c.2.1 c.2.2.1 c.2.2.2.1 c.2.2.2.2) fun t=> .done (t.1,t.2.1,t.2.2.1,t.2.2.2.1,t.2.2.2.2.1,t.2.2.2.2.2))
   (qOw n w c))
  (qOw n w c)))
def qNZ (w:List UInt8) (q3:PS):Int×PS:=
 if (qf (BR w)).2.2.2=true∧w≠ [] then qDd (nd1 ((qf (BR w)).1,(qf (BR w)).2.1,(qf (BR w)).2.2.1)) q3
 else if (qAu (BR w)).2.2.2.2=true then qDd (ndC (qAu (BR w))) q3
 else (0,qKK q3)
theorem qOT (H:RdOK) {s:List UInt8} (r:List UInt8) (q:PS) (hr:r.length≤1000) (hn:q.2.2.length≤5000):∃n0,∀n,n0≤n→(qRc n (BR (wd r)) (qCZ s q)).run=some (qCD s (qNZ (wd r) q)):=by
 obtain ⟨n1,h1⟩:=srv r hr
 obtain ⟨n2,h2⟩:=srp r hr
 obtain ⟨n4,h4⟩:=qIx (s:=s) (ndC (qAu (BR (wd r)))) q hn ⟨by simp [kd,ndC],by simp [ndC,em];decide⟩
 have place:∃n0,∀n,n0≤n→(qOw n (BR (wd r)) (qCZ s q)).run=some (qCD s (if (qAu (BR (wd r))).2.2.2.2=true then qDd (ndC (qAu (BR (wd r)))) q else (0,qKK q))):=by
  refine ⟨n2+n4,fun n hn=>?_⟩
  cases hp:(qAu (BR (wd r))).2.2.2.2 with
  |true=>rw [if_pos rfl];exact qA (h2 n (by omega)) (qO (qAp hp) (qA (h4 n (by omega)) rfl))
  |false=>rw [if_neg (by simp)];exact qA (h2 n (by omega)) (qD (qCU hp) rfl)
 obtain ⟨n5,h5⟩:=place
 by_cases hv:(qf (BR (wd r))).2.2.2=true∧wd r≠ []
 ·obtain ⟨n3,h3⟩:=qIx (s:=s) (nd1 ((qf (BR (wd r))).1,(qf (BR (wd r))).2.1,(qf (BR (wd r))).2.2.1)) q hn ⟨by simp [kd,nd1],qIw hv.1 (H.v _ (qPh _) hv.2 hv.1)⟩
  refine ⟨n1+n3,fun n hn=>?_⟩
  unfold qNZ
  rw [if_pos hv]
  exact qA (h1 n (by omega)) (qD hv.1 (qD (qCU (by rw [beq_eq_false_iff_ne,qAJ,qAC];exact hv.2)) (qA (h3 n (by omega)) rfl)))
 ·refine ⟨n1+n5,fun n hn=>?_⟩
  unfold qNZ
  rw [if_neg hv]
  refine qA (h1 n (by omega)) ?_
  by_cases ho:(qf (BR (wd r))).2.2.2=true
  ·have e:wd r= []:=Classical.byContradiction fun e=>hv ⟨ho,e⟩
   exact qD ho (qO (qAp (by rw [beq_iff_eq,qAJ,qAC];exact e)) (h5 n (by omega)))
  ·exact qO (by rw [Bool.eq_false_iff];exact ho) (h5 n (by omega))
theorem qEV (H:RdOK) {s:List UInt8} (hs:s.length≤1000):∀(f:Nat) (j:SJ) (q:PS),As f j q→Iv s q→Ks j q→Ws s j q (sP f j q)
 |0,j,q,ha,_,_=>by cases j<;>simp [As] at ha<;>omega
 |f+1,.row level,q,ha,hi,_=>by
  obtain ⟨ha,hl1,hl5⟩:=ha
  have hr:q.1.length≤1000:=Nat.le_trans (qCv hi.1) hs
  unfold sP
  by_cases hb:q.2.1=true
  ·rw [if_pos hb]
   refine ⟨1,fun n hn=>?_⟩
   obtain ⟨k,rfl,hm⟩:=up1 hn
   exact qD hb rfl
  ·have hb:q.2.1=false:=by rw [Bool.eq_false_iff];exact hb
   rw [if_neg (by rw [hb];simp)]
   by_cases h5:level=5
   ·rw [if_pos h5]
    obtain ⟨n1,h1⟩:=qEV H hs f .one q ⟨by omega,hb⟩ hi trivial
    refine ⟨n1+1,fun n hn=>?_⟩
    obtain ⟨k,rfl,hm⟩:=up1 hn
    exact qO hb (qD (beq_iff_eq.2 h5) (qA (h1 k (by omega)) rfl))
   ·rw [if_neg h5]
    have g:=qEN H f (.row (level+1)) q hr trivial
    have gl:=g.tb
    obtain ⟨n1,h1⟩:=qEV H hs f (.row (level+1)) q ⟨by omega,by omega,by omega⟩ hi trivial
    generalize sP f (.row (level+1)) q=Q at g gl h1⊢
    obtain ⟨x,hx,n2,h2⟩:=qEV H hs f (.rl level Q.1) Q.2 ⟨by omega,by omega,by omega⟩ (hi.go g) trivial
    refine ⟨n1+n2+1,fun n hn=>?_⟩
    obtain ⟨k,rfl,hm⟩:=up1 hn
    have w1:IntKind.i64.wrap (level+1)=level+1:=qa (by omega)
    have h1:=h1 k (by omega)
    rw [←w1] at h1
    have h2:=h2 k (by omega) k (by omega)
    rcases hx with rfl|rfl
    ·exact qO hb (qO (beq_eq_false_iff_ne.2 h5) (qA h1 (qA h2 rfl)))
    ·exact qO hb (qO (beq_eq_false_iff_ne.2 h5) (qA h1 (qA h2 rfl)))
 |f+1,.rl level a,q,ha,hi,_=>by
  obtain ⟨ha,hl1,hl4⟩:=ha
  have hr:q.1.length≤1000:=Nat.le_trans (qCv hi.1) hs
  unfold sP
  by_cases hb:q.2.1=true
  ·rw [if_pos hb]
   refine ⟨.inr (qCD s (a,q)),.inr rfl,1,fun n hn M hM=>?_⟩
   obtain ⟨M,rfl,hM⟩:=up1 hM
   exact qP (qO (qAp hb) rfl)
  ·have hb:q.2.1=false:=by rw [Bool.eq_false_iff];exact hb
   rw [if_neg (by rw [hb];simp)]
   simp only
   obtain ⟨n1,h1⟩:=qRa hs (level:=level) ⟨hl1,hl4⟩ q hb hi.1
   have o:=qRM level q
   generalize sOp level q=O at h1 o⊢
   by_cases h0:O.1=0
   ·rw [if_pos h0]
    refine ⟨.inl (qCD s (a,O.2)),.inl rfl,n1+1,fun n hn M hM=>?_⟩
    obtain ⟨M,rfl,hM⟩:=up1 hM
    exact qP (qD (qCU hb) (qA (h1 n (by omega)) (qD (beq_iff_eq.2 h0) rfl)))
   ·rw [if_neg h0]
    obtain ⟨o1,o2⟩:=o.2 h0
    have b:=qEN H f (.row (level+1)) O.2 (Nat.le_trans (qBj o1) hr) trivial
    obtain ⟨n2,h2⟩:=qEV H hs f (.row (level+1)) O.2 ⟨by omega,by omega,by omega⟩ (hi.go o1) trivial
    have ib:=(hi.go o1).go b
    have tbb:=b.tb
    have c:=Go.add (x:=ndK 5 O.1 [a,(sP f (.row (level+1)) O.2).1]) (o1.trans b) (qHe (by simp))
    generalize sP f (.row (level+1)) O.2=Q at h2 b ib tbb c⊢
    obtain ⟨n3,h3⟩:=qIx (s:=s) (ndK 5 O.1 [a,Q.1]) Q.2 (by have:=ib.2;omega) (qHe (by simp))
    have rest:(qDd (ndK 5 O.1 [a,Q.1]) Q.2).2.1=Q.2.1:=rfl
    generalize qDd (ndK 5 O.1 [a,Q.1]) Q.2=C at h3 c rest⊢
    obtain ⟨x,hx,n4,h4⟩:=qEV H hs f (.rl level C.1) C.2 ⟨by rw [rest];omega,hl1,hl4⟩ (hi.go c) trivial
    refine ⟨x,hx,n1+n2+n3+n4+1,fun n hn M hM=>?_⟩
    obtain ⟨M,rfl,hM⟩:=up1 hM
    have w1:IntKind.i64.wrap (level+1)=level+1:=qa (by omega)
    have h2:=h2 n (by omega)
    rw [←w1] at h2
    rw [qT (v':=(level,C.1,qCZ s C.2)) (by
     exact qD (qCU hb) (qA (h1 n (by omega)) (qO (beq_eq_false_iff_ne.2 h0) (qA h2 (qD rfl (qA (h3 n (by omega)) rfl))))))]
    exact h4 n (by omega) M (by omega)
 |f+1,.one,q,ha,hi,_=>by
  obtain ⟨ha,hb⟩:=ha
  have hr:q.1.length≤1000:=Nat.le_trans (qCv hi.1) hs
  unfold sP
  obtain ⟨n1,h1⟩:=qF3 hs [45] (by simp) q hi.1
  cases c1:(sIs [45] q).1 with
  |true=>
   rw [if_pos rfl]
   have a:=qEK (by simp) c1
   have al:=qQA (by simp) c1
   have b:=qEN H f (.row 5) (sIs [45] q).2 (Nat.le_trans (qBj a) hr) trivial
   obtain ⟨n2,h2⟩:=qEV H hs f (.row 5) (sIs [45] q).2 ⟨by omega,by omega,by omega⟩ (hi.go a) trivial
   have ib:=(hi.go a).go b
   simp only
   generalize sP f (.row 5) (sIs [45] q).2=Q at h2 ib⊢
   obtain ⟨n3,h3⟩:=qIx (s:=s) (ndK 4 0 [Q.1]) Q.2 (by have:=ib.2;omega) (qHe (by simp))
   refine ⟨n1+n2+n3+1,fun n hn=>?_⟩
   obtain ⟨k,rfl,hm⟩:=up1 hn
   exact qA (h1 k (by omega)) (qD c1 (qA (h2 k (by omega)) (qD rfl (qA (h3 k (by omega)) rfl))))
  |false=>
   rw [if_neg (by simp)]
   have a:=qIy [45] q
   obtain ⟨n2,h2⟩:=qF3 hs [40] (by simp) (sIs [45] q).2 (hi.go a).1
   cases c2:(sIs [40] (sIs [45] q).2).1 with
   |true=>
    rw [if_pos rfl]
    have b:=qEK (by simp) c2
    have al:=qQA (by simp) c2
    have atb:=a.tb
    have g1:=a.trans b
    have b2:=qEN H f (.row 1) (sIs [40] (sIs [45] q).2).2 (Nat.le_trans (qBj g1) hr) trivial
    obtain ⟨n3,h3⟩:=qEV H hs f (.row 1) (sIs [40] (sIs [45] q).2).2 ⟨by omega,by omega,by omega⟩ (hi.go g1) trivial
    have ib:=(hi.go g1).go b2
    simp only
    generalize sP f (.row 1) (sIs [40] (sIs [45] q).2).2=Q at h3 ib⊢
    obtain ⟨n4,h4⟩:=qF3 hs [41] (by simp) Q.2 ib.1
    refine ⟨n1+n2+n3+n4+1,fun n hn=>?_⟩
    obtain ⟨k,rfl,hm⟩:=up1 hn
    refine qA (h1 k (by omega)) (qO c1 (qA (h2 k (by omega)) (qD c2 (qA (h3 k (by omega)) (qA (h4 k (by omega)) ?_)))))
    cases c3:(sIs [41] Q.2).1 with
    |true=>rw [if_pos rfl];exact qO rfl rfl
    |false=>rw [if_neg (by simp)];exact qD rfl rfl
   |false=>
    rw [if_neg (by simp)]
    have e2:(sIs [40] (sIs [45] q).2).2=(tb q.1,q.2):=by
     rw [qOS c2,qOS c1];simp only [qCC]
    rw [e2] at h2
    have t:=qKy q
    have it:=hi.go t
    obtain ⟨n3,h3⟩:=qF3 hs [34] (by simp) (tb q.1,q.2) it.1
    simp only
    cases c3:(sIs [34] (tb q.1,q.2)).1 with
    |true=>
     rw [if_pos rfl]
     have b:=qEK (by simp) c3
     have ib:=it.go b
     have eq2:(sIs [34] (tb q.1,q.2)).2.2=q.2:=by obtain ⟨_,e,_⟩:=qJo c3;rw [e]
     obtain ⟨n4,h4⟩:=qQn hs (sIs [34] (tb q.1,q.2)).2 ib.1 (by have:=ib.2;omega)
     refine ⟨n1+n2+n3+n4+1,fun n hn=>?_⟩
     obtain ⟨k,rfl,hm⟩:=up1 hn
     refine qA (h1 k (by omega)) (qO c1 (qA (h2 k (by omega)) (qO c2 (qA (h3 k (by omega)) (qD c3 (qA (h4 k (by omega)) ?_))))))
     rw [qC,eq2]
     all_goals (cases qBu [] (sIs [34] (tb q.1,q.2)).2.1<;>rfl)
    |false=>
     rw [if_neg (by simp)]
     have e3:(sIs [34] (tb q.1,q.2)).2=(tb q.1,q.2):=by rw [qOS c3];simp only [qCC]
     rw [e3] at h3
     obtain ⟨n4,h4⟩:=qF3 hs [35] (by simp) (tb q.1,q.2) it.1
     cases c4:(sIs [35] (tb q.1,q.2)).1 with
     |true=>
      rw [if_pos rfl]
      have b:=qEK (by simp) c4
      have ib:=it.go b
      have eq2:(sIs [35] (tb q.1,q.2)).2.2=q.2:=by obtain ⟨_,e,_⟩:=qJo c4;rw [e]
      obtain ⟨n5,h5⟩:=qRG hs (sIs [35] (tb q.1,q.2)).2.1 ib.1 q.2.1 q.2.2 (by have:=hi.2;omega)
      have h4:=fun k hk=>h4 k hk
      refine ⟨n1+n2+n3+n4+n5+1,fun n hn=>?_⟩
      obtain ⟨k,rfl,hm⟩:=up1 hn
      have h4:=h4 k (by omega)
      have h5:=h5 k (by omega) k (by omega)
      have e4:qCZ s (sIs [35] (tb q.1,q.2)).2=(BR s,pos s (sIs [35] (tb q.1,q.2)).2.1,q.2.1,q.2.2.length,q.2.2.map qZ):=by unfold qCZ;rw [eq2]
      rw [e4] at h4
      refine qA (h1 k (by omega)) (qO c1 (qA (h2 k (by omega)) (qO c2 (qA (h3 k (by omega)) (qO c3 (qA h4 (qD c4 (qA h5 ?_))))))))
      cases qPG (sIs [35] (tb q.1,q.2)).2.1 1 5<;>rfl
     |false=>
      rw [if_neg (by simp)]
      have e4:(sIs [35] (tb q.1,q.2)).2=(tb q.1,q.2):=by rw [qOS c4];simp only [qCC]
      rw [e4] at h4
      obtain ⟨n5,h5⟩:=qNW hs (tb q.1,q.2) it.1
      have w:=qOR q
      have iw:=hi.go w
      have htl:=qy q.1
      obtain ⟨n6,h6⟩:=qF3 hs [40] (by simp) (wr (tb q.1),q.2) iw.1
      obtain ⟨n7,h7⟩:=qRH
      obtain ⟨n9,h9⟩:=qOT H (s:=s) (tb q.1) (wr (tb q.1),q.2) (by omega) (by have:=hi.2;simp only;omega)
      have gi:=qIy [40] (wr (tb q.1),q.2)
      cases hf:qFH (wd (tb q.1)) 1 10 with
      |none=>
       simp only
       refine ⟨n1+n2+n3+n4+n5+n6+n7+n9+12+1,fun n hn=>?_⟩
       obtain ⟨k,rfl,hm⟩:=up1 hn
       have lp:=qI8 (g:=qc k) (s:=s) (wd (tb q.1)) (wr (tb q.1),q.2) (fun _=>(0,q)) (h7 k (by omega)) (h6 k (by omega)) 10 1 k (by omega) (by omega) (by omega) (fun op h=>by rw [hf] at h;cases h)
       rw [hf] at lp
       exact qA (h1 k (by omega)) (qO c1 (qA (h2 k (by omega)) (qO c2 (qA (h3 k (by omega)) (qO c3 (qA (h4 k (by omega)) (qO c4 (qA (h5 k (by omega)) (qA lp (h9 k (by omega)))))))))))
      |some op=>
       have wne:wd (tb q.1)≠ []:=fun e=>by rw [e,H.f0] at hf;cases hf
       have wlt:=qRu wne
       simp only
       cases c5:(sIs [40] (wr (tb q.1),q.2)).1 with
       |true=>
        rw [if_pos rfl]
        have il:=qQA (by simp) c5
        simp only at il
        obtain ⟨x,hx,n8,h8⟩:=qEV H hs f (.call op []) (sIs [40] (wr (tb q.1),q.2)).2 (.inr (by omega)) (iw.go gi) (.inr (by have:=qBj (w.tr0 gi);simp only [List.length_nil];omega))
        have hcall:Ev (qGz · op (BR s) (pos s (sIs [40] (wr (tb q.1),q.2)).2.1) (sIs [40] (wr (tb q.1),q.2)).2.2.1 (sIs [40] (wr (tb q.1),q.2)).2.2.2.length ((sIs [40] (wr (tb q.1),q.2)).2.2.2.map qZ)) (qCD s (sP f (.call op []) (sIs [40] (wr (tb q.1),q.2)).2)):=by
         refine ⟨n8+1,fun n hn=>?_⟩
         obtain ⟨k,rfl,hm⟩:=up1 hn
         have h8:=h8 k (by omega) k (by omega)
         rcases hx with rfl|⟨rfl,hz⟩
         ·exact qA h8 rfl
         ·refine qA h8 ?_
          show some ((0:Int),qCZ s _)=some (_,qCZ s _)
          rw [hz]
        obtain ⟨n10,h10⟩:=hcall
        refine ⟨n1+n2+n3+n4+n5+n6+n7+n10+12+1,fun n hn=>?_⟩
        obtain ⟨k,rfl,hm⟩:=up1 hn
        have lp:=qI8 (g:=qc k) (s:=s) (wd (tb q.1)) (wr (tb q.1),q.2) (fun op=>sP f (.call op []) (sIs [40] (wr (tb q.1),q.2)).2) (h7 k (by omega)) (h6 k (by omega)) 10 1 k (by omega) (by omega) (by omega) (fun op' h _=>by rw [hf] at h;cases h;exact h10 k (by omega))
        rw [hf] at lp
        simp only at lp
        rw [if_pos c5] at lp
        exact qA (h1 k (by omega)) (qO c1 (qA (h2 k (by omega)) (qO c2 (qA (h3 k (by omega)) (qO c3 (qA (h4 k (by omega)) (qO c4 (qA (h5 k (by omega)) (qA lp rfl)))))))))
       |false=>
        rw [if_neg (by simp)]
        obtain ⟨v1,v2⟩:=H.f _ _ hf
        obtain ⟨n9,h9⟩:=qOT H (s:=s) (tb q.1) (sIs [40] (wr (tb q.1),q.2)).2 (by omega) (by have:=(iw.go gi).2;omega)
        have er:qNZ (wd (tb q.1)) (sIs [40] (wr (tb q.1),q.2)).2=(0,qKK (sIs [40] (wr (tb q.1),q.2)).2):=by
         unfold qNZ
         rw [if_neg (fun h=>by rw [v1] at h;cases h.1),if_neg (by rw [v2];simp)]
        rw [er] at h9
        refine ⟨n1+n2+n3+n4+n5+n6+n7+n9+12+1,fun n hn=>?_⟩
        obtain ⟨k,rfl,hm⟩:=up1 hn
        have lp:=qI8 (g:=qc k) (s:=s) (wd (tb q.1)) (wr (tb q.1),q.2) (fun _=>(0,q)) (h7 k (by omega)) (h6 k (by omega)) 10 1 k (by omega) (by omega) (by omega) (fun op' h h'=>by rw [c5] at h';cases h')
        rw [hf] at lp
        simp only at lp
        rw [if_neg (by rw [c5];simp)] at lp
        exact qA (h1 k (by omega)) (qO c1 (qA (h2 k (by omega)) (qO c2 (qA (h3 k (by omega)) (qO c3 (qA (h4 k (by omega)) (qO c4 (qA (h5 k (by omega)) (qA lp (h9 k (by omega)))))))))))
 |f+1,.call op kids,q,ha,hi,hk=>by
  have hr:q.1.length≤1000:=Nat.le_trans (qCv hi.1) hs
  unfold sP
  by_cases hb:q.2.1=true
  ·rw [if_pos hb]
   refine ⟨.inr (qCZ s q),.inr ⟨rfl,rfl⟩,1,fun n hn M hM=>?_⟩
   obtain ⟨M,rfl,hM⟩:=up1 hM
   exact qP (qO (qAp hb) rfl)
  ·have hk:kids.length+q.1.length≤1500:=hk.elim (fun h=>absurd h hb) id
   have ha:20*(tb q.1).length+12≤f+1:=ha.elim (fun h=>absurd h.1 hb) id
   have hb:q.2.1=false:=by rw [Bool.eq_false_iff];exact hb
   rw [if_neg (by rw [hb];simp)]
   simp only
   have a:=qEN H f .arg q hr trivial
   obtain ⟨n1,h1⟩:=qEV H hs f .arg q (by show 20*_+10≤f;omega) hi trivial
   generalize sP f .arg q=A at a h1⊢
   have ia:=hi.go a
   have ta:=a.tb
   have ra:=qBj a
   obtain ⟨n2,h2⟩:=qF3 hs [41] (by simp) A.2 ia.1
   have kl:decide (kids.length=(kids.map qA1).length∧0<1∧0<8∧(kids.length+([[(PV.i .i64 A.1)]]:List (List PV)).length)*8≤140737488355328∧([[(PV.i .i64 A.1)]]:List (List PV)).all (fun e=>e.length==1)=true)=true:=decide_eq_true ⟨by simp,by decide,by decide,by simp;omega,rfl⟩
   have k1:(kids++ [A.1]).length=kids.length+1:=by simp
   have k2:(kids++ [A.1]).map qA1=kids.map qA1++ [[PV.i .i64 A.1]]:=by simp [qA1]
   cases c1:(sIs [41] A.2).1 with
   |true=>
    rw [if_pos rfl]
    have g:=a.trans (qEK (by simp) c1)
    obtain ⟨n3,h3⟩:=qIx (s:=s) (ndK 6 op (kids++ [A.1])) (sIs [41] A.2).2 (by have:=(hi.go g).2;omega) (qHe (by simp;omega))
    refine ⟨.inl (qCD s (qDd (ndK 6 op (kids++ [A.1])) (sIs [41] A.2).2)),.inl rfl,n1+n2+n3+1,fun n hn M hM=>?_⟩
    obtain ⟨M,rfl,hM⟩:=up1 hM
    have h3:_=some _:=h3 n (by omega)
    simp only [ndK,kd] at h3
    rw [k2] at h3
    exact qP (qD (qCU hb) (qA (h1 n (by omega)) (qD rfl (qD kl (qA (h2 n (by omega)) (qD c1 (qD (decide_eq_true (by simp)) (qA h3 rfl))))))))
   |false=>
    rw [if_neg (by simp)]
    have g:=a.tr0 (qIy [41] A.2)
    have gt:=(qIy [41] A.2).tb
    have i2:=hi.go g
    obtain ⟨n3,h3⟩:=qF3 hs [44] (by simp) (sIs [41] A.2).2 i2.1
    cases c2:(sIs [44] (sIs [41] A.2).2).1 with
    |true=>
     rw [if_pos rfl]
     have b:=qEK (by simp) c2
     have bl:=qQA (by simp) c2
     have bs:=qBj (g.trans b)
     have b1:=b.sum
     have eq3:(sIs [44] (sIs [41] A.2).2).2.2=(sIs [41] A.2).2.2:=by obtain ⟨_,e,_⟩:=qJo c2;rw [e]
     rw [eq3] at b1
     have g0:=qBj g
     obtain ⟨x,hx,n4,h4⟩:=qEV H hs f (.call op (kids++ [A.1])) (sIs [44] (sIs [41] A.2).2).2 (.inr (by omega)) (i2.go b) (.inr (by rw [k1];omega))
     refine ⟨x,hx,n1+n2+n3+n4+1,fun n hn M hM=>?_⟩
     obtain ⟨M,rfl,hM⟩:=up1 hM
     have h4:=h4 n (by omega) M (by omega)
     rw [k1,k2] at h4
     rw [qT (v':=(op,kids.length+1,kids.map qA1++ [[PV.i .i64 A.1]],qCZ s (sIs [44] (sIs [41] A.2).2).2)) (by
      exact qD (qCU hb) (qA (h1 n (by omega)) (qD rfl (qD kl (qA (h2 n (by omega)) (qO c1 (qA (h3 n (by omega)) (qO (qAp c2) rfl))))))))]
     exact h4
    |false=>
     rw [if_neg (by simp)]
     have b:=qIy [44] (sIs [41] A.2).2
     obtain ⟨x,hx,n4,h4⟩:=qEV H hs f (.call op (kids++ [A.1])) (qKK (sIs [44] (sIs [41] A.2).2).2) (.inl ⟨rfl,by omega⟩) (i2.go (qNY b)) (.inl rfl)
     refine ⟨x,hx,n1+n2+n3+n4+1,fun n hn M hM=>?_⟩
     obtain ⟨M,rfl,hM⟩:=up1 hM
     have h4:=h4 n (by omega) M (by omega)
     rw [k1,k2] at h4
     rw [qT (v':=(op,kids.length+1,kids.map qA1++ [[PV.i .i64 A.1]],qCZ s (qKK (sIs [44] (sIs [41] A.2).2).2))) (by
      exact qD (qCU hb) (qA (h1 n (by omega)) (qD rfl (qD kl (qA (h2 n (by omega)) (qO c1 (qA (h3 n (by omega)) (qD (qCU c2) rfl))))))))]
     exact h4
 |f+1,.arg,q,ha,hi,_=>by
  replace ha:20*(tb q.1).length+10≤f+1:=ha
  have hr:q.1.length≤1000:=Nat.le_trans (qCv hi.1) hs
  have htl:=qy q.1
  unfold sP
  simp only
  have t:=qKy q
  have it:=hi.go t
  have w:=qOR q
  have iw:=hi.go w
  obtain ⟨n1,h1⟩:=qOu hs q hi.1
  obtain ⟨n2,h2⟩:=qNW hs (tb q.1,q.2) it.1
  obtain ⟨n3,h3⟩:=srp (tb q.1) (by omega)
  obtain ⟨n4,h4⟩:=qF3 hs [58] (by simp) (wr (tb q.1),q.2) iw.1
  have eq2:(sIs [58] (wr (tb q.1),q.2)).2.2=q.2:=by
   cases c:(sIs [58] (wr (tb q.1),q.2)).1 with
   |true=>obtain ⟨_,e,_⟩:=qJo c;rw [e]
   |false=>rw [qOS c]
  by_cases hc:(qAu (BR (wd (tb q.1)))).2.2.2.2=true∧(sIs [58] (wr (tb q.1),q.2)).1=true
  ·rw [if_pos hc]
   have g:=w.trans (qEK (by simp) hc.2)
   have ig:=hi.go g
   have rg:=qBj g
   generalize sIs [58] (wr (tb q.1),q.2)=I at*
   have gt:=qKy I.2
   have gw:=qOR I.2
   have il:=qy I.2.1
   obtain ⟨n5,h5⟩:=qOu hs I.2 ig.1
   obtain ⟨n6,h6⟩:=qNW hs (tb I.2.1,I.2.2) (ig.go gt).1
   obtain ⟨n7,h7⟩:=srp (tb I.2.1) (by omega)
   cases hp:(qAu (BR (wd (tb I.2.1)))).2.2.2.2 with
   |true=>
    rw [if_pos rfl]
    obtain ⟨n8,h8⟩:=qIx (s:=s) (ndA (qAu (BR (wd (tb q.1)))) (qAu (BR (wd (tb I.2.1))))) (wr (tb I.2.1),I.2.2) (by have:=(ig.go gw).2;simp only at this⊢;omega) ⟨by simp [kd,ndA],by simp [ndA,em];decide⟩
    refine ⟨n1+n2+n3+n4+n5+n6+n7+n8+1,fun n hn=>?_⟩
    obtain ⟨k,rfl,hm⟩:=up1 hn
    exact qA (h1 k (by omega)) (qA (h2 k (by omega)) (qA (h3 k (by omega)) (qD hc.1 (qA (h4 k (by omega)) (qD hc.2 (qA (h5 k (by omega)) (qA (h6 k (by omega)) (qA (h7 k (by omega)) (qO (qAp hp) (qA (h8 k (by omega)) rfl))))))))))
   |false=>
    rw [if_neg (by simp)]
    refine ⟨n1+n2+n3+n4+n5+n6+n7+1,fun n hn=>?_⟩
    obtain ⟨k,rfl,hm⟩:=up1 hn
    exact qA (h1 k (by omega)) (qA (h2 k (by omega)) (qA (h3 k (by omega)) (qD hc.1 (qA (h4 k (by omega)) (qD hc.2 (qA (h5 k (by omega)) (qA (h6 k (by omega)) (qA (h7 k (by omega)) (qD (qCU hp) rfl)))))))))
  ·rw [if_neg hc]
   obtain ⟨n5,h5⟩:=qEV H hs f (.row 1) (tb q.1,q.2) ⟨by simp only [qCC];omega,by omega,by omega⟩ it trivial
   refine ⟨n1+n2+n3+n4+n5+1,fun n hn=>?_⟩
   obtain ⟨k,rfl,hm⟩:=up1 hn
   cases hp:(qAu (BR (wd (tb q.1)))).2.2.2.2 with
   |true=>
    have ht:(sIs [58] (wr (tb q.1),q.2)).1=false:=by rw [Bool.eq_false_iff];exact fun e=>hc ⟨hp,e⟩
    have h4:=h4 k (by omega)
    have e4:qCZ s (sIs [58] (wr (tb q.1),q.2)).2=(BR s,pos s (sIs [58] (wr (tb q.1),q.2)).2.1,q.2.1,q.2.2.length,q.2.2.map qZ):=by unfold qCZ;rw [eq2]
    rw [e4] at h4
    exact qA (h1 k (by omega)) (qA (h2 k (by omega)) (qA (h3 k (by omega)) (qD hp (qA h4 (qO ht (qA (h5 k (by omega)) rfl))))))
   |false=>exact qA (h1 k (by omega)) (qA (h2 k (by omega)) (qA (h3 k (by omega)) (qO hp (qA (h5 k (by omega)) rfl))))
theorem qQQ {w:List UInt8} (h:w.all wch=true) (hn:w≠ []):(qA8 (BR w)).1=1∨(qA8 (BR w)).1=3:=by
 cases w with
 |nil=>exact absurd rfl hn
 |cons c t=>
  simp only [List.all_cons,Bool.and_eq_true] at h
  have h39:¬(c::t).head?=some 39:=by
   intro e;simp at e;rw [e] at h;exact absurd h.1 (by decide)
  have h35:¬(c::t).head?=some 35:=by
   intro e;simp at e;rw [e] at h;exact absurd h.1 (by decide)
  unfold qA8
  rw [qAJ,if_neg h39]
  split
  ·exact .inr rfl
  ·split
   ·exact .inr rfl
   ·exact .inl rfl
theorem qRd:RdOK where
 v:=fun w h hn ho=>by
  have c:=qQQ h hn
  unfold qf at ho⊢
  split at ho
  ·rename_i hc;rw [if_pos hc];exact c
  ·cases ho
 v0:=by
  have:(qf (BR [])).1=0:=by
   have:(qf ⟨#[]⟩).1=0:=by decide+kernel
   exact this
  rw [this];decide
 p0:=by
  have:(qAu ⟨#[]⟩).2.2.2.2=false:=by decide+kernel
  exact this
 f:=fun w op h=>by
  have t:∀a:Fin 10,(qf (fnS (((a.val:Nat):Int)+1))).2.2.2=false∧(qAu (fnS (((a.val:Nat):Int)+1))).2.2.2.2=false:=by decide+kernel
  have e:∀(k:Nat) (i:Int),1≤i→i+k≤11→qFH w i k=some op→∃j:Int,1≤j∧j≤10∧(fnS j).toList=w:=by
   intro k
   induction k with
   |zero=>intro i _ _ h;cases h
   |succ k ih=>
    intro i h1 h2 h
    unfold qFH at h
    split at h
    ·rename_i hq;exact ⟨i,h1,by omega,hq⟩
    ·exact ih (i+1) (by omega) (by omega) h
  obtain ⟨j,j1,j2,rfl⟩:=e 10 1 (by omega) (by omega) h
  rw [qH0]
  have:=t ⟨(j-1).toNat,by omega⟩
  simp only at this
  rwa [show (((j-1).toNat:Nat):Int)+1=j by omega] at this
 f0:=by decide+kernel
 n:=fun n hn=>by
  have c:n=1∨n=2∨n=3∨n=4∨n=5:=by omega
  rcases c with rfl|rfl|rfl|rfl|rfl
  ·exact ⟨[68,73,86,33],by decide+kernel⟩
  ·exact ⟨[84,89,80,69,33],by decide+kernel⟩
  ·exact ⟨[82,69,70,33],by decide+kernel⟩
  ·exact ⟨[79,86,69,82,33],by decide+kernel⟩
  ·exact ⟨[67,89,67,76,69,33],by decide+kernel⟩
def qOU (s:ByteArray):PS:=(pP 4050 (.bin 1 0) (s.toList,false,[])).2
def qBQ (s:ByteArray):List Nd×Bool:=
 if qCu s 200=true∧(qOU s).2.1=false∧tb (qOU s).1= []∧qEo (qOU s).2.2=true then ((qOU s).2.2,true) else ([],false)
theorem qI9 {s:ByteArray} (h:qCu s 200=true):s.toList.length≤200:=by
 unfold qCu at h
 simp only [Bool.and_eq_true,decide_eq_true_eq] at h
 rw [qAO];omega
theorem qPm {s:ByteArray} (h:qCu s 200=true):Gd (s.toList,false,[]):=⟨by have:=qI9 h;simp only;omega,by simp,fun x hx=>by cases hx⟩
theorem qJA {l:List Nd} (h:∀x∈l,qN4 x):∀c∈l,(kd c).length≤140737488351232∧c.2.2.2.2.1.size≤140737488351232:=fun c hc=>by
 have:=h c hc
 exact ⟨by have:=this.1;omega,by have:=this.2;omega⟩
theorem qJY (s:ByteArray) (hb:s.size≤140737488351232):Ev (qDn · s) ((qBQ s).1.map qZ,(qBQ s).2):=by
 obtain ⟨n1,h1⟩:=qFt s 200 hb
 by_cases hp:qCu s 200=true
 ·have hl:=qI9 hp
  have htb:=qy s.toList
  have hg:=qPm hp
  obtain ⟨n2,h2⟩:=qEU 4050 (.bin 1 0) (s.toList,false,[]) (by show 20*(tb s.toList).length+6≤4050;omega) ⟨by decide,by decide⟩ hg trivial
  have g:=(qEM 4050 (.bin 1 0) (s.toList,false,[]) hg trivial).1
  have e0:(pP 4050 (.bin 1 0) (s.toList,false,[])).2=qOU s:=rfl
  rw [e0] at g
  generalize pP 4050 (.bin 1 0) (s.toList,false,[])=P at h2 e0
  rw [qH0] at h2
  unfold qBQ
  rw [←e0] at g⊢
  obtain ⟨n3,h3⟩:=qGP P.2.1 P.2.2.2.length P.2.2.1 (P.2.2.2.map qZ)
  obtain ⟨n4,h4⟩:=qGO P.2.2.2 (by have:=g.n;omega) (qJA g.s)
  refine ⟨n1+n2+n3+n4+1,fun n hn=>?_⟩
  obtain ⟨k,rfl,hm⟩:=up1 hn
  have h1:=h1 k (by omega)
  rw [hp] at h1
  refine qA h1 (qO rfl (qA (h2 k (by omega)) (qA (h3 k (by omega)) ?_)))
  by_cases hbad:P.2.2.1=true
  ·rw [if_neg (fun h=>by rw [hbad] at h;cases h.2.1)]
   exact qD hbad (qD rfl rfl)
  ·have hbad:P.2.2.1=false:=by rw [Bool.eq_false_iff];exact hbad
   refine qO hbad ?_
   by_cases hr:tb P.2.1= []
   ·refine qO (qAp (by rw [beq_iff_eq,qAC];show (BR (tb P.2.1)).toList= [];rw [qAJ];exact hr)) (qD (decide_eq_true (by simp)) (qA (h4 k (by omega)) (qD (qF _) ?_)))
    cases ho:qEo P.2.2.2 with
    |true=>
     rw [if_pos ⟨hp,hbad,hr,rfl⟩]
     exact qO rfl (qD (decide_eq_true (by simp)) rfl)
    |false=>
     rw [if_neg (fun h=>by cases h.2.2.2)]
     exact qD rfl (qD rfl rfl)
   ·rw [if_neg (fun h=>hr h.2.2.1)]
    exact qD (qCU (by rw [beq_eq_false_iff_ne,qAC];show (BR (tb P.2.1)).toList≠ [];rw [qAJ];exact hr)) (qD rfl rfl)
 ·refine ⟨n1+1,fun n hn=>?_⟩
  obtain ⟨k,rfl,hm⟩:=up1 hn
  unfold qBQ
  rw [if_neg (fun h=>hp h.1)]
  exact qA (h1 k (by omega)) (qD (qCU (by rw [Bool.eq_false_iff];exact hp)) (qD rfl rfl))
theorem qQR {l:List Nd} (h:∃x∈l,qFA x=false):qEo l=false:=by
 obtain ⟨x,hx,hb⟩:=h
 rw [Bool.eq_false_iff]
 intro ho
 unfold qEo at ho
 simp only [Bool.and_eq_true] at ho
 obtain ⟨i,hi⟩:=List.mem_iff_getElem?.1 hx
 have hil:=(List.getElem?_eq_some_iff.1 hi).1
 have:=(qEn.1 ho.2.1 (i:Int) (by omega) (by omega)).1
 unfold qFG at this
 have e:ndi l (i:Int)=x:=by unfold ndi;simp [hi]
 rw [e,hb] at this
 cases this
theorem qJZ (s:ByteArray) (hb:s.size≤140737488351232):Ev (qDj · s) ((qBQ s).1.map qZ,(qBQ s).2):=by
 obtain ⟨n1,h1⟩:=qEy s hb
 by_cases hp:qCu s 200=true
 ·have hl:=qI9 hp
  have hs:s.toList.length≤1000:=by omega
  have htb:=qy s.toList
  have hg:=qPm hp
  have gi:=(qEM 4050 (.bin 1 0) (s.toList,false,[]) hg trivial).1
  have sim:=(qRC qRd (tb s.toList).length).2.2.1 (s.toList,false,[]) (s.toList,false,[]) 0 4 4050 4050 (by omega) ⟨rfl,rfl,rfl,rfl⟩ rfl (by omega) (by omega) (by omega) (by omega)
  rw [show (5:Int)-((4:Nat):Int)=1 from rfl] at sim
  have iv:Iv s.toList (s.toList,false,[]):=⟨List.suffix_rfl,by simp;omega⟩
  obtain ⟨n2,h2⟩:=qEV qRd hs 4050 (.row 1) (s.toList,false,[]) ⟨by simp only;omega,by omega,by omega⟩ iv trivial
  have g:=qEN qRd 4050 (.row 1) (s.toList,false,[]) hs trivial
  have e0:(pP 4050 (.bin 1 0) (s.toList,false,[])).2=qOU s:=rfl
  generalize pP 4050 (.bin 1 0) (s.toList,false,[])=P at sim e0 gi
  generalize sP 4050 (.row 1) (s.toList,false,[])=Q at sim h2 g
  unfold qBQ
  rw [←e0]
  obtain ⟨n3,h3⟩:=qOu hs Q.2 (iv.go g).1
  obtain ⟨n4,h4⟩:=qGN Q.2.2.2 (qJA (g.sm (fun x hx=>by cases hx)))
  have p0:pos s.toList s.toList=0:=by unfold pos;simp
  simp only [qH0,p0] at h2 h3
  have g2:=(qPl (iv.go g).1)
  refine ⟨n1+n2+n3+n4+1,fun n hn=>?_⟩
  obtain ⟨k,rfl,hm⟩:=up1 hn
  have h1:=h1 k (by omega)
  rw [hp] at h1
  have h2:=h2 k (by omega)
  have h3:=h3 k (by omega)
  have e1:qCD s.toList Q=(Q.1,s,pos s.toList Q.2.1,Q.2.2.1,Q.2.2.2.length,Q.2.2.2.map qZ):=by unfold qCD qCZ;rw [qH0]
  have e2:qCZ s.toList (tb Q.2.1,Q.2.2)=(s,pos s.toList (tb Q.2.1),Q.2.2.1,Q.2.2.2.length,Q.2.2.2.map qZ):=by unfold qCZ;rw [qH0]
  rw [e1] at h2
  rw [e2] at h3
  refine qA h1 (qO rfl (qA h2 (qA h3 ?_)))
  rcases sim with ⟨_,hk,_⟩|⟨hbad,hd⟩
  ·obtain ⟨k1,k2,k3,k4⟩:=hk
   rw [k1,k3,k4]
   refine qO k2 ?_
   by_cases hr:tb Q.2.1= []
   ·refine qO (decide_eq_false (show ¬pos s.toList (tb Q.2.1)<(s.size:Int) by rw [hr];unfold pos;simp [qAO])) (qD (decide_eq_true (by simp)) (qA (h4 k (by omega)) (qD (qF _) ?_)))
    cases ho:qEo Q.2.2.2 with
    |true=>
     rw [if_pos ⟨hp,rfl,hr,rfl⟩]
     exact qO rfl (qD (decide_eq_true (by simp)) rfl)
    |false=>
     rw [if_neg (fun h=>by cases h.2.2.2)]
     exact qD rfl (qD rfl rfl)
   ·rw [if_neg (fun h=>hr h.2.2.1)]
    have hlp:=List.length_pos_iff.2 hr
    have hsl:=qCv g2
    exact qD (decide_eq_true (show pos s.toList (tb Q.2.1)<(s.size:Int) by rw [qAO] at hsl;unfold pos;rw [qAO];omega)) (qD rfl rfl)
  ·rw [if_neg (fun h=>by
    rcases hd with hd|hd
    ·rw [hd] at h;cases h.2.1
    ·rw [qQR hd] at h;cases h.2.2.2)]
   exact qD hbad (qD rfl rfl)
 ·refine ⟨n1+1,fun n hn=>?_⟩
  obtain ⟨k,rfl,hm⟩:=up1 hn
  unfold qBQ
  rw [if_neg (fun h=>hp h.1)]
  exact qA (h1 k (by omega)) (qD (qCU (by rw [Bool.eq_false_iff];exact hp)) (qD rfl rfl))
theorem qKz (s:ByteArray):(qBQ s).1.length≤60∧∀x∈(qBQ s).1,qN4 x:=by
 unfold qBQ
 split
 ·rename_i h
  have g:=(qEM 4050 (.bin 1 0) (s.toList,false,[]) (qPm h.1) trivial).1
  exact ⟨g.n,g.s⟩
 ·exact ⟨by simp,fun x hx=>by cases hx⟩
theorem qNa:∀(l:List UInt8) (acc:Nat) {u:Nat},l.all qA0=true→Lib.parseUintM (2^64-1) acc l= .ok u→u=qAZ acc l
 | [],acc,u,_,h=>by simp only [Lib.parseUintM] at h;cases h;rfl
 |c::r,acc,u,hd,h=>by
  simp only [List.all_cons,Bool.and_eq_true] at hd
  have hc:=hd.1
  simp only [qA0,Bool.and_eq_true,decide_eq_true_eq] at hc
  unfold Lib.parseUintM at h
  rw [qDO]
  rw [if_pos hc] at h
  by_cases h1:1844674407370955162≤acc
  ·rw [if_pos h1] at h;cases h
  ·rw [if_neg h1] at h
   by_cases h2:2^64-1<acc*10+(c.toNat-48)
   ·rw [if_pos h2] at h;cases h
   ·rw [if_neg h2] at h
    exact qNa r _ hd.2 h
theorem qPn {p:UInt8→Bool}:∀l:List UInt8,(l.dropWhile p= [])↔l.all p=true
 | []=>by simp
 |c::r=>by
  rw [List.dropWhile_cons,List.all_cons]
  by_cases h:p c=true
  ·rw [if_pos h,h,Bool.true_and];exact qPn r
  ·rw [if_neg h];simp [h]
theorem qQC {p:UInt8→Bool}:∀(l:List UInt8) {a:UInt8} {r:List UInt8},l.dropWhile p=a::r→p a=false
 | [],a,r,h=>by simp at h
 |c::l,a,r,h=>by
  rw [List.dropWhile_cons] at h
  by_cases hc:p c=true
  ·rw [if_pos hc] at h;exact qQC l h
  ·rw [if_neg hc] at h
   cases h
   rw [Bool.eq_false_iff];exact hc
theorem qQr:∀i:Fin 256,((⟨#[48,49,50,51,52,53,54,55,56,57]⟩:ByteArray).data.toList.contains (UInt8.ofNat i.val))=qA0 (UInt8.ofNat i.val):=by decide+kernel
theorem qPS {p:UInt8→Bool} {t:List UInt8}:((t.reverse.dropWhile p).reverse.dropWhile p= [])↔t.all p=true:=by
 rw [qPn]
 constructor
 ·intro h
  cases hx:t.reverse.dropWhile p with
  |nil=>
   rw [qPn] at hx
   rw [List.all_eq_true] at hx⊢
   exact fun x hx'=>hx x (by simpa using hx')
  |cons a r=>
   rw [List.all_eq_true] at h
   have h1:=h a (by rw [hx];simp)
   rw [qQC _ hx] at h1
   cases h1
 ·intro h
  rw [List.all_eq_true] at h⊢
  intro x hx
  rw [List.mem_reverse] at hx
  exact h x (by simpa using (List.dropWhile_suffix p).subset hx)
def qF6 (s:List UInt8):List UInt8:=if s.head?=some 45 then s.tail else s
def qIz (s:List UInt8):Int:=if s.head?=some 45 then-((qAZ 0 (qF6 s):Nat):Int) else ((qAZ 0 (qF6 s):Nat):Int)
def qN5 (s:List UInt8):Bool:=decide (qF6 s≠ [])&&(qF6 s).all qA0
def qEL (s:List UInt8):Bool:=qN5 s&&okV 1 (qIz s) em
theorem qQs (s:List UInt8):(qF6 s).length≤s.length:=by unfold qF6;split<;>simp
theorem qPT (s:List UInt8) (h:s.length≤1000):Ev (qDh · (BR s)) (qN5 s):=by
 refine ⟨10,fun n hn=>?_⟩
 obtain ⟨k,rfl⟩:∃k,n=k+5:=⟨n-5,by omega⟩
 have tp:qDH (k+4) (BR s) ⟨#[45]⟩=some (BR (qF6 s)):=by
  have hp:qz (k+2) (BR s) ⟨#[45]⟩=some (List.isPrefixOf [45] s):=by
   have:=qBP (k+1) s [45]
   simp only [qj,qBr,qC,qE,qG,qH,qJ,qK,Option.bind_some,qF,qM,qN] at this
   have e:∀o:Option Bool,(o.bind fun x=>some x)=o:=fun o=>by cases o<;>rfl
   rw [e] at this
   exact this
  have inner:qBF (k+3) (BR s) ⟨#[45]⟩=some (BR (qF6 s)):=by
   by_cases hh:s.head?=some 45
   ·rw [(qEJ 45 s).2 hh] at hp
    obtain ⟨t,rfl⟩:=qI6 hh
    unfold qF6
    rw [if_pos hh]
    refine qA hp (qD rfl (qD (decide_eq_true ⟨by decide,by rw [qb];show (1:Int)≤_;simp;omega,Int.le_refl _⟩) ?_))
    rw [qC]
    show some ((BR (45::t)).extract 1 ((((BR (45::t)).size:Nat):Int)).toNat)=_
    rw [qE1,qb]
    simp
   ·have e:List.isPrefixOf [45] s=false:=by rw [Bool.eq_false_iff];exact fun e=>hh ((qEJ 45 s).1 e)
    rw [e] at hp
    unfold qF6
    rw [if_neg hh]
    exact qA hp (qO rfl rfl)
  exact qA inner rfl
 have tl:=qQs s
 unfold qN5
 generalize qF6 s=t at tp tl⊢
 refine qA tp ?_
 by_cases ht:t= []
 ·subst ht
  refine qO (qAp (by rw [qAJ,qAC];rfl)) ?_
  rfl
 ·refine qD (qCU (by rw [beq_eq_false_iff_ne,qAJ,qAC];exact ht)) ?_
  have tr:qFp (k+4) (BR t) ⟨#[48,49,50,51,52,53,54,55,56,57]⟩=some (BR (((t.reverse.dropWhile qA0).reverse).dropWhile qA0)):=by
   show zAI (BR t) ⟨#[48,49,50,51,52,53,54,55,56,57]⟩=_
   unfold zAI
   rw [if_pos ⟨by rw [qb];omega,by decide,by decide+kernel⟩]
   unfold Lib.trimS Lib.trimLeftS Lib.trimRightS
   have:(fun c=>(⟨#[48,49,50,51,52,53,54,55,56,57]⟩:ByteArray).data.toList.contains c)=qA0:=funext (qPi qQr)
   rw [this,←Go.Lib.toList_data (BR t),qAJ]
   rfl
  refine qA tr ?_
  rw [qC]
  congr 1
  have dt:decide (t≠ [])=true:=decide_eq_true ht
  rw [dt,Bool.true_and,qAJ,qAC]
  by_cases ha:t.all qA0=true
  ·rw [qPS.2 ha,ha];rfl
  ·have hx:¬(t.reverse.dropWhile qA0).reverse.dropWhile qA0= []:=fun e=>ha (qPS.1 e)
   rw [beq_eq_false_iff_ne.2 hx,Bool.eq_false_iff.2 ha]
theorem qRe {n:Int}:okV 1 n em=true↔-1000000000000000≤n∧n≤1000000000000000:=by
 simp [okV,em,qAC]
theorem qLm {s:List UInt8} (h:qN5 s=true):(∀n,Lib.parseIntB 64 s= .ok n→n=qIz s)∧(qEL s=true→Lib.parseIntB 64 s= .ok (qIz s)):=by
 have hd:=h
 unfold qN5 at hd
 simp only [Bool.and_eq_true,decide_eq_true_eq] at hd
 obtain ⟨h1,h2⟩:=hd
 have p:(2:Nat)^(64-1)=9223372036854775808:=by decide
 have hne:s≠ []:=fun e=>h1 (by rw [e];rfl)
 obtain ⟨c,r,rfl⟩:∃c r,s=c::r:=by
  cases s with
  |nil=>exact absurd rfl hne
  |cons c r=>exact ⟨c,r,rfl⟩
 have c45:(c.toNat=45)↔c=45:=⟨fun e=>UInt8.toNat_inj.1 (show c.toNat=(45:UInt8).toNat from e),fun e=>by rw [e];rfl⟩
 have nt:qF6 (c::r)=if c.toNat=43∨c.toNat=45 then r else c::r:=by
  unfold qF6
  by_cases hc:c=45
  ·subst hc;simp
  ·have hc2:¬c.toNat=45:=fun e=>hc (c45.1 e)
   have ht:qF6 (c::r)=c::r:=by unfold qF6;rw [if_neg (by simpa using hc)]
   rw [ht] at h2
   simp only [List.all_cons,Bool.and_eq_true,qA0,decide_eq_true_eq] at h2
   rw [if_neg (by simpa using hc),if_neg (by omega)]
 have nv:qIz (c::r)=if c.toNat=45 then-((qAZ 0 (qF6 (c::r)):Nat):Int) else ((qAZ 0 (qF6 (c::r)):Nat):Int):=by
  unfold qIz
  by_cases hc:c=45
  ·subst hc;rfl
  ·rw [if_neg (by simpa using hc),if_neg (fun e=>hc (c45.1 e))]
 unfold Lib.parseIntB
 simp only
 rw [←nt]
 unfold Lib.parseUintB
 rw [if_neg h1]
 constructor
 ·intro n hn
  rcases hq : Lib.parseUintM (2^64-1) 0 (qF6 (c::r)) with u | _ | _
  rotate_left
  · rw [hq] at hn;cases hn
  · rw [hq] at hn;cases hn
  ·have hu:=qNa _ 0 h2 hq
   rw [hq] at hn
   simp only at hn
   split at hn
   ·cases hn
   ·split at hn
    ·cases hn
    ·injection hn with hn
     rw [nv,←hu,←hn]
 ·intro ho
  unfold qEL at ho
  simp only [Bool.and_eq_true] at ho
  have hb:=qRe.1 ho.2
  have hv:qAZ 0 (qF6 (c::r))≤1000000000000000:=by
   rw [nv] at hb
   split at hb<;>omega
  rw [qLY _ 0 h2 (by omega)]
  simp only
  rw [if_neg (by rw [p];omega),if_neg (by rw [p];omega),nv]
def szL:List UInt8→List UInt8
 | []=> []
 |c::t=>if t≠ []∧c=48 then szL t else c::t
theorem qMd:∀l:List UInt8,qAZ 0 (szL l)=qAZ 0 l
 | []=>rfl
 |c::t=>by
  unfold szL
  split
  ·rename_i h
   rw [qMd t,qDO,h.2]
   rfl
  ·rfl
theorem qOx:∀l:List UInt8,(szL l).all qA0=l.all qA0
 | []=>rfl
 |c::t=>by
  unfold szL
  split
  ·rename_i h
   rw [qOx t,List.all_cons,h.2]
   simp [qA0]
  ·rfl
theorem qRN:∀l:List UInt8,l≠ []→szL l≠ []
 | [],h=>absurd rfl h
 |c::t,_=>by
  unfold szL
  split
  ·rename_i h;exact qRN t h.1
  ·simp
theorem qOy:∀l:List UInt8,(szL l).head?=some 48→(szL l).length=1
 | [],h=>by cases h
 |c::t,h=>by
  unfold szL at h⊢
  split at h
  ·rename_i hc;rw [if_pos hc];exact qOy t h
  ·rename_i hc
   rw [if_neg hc]
   have h48:c=48:=by simpa using h
   have:t= []:=Classical.byContradiction fun e=>hc ⟨e,h48⟩
   rw [this];rfl
theorem qQt {l:List UInt8} (h:l≠ []):qE9 (szL l)=l.all qA0:=by
 unfold qE9
 rw [qOx]
 have h1:(szL l== [])=false:=beq_eq_false_iff_ne.2 (qRN l h)
 rw [h1]
 by_cases e:(szL l).head?=some 48
 ·rw [qOy l e];simp
 ·rw [beq_eq_false_iff_ne.2 e];simp
theorem qPU:∀(l:List UInt8) (acc:Nat),acc*10^l.length≤qAZ acc l
 | [],acc=>by rw [qFv];simp
 |c::r,acc=>by
  have:=qPU r (acc*10+(c.toNat-48))
  rw [qDO,List.length_cons,Nat.pow_succ]
  refine Nat.le_trans ?_ this
  rw [show acc*(10^r.length*10)=acc*10*10^r.length by rw [Nat.mul_comm (10^r.length) 10,Nat.mul_assoc]]
  exact Nat.mul_le_mul_right _ (by omega)
theorem qRf {l:List UInt8} (hd:l.all qA0=true) (h:16<(szL l).length):10000000000000000≤qAZ 0 l:=by
 rw [←qMd]
 rw [←qOx] at hd
 have hh:=qOy l
 cases hz:szL l with
 |nil=>rw [hz] at h;simp at h
 |cons c r=>
  rw [hz] at h hd hh
  simp only [List.length_cons] at h
  have hc:¬c=48:=fun e=>by
   have:=hh (by rw [e];rfl)
   simp only [List.length_cons] at this
   omega
  simp only [List.all_cons,Bool.and_eq_true,qA0,decide_eq_true_eq] at hd
  have hc2:¬c.toNat=48:=fun e=>hc (UInt8.toNat_inj.1 (show c.toNat=(48:UInt8).toNat from e))
  rw [qDO]
  have a:=qPU r (0*10+(c.toNat-48))
  have p:10^16≤10^r.length:=Nat.pow_le_pow_right (by decide) (by omega)
  have p16:(10:Nat)^16=10000000000000000:=by decide
  have:1*10^r.length≤(0*10+(c.toNat-48))*10^r.length:=Nat.mul_le_mul_right _ (by omega)
  omega
theorem qK0 (n:Nat) (neg:Bool) (a b:Int) (e:ByteArray):∀(l:List UInt8) (M:Nat),l.length≤1000→l.length+1≤M→zC (qBY n) M (BR l,neg,a,b,e)=some (BR (szL l),neg,a,b,e)
 |l,0,_,h=>by omega
 | [],M+1,_,_=>qP (qO (decide_eq_false (show ¬((BR []).size:Int)>1 by rw [qb];decide)) rfl)
 |c::t,M+1,hl,h=>by
  simp only [List.length_cons] at h hl
  unfold szL
  by_cases ht:t= []
  ·rw [if_neg (fun h=>h.1 ht)]
   subst ht
   exact qP (qO (decide_eq_false (show ¬((BR [c]).size:Int)>1 by rw [qb];simp)) rfl)
  ·have hpos:=List.length_pos_iff.2 ht
   have g0:decide (((BR (c::t)).size:Int)>1)=true:=decide_eq_true (by rw [qb];simp only [List.length_cons];omega)
   have g1:(BR (c::t)).toList[((0:Int)).toNat]?=some c:=by rw [qAJ];rfl
   by_cases hc:c=48
   ·rw [if_pos ⟨ht,hc⟩]
    subst hc
    rw [qT (v':=(BR t,neg,a,b,e)) (by
     refine qD g0 (qD rfl (qA g1 (qD rfl (qD (decide_eq_true ⟨by decide,by rw [qb];simp only [List.length_cons];omega,Int.le_refl _⟩) ?_))))
     rw [qC]
     show some (Sum.inl ((BR (48::t)).extract 1 ((((BR (48::t)).size:Nat):Int)).toNat,neg,a,b,e))=_
     rw [qE1,qb]
     simp)]
    exact qK0 n neg a b e t M (by omega) (by omega)
   ·rw [if_neg (fun h=>hc h.2)]
    refine qP (qD g0 (qD rfl (qA g1 (qO ?_ rfl))))
    rw [beq_eq_false_iff_ne]
    intro e
    exact hc (UInt8.toNat_inj.1 (show c.toNat=48 by omega))
theorem qRg {l:List UInt8} (h:l≠ []):l1I (szL l) 16=if (szL l).length≤16∧l.all qA0=true then (((qAZ 0 l:Nat):Int),true) else (0,false):=by
 unfold l1I
 rw [qQt h,qMd]
 by_cases hh:(szL l).length≤16∧l.all qA0=true
 ·rw [if_pos hh,if_pos ⟨by have:=hh.1;omega,hh.2⟩]
 ·rw [if_neg hh,if_neg (fun e=>hh ⟨by have:=e.1;omega,e.2⟩)]
theorem qPV (neg:Bool) (t:List UInt8) (ht:t≠ []) (hl:t.length≤1000):∃r:Int×Int×ByteArray×Bool,(r.2.2.2=(t.all qA0&&okV 1 (if neg=true then-((qAZ 0 t:Nat):Int) else ((qAZ 0 t:Nat):Int)) em))∧(r.2.2.2=true→r=(1,(if neg=true then-((qAZ 0 t:Nat):Int) else ((qAZ 0 t:Nat):Int)),em,true))∧
  ∃n0,∀n,n0≤n→∃v:ByteArray×Bool×Int×Int×ByteArray,zC (qBY n) n (BR t,neg,0,0,⟨#[]⟩)=some v∧
   (Tr.opt (qq n v.1 16) fun r221=>(.ask (v.2.1)
    (.ask (r221.2) (.opt (qX n 1 (IntKind.i64.wrap (0-r221.1)) ⟨#[]⟩) fun r222=>(.done ((1:Int),(IntKind.i64.wrap (0-r221.1)),(⟨#[]⟩:ByteArray),r222))) (.done ((1:Int),(IntKind.i64.wrap (0-r221.1)),(⟨#[]⟩:ByteArray),false)))
    (.ask (r221.2) (.opt (qX n 1 r221.1 ⟨#[]⟩) fun r223=>(.done ((1:Int),r221.1,(⟨#[]⟩:ByteArray),r223))) (.done ((1:Int),r221.1,(⟨#[]⟩:ByteArray),false))))).run=some r:=by
 have hi:=qDc (BR (szL t)) 16 (by decide)
 rw [qAJ,qRg ht] at hi
 obtain ⟨n1,h1⟩:=hi
 by_cases hh:(szL t).length≤16∧t.all qA0=true
 ·have hv:qAZ 0 t<10^(0+(szL t).length):=by
   have:=qOi (szL t) 0 0 (by rw [qOx];exact hh.2) (by decide)
   rwa [qMd] at this
  have hp:10^(0+(szL t).length)≤10^16:=Nat.pow_le_pow_right (by decide) (by omega)
  have p16:(10:Nat)^16=10000000000000000:=by decide
  have w1:IntKind.i64.wrap (0-((qAZ 0 t:Nat):Int))= -((qAZ 0 t:Nat):Int):=by rw [qa (by omega)];omega
  cases neg with
  |true=>
   obtain ⟨n2,h2⟩:=q9 1 (-((qAZ 0 t:Nat):Int)) em (by decide)
   refine ⟨(1,-((qAZ 0 t:Nat):Int),em,okV 1 (-((qAZ 0 t:Nat):Int)) em),by rw [hh.2];simp,fun e=>?_,n1+n2+t.length+1,fun n hn=>⟨_,qK0 n true 0 0 _ t n hl (by omega),?_⟩⟩
   ·simp only at e;rw [e];rfl
   ·have h1:=h1 n (by omega)
    rw [if_pos hh] at h1
    have h2:=h2 n (by omega)
    rw [←w1] at h2
    refine qA h1 (qD rfl (qD rfl (qA h2 ?_)))
    rw [qC,w1];rfl
  |false=>
   obtain ⟨n2,h2⟩:=q9 1 ((qAZ 0 t:Nat):Int) em (by decide)
   refine ⟨(1,((qAZ 0 t:Nat):Int),em,okV 1 ((qAZ 0 t:Nat):Int) em),by rw [hh.2];simp,fun e=>?_,n1+n2+t.length+1,fun n hn=>⟨_,qK0 n false 0 0 _ t n hl (by omega),?_⟩⟩
   ·simp only at e;rw [e];rfl
   ·have h1:=h1 n (by omega)
    rw [if_pos hh] at h1
    exact qA h1 (qO rfl (qD rfl (qA (h2 n (by omega)) rfl)))
 ·have hno:(t.all qA0&&okV 1 (if neg=true then-((qAZ 0 t:Nat):Int) else ((qAZ 0 t:Nat):Int)) em)=false:=by
   rw [Bool.eq_false_iff]
   intro e
   simp only [Bool.and_eq_true] at e
   have hb:=qRe.1 e.2
   have:16<(szL t).length:=by
    have:¬(szL t).length≤16:=fun h=>hh ⟨h,e.1⟩
    omega
   have:=qRf e.1 this
   split at hb<;>omega
  cases neg with
  |true=>
   refine ⟨(1,IntKind.i64.wrap (0-0),em,false),hno.symm,(fun e=>by cases e),n1+t.length+1,fun n hn=>⟨_,qK0 n true 0 0 _ t n hl (by omega),?_⟩⟩
   have h1:=h1 n (by omega)
   rw [if_neg hh] at h1
   exact qA h1 (qD rfl (qO rfl rfl))
  |false=>
   refine ⟨(1,0,em,false),hno.symm,(fun e=>by cases e),n1+t.length+1,fun n hn=>⟨_,qK0 n false 0 0 _ t n hl (by omega),?_⟩⟩
   have h1:=h1 n (by omega)
   rw [if_neg hh] at h1
   exact qA h1 (qO rfl (qO rfl rfl))
theorem qPW (s:List UInt8) (hs:s≠ []) (hl:s.length≤1000):∃r:Int×Int×ByteArray×Bool,r.2.2.2=qEL s∧(qEL s=true→r=(1,qIz s,em,true))∧Ev (qEu · (BR s)) r:=by
 obtain ⟨c,t,rfl⟩:∃c t,s=c::t:=by
  cases s with
  |nil=>exact absurd rfl hs
  |cons c t=>exact ⟨c,t,rfl⟩
 simp only [List.length_cons] at hl
 have g0:decide (((BR (c::t)).size:Int)>0)=true:=decide_eq_true (by rw [qb];simp only [List.length_cons];omega)
 have g1:(BR (c::t)).toList[((0:Int)).toNat]?=some c:=by rw [qAJ];rfl
 by_cases hc:c=45
 ·subst hc
  have ext:(BR (45::t)).extract ((1:Int)).toNat ((((BR (45::t)).size:Nat):Int)).toNat=BR t:=by rw [qE1,qb];simp
  have g2:decide (0≤(1:Int)∧(1:Int)≤((BR (45::t)).size:Int)∧((BR (45::t)).size:Int)≤((BR (45::t)).size:Int))=true:=decide_eq_true ⟨by decide,by rw [qb];simp only [List.length_cons];omega,Int.le_refl _⟩
  have nt:qF6 (45::t)=t:=rfl
  have nv:qIz (45::t)= -((qAZ 0 t:Nat):Int):=rfl
  by_cases ht:t= []
  ·subst ht
   refine ⟨(0,0,⟨#[]⟩,false),by decide+kernel,(fun e=>by revert e;decide+kernel),1,fun n hn=>?_⟩
   obtain ⟨k,rfl,hm⟩:=up1 hn
   exact qD g0 (qD rfl (qA g1 (qD rfl (qD g2 (qD (by rw [ext,qAJ,qAC];rfl) rfl)))))
  ·obtain ⟨r,r1,r2,n0,h0⟩:=qPV true t ht (by omega)
   have e:qEL (45::t)=(t.all qA0&&okV 1 (-((qAZ 0 t:Nat):Int)) em):=by
    unfold qEL qN5
    rw [nt,nv,decide_eq_true ht,Bool.true_and]
   rw [if_pos rfl] at r1 r2
   refine ⟨r,by rw [e];exact r1,fun h=>by rw [nv];exact r2 (by rw [r1,←e];exact h),n0+1,fun n hn=>?_⟩
   obtain ⟨k,rfl,hm⟩:=up1 hn
   obtain ⟨v,lp,fin⟩:=h0 k (by omega)
   rw [←ext] at lp
   exact qD g0 (qD rfl (qA g1 (qD rfl (qD g2 (qO (by rw [ext,beq_eq_false_iff_ne,qAJ,qAC];exact ht) (qA lp fin))))))
 ·have c45:((c.toNat:Int)==45)=false:=by
   rw [beq_eq_false_iff_ne];intro e
   exact hc (UInt8.toNat_inj.1 (show c.toNat=45 by omega))
  have hh:¬(c::t).head?=some 45:=by simpa using hc
  have nt:qF6 (c::t)=c::t:=by unfold qF6;rw [if_neg hh]
  have nv:qIz (c::t)=((qAZ 0 (c::t):Nat):Int):=by unfold qIz;rw [if_neg hh,nt]
  obtain ⟨r,r1,r2,n0,h0⟩:=qPV false (c::t) (by simp) (by simp only [List.length_cons];omega)
  have e:qEL (c::t)=((c::t).all qA0&&okV 1 (((qAZ 0 (c::t):Nat):Int)) em):=by
   unfold qEL qN5
   rw [nt,nv,decide_eq_true (by simp),Bool.true_and]
  rw [if_neg (by simp)] at r1 r2
  refine ⟨r,by rw [e];exact r1,fun h=>by rw [nv];exact r2 (by rw [r1,←e];exact h),n0+1,fun n hn=>?_⟩
  obtain ⟨k,rfl,hm⟩:=up1 hn
  obtain ⟨v,lp,fin⟩:=h0 k (by omega)
  rw [←c45] at lp
  exact qD g0 (qD rfl (qA g1 (qO c45 (qO (by rw [beq_eq_false_iff_ne,qAJ,qAC];simp) (qA lp fin)))))
def qE2 (s:ByteArray):ByteArray×Bool:=
 if qCu s 200=false then (⟨#[]⟩,false) else if s.toList= [] then (⟨#[]⟩,true) else
 if s.toList.head?=some 61 then (if (qBQ (BR s.toList.tail)).2=true∧(qCo (qBQ (BR s.toList.tail)).1).toList≠ []∧(qCo (qBQ (BR s.toList.tail)).1).size<200 then (⟨#[61]⟩++qCo (qBQ (BR s.toList.tail)).1,true) else (⟨#[]⟩,false)) else
 if qEL s.toList=true then (qF4 (qIz s.toList),true) else
 if (qf s).2.2.2=true then (s,true) else
 if s.size=200 then (⟨#[]⟩,false) else (⟨#[39]⟩++s,true)
theorem qPo (t:ByteArray):Ev (qBX · ((qBQ t).1.map qZ)) (qCo (qBQ t).1):=qJW _ (by have:=(qKz t).1;omega) (qJA (qKz t).2)
theorem qPp (t:ByteArray):Ev (qBe · ((qBQ t).1.map qZ)) (qCo (qBQ t).1):=qJX _ (by have:=(qKz t).1;omega) (qJA (qKz t).2)
theorem qNb (l:List Nd):(qCo l).size≤200:=by
 unfold qCo
 split
 ·split
  ·decide
  ·omega
 ·decide
theorem qEO {s:ByteArray} (h:s.toList≠ []):(s.toList==(⟨#[]⟩:ByteArray).toList)=false:=by rw [qAC];exact beq_eq_false_iff_ne.2 h
theorem qNc {s:ByteArray} (h:s.toList= []):(s.toList==(⟨#[]⟩:ByteArray).toList)=true:=by rw [qAC];exact beq_iff_eq.2 h
theorem qPX {s:ByteArray} (h:(qf s).2.2.2=true):okV (qf s).1 (qf s).2.1 (qf s).2.2.1=true∧(qBt (qf s).1 (qf s).2.1 (qf s).2.2.1)=s:=by
 unfold qf at h⊢
 split at h
 ·rename_i hc
  rw [if_pos hc]
  exact ⟨hc.1,qEG hc.2⟩
 ·cases h
theorem qRw {s:ByteArray} (h:qCu s 200=true):okV 2 0 s=true:=by
 unfold okV
 rw [if_pos rfl,h]
 rfl
theorem qKL {s:ByteArray} (h:qCu s 200=true):s.size≤200:=by have:=qI9 h;rw [qAO] at this;exact this
theorem qQu (s:ByteArray):(qBt 2 0 s).size=s.size+1:=by
 have e:qBt 2 0 s=⟨#[39]⟩++s:=rfl
 rw [e,ByteArray.size_append]
 show 1+s.size=_
 omega
theorem qQS {s:ByteArray} (h:(qf s).2.2.2=true):(qf s).2.2.1.size≤1000:=by
 obtain ⟨h1,h2⟩:=qPX h
 unfold okV at h1
 split at h1
 ·simp only [Bool.and_eq_true] at h1
  have:=qKL h1.2;omega
 ·simp only [Bool.and_eq_true,beq_iff_eq] at h1
  have:=congrArg List.length h1.1
  rw [qAO] at this
  simp only [List.length_nil] at this
  omega
theorem qMV (s:ByteArray) (hb:s.size≤140737488351232):Ev (qD4 · s) (qE2 s):=by
 obtain ⟨n1,h1⟩:=qEy s hb
 unfold qE2
 cases hp:qCu s 200 with
 |false=>
  rw [if_pos rfl]
  refine ⟨n1+1,fun n hn=>?_⟩
  obtain ⟨k,rfl,hm⟩:=up1 hn
  exact qA (h1 k (by omega)) (qD (qCU hp) rfl)
 |true=>
  rw [if_neg (by simp)]
  have hsz:=qKL hp
  by_cases h0:s.toList= []
  ·rw [if_pos h0]
   refine ⟨n1+1,fun n hn=>?_⟩
   obtain ⟨k,rfl,hm⟩:=up1 hn
   exact qA (h1 k (by omega)) (qO (qAp hp) (qD (qNc h0) rfl))
  ·rw [if_neg h0]
   obtain ⟨c,t,hct⟩:∃c t,s.toList=c::t:=by
    cases h:s.toList with
    |nil=>exact absurd h h0
    |cons c t=>exact ⟨c,t,rfl⟩
   have g1:s.toList[((0:Int)).toNat]?=some c:=by rw [hct];rfl
   have hl:s.size=t.length+1:=by rw [←qAO,hct];rfl
   by_cases h61:s.toList.head?=some 61
   ·rw [if_pos h61]
    have hc:c=61:=by rw [hct] at h61;simpa using h61
    subst hc
    have ext:s.extract ((1:Int)).toNat (((s.size:Nat):Int)).toNat=BR s.toList.tail:=by
     conv=>lhs;rw [←qH0 s]
     rw [qE1,qb,hct]
     simp
    obtain ⟨n2,h2⟩:=qJZ (BR s.toList.tail) (by rw [qb,hct];simp;omega)
    obtain ⟨n3,h3⟩:=qPo (BR s.toList.tail)
    rw [←ext] at h2 h3⊢
    have fz:=qNb (qBQ (s.extract ((1:Int)).toNat (((s.size:Nat):Int)).toNat)).1
    have w1:IntKind.i64.wrap (((qCo (qBQ (s.extract ((1:Int)).toNat (((s.size:Nat):Int)).toNat)).1).size:Int)+1)=((qCo (qBQ (s.extract ((1:Int)).toNat (((s.size:Nat):Int)).toNat)).1).size:Int)+1:=qa (by omega)
    refine ⟨n1+n2+n3+1,fun n hn=>?_⟩
    obtain ⟨k,rfl,hm⟩:=up1 hn
    refine qA (h1 k (by omega)) (qO (qAp hp) (qO (qEO h0) (qD rfl (qA g1 (qD rfl (qD (decide_eq_true ⟨by decide,by omega,Int.le_refl _⟩) (qA (h2 k (by omega)) (qA (h3 k (by omega)) ?_))))))))
    by_cases hr:(qBQ (s.extract ((1:Int)).toNat (((s.size:Nat):Int)).toNat)).2=true
    ·refine qO (qAp hr) ?_
     by_cases he:(qCo (qBQ (s.extract ((1:Int)).toNat (((s.size:Nat):Int)).toNat)).1).toList= []
     ·rw [if_neg (fun h=>h.2.1 he)]
      exact qD (qNc he) rfl
     ·refine qO (qEO he) ?_
      by_cases hz:(qCo (qBQ (s.extract ((1:Int)).toNat (((s.size:Nat):Int)).toNat)).1).size<200
      ·rw [if_pos ⟨hr,he,hz⟩]
       exact qO (decide_eq_false (by rw [w1];omega)) (qD (decide_eq_true (by show 1+(qCo (qBQ (s.extract ((1:Int)).toNat (((s.size:Nat):Int)).toNat)).1).size≤9223372036854775807;omega)) rfl)
      ·rw [if_neg (fun h=>hz h.2.2)]
       exact qD (decide_eq_true (by rw [w1];omega)) rfl
    ·rw [if_neg (fun h=>hr h.1)]
     exact qD (qCU (by rw [Bool.eq_false_iff];exact hr)) rfl
   ·rw [if_neg h61]
    have hc:((c.toNat:Int)==61)=false:=by
     rw [beq_eq_false_iff_ne];intro e
     refine h61 ?_
     rw [hct,show c=61 from UInt8.toNat_inj.1 (show c.toNat=61 by omega)];rfl
    obtain ⟨r,r1,r2,n2,h2⟩:=qPW s.toList h0 (by rw [qAO];omega)
    rw [qH0] at h2
    obtain ⟨n3,h3⟩:=qGM s (by omega)
    cases hn:qEL s.toList with
    |true=>
     rw [if_pos rfl]
     have er:=r2 hn
     subst er
     have hok:okV 1 (qIz s.toList) em=true:=by unfold qEL at hn;simp only [Bool.and_eq_true] at hn;exact hn.2
     obtain ⟨n4,h4⟩:=qC7 1 (qIz s.toList) em (by decide)
     rw [if_pos hok] at h4
     refine ⟨n1+n2+n4+1,fun n hn=>?_⟩
     obtain ⟨k,rfl,hm⟩:=up1 hn
     exact qA (h1 k (by omega)) (qO (qAp hp) (qO (qEO h0) (qD rfl (qA g1 (qO hc (qA (h2 k (by omega)) (qD rfl (qA (h4 k (by omega)) rfl))))))))
    |false=>
     rw [if_neg (by simp)]
     have rf:r.2.2.2=false:=by rw [r1];exact hn
     by_cases hv:(qf s).2.2.2=true
     ·rw [if_pos hv]
      obtain ⟨v1,v2⟩:=qPX hv
      obtain ⟨n4,h4⟩:=qC7 (qf s).1 (qf s).2.1 (qf s).2.2.1 (by have:=qQS hv;omega)
      rw [if_pos v1,v2] at h4
      refine ⟨n1+n2+n3+n4+1,fun n hn=>?_⟩
      obtain ⟨k,rfl,hm⟩:=up1 hn
      exact qA (h1 k (by omega)) (qO (qAp hp) (qO (qEO h0) (qD rfl (qA g1 (qO hc (qA (h2 k (by omega)) (qO rf (qA (h3 k (by omega)) (qO (qAp hv) (qA (h4 k (by omega)) (qO (decide_eq_false (by omega)) rfl)))))))))))
     ·rw [if_neg hv]
      obtain ⟨n4,h4⟩:=qC7 2 0 s hb
      rw [if_pos (qRw hp)] at h4
      have vz:=qQu s
      refine ⟨n1+n2+n3+n4+1,fun n hn=>?_⟩
      obtain ⟨k,rfl,hm⟩:=up1 hn
      refine qA (h1 k (by omega)) (qO (qAp hp) (qO (qEO h0) (qD rfl (qA g1 (qO hc (qA (h2 k (by omega)) (qO rf (qA (h3 k (by omega)) (qD (qCU (by rw [Bool.eq_false_iff];exact hv)) (qA (h4 k (by omega)) ?_))))))))))
      by_cases hz:s.size=200
      ·rw [if_pos hz]
       exact qD (decide_eq_true (by omega)) rfl
      ·rw [if_neg hz]
       exact qO (decide_eq_false (by omega)) rfl
theorem qPY (X:ByteArray):Ev (qEx · ((qBQ X).1.map qZ)) (⟨#[61]⟩++qCo (qBQ X).1,decide ((qCo (qBQ X).1).toList≠ [])&&decide ((qCo (qBQ X).1).size<200)):=by
 obtain ⟨n1,h1⟩:=qPp X
 have fz:=qNb (qBQ X).1
 refine ⟨n1+1,fun n hn=>?_⟩
 obtain ⟨k,rfl,hm⟩:=up1 hn
 refine qA (h1 k (by omega)) (qD (decide_eq_true (by show 1+(qCo (qBQ X).1).size≤9223372036854775807;omega)) ?_)
 by_cases he:(qCo (qBQ X).1).toList= []
 ·refine qO (qAp (qNc he)) ?_
  rw [qC,decide_eq_false (fun h=>h he),Bool.false_and]
 ·refine qD (qCU (qEO he)) ?_
  rw [qC,decide_eq_true he,Bool.true_and]
  have e:decide (((qCo (qBQ X).1).size:Int)<200)=decide ((qCo (qBQ X).1).size<200):=by rw [decide_eq_decide];omega
  exact congrArg (fun b:Bool=>some ((⟨#[61]⟩:ByteArray)++qCo (qBQ X).1,b)) e
theorem qMW (s:ByteArray) (hb:s.size≤140737488351232):Ev (qFq · s) (qE2 s):=by
 obtain ⟨n1,h1⟩:=qFt s 200 hb
 unfold qE2
 cases hp:qCu s 200 with
 |false=>
  rw [if_pos rfl]
  have h0:s.toList≠ []:=fun e=>by
   have:qCu s 200=true:=by
    unfold qCu
    have hz:s.size=0:=by rw [←qAO,e];rfl
    rw [e,hz];rfl
   rw [hp] at this;cases this
  refine ⟨n1+1,fun n hn=>?_⟩
  obtain ⟨k,rfl,hm⟩:=up1 hn
  refine qA (h1 k (by omega)) (qD (qCU hp) ?_)
  rw [qC,qEO h0]
 |true=>
  rw [if_neg (by simp)]
  have hsz:=qKL hp
  by_cases h0:s.toList= []
  ·rw [if_pos h0]
   refine ⟨n1+1,fun n hn=>?_⟩
   obtain ⟨k,rfl,hm⟩:=up1 hn
   refine qA (h1 k (by omega)) (qO (qAp hp) (qD (qNc h0) ?_))
   rw [qC,qNc h0]
  ·rw [if_neg h0]
   obtain ⟨n2,h2⟩:=qFE s 61
   by_cases h61:s.toList.head?=some 61
   ·rw [if_pos h61]
    rw [if_pos h61] at h2
    obtain ⟨n3,h3⟩:=qJY (BR s.toList.tail) (by rw [qb,List.length_tail,qAO];omega)
    obtain ⟨n4,h4⟩:=qPY (BR s.toList.tail)
    change ∀n,n2≤n→qAB n s ⟨#[61]⟩=some (BR s.toList.tail,true) at h2
    generalize BR s.toList.tail=X at h2 h3 h4⊢
    refine ⟨n1+n2+n3+n4+1,fun n hn=>?_⟩
    obtain ⟨k,rfl,hm⟩:=up1 hn
    have h4:=h4 k (by omega)
    refine qA (h1 k (by omega)) (qO (qAp hp) (qO (qEO h0) (qA (h2 k (by omega)) (qD rfl (qA (h3 k (by omega)) (qA h4 ?_))))))
    by_cases hr:(qBQ X).2=true
    ·refine qO (qAp hr) ?_
     by_cases he:(qCo (qBQ X).1).toList≠ []∧(qCo (qBQ X).1).size<200
     ·rw [if_pos ⟨hr,he⟩]
      exact qO (qAp (by simp only;rw [decide_eq_true he.1,decide_eq_true he.2];rfl)) rfl
     ·rw [if_neg (fun h=>he h.2)]
      exact qD (qCU (by simp only;rw [Bool.eq_false_iff];intro e;simp only [Bool.and_eq_true,decide_eq_true_eq] at e;exact he e)) rfl
    ·rw [if_neg (fun h=>hr h.1)]
     exact qD (qCU (by rw [Bool.eq_false_iff];exact hr)) rfl
   ·rw [if_neg h61]
    rw [if_neg h61] at h2
    obtain ⟨n3,h3⟩:=qGL s (by omega)
    obtain ⟨n4,h4⟩:=qPT s.toList (by rw [qAO];omega)
    rw [qH0] at h4
    have fin:∀k,n3≤k→(Tr.opt (qd k s) fun r=>(.ask (r.2.2.2) (.done (s,true)) (.ask (((s.size:Int)==(200:Int))) (.done ((⟨#[]⟩:ByteArray),false)) (.ask (decide ((⟨#[39]⟩:ByteArray).size+s.size≤9223372036854775807)) (.done (((⟨#[39]⟩:ByteArray)++s),true)) .fail)))).run=some (if (qf s).2.2.2=true then (s,true) else if s.size=200 then ((⟨#[]⟩:ByteArray),false) else (⟨#[39]⟩++s,true)):=fun k hk=>by
     refine qA (h3 k hk) ?_
     by_cases hv:(qf s).2.2.2=true
     ·rw [if_pos hv];exact qD hv rfl
     ·rw [if_neg hv]
      refine qO (by rw [Bool.eq_false_iff];exact hv) ?_
      by_cases hz:s.size=200
      ·rw [if_pos hz];exact qD (beq_iff_eq.2 (by omega)) rfl
      ·rw [if_neg hz]
       exact qO (beq_eq_false_iff_ne.2 (by omega)) (qD (decide_eq_true (by show 1+s.size≤9223372036854775807;omega)) rfl)
    have hpi:∀k,qAr (k+1) s 10 64=zM s 10 64:=fun k=>rfl
    have hL:zM s 10 64=(match Lib.parseIntB 64 s.toList with
     | .ok v=>some (.inl v)
     | .range=>some (.inr (Lib.intSat 64 s.toList))
     | _ => some (.inr 0)):=by
     unfold zM
     rw [if_pos ⟨rfl,rfl,by omega⟩,Go.Lib.toList_data]
     cases Lib.parseIntB 64 s.data.toList<;>rfl
    rcases hq : Lib.parseIntB 64 s.toList with v | _ | _
    rotate_left
    ·have hn:qEL s.toList=false:=by
      rw [Bool.eq_false_iff];intro e
      have hd:qN5 s.toList=true:=by unfold qEL at e;simp only [Bool.and_eq_true] at e;exact e.1
      have:=(qLm hd).2 e
      rw [hq] at this;cases this
     rw [hn,if_neg (by simp)]
     rw [hq] at hL
     refine ⟨n1+n2+n3+2,fun n hn=>?_⟩
     obtain ⟨k,rfl,hm⟩:=up1 hn
     obtain ⟨k,rfl,hm⟩:=up1 (show n1+n2+n3+1≤k by omega)
     exact qA (h1 (k+1) (by omega)) (qO (qAp hp) (qO (qEO h0) (qA (h2 (k+1) (by omega)) (qO rfl (qA ((hpi k).trans hL) (qO rfl (fin (k+1) (by omega))))))))
    ·have hn:qEL s.toList=false:=by
      rw [Bool.eq_false_iff];intro e
      have hd:qN5 s.toList=true:=by unfold qEL at e;simp only [Bool.and_eq_true] at e;exact e.1
      have:=(qLm hd).2 e
      rw [hq] at this;cases this
     rw [hn,if_neg (by simp)]
     rw [hq] at hL
     refine ⟨n1+n2+n3+2,fun n hn=>?_⟩
     obtain ⟨k,rfl,hm⟩:=up1 hn
     obtain ⟨k,rfl,hm⟩:=up1 (show n1+n2+n3+1≤k by omega)
     exact qA (h1 (k+1) (by omega)) (qO (qAp hp) (qO (qEO h0) (qA (h2 (k+1) (by omega)) (qO rfl (qA ((hpi k).trans hL) (qO rfl (fin (k+1) (by omega))))))))
    ·rw [hq] at hL
     cases hd:qN5 s.toList with
     |false=>
      have hn:qEL s.toList=false:=by unfold qEL;rw [hd];rfl
      rw [hn,if_neg (by simp)]
      refine ⟨n1+n2+n3+n4+2,fun n hn=>?_⟩
      obtain ⟨k,rfl,hm⟩:=up1 hn
      obtain ⟨k,rfl,hm⟩:=up1 (show n1+n2+n3+n4+1≤k by omega)
      have h4:=h4 (k+1) (by omega)
      rw [hd] at h4
      exact qA (h1 (k+1) (by omega)) (qO (qAp hp) (qO (qEO h0) (qA (h2 (k+1) (by omega)) (qO rfl (qA ((hpi k).trans hL) (qD rfl (qA h4 (qO rfl (fin (k+1) (by omega))))))))))
     |true=>
      have hv:=(qLm hd).1 v hq
      subst hv
      obtain ⟨n5,h5⟩:=qIl (qIz s.toList)
      obtain ⟨n6,h6⟩:=qEz 1 (qIz s.toList) em (by decide)
      have ei:qEL s.toList=okV 1 (qIz s.toList) em:=by unfold qEL;rw [hd,Bool.true_and]
      rw [ei]
      cases ho:okV 1 (qIz s.toList) em with
      |true=>
       rw [if_pos rfl]
       have hb2:=qRe.1 ho
       obtain ⟨n7,h7⟩:=qE0 (qIz s.toList) (by omega)
       refine ⟨n1+n2+n3+n4+n5+n6+n7+2,fun n hn=>?_⟩
       obtain ⟨k,rfl,hm⟩:=up1 hn
       obtain ⟨k,rfl,hm⟩:=up1 (show n1+n2+n3+n4+n5+n6+n7+1≤k by omega)
       have h4:=h4 (k+1) (by omega)
       rw [hd] at h4
       exact qA (h1 (k+1) (by omega)) (qO (qAp hp) (qO (qEO h0) (qA (h2 (k+1) (by omega)) (qO rfl (qA ((hpi k).trans hL) (qD rfl (qA h4 (qD rfl (qA (h5 (k+1) (by omega)) (qA (h6 (k+1) (by omega)) (qD ho (qA (h7 (k+1) (by omega)) rfl))))))))))))
      |false=>
       rw [if_neg (by simp)]
       refine ⟨n1+n2+n3+n4+n5+n6+2,fun n hn=>?_⟩
       obtain ⟨k,rfl,hm⟩:=up1 hn
       obtain ⟨k,rfl,hm⟩:=up1 (show n1+n2+n3+n4+n5+n6+1≤k by omega)
       have h4:=h4 (k+1) (by omega)
       rw [hd] at h4
       exact qA (h1 (k+1) (by omega)) (qO (qAp hp) (qO (qEO h0) (qA (h2 (k+1) (by omega)) (qO rfl (qA ((hpi k).trans hL) (qD rfl (qA h4 (qD rfl (qA (h5 (k+1) (by omega)) (qA (h6 (k+1) (by omega)) (qO ho (fin (k+1) (by omega)))))))))))))
abbrev Cl:=Int×Int×ByteArray
def qAa (c:Cl):List PV:= [.i .i64 c.1,.i .i64 c.2.1,.s c.2.2]
theorem qRI {rows:List (List PV)} (h:∀e∈rows,okR [.i .i64,.i .i64,.s] e):∃l:List Cl,rows=l.map qAa∧∀c∈l,c.2.2.size≤140737488351232:=by
 refine qO3 (fun e h=>?_) h
 obtain ⟨c0,t0,rfl,p0,h⟩:=zCW h
 obtain ⟨c1,t1,rfl,p1,h1⟩:=zCW h
 obtain ⟨c2,t2,rfl,p2,h2⟩:=zCW h1
 obtain rfl:=zGW h2
 obtain ⟨x0,rfl,_⟩:=zIn p0
 obtain ⟨x1,rfl,_⟩:=zIn p1
 obtain ⟨x2,rfl,w⟩:=zJG p2
 exact ⟨(x0,x1,x2),rfl,w⟩
theorem qPq {l:List Cl} {i:Nat} {e:List PV} (h:(l.map qAa)[i]?=some e):∃c,l[i]?=some c∧e=qAa c:=by
 rw [List.getElem?_map] at h
 obtain ⟨c,h1,h2⟩:=Option.map_eq_some_iff.1 h
 exact ⟨c,h1,h2.symm⟩
def qJa (s:ByteArray):Bool:=(qE2 s).2&&(decide (s.toList≠ [])&&((qE2 s).1.toList==s.toList))
def qKM (l:List Cl) (i:Nat) (c:Cl):Bool:=match i with
 |0=>true
 |j+1=>match l[j]? with
  |some p=>qHv p.1 p.2.1 c.1 c.2.1
  |none=>true
def qI0 (l:List Cl):Nat→List Cl→Bool
 |_,[]=>true
 |i,c::r=>qBE c.1 c.2.1&&(qJa c.2.2&&qKM l i c)&&qI0 l (i+1) r
def qOz (l:List Cl):Bool:=qI0 l 0 l&&decide ((l.length:Int)≤120)
theorem qPZ (s:ByteArray) (hb:s.size≤140737488351232):Ev (qCx · s) (qJa s):=by
 obtain ⟨n1,h1⟩:=qMW s hb
 refine ⟨n1+1,fun n hn=>?_⟩
 obtain ⟨k,rfl,hm⟩:=up1 hn
 refine qA (h1 k (by omega)) ?_
 unfold qJa
 by_cases h2:(qE2 s).2=true
 ·refine qD h2 ?_
  rw [h2,Bool.true_and]
  by_cases h3:s.toList= []
  ·refine qO (qAp (qNc h3)) ?_
   rw [qC,decide_eq_false (fun e=>e h3),Bool.false_and]
  ·refine qD (qCU (qEO h3)) ?_
   rw [qC,decide_eq_true h3,Bool.true_and]
 ·have h2:(qE2 s).2=false:=by rw [Bool.eq_false_iff];exact h2
  refine qO h2 ?_
  rw [qC,h2,Bool.false_and]
structure SrcAt (n:Nat) (c:Cl):Prop where
 r1:qAE n c.1 c.2.1=some (qBE c.1 c.2.1)
 r2:qBh n c.1 c.2.1=some (qBE c.1 c.2.1)
 i1:qD4 n c.2.2=some (qE2 c.2.2)
 i2:qCx n c.2.2=some (qJa c.2.2)
theorem qQv (c:Cl) (hb:c.2.2.size≤140737488351232):∃n0,∀n,n0≤n→SrcAt n c:=by
 obtain ⟨n1,h1⟩:=qCX c.1 c.2.1
 obtain ⟨n2,h2⟩:=qC2 c.1 c.2.1
 obtain ⟨n3,h3⟩:=qMV c.2.2 hb
 obtain ⟨n4,h4⟩:=qPZ c.2.2 hb
 exact ⟨n1+n2+n3+n4,fun n hn=>⟨h1 n (by omega),h2 n (by omega),h3 n (by omega),h4 n (by omega)⟩⟩
theorem qO0:∀(l:List Cl),(∀c∈l,c.2.2.size≤140737488351232)→∃n0,∀n,n0≤n→∀c∈l,SrcAt n c
 | [],_=>⟨0,fun n _ c hc=>by cases hc⟩
 |a::l,h=>by
  obtain ⟨n1,h1⟩:=qQv a (h a (List.mem_cons_self ..))
  obtain ⟨n2,h2⟩:=qO0 l fun c hc=>h c (List.mem_cons_of_mem _ hc)
  exact ⟨n1+n2,fun n hn c hc=>by
   rcases List.mem_cons.1 hc with rfl|hc
   ·exact h1 n (by omega)
   ·exact h2 n (by omega) c hc⟩
theorem qK1 (n:Nat) (l:List Cl) (hb:l.length≤140737488351232) (hs:∀c∈l,SrcAt n c) (ha:∀a b c d,qDA n a b c d=some (qHv a b c d)):
  ∀(m i M:Nat),l.length=i+m→m+1≤M→zC (qD5 n) M (l.map qAa,(i:Int))=some (if qI0 l i (l.drop i)=true then .inr () else .inl false)
 |m,i,0,h1,h2=>by omega
 |0,i,M+1,h1,h2=>by
  rw [List.drop_eq_nil_of_le (by omega)]
  exact qP (qO (decide_eq_false (show ¬((i:Int)<((l.map qAa).length:Int)) by rw [List.length_map];omega)) rfl)
 |m+1,i,M+1,h1,h2=>by
  have hl:i<l.length:=by omega
  have hg:=List.getElem?_eq_getElem hl
  have hm:=List.getElem_mem hl
  rw [qC1 hg]
  generalize l[i]=c at hg hm
  have S:=hs c hm
  have hw:IntKind.i64.wrap ((i:Int)+1)=((i+1:Nat):Int):=by rw [qa (by omega)];omega
  have g1:decide ((i:Int)<((l.map qAa).length:Int))=true:=decide_eq_true (by rw [List.length_map];omega)
  have g2:decide (0≤(i:Int)∧(i:Int)<((l.map qAa).length:Int))=true:=decide_eq_true ⟨by omega,by rw [List.length_map];omega⟩
  have g3:(l.map qAa)[((i:Int)).toNat]?=some (qAa c):=by rw [Int.toNat_natCast,List.getElem?_map,hg];rfl
  have k3:decide ((qAa c).length=3)=true:=rfl
  have cs:zc (qAa c) 2=some c.2.2:=rfl
  have c0:zE .i64 (qAa c) 0=some c.1:=rfl
  have c1:zE .i64 (qAa c) 1=some c.2.1:=rfl
  have ih:=qK1 n l hb hs ha m (i+1) M (by omega) (by omega)
  unfold qI0
  by_cases hR:qBE c.1 c.2.1=true
  rotate_left
  ·have hR:qBE c.1 c.2.1=false:=by rw [Bool.eq_false_iff];exact hR
   rw [hR,Bool.false_and,Bool.false_and,if_neg (by simp)]
   exact qP (qD g1 (qD g2 (qA g3 (qD k3 (qA cs (qA S.i1 (qD g2 (qA g3 (qD k3 (qA c0 (qA c1 (qA S.r1 (qD (qCU hR) rfl)))))))))))))
  rw [hR,Bool.true_and]
  by_cases hI:(qE2 c.2.2).2=true
  rotate_left
  ·have hI:(qE2 c.2.2).2=false:=by rw [Bool.eq_false_iff];exact hI
   have e:qJa c.2.2=false:=by unfold qJa;rw [hI];rfl
   rw [e,Bool.false_and,Bool.false_and,if_neg (by simp)]
   exact qP (qD g1 (qD g2 (qA g3 (qD k3 (qA cs (qA S.i1 (qD g2 (qA g3 (qD k3 (qA c0 (qA c1 (qA S.r1 (qO (qAp hR) (qD (qCU hI) rfl))))))))))))))
  by_cases hE:c.2.2.toList= []
  ·have e:qJa c.2.2=false:=by unfold qJa;rw [decide_eq_false (fun h=>h hE),Bool.false_and,Bool.and_false]
   rw [e,Bool.false_and,Bool.false_and,if_neg (by simp)]
   exact qP (qD g1 (qD g2 (qA g3 (qD k3 (qA cs (qA S.i1 (qD g2 (qA g3 (qD k3 (qA c0 (qA c1 (qA S.r1 (qO (qAp hR) (qO (qAp hI) (qD g2 (qA g3 (qD k3 (qA cs (qD (qNc hE) rfl)))))))))))))))))))
  by_cases hQ:(qE2 c.2.2).1.toList=c.2.2.toList
  rotate_left
  ·have e:qJa c.2.2=false:=by unfold qJa;rw [beq_eq_false_iff_ne.2 hQ,Bool.and_false,Bool.and_false]
   rw [e,Bool.false_and,Bool.false_and,if_neg (by simp)]
   exact qP (qD g1 (qD g2 (qA g3 (qD k3 (qA cs (qA S.i1 (qD g2 (qA g3 (qD k3 (qA c0 (qA c1 (qA S.r1 (qO (qAp hR) (qO (qAp hI) (qD g2 (qA g3 (qD k3 (qA cs (qO (qEO hE) (qD g2 (qA g3 (qD k3 (qA cs (qD (qCU (beq_eq_false_iff_ne.2 hQ)) rfl))))))))))))))))))))))))
  have e:qJa c.2.2=true:=by unfold qJa;rw [hI,decide_eq_true hE,beq_iff_eq.2 hQ];rfl
  rw [e,Bool.true_and]
  cases i with
  |zero=>
   rw [show qKM l 0 c=true from rfl,Bool.true_and]
   rw [qT (v':=(l.map qAa,((0+1:Nat):Int))) (by
    refine qD g1 (qD g2 (qA g3 (qD k3 (qA cs (qA S.i1 (qD g2 (qA g3 (qD k3 (qA c0 (qA c1 (qA S.r1 (qO (qAp hR) (qO (qAp hI) (qD g2 (qA g3 (qD k3 (qA cs (qO (qEO hE) (qD g2 (qA g3 (qD k3 (qA cs (qO (qAp (beq_iff_eq.2 hQ)) (qO rfl ?_))))))))))))))))))))))))
    rw [qC,hw])]
   exact ih
  |succ j=>
   have hj:j<l.length:=by omega
   have hgj:=List.getElem?_eq_getElem hj
   generalize l[j]=p at hgj
   have wj:IntKind.i64.wrap (((j+1:Nat):Int)-1)=(j:Int):=by rw [qa (by omega)];omega
   have a1:decide (((j+1:Nat):Int)>0)=true:=decide_eq_true (by omega)
   have j2:decide (0≤IntKind.i64.wrap (((j+1:Nat):Int)-1)∧IntKind.i64.wrap (((j+1:Nat):Int)-1)<((l.map qAa).length:Int))=true:=decide_eq_true (by rw [wj,List.length_map];omega)
   have j3:(l.map qAa)[(IntKind.i64.wrap (((j+1:Nat):Int)-1)).toNat]?=some (qAa p):=by rw [wj,Int.toNat_natCast,List.getElem?_map,hgj];rfl
   have p0:zE .i64 (qAa p) 0=some p.1:=rfl
   have p1:zE .i64 (qAa p) 1=some p.2.1:=rfl
   have h5:=ha p.1 p.2.1 c.1 c.2.1
   have ep:qKM l (j+1) c=qHv p.1 p.2.1 c.1 c.2.1:=by unfold qKM;simp only [hgj]
   rw [ep]
   by_cases hA:qHv p.1 p.2.1 c.1 c.2.1=true
   ·rw [hA,Bool.true_and]
    rw [qT (v':=(l.map qAa,((j+1+1:Nat):Int))) (by
     refine qD g1 (qD g2 (qA g3 (qD k3 (qA cs (qA S.i1 (qD g2 (qA g3 (qD k3 (qA c0 (qA c1 (qA S.r1 (qO (qAp hR) (qO (qAp hI) (qD g2 (qA g3 (qD k3 (qA cs (qO (qEO hE) (qD g2 (qA g3 (qD k3 (qA cs (qO (qAp (beq_iff_eq.2 hQ)) (qD a1 (qD j2 (qA j3 (qD rfl (qA p0 (qA p1 (qD g2 (qA g3 (qD k3 (qA c0 (qA c1 (qA h5 (qO (qAp hA) ?_))))))))))))))))))))))))))))))))))))
     rw [qC,hw])]
    exact ih
   ·have hA:qHv p.1 p.2.1 c.1 c.2.1=false:=by rw [Bool.eq_false_iff];exact hA
    rw [hA,Bool.false_and,if_neg (by simp)]
    exact qP (qD g1 (qD g2 (qA g3 (qD k3 (qA cs (qA S.i1 (qD g2 (qA g3 (qD k3 (qA c0 (qA c1 (qA S.r1 (qO (qAp hR) (qO (qAp hI) (qD g2 (qA g3 (qD k3 (qA cs (qO (qEO hE) (qD g2 (qA g3 (qD k3 (qA cs (qO (qAp (beq_iff_eq.2 hQ)) (qD a1 (qD j2 (qA j3 (qD rfl (qA p0 (qA p1 (qD g2 (qA g3 (qD k3 (qA c0 (qA c1 (qA h5 (qD (qCU hA) rfl)))))))))))))))))))))))))))))))))))))
theorem qMX (l:List Cl) (hb:l.length≤140737488351232) (hs:∀c∈l,c.2.2.size≤140737488351232):Ev (qFY · (l.map qAa)) (qOz l):=by
 obtain ⟨n1,h1⟩:=qO0 l hs
 refine ⟨n1+l.length+3,fun n hn=>?_⟩
 obtain ⟨m,rfl,hm⟩:=up1 hn
 have ha:∀a b c d,qDA m a b c d=some (qHv a b c d):=fun a b c d=>by
  obtain ⟨q,rfl⟩:∃q,m=q+1:=⟨m-1,by omega⟩
  simp only [qDA,qFX,qC,qE,qG,qH,qJ,qK,Option.bind_some,qF,qM,qN]
  unfold qHv
  by_cases h:b<d
  ·simp [h]
  ·by_cases h':b=d
   ·subst h';simp
   ·simp [h,h']
 have h:=qK1 m l hb (h1 m (by omega)) ha l.length 0 m (by omega) (by omega)
 simp only [Int.natCast_zero,List.drop_zero] at h
 unfold qOz
 by_cases h0:(l.length:Int)>120
 ·refine qD (decide_eq_true (by rw [List.length_map];exact h0)) ?_
  rw [qC,decide_eq_false (by omega),Bool.and_false]
 ·refine qO (decide_eq_false (by rw [List.length_map];exact h0)) (qA h ?_)
  rw [decide_eq_true (show (l.length:Int)≤120 by omega),Bool.and_true]
  cases qI0 l 0 l<;>rfl
theorem qK2 (n:Nat) (l:List Cl) (hb:l.length≤140737488351232) (hs:∀c∈l,SrcAt n c) (ha:∀p∈l,∀c∈l,qBZ n p.1 p.2.1 c.1 c.2.1=some (qC6 [qLV p.2.1 c.2.1,qLV p.1 c.1])):
  ∀(m i M:Nat),l.length=i+m→m+1≤M→zC (qEE n) M (l.map qAa,l.map qAa,(l.length:Int),(i:Int))=some (if qI0 l i (l.drop i)=true then .inr (l.map qAa) else .inl false)
 |m,i,0,h1,h2=>by omega
 |0,i,M+1,h1,h2=>by
  rw [List.drop_eq_nil_of_le (by omega)]
  exact qP (qO (decide_eq_false (show ¬((i:Int)<(l.length:Int)) by omega)) rfl)
 |m+1,i,M+1,h1,h2=>by
  have hl:i<l.length:=by omega
  have hg:=List.getElem?_eq_getElem hl
  have hm:=List.getElem_mem hl
  rw [qC1 hg]
  generalize l[i]=c at hg hm
  have S:=hs c hm
  have hw:IntKind.i64.wrap ((i:Int)+1)=((i+1:Nat):Int):=by rw [qa (by omega)];omega
  have g1:decide ((i:Int)<(l.length:Int))=true:=decide_eq_true (by omega)
  have g2:decide (0≤(i:Int)∧(i:Int)<((l.map qAa).length:Int))=true:=decide_eq_true ⟨by omega,by rw [List.length_map];omega⟩
  have g3:(l.map qAa)[((i:Int)).toNat]?=some (qAa c):=by rw [Int.toNat_natCast,List.getElem?_map,hg];rfl
  have k3:decide ((qAa c).length=3)=true:=rfl
  have cs:zc (qAa c) 2=some c.2.2:=rfl
  have c0:zE .i64 (qAa c) 0=some c.1:=rfl
  have c1:zE .i64 (qAa c) 1=some c.2.1:=rfl
  have ih:=qK2 n l hb hs ha m (i+1) M (by omega) (by omega)
  unfold qI0
  by_cases hR:qBE c.1 c.2.1=true
  rotate_left
  ·have hR:qBE c.1 c.2.1=false:=by rw [Bool.eq_false_iff];exact hR
   rw [hR,Bool.false_and,Bool.false_and,if_neg (by simp)]
   exact qP (qD g1 (qD g2 (qA g3 (qD k3 (qA c0 (qA c1 (qA cs (qA S.r2 (qD (qCU hR) rfl)))))))))
  rw [hR,Bool.true_and]
  cases i with
  |zero=>
   rw [show qKM l 0 c=true from rfl,Bool.and_true]
   by_cases hS:qJa c.2.2=true
   ·rw [hS,Bool.true_and]
    rw [qT (v':=(l.map qAa,l.map qAa,(l.length:Int),((0+1:Nat):Int))) (by
     refine qD g1 (qD g2 (qA g3 (qD k3 (qA c0 (qA c1 (qA cs (qA S.r2 (qO (qAp hR) (qO rfl (qA S.i2 (qO (qAp hS) ?_)))))))))))
     rw [qC,hw])]
    exact ih
   ·have hS:qJa c.2.2=false:=by rw [Bool.eq_false_iff];exact hS
    rw [hS,Bool.false_and,if_neg (by simp)]
    exact qP (qD g1 (qD g2 (qA g3 (qD k3 (qA c0 (qA c1 (qA cs (qA S.r2 (qO (qAp hR) (qO rfl (qA S.i2 (qD (qCU hS) rfl))))))))))))
  |succ j=>
   have hj:j<l.length:=by omega
   have hgj:=List.getElem?_eq_getElem hj
   have hmj:=List.getElem_mem hj
   generalize l[j]=p at hgj hmj
   have wj:IntKind.i64.wrap (((j+1:Nat):Int)-1)=(j:Int):=by rw [qa (by omega)];omega
   have a1:decide (((j+1:Nat):Int)>0)=true:=decide_eq_true (by omega)
   have j2:decide (0≤IntKind.i64.wrap (((j+1:Nat):Int)-1)∧IntKind.i64.wrap (((j+1:Nat):Int)-1)<((l.map qAa).length:Int))=true:=decide_eq_true (by rw [wj,List.length_map];omega)
   have j3:(l.map qAa)[(IntKind.i64.wrap (((j+1:Nat):Int)-1)).toNat]?=some (qAa p):=by rw [wj,Int.toNat_natCast,List.getElem?_map,hgj];rfl
   have p0:zE .i64 (qAa p) 0=some p.1:=rfl
   have p1:zE .i64 (qAa p) 1=some p.2.1:=rfl
   have h5:=ha p hmj c hm
   have h6:=qQE p.1 p.2.1 c.1 c.2.1
   have ep:qKM l (j+1) c=qHv p.1 p.2.1 c.1 c.2.1:=by unfold qKM;simp only [hgj]
   rw [ep]
   by_cases hA:qHv p.1 p.2.1 c.1 c.2.1=true
   ·rw [hA] at h6
    rw [hA,Bool.and_true]
    by_cases hS:qJa c.2.2=true
    ·rw [hS,Bool.true_and]
     rw [qT (v':=(l.map qAa,l.map qAa,(l.length:Int),((j+1+1:Nat):Int))) (by
      refine qD g1 (qD g2 (qA g3 (qD k3 (qA c0 (qA c1 (qA cs (qA S.r2 (qO (qAp hR) (qD a1 (qD j2 (qA j3 (qD rfl (qA p0 (qA p1 (qA h5 (qO h6 (qA S.i2 (qO (qAp hS) ?_))))))))))))))))))
      rw [qC,hw])]
     exact ih
    ·have hS:qJa c.2.2=false:=by rw [Bool.eq_false_iff];exact hS
     rw [hS,Bool.false_and,if_neg (by simp)]
     exact qP (qD g1 (qD g2 (qA g3 (qD k3 (qA c0 (qA c1 (qA cs (qA S.r2 (qO (qAp hR) (qD a1 (qD j2 (qA j3 (qD rfl (qA p0 (qA p1 (qA h5 (qO h6 (qA S.i2 (qD (qCU hS) rfl)))))))))))))))))))
   ·have hA:qHv p.1 p.2.1 c.1 c.2.1=false:=by rw [Bool.eq_false_iff];exact hA
    rw [hA] at h6
    rw [hA,Bool.and_false,Bool.false_and,if_neg (by simp)]
    exact qP (qD g1 (qD g2 (qA g3 (qD k3 (qA c0 (qA c1 (qA cs (qA S.r2 (qO (qAp hR) (qD a1 (qD j2 (qA j3 (qD rfl (qA p0 (qA p1 (qA h5 (qD h6 rfl)))))))))))))))))
theorem qMY (l:List Cl) (hb:l.length≤140737488351232) (hs:∀c∈l,c.2.2.size≤140737488351232):Ev (qFr · (l.map qAa)) (qOz l):=by
 obtain ⟨n1,h1⟩:=qO0 l hs
 obtain ⟨n3,h3⟩:=qB9 (F:=fun (pc:Cl×Cl) n=>qBZ n pc.1.1 pc.1.2.1 pc.2.1 pc.2.2.1) (f:=fun pc=>qC6 [qLV pc.1.2.1 pc.2.2.1,qLV pc.1.1 pc.2.1]) (l.flatMap fun p=>l.map fun c=>(p,c)) fun pc _=>qJU pc.1.1 pc.1.2.1 pc.2.1 pc.2.2.1
 refine ⟨n1+n3+l.length+3,fun n hn=>?_⟩
 obtain ⟨m,rfl,hm⟩:=up1 hn
 have h:=qK2 m l hb (h1 m (by omega)) (fun p hp c hc=>h3 m (by omega) (p,c) (List.mem_flatMap.2 ⟨p,hp,List.mem_map.2 ⟨c,hc,rfl⟩⟩)) l.length 0 m (by omega) (by omega)
 simp only [Int.natCast_zero,List.drop_zero] at h
 rw [show (l.length:Int)=((l.map qAa).length:Int) by rw [List.length_map]] at h
 unfold qOz
 refine qA h ?_
 cases qI0 l 0 l with
 |true=>
  rw [if_pos rfl,Bool.true_and]
  show some (decide (((l.map qAa).length:Int)≤120))=_
  rw [List.length_map]
 |false=>rfl
theorem qNd (n:Nat) (a b:Int) (s:ByteArray) (left:Int):∃r,qEW (n+1) a b s left=some r:=by
 simp only [qEW,qGR,qC,qE,qG,qH,qJ,qK,Option.bind_some,qF,qM,qN]
 by_cases h:IntKind.i64.wrap (left-s.size)<0
 ·exact ⟨-1,by simp [h]⟩
 ·exact ⟨IntKind.i64.wrap (left-s.size),by simp [h]⟩
theorem qMZ (l:List Cl) (hb:l.length≤140737488351232) (left:Int):∀n,l.length+5≤n→∃r,qDx n (l.map qAa) left=some r:=by
 intro n hn
 obtain ⟨m,rfl,hm⟩:=up1 hn
 obtain ⟨q,rfl⟩:∃q,m=q+2:=⟨m-2,by omega⟩
 simp only [qDx,qFJ,qC,qE,qG,qH,qJ,qK,Option.bind_some,qF,qM,qN]
 obtain ⟨r,h⟩:=qPs (B:=qBm (q+2)) (rows:=l.map qAa)
  (fun i e x he=>by
   obtain ⟨c,hc,rfl⟩:=qPq he
   have hi:i<l.length:=(List.getElem?_eq_some_iff.1 hc).1
   have hi':(i:Int)<l.length:=by omega
   have hw:IntKind.i64.wrap ((i:Int)+1)=(i:Int)+1:=qa (by omega)
   obtain ⟨r,hr⟩:=qNd (q+1) c.1 c.2.1 c.2.2 x
   by_cases h0:r<0
   ·exact .inr ⟨.inl (-1),by simp [qBm,qC,qE,qG,qH,qJ,qK,Option.bind_some,qF,qM,qN,hi',hc,qAa,zE,zc,hr,h0]⟩
   ·exact .inl ⟨r,by simp [qBm,qC,qE,qG,qH,qJ,qK,Option.bind_some,qF,qM,qN,hi',hc,qAa,zE,zc,hr,h0,hw]⟩)
  (fun x=>⟨.inr x,by simp [qBm,qC,qE,qG,qH,qJ,qK,Option.bind_some,qF,qM,qN]⟩) l.length 0 (q+2) (IntKind.i64.wrap (left-l.length)) (by simp) (by omega)
 simp only [Int.natCast_zero] at h
 by_cases h0:IntKind.i64.wrap (left-l.length)<0
 ·exact ⟨-1,by simp [h0]⟩
 ·rcases r with r|r
  ·exact ⟨r,by simp [h0,h,qC,qE,qG,qH,qJ,qK,Option.bind_some,qF,qM,qN]⟩
  ·exact ⟨r,by simp [h0,h,qC,qE,qG,qH,qJ,qK,Option.bind_some,qF,qM,qN]⟩
theorem qNe (n:Nat) (a b:Int) (s:ByteArray):qEX (n+2) a b s=some (a,b,s):=by
 simp only [qEX,qGS,qHE,qHD,qC,qE,qG,qH,qJ,qK,Option.bind_some,qF,qM,qN]
theorem qMa (l:List Cl) (hb:l.length*32≤140737488351232):Ev (qCd · (l.map qAa)) (l.length,l.map qAa):=by
 refine ⟨l.length+5,fun n hn=>?_⟩
 obtain ⟨m,rfl,hm⟩:=up1 hn
 simp only [qCd,qFK,qC,qE,qG,qH,qJ,qK,Option.bind_some,qF,qM,qN]
 have h:=qQU (B:=qCF m) (rows:=l.map qAa) (z:= [.i .i64 0,.i .i64 0,.s ⟨#[]⟩]) (r:=fun acc=>((l.map qAa).length,acc)) (M:=m)
  (fun i acc e he ha hz=>by
   obtain ⟨c,hc,rfl⟩:=qPq he
   have hi:i<l.length:=(List.getElem?_eq_some_iff.1 hc).1
   have hi':(i:Int)<l.length:=by omega
   obtain ⟨q,rfl⟩:∃q,m=q+2:=⟨m-2,by omega⟩
   have hw:IntKind.i64.wrap ((i:Int)+1)=(i:Int)+1:=qa (by omega)
   have ha':acc.length=l.length:=by simpa using ha
   simp [qCF,qC,qE,qG,qH,qJ,qK,Option.bind_some,qF,qM,qN,hi',hc,qAa,zE,zc,qNe,hz,ha',hw,zu])
  (fun acc ha=>by
   have ha':acc.length=l.length:=by simpa using ha
   simp [qCF,qC,qE,qG,qH,qJ,qK,Option.bind_some,qF,qM,qN])
  (by simp;omega)
 simp only [List.length_map,Int.toNat_natCast] at h⊢
 rw [h]
 have h1:(32:Int)*(l.length:Int)≤140737488355328:=by omega
 have h2:(l.length:Int)≤9223372036854775807:=by omega
 simp [qC,qE,qG,qH,qJ,qK,Option.bind_some,qF,qM,qN,h1,h2]
theorem qNf (n:Nat) (a b:Int) (s:ByteArray):qEd (n+2) a b s a b s=some true:=by
 simp only [qEd,qGm,qHX,qHW,qC,qE,qG,qH,qJ,qK,Option.bind_some,qF,qM,qN]
 simp [qC,qE,qG,qH,qJ,qK,Option.bind_some,qF,qM,qN]
theorem qMb (l:List Cl) (hb:l.length≤140737488351232):Ev (qEF · (l.map qAa) (l.map qAa)) true:=by
 refine ⟨l.length+5,fun n hn=>?_⟩
 obtain ⟨m,rfl,hm⟩:=up1 hn
 simp only [qEF,qFs,qC,qE,qG,qH,qJ,qK,Option.bind_some,qF,qM,qN]
 have h:=qPr (B:=qCP m) (rows:=l.map qAa) (r:= .inr ())
  (fun i e he=>by
   obtain ⟨c,hc,rfl⟩:=qPq he
   have hi:i<l.length:=(List.getElem?_eq_some_iff.1 hc).1
   have hi':(i:Int)<l.length:=by omega
   obtain ⟨q,rfl⟩:∃q,m=q+2:=⟨m-2,by omega⟩
   have hw:IntKind.i64.wrap ((i:Int)+1)=(i:Int)+1:=qa (by omega)
   simp [qCP,qC,qE,qG,qH,qJ,qK,Option.bind_some,qF,qM,qN,hi',hc,qAa,zE,zc,qNf,hw])
  (by simp [qCP,qC,qE,qG,qH,qJ,qK,Option.bind_some,qF,qM,qN]) l.length 0 m (by simp) (by omega)
 simp only [Int.natCast_zero] at h
 simp [h,qC,qE,qG,qH,qJ,qK,Option.bind_some,qF,qM,qN]
theorem law (rows:List (List PV)) (w:rows.length*32≤140737488351232∧∀r∈rows,okR [.i .i64,.i .i64,.s] r):Ev (qC5 · rows) true:=by
 obtain ⟨l,rfl,hs⟩:=qRI w.2
 have hl:l.length*32≤140737488351232:=by simpa using w.1
 obtain ⟨n1,h1⟩:=qMa l (by omega)
 obtain ⟨n2,h2⟩:=qMX l (by omega) hs
 obtain ⟨n3,h3⟩:=qMY l (by omega) hs
 obtain ⟨n4,h4⟩:=qMb l (by omega)
 refine ⟨n1+n2+n3+n4+l.length+8,fun n hn=>?_⟩
 obtain ⟨m,rfl,hm⟩:=up1 hn
 obtain ⟨r,hr⟩:=qMZ l (by omega) 1048576 m (by omega)
 have h1:=h1 m (by omega)
 have h2:=h2 m (by omega)
 have h3:=h3 m (by omega)
 have h4:=h4 m (by omega)
 dsimp only at h1 h2 h3 h4
 simp only [qC5,qC4,qC,qE,qG,qH,qJ,qK,Option.bind_some,qF,qM,qN,hr,h1,h2,h3,h4]
 split
 ·rfl
 ·simp
def Fo (r:List UInt8):Prop:=∀c,r.head?=some c→c∈([38,43,45,42,47,60,61,62,41,44]:List UInt8)
def Sta (r:List UInt8):Prop:=∃c,r.head?=some c∧(wch c=true∨c=45∨c=40∨c=34∨c=35)
def lo (l:List Nd) (i:Int):Int:=qCY (qU l) (i.toNat+1) i
def tx (l:List Nd) (g:Nat) (i t:Int):List UInt8:=(qp l g i t).toList
structure RT (l:List Nd) (g:Nat) (i:Int):Prop where
 s:∀t,Sta (tx l g i t)
 c:∀(t:Int) (r:List UInt8),Fo r→∀d:UInt8,(d=58∨d=32)→(wr (tx l g i t++r)).head?≠some d
 u:∀(r:List UInt8) (deep:Int) (f:Nat),Fo r→0≤deep→deep+g≤400→20*(tx l g i 5++r).length+4≤f→pP f (.un deep) (tx l g i 5++r,false,l.take (lo l i).toNat)=(i,r,false,l.take (i.toNat+1))
 b:∀(t t':Int) (r:List UInt8) (deep:Int) (f:Nat),1≤t→t≤t'→t'≤5→Fo r→(qAm r=0∨lvl (qAm r)≤t')→0≤deep→deep+g≤400→20*(tx l g i t'++r).length+6≤f→
  ∃f2,20*r.length+5≤f2∧pP f (.bin t deep) (tx l g i t'++r,false,l.take (lo l i).toNat)=pP f2 (.loop t deep i) (r,false,l.take (i.toNat+1))
end Go.Proofs.YthhngmnbcmkhpaaGreatDoor.KFnExactSheetOk

