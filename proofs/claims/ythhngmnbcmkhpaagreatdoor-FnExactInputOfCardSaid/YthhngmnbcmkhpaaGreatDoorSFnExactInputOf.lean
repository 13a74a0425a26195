import Derived.Test.YthhngmnbcmkhpaaGreatDoorTFnExactInputOf
import Derived.Test.YthhngmnbcmkhpaaGreatDoorE32
import Derived.Lib.Strings
import Derived.Test.YthhngmnbcmkhpaaGreatDoorSFnExactInputOfp1
namespace Go.Proofs.YthhngmnbcmkhpaaGreatDoor.KFnExactInputOf
open Go.Eng
set_option linter.unusedVariables false
set_option linter.unusedSimpArgs false
def qG6 (level:Int) (r:List UInt8):List Int→Int
 | []=>0
 |o::l=>if lvl o=level∧(qAM o).toList.isPrefixOf r=true then o else qG6 level r l
def sOp (level:Int) (q:PS):Int×PS:=
 if q.2.1=true then (0,tb q.1,q.2) else
 (qG6 level (tb q.1) qCo,(if qG6 level (tb q.1) qCo=0 then tb q.1 else (tb q.1).drop (qAM (qG6 level (tb q.1) qCo)).size),q.2)
def qfU (r:List UInt8):Int→Nat→Option Int
 |_,0=>none
 |n,k+1=>if (qd n).toList.tail.isPrefixOf r=true then some n else qfU r (n+1) k
inductive SJ where
 |row (level:Int)
 |rl (level a:Int)
 |one
 |call (op:Int) (kids:List Int)
 |arg
def sP:Nat→SJ→PS→Int×PS
 |0,_,q=>(0,q)
 |f+1,.row level,q=>
  if q.2.1=true then (0,q) else
  if level=5 then sP f .one q else
  sP f (.rl level (sP f (.row (level+1)) q).1) (sP f (.row (level+1)) q).2
 |f+1,.rl level a,q=>
  if q.2.1=true then (a,q) else
  let o:=sOp level q
  if o.1=0 then (a,o.2) else
  let b:=sP f (.row (level+1)) o.2
  let c:=qHo (ndK 5 o.1 [a,b.1]) b.2
  sP f (.rl level c.1) c.2
 |f+1,.one,q=>
  if (sIs [45] q).1=true then
   let b:=sP f (.row 5) (sIs [45] q).2
   qHo (ndK 4 0 [b.1]) b.2
  else if (sIs [40] (sIs [45] q).2).1=true then
   let b:=sP f (.row 1) (sIs [40] (sIs [45] q).2).2
   (b.1,if (sIs [41] b.2).1=true then (sIs [41] b.2).2 else qYx (sIs [41] b.2).2)
  else
   let q2:PS:=(tb q.1,q.2)
   if (sIs [34] q2).1=true then (match qCc [] (sIs [34] q2).2.1 with
    |none=>(0,[],true,q.2.2)
    |some (s,t)=>qHo (nd1 (2,0,BR s)) (t,q.2))
   else if (sIs [35] q2).1=true then (match qfU (sIs [35] q2).2.1 1 5 with
    |some n=>qHo (nd1 (4,n,em)) ((sIs [35] q2).2.1.drop ((qd n).size-1),q.2)
    |none=>(0,(sIs [35] q2).2.1,true,q.2.2))
   else
    let w:=wd (tb q.1)
    let q3:PS:=(wr (tb q.1),q.2)
    match qOO w 1 10 with
    |some op=>if (sIs [40] q3).1=true then sP f (.call op []) (sIs [40] q3).2 else (0,qYx (sIs [40] q3).2)
    |none=>
     if (qh (BR w)).2.2.2=true∧w≠ [] then qHo (nd1 ((qh (BR w)).1,(qh (BR w)).2.1,(qh (BR w)).2.2.1)) q3
     else if (qBC (BR w)).2.2.2.2=true then qHo (ndC (qBC (BR w))) q3
     else (0,qYx q3)
 |f+1,.call op kids,q=>
  if q.2.1=true then (0,q) else
  let a:=sP f .arg q
  if (sIs [41] a.2).1=true then qHo (ndK 6 op (kids++ [a.1])) (sIs [41] a.2).2
  else sP f (.call op (kids++ [a.1])) (if (sIs [44] (sIs [41] a.2).2).1=true then (sIs [44] (sIs [41] a.2).2).2 else qYx (sIs [44] (sIs [41] a.2).2).2)
 |f+1,.arg,q=>
  let w:=wd (tb q.1)
  let q1:PS:=(wr (tb q.1),q.2)
  if (qBC (BR w)).2.2.2.2=true∧(sIs [58] q1).1=true then
   let q2:=(sIs [58] q1).2
   let w2:=wd (tb q2.1)
   if (qBC (BR w2)).2.2.2.2=true then qHo (ndA (qBC (BR w)) (qBC (BR w2))) (wr (tb q2.1),q2.2) else (0,wr (tb q2.1),true,q2.2.2)
  else sP f (.row 1) (tb q.1,q.2)
theorem qDS:∀r:List UInt8,tb (tb r)=tb r
 | []=>rfl
 |c::r=>by
  unfold tb
  by_cases h:(c==32)=true
  ·simp only [List.dropWhile_cons,h,if_true];exact qDS r
  ·simp [List.dropWhile_cons,h]
theorem qAC:∀r:List UInt8,(tb r).length≤r.length
 | []=>Nat.le_refl _
 |c::r=>by
  unfold tb
  by_cases h:(c==32)=true
  ·simp only [List.dropWhile_cons,h,if_true];exact Nat.le_succ_of_le (qAC r)
  ·simp [List.dropWhile_cons,h]
theorem qec {p:UInt8→Bool}:∀r:List UInt8,(r.dropWhile p).length≤r.length
 | []=>Nat.le_refl _
 |c::r=>by
  by_cases h:p c=true
  ·simp only [List.dropWhile_cons,h,if_true];exact Nat.le_succ_of_le (qec r)
  ·simp [List.dropWhile_cons,h]
theorem qPo (r:List UInt8):(wr r).length≤r.length:=qec r
theorem wdr (r:List UInt8):wd r++wr r=r:=List.takeWhile_append_dropWhile
theorem qe8 (c:UInt8) (t:List UInt8) (h1:c≠60) (h2:c≠62):sgn (c::t)=if c∈([61,38,43,45,42,47,40,41,44,58]:List UInt8) then [c] else []:=by
 have e1:(60==c)=false:=by simpa using fun e=>h1 e.symm
 have e2:(62==c)=false:=by simpa using fun e=>h2 e.symm
 by_cases h:c∈([61,38,43,45,42,47,40,41,44,58]:List UInt8)
 ·rw [if_pos h]
  simp only [List.mem_cons,List.not_mem_nil,or_false] at h
  rcases h with rfl|rfl|rfl|rfl|rfl|rfl|rfl|rfl|rfl|rfl<;>rfl
 ·rw [if_neg h]
  simp only [List.mem_cons,List.not_mem_nil,or_false,not_or] at h
  obtain ⟨a1,a2,a3,a4,a5,a6,a7,a8,a9,a10⟩:=h
  have f:∀d:UInt8,c≠d→(d==c)=false:=fun d hd=>by simpa using fun e=>hd e.symm
  simp [sgn,qIn,List.find?,List.isPrefixOf,e1,e2,f _ a1,f _ a2,f _ a3,f _ a4,f _ a5,f _ a6,f _ a7,f _ a8,f _ a9,f _ a10]
theorem qdo (t:List UInt8):sgn (60::t)=if t.head?=some 62 then [60,62] else if t.head?=some 61 then [60,61] else [60]:=by
 cases t with
 |nil=>rfl
 |cons d t=>
  by_cases h:d=62
  ·subst h;rfl
  ·by_cases h2:d=61
   ·subst h2;rfl
   ·have e1:(62==d)=false:=by simpa using fun e=>h e.symm
    have e2:(61==d)=false:=by simpa using fun e=>h2 e.symm
    simp [sgn,qIn,List.find?,List.isPrefixOf,e1,e2,h,h2]
theorem qe9 (t:List UInt8):sgn (62::t)=if t.head?=some 61 then [62,61] else [62]:=by
 cases t with
 |nil=>rfl
 |cons d t=>
  by_cases h2:d=61
  ·subst h2;rfl
  ·have e2:(61==d)=false:=by simpa using fun e=>h2 e.symm
   simp [sgn,qIn,List.find?,List.isPrefixOf,e2,h2]
theorem qiT {c:UInt8} (hc:c∈([45,40,41,44,58]:List UInt8)) (r:List UInt8):(sgn r= [c])↔([c].isPrefixOf r=true):=by
 cases r with
 |nil=>
  have:sgn []= []:=rfl
  rw [this]
  simp [List.isPrefixOf]
 |cons d t=>
  have hcc:c≠60∧c≠62∧c∈([61,38,43,45,42,47,40,41,44,58]:List UInt8):=by
   simp only [List.mem_cons,List.not_mem_nil,or_false] at hc
   rcases hc with rfl|rfl|rfl|rfl|rfl<;>decide
  have e:([c].isPrefixOf (d::t)=true)↔c=d:=by simp [List.isPrefixOf]
  rw [e]
  by_cases h1:d=60
  ·subst h1
   rw [qdo]
   constructor
   ·intro h;split at h
    ·cases h
    ·split at h
     ·cases h
     ·simp only [List.cons.injEq,and_true] at h;exact absurd h.symm hcc.1
   ·intro h;exact absurd h hcc.1
  ·by_cases h2:d=62
   ·subst h2
    rw [qe9]
    constructor
    ·intro h;split at h
     ·cases h
     ·simp only [List.cons.injEq,and_true] at h;exact absurd h.symm hcc.2.1
    ·intro h;exact absurd h hcc.2.1
   ·rw [qe8 d t h1 h2]
    constructor
    ·intro h;split at h
     ·simp only [List.cons.injEq,and_true] at h;exact h.symm
     ·cases h
    ·intro h;subst h;rw [if_pos hcc.2.2]
theorem qhJ {c:UInt8} (hc:c∈([45,40,41,44,58]:List UInt8)) {p q:PS} (hb:q.2.1=false) (ht:tb p.1=tb q.1):(qU [c] p).1=(sIs [c] q).1∧(qU [c] p).2.1=(sIs [c] q).2.1∧(qU [c] p).2.2=p.2∧(sIs [c] q).2.2=q.2:=by
 have h:=qiT hc (tb q.1)
 unfold qU sIs
 rw [ht,hb]
 by_cases hs:sgn (tb q.1)= [c]
 ·rw [if_pos hs,if_neg (by simp),if_pos (h.1 hs)]
  exact ⟨rfl,rfl,rfl,rfl⟩
 ·rw [if_neg hs,if_neg (by simp),if_neg (fun e=>hs (h.2 e))]
  exact ⟨rfl,rfl,rfl,rfl⟩
theorem qGO {w:List UInt8} (hw:w≠ []) {p:PS} (h:(qU w p).1=true):(qU w p).2.1.length<(tb p.1).length:=by
 unfold qU at h⊢
 by_cases hs:sgn (tb p.1)=w
 ·rw [if_pos hs]
  have hp:w.isPrefixOf (tb p.1)=true:=by
   unfold sgn at hs
   split at hs
   ·rename_i x hx
    subst hs
    have:=List.find?_some hx
    simpa using this
   ·exact absurd hs.symm hw
  obtain ⟨t,ht⟩:=List.isPrefixOf_iff_prefix.1 hp
  have h0:0<w.length:=List.length_pos_iff.2 hw
  have h1:=congrArg List.length ht
  simp only [List.length_append] at h1
  simp only [List.length_drop]
  omega
 ·rw [if_neg hs] at h;cases h
theorem qTO (w:List UInt8) (p:PS):(qU w p).2.1.length≤(tb p.1).length:=by
 unfold qU
 split
 ·simp
 ·exact Nat.le_refl _
theorem qgE (r:List UInt8):(qA5 r=0)∨(1≤qA5 r∧qA5 r≤11∧sgn r=(qAM (qA5 r)).toList):=by
 unfold qA5
 repeat' (split; · rename_i h;right;rw [h];exact ⟨by decide,by decide,by decide+kernel⟩)
 left;rfl
theorem sg1:(qAM 1).toList= [43]:=by decide+kernel
theorem sg2:(qAM 2).toList= [45]:=by decide+kernel
theorem sg3:(qAM 3).toList= [42]:=by decide+kernel
theorem sg4:(qAM 4).toList= [47]:=by decide+kernel
theorem sg5:(qAM 5).toList= [38]:=by decide+kernel
theorem sg6:(qAM 6).toList= [61]:=by decide+kernel
theorem sg7:(qAM 7).toList= [60,62]:=by decide+kernel
theorem sg8:(qAM 8).toList= [60]:=by decide+kernel
theorem sg9:(qAM 9).toList= [60,61]:=by decide+kernel
theorem qgr:(qAM 10).toList= [62]:=by decide+kernel
theorem qgs:(qAM 11).toList= [62,61]:=by decide+kernel
theorem qRo (r:List UInt8):qG6 1 r qCo=if [60,62].isPrefixOf r=true then 7 else if [60,61].isPrefixOf r=true then 9 else if [62,61].isPrefixOf r=true then 11 else if [61].isPrefixOf r=true then 6 else if [60].isPrefixOf r=true then 8 else if [62].isPrefixOf r=true then 10 else 0:=by
 simp [qG6,qCo,lvl,sg1,sg2,sg3,sg4,sg5,sg6,sg7,sg8,sg9,qgr,qgs]
theorem qRp (r:List UInt8):qG6 2 r qCo=if [38].isPrefixOf r=true then 5 else 0:=by
 simp [qG6,qCo,lvl,sg1,sg2,sg3,sg4,sg5,sg6,sg7,sg8,sg9,qgr,qgs]
theorem qRq (r:List UInt8):qG6 3 r qCo=if [43].isPrefixOf r=true then 1 else if [45].isPrefixOf r=true then 2 else 0:=by
 simp [qG6,qCo,lvl,sg1,sg2,sg3,sg4,sg5,sg6,sg7,sg8,sg9,qgr,qgs]
theorem qRr (r:List UInt8):qG6 4 r qCo=if [42].isPrefixOf r=true then 3 else if [47].isPrefixOf r=true then 4 else 0:=by
 simp [qG6,qCo,lvl,sg1,sg2,sg3,sg4,sg5,sg6,sg7,sg8,sg9,qgr,qgs]
theorem qhK {m:Int} (hm:1≤m∧m≤4) (r:List UInt8):qG6 m r qCo=if qA5 r≠0∧lvl (qA5 r)=m then qA5 r else 0:=by
 have hm:m=1∨m=2∨m=3∨m=4:=by omega
 cases r with
 |nil=>rcases hm with rfl|rfl|rfl|rfl<;>simp [qRo,qRp,qRq,qRr,qA5,sgn,qIn,List.find?,List.isPrefixOf]
 |cons c t=>
  have f:∀d:UInt8,c≠d→(d==c)=false:=fun d hd=>by simpa using fun e=>hd e.symm
  by_cases h1:c=60
  ·subst h1
   cases t with
   |nil=>rcases hm with rfl|rfl|rfl|rfl<;>simp [qRo,qRp,qRq,qRr,qA5,qdo,List.isPrefixOf,lvl]
   |cons d t=>
    have g:∀e:UInt8,d≠e→(e==d)=false:=fun e hd=>by simpa using fun x=>hd x.symm
    by_cases hd:d=62
    ·subst hd;rcases hm with rfl|rfl|rfl|rfl<;>simp [qRo,qRp,qRq,qRr,qA5,qdo,List.isPrefixOf,lvl]
    ·by_cases hd2:d=61
     ·subst hd2;rcases hm with rfl|rfl|rfl|rfl<;>simp [qRo,qRp,qRq,qRr,qA5,qdo,List.isPrefixOf,lvl]
     ·rcases hm with rfl|rfl|rfl|rfl<;>simp [qRo,qRp,qRq,qRr,qA5,qdo,List.isPrefixOf,lvl,hd,hd2,g _ hd,g _ hd2]
  ·by_cases h2:c=62
   ·subst h2
    cases t with
    |nil=>rcases hm with rfl|rfl|rfl|rfl<;>simp [qRo,qRp,qRq,qRr,qA5,qe9,List.isPrefixOf,lvl]
    |cons d t=>
     have g:∀e:UInt8,d≠e→(e==d)=false:=fun e hd=>by simpa using fun x=>hd x.symm
     by_cases hd2:d=61
     ·subst hd2;rcases hm with rfl|rfl|rfl|rfl<;>simp [qRo,qRp,qRq,qRr,qA5,qe9,List.isPrefixOf,lvl]
     ·rcases hm with rfl|rfl|rfl|rfl<;>simp [qRo,qRp,qRq,qRr,qA5,qe9,List.isPrefixOf,lvl,hd2,g _ hd2]
   ·by_cases h:c∈([61,38,43,45,42,47,40,41,44,58]:List UInt8)
    ·have hs:sgn (c::t)= [c]:=by rw [qe8 c t h1 h2,if_pos h]
     simp only [List.mem_cons,List.not_mem_nil,or_false] at h
     rcases h with rfl|rfl|rfl|rfl|rfl|rfl|rfl|rfl|rfl|rfl<;>rcases hm with rfl|rfl|rfl|rfl<;>
      simp [qRo,qRp,qRq,qRr,qA5,hs,List.isPrefixOf,lvl]
    ·have hs:sgn (c::t)= []:=by rw [qe8 c t h1 h2,if_neg h]
     simp only [List.mem_cons,List.not_mem_nil,or_false,not_or] at h
     obtain ⟨a1,a2,a3,a4,a5,a6,a7,a8,a9,a10⟩:=h
     rcases hm with rfl|rfl|rfl|rfl<;>
      simp [qRo,qRp,qRq,qRr,qA5,hs,List.isPrefixOf,f _ h1,f _ h2,f _ a1,f _ a2,f _ a3,f _ a4,f _ a5,f _ a6]
theorem qfu {op:Int}:1≤lvl op∧lvl op≤4:=by unfold lvl;split<;>(try split)<;>(try split)<;>omega
def qaG (p:PS):Prop:=p.2.1=true∨∃x∈p.2.2,qNz x=false
theorem qDq {x:Nd} {p:PS} (h:qaG p):qaG (qFW x p).2:=by
 unfold qFW
 split
 ·exact .inl rfl
 ·rename_i hn
  rcases h with h|⟨y,hy,hb⟩
  ·exact absurd (.inl h) hn
  ·exact .inr ⟨y,List.mem_append_left _ hy,hb⟩
theorem qI2 {w:List UInt8} {p:PS} (h:qaG p):qaG (qU w p).2:=by unfold qU;split<;>exact h
theorem qMp (p:PS):qaG (qft p):= .inl rfl
theorem qSl {w:List UInt8} {p:PS} (h:qaG p):qaG (qDA w p):=by
 unfold qDA
 split
 ·exact h
 ·split
  ·exact qI2 h
  ·exact qMp _
theorem qed {p:PS} (h:qaG p):qaG (qBR p).2:=by
 unfold qBR
 simp only
 split
 ·rcases h with h|h
  ·left
   simp only [Bool.or_eq_true]
   left
   have:(qU [58] (wr (tb p.1),p.2)).2.2=p.2:=by unfold qU;split<;>rfl
   rw [this];exact h
  ·right
   have:(qU [58] (wr (tb p.1),p.2)).2.2=p.2:=by unfold qU;split<;>rfl
   simp only [this]
   exact h
 ·exact h
theorem qEE:∀(f:Nat) (j:PJ) (p:PS),qaG p→qaG (pP f j p).2
 |0,j,p,h=>h
 |f+1,.bin least deep,p,h=>by
  simp only [pP]
  exact qEE f _ _ (qEE f _ _ h)
 |f+1,.loop least deep a,p,h=>by
  simp only [pP]
  split
  ·exact h
  ·split
   ·exact h
   ·exact qEE f _ _ (qDq (qEE f _ _ h))
 |f+1,.un deep,p,h=>by
  simp only [pP]
  split
  ·exact qMp _
  ·split
   ·exact qDq (qEE f _ _ (qI2 h))
   ·exact qEE f _ _ (qI2 h)
 |f+1,.at deep,p,h=>by
  simp only [pP]
  split
  ·split
   ·exact .inl rfl
   ·exact qDq h
  ·split
   ·exact qDq h
   ·split
    ·exact qSl (qEE f _ _ (qI2 h))
    ·split
     ·exact qDq h
     ·split
      ·exact qDq h
      ·split
       ·exact qEE f _ _ h
       ·exact qMp _
 |f+1,.call op deep,p,h=>by
  simp only [pP]
  exact qEE f _ _ (qSl h)
 |f+1,.args op deep kids,p,h=>by
  simp only [pP]
  have hq:qaG (qI1 (qBR p) (fun p=>pP f (.bin 1 (deep+1)) p)).2:=by
   unfold qI1
   split
   ·exact qDq (qed h)
   ·exact qEE f _ _ (qed h)
  revert hq
  generalize qI1 (qBR p) (fun p=>pP f (.bin 1 (deep+1)) p)=q
  intro hq
  split
  ·exact qDq h
  ·split
   ·exact qEE f _ _ (qI2 hq)
   ·exact qDq (qSl (qI2 hq))
theorem qBB (x:Nd) (p:PS):(qFW x p).2.1=p.1:=by unfold qFW;split<;>rfl
theorem qG7 (w:List UInt8) (p:PS):(tb (qU w p).2.1).length≤(tb p.1).length:=by
 unfold qU
 split
 ·refine Nat.le_trans (qAC _) ?_
  simp
 ·simp only;rw [qDS];exact Nat.le_refl _
theorem qWe (w:List UInt8) (p:PS):(tb (qDA w p).1).length≤(tb p.1).length:=by
 unfold qDA
 split
 ·exact Nat.le_refl _
 ·split
  ·exact qG7 w p
  ·exact qG7 w p
theorem qSm (p:PS):(tb (qBR p).2.1).length≤(tb p.1).length:=by
 unfold qBR
 simp only
 split
 ·simp only
  refine Nat.le_trans (qAC _) (Nat.le_trans (qPo _) (Nat.le_trans (qG7 [58] _) ?_))
  exact Nat.le_trans (qAC _) (qPo _)
 ·exact Nat.le_refl _
theorem qWf:∀(acc r:List UInt8) {s t:List UInt8},qCc acc r=some (s,t)→t.length<r.length
 |acc,[],s,t,h=>by simp [qCc] at h
 |acc,c::r,s,t,h=>by
  unfold qCc at h
  by_cases hc:c=34
  ·rw [if_pos hc] at h
   match r,h with
   | [],h=>simp only [Option.some.injEq,Prod.mk.injEq] at h;rw [←h.2];simp
   |d::t',h=>
    simp only at h
    by_cases hd:d=34
    ·rw [if_pos hd] at h
     have:=qWf _ t' h
     simp only [List.length_cons];omega
    ·rw [if_neg hd] at h
     simp only [Option.some.injEq,Prod.mk.injEq] at h
     rw [←h.2];simp
  ·rw [if_neg hc] at h
   have:=qWf _ r h
   simp only [List.length_cons];omega
theorem qGP:∀(f:Nat) (j:PJ) (p:PS),(tb (pP f j p).2.1).length≤(tb p.1).length
 |0,j,p=>Nat.le_refl _
 |f+1,.bin least deep,p=>by
  simp only [pP]
  exact Nat.le_trans (qGP f _ _) (qGP f _ _)
 |f+1,.loop least deep a,p=>by
  simp only [pP]
  split
  ·exact Nat.le_refl _
  ·split
   ·simp only;rw [qDS];exact Nat.le_refl _
   ·refine Nat.le_trans (qGP f _ _) ?_
    rw [qBB]
    refine Nat.le_trans (qGP f _ _) (Nat.le_trans (qAC _) ?_)
    simp
 |f+1,.un deep,p=>by
  simp only [pP]
  split
  ·exact Nat.le_refl _
  ·split
   ·rw [qBB]
    exact Nat.le_trans (qGP f _ _) (qG7 _ _)
   ·exact Nat.le_trans (qGP f _ _) (qG7 _ _)
 |f+1,.at deep,p=>by
  simp only [pP]
  split
  ·split
   ·simp only;rw [qDS];exact Nat.le_refl _
   ·rename_i s t hq
    rw [qBB]
    have:=qWf _ _ hq
    refine Nat.le_trans (qAC _) ?_
    have h2:((tb p.1).tail).length≤(tb p.1).length:=by simp
    simp only;omega
  ·split
   ·rw [qBB]
    refine Nat.le_trans (qAC _) ?_
    simp
   ·split
    ·exact Nat.le_trans (qWe _ _) (Nat.le_trans (qGP f _ _) (qG7 _ _))
    ·have hw:(tb (wr (tb p.1))).length≤(tb p.1).length:=Nat.le_trans (qAC _) (qPo _)
     split
     ·rw [qBB];exact hw
     ·split
      ·rw [qBB];exact hw
      ·split
       ·exact Nat.le_trans (qGP f _ _) hw
       ·exact hw
 |f+1,.call op deep,p=>by
  simp only [pP]
  exact Nat.le_trans (qGP f _ _) (qWe _ _)
 |f+1,.args op deep kids,p=>by
  simp only [pP]
  have hq:(tb (qI1 (qBR p) (fun p=>pP f (.bin 1 (deep+1)) p)).2.1).length≤(tb p.1).length:=by
   unfold qI1
   split
   ·rw [qBB];exact qSm p
   ·exact Nat.le_trans (qGP f _ _) (qSm p)
  revert hq
  generalize qI1 (qBR p) (fun p=>pP f (.bin 1 (deep+1)) p)=q
  intro hq
  split
  ·rw [qBB];exact Nat.le_refl _
  ·split
   ·exact Nat.le_trans (qGP f _ _) (Nat.le_trans (qG7 _ _) hq)
   ·rw [qBB]
    exact Nat.le_trans (qWe _ _) (Nat.le_trans (qG7 _ _) hq)
structure RdOK:Prop where
 v:∀w:List UInt8,w.all wch=true→w≠ []→(qh (BR w)).2.2.2=true→(qh (BR w)).1=1∨(qh (BR w)).1=3
 v0:¬((qh (BR [])).1=1∨(qh (BR [])).1=3)
 p0:(qBC (BR [])).2.2.2.2=false
 f:∀w op,qOO w 1 10=some op→(qh (BR w)).2.2.2=false∧(qBC (BR w)).2.2.2.2=false
 f0:qOO [] 1 10=none
 n:∀n:Int,1≤n∧n≤5→∃t,(qd n).toList=35::t
def Lk (p q:PS):Prop:=p.2.1=false∧q.2.1=false∧p.2.2=q.2.2∧tb p.1=tb q.1
def Sim (a b:Int×PS):Prop:=(a.1=b.1∧Lk a.2 b.2)∨(b.2.2.1=true∧qaG a.2)
def qiU (least:Int) (p:PS):Prop:=qA5 (tb p.1)=0∨lvl (qA5 (tb p.1))<least
def SimP (least:Int) (a b:Int×PS):Prop:=(a.1=b.1∧Lk a.2 b.2∧qiU least a.2)∨(b.2.2.1=true∧qaG a.2)
theorem SimP.sim {least:Int} {a b:Int×PS} (h:SimP least a b):Sim a b:=h.elim (fun h=> .inl ⟨h.1,h.2.1⟩) .inr
theorem qaH {x:Nd} {q:PS} (h:q.2.1=true):(qHo x q).2.2.1=true:=by
 unfold qHo;simp only;split
 ·rfl
 ·exact h
theorem qTP {w:List UInt8} {q:PS} (h:q.2.1=true):sIs w q=(false,tb q.1,q.2):=by unfold sIs;rw [if_pos h]
theorem qbA:∀(g:Nat) (j:SJ) (q:PS),q.2.1=true→(sP g j q).2.2.1=true
 |0,j,q,h=>h
 |g+1,.row level,q,h=>by simp only [sP];rw [if_pos h];exact h
 |g+1,.rl level a,q,h=>by simp only [sP];rw [if_pos h];exact h
 |g+1,.one,q,h=>by
  simp only [sP]
  rw [qTP (w:= [45]) h]
  simp only [Bool.false_eq_true,if_false]
  rw [qTP (w:= [40]) (q:=(tb q.1,q.2)) h]
  simp only [Bool.false_eq_true,if_false]
  rw [qTP (w:= [34]) (q:=(tb q.1,q.2)) h]
  simp only [Bool.false_eq_true,if_false]
  rw [qTP (w:= [35]) (q:=(tb q.1,q.2)) h]
  simp only [Bool.false_eq_true,if_false]
  split
  ·rw [qTP (w:= [40]) (q:=(wr (tb q.1),q.2)) h]
   simp [qYx]
  ·split
   ·exact qaH h
   ·split
    ·exact qaH h
    ·rfl
 |g+1,.call op kids,q,h=>by simp only [sP];rw [if_pos h];exact h
 |g+1,.arg,q,h=>by
  simp only [sP]
  rw [qTP (w:= [58]) (q:=(wr (tb q.1),q.2)) h]
  simp only [Bool.false_eq_true,and_false,if_false]
  exact qbA g _ _ h
theorem qTQ {x:Nd} {p q:PS} (h:Lk p q):Sim (qFW x p) (qHo x q):=by
 obtain ⟨h1,h2,h3,h4⟩:=h
 unfold qFW qHo
 rw [h1,h2,h3]
 by_cases hl:60≤q.2.2.length
 ·refine .inr ⟨?_,.inl ?_⟩
  ·simp only;rw [if_pos (.inl (by omega))]
  ·rw [if_pos (.inr hl)]
 ·rw [if_neg (by simp;omega)]
  by_cases hn:qNz x=false
  ·exact .inr ⟨by simp only;rw [if_pos (.inr hn)],.inr ⟨x,by simp,hn⟩⟩
  ·refine .inl ⟨rfl,rfl,?_,rfl,h4⟩
   simp only
   rw [if_neg]
   intro e
   rcases e with e|e
   ·omega
   ·exact hn e
theorem qfV {a b:Int×PS} (f:Int→Nd) (h:Sim a b):Sim (qFW (f a.1) a.2) (qHo (f b.1) b.2):=by
 rcases h with ⟨h1,h2⟩|⟨h1,h2⟩
 ·rw [h1];exact qTQ h2
 ·exact .inr ⟨qaH h1,qDq h2⟩
theorem qWg {c:UInt8} (hc:c∈([45,40,41,44,58]:List UInt8)) {p q:PS} (h:Lk p q):(qU [c] p).1=(sIs [c] q).1∧Lk (qU [c] p).2 (sIs [c] q).2:=by
 obtain ⟨h1,h2,h3,h4⟩:=h
 obtain ⟨e1,e2,e3,e4⟩:=qhJ hc h2 h4
 refine ⟨e1,?_,?_,?_,?_⟩
 ·rw [e3];exact h1
 ·rw [e4];exact h2
 ·rw [e3,e4];exact h3
 ·rw [e2]
theorem qfW {c:UInt8} (hc:c∈([45,40,41,44,58]:List UInt8)) {a b:Int×PS} (h:Sim a b):Sim (a.1,qDA [c] a.2) (b.1,if (sIs [c] b.2).1=true then (sIs [c] b.2).2 else qYx (sIs [c] b.2).2):=by
 rcases h with ⟨h1,h2⟩|⟨h1,h2⟩
 ·obtain ⟨e1,e2⟩:=qWg hc h2
  unfold qDA
  rw [if_neg (by rw [h2.1];simp),e1]
  by_cases ht:(sIs [c] b.2).1=true
  ·rw [if_pos ht,if_pos ht]
   exact .inl ⟨h1,e2⟩
  ·rw [if_neg ht,if_neg ht]
   exact .inr ⟨rfl,qMp _⟩
 ·refine .inr ⟨?_,qSl h2⟩
  rw [qTP h1]
  simp [qYx]
def qUx (G:Nat) (least:Int):Nat→Int×PS→Int×PS→Prop
 |0,x,res=>res=x
 |m+1,x,res=>if ((m:Int)+1)<least then res=x else ∃g,G≤g∧qUx G least m (sP g (.rl ((m:Int)+1) x.1) x.2) res
theorem qbB {G G':Nat} (h:G'≤G) {least:Int}:∀(m:Nat) {x res:Int×PS},qUx G least m x res→qUx G' least m x res
 |0,x,res,ht=>ht
 |m+1,x,res,ht=>by
  unfold qUx at ht⊢
  split
  ·rename_i hc;rw [if_pos hc] at ht;exact ht
  ·rename_i hc
   rw [if_neg hc] at ht
   obtain ⟨g,h1,h2⟩:=ht
   exact ⟨g,Nat.le_trans h h1,qbB h m h2⟩
theorem qaI {G:Nat} {least:Int}:∀(m:Nat) {x res:Int×PS},x.2.2.1=true→qUx G least m x res→res.2.2.1=true
 |0,x,res,hb,ht=>by unfold qUx at ht;rw [ht];exact hb
 |m+1,x,res,hb,ht=>by
  unfold qUx at ht
  split at ht
  ·rw [ht];exact hb
  ·obtain ⟨g,_,h2⟩:=ht
   exact qaI m (qbA g _ _ hb) h2
theorem qee {G:Nat} {l:Nat} (hl0:1≤l) {g:Nat} (hg:G≤g):∀(m:Nat) {x y:Int×PS},l≤m→qUx G ((l:Int)+1) m x y→qUx G (l:Int) m x (sP g (.rl (l:Int) y.1) y.2)
 |0,x,y,hl,ht=>by omega
 |m+1,x,y,hl,ht=>by
  unfold qUx at ht⊢
  rw [if_neg (by omega)]
  by_cases e:l=m+1
  ·subst e
   rw [if_pos (by omega)] at ht
   subst ht
   refine ⟨g,hg,?_⟩
   have key:∀{z:Int×PS},qUx G ((m+1:Nat):Int) m z z:=fun {z}=>by
    cases m with
    |zero=>rfl
    |succ k=>unfold qUx;rw [if_pos (by omega)]
   exact key
  ·rw [if_neg (by omega)] at ht
   obtain ⟨g',h1,h2⟩:=ht
   exact ⟨g',h1,qee hl0 hg m (by omega) h2⟩
theorem qfX {G:Nat} {q:PS} (hq:q.2.1=false):∀(k:Nat),k≤4→∀g,G+k≤g→∃g5,G≤g5∧qUx G (5-(k:Int)) 4 (sP g5 (.row 5) q) (sP g (.row (5-(k:Int))) q)
 |0,_,g,hg=>⟨g,hg,by
  unfold qUx
  rw [if_pos (by decide)]
  simp⟩
 |k+1,hk,0,hg=>by omega
 |k+1,hk,g+1,hg=>by
  obtain ⟨g5,h1,h2⟩:=qfX (G:=G) hq k (by omega) g (by omega)
  refine ⟨g5,h1,?_⟩
  have e:(5-((k+1:Nat):Int))=((4-k:Nat):Int):=by omega
  have e1:(5-(k:Int))=((4-k:Nat):Int)+1:=by omega
  rw [e1] at h2
  rw [e]
  have:=qee (G:=G) (l:=4-k) (by omega) (g:=g) (by omega) 4 (by omega) h2
  have e2:sP (g+1) (.row ((4-k:Nat):Int)) q=sP g (.rl ((4-k:Nat):Int) (sP g (.row (((4-k:Nat):Int)+1)) q).1) (sP g (.row (((4-k:Nat):Int)+1)) q).2:=by
   simp only [sP]
   rw [if_neg (by rw [hq];simp),if_neg (by omega)]
  rw [e2]
  exact this
theorem qgt (H:RdOK) {r:List UInt8} (h:r.head?=some 35):∀(k:Nat) (n:Int),1≤n→n+k≤6→qfU r.tail n k=qUT r n k
 |0,n,_,_=>rfl
 |k+1,n,h1,h2=>by
  obtain ⟨t,ht⟩:=H.n n ⟨h1,by omega⟩
  cases r with
  |nil=>cases h
  |cons c r=>
   simp only [List.head?_cons,Option.some.injEq] at h
   subst h
   simp only [qfU,qUT,ht,List.tail_cons]
   have ih:=qgt H (r:=35::r) rfl k (n+1) (by omega) (by omega)
   simp only [List.tail_cons] at ih
   rw [ih]
   simp [List.isPrefixOf]
theorem qfY {r:List UInt8}:∀(k:Nat) (n:Int) {m:Int},qUT r n k=some m→n≤m∧m<n+k
 |0,n,m,h=>by cases h
 |k+1,n,m,h=>by
  simp only [qUT] at h
  split at h
  ·simp only [Option.some.injEq] at h;omega
  ·have:=qfY k (n+1) h;omega
theorem qKd (c:UInt8) (r:List UInt8):([c].isPrefixOf r=true)↔r.head?=some c:=by
 cases r with
 |nil=>simp [List.isPrefixOf]
 |cons d t=>simp [List.isPrefixOf];exact eq_comm
theorem qaJ {c:UInt8} {q:PS} (hb:q.2.1=false):(sIs [c] q).1=true↔(tb q.1).head?=some c:=by
 unfold sIs
 rw [if_neg (by rw [hb];simp)]
 split
 ·rename_i h;exact ⟨fun _=>(qKd c _).1 h,fun _=>rfl⟩
 ·rename_i h;exact ⟨fun e=>(by cases e),fun e=>absurd ((qKd c _).2 e) h⟩
theorem qfv (r:List UInt8):(wd r).all wch=true:=by
 unfold wd
 induction r with
 |nil=>rfl
 |cons c r ih=>
  by_cases h:wch c=true
  ·simp only [List.takeWhile_cons,h,if_true,List.all_cons,Bool.true_and];exact ih
  ·simp [List.takeWhile_cons,h]
def qhL (N:Nat):Prop:=∀(p q:PS) (deep:Int) (f g:Nat),Lk p q→(tb p.1).length=N→0≤deep→deep+N≤400→20*N+4≤f→20*N+5≤g→Sim (pP f (.un deep) p) (sP g (.row 5) q)
def qhM (N:Nat):Prop:=∀(m:Nat),m≤4→∀(p q:PS) (deep least a:Int) (f:Nat) (res:Int×PS),Lk p q→(tb p.1).length=N→1≤least→0≤deep→deep+N≤400→20*N+5≤f→
 (qA5 (tb p.1)=0∨lvl (qA5 (tb p.1))≤m)→qUx (20*N+5) least m (a,q) res→SimP least (pP f (.loop least deep a) p) res
def qgu (N:Nat):Prop:=∀(p q:PS) (deep:Int) (k f g:Nat),k≤4→Lk p q→(tb p.1).length=N→0≤deep→deep+N≤400→20*N+6≤f→20*N+10≤g→SimP (5-(k:Int)) (pP f (.bin (5-(k:Int)) deep) p) (sP g (.row (5-(k:Int))) q)
def qhN (N:Nat):Prop:=∀(p q:PS) (deep op:Int) (kids:List Int) (f g:Nat),Lk p q→(tb p.1).length=N→0≤deep→deep+N+1≤400→20*N+8≤f→20*N+12≤g→Sim (pP f (.args op deep kids) p) (sP g (.call op kids) q)
theorem qjv (N:Nat) (hB:∀M,M<N→qgu M) (hT:∀M,M<N→qhM M):qhM N:=by
 intro m
 induction m with
 |zero=>
  intro hm p q deep least a f res hl hN hle hd hdN hf hpk ht
  have h0:qA5 (tb p.1)=0:=by
   rcases hpk with h|h
   ·exact h
   ·have:=(qfu (op:=qA5 (tb p.1))).1
    omega
  cases f with
  |zero=>omega
  |succ f=>
   simp only [pP]
   rw [if_neg (by rw [hl.1];simp),if_pos (.inl h0)]
   unfold qUx at ht
   subst ht
   refine .inl ⟨rfl,⟨hl.1,hl.2.1,hl.2.2.1,?_⟩,.inl ?_⟩
   ·simp only;rw [qDS];exact hl.2.2.2
   ·simp only;rw [qDS];exact h0
 |succ m ih=>
  intro hm p q deep least a f res hl hN hle hd hdN hf hpk ht
  unfold qUx at ht
  by_cases hc:(m:Int)+1<least
  ·rw [if_pos hc] at ht
   subst ht
   cases f with
   |zero=>omega
   |succ f=>
    have hst:qA5 (tb p.1)=0∨lvl (qA5 (tb p.1))<least:=by
     rcases hpk with h|h
     ·exact .inl h
     ·right;push_cast at h;omega
    simp only [pP]
    rw [if_neg (by rw [hl.1];simp),if_pos hst]
    refine .inl ⟨rfl,⟨hl.1,hl.2.1,hl.2.2.1,?_⟩,?_⟩
    ·simp only;rw [qDS];exact hl.2.2.2
    ·unfold qiU;simp only;rw [qDS];exact hst
  ·rw [if_neg hc] at ht
   obtain ⟨g,hg,ht⟩:=ht
   cases g with
   |zero=>omega
   |succ g=>
    have hin:=qhK (m:=(m:Int)+1) (by omega) (tb q.1)
    have hpq:tb p.1=tb q.1:=hl.2.2.2
    simp only [sP] at ht
    rw [if_neg (by rw [hl.2.1];simp)] at ht
    have ho:sOp ((m:Int)+1) q=(qG6 ((m:Int)+1) (tb q.1) qCo,(if qG6 ((m:Int)+1) (tb q.1) qCo=0 then tb q.1 else (tb q.1).drop (qAM (qG6 ((m:Int)+1) (tb q.1) qCo)).size),q.2):=by
     unfold sOp;rw [if_neg (by rw [hl.2.1];simp)]
    by_cases hop:qA5 (tb q.1)≠0∧lvl (qA5 (tb q.1))=(m:Int)+1
    ·rw [if_pos hop] at hin
     rw [hin,if_neg hop.1] at ho
     rw [ho] at ht
     simp only at ht
     rw [if_neg hop.1] at ht
     cases f with
     |zero=>omega
     |succ f=>
      simp only [pP]
      rw [if_neg (by rw [hl.1];simp),if_neg (by rw [hpq];exact fun e=>e.elim (fun e=>hop.1 e) (fun e=>by have:=hop.2;omega))]
      rw [hpq]
      rcases qgE (tb q.1) with h0|⟨_,_,hsg⟩
      ·exact absurd h0 hop.1
      have hsz:(sgn (tb q.1)).length=(qAM (qA5 (tb q.1))).size:=by rw [hsg,qAW]
      have hpos:0<(sgn (tb q.1)).length:=by
       cases hh:sgn (tb q.1) with
       |nil=>
        exfalso
        apply hop.1
        unfold qA5
        rw [hh]
        simp
       |cons c t=>simp
      have hdrop:(tb ((tb q.1).drop (sgn (tb q.1)).length)).length<N:=by
       have h1:=qAC ((tb q.1).drop (sgn (tb q.1)).length)
       have h2:(sgn (tb q.1)).length≤(tb q.1).length∨(tb q.1).length<(sgn (tb q.1)).length:=by omega
       rw [List.length_drop] at h1
       have h3:(tb q.1).length=N:=by rw [←hpq];exact hN
       have h4:0<N:=by
        rcases Nat.eq_zero_or_pos N with h|h
        ·exfalso
         rw [h] at h3
         have:tb q.1= []:=List.eq_nil_of_length_eq_zero h3
         apply hop.1
         rw [this];rfl
        ·exact h
       omega
      have hlk:Lk ((tb q.1).drop (sgn (tb q.1)).length,p.2) ((tb q.1).drop (qAM (qA5 (tb q.1))).size,q.2):=⟨hl.1,hl.2.1,hl.2.2.1,by simp only;rw [hsz]⟩
      have hb:=hB _ hdrop ((tb q.1).drop (sgn (tb q.1)).length,p.2) ((tb q.1).drop (qAM (qA5 (tb q.1))).size,q.2) deep (3-m) f g (by omega) hlk rfl hd (by omega) (by omega) (by omega)
      have e5:(5-((3-m:Nat):Int))=(m:Int)+1+1:=by omega
      rw [e5] at hb
      rw [hop.2]
      have hlenA:=qGP f (.bin ((m:Int)+1+1) deep) ((tb q.1).drop (sgn (tb q.1)).length,p.2)
      generalize pP f (.bin ((m:Int)+1+1) deep) ((tb q.1).drop (sgn (tb q.1)).length,p.2)=A at hb hlenA⊢
      generalize hBB:sP g (.row ((m:Int)+1+1)) ((tb q.1).drop (qAM (qA5 (tb q.1))).size,q.2)=B at hb ht
      rcases hb with ⟨b1,b2,b3⟩|⟨b1,b2⟩
      ·rw [b1]
       have hs:=qTQ (x:=ndK 5 (qA5 (tb q.1)) [a,B.1]) b2
       generalize hC:qFW (ndK 5 (qA5 (tb q.1)) [a,B.1]) A.2=C at hs⊢
       generalize qHo (ndK 5 (qA5 (tb q.1)) [a,B.1]) B.2=D at hs ht
       rcases hs with ⟨c1,c2⟩|⟨c1,c2⟩
       ·have hrC:C.2.1=A.2.1:=by rw [←hC];exact qBB _ _
        have hN3:(tb C.2.1).length<N:=by
         rw [hrC]
         exact Nat.lt_of_le_of_lt hlenA hdrop
        refine hT _ hN3 (m+1) hm C.2 D.2 deep least C.1 f res c2 rfl hle hd (by omega) (by omega) ?_ ?_
        ·rw [hrC]
         rcases b3 with h|h
         ·exact .inl h
         ·right;push_cast;omega
        ·rw [c1]
         unfold qUx
         rw [if_neg hc]
         exact ⟨g,by omega,qbB (by omega) m ht⟩
       ·exact .inr ⟨qaI _ (qbA g _ _ c1) ht,qEE f _ _ c2⟩
      ·exact .inr ⟨qaI _ (qbA g _ _ (qaH b1)) ht,qEE f _ _ (qDq b2)⟩
    ·rw [if_neg hop] at hin
     rw [hin,if_pos rfl] at ho
     rw [ho] at ht
     simp only at ht
     rw [if_pos trivial] at ht
     refine ih (by omega) p (tb q.1,q.2) deep least a f res ⟨hl.1,hl.2.1,hl.2.2.1,by simp only;rw [qDS];exact hpq⟩ hN hle hd hdN hf ?_ ht
     rw [hpq]
     rw [hpq] at hpk
     by_cases h0:qA5 (tb q.1)=0
     ·exact .inl h0
     ·right
      rcases hpk with h|h
      ·exact absurd h h0
      ·have:lvl (qA5 (tb q.1))≠(m:Int)+1:=fun e=>hop ⟨h0,e⟩
       push_cast at h
       omega
theorem qhO (N:Nat) (hA:qhL N) (hT:∀M,M≤N→qhM M):qgu N:=by
 intro p q deep k f g hk hl hN hd hdN hf hg
 obtain ⟨g5,hg5,ht⟩:=qfX (G:=20*N+5) hl.2.1 k hk g (by omega)
 cases f with
 |zero=>omega
 |succ f=>
  simp only [pP]
  have ha:=hA p q deep f g5 hl hN hd hdN (by omega) hg5
  have hlen:=qGP f (.un deep) p
  generalize pP f (.un deep) p=A at ha hlen⊢
  generalize sP g5 (.row 5) q=B at ha ht
  rcases ha with ⟨h1,h2⟩|⟨h1,h2⟩
  ·have hM:(tb A.2.1).length≤N:=by omega
   refine hT _ hM 4 (by omega) A.2 B.2 deep (5-(k:Int)) A.1 f _ h2 rfl (by omega) hd (by omega) (by omega) (.inr ?_) ?_
   ·have:=(qfu (op:=qA5 (tb A.2.1))).2;omega
   ·rw [h1];exact qbB (by omega) 4 ht
  ·exact .inr ⟨qaI 4 h1 ht,qEE f _ _ h2⟩
theorem qhP (H:RdOK) (N:Nat) (hB:qgu N) (hC:∀M,M<N→qhN M):qhN N:=by
 intro p q deep op kids f g hl hN hd hdN hf hg
 cases f with
 |zero=>omega
 |succ f=>
 cases g with
 |zero=>omega
 |succ g=>
 cases g with
 |zero=>omega
 |succ g=>
 have hpq:=hl.2.2.2
 have hpb:¬p.2.1=true:=by rw [hl.1];simp
 have hqb:¬q.2.1=true:=by rw [hl.2.1];simp
 have harg:Sim (qI1 (qBR p) (fun p=>pP f (.bin 1 (deep+1)) p)) (sP (g+1) .arg q)∧(tb (qI1 (qBR p) (fun p=>pP f (.bin 1 (deep+1)) p)).2.1).length≤N:=by
  refine ⟨?_,?_⟩
  ·have hw:Lk (wr (tb p.1),p.2) (wr (tb q.1),q.2):=⟨hl.1,hl.2.1,hl.2.2.1,by rw [hpq]⟩
   obtain ⟨e1,e2⟩:=qWg (c:=58) (by decide) hw
   simp only [sP]
   unfold qI1 qBR
   simp only
   rw [hpq] at e1 e2⊢
   by_cases hc:(qBC (BR (wd (tb q.1)))).2.2.2.2=true∧(qU [58] (wr (tb q.1),p.2)).1=true
   ·rw [if_pos hc,if_pos ⟨hc.1,e1▸hc.2⟩]
    simp only
    rw [e2.2.2.2]
    by_cases h2:(qBC (BR (wd (tb (sIs [58] (wr (tb q.1),q.2)).2.1)))).2.2.2.2=true
    ·rw [if_pos h2,h2]
     simp only [Bool.not_true,Bool.or_false]
     exact qTQ ⟨e2.1,e2.2.1,e2.2.2.1,rfl⟩
    ·rw [if_neg h2]
     refine .inr ⟨rfl,qDq (.inl ?_)⟩
     simp only
     have h2:(qBC (BR (wd (tb (sIs [58] (wr (tb q.1),q.2)).2.1)))).2.2.2.2=false:=by simpa using h2
     rw [h2];simp
   ·rw [if_neg hc,if_neg (fun e=>hc ⟨e.1,e1.symm▸e.2⟩)]
    simp only
    have:=hB p (tb q.1,q.2) (deep+1) 4 f g (by omega) ⟨hl.1,hl.2.1,hl.2.2.1,by simp only;rw [qDS];exact hpq⟩ hN (by omega) (by omega) (by omega) (by omega)
    exact this.sim
  ·unfold qI1
   split
   ·rw [qBB];have:=qSm p;omega
   ·have h1:=qGP f (.bin 1 (deep+1)) (qBR p).2
    have h2:=qSm p
    exact Nat.le_trans h1 (by omega)
 obtain ⟨harg,hal⟩:=harg
 simp only [pP]
 rw [if_neg hpb]
 have hs:sP (g+1+1) (.call op kids) q=(if (sIs [41] (sP (g+1) .arg q).2).1=true then qHo (ndK 6 op (kids++ [(sP (g+1) .arg q).1])) (sIs [41] (sP (g+1) .arg q).2).2
  else sP (g+1) (.call op (kids++ [(sP (g+1) .arg q).1])) (if (sIs [44] (sIs [41] (sP (g+1) .arg q).2).2).1=true then (sIs [44] (sIs [41] (sP (g+1) .arg q).2).2).2 else qYx (sIs [44] (sIs [41] (sP (g+1) .arg q).2).2).2)):=by
  rw [sP]
  rw [if_neg hqb]
 rw [hs]
 generalize qI1 (qBR p) (fun p=>pP f (.bin 1 (deep+1)) p)=Q at harg hal⊢
 generalize sP (g+1) .arg q=A at harg⊢
 rcases harg with ⟨h1,h2⟩|⟨h1,h2⟩
 ·have hb2:=h2.2.1
  obtain ⟨c1,c2⟩:=qWg (c:=44) (by decide) h2
  have i41:=qaJ (c:=41) hb2
  have i44:=qaJ (c:=44) hb2
  by_cases hc:(qU [44] Q.2).1=true
  ·rw [if_pos hc]
   have hh:=i44.1 (c1▸hc)
   have n41:¬(sIs [41] A.2).1=true:=fun e=>by rw [i41.1 e] at hh;cases hh
   rw [if_neg n41]
   have e41:(sIs [41] A.2).2=(tb A.2.1,A.2.2):=by
    unfold sIs at n41⊢
    rw [if_neg (by rw [hb2];simp)] at n41⊢
    split
    ·rename_i hx;rw [if_pos hx] at n41;exact absurd rfl n41
    ·rfl
   rw [e41]
   have e44:sIs [44] (tb A.2.1,A.2.2)=sIs [44] A.2:=by unfold sIs;simp only [qDS]
   rw [e44,if_pos (c1▸hc),h1]
   have hlt:=qGO (w:= [44]) (by simp) hc
   have htb:=qAC (qU [44] Q.2).2.1
   exact hC _ (by omega) (qU [44] Q.2).2 (sIs [44] A.2).2 deep op _ f (g+1) c2 rfl hd (by omega) (by omega) (by omega)
  ·rw [if_neg hc]
   have et:(qU [44] Q.2).2=(tb Q.2.1,Q.2.2):=by
    unfold qU at hc⊢
    split
    ·rename_i hx;rw [if_pos hx] at hc;exact absurd rfl hc
    ·rfl
   rw [et]
   have hl2:Lk (tb Q.2.1,Q.2.2) A.2:=⟨h2.1,h2.2.1,h2.2.2.1,by simp only;rw [qDS];exact h2.2.2.2⟩
   have hm:=qfW (c:=41) (by decide) (a:=(A.1,(tb Q.2.1,Q.2.2))) (b:=(A.1,A.2)) (.inl ⟨rfl,hl2⟩)
   by_cases h41:(sIs [41] A.2).1=true
   ·rw [if_pos h41]
    simp only [h41,if_true] at hm
    have:=qfV (fun _=>ndK 6 op (kids++ [A.1])) hm
    rw [h1]
    exact this
   ·rw [if_neg h41]
    have e41:(sIs [41] A.2).2=(tb A.2.1,A.2.2):=by
     unfold sIs at h41⊢
     rw [if_neg (by rw [hb2];simp)] at h41⊢
     split
     ·rename_i hx;rw [if_pos hx] at h41;exact absurd rfl h41
     ·rfl
    have e44:sIs [44] (tb A.2.1,A.2.2)=sIs [44] A.2:=by unfold sIs;simp only [qDS]
    rw [e41,e44,if_neg (c1▸hc)]
    refine .inr ⟨qbA _ _ _ rfl,qDq ?_⟩
    simp only [if_neg h41] at hm
    rcases hm with ⟨_,_,hb,_⟩|⟨_,hdm⟩
    ·simp [qYx] at hb
    ·exact hdm
 ·have e41:sIs [41] A.2=(false,tb A.2.1,A.2.2):=qTP h1
  have e44:sIs [44] (tb A.2.1,A.2.2)=(false,tb (tb A.2.1),A.2.2):=qTP h1
  rw [e41]
  simp only [Bool.false_eq_true,if_false]
  rw [e44]
  simp only [Bool.false_eq_true,if_false]
  refine .inr ⟨qbA _ _ _ rfl,?_⟩
  split
  ·exact qEE f _ _ (qI2 h2)
  ·exact qDq (qSl (qI2 h2))
theorem qfZ {c d:UInt8} (h:c≠d) {r:List UInt8} (hr:r.head?=some c):¬r.head?=some d:=by rw [hr];simpa using h
theorem qhQ (H:RdOK) (N:Nat) (hA:∀M,M<N→qhL M) (hB:∀M,M<N→qgu M) (hC:∀M,M<N→qhN M):qhL N:=by
 intro p q deep f g hl hN hd hdN hf hg
 cases f with
 |zero=>omega
 |succ f=>
 cases f with
 |zero=>omega
 |succ f=>
 cases g with
 |zero=>omega
 |succ g=>
 cases g with
 |zero=>omega
 |succ g=>
 have hpq:=hl.2.2.2
 have hpb:¬p.2.1=true:=by rw [hl.1];simp
 have hqb:¬q.2.1=true:=by rw [hl.2.1];simp
 have hq0:=hl.2.1
 have hs:sP (g+1+1) (.row 5) q=sP (g+1) .one q:=by
  rw [sP,if_neg hqb,if_pos rfl]
 rw [hs]
 obtain ⟨e1,e2⟩:=qWg (c:=45) (by decide) hl
 rw [pP]
 rw [if_neg (by intro e;rcases e with e|e;omega;exact hpb e)]
 by_cases hc:(qU [45] p).1=true
 ·rw [if_pos hc]
  simp only [sP]
  rw [if_pos (e1▸hc)]
  have hlt:=qGO (w:= [45]) (by simp) hc
  have htb:=qAC (qU [45] p).2.1
  exact qfV (fun k=>ndK 4 0 [k]) (hA _ (by omega) _ _ (deep+1) (f+1) g e2 rfl (by omega) (by omega) (by omega) (by omega))
 ·rw [if_neg hc]
  have hp':(qU [45] p).2=(tb p.1,p.2):=by
   unfold qU at hc⊢
   split
   ·rename_i hx;rw [if_pos hx] at hc;exact absurd rfl hc
   ·rfl
  have hq':(sIs [45] q).2=(tb q.1,q.2):=by
   have hc:¬(sIs [45] q).1=true:=e1▸hc
   unfold sIs at hc⊢
   rw [if_neg hqb] at hc⊢
   split
   ·rename_i hx;rw [if_pos hx] at hc;exact absurd rfl hc
   ·rfl
  rw [hp']
  simp only [sP]
  rw [if_neg (e1▸hc),hq']
  simp only [pP,qDS]
  have hl2:Lk (tb p.1,p.2) (tb q.1,q.2):=⟨hl.1,hl.2.1,hl.2.2.1,by simp only [qDS];exact hpq⟩
  obtain ⟨f1,f2⟩:=qWg (c:=40) (by decide) hl2
  have i40:=qaJ (c:=40) (q:=(tb q.1,q.2)) hq0
  have i34:=qaJ (c:=34) (q:=(tb q.1,q.2)) hq0
  have i35:=qaJ (c:=35) (q:=(tb q.1,q.2)) hq0
  simp only [qDS] at i40 i34 i35
  rw [hpq] at hN f1 f2⊢
  by_cases h34:(tb q.1).head?=some 34
  ·rw [if_pos h34,if_neg (fun e=>qfZ (by decide) h34 (i40.1 e)),if_pos (i34.2 h34)]
   have es:(sIs [34] (tb q.1,q.2)).2.1=(tb q.1).tail:=by
    have:=i34.2 h34
    unfold sIs at this⊢
    rw [if_neg hqb] at this⊢
    simp only [qDS] at this⊢
    split
    ·simp
    ·rename_i hx;rw [if_neg hx] at this;cases this
   rw [es]
   cases hqr:qCc [] (tb q.1).tail with
   |none=>exact .inr ⟨rfl,.inl rfl⟩
   |some st=>
    obtain ⟨s,t⟩:=st
    exact qTQ ⟨hl.1,hl.2.1,hl.2.2.1,rfl⟩
  ·rw [if_neg h34]
   by_cases h35:(tb q.1).head?=some 35
   ·rw [if_pos h35,if_neg (fun e=>qfZ (by decide) h35 (i40.1 e)),if_neg (fun e=>h34 (i34.1 e)),if_pos (i35.2 h35)]
    have es:(sIs [35] (tb q.1,q.2)).2.1=(tb q.1).tail:=by
     have:=i35.2 h35
     unfold sIs at this⊢
     rw [if_neg hqb] at this⊢
     simp only [qDS] at this⊢
     split
     ·simp
     ·rename_i hx;rw [if_neg hx] at this;cases this
    rw [es,qgt H h35 5 1 (by omega) (by omega)]
    cases he:qUT (tb q.1) 1 5 with
    |some n=>
     simp only
     obtain ⟨t,ht⟩:=H.n n (by have:=qfY 5 1 he;omega)
     have hsz:(qd n).size=t.length+1:=by rw [←qAW,ht];rfl
     refine qTQ ⟨hl.1,hl.2.1,hl.2.2.1,?_⟩
     simp only
     rw [hsz]
     cases hr:tb q.1 with
     |nil=>rw [hr] at h35;cases h35
     |cons c r=>rfl
    |none=>
     simp only
     rw [if_neg (fun e=>e.1 h35)]
     have hw:wd (tb q.1)= []:=by
      cases hr:tb q.1 with
      |nil=>rw [hr] at h35;cases h35
      |cons c r=>
       rw [hr] at h35
       simp only [List.head?_cons,Option.some.injEq] at h35
       subst h35
       rfl
     rw [hw,if_neg (fun e=>H.v0 e.2),if_neg (by rw [H.p0];simp),H.f0]
     exact .inr ⟨rfl,qMp _⟩
   ·rw [if_neg h35]
    simp only
    by_cases h40:(qU [40] (tb q.1,p.2)).1=true
    ·rw [if_pos ⟨h35,h40⟩,if_pos (f1▸h40)]
     have hlt:=qGO (w:= [40]) (by simp) h40
     simp only [qDS] at hlt
     have htb:=qAC (qU [40] (tb q.1,p.2)).2.1
     have hb:=(hB _ (by omega) _ _ (deep+1) 4 f g (by omega) f2 rfl (by omega) (by omega) (by omega) (by omega)).sim
     have e5:(5-((4:Nat):Int))=1:=by omega
     rw [e5] at hb
     exact qfW (by decide) hb
    ·have n40:¬(sIs [40] (tb q.1,q.2)).1=true:=f1▸h40
     have n34:¬(sIs [34] (tb q.1,q.2)).1=true:=fun e=>h34 (i34.1 e)
     have n35:¬(sIs [35] (tb q.1,q.2)).1=true:=fun e=>h35 (i35.1 e)
     rw [if_neg (fun e=>h40 e.2),if_neg n40,if_neg n34,if_neg n35]
     have hl3:Lk (wr (tb q.1),p.2) (wr (tb q.1),q.2):=⟨hl.1,hl.2.1,hl.2.2.1,rfl⟩
     cases hfn:qOO (wd (tb q.1)) 1 10 with
     |some op=>
      simp only
      obtain ⟨z1,z2⟩:=H.f _ _ hfn
      rw [if_neg (by rw [z1];simp),if_neg (by rw [z2];simp)]
      have hne:1≤(wd (tb q.1)).length:=by
       cases hw:wd (tb q.1) with
       |nil=>rw [hw,H.f0] at hfn;cases hfn
       |cons c t=>simp
      have hlen:(wr (tb q.1)).length+1≤N:=by
       have:=congrArg List.length (wdr (tb q.1))
       simp only [List.length_append] at this
       omega
      obtain ⟨k1,k2⟩:=qWg (c:=40) (by decide) hl3
      cases f with
      |zero=>omega
      |succ f=>
       simp only [pP]
       by_cases ht:(sIs [40] (wr (tb q.1),q.2)).1=true
       ·rw [if_pos ht]
        have em:qDA [40] (wr (tb q.1),p.2)=(qU [40] (wr (tb q.1),p.2)).2:=by
         unfold qDA
         rw [if_neg hpb,if_pos (k1▸ht)]
        rw [em]
        have hlt:=qGO (w:= [40]) (by simp) (k1.symm▸ht)
        have h2:=qAC (wr (tb q.1))
        have h3:=qAC (qU [40] (wr (tb q.1),p.2)).2.1
        simp only at hlt
        exact hC _ (by omega) _ _ deep op [] f g k2 rfl hd (by omega) (by omega) (by omega)
       ·rw [if_neg ht]
        have em:qDA [40] (wr (tb q.1),p.2)=qft (qU [40] (wr (tb q.1),p.2)).2:=by
         unfold qDA
         rw [if_neg hpb,if_neg (k1▸ht)]
        rw [em]
        exact .inr ⟨rfl,qEE f _ _ (qMp _)⟩
     |none=>
      simp only
      by_cases hw0:wd (tb q.1)= []
      ·rw [hw0,if_neg (fun e=>H.v0 e.2),if_neg (by rw [H.p0];simp),if_neg (fun e=>e.2 rfl),if_neg (by rw [H.p0];simp)]
       exact .inr ⟨rfl,qMp _⟩
      ·by_cases hv:(qh (BR (wd (tb q.1)))).2.2.2=true
       ·rw [if_pos ⟨hv,H.v _ (qfv _) hw0 hv⟩,if_pos ⟨hv,hw0⟩]
        exact qTQ hl3
       ·have nv1:¬((qh (BR (wd (tb q.1)))).2.2.2=true∧((qh (BR (wd (tb q.1)))).1=1∨(qh (BR (wd (tb q.1)))).1=3)):=fun e=>hv e.1
        have nv2:¬((qh (BR (wd (tb q.1)))).2.2.2=true∧wd (tb q.1)≠ []):=fun e=>hv e.1
        rw [if_neg nv1,if_neg nv2]
        by_cases hp:(qBC (BR (wd (tb q.1)))).2.2.2.2=true
        ·rw [if_pos hp,if_pos hp]
         exact qTQ hl3
        ·rw [if_neg hp,if_neg hp]
         exact .inr ⟨rfl,qMp _⟩
theorem qhR (H:RdOK) (N:Nat):qhL N∧qhM N∧qgu N∧qhN N:=by
 induction N using Nat.strongRecOn with
 |ind N ih=>
  have hA:=qhQ H N (fun M h=>(ih M h).1) (fun M h=>(ih M h).2.2.1) (fun M h=>(ih M h).2.2.2)
  have hT:=qjv N (fun M h=>(ih M h).2.2.1) (fun M h=>(ih M h).2.1)
  have hB:=qhO N hA (fun M h=>(Nat.lt_or_eq_of_le h).elim (fun h=>(ih M h).2.1) (fun h=>h▸hT))
  exact ⟨hA,hT,hB,qhP H N hB (fun M h=>(ih M h).2.2.2)⟩
theorem qAN (r:List UInt8):(BR r).toList=r:=qCV r
theorem qY (r:List UInt8):(BR r).size=r.length:=by rw [←qAW,qAN]
theorem qUU (s:ByteArray):BR s.toList=s:=qKa (qAN _)
theorem qNG (r:List UInt8) (a b:Nat):(BR r).extract a b=BR ((r.take b).drop a):=by
 refine qKa ?_
 rw [qAN,Go.Lib.toList_data,ByteArray.data_extract,Array.toList_extract]
 simp [BR,List.extract_eq_take_drop,List.drop_take]
theorem qbC (a b:List UInt8):BR a++BR b=BR (a++b):=by
 refine qKa ?_
 rw [qAN,Go.Lib.toList_data]
 simp [BR]
theorem qhk:∀i:Fin 256,((⟨#[32]⟩:ByteArray).data.toList.contains (UInt8.ofNat i.val))=(UInt8.ofNat i.val==32):=by decide+kernel
def wcS:ByteArray:=⟨#[65,66,67,68,69,70,71,72,73,74,75,76,77,78,79,80,81,82,83,84,85,86,87,88,89,90,48,49,50,51,52,53,54,55,56,57,36]⟩
theorem qhl:∀i:Fin 256,(wcS.data.toList.contains (UInt8.ofNat i.val))=wch (UInt8.ofNat i.val):=by decide+kernel
theorem qfw {f g:UInt8→Bool} (h:∀i:Fin 256,f (UInt8.ofNat i.val)=g (UInt8.ofNat i.val)) (c:UInt8):f c=g c:=by
 have h:=h ⟨c.toNat,UInt8.toNat_lt c⟩
 have e:UInt8.ofNat c.toNat=c:=by simp
 simp only [e] at h
 exact h
theorem qgT (r:List UInt8):Ev (qA6 · (BR r) ⟨#[32]⟩) (BR (tb r)):=by
 refine ⟨1,fun n hn=>?_⟩
 obtain ⟨m,rfl,hm⟩:=up1 hn
 show zg (BR r) ⟨#[32]⟩=_
 unfold zg
 rw [if_pos ⟨by decide,by decide+kernel⟩]
 unfold Lib.trimLeftS tb
 have:(fun c=>(⟨#[32]⟩:ByteArray).data.toList.contains c)=(fun c=>c==32):=funext (qfw qhk)
 rw [this]
 rfl
theorem qgU (r:List UInt8):Ev (qA6 · (BR r) ⟨#[65,66,67,68,69,70,71,72,73,74,75,76,77,78,79,80,81,82,83,84,85,86,87,88,89,90,48,49,50,51,52,53,54,55,56,57,36]⟩) (BR (wr r)):=by
 refine ⟨1,fun n hn=>?_⟩
 obtain ⟨m,rfl,hm⟩:=up1 hn
 show zg (BR r) wcS=_
 unfold zg
 rw [if_pos ⟨by decide,by decide+kernel⟩]
 unfold Lib.trimLeftS wr
 have:(fun c=>wcS.data.toList.contains c)=wch:=funext (qfw qhl)
 rw [this]
 rfl
theorem qQ5 (r:List UInt8) (m:Nat) (b:Bool) (rows:List (List PV)):Ev (qAk · (BR r) m b rows) (BR (tb r),m,b,rows):=by
 obtain ⟨n1,h1⟩:=qgT r
 refine ⟨n1+1,fun n hn=>?_⟩
 obtain ⟨m,rfl,hm⟩:=up1 hn
 have h1:=h1 m (by omega)
 dsimp only at h1
 simp only [qAk,qGE,qB,qC,qF,qG,qH,qI,Option.bind_some,qE,qJ,qK,h1]
theorem qBo (m:Nat) (s w:List UInt8):qe (m+2) (BR s) (BR w)=some (w.isPrefixOf s):=by
 simp only [qe,qCY,qo,qA4,qB,qC,qF,qG,qH,qI,Option.bind_some,qE,qJ,qK,qY,qNG,qAN]
 by_cases h:w.length≤s.length
 ·have h1:((s.length:Nat):Int)≥((w.length:Nat):Int):=by omega
  simp [h1,h,List.isPrefixOf_iff_prefix,List.prefix_iff_eq_take]
  by_cases e:w=s.take w.length
  ·simp [←e,List.isPrefixOf_iff_prefix.2 (List.prefix_iff_eq_take.2 e)]
  ·have e2:¬s.take w.length=w:=fun h=>e h.symm
   have e3:w.isPrefixOf s=false:=by
    rw [Bool.eq_false_iff]
    intro hp
    exact e (List.prefix_iff_eq_take.1 (List.isPrefixOf_iff_prefix.1 hp))
   simp [e2,e3]
 ·have h1:¬((s.length:Nat):Int)≥((w.length:Nat):Int):=by omega
  have e3:w.isPrefixOf s=false:=by
   rw [Bool.eq_false_iff]
   intro hp
   exact h (List.isPrefixOf_iff_prefix.1 hp).length_le
  simp [h1,e3]
theorem qfx (s w:List UInt8):Ev (qe · (BR s) (BR w)) (w.isPrefixOf s):=by
 refine ⟨2,fun n hn=>?_⟩
 obtain ⟨m,rfl,hm⟩:=up1 hn
 obtain ⟨m,rfl,hm⟩:=up1 hm
 exact qBo m s w
def qfa:List (List PV):=qIn.map fun w=> [PV.s (BR w)]
theorem qef {n:Nat} {r:List UInt8} (m:Nat) (b:Bool) (rows:List (List PV)) (h:∀w∈qIn,qe n (BR r) (BR w)=some (w.isPrefixOf r)):
  ∀(k i M:Nat),i+k=15→k+1≤M→zL (qBy n) M (15,15,(i:Int),qfa,BR r,m,b,rows)=some (match (qIn.drop i).find? (fun w=>w.isPrefixOf r) with|some w=> .inl (BR w,BR r,m,b,rows)|none=> .inr (BR r,m,b,rows))
 |k,i,0,h1,h2=>by omega
 |0,i,M+1,h1,h2=>by
  have hi:i=15:=by omega
  subst hi
  rw [qN (r:= .inr (BR r,m,b,rows)) (by simp [qBy,qB,qC,qF,qG,qH,qI,Option.bind_some,qE,qJ,qK])]
  rfl
 |k+1,i,M+1,h1,h2=>by
  have hi:i<qIn.length:=by simp [qIn];omega
  obtain ⟨w,hw⟩:∃w,qIn[i]?=some w:=⟨_,List.getElem?_eq_getElem hi⟩
  have hR:qfa[i]?=some [PV.s (BR w)]:=by simp [qfa,List.getElem?_map,hw]
  have hl:qfa.length=15:=rfl
  have hc:zAv [PV.s (BR w)] 0=some (BR w):=rfl
  have hp:=h w (List.mem_of_getElem? hw)
  have hd:qIn.drop i=w::qIn.drop (i+1):=qLc hw
  have w5:IntKind.i64.wrap ((i:Int)+1)=((i+1:Nat):Int):=by rw [qa (by omega)];omega
  rw [hd]
  simp only [List.find?_cons]
  cases hq:w.isPrefixOf r with
  |true=>
   rw [qN (r:= .inl (BR w,BR r,m,b,rows)) (by
    refine qD (by simp;omega) (qD (by simp [hl];omega) (qA hR (qA hc (qA (hp.trans (congrArg some hq)) (qD rfl rfl))))))]
  |false=>
   rw [qX (v':=(15,15,((i+1:Nat):Int),qfa,BR r,m,b,rows)) (by
    refine qD (by simp;omega) (qD (by simp [hl];omega) (qA hR (qA hc (qA (hp.trans (congrArg some hq)) (qM rfl ?_)))))
    rw [w5];rfl)]
   exact qef m b rows h k (i+1) M (by omega) (by omega)
theorem qbD (r:List UInt8) (m:Nat) (b:Bool) (rows:List (List PV)):Ev (qBX · (BR r) m b rows) (BR (sgn (tb r)),BR (tb r),m,b,rows):=by
 obtain ⟨n1,h1⟩:=qQ5 r m b rows
 obtain ⟨n2,h2⟩:=qDn (F:=fun w n=>qe n (BR (tb r)) (BR w)) (f:=fun w=>w.isPrefixOf (tb r)) qIn (fun w _=>qfx (tb r) w)
 refine ⟨n1+n2+30,fun n hn=>?_⟩
 obtain ⟨k,rfl,hm⟩:=up1 hn
 have h1:=h1 k (by omega)
 have lp:=qef m b rows (h2 k (by omega)) 15 0 k rfl (by omega)
 refine qA h1 (qA lp ?_)
 simp only [List.drop_zero]
 unfold sgn
 cases hq:qIn.find? (fun w=>w.isPrefixOf (tb r)) with
 |some w=>rfl
 |none=>rfl
theorem qgF (r:List UInt8):sgn r<+:r:=by
 unfold sgn
 split
 ·rename_i w hw
  have:=List.find?_some hw
  exact List.isPrefixOf_iff_prefix.1 (by simpa using this)
 ·exact List.nil_prefix
theorem qeg (w r:List UInt8) (m:Nat) (b:Bool) (rows:List (List PV)):Ev (qj · (BR w) (BR r) m b rows) (decide (sgn (tb r)=w),BR (if sgn (tb r)=w then (tb r).drop w.length else tb r),m,b,rows):=by
 obtain ⟨n1,h1⟩:=qbD r m b rows
 refine ⟨n1+1,fun n hn=>?_⟩
 obtain ⟨k,rfl,hm⟩:=up1 hn
 refine qA (h1 k (by omega)) ?_
 by_cases h:sgn (tb r)=w
 ·have hp:=(qgF (tb r)).length_le
  rw [h] at hp
  refine qM (by simp [qAN,h]) (qD (by simp [qY];omega) ?_)
  rw [qB,qY,qY,qNG]
  simp [h]
 ·refine qD (by simp [qAN,h]) ?_
  rw [qB]
  simp [h]
theorem qgV (r:List UInt8) (m:Nat) (b:Bool) (rows:List (List PV)) (hr:r.length≤1000):Ev (qA7 · (BR r) m b rows) (BR (wd (tb r)),BR (wr (tb r)),m,b,rows):=by
 obtain ⟨n1,h1⟩:=qQ5 r m b rows
 obtain ⟨n2,h2⟩:=qgU (tb r)
 refine ⟨n1+n2+1,fun n hn=>?_⟩
 obtain ⟨k,rfl,hm⟩:=up1 hn
 have hb:=qAC r
 have hw:=qPo (tb r)
 have hsum:=congrArg List.length (wdr (tb r))
 simp only [List.length_append] at hsum
 have e:IntKind.i64.wrap (((tb r).length:Int)-((wr (tb r)).length:Int))=((wd (tb r)).length:Int):=by rw [qa (by omega)];omega
 refine qA (h1 k (by omega)) (qA (h2 k (by omega)) ?_)
 simp only [qY,e]
 refine qD (by simp;omega) (qD (by simp;omega) ?_)
 rw [qB]
 have t1:(wd (tb r)++wr (tb r)).take (wd (tb r)).length=wd (tb r):=List.take_left ..
 have t2:(wd (tb r)++wr (tb r)).drop (wd (tb r)).length=wr (tb r):=List.drop_left ..
 rw [wdr] at t1 t2
 simp [qNG,t1,t2]
def qMq (p:PS):ByteArray×Nat×Bool×List (List PV):=(BR p.1,p.2.2.length,p.2.1,p.2.2.map qV)
def qPw (r:Int×PS):Int×ByteArray×Nat×Bool×List (List PV):=(r.1,BR r.2.1,r.2.2.2.length,r.2.2.1,r.2.2.2.map qV)
def qeO (c:Nd):Prop:=(kd c).length≤2000∧c.2.2.2.2.1.size≤2000
structure Gd (p:PS):Prop where
 r:p.1.length≤1000
 n:p.2.2.length≤60
 s:∀x∈p.2.2,qeO x
theorem qbE (x:Nd) (p:PS) (h:p.2.2.length≤60):Ev (qk · x.1 x.2.1 x.2.2.1 x.2.2.2.1 x.2.2.2.2.1 x.2.2.2.2.2.1 x.2.2.2.2.2.2.1 x.2.2.2.2.2.2.2.1 x.2.2.2.2.2.2.2.2.1 x.2.2.2.2.2.2.2.2.2.1 x.2.2.2.2.2.2.2.2.2.2.1 x.2.2.2.2.2.2.2.2.2.2.2.1 x.2.2.2.2.2.2.2.2.2.2.2.2.1 ((kd x).map qBI) (BR p.1) p.2.2.length p.2.1 (p.2.2.map qV)) (qPw (qFW x p)):=by
 obtain ⟨r,b,l⟩:=p
 refine ⟨1,fun n hn=>?_⟩
 obtain ⟨m,rfl,hm⟩:=up1 hn
 replace h:l.length≤60:=h
 show qk (m+1) _ _ _ _ _ _ _ _ _ _ _ _ _ _ (BR r) l.length b (l.map qV)=_
 unfold qFW
 have w1:IntKind.i64.wrap (((l.length:Nat):Int)-1)=(l.length:Int)-1:=qa (by omega)
 have w2:IntKind.i64.wrap ((((l.length+1):Nat):Int)-1)=(l.length:Int):=by rw [qa (by omega)];omega
 cases b with
 |true=>
  rw [if_pos (.inl rfl)]
  refine qD rfl (qM rfl ?_)
  rw [qB,w1]
  rfl
 |false=>
  by_cases h6:60≤l.length
  ·rw [if_pos (.inr h6)]
   have d:decide (((l.length:Nat):Int)≥60)=true:=decide_eq_true (by omega)
   refine qM rfl (qM (by rw [d];rfl) ?_)
   rw [qB,w1,d]
   rfl
  ·have hn:¬(((r,false,l):PS).2.1=true∨60≤((r,false,l):PS).2.2.length):=by
    intro hh
    rcases hh with hh|hh
    ·exact absurd hh (by simp)
    ·exact h6 hh
   rw [if_neg hn]
   have d:decide (((l.length:Nat):Int)≥60)=false:=decide_eq_false (by omega)
   refine qM rfl (qD (by rw [d];rfl) (qD rfl (qD (decide_eq_true ⟨by simp,by decide,by decide,by simp;omega,rfl⟩) ?_)))
   rw [qB,w2,d]
   simp only [qPw,List.map_append,List.length_append]
   rfl
theorem qWY (v:V3) (p:PS) (h:p.2.2.length≤60):Ev (qc · v.1 v.2.1 v.2.2 (BR p.1) p.2.2.length p.2.1 (p.2.2.map qV)) (qPw (qFW (nd1 v) p)):=by
 obtain ⟨n1,h1⟩:=qbE (nd1 v) p h
 refine ⟨n1+1,fun n hn=>?_⟩
 obtain ⟨k,rfl,hm⟩:=up1 hn
 exact qA (h1 k (by omega)) rfl
theorem qPp {x:Nd} {p:PS} (h:Gd p) (hx:qeO x):Gd (qFW x p).2:=by
 unfold qFW
 split
 ·exact ⟨h.r,h.n,h.s⟩
 ·rename_i hh
  refine ⟨h.r,?_,fun y hy=>?_⟩
  ·have:¬60≤p.2.2.length:=fun e=>hh (.inr e)
   simp;omega
  ·simp at hy
   rcases hy with hy|rfl
   ·exact h.s _ hy
   ·exact hx
theorem qDr {w:List UInt8} {p:PS} (h:Gd p):Gd (qU w p).2:=by
 have:=qTO w p
 have h2:=qAC p.1
 have h3:=h.r
 refine ⟨by omega,?_,?_⟩
 ·unfold qU;split<;>exact h.n
 ·unfold qU;split<;>exact h.s
theorem qOP (w:List UInt8) (p:PS):Ev (qj · (BR w) (BR p.1) p.2.2.length p.2.1 (p.2.2.map qV)) ((qU w p).1,qMq (qU w p).2):=by
 obtain ⟨n1,h1⟩:=qeg w p.1 p.2.2.length p.2.1 (p.2.2.map qV)
 refine ⟨n1,fun n hn=>?_⟩
 have h1:=h1 n hn
 unfold qU
 by_cases h:sgn (tb p.1)=w
 ·simp only [h,if_true,decide_true] at h1
  rw [if_pos h];exact h1
 ·simp only [h,if_false,decide_false] at h1
  rw [if_neg h];exact h1
theorem qfA (p:PS) (h:p.1.length≤1000):Ev (qA7 · (BR p.1) p.2.2.length p.2.1 (p.2.2.map qV)) (BR (wd (tb p.1)),qMq (wr (tb p.1),p.2)):=qgV p.1 _ _ _ h
theorem qfB (r:List UInt8):(wd r).length≤r.length:=by
 have:=congrArg List.length (wdr r)
 simp only [List.length_append] at this
 omega
theorem qgv (r:List UInt8) (h:r.length≤1000):Ev (qAQ · (BR (wd (tb r)))) (qBC (BR (wd (tb r)))):=qaC _ (by rw [qY];have:=qfB (tb r);have:=qAC r;omega)
theorem qiV (r:List UInt8) (h:r.length≤1000):Ev (qZ · (BR (wd (tb r)))) (qh (BR (wd (tb r)))):=qQ1 _ (by rw [qY];have:=qfB (tb r);have:=qAC r;omega)
theorem qfb (c:UInt8) (t:List UInt8):Lib.cut (c::t) [34]=if c=34 then ([],t,true) else (c::(Lib.cut t [34]).1,(Lib.cut t [34]).2.1,(Lib.cut t [34]).2.2):=by
 by_cases h:c=34
 ·subst h
  rw [if_pos rfl]
  simp [Lib.cut,Lib.index,List.isPrefixOf]
 ·rw [if_neg h]
  have h':¬34=c:=fun e=>h e.symm
  have g:=Lib.index_ge t [34]
  unfold Lib.cut
  by_cases e:Lib.index t [34]= -1
  ·have:Lib.index (c::t) [34]= -1:=by simp [Lib.index,List.isPrefixOf,h',e]
   simp [this,e]
  ·have:Lib.index (c::t) [34]=Lib.index t [34]+1:=by simp [Lib.index,List.isPrefixOf,h',e]
   have p:0≤Lib.index t [34]:=by omega
   have p1:0≤Lib.index t [34]+1:=by omega
   have q:(Lib.index t [34]+1).toNat=(Lib.index t [34]).toNat+1:=by omega
   simp [this,p,p1,q]
theorem qhm (acc t:List UInt8):qCc acc (34::34::t)=qCc (acc++ [34]) t:=(qCc.eq_def acc _).trans (by simp)
theorem qhn (acc t:List UInt8) (h:t.head?≠some 34):qCc acc (34::t)=some (acc,t):=by
 refine (qCc.eq_def acc _).trans ?_
 cases t with
 |nil=>simp
 |cons d t=>
  have:¬d=34:=fun e=>h (by rw [e];rfl)
  simp [this]
theorem qho (acc t:List UInt8) {c:UInt8} (h:¬c=34):qCc acc (c::t)=qCc (acc++ [c]) t:=(qCc.eq_def acc _).trans (by simp only [if_neg h])
theorem up3 {n n0:Nat} (h:n0+3≤n):∃m,n=m+3∧n0≤m:=⟨n-3,by omega,by omega⟩
theorem qeh:∀(r acc:List UInt8),qCc acc r=if (Lib.cut r [34]).2.2=true then (if (Lib.cut r [34]).2.1.head?=some 34 then qCc (acc++(Lib.cut r [34]).1++ [34]) (Lib.cut r [34]).2.1.tail else some (acc++(Lib.cut r [34]).1,(Lib.cut r [34]).2.1)) else none
 | [],acc=>by simp [qCc,Lib.cut,Lib.index]
 |c::t,acc=>by
  rw [qfb]
  by_cases h:c=34
  ·subst h
   rw [if_pos rfl]
   by_cases e:t.head?=some 34
   ·obtain ⟨u,rfl⟩:∃u,t=34::u:=by
     cases t with
     |nil=>cases e
     |cons d u=>simp at e;subst e;exact ⟨u,rfl⟩
    rw [qhm];simp
   ·rw [qhn acc t e];simp [e]
  ·simp only [if_neg h]
   rw [qho acc t h,qeh t (acc++ [c])]
   simp
theorem qgG:∀r:List UInt8,(Lib.cut r [34]).1.length+(Lib.cut r [34]).2.1.length≤r.length∧((Lib.cut r [34]).2.2=true→(Lib.cut r [34]).2.1.length<r.length)
 | []=>by simp [Lib.cut,Lib.index]
 |c::t=>by
  rw [qfb]
  have ih:=qgG t
  split
  ·simp
  ·simp only [List.length_cons]
   exact ⟨by omega,fun h=>by have:=ih.2 h;omega⟩
theorem qPq:∀(k:Nat) (acc r:List UInt8) {s t:List UInt8},r.length≤k→qCc acc r=some (s,t)→s.length≤acc.length+r.length+1
 |k,acc,[],s,t,hk,h=>by simp [qCc] at h
 |0,acc,c::r,s,t,hk,h=>by simp at hk
 |k+1,acc,c::r,s,t,hk,h=>by
  simp only [List.length_cons] at hk
  unfold qCc at h
  split at h
  ·cases r with
   |nil=>
    simp at h
    rw [←h.1];simp;omega
   |cons d r'=>
    simp only at h
    split at h
    ·have:=qPq k _ r' (by simp at hk;omega) h
     simp at this⊢;omega
    ·simp at h
     rw [←h.1];simp;omega
  ·have:=qPq k _ r (by omega) h
   simp at this⊢;omega
theorem qhp (m:Nat) (r:List UInt8) (h:r.length≤1000):qL5 (m+1) (BR r) ⟨#[34]⟩=some (BR (Lib.cut r [34]).1,BR (Lib.cut r [34]).2.1,(Lib.cut r [34]).2.2):=by
 show zAT (BR r) ⟨#[34]⟩=_
 unfold zAT
 rw [if_pos (by rw [qY];omega),←Go.Lib.toList_data (BR r),qAN]
 rfl
theorem qbO (n:Nat) (orig:ByteArray) (m:Nat) (b:Bool) (rows:List (List PV)):∀(k:Nat) (r acc:List UInt8) (M:Nat),r.length≤k→acc.length+r.length≤1000→k+1≤M→
  zL (qCQ (n+2)) M (BR acc,BR r,orig,m,b,rows)=some (match qCc acc r with
   |none=> .inl (-1,orig,m,true,rows)
   |some (s,t)=> .inr (BR s,BR t,orig,m,b,rows))
 |k,r,acc,0,h1,h2,h3=>by omega
 |k,r,acc,M+1,h1,h2,h3=>by
  have hc:=qhp (n+1) r (by omega)
  have hl:=qgG r
  have hp:=qBo n (Lib.cut r [34]).2.1 [34]
  rw [qeh]
  cases hf:(Lib.cut r [34]).2.2 with
  |false=>
   rw [if_neg (by simp)]
   refine (qN (r:= .inl (-1,orig,m,true,rows)) ?_).trans rfl
   refine qA hc (qD (by simp [hf]) rfl)
  |true=>
   rw [if_pos rfl]
   have hlt:=hl.2 hf
   by_cases hh:(Lib.cut r [34]).2.1.head?=some 34
   ·rw [if_pos hh]
    have hb:List.isPrefixOf [34] (Lib.cut r [34]).2.1=true:=(qKd 34 _).2 hh
    obtain ⟨u,hu⟩:∃u,(Lib.cut r [34]).2.1=34::u:=by
     cases e:(Lib.cut r [34]).2.1 with
     |nil=>rw [e] at hh;cases hh
     |cons c u=>rw [e] at hh;simp at hh;subst hh;exact ⟨u,rfl⟩
    rw [hb] at hp
    rw [qX (v':=(BR (acc++(Lib.cut r [34]).1++ [34]),BR (Lib.cut r [34]).2.1.tail,orig,m,b,rows)) (by
     refine qA hc (qM (by simp [hf]) (qD (decide_eq_true (by rw [qY,qY];omega)) (qA hp (qM rfl (qD (decide_eq_true (by rw [qbC,qY,List.length_append];show _+1≤9223372036854775807;omega)) (qD (decide_eq_true ⟨by decide,by simp only [qY];rw [hu];simp;omega,by simp [qY]⟩) ?_))))))
     rw [qB]
     simp only [qbC,qY,qNG]
     rw [hu]
     simp
     exact (qbC (acc++(Lib.cut r [34]).1) [34]).trans (by rw [List.append_assoc]))]
    rw [hu] at hl hlt⊢
    simp only [List.length_cons] at hl hlt
    refine qbO n orig m b rows (k-1) _ _ M (by simp;omega) (by simp;omega) (by omega)
   ·rw [if_neg hh]
    have hb:List.isPrefixOf [34] (Lib.cut r [34]).2.1=false:=by
     rw [Bool.eq_false_iff];intro e;exact hh ((qKd 34 _).1 e)
    rw [hb] at hp
    refine (qN (r:= .inr (BR (acc++(Lib.cut r [34]).1),BR (Lib.cut r [34]).2.1,orig,m,b,rows)) ?_).trans rfl
    refine qA hc (qM (by simp [hf]) (qD (decide_eq_true (by rw [qY,qY];omega)) (qA hp (qD rfl ?_))))
    rw [qB,qbC]
theorem qgW (t:List UInt8) (b:Bool) (l:List Nd) (h:t.length≤999) (hl:l.length≤60):Ev (qDg · (BR (34::t)) l.length b (l.map qV)) (qPw (match qCc [] t with
   |none=>(-1,34::t,true,l)
   |some (s,t')=>qFW (nd1 (2,0,BR s)) (t',b,l))):=by
 have lp:=fun n M (hM:t.length+1≤M)=>qbO n (BR (34::t)) l.length b (l.map qV) t.length t [] M (Nat.le_refl _) (by simp;omega) hM
 cases hq:qCc [] t with
 |none=>
  refine ⟨t.length+1+3,fun n hn=>?_⟩
  obtain ⟨m,rfl,hm⟩:=up3 hn
  have lp:=lp m (m+2) (by omega)
  rw [hq] at lp
  refine qD (decide_eq_true ⟨by decide,by rw [qY];simp;omega,Int.le_refl _⟩) ?_
  have e:(BR (34::t)).extract ((1:Int)).toNat ((((BR (34::t)).size:Nat):Int)).toNat=BR t:=by rw [qNG,qY];simp
  rw [e]
  exact qA lp rfl
 |some st=>
  obtain ⟨s,t'⟩:=st
  obtain ⟨n1,h1⟩:=qWY (2,0,BR s) (t',b,l) hl
  refine ⟨n1+t.length+1+3,fun n hn=>?_⟩
  obtain ⟨m,rfl,hm⟩:=up3 hn
  have lp:=lp m (m+2) (by omega)
  rw [hq] at lp
  refine qD (decide_eq_true ⟨by decide,by rw [qY];simp;omega,Int.le_refl _⟩) ?_
  have e:(BR (34::t)).extract ((1:Int)).toNat ((((BR (34::t)).size:Nat):Int)).toNat=BR t:=by rw [qNG,qY];simp
  rw [e]
  exact qA lp (qA (h1 (m+2) (by omega)) rfl)
theorem qhS (m:Nat) (r:List UInt8) (w:ByteArray):qr (m+1) (BR r) w=some (BR (if w.toList.isPrefixOf r=true then r.drop w.size else r),w.toList.isPrefixOf r):=by
 show zl (BR r) w=_
 unfold zl Lib.trimPrefix Lib.hasPrefix
 rw [←Go.Lib.toList_data (BR r),←Go.Lib.toList_data w,qAN,qAW]
 rfl
theorem qfc {n:Nat} (deep:Int) (r:List UInt8) (b:Bool) (l:List Nd)
  (h1:∀i,0≤i∧i≤5→qAP n i=some (qd i)) (h2:∀i,1≤i∧i≤5→qBk n i=some (4,i,em))
  (h3:∀w,qr n (BR r) w=some (BR (if w.toList.isPrefixOf r=true then r.drop w.size else r),w.toList.isPrefixOf r))
  (h4:∀i,1≤i∧i≤5→qc n 4 i em (BR (r.drop (qd i).size)) l.length b (l.map qV)=some (qPw (qFW (nd1 (4,i,em)) (r.drop (qd i).size,b,l)))):
  ∀(k:Nat) (i:Int) (M:Nat),1≤i→i+k=6→k+1≤M→zL (qBm n) M (deep,i,BR r,l.length,b,l.map qV)=some (match qUT r i k with
   |some e=> .inl (qPw (qFW (nd1 (4,e,em)) (r.drop (qd e).size,b,l)))
   |none=> .inr (deep,BR r,l.length,b,l.map qV))
 |k,i,0,_,_,h=>by omega
 |0,i,M+1,hi,hk,h=>by
  rw [qN (r:= .inr (deep,BR r,l.length,b,l.map qV)) (by exact qM (decide_eq_false (show ¬i≤5 by omega)) rfl)]
  rfl
 |k+1,i,M+1,hi,hk,h=>by
  have hi5:1≤i∧i≤5:=⟨hi,by omega⟩
  have c:=h3 (qd i)
  cases hq:(qd i).toList.isPrefixOf r with
  |true=>
   rw [hq,if_pos rfl] at c
   unfold qUT
   rw [if_pos hq]
   refine qN (qD (decide_eq_true (show i≤5 by omega)) (qA (h1 i ⟨by omega,by omega⟩) (qA c (qD rfl (qA (h2 i hi5) (qA (h4 i hi5) rfl))))))
  |false=>
   rw [hq,if_neg (by simp)] at c
   unfold qUT
   rw [if_neg (by rw [hq];simp)]
   have w1:IntKind.i64.wrap (i+1)=i+1:=qa (by omega)
   rw [qX (v':=(deep,i+1,BR r,l.length,b,l.map qV)) (by refine qD (decide_eq_true (show i≤5 by omega)) (qA (h1 i ⟨by omega,by omega⟩) (qA c (qM rfl ?_)));rw [qB,w1])]
   exact qfc deep r b l h1 h2 h3 h4 k (i+1) M (by omega) (by omega) (by omega)
theorem qhq (deep:Int) (r:List UInt8) (b:Bool) (l:List Nd) (hl:l.length≤60):∃n0,∀n,n0≤n→∀M,n0≤M→zL (qBm n) M (deep,1,BR r,l.length,b,l.map qV)=some (match qUT r 1 5 with
   |some e=> .inl (qPw (qFW (nd1 (4,e,em)) (r.drop (qd e).size,b,l)))
   |none=> .inr (deep,BR r,l.length,b,l.map qV)):=by
 obtain ⟨n1,h1⟩:=qOM (F:=qAP) (f:=qd) (lo:=0) (by decide) qKb
 obtain ⟨n2,h2⟩:=qOM (F:=qBk) (f:=fun i=>(4,i,em)) (lo:=1) (by decide) (fun i _=>qYG i)
 obtain ⟨n4,h4⟩:=qOM (F:=fun n i=>qc n 4 i em (BR (r.drop (qd i).size)) l.length b (l.map qV)) (f:=fun i=>qPw (qFW (nd1 (4,i,em)) (r.drop (qd i).size,b,l))) (lo:=1) (by decide) (fun i _=>qWY (4,i,em) (r.drop (qd i).size,b,l) hl)
 refine ⟨n1+n2+n4+7,fun n hn M hM=>?_⟩
 exact qfc deep r b l (h1 n (by omega)) (h2 n (by omega)) (fun w=>by
  obtain ⟨m,rfl,_⟩:=up1 (show n1+1≤n by omega)
  exact qhS m r w) (h4 n (by omega)) 5 1 M (by omega) (by omega) (by omega)
theorem qgH {g:G_impl_reader_binary} {n:Nat} (deep:Int) (w:List UInt8) (p:PS) (res:Int→Int×PS) (h1:∀i,1≤i∧i≤10→qCB n i=some (fnS i)):
  ∀(k:Nat) (i:Int) (M:Nat),1≤i→i+k=11→k+1≤M→(∀op,qOO w i k=some op→g.impl_reader_call op deep (BR p.1) p.2.2.length p.2.1 (p.2.2.map qV)=some (qPw (res op)))→
   zL (qAT g n) M (deep,BR w,i,BR p.1,p.2.2.length,p.2.1,p.2.2.map qV)=some (match qOO w i k with
   |some op=> .inl (qPw (res op))
   |none=> .inr (qMq p))
 |k,i,0,_,_,h,_=>by omega
 |0,i,M+1,hi,hk,h,_=>by
  rw [qN (r:= .inr (qMq p)) (by exact qM (decide_eq_false (show ¬i≤10 by omega)) rfl)]
  rfl
 |k+1,i,M+1,hi,hk,h,hc=>by
  unfold qOO at hc⊢
  by_cases hq:(fnS i).toList=w
  ·rw [if_pos hq] at hc⊢
   refine qN (qD (decide_eq_true (show i≤10 by omega)) (qA (h1 i ⟨hi,by omega⟩) (qD (by simp [qAN,hq]) (qA (hc i rfl) rfl))))
  ·rw [if_neg hq] at hc⊢
   have w1:IntKind.i64.wrap (i+1)=i+1:=qa (by omega)
   have hq':¬w=(fnS i).toList:=fun e=>hq e.symm
   rw [qX (v':=(deep,BR w,i+1,BR p.1,p.2.2.length,p.2.1,p.2.2.map qV)) (by refine qD (decide_eq_true (show i≤10 by omega)) (qA (h1 i ⟨hi,by omega⟩) (qM (by simp [qAN,hq']) ?_));rw [qB,w1])]
   exact qgH deep w p res h1 k (i+1) M (by omega) (by omega) (by omega) hc
theorem qhr:∃n0,∀n,n0≤n→∀i,1≤i∧i≤10→qCB n i=some (fnS i):=by
 obtain ⟨n1,h1⟩:=qDn (F:=fun (i:Nat) n=>qCB n ((i:Int)+1)) (f:=fun i=>fnS ((i:Int)+1)) (List.range 10) (fun i hi=>qWV _ (by have:=List.mem_range.1 hi;omega))
 refine ⟨n1,fun n hn i hi=>?_⟩
 have:=h1 n hn (i-1).toNat (List.mem_range.2 (by omega))
 rwa [show (((i-1).toNat:Nat):Int)+1=i by omega] at this
theorem qhs:∃n0,∀n,n0≤n→∀i,1≤i∧i≤11→qBP n i=some (qAM i):=by
 obtain ⟨n1,h1⟩:=qDn (F:=fun (i:Nat) n=>qBP n ((i:Int)+1)) (f:=fun i=>qAM ((i:Int)+1)) (List.range 11) (fun i hi=>qPn _ (by have:=List.mem_range.1 hi;omega))
 refine ⟨n1,fun n hn i hi=>?_⟩
 have:=h1 n hn (i-1).toNat (List.mem_range.2 (by omega))
 rwa [show (((i-1).toNat:Nat):Int)+1=i by omega] at this
def opF (s:List UInt8):Int→Int→Nat→Int
 |op,_,0=>op
 |op,i,k+1=>opF s (if s=(qAM i).toList then i else op) (i+1) k
theorem qht (r:List UInt8):opF (sgn r) 0 1 11=qA5 r:=by
 unfold qA5
 generalize sgn r=s
 by_cases h1:s= [43]; · subst h1;decide+kernel
 by_cases h2:s= [45]; · subst h2;decide+kernel
 by_cases h3:s= [42]; · subst h3;decide+kernel
 by_cases h4:s= [47]; · subst h4;decide+kernel
 by_cases h5:s= [38]; · subst h5;decide+kernel
 by_cases h6:s= [61]; · subst h6;decide+kernel
 by_cases h7:s= [60,62]; · subst h7;decide+kernel
 by_cases h8:s= [60]; · subst h8;decide+kernel
 by_cases h9:s= [60,61]; · subst h9;decide+kernel
 by_cases h10:s= [62]; · subst h10;decide+kernel
 by_cases h11:s= [62,61]; · subst h11;decide+kernel
 rw [if_neg h1,if_neg h2,if_neg h3,if_neg h4,if_neg h5,if_neg h6,if_neg h7,if_neg h8,if_neg h9,if_neg h10,if_neg h11]
 rw [←sg1] at h1;rw [←sg2] at h2;rw [←sg3] at h3;rw [←sg4] at h4;rw [←sg5] at h5;rw [←sg6] at h6;rw [←sg7] at h7;rw [←sg8] at h8;rw [←sg9] at h9;rw [←qgr] at h10;rw [←qgs] at h11
 simp only [opF,if_neg h1]
 simp only [show (1:Int)+1=2 from rfl,if_neg h2,show (2:Int)+1=3 from rfl,if_neg h3,show (3:Int)+1=4 from rfl,if_neg h4,show (4:Int)+1=5 from rfl,if_neg h5,show (5:Int)+1=6 from rfl,if_neg h6,show (6:Int)+1=7 from rfl,if_neg h7,show (7:Int)+1=8 from rfl,if_neg h8,show (8:Int)+1=9 from rfl,if_neg h9,show (9:Int)+1=10 from rfl,if_neg h10,show (10:Int)+1=11 from rfl,if_neg h11]
theorem qfd {n:Nat} (least deep a op i:Int) (r R:List UInt8) (m:Nat) (b:Bool) (rows:List (List PV)) (hi:1≤i∧i≤11)
  (h1:qBX n (BR r) m b rows=some (BR (sgn R),BR R,m,b,rows)) (h2:qBP n i=some (qAM i)):
  (qAy n (least,deep,a,op,i,BR r,m,b,rows)).run=some (.inl (least,deep,a,if sgn R=(qAM i).toList then i else op,i+1,BR R,m,b,rows)):=by
 have w1:IntKind.i64.wrap (i+1)=i+1:=qa (by omega)
 refine qD (decide_eq_true (show i≤11 by omega)) (qA h1 (qA h2 ?_))
 by_cases hq:sgn R=(qAM i).toList
 ·rw [if_pos hq]
  exact qD (by simp [qAN,hq]) (by rw [qB,w1])
 ·rw [if_neg hq]
  exact qM (by simp [qAN,hq]) (by rw [qB,w1])
theorem qfe {n:Nat} (least deep a:Int) (R:List UInt8) (m:Nat) (b:Bool) (rows:List (List PV))
  (h1:qBX n (BR R) m b rows=some (BR (sgn R),BR R,m,b,rows)) (h2:∀i,1≤i∧i≤11→qBP n i=some (qAM i)):
  ∀(k:Nat) (op i:Int) (M:Nat),1≤i→i+k=12→k+1≤M→zL (qAy n) M (least,deep,a,op,i,BR R,m,b,rows)=some (least,deep,a,opF (sgn R) op i k,BR R,m,b,rows)
 |k,op,i,0,_,_,h=>by omega
 |0,op,i,M+1,hi,hk,h=>by
  rw [qN (r:=(least,deep,a,op,BR R,m,b,rows)) (by exact qM (decide_eq_false (show ¬i≤11 by omega)) rfl)]
  rfl
 |k+1,op,i,M+1,hi,hk,h=>by
  rw [qX (qfd least deep a op i R R m b rows ⟨hi,by omega⟩ h1 (h2 i ⟨hi,by omega⟩))]
  exact qfe least deep a R m b rows h1 h2 k _ (i+1) M (by omega) (by omega) (by omega)
theorem qhT (least deep a:Int) (r:List UInt8) (m:Nat) (b:Bool) (rows:List (List PV)):∃n0,∀n,n0≤n→∀M,n0≤M→zL (qAy n) M (least,deep,a,0,1,BR r,m,b,rows)=some (least,deep,a,qA5 (tb r),BR (tb r),m,b,rows):=by
 obtain ⟨n1,h1⟩:=qbD r m b rows
 obtain ⟨n2,h2⟩:=qbD (tb r) m b rows
 obtain ⟨n3,h3⟩:=qhs
 refine ⟨n1+n2+n3+20,fun n hn M hM=>?_⟩
 obtain ⟨M,rfl,hM⟩:=up1 hM
 have h2:=h2 n (by omega)
 rw [qDS] at h2
 rw [qX (qfd least deep a 0 1 r (tb r) m b rows (by omega) (h1 n (by omega)) (h3 n (by omega) 1 (by omega)))]
 rw [show (1:Int)+1=2 from rfl,qfe least deep a (tb r) m b rows h2 (h3 n (by omega)) 10 _ 2 M (by omega) (by omega) (by omega),←qht]
 rfl
theorem qgI {p:PS} (h:Gd p):Gd (qBR p).2∧(qBR p).2.1.length≤p.1.length∧∀x,(qBR p).1=some x→qeO x:=by
 have h1:=qAC p.1
 have h2:=qPo (tb p.1)
 have h0:=h.r
 unfold qBR
 simp only
 split
 ·have h3:=qTO [58] (wr (tb p.1),p.2)
  have h4:=qAC (qU [58] (wr (tb p.1),p.2)).2.1
  have h5:=qPo (tb (qU [58] (wr (tb p.1),p.2)).2.1)
  have h6:=qAC (wr (tb p.1))
  have e:(qU [58] (wr (tb p.1),p.2)).2.2.2=p.2.2:=by unfold qU;split<;>rfl
  simp only at h3
  refine ⟨⟨by simp only;omega,by rw [e];exact h.n,by rw [e];exact h.s⟩,by simp only;omega,fun x hx=>?_⟩
  cases hx
  exact ⟨by simp [kd,ndA],by simp [ndA,em];decide⟩
 ·exact ⟨h,Nat.le_refl _,fun x hx=>by cases hx⟩
theorem qhU (p:PS) (h:p.1.length≤1000):∃x:Nd,(∀y,(qBR p).1=some y→x=y)∧Ev (qCm · (BR p.1) p.2.2.length p.2.1 (p.2.2.map qV)) (x.1,x.2.1,x.2.2.1,x.2.2.2.1,x.2.2.2.2.1,x.2.2.2.2.2.1,x.2.2.2.2.2.2.1,x.2.2.2.2.2.2.2.1,x.2.2.2.2.2.2.2.2.1,x.2.2.2.2.2.2.2.2.2.1,x.2.2.2.2.2.2.2.2.2.2.1,x.2.2.2.2.2.2.2.2.2.2.2.1,x.2.2.2.2.2.2.2.2.2.2.2.2.1,(kd x).map qBI,(qBR p).1.isSome,qMq (qBR p).2):=by
 have l1:=qAC p.1
 have l2:=qPo (tb p.1)
 have l3:=qTO [58] (wr (tb p.1),p.2)
 have l6:=qAC (wr (tb p.1))
 simp only at l3
 obtain ⟨n1,h1⟩:=qfA p h
 obtain ⟨n2,h2⟩:=qgv p.1 h
 obtain ⟨n3,h3⟩:=qOP [58] (wr (tb p.1),p.2)
 have hle:(qU [58] (wr (tb p.1),p.2)).2.1.length≤1000:=by omega
 obtain ⟨n4,h4⟩:=qfA (qU [58] (wr (tb p.1),p.2)).2 hle
 obtain ⟨n5,h5⟩:=qgv (qU [58] (wr (tb p.1),p.2)).2.1 hle
 have e:(qU [58] (wr (tb p.1),p.2)).2.2=p.2:=by unfold qU;split<;>rfl
 unfold qBR
 simp only
 by_cases hc:(qBC (BR (wd (tb p.1)))).2.2.2.2=true∧(qU [58] (wr (tb p.1),p.2)).1=true
 ·rw [if_pos hc]
  refine ⟨_,fun y hy=>by cases hy;rfl,n1+n2+n3+n4+n5+1,fun n hn=>?_⟩
  obtain ⟨k,rfl,hm⟩:=up1 hn
  refine qA (h1 k (by omega)) (qA (h2 k (by omega)) (qD hc.1 (qA (h3 k (by omega)) (qM (by simp only;rw [hc.2];rfl) (qA (h4 k (by omega)) (qA (h5 k (by omega)) ?_))))))
  cases hb:(qU [58] (wr (tb p.1),p.2)).2.2.1 with
  |true=>
   refine qD hb ?_
   rw [qB];rfl
  |false=>
   refine qM hb ?_
   rw [qB];rfl
 ·rw [if_neg hc]
  refine ⟨(0,0,0,0,⟨#[]⟩,0,0,false,false,0,0,false,false,[]),fun y hy=>(by cases hy),n1+n2+n3+1,fun n hn=>?_⟩
  obtain ⟨k,rfl,hm⟩:=up1 hn
  cases hr:(qBC (BR (wd (tb p.1)))).2.2.2.2 with
  |false=>exact qA (h1 k (by omega)) (qA (h2 k (by omega)) (qM hr rfl))
  |true=>
   have ht:(qU [58] (wr (tb p.1),p.2)).1=false:=by
    rw [Bool.eq_false_iff];exact fun e=>hc ⟨hr,e⟩
   refine qA (h1 k (by omega)) (qA (h2 k (by omega)) (qD hr (qA (h3 k (by omega)) (qD (by simp only;rw [ht];rfl) ?_))))
   rw [qB]
   simp only [qMq,e]
   rfl
theorem qWZ {s:ByteArray} (h:(qh s).2.2.2=true) (hk:(qh s).1=1∨(qh s).1=3):(qh s).2.2.1.size≤2000:=by
 unfold qh at h hk⊢
 split at h
 ·rename_i hc
  rw [if_pos hc] at hk⊢
  have h1:=hc.1
  unfold okV at h1
  have h2:¬(qBT s).1=2:=by
   simp only at hk
   omega
  rw [if_neg h2] at h1
  simp only [Bool.and_eq_true,beq_iff_eq] at h1
  have:=congrArg List.length h1.1
  rw [qAW] at this
  have h0:(qBT s).2.2.size=0:=this
  show (qBT s).2.2.size≤2000
  omega
 ·cases h
def Kj:PJ→PS→Prop
 | .args _ _ kids,p=>kids.length+p.1.length≤1500
 |_,_=>True
theorem qWh {w:List UInt8} {p:PS} (h:Gd p):Gd (qDA w p)∧(qDA w p).1.length≤p.1.length:=by
 have h1:=qTO w p
 have h2:=qAC p.1
 unfold qDA
 split
 ·exact ⟨h,Nat.le_refl _⟩
 ·split
  ·exact ⟨qDr h,by omega⟩
  ·exact ⟨⟨(qDr h).r,(qDr h).n,(qDr h).s⟩,by show (qU w p).2.1.length≤_;omega⟩
theorem qaK {p:PS} {r:List UInt8} (h:Gd p) (hr:r.length≤p.1.length):Gd (r,p.2):=⟨by have:=h.r;simp only;omega,h.n,h.s⟩
theorem qK0:∀(f:Nat) (j:PJ) (p:PS),Gd p→Kj j p→Gd (pP f j p).2∧(pP f j p).2.1.length≤p.1.length
 |0,j,p,h,_=>⟨h,Nat.le_refl _⟩
 |f+1,.bin least deep,p,h,_=>by
  unfold pP
  have a:=qK0 f (.un deep) p h trivial
  have b:=qK0 f (.loop least deep (pP f (.un deep) p).1) (pP f (.un deep) p).2 a.1 trivial
  exact ⟨b.1,Nat.le_trans b.2 a.2⟩
 |f+1,.loop least deep a,p,h,_=>by
  have h1:=qAC p.1
  unfold pP
  split
  ·exact ⟨h,Nat.le_refl _⟩
  ·split
   ·exact ⟨qaK h h1,h1⟩
   ·have l1:((tb p.1).drop (sgn (tb p.1)).length).length≤p.1.length:=by simp;omega
    have b:=qK0 f (.bin (lvl (qA5 (tb p.1))+1) deep) ((tb p.1).drop (sgn (tb p.1)).length,p.2) (qaK h l1) trivial
    simp only
    have c:=qPp (x:=ndK 5 (qA5 (tb p.1)) [a,(pP f (.bin (lvl (qA5 (tb p.1))+1) deep) ((tb p.1).drop (sgn (tb p.1)).length,p.2)).1]) b.1 ⟨by simp [kd,ndK],by simp [ndK,em];decide⟩
    have d:=qK0 f (.loop least deep (qFW (ndK 5 (qA5 (tb p.1)) [a,(pP f (.bin (lvl (qA5 (tb p.1))+1) deep) ((tb p.1).drop (sgn (tb p.1)).length,p.2)).1]) (pP f (.bin (lvl (qA5 (tb p.1))+1) deep) ((tb p.1).drop (sgn (tb p.1)).length,p.2)).2).1) _ c trivial
    refine ⟨d.1,Nat.le_trans d.2 ?_⟩
    rw [qBB]
    exact Nat.le_trans b.2 l1
 |f+1,.un deep,p,h,_=>by
  have h1:=qAC p.1
  have h2:=qTO [45] p
  unfold pP
  split
  ·exact ⟨⟨h.r,h.n,h.s⟩,Nat.le_refl _⟩
  ·split
   ·simp only
    have b:=qK0 f (.un (deep+1)) (qU [45] p).2 (qDr h) trivial
    refine ⟨qPp b.1 ⟨by simp [kd,ndK],by simp [ndK,em];decide⟩,?_⟩
    rw [qBB]
    exact Nat.le_trans b.2 (by omega)
   ·have b:=qK0 f (.at deep) (qU [45] p).2 (qDr h) trivial
    exact ⟨b.1,Nat.le_trans b.2 (by omega)⟩
 |f+1,.at deep,p,h,_=>by
  have h1:=qAC p.1
  have h2:=qTO [40] p
  have h3:=qPo (tb p.1)
  have h4:=h.r
  have g2:Gd (wr (tb p.1),p.2):=qaK h (by omega)
  unfold pP
  simp only
  split
  ·split
   ·exact ⟨⟨by simp only;omega,h.n,h.s⟩,h1⟩
   ·rename_i hh _ s t hq
    have a:=qWf _ _ hq
    have b:=qPq _ _ _ (Nat.le_refl _) hq
    simp only [List.length_tail,List.length_nil] at a b
    refine ⟨qPp (qaK h (by omega)) ⟨by simp [kd,nd1],by simp only [nd1,qY];omega⟩,?_⟩
    rw [qBB];simp only;omega
  ·split
   ·refine ⟨qPp (qaK h (by simp;omega)) ⟨by simp [kd,nd1],by simp [nd1,em];decide⟩,?_⟩
    rw [qBB];simp;omega
   ·split
    ·have b:=qK0 f (.bin 1 (deep+1)) (qU [40] p).2 (qDr h) trivial
     have c:=qWh (w:= [41]) b.1
     exact ⟨c.1,Nat.le_trans c.2 (Nat.le_trans b.2 (by omega))⟩
    ·split
     ·rename_i hv
      refine ⟨qPp g2 ⟨by simp [kd,nd1],qWZ hv.1 hv.2⟩,?_⟩
      rw [qBB];simp only;omega
     ·split
      ·refine ⟨qPp g2 ⟨by simp [kd,ndC],by simp [ndC,em];decide⟩,?_⟩
       rw [qBB];simp only;omega
      ·split
       ·rename_i op _
        have b:=qK0 f (.call op deep) (wr (tb p.1),p.2) g2 trivial
        exact ⟨b.1,Nat.le_trans b.2 (by simp only;omega)⟩
       ·exact ⟨⟨g2.r,g2.n,g2.s⟩,by show (wr (tb p.1)).length≤_;omega⟩
 |f+1,.call op deep,p,h,_=>by
  unfold pP
  have a:=qWh (w:= [40]) h
  have b:=qK0 f (.args op deep []) (qDA [40] p) a.1 (by have:=a.1.r;show 0+_≤_;omega)
  exact ⟨b.1,Nat.le_trans b.2 a.2⟩
 |f+1,.args op deep kids,p,h,hk=>by
  replace hk:kids.length+p.1.length≤1500:=hk
  unfold pP
  split
  ·refine ⟨qPp h ⟨by simp [kd,ndK];omega,by simp [ndK,em];decide⟩,?_⟩
   rw [qBB];exact Nat.le_refl _
  ·simp only
   have a:=qgI h
   have qg:Gd (qI1 (qBR p) (fun p=>pP f (.bin 1 (deep+1)) p)).2∧(qI1 (qBR p) (fun p=>pP f (.bin 1 (deep+1)) p)).2.1.length≤p.1.length:=by
    unfold qI1
    split
    ·rename_i x hx
     refine ⟨qPp a.1 (a.2.2 x hx),?_⟩
     rw [qBB];exact a.2.1
    ·have b:=qK0 f (.bin 1 (deep+1)) (qBR p).2 a.1 trivial
     exact ⟨b.1,Nat.le_trans b.2 a.2.1⟩
   generalize qI1 (qBR p) (fun p=>pP f (.bin 1 (deep+1)) p)=q at qg⊢
   have t0:=qg.2
   have t1:=qAC q.2.1
   have t2:=qTO [44] q.2
   split
   ·rename_i ht
    have t3:=qGO (by simp) ht
    have b:=qK0 f (.args op deep (kids++ [q.1])) (qU [44] q.2).2 (qDr qg.1) (by show (kids++ [q.1]).length+_≤_;simp;omega)
    exact ⟨b.1,Nat.le_trans b.2 (by omega)⟩
   ·have c:=qWh (w:= [41]) (qDr (w:= [44]) qg.1)
    refine ⟨qPp c.1 ⟨by simp [kd,ndK];omega,by simp [ndK,em];decide⟩,?_⟩
    rw [qBB]
    exact Nat.le_trans c.2 (by omega)
def Ad (f:Nat):PJ→PS→Prop
 | .bin _ _,p=>20*(tb p.1).length+6≤f
 | .loop _ _ _,p=>20*(tb p.1).length+5≤f
 | .un _,p=>20*(tb p.1).length+4≤f
 | .at _,p=>20*(tb p.1).length+3≤f∧p.2.1=false
 | .call _ _,p=>20*(tb p.1).length+9≤f
 | .args _ _ _,p=>20*(tb p.1).length+8≤f
def Jd:PJ→Prop
 | .bin _ d=>0≤d∧d≤401
 | .loop _ d _=>0≤d∧d≤401
 | .un d=>0≤d∧d≤401
 | .at d=>0≤d∧d≤400
 | .call _ d=>0≤d∧d≤400
 | .args _ d _=>0≤d∧d≤400
def Wk:PJ→PS→Int×PS→Prop
 | .bin least deep,p,r=>Ev (qCJ · least deep (BR p.1) p.2.2.length p.2.1 (p.2.2.map qV)) (qPw r)
 | .loop least deep a,p,r=>∃n0,∀n,n0≤n→∀M,n0≤M→zL (qCS (qL n) n) M (least,deep,a,qMq p)=some (qPw r)
 | .un deep,p,r=>Ev (qNm · deep (BR p.1) p.2.2.length p.2.1 (p.2.2.map qV)) (qPw r)
 | .at deep,p,r=>Ev (qPS · deep (BR p.1) p.2.2.length p.2.1 (p.2.2.map qV)) (qPw r)
 | .call op deep,p,r=>Ev (qC6 · op deep (BR p.1) p.2.2.length p.2.1 (p.2.2.map qV)) (qPw r)
 | .args op deep kids,p,r=>∃(ks:List Int) (p':PS),r=qFW (ndK 6 op ks) p'∧Gd p'∧ks.length≤1501∧∃n0,∀n,n0≤n→∀M,n0≤M→
   zL (qBz (qL n) n) M (op,deep,kids.length,kids.map qBI,qMq p)=some (op,ks.length,ks.map qBI,qMq p')
theorem qaL (w:List UInt8) {p:PS} (h:p.2.1=false):(BR (qU w p).2.1,(qU w p).2.2.2.length,!(qU w p).1,(qU w p).2.2.2.map qV)=qMq (qDA w p):=by
 have e:(qU w p).2.2=p.2:=by unfold qU;split<;>rfl
 unfold qDA
 rw [if_neg (by rw [h];simp)]
 cases hc:(qU w p).1 with
 |true=>rw [if_pos rfl];simp only [qMq,e,h];rfl
 |false=>rw [if_neg (by simp)];rfl
theorem qfC {r w:List UInt8} (hw:w≠ []) (h:w<+:r):(tb (r.drop w.length)).length<r.length:=by
 have h1:=qAC (r.drop w.length)
 have h2:=h.length_le
 have h3:0<w.length:=List.length_pos_iff.2 hw
 simp only [List.length_drop] at h1
 omega
theorem qiW {r:List UInt8} (h:qA5 r≠0):1≤qA5 r∧qA5 r≤11∧sgn r=(qAM (qA5 r)).toList∧sgn r≠ []:=by
 rcases qgE r with e|⟨a,b,c⟩
 ·exact absurd e h
 ·refine ⟨a,b,c,fun e=>h ?_⟩
  unfold qA5;rw [e];decide
def qgw (f:Nat) (deep:Int) (w:List UInt8) (p2:PS):Int×PS:=
 if (qh (BR w)).2.2.2=true∧((qh (BR w)).1=1∨(qh (BR w)).1=3) then qFW (nd1 ((qh (BR w)).1,(qh (BR w)).2.1,(qh (BR w)).2.2.1)) p2
 else if (qBC (BR w)).2.2.2.2=true then qFW (ndC (qBC (BR w))) p2
 else match qOO w 1 10 with
 |some op=>pP f (.call op deep) p2
 |none=>(-1,qft p2)
def qfy (g:G_impl_reader_binary) (n:Nat) (deep:Int) (w:ByteArray) (c:ByteArray×Nat×Bool×List (List PV)):Tr (Int×ByteArray×Nat×Bool×List (List PV)):=
 (.opt (qAQ n w) fun r=>(.ask r.2.2.2.2
  (.opt (qk n 2 0 0 0 ⟨#[]⟩ r.1 r.2.1 r.2.2.1 r.2.2.2.1 0 0 false false [] c.1 c.2.1 c.2.2.1 c.2.2.2) fun s=> .done (s.1,s.2.1,s.2.2.1,s.2.2.2.1,s.2.2.2.2))
  (.opt (zL (qAT g n) n (deep,w,1,c.1,c.2.1,c.2.2.1,c.2.2.2)) fun s=>(.alt s (fun t=> .done (t.1,t.2.1,t.2.2.1,t.2.2.2.1,t.2.2.2.2)) (fun t=> .done (-1,t.1,t.2.1,true,t.2.2.2))))))
def qhZ (g:G_impl_reader_binary) (n:Nat) (deep:Int) (w:ByteArray) (c:ByteArray×Nat×Bool×List (List PV)):Tr (Int×ByteArray×Nat×Bool×List (List PV)):=
 (.opt (qZ n w) fun r=>(.ask r.2.2.2
  (.ask (r.1==1) (.opt (qc n r.1 r.2.1 r.2.2.1 c.1 c.2.1 c.2.2.1 c.2.2.2) fun s=> .done (s.1,s.2.1,s.2.2.1,s.2.2.2.1,s.2.2.2.2))
   (.ask (r.1==3) (.opt (qc n r.1 r.2.1 r.2.2.1 c.1 c.2.1 c.2.2.1 c.2.2.2) fun s=> .done (s.1,s.2.1,s.2.2.1,s.2.2.2.1,s.2.2.2.2))
    (qfy g n deep w c)))
  (qfy g n deep w c)))
theorem qgX (f:Nat) (deep:Int) (r:List UInt8) (p2:PS) (hr:r.length≤1000) (hp:p2.2.2.length≤60) (hc:∀op,qOO (wd (tb r)) 1 10=some op→Ev (qC6 · op deep (BR p2.1) p2.2.2.length p2.2.1 (p2.2.2.map qV)) (qPw (pP f (.call op deep) p2))):
  ∃n0,∀n,n0≤n→(qfy (qL n) n deep (BR (wd (tb r))) (qMq p2)).run=some (qPw (if (qBC (BR (wd (tb r)))).2.2.2.2=true then qFW (ndC (qBC (BR (wd (tb r))))) p2 else match qOO (wd (tb r)) 1 10 with
   |some op=>pP f (.call op deep) p2
   |none=>(-1,qft p2))):=by
 obtain ⟨n1,h1⟩:=qgv r hr
 obtain ⟨n2,h2⟩:=qbE (ndC (qBC (BR (wd (tb r))))) p2 hp
 obtain ⟨n3,h3⟩:=qhr
 obtain ⟨n4,h4⟩:∃n4,∀n,n4≤n→∀op,qOO (wd (tb r)) 1 10=some op→qC6 n op deep (BR p2.1) p2.2.2.length p2.2.1 (p2.2.2.map qV)=some (qPw (pP f (.call op deep) p2)):=by
  cases hf:qOO (wd (tb r)) 1 10 with
  |none=>exact ⟨0,fun n _ op h=>by cases h⟩
  |some op=>obtain ⟨n4,h4⟩:=hc op hf;exact ⟨n4,fun n hn op' h=>by cases h;exact h4 n hn⟩
 refine ⟨n1+n2+n3+n4+12,fun n hn=>?_⟩
 have lp:=qgH (g:=qL n) deep (wd (tb r)) p2 (fun op=>pP f (.call op deep) p2) (h3 n (by omega)) 10 1 n (by omega) (by omega) (by omega) (h4 n (by omega))
 cases hb:(qBC (BR (wd (tb r)))).2.2.2.2 with
 |true=>
  rw [if_pos rfl]
  exact qA (h1 n (by omega)) (qD hb (qA (h2 n (by omega)) rfl))
 |false=>
  rw [if_neg (by simp)]
  refine qA (h1 n (by omega)) (qM hb (qA lp ?_))
  cases qOO (wd (tb r)) 1 10<;>rfl
theorem qgx (f:Nat) (deep:Int) (r:List UInt8) (p2:PS) (hr:r.length≤1000) (hp:p2.2.2.length≤60) (hc:∀op,qOO (wd (tb r)) 1 10=some op→Ev (qC6 · op deep (BR p2.1) p2.2.2.length p2.2.1 (p2.2.2.map qV)) (qPw (pP f (.call op deep) p2))):
  ∃n0,∀n,n0≤n→(qhZ (qL n) n deep (BR (wd (tb r))) (qMq p2)).run=some (qPw (qgw f deep (wd (tb r)) p2)):=by
 obtain ⟨n1,h1⟩:=qiV r hr
 obtain ⟨n2,h2⟩:=qWY ((qh (BR (wd (tb r)))).1,(qh (BR (wd (tb r)))).2.1,(qh (BR (wd (tb r)))).2.2.1) p2 hp
 obtain ⟨n3,h3⟩:=qgX f deep r p2 hr hp hc
 refine ⟨n1+n2+n3,fun n hn=>?_⟩
 have h2:=h2 n (by omega)
 have h3:=h3 n (by omega)
 unfold qgw
 refine qA (h1 n (by omega)) ?_
 by_cases ho:(qh (BR (wd (tb r)))).2.2.2=true
 ·refine qD ho ?_
  by_cases k1:(qh (BR (wd (tb r)))).1=1
  ·rw [if_pos ⟨ho,.inl k1⟩]
   exact qD (by rw [k1];rfl) (qA h2 rfl)
  ·refine qM (beq_eq_false_iff_ne.2 k1) ?_
   by_cases k3:(qh (BR (wd (tb r)))).1=3
   ·rw [if_pos ⟨ho,.inr k3⟩]
    exact qD (by rw [k3];rfl) (qA h2 rfl)
   ·rw [if_neg (fun h=>h.2.elim k1 k3)]
    exact qM (beq_eq_false_iff_ne.2 k3) h3
 ·rw [if_neg (fun h=>ho h.1)]
  exact qM (by rw [Bool.eq_false_iff];exact ho) h3
theorem qiX (w:List UInt8) (p:PS):qU w (tb p.1,p.2)=qU w p:=by unfold qU;simp only [qDS]
theorem qWi {c:UInt8} {r:List UInt8} (h:r.head?=some c):∃t,r=c::t:=by
 cases r with
 |nil=>cases h
 |cons d t=>simp at h;subst h;exact ⟨t,rfl⟩
theorem qLe:∀(f:Nat) (j:PJ) (p:PS),Ad f j p→Jd j→Gd p→Kj j p→Wk j p (pP f j p)
 |0,j,p,ha,_,_,_=>by cases j<;>simp [Ad] at ha
 |f+1,.bin least deep,p,ha,hj,hg,_=>by
  replace ha:20*(tb p.1).length+6≤f+1:=ha
  obtain ⟨n1,h1⟩:=qLe f (.un deep) p (by show 20*_+4≤f;omega) hj hg trivial
  have hl:=qGP f (.un deep) p
  obtain ⟨n2,h2⟩:=qLe f (.loop least deep (pP f (.un deep) p).1) (pP f (.un deep) p).2 (by show 20*_+5≤f;omega) hj (qK0 f (.un deep) p hg trivial).1 trivial
  refine ⟨n1+n2+1,fun n hn=>?_⟩
  obtain ⟨k,rfl,hm⟩:=up1 hn
  exact qA (h1 k (by omega)) (qA (h2 k (by omega) k (by omega)) rfl)
 |f+1,.loop least deep a,(r,b,l),ha,hj,hg,_=>by
  replace ha:20*(tb r).length+5≤f+1:=ha
  have hn60:l.length≤60:=hg.n
  have hr1:r.length≤1000:=hg.r
  have ht:=qAC r
  unfold pP
  cases b with
  |true=>
   rw [if_pos rfl]
   refine ⟨1,fun n hn M hM=>?_⟩
   obtain ⟨M,rfl,hM⟩:=up1 hM
   exact qN (qM rfl rfl)
  |false=>
   rw [if_neg (by simp)]
   simp only
   obtain ⟨n1,h1⟩:=qhT least deep a r l.length false (l.map qV)
   by_cases h0:qA5 (tb r)=0
   ·rw [if_pos (.inl h0)]
    refine ⟨n1+1,fun n hn M hM=>?_⟩
    obtain ⟨M,rfl,hM⟩:=up1 hM
    exact qN (qD rfl (qA (h1 n (by omega) n (by omega)) (qD (by simp only;rw [h0];rfl) rfl)))
   ·obtain ⟨o1,o2,o3,o4⟩:=qiW h0
    obtain ⟨n2,h2⟩:=qYK (qA5 (tb r)) ⟨o1,o2⟩
    by_cases hl:lvl (qA5 (tb r))<least
    ·rw [if_pos (.inr hl)]
     refine ⟨n1+n2+1,fun n hn M hM=>?_⟩
     obtain ⟨M,rfl,hM⟩:=up1 hM
     exact qN (qD rfl (qA (h1 n (by omega) n (by omega)) (qM (beq_eq_false_iff_ne.2 h0) (qA (h2 n (by omega)) (qD (decide_eq_true hl) rfl)))))
    ·rw [if_neg (fun h=>h.elim h0 hl)]
     have lv:=qfu (op:=qA5 (tb r))
     have hlt:=qfC o4 (qgF (tb r))
     have hp1:Gd ((tb r).drop (sgn (tb r)).length,false,l):=⟨by simp;omega,hn60,hg.s⟩
     obtain ⟨n3,h3⟩:=qPn (qA5 (tb r)) ⟨o1,o2⟩
     obtain ⟨n4,h4⟩:=qeg (qAM (qA5 (tb r))).toList (tb r) l.length false (l.map qV)
     obtain ⟨n5,h5⟩:=qLe f (.bin (lvl (qA5 (tb r))+1) deep) ((tb r).drop (sgn (tb r)).length,false,l) (by show 20*_+6≤f;simp only;omega) hj hp1 trivial
     have g5:=qK0 f (.bin (lvl (qA5 (tb r))+1) deep) ((tb r).drop (sgn (tb r)).length,false,l) hp1 trivial
     have l5:=qGP f (.bin (lvl (qA5 (tb r))+1) deep) ((tb r).drop (sgn (tb r)).length,false,l)
     simp only at l5
     generalize pP f (.bin (lvl (qA5 (tb r))+1) deep) ((tb r).drop (sgn (tb r)).length,false,l)=q at h5 g5 l5⊢
     obtain ⟨n6,h6⟩:=qbE (ndK 5 (qA5 (tb r)) [a,q.1]) q.2 g5.1.n
     have g6:=qPp (x:=ndK 5 (qA5 (tb r)) [a,q.1]) g5.1 ⟨by simp [kd,ndK],by simp [ndK,em];decide⟩
     have e6:=qBB (ndK 5 (qA5 (tb r)) [a,q.1]) q.2
     generalize qFW (ndK 5 (qA5 (tb r)) [a,q.1]) q.2=c at h6 g6 e6⊢
     obtain ⟨n7,h7⟩:=qLe f (.loop least deep c.1) c.2 (by show 20*(tb c.2.1).length+5≤f;rw [e6];omega) hj g6 trivial
     refine ⟨n1+n2+n3+n4+n5+n6+n7+1,fun n hn M hM=>?_⟩
     obtain ⟨M,rfl,hM⟩:=up1 hM
     have w1:IntKind.i64.wrap (lvl (qA5 (tb r))+1)=lvl (qA5 (tb r))+1:=qa (by omega)
     have h3:=h3 n (by omega)
     have h4:=h4 n (by omega)
     have h5:=h5 n (by omega)
     rw [qUU,qDS,←o3,if_pos rfl] at h4
     rw [←w1] at h5
     rw [qX (v':=(least,deep,c.1,qMq c.2)) (by
      exact qD rfl (qA (h1 n (by omega) n (by omega)) (qM (beq_eq_false_iff_ne.2 h0) (qA (h2 n (by omega)) (qM (decide_eq_false hl) (qA h3 (qA h4 (qA (h2 n (by omega)) (qA h5 (qD rfl (qA (h6 n (by omega)) rfl)))))))))))]
     exact h7 n (by omega) M (by omega)
 |f+1,.un deep,p,ha,hj,hg,_=>by
  replace ha:20*(tb p.1).length+4≤f+1:=ha
  replace hj:0≤deep∧deep≤401:=hj
  unfold pP
  by_cases hd:deep>400
  ·rw [if_pos (.inl hd)]
   refine ⟨1,fun n hn=>?_⟩
   obtain ⟨k,rfl,hm⟩:=up1 hn
   exact qD (decide_eq_true hd) (qD rfl rfl)
  ·cases hb:p.2.1 with
   |true=>
    rw [if_pos (.inr rfl)]
    refine ⟨1,fun n hn=>?_⟩
    obtain ⟨k,rfl,hm⟩:=up1 hn
    refine qM (decide_eq_false hd) (qD hb ?_)
    rw [qB,hb];rfl
   |false=>
    rw [if_neg (fun h=>h.elim hd (by simp))]
    obtain ⟨n1,h1⟩:=qOP [45] p
    have t1:=qG7 [45] p
    cases hc:(qU [45] p).1 with
    |true=>
     rw [if_pos rfl]
     simp only
     have t2:=qGO (by simp) hc
     have t3:=qAC (qU [45] p).2.1
     obtain ⟨n2,h2⟩:=qLe f (.un (deep+1)) (qU [45] p).2 (by show 20*_+4≤f;omega) (by show 0≤deep+1∧deep+1≤401;omega) (qDr hg) trivial
     have g2:=qK0 f (.un (deep+1)) (qU [45] p).2 (qDr hg) trivial
     generalize pP f (.un (deep+1)) (qU [45] p).2=q at h2 g2⊢
     obtain ⟨n3,h3⟩:=qbE (ndK 4 0 [q.1]) q.2 g2.1.n
     refine ⟨n1+n2+n3+1,fun n hn=>?_⟩
     obtain ⟨k,rfl,hm⟩:=up1 hn
     have w1:IntKind.i64.wrap (deep+1)=deep+1:=qa (by omega)
     have h2:=h2 k (by omega)
     rw [←w1] at h2
     exact qM (decide_eq_false hd) (qM hb (qA (h1 k (by omega)) (qD hc (qA h2 (qD rfl (qA (h3 k (by omega)) rfl))))))
    |false=>
     rw [if_neg (by simp)]
     have e:(qU [45] p).2.2=p.2:=by unfold qU;split<;>rfl
     obtain ⟨n2,h2⟩:=qLe f (.at deep) (qU [45] p).2 ⟨by omega,by rw [e];exact hb⟩ (by show 0≤deep∧deep≤400;omega) (qDr hg) trivial
     refine ⟨n1+n2+1,fun n hn=>?_⟩
     obtain ⟨k,rfl,hm⟩:=up1 hn
     exact qM (decide_eq_false hd) (qM hb (qA (h1 k (by omega)) (qM hc (qA (h2 k (by omega)) rfl))))
 |f+1,.at deep,(r0,b,l),ha,hj,hg,_=>by
  obtain ⟨ha,hb⟩:=ha
  replace ha:20*(tb r0).length+3≤f+1:=ha
  replace hb:b=false:=hb
  subst hb
  replace hj:0≤deep∧deep≤400:=hj
  have hn60:l.length≤60:=hg.n
  have hr1:r0.length≤1000:=hg.r
  have ht:=qAC r0
  have ett:=qDS r0
  have eit:=qiX [40] (r0,false,l)
  obtain ⟨n1,h1⟩:=qQ5 r0 l.length false (l.map qV)
  have wdec:∀op,qOO (wd (tb r0)) 1 10=some op→(wr (tb r0)).length<(tb r0).length:=fun op h=>by
   have e:=congrArg List.length (wdr (tb r0))
   simp only [List.length_append] at e
   have:wd (tb r0)≠ []:=fun e=>by
    rw [e,show qOO [] 1 10=none by decide+kernel] at h
    cases h
   have:=List.length_pos_iff.2 this
   omega
  unfold pP
  simp only at eit⊢
  rw [←eit]
  generalize tb r0=r at*
  have hw:=qPo r
  have wordEv:∃n0,∀n,n0≤n→(qhZ (qL n) n deep (BR (wd r)) (qMq (wr r,false,l))).run=some (qPw (qgw f deep (wd r) (wr r,false,l))):=by
   have:=qgx f deep r (wr r,false,l) (by omega) hn60 (by
    rw [ett]
    intro op h
    exact qLe f (.call op deep) (wr r,false,l) (by have:=wdec op h;have:=qAC (wr r);show 20*(tb (wr r)).length+9≤f;omega) hj ⟨by simp only;omega,hn60,hg.s⟩ trivial)
   rwa [ett] at this
  obtain ⟨n9,h9⟩:=wordEv
  obtain ⟨n8,h8⟩:=qfA (r,false,l) (by simp only;omega)
  simp only [ett] at h8
  by_cases hq:r.head?=some 34
  ·rw [if_pos hq]
   obtain ⟨t,rfl⟩:=qWi hq
   simp only [List.length_cons] at ht
   obtain ⟨n2,h2⟩:=qgW t false l (by omega) hn60
   refine ⟨n1+n2+3,fun n hn=>?_⟩
   obtain ⟨k,rfl,hm⟩:=up3 hn
   refine qA (h1 (k+2) (by omega)) (qA (qBo k (34::t) [34]) (qD rfl (qA (h2 (k+2) (by omega)) ?_)))
   rw [qB]
   simp only [List.tail_cons]
   all_goals (cases qCc [] t<;>rfl)
  ·rw [if_neg hq]
   have p34:List.isPrefixOf [34] r=false:=by rw [Bool.eq_false_iff];exact fun e=>hq ((qKd 34 r).1 e)
   by_cases hh:r.head?=some 35
   ·have p35:List.isPrefixOf [35] r=true:=(qKd 35 r).2 hh
    simp only [if_pos hh]
    obtain ⟨n2,h2⟩:=qhq deep r false l hn60
    cases he:qUT r 1 5 with
    |some e=>
     simp only
     refine ⟨n1+n2+3,fun n hn=>?_⟩
     obtain ⟨k,rfl,hm⟩:=up3 hn
     have h2:=h2 (k+2) (by omega) (k+2) (by omega)
     rw [he] at h2
     exact qA (h1 (k+2) (by omega)) (qA (qBo k r [34]) (qM p34 (qA (qBo k r [35]) (qD p35 (qA h2 rfl)))))
    |none=>
     simp only
     rw [if_neg (fun h=>h.1 hh)]
     refine ⟨n1+n2+n8+n9+3,fun n hn=>?_⟩
     obtain ⟨k,rfl,hm⟩:=up3 hn
     have h2:=h2 (k+2) (by omega) (k+2) (by omega)
     rw [he] at h2
     exact qA (h1 (k+2) (by omega)) (qA (qBo k r [34]) (qM p34 (qA (qBo k r [35]) (qD p35 (qA h2 (qA (h8 (k+2) (by omega)) (h9 (k+2) (by omega))))))))
   ·have p35:List.isPrefixOf [35] r=false:=by rw [Bool.eq_false_iff];exact fun e=>hh ((qKd 35 r).1 e)
    simp only [if_neg hh]
    obtain ⟨n2,h2⟩:=qOP [40] (r,false,l)
    cases hc:(qU [40] (r,false,l)).1 with
    |true=>
     rw [if_pos ⟨hh,rfl⟩]
     have t2:=qGO (by simp) hc
     have t3:=qAC (qU [40] (r,false,l)).2.1
     simp only [ett] at t2
     have g1:Gd (r,false,l):=⟨by simp only;omega,hn60,hg.s⟩
     obtain ⟨n3,h3⟩:=qLe f (.bin 1 (deep+1)) (qU [40] (r,false,l)).2 (by show 20*_+6≤f;omega) (by show 0≤deep+1∧deep+1≤401;omega) (qDr g1) trivial
     generalize pP f (.bin 1 (deep+1)) (qU [40] (r,false,l)).2=q at h3⊢
     obtain ⟨n4,h4⟩:=qOP [41] q.2
     refine ⟨n1+n2+n3+n4+3,fun n hn=>?_⟩
     obtain ⟨k,rfl,hm⟩:=up3 hn
     have w1:IntKind.i64.wrap (deep+1)=deep+1:=qa (by omega)
     have h3:=h3 (k+2) (by omega)
     rw [←w1] at h3
     cases hbb:q.2.2.1 with
     |true=>
      refine qA (h1 (k+2) (by omega)) (qA (qBo k r [34]) (qM p34 (qA (qBo k r [35]) (qM p35 (qA (h2 (k+2) (by omega)) (qD hc (qA h3 (qD hbb ?_))))))))
      rw [qB]
      unfold qDA
      rw [if_pos hbb]
      simp only [qPw,hbb]
     |false=>
      refine qA (h1 (k+2) (by omega)) (qA (qBo k r [34]) (qM p34 (qA (qBo k r [35]) (qM p35 (qA (h2 (k+2) (by omega)) (qD hc (qA h3 (qM hbb (qA (h4 (k+2) (by omega)) ?_)))))))))
      rw [qB]
      exact congrArg (fun x=>some (q.1,x)) (qaL [41] hbb)
    |false=>
     rw [if_neg (fun h=>by simp at h)]
     have e:(qU [40] (r,false,l)).2=(r,false,l):=by
      unfold qU at hc⊢
      split at hc
      ·cases hc
      ·rename_i hne
       rw [if_neg hne];simp only [ett]
     rw [hc,e] at h2
     refine ⟨n1+n2+n8+n9+3,fun n hn=>?_⟩
     obtain ⟨k,rfl,hm⟩:=up3 hn
     exact qA (h1 (k+2) (by omega)) (qA (qBo k r [34]) (qM p34 (qA (qBo k r [35]) (qM p35 (qA (h2 (k+2) (by omega)) (qM rfl (qA (h8 (k+2) (by omega)) (h9 (k+2) (by omega)))))))))
 |f+1,.call op deep,p,ha,hj,hg,_=>by
  replace ha:20*(tb p.1).length+9≤f+1:=ha
  unfold pP
  have gm:=qWh (w:= [40]) hg
  have rm:=qWe [40] p
  obtain ⟨ks,p',e1,e2,e3,n2,h2⟩:=qLe f (.args op deep []) (qDA [40] p) (by show 20*_+8≤f;omega) hj gm.1 (by have:=gm.1.r;show 0+_≤_;omega)
  obtain ⟨n1,h1⟩:=qOP [40] p
  obtain ⟨n3,h3⟩:=qbE (ndK 6 op ks) p' e2.n
  rw [e1]
  refine ⟨n1+n2+n3+1,fun n hn=>?_⟩
  obtain ⟨k,rfl,hm⟩:=up1 hn
  have h2:=h2 k (by omega) k (by omega)
  by_cases hb:p.2.1=true
  ·have em:qMq (qDA [40] p)=(BR p.1,p.2.2.length,true,p.2.2.map qV):=by
    unfold qDA;rw [if_pos hb];simp only [qMq,hb]
   rw [em] at h2
   exact qD hb (qA h2 (qD (decide_eq_true (by simp)) (qA (h3 k (by omega)) rfl)))
  ·have hb:p.2.1=false:=by rw [Bool.eq_false_iff];exact hb
   have em:=qaL [40] hb
   rw [←em] at h2
   exact qM hb (qA (h1 k (by omega)) (qA h2 (qD (decide_eq_true (by simp)) (qA (h3 k (by omega)) rfl))))
 |f+1,.args op deep kids,p,ha,hj,hg,hk=>by
  replace ha:20*(tb p.1).length+8≤f+1:=ha
  replace hk:kids.length+p.1.length≤1500:=hk
  replace hj:0≤deep∧deep≤400:=hj
  unfold pP
  cases hb:p.2.1 with
  |true=>
   rw [if_pos rfl]
   refine ⟨kids,p,rfl,hg,by omega,1,fun n hn M hM=>?_⟩
   obtain ⟨M,rfl,hM⟩:=up1 hM
   exact qN (qM (by show (!p.2.1)=false;rw [hb];rfl) rfl)
  |false=>
   rw [if_neg (by simp)]
   simp only
   obtain ⟨x,hx,n1,h1⟩:=qhU p hg.r
   have ga:=qgI hg
   have ra:=qSm p
   have tl0:=qAC p.1
   have nb:∀k:Nat,(!(qMq p).2.2.1)=true:=fun _=>by show (!p.2.1)=true;rw [hb];rfl
   cases hi:(qBR p).1 with
   |some y=>
    have hxy:=hx y hi
    subst hxy
    obtain ⟨n3,h3⟩:=qbE x (qBR p).2 ga.1.n
    have eo:qI1 (qBR p) (fun p=>pP f (.bin 1 (deep+1)) p)=qFW x (qBR p).2:=by unfold qI1;rw [hi]
    rw [eo]
    have gq:Gd (qFW x (qBR p).2).2∧(qFW x (qBR p).2).2.1.length≤p.1.length∧(tb (qFW x (qBR p).2).2.1).length≤(tb p.1).length:=⟨qPp ga.1 (ga.2.2 x hi),by rw [qBB];exact ga.2.1,by rw [qBB];exact ra⟩
    have n2:=0
    generalize qFW x (qBR p).2=Q at h3 gq⊢
    obtain ⟨n4,h4⟩:=qOP [44] Q.2
    cases hc:(qU [44] Q.2).1 with
    |true=>
     obtain ⟨ks,p',e1,e2,e3,n6,h6⟩:=qLe f (.args op deep (kids++ [Q.1])) (qU [44] Q.2).2 (by have:=qGO (by simp) hc;show 20*(tb (qU [44] Q.2).2.1).length+8≤f;have:=qAC (qU [44] Q.2).2.1;omega) ⟨hj.1,hj.2⟩ (qDr gq.1) (by have:=qGO (by simp) hc;have:=qAC Q.2.1;show (kids++ [Q.1]).length+_≤_;simp;omega)
     refine ⟨ks,p',by rw [if_pos rfl];exact e1,e2,e3,n1+n2+n3+n4+n6+1,fun k hn M hM=>?_⟩
     obtain ⟨M,rfl,hM⟩:=up1 hM
     rw [qX (v':=(op,deep,(kids++ [Q.1]).length,(kids++ [Q.1]).map qBI,qMq (qU [44] Q.2).2)) (by
      have h1:=h1 k (by omega)
      rw [hi] at h1
      refine qD (nb 0) (qA h1 (qD rfl (qA (h3 k (by omega)) (qD rfl (qD (decide_eq_true ⟨by simp,by decide,by decide,by simp;omega,rfl⟩) (qA (h4 k (by omega)) ?_))))))
      refine qM (by simp only;rw [hc];rfl) ?_
      rw [qB]
      simp only [List.length_append,List.map_append]
      rfl)]
     exact h6 k (by omega) M (by omega)
    |false=>
     obtain ⟨n5,h5⟩:=qOP [41] (qU [44] Q.2).2
     refine ⟨kids++ [Q.1],qDA [41] (qU [44] Q.2).2,by rw [if_neg (by simp)],(qWh (qDr gq.1)).1,by simp;omega,n1+n2+n3+n4+n5+1,fun k hn M hM=>?_⟩
     obtain ⟨M,rfl,hM⟩:=up1 hM
     cases hbb:(qU [44] Q.2).2.2.1 with
     |true=>
      rw [qN (r:=(op,(kids++ [Q.1]).length,(kids++ [Q.1]).map qBI,qMq (qDA [41] (qU [44] Q.2).2))) (by
       have h1:=h1 k (by omega)
       rw [hi] at h1
       refine qD (nb 0) (qA h1 (qD rfl (qA (h3 k (by omega)) (qD rfl (qD (decide_eq_true ⟨by simp,by decide,by decide,by simp;omega,rfl⟩) (qA (h4 k (by omega)) ?_))))))
       refine qD (by simp only;rw [hc];rfl) (qD hbb ?_)
       rw [qB]
       unfold qDA
       rw [if_pos hbb]
       simp only [List.length_append,List.map_append,qMq,hbb]
       rfl)]
     |false=>
      rw [qN (r:=(op,(kids++ [Q.1]).length,(kids++ [Q.1]).map qBI,qMq (qDA [41] (qU [44] Q.2).2))) (by
       have h1:=h1 k (by omega)
       rw [hi] at h1
       refine qD (nb 0) (qA h1 (qD rfl (qA (h3 k (by omega)) (qD rfl (qD (decide_eq_true ⟨by simp,by decide,by decide,by simp;omega,rfl⟩) (qA (h4 k (by omega)) ?_))))))
       refine qD (by simp only;rw [hc];rfl) (qM hbb (qA (h5 k (by omega)) ?_))
       rw [qB]
       simp only [List.length_append,List.map_append]
       exact congrArg (fun x=>some (Sum.inr (op,kids.length+1,kids.map qBI++ [[PV.i IntKind.i64 Q.1]],x))) (qaL [41] hbb))]
   |none=>
    have eo:qI1 (qBR p) (fun p=>pP f (.bin 1 (deep+1)) p)=pP f (.bin 1 (deep+1)) (qBR p).2:=by unfold qI1;rw [hi]
    rw [eo]
    obtain ⟨n3,h3⟩:=qLe f (.bin 1 (deep+1)) (qBR p).2 (by show 20*_+6≤f;omega) (by show 0≤deep+1∧deep+1≤401;omega) ga.1 trivial
    have g3:=qK0 f (.bin 1 (deep+1)) (qBR p).2 ga.1 trivial
    have l3:=qGP f (.bin 1 (deep+1)) (qBR p).2
    have w1:IntKind.i64.wrap (deep+1)=deep+1:=qa (by omega)
    have gq:Gd (pP f (.bin 1 (deep+1)) (qBR p).2).2∧(pP f (.bin 1 (deep+1)) (qBR p).2).2.1.length≤p.1.length∧(tb (pP f (.bin 1 (deep+1)) (qBR p).2).2.1).length≤(tb p.1).length:=⟨g3.1,Nat.le_trans g3.2 ga.2.1,Nat.le_trans l3 ra⟩
    rw [←w1] at h3
    have n2:=0
    rw [w1] at h3
    generalize pP f (.bin 1 (deep+1)) (qBR p).2=Q at h3 gq⊢
    obtain ⟨n4,h4⟩:=qOP [44] Q.2
    cases hc:(qU [44] Q.2).1 with
    |true=>
     obtain ⟨ks,p',e1,e2,e3,n6,h6⟩:=qLe f (.args op deep (kids++ [Q.1])) (qU [44] Q.2).2 (by have:=qGO (by simp) hc;show 20*(tb (qU [44] Q.2).2.1).length+8≤f;have:=qAC (qU [44] Q.2).2.1;omega) ⟨hj.1,hj.2⟩ (qDr gq.1) (by have:=qGO (by simp) hc;have:=qAC Q.2.1;show (kids++ [Q.1]).length+_≤_;simp;omega)
     refine ⟨ks,p',by rw [if_pos rfl];exact e1,e2,e3,n1+n2+n3+n4+n6+1,fun k hn M hM=>?_⟩
     obtain ⟨M,rfl,hM⟩:=up1 hM
     rw [qX (v':=(op,deep,(kids++ [Q.1]).length,(kids++ [Q.1]).map qBI,qMq (qU [44] Q.2).2)) (by
      have h1:=h1 k (by omega)
      rw [hi] at h1
      have h3:=h3 k (by omega)
      rw [←w1] at h3
      refine qD (nb 0) (qA h1 (qM rfl (qA h3 (qD rfl (qD (decide_eq_true ⟨by simp,by decide,by decide,by simp;omega,rfl⟩) (qA (h4 k (by omega)) ?_))))))
      refine qM (by simp only;rw [hc];rfl) ?_
      rw [qB]
      simp only [List.length_append,List.map_append]
      rfl)]
     exact h6 k (by omega) M (by omega)
    |false=>
     obtain ⟨n5,h5⟩:=qOP [41] (qU [44] Q.2).2
     refine ⟨kids++ [Q.1],qDA [41] (qU [44] Q.2).2,by rw [if_neg (by simp)],(qWh (qDr gq.1)).1,by simp;omega,n1+n2+n3+n4+n5+1,fun k hn M hM=>?_⟩
     obtain ⟨M,rfl,hM⟩:=up1 hM
     cases hbb:(qU [44] Q.2).2.2.1 with
     |true=>
      rw [qN (r:=(op,(kids++ [Q.1]).length,(kids++ [Q.1]).map qBI,qMq (qDA [41] (qU [44] Q.2).2))) (by
       have h1:=h1 k (by omega)
       rw [hi] at h1
       have h3:=h3 k (by omega)
       rw [←w1] at h3
       refine qD (nb 0) (qA h1 (qM rfl (qA h3 (qD rfl (qD (decide_eq_true ⟨by simp,by decide,by decide,by simp;omega,rfl⟩) (qA (h4 k (by omega)) ?_))))))
       refine qD (by simp only;rw [hc];rfl) (qD hbb ?_)
       rw [qB]
       unfold qDA
       rw [if_pos hbb]
       simp only [List.length_append,List.map_append,qMq,hbb]
       rfl)]
     |false=>
      rw [qN (r:=(op,(kids++ [Q.1]).length,(kids++ [Q.1]).map qBI,qMq (qDA [41] (qU [44] Q.2).2))) (by
       have h1:=h1 k (by omega)
       rw [hi] at h1
       have h3:=h3 k (by omega)
       rw [←w1] at h3
       refine qD (nb 0) (qA h1 (qM rfl (qA h3 (qD rfl (qD (decide_eq_true ⟨by simp,by decide,by decide,by simp;omega,rfl⟩) (qA (h4 k (by omega)) ?_))))))
       refine qD (by simp only;rw [hc];rfl) (qM hbb (qA (h5 k (by omega)) ?_))
       rw [qB]
       simp only [List.length_append,List.map_append]
       exact congrArg (fun x=>some (Sum.inr (op,kids.length+1,kids.map qBI++ [[PV.i IntKind.i64 Q.1]],x))) (qaL [41] hbb))]
def pos (s r:List UInt8):Int:=((s.length-r.length:Nat):Int)
def qDy (s:List UInt8) (q:PS):ByteArray×Int×Bool×Nat×List (List PV):=(BR s,pos s q.1,q.2.1,q.2.2.length,q.2.2.map qV)
def qDT (s:List UInt8) (r:Int×PS):Int×ByteArray×Int×Bool×Nat×List (List PV):=(r.1,qDy s r.2)
theorem qff {s r:List UInt8} (h:r<:+s):s.drop (s.length-r.length)=r:=by
 obtain ⟨t,rfl⟩:=h
 simp
theorem qgJ (s r:List UInt8):(pos s r).toNat=s.length-r.length:=by unfold pos;simp
theorem qYM (s r:List UInt8):0≤pos s r:=by unfold pos;omega
theorem qFP {s r:List UInt8} (h:r<:+s):r.length≤s.length:=h.length_le
theorem qWj {s r t:List UInt8} {k:Nat} (h:r<:+s) (e:t=r.drop k) (hk:k≤r.length):pos s r+(k:Int)=pos s t:=by
 subst e
 have:=qFP h
 unfold pos
 simp only [List.length_drop]
 omega
theorem qaM {s r:List UInt8} (h:r<:+s):(BR s).toList[(pos s r).toNat]?=r.head?:=by
 rw [qAN,qgJ,←List.head?_drop,qff h]
theorem qfz {s r:List UInt8} (h:r<:+s):tb r<:+s:=(List.dropWhile_suffix _).trans h
theorem qdp {s t:List UInt8} {c:UInt8} (h:(c::t)<:+s):t<:+s:=(List.suffix_cons c t).trans h
theorem qcc {s r:List UInt8} {k:Nat} (h:r<:+s):(BR s).extract (pos s r).toNat (pos s r+(k:Int)).toNat=BR (r.take k):=by
 rw [qNG,qgJ,show (pos s r+(k:Int)).toNat=(s.length-r.length)+k by unfold pos;omega,←List.take_drop,qff h]
theorem qEY {b:Bool} (h:b=true):(!b)=false:=by rw [h];rfl
theorem qHp {b:Bool} (h:b=false):(!b)=true:=by rw [h];rfl
theorem qei {s:List UInt8} (hs:s.length≤1000) (n:Nat) (b:Bool) (m:Nat) (rows:List (List PV)):∀(r:List UInt8) (M:Nat),r<:+s→r.length+1≤M→zL (qDZ n) M (BR s,pos s r,b,m,rows)=some (BR s,pos s (tb r),b,m,rows)
 |r,0,_,h=>by omega
 | [],M+1,h,_=>by
  exact qN (qM (decide_eq_false (show ¬pos s []<((BR s).size:Int) by rw [qY];unfold pos;simp)) rfl)
 |c::t,M+1,h,hM=>by
  have hl:=qFP h
  simp only [List.length_cons] at hl hM
  have g:=qaM h
  have p1:pos s (c::t)<((BR s).size:Int):=by rw [qY];unfold pos;simp only [List.length_cons];omega
  by_cases hc:c=32
  ·subst hc
   have w1:IntKind.i64.wrap (pos s (32::t)+1)=pos s t:=by
    have:=qWj (k:=1) h (t:=t) rfl (by simp)
    rw [qa (by unfold pos;omega)];exact this
   rw [qX (v':=(BR s,pos s t,b,m,rows)) (by
    refine qD (decide_eq_true p1) (qD (decide_eq_true (qYM _ _)) (qA g (qD rfl ?_)))
    rw [qB,w1])]
   have e:tb (32::t)=tb t:=by simp [tb]
   rw [e]
   exact qei hs n b m rows t M (qdp h) (by omega)
  ·have e:tb (c::t)=c::t:=by simp [tb,hc]
   rw [e]
   refine qN (qD (decide_eq_true p1) (qD (decide_eq_true (qYM _ _)) (qA g (qM ?_ rfl))))
   rw [beq_eq_false_iff_ne]
   intro e
   exact hc (UInt8.toNat_inj.1 (show c.toNat=32 by omega))
theorem qfD {s:List UInt8} (hs:s.length≤1000) (q:PS) (h:q.1<:+s):Ev (qBU · (BR s) (pos s q.1) q.2.1 q.2.2.length (q.2.2.map qV)) (qDy s (tb q.1,q.2)):=by
 have hl:=qFP h
 refine ⟨q.1.length+2,fun n hn=>?_⟩
 obtain ⟨k,rfl,hm⟩:=up1 hn
 exact qA (qei hs k q.2.1 q.2.2.length (q.2.2.map qV) q.1 k h (by omega)) rfl
theorem qPr {s:List UInt8} (hs:s.length≤1000) (w:List UInt8) (hw:w.length≤1000) (q:PS) (h:q.1<:+s):Ev (q8 · (BR w) (BR s) (pos s q.1) q.2.1 q.2.2.length (q.2.2.map qV)) ((sIs w q).1,qDy s (sIs w q).2):=by
 obtain ⟨n1,h1⟩:=qfD hs q h
 have ht:=qfz h
 have hl:=qFP ht
 refine ⟨n1+1,fun n hn=>?_⟩
 obtain ⟨k,rfl,hm⟩:=up1 hn
 have w1:IntKind.i64.wrap (pos s (tb q.1)+((BR w).size:Int))=pos s (tb q.1)+(w.length:Int):=by rw [qY];exact qa (by unfold pos;omega)
 unfold sIs
 cases hb:q.2.1 with
 |true=>
  rw [if_pos rfl]
  have h1:=h1 k (by omega)
  rw [hb] at h1
  refine qA h1 (qD hb ?_)
  rw [qB]
 |false=>
  have h1:=h1 k (by omega)
  rw [hb] at h1
  rw [if_neg (by simp)]
  by_cases hf:pos s (tb q.1)+(w.length:Int)>(s.length:Int)
  ·have hn:¬w.isPrefixOf (tb q.1)=true:=by
    intro e
    have:=(List.isPrefixOf_iff_prefix.1 e).length_le
    unfold pos at hf
    omega
   rw [if_neg hn]
   refine qA h1 (qM hb (qD (decide_eq_true (show IntKind.i64.wrap (pos s (tb q.1)+((BR w).size:Int))>((BR s).size:Int) by rw [w1,qY];exact hf)) ?_))
   rw [qB]
  ·have hx:=qcc (k:=w.length) ht
   have hwl:w.length≤(tb q.1).length:=by unfold pos at hf;omega
   have cmp:((BR s).extract (pos s (tb q.1)).toNat (IntKind.i64.wrap (pos s (tb q.1)+((BR w).size:Int))).toNat).toList==(BR w).toList↔w.isPrefixOf (tb q.1)=true:=by
    rw [w1,hx,qAN,qAN,beq_iff_eq,List.isPrefixOf_iff_prefix,List.prefix_iff_eq_take]
    exact ⟨fun e=>e.symm,fun e=>e.symm⟩
   refine qA h1 (qM hb (qM (decide_eq_false (show ¬IntKind.i64.wrap (pos s (tb q.1)+((BR w).size:Int))>((BR s).size:Int) by rw [w1,qY];exact hf)) (qD (decide_eq_true (show 0≤pos s (tb q.1)∧pos s (tb q.1)≤IntKind.i64.wrap (pos s (tb q.1)+((BR w).size:Int))∧IntKind.i64.wrap (pos s (tb q.1)+((BR w).size:Int))≤((BR s).size:Int) by rw [w1,qY];exact ⟨qYM _ _,by omega,by omega⟩)) ?_)))
   by_cases hp:w.isPrefixOf (tb q.1)=true
   ·rw [if_pos hp]
    refine qM (qEY (cmp.2 hp)) ?_
    rw [qB]
    show some (true,BR s,IntKind.i64.wrap (pos s (tb q.1)+((BR w).size:Int)),q.2.1,q.2.2.length,q.2.2.map qV)=_
    rw [w1,qWj ht rfl hwl]
    rfl
   ·rw [if_neg hp]
    refine qD (qHp (by rw [Bool.eq_false_iff];exact fun e=>hp (cmp.1 e))) ?_
    rw [qB]
theorem qWa {s:List UInt8} (x:Nd) (q:PS) (h:q.2.2.length≤5000) (hx:qeO x):Ev (qm · x.1 x.2.1 x.2.2.1 x.2.2.2.1 x.2.2.2.2.1 x.2.2.2.2.2.1 x.2.2.2.2.2.2.1 x.2.2.2.2.2.2.2.1 x.2.2.2.2.2.2.2.2.1 x.2.2.2.2.2.2.2.2.2.1 x.2.2.2.2.2.2.2.2.2.2.1 x.2.2.2.2.2.2.2.2.2.2.2.1 x.2.2.2.2.2.2.2.2.2.2.2.2.1 ((kd x).map qBI) (BR s) (pos s q.1) q.2.1 q.2.2.length (q.2.2.map qV)) (qDT s (qHo x q)):=by
 obtain ⟨n1,h1⟩:=qSj x (by have:=hx.2;omega)
 refine ⟨n1+1,fun n hn=>?_⟩
 obtain ⟨k,rfl,hm⟩:=up1 hn
 have w2:IntKind.i64.wrap ((((q.2.2.length+1):Nat):Int)-1)=(q.2.2.length:Int):=by rw [qa (by omega)];omega
 refine qD rfl (qD (decide_eq_true ⟨by simp,by decide,by decide,by simp;omega,rfl⟩) ?_)
 unfold qHo
 by_cases h6:60<q.2.2.length+1
 ·rw [if_pos (.inl h6)]
  refine qD (decide_eq_true (by omega)) ?_
  rw [qB,w2]
  simp only [qDT,qDy,List.map_append,List.length_append]
  rfl
 ·refine qM (decide_eq_false (by omega)) (qA (h1 k (by omega)) ?_)
  cases ho:qNz x with
  |true=>
   rw [if_neg (fun e=>e.elim h6 (by simp))]
   refine qM rfl ?_
   rw [qB,w2]
   simp only [qDT,qDy,List.map_append,List.length_append]
   rfl
  |false=>
   rw [if_pos (.inr rfl)]
   refine qD rfl ?_
   rw [qB,w2]
   simp only [qDT,qDy,List.map_append,List.length_append]
   rfl
theorem qbP {s:List UInt8} (hs:s.length≤1000) (n:Nat) (at0:Int) (b:Bool) (m:Nat) (rows:List (List PV)):∀(r:List UInt8) (M:Nat),r<:+s→r.length+1≤M→zL (qBq n) M (at0,BR s,pos s r,b,m,rows)=some (at0,BR s,pos s (wr r),b,m,rows)
 |r,0,_,h=>by omega
 | [],M+1,h,_=>by
  exact qN (qM (decide_eq_false (show ¬pos s []<((BR s).size:Int) by rw [qY];unfold pos;simp)) rfl)
 |c::t,M+1,h,hM=>by
  have hl:=qFP h
  simp only [List.length_cons] at hl hM
  have g:=qaM h
  have p1:pos s (c::t)<((BR s).size:Int):=by rw [qY];unfold pos;simp only [List.length_cons];omega
  have p0:decide (0≤pos s (c::t))=true:=decide_eq_true (qYM _ _)
  have w1:IntKind.i64.wrap (pos s (c::t)+1)=pos s t:=by
   have:=qWj (k:=1) h (t:=t) rfl (by simp)
   rw [qa (by unfold pos;omega)];exact this
  have yes:(wch c=true)→(qBq n (at0,BR s,pos s (c::t),b,m,rows)).run=some (.inl (at0,BR s,pos s t,b,m,rows)):=fun hc=>by
   have fin:some (Sum.inl (at0,BR s,IntKind.i64.wrap (pos s (c::t)+1),b,m,rows))=(some (Sum.inl (at0,BR s,pos s t,b,m,rows)):Option (_⊕(Int×ByteArray×Int×Bool×Nat×List (List PV)))):=by rw [w1]
   refine qD (decide_eq_true p1) (qD p0 (qA g ?_))
   by_cases a1:(c.toNat:Int)≥65
   ·refine qD (decide_eq_true a1) (qD p0 (qA g ?_))
    by_cases a2:(c.toNat:Int)≤90
    ·exact qD (decide_eq_true a2) fin
    ·refine qM (decide_eq_false a2) (qD p0 (qA g ?_))
     by_cases a3:(c.toNat:Int)≥48
     ·refine qD (decide_eq_true a3) (qD p0 (qA g ?_))
      by_cases a4:(c.toNat:Int)≤57
      ·exact qD (decide_eq_true a4) fin
      ·refine qM (decide_eq_false a4) (qD p0 (qA g ?_))
       have a5:c=36:=by
        unfold wch at hc
        simp only [Bool.or_eq_true,Bool.and_eq_true,decide_eq_true_eq,beq_iff_eq] at hc
        rcases hc with hc|hc|hc
        ·omega
        ·omega
        ·exact hc
       exact qD (by rw [a5];rfl) fin
     ·omega
   ·refine qM (decide_eq_false a1) (qD p0 (qA g ?_))
    by_cases a3:(c.toNat:Int)≥48
    ·refine qD (decide_eq_true a3) (qD p0 (qA g ?_))
     by_cases a4:(c.toNat:Int)≤57
     ·exact qD (decide_eq_true a4) fin
     ·refine qM (decide_eq_false a4) (qD p0 (qA g ?_))
      have a5:c=36:=by
       unfold wch at hc
       simp only [Bool.or_eq_true,Bool.and_eq_true,decide_eq_true_eq,beq_iff_eq] at hc
       rcases hc with hc|hc|hc
       ·omega
       ·omega
       ·exact hc
      exact qD (by rw [a5];rfl) fin
    ·refine qM (decide_eq_false a3) (qD p0 (qA g ?_))
     have a5:c=36:=by
      unfold wch at hc
      simp only [Bool.or_eq_true,Bool.and_eq_true,decide_eq_true_eq,beq_iff_eq] at hc
      rcases hc with hc|hc|hc
      ·omega
      ·omega
      ·exact hc
     exact qD (by rw [a5];rfl) fin
  have no:(wch c=false)→(qBq n (at0,BR s,pos s (c::t),b,m,rows)).run=some (.inr (at0,BR s,pos s (c::t),b,m,rows)):=fun hc=>by
   have hc':¬((65≤c.toNat∧c.toNat≤90)∨(48≤c.toNat∧c.toNat≤57)∨c=36):=fun e=>by
    have:wch c=true:=by
     unfold wch
     simp only [Bool.or_eq_true,Bool.and_eq_true,decide_eq_true_eq,beq_iff_eq]
     exact e
    rw [hc] at this;cases this
   have a5:((c.toNat:Int)==36)=false:=by
    rw [beq_eq_false_iff_ne];intro e
    exact hc' (.inr (.inr (UInt8.toNat_inj.1 (show c.toNat=36 by omega))))
   refine qD (decide_eq_true p1) (qD p0 (qA g ?_))
   by_cases a1:(c.toNat:Int)≥65
   ·have a2:¬(c.toNat:Int)≤90:=fun e=>hc' (.inl ⟨by omega,by omega⟩)
    refine qD (decide_eq_true a1) (qD p0 (qA g (qM (decide_eq_false a2) ?_)))
    refine qD p0 (qA g (qD (decide_eq_true (show (c.toNat:Int)≥48 by omega)) ?_))
    exact qD p0 (qA g (qM (decide_eq_false (show ¬(c.toNat:Int)≤57 by omega)) (qD p0 (qA g (qM a5 rfl)))))
   ·refine qM (decide_eq_false a1) (qD p0 (qA g ?_))
    by_cases a3:(c.toNat:Int)≥48
    ·have a4:¬(c.toNat:Int)≤57:=fun e=>hc' (.inr (.inl ⟨by omega,by omega⟩))
     exact qD (decide_eq_true a3) (qD p0 (qA g (qM (decide_eq_false a4) (qD p0 (qA g (qM a5 rfl))))))
    ·exact qM (decide_eq_false a3) (qD p0 (qA g (qM a5 rfl)))
  cases hc:wch c with
  |true=>
   rw [qX (yes hc),show wr (c::t)=wr t by simp [wr,hc]]
   exact qbP hs n at0 b m rows t M (qdp h) (by omega)
  |false=>
   rw [qN (no hc),show wr (c::t)=c::t by simp [wr,hc]]
theorem qdq {s:List UInt8} (hs:s.length≤1000) (q:PS) (h:q.1<:+s):Ev (qCt · (BR s) (pos s q.1) q.2.1 q.2.2.length (q.2.2.map qV)) (BR (wd q.1),qDy s (wr q.1,q.2)):=by
 have hl:=qFP h
 have hw:=qPo q.1
 have hd:=congrArg List.length (wdr q.1)
 simp only [List.length_append] at hd
 refine ⟨q.1.length+2,fun n hn=>?_⟩
 obtain ⟨k,rfl,hm⟩:=up1 hn
 refine qA (qbP hs k (pos s q.1) q.2.1 q.2.2.length (q.2.2.map qV) q.1 k h (by omega)) (qD (decide_eq_true ⟨qYM _ _,by unfold pos;simp only;omega,by rw [qY];unfold pos;simp only;omega⟩) ?_)
 rw [qB]
 have e:(pos s (wr q.1))=pos s q.1+((wd q.1).length:Int):=by unfold pos;omega
 have x:=qcc (k:=(wd q.1).length) h
 rw [←e] at x
 have t:q.1.take (wd q.1).length=wd q.1:=by
  have:=List.take_left (l₁:=wd q.1) (l₂:=wr q.1)
  rwa [wdr] at this
 rw [t] at x
 show some ((BR s).extract (pos s q.1).toNat (pos s (wr q.1)).toNat,_)=_
 rw [x]
 rfl
theorem qQ6 {s:List UInt8} (hs:s.length≤1000) {n:Nat} (b:Bool) (l:List Nd) (res:Int×PS):∀(k:Nat) (r acc:List UInt8) (M:Nat),r.length≤k→r<:+s→acc.length+r.length≤1001→r.length+1≤M→
  (∀w t,qCc acc r=some (w,t)→qm n 1 0 2 0 (BR w) 0 0 false false 0 0 false false [] (BR s) (pos s t) b l.length (l.map qV)=some (qDT s res))→
  zL (qD3 n) M (BR acc,BR s,pos s r,b,l.length,l.map qV)=some (match qCc acc r with
   |none=> .inr (BR s,pos s [],b,l.length,l.map qV)
   |some _=> .inl (qDT s res))
 |k,r,acc,0,_,_,_,h,_=>by omega
 |k,[],acc,M+1,_,h,_,_,_=>by
  exact qN (qM (decide_eq_false (show ¬pos s []<((BR s).size:Int) by rw [qY];unfold pos;simp)) rfl)
 |0,c::t,acc,M+1,hk,_,_,_,_=>by simp at hk
 |k+1,c::t,acc,M+1,hk,h,ha,hM,hr=>by
  have hl:=qFP h
  simp only [List.length_cons] at hl hM hk ha
  have g:=qaM h
  have p1:pos s (c::t)<((BR s).size:Int):=by rw [qY];unfold pos;simp only [List.length_cons];omega
  have p0:decide (0≤pos s (c::t))=true:=decide_eq_true (qYM _ _)
  have pa:=qWj (k:=1) h (t:=t) rfl (by simp)
  have w1:IntKind.i64.wrap (pos s (c::t)+1)=pos s t:=by rw [qa (by unfold pos;omega)];exact pa
  by_cases hc:c=34
  ·subst hc
   have ht:=qdp h
   by_cases hq:t.head?=some 34
   ·obtain ⟨u,rfl⟩:=qWi hq
    simp only [List.length_cons] at hl hM hk ha
    rw [qhm] at hr⊢
    have g2:=qaM ht
    have pb:=qWj (k:=1) ht (t:=u) rfl (by simp)
    have w2:IntKind.i64.wrap (pos s (34::u)+1)=pos s u:=by rw [qa (by unfold pos;omega)];exact pb
    rw [qX (v':=(BR (acc++ [34]),BR s,pos s u,b,l.length,l.map qV)) (by
     refine qD (decide_eq_true p1) (qD p0 (qA g (qM rfl (qM (decide_eq_false (show ¬IntKind.i64.wrap (pos s (34::34::u)+1)≥((BR s).size:Int) by rw [w1,qY];unfold pos;simp only [List.length_cons];omega)) (qD (decide_eq_true (show 0≤IntKind.i64.wrap (pos s (34::34::u)+1) by rw [w1];exact qYM _ _)) (qA (x:=34) (by show (BR s).toList[(IntKind.i64.wrap (pos s (34::34::u)+1)).toNat]?=_;rw [w1];exact g2) (qM rfl (qD (decide_eq_true (show (BR acc).size+1≤9223372036854775807 by rw [qY];omega)) ?_))))))))
     rw [qB]
     show some (Sum.inl (BR acc++BR [34],BR s,IntKind.i64.wrap (IntKind.i64.wrap (pos s (34::34::u)+1)+1),b,l.length,l.map qV))=_
     rw [w1,w2,qbC])]
    exact qQ6 hs b l res k u _ M (by omega) (qdp ht) (by simp;omega) (by omega) hr
   ·rw [qhn acc t hq] at hr⊢
    have hr:=hr acc t rfl
    refine qN (qD (decide_eq_true p1) (qD p0 (qA g (qM rfl ?_))))
    cases t with
    |nil=>
     refine qD (decide_eq_true (show IntKind.i64.wrap (pos s [34]+1)≥((BR s).size:Int) by rw [w1,qY];unfold pos;simp)) ?_
     rw [←w1] at hr
     exact qA hr rfl
    |cons d u=>
     have g2:=qaM ht
     have hd:¬d=34:=fun e=>hq (by rw [e];rfl)
     refine qM (decide_eq_false (show ¬IntKind.i64.wrap (pos s (34::d::u)+1)≥((BR s).size:Int) by rw [w1,qY];unfold pos;simp only [List.length_cons] at hl⊢;omega)) (qD (decide_eq_true (show 0≤IntKind.i64.wrap (pos s (34::d::u)+1) by rw [w1];exact qYM _ _)) (qA (x:=d) (by show (BR s).toList[(IntKind.i64.wrap (pos s (34::d::u)+1)).toNat]?=_;rw [w1];exact g2) (qD ?_ ?_)))
     ·rw [bne_iff_ne]
      intro e
      exact hd (UInt8.toNat_inj.1 (show d.toNat=34 by omega))
     ·rw [←w1] at hr
      exact qA hr rfl
  ·rw [qho acc t hc] at hr⊢
   have hx:=qcc (k:=1) h
   rw [show ((1:Nat):Int)=1 from rfl] at hx pa
   have hx:(BR s).extract (pos s (c::t)).toNat (IntKind.i64.wrap (pos s (c::t)+1)).toNat=BR [c]:=by
    rw [w1,←pa];exact hx
   rw [qX (v':=(BR (acc++ [c]),BR s,pos s t,b,l.length,l.map qV)) (by
    refine qD (decide_eq_true p1) (qD p0 (qA g (qD ?_ (qD (decide_eq_true (show 0≤pos s (c::t)∧pos s (c::t)≤IntKind.i64.wrap (pos s (c::t)+1)∧IntKind.i64.wrap (pos s (c::t)+1)≤((BR s).size:Int) by rw [w1,qY];exact ⟨qYM _ _,by unfold pos;simp only [List.length_cons];omega,by unfold pos;omega⟩)) (qD (decide_eq_true (show (BR acc).size+((BR s).extract (pos s (c::t)).toNat (IntKind.i64.wrap (pos s (c::t)+1)).toNat).size≤9223372036854775807 by rw [hx,qY,qY];simp;omega)) ?_)))))
    ·rw [bne_iff_ne]
     intro e
     exact hc (UInt8.toNat_inj.1 (show c.toNat=34 by omega))
    ·rw [qB]
     show some (Sum.inl (BR acc++(BR s).extract (pos s (c::t)).toNat (IntKind.i64.wrap (pos s (c::t)+1)).toNat,BR s,IntKind.i64.wrap (pos s (c::t)+1),b,l.length,l.map qV))=_
     rw [hx,qbC,w1])]
   exact qQ6 hs b l res k t _ M (by omega) (qdp h) (by simp;omega) (by omega) hr
theorem qgy {s:List UInt8} (hs:s.length≤1000) (q:PS) (h:q.1<:+s) (hn:q.2.2.length≤5000):Ev (qGZ · (BR s) (pos s q.1) q.2.1 q.2.2.length (q.2.2.map qV)) (qDT s (match qCc [] q.1 with
  |none=>(0,[],true,q.2.2)
  |some (w,t)=>qHo (nd1 (2,0,BR w)) (t,q.2))):=by
 have hl:=qFP h
 cases hq:qCc [] q.1 with
 |none=>
  refine ⟨q.1.length+2,fun n hn=>?_⟩
  obtain ⟨k,rfl,hm⟩:=up1 hn
  have lp:=qQ6 hs (n:=k) q.2.1 q.2.2 (0,q) q.1.length q.1 [] k (Nat.le_refl _) h (by simp;omega) (by omega) (fun w t e=>by rw [hq] at e;cases e)
  rw [hq] at lp
  exact qA lp rfl
 |some wt=>
  obtain ⟨w,t⟩:=wt
  have hw:=qPq _ _ _ (Nat.le_refl _) hq
  simp only [List.length_nil] at hw
  obtain ⟨n1,h1⟩:=qWa (s:=s) (nd1 (2,0,BR w)) (t,q.2) hn ⟨by simp [kd,nd1],by simp only [nd1,qY];omega⟩
  refine ⟨n1+q.1.length+2,fun n hn=>?_⟩
  obtain ⟨k,rfl,hm⟩:=up1 hn
  have lp:=qQ6 hs (n:=k) q.2.1 q.2.2 (qHo (nd1 (2,0,BR w)) (t,q.2)) q.1.length q.1 [] k (Nat.le_refl _) h (by simp;omega) (by omega) (fun w' t' e=>by rw [hq] at e;cases e;exact h1 k (by omega))
  rw [hq] at lp
  exact qA lp rfl
theorem qfE:∀o∈qCo,(qAM o).toList≠ []∧(qAM o).size≤2:=by decide+kernel
theorem qgz:∀o∈qCo,1≤o∧o≤11:=by decide
def opR:List (List PV):=qCo.map qBI
def rsL (level:Int) (r:List UInt8):List Int→List UInt8
 | []=>r
 |o::l=>if lvl o=level then rsL level (tb r) l else rsL level r l
theorem qbF {s:List UInt8} (hs:s.length≤1000) {n:Nat} (level:Int) (R:List UInt8) (hR:tb R=R) (m:Nat) (rows:List (List PV))
  (h1:∀o∈qCo,qCG n o=some (lvl o)) (h2:∀o∈qCo,qCq n o=some (qAM o)):
  ∀(k i:Nat) (r:List UInt8) (M:Nat),i+k=11→k+1≤M→tb r=R→
  (∀r',tb r'=R→(r'=r∨r'=R)→∀o∈qCo,q8 n (qAM o) (BR s) (pos s r') false m rows=some (if (qAM o).toList.isPrefixOf R=true then (true,BR s,pos s (R.drop (qAM o).size),false,m,rows) else (false,BR s,pos s R,false,m,rows)))→
  zL (qFm n) M (level,11,(i:Int),opR,BR s,pos s r,false,m,rows)=some (if qG6 level R (qCo.drop i)=0 then .inr (BR s,pos s (rsL level r (qCo.drop i)),false,m,rows) else .inl (qG6 level R (qCo.drop i),BR s,pos s (R.drop (qAM (qG6 level R (qCo.drop i))).size),false,m,rows))
 |k,i,r,0,_,h,_,_=>by omega
 |0,i,r,M+1,hk,_,_,_=>by
  have hi:i=11:=by omega
  subst hi
  exact qN (qM rfl rfl)
 |k+1,i,r,M+1,hk,hM,hr,h3=>by
  have hi:i<qCo.length:=by simp [qCo];omega
  obtain ⟨o,ho⟩:∃o,qCo[i]?=some o:=⟨_,List.getElem?_eq_getElem hi⟩
  have hin:=List.mem_of_getElem? ho
  have hR2:opR[i]?=some [PV.i .i64 o]:=by simp [opR,List.getElem?_map,ho,qBI]
  have hc:zU .i64 [PV.i .i64 o] 0=some o:=rfl
  have hd:qCo.drop i=o::qCo.drop (i+1):=qLc ho
  have w5:IntKind.i64.wrap ((i:Int)+1)=((i+1:Nat):Int):=by rw [qa (by omega)];omega
  have g1:decide ((i:Int)<((11:Nat):Int))=true:=decide_eq_true (by omega)
  have g2:decide (11=opR.length∧0≤(i:Int)∧(i:Int)<((11:Nat):Int))=true:=decide_eq_true ⟨rfl,by omega,by omega⟩
  have h0:o≠0:=by have:=qgz o hin;omega
  rw [hd]
  by_cases hl:lvl o=level
  ·have is:=h3 r hr (.inl rfl) o hin
   by_cases hp:(qAM o).toList.isPrefixOf R=true
   ·have e:qG6 level R (o::qCo.drop (i+1))=o:=by unfold qG6;rw [if_pos ⟨hl,hp⟩]
    rw [e,if_neg h0]
    rw [if_pos hp] at is
    exact qN (qD g1 (qD g2 (qA hR2 (qA hc (qA (h1 o hin) (qD (beq_iff_eq.2 hl) (qD g2 (qA hR2 (qA hc (qA (h2 o hin) (qA is (qD rfl (qD g2 (qA hR2 (qA hc rfl)))))))))))))))
   ·have e:qG6 level R (o::qCo.drop (i+1))=qG6 level R (qCo.drop (i+1)):=by
     conv=>lhs;unfold qG6
     rw [if_neg (fun h=>hp h.2)]
    have e2:rsL level r (o::qCo.drop (i+1))=rsL level R (qCo.drop (i+1)):=by
     conv=>lhs;unfold rsL
     rw [if_pos hl,hr]
    rw [e,e2]
    rw [if_neg hp] at is
    rw [qX (v':=(level,11,((i+1:Nat):Int),opR,BR s,pos s R,false,m,rows)) (by
     refine qD g1 (qD g2 (qA hR2 (qA hc (qA (h1 o hin) (qD (beq_iff_eq.2 hl) (qD g2 (qA hR2 (qA hc (qA (h2 o hin) (qA is (qM rfl ?_)))))))))))
     rw [qB,w5])]
    exact qbF hs level R hR m rows h1 h2 k (i+1) R M (by omega) (by omega) hR (fun r' a b=>h3 r' a (.inr (b.elim id id)))
  ·have e:qG6 level R (o::qCo.drop (i+1))=qG6 level R (qCo.drop (i+1)):=by
    conv=>lhs;unfold qG6
    rw [if_neg (fun h=>hl h.1)]
   have e2:rsL level r (o::qCo.drop (i+1))=rsL level r (qCo.drop (i+1)):=by
    conv=>lhs;unfold rsL
    rw [if_neg hl]
   rw [e,e2]
   rw [qX (v':=(level,11,((i+1:Nat):Int),opR,BR s,pos s r,false,m,rows)) (by
    refine qD g1 (qD g2 (qA hR2 (qA hc (qA (h1 o hin) (qM (beq_eq_false_iff_ne.2 hl) ?_)))))
    rw [qB,w5])]
   exact qbF hs level R hR m rows h1 h2 k (i+1) r M (by omega) (by omega) hr h3
theorem qhu {level:Int} (h:1≤level∧level≤4) (r:List UInt8):rsL level r qCo=tb r:=by
 have c:level=1∨level=2∨level=3∨level=4:=by omega
 rcases c with rfl|rfl|rfl|rfl<;>simp [rsL,qCo,lvl,qDS]
theorem qhv {s:List UInt8} (hs:s.length≤1000) {level:Int} (hl:1≤level∧level≤4) (q:PS) (hb:q.2.1=false) (h:q.1<:+s):Ev (qF7 · level (BR s) (pos s q.1) q.2.1 q.2.2.length (q.2.2.map qV)) (qDT s (sOp level q)):=by
 obtain ⟨n1,h1⟩:=qDn (F:=fun o n=>qCG n o) (f:=lvl) qCo (fun o _=>qUS o)
 obtain ⟨n2,h2⟩:=qDn (F:=fun o n=>qCq n o) (f:=qAM) qCo (fun o ho=>qWU o (qgz o ho))
 obtain ⟨n3,h3⟩:=qDn (F:=fun o n=>q8 n (qAM o) (BR s) (pos s q.1) q.2.1 q.2.2.length (q.2.2.map qV)) (f:=fun o=>((sIs (qAM o).toList q).1,qDy s (sIs (qAM o).toList q).2)) qCo (fun o ho=>by
  have:=qPr hs (qAM o).toList (by rw [qAW];have:=(qfE o ho).2;omega) q h
  rwa [qUU] at this)
 obtain ⟨n4,h4⟩:=qDn (F:=fun o n=>q8 n (qAM o) (BR s) (pos s (tb q.1)) q.2.1 q.2.2.length (q.2.2.map qV)) (f:=fun o=>((sIs (qAM o).toList (tb q.1,q.2)).1,qDy s (sIs (qAM o).toList (tb q.1,q.2)).2)) qCo (fun o ho=>by
  have:=qPr hs (qAM o).toList (by rw [qAW];have:=(qfE o ho).2;omega) (tb q.1,q.2) (qfz h)
  rwa [qUU] at this)
 refine ⟨n1+n2+n3+n4+13,fun n hn=>?_⟩
 obtain ⟨k,rfl,hm⟩:=up1 hn
 have lp:=qbF hs (n:=k) level (tb q.1) (qDS q.1) q.2.2.length (q.2.2.map qV) (h1 k (by omega)) (h2 k (by omega)) 11 0 q.1 k (by omega) (by omega) rfl (fun r' _ hr' o ho=>by
  rcases hr' with rfl|rfl
  ·have:=h3 k (by omega) o ho
   rw [hb] at this
   refine this.trans ?_
   unfold sIs
   rw [if_neg (by rw [hb];simp)]
   by_cases hp:(qAM o).toList.isPrefixOf (tb q.1)=true
   ·rw [if_pos hp,if_pos hp,qAW];simp only [qDy,hb]
   ·rw [if_neg hp,if_neg hp];simp only [qDy,hb]
  ·have:=h4 k (by omega) o ho
   rw [hb] at this
   refine this.trans ?_
   unfold sIs
   rw [if_neg (by rw [hb];simp)]
   simp only [qDS]
   by_cases hp:(qAM o).toList.isPrefixOf (tb q.1)=true
   ·rw [if_pos hp,if_pos hp,qAW];simp only [qDy,hb]
   ·rw [if_neg hp,if_neg hp];simp only [qDy,hb])
 rw [List.drop_zero,qhu hl] at lp
 unfold sOp
 rw [if_neg (by rw [hb];simp)]
 show qF7 (k+1) level (BR s) (pos s q.1) q.2.1 q.2.2.length (q.2.2.map qV)=_
 rw [hb]
 by_cases h0:qG6 level (tb q.1) qCo=0
 ·rw [if_pos h0] at lp
  rw [if_pos h0]
  refine qA lp ?_
  simp only [qDT,qDy,hb,h0]
  rfl
 ·rw [if_neg h0] at lp
  rw [if_neg h0]
  refine qA lp ?_
  simp only [qDT,qDy,hb]
  rfl
theorem qdr {s:List UInt8} (hs:s.length≤1000) {n:Nat} (r:List UInt8) (hr:r<:+s) (b:Bool) (l:List Nd)
  (h1:∀i,1≤i∧i≤5→qBO n i=some (qd i)) (h2:∀i,1≤i∧i≤5→qC2 n i=some (4,i,em))
  (h4:∀i,1≤i∧i≤5→qm n 1 0 4 i em 0 0 false false 0 0 false false [] (BR s) (pos s (r.drop ((qd i).size-1))) b l.length (l.map qV)=some (qDT s (qHo (nd1 (4,i,em)) (r.drop ((qd i).size-1),b,l)))):
  ∀(k:Nat) (i:Int) (M:Nat),1≤i→i+k=6→k+1≤M→zL (qCH n) M (i,BR s,pos s r,b,l.length,l.map qV)=some (match qfU r i k with
   |some e=> .inl (qDT s (qHo (nd1 (4,e,em)) (r.drop ((qd e).size-1),b,l)))
   |none=> .inr (BR s,pos s r,b,l.length,l.map qV))
 |k,i,0,_,_,h=>by omega
 |0,i,M+1,hi,hk,h=>by
  exact qN (qM (decide_eq_false (show ¬i≤5 by omega)) rfl)
 |k+1,i,M+1,hi,hk,h=>by
  have hi5:1≤i∧i≤5:=⟨hi,by omega⟩
  have hsz:1≤(qd i).size∧(qd i).size≤7:=by
   have c:i=1∨i=2∨i=3∨i=4∨i=5:=by omega
   rcases c with rfl|rfl|rfl|rfl|rfl<;>decide+kernel
  have hx:(qd i).extract ((1:Int)).toNat (((qd i).size:Nat):Int).toNat=BR (qd i).toList.tail:=by
   conv=>lhs;rw [←qUU (qd i)]
   rw [qNG,qY,qAW]
   congr 1
   rw [Int.toNat_natCast,List.take_of_length_le (by rw [qAW];omega)]
   exact List.drop_one
  have hxs:((qd i).extract ((1:Int)).toNat (((qd i).size:Nat):Int).toNat).size=(qd i).size-1:=by
   rw [hx,qY,List.length_tail,qAW]
  have hl:=qFP hr
  have w1:IntKind.i64.wrap (pos s r+(((qd i).extract ((1:Int)).toNat (((qd i).size:Nat):Int).toNat).size:Int))=pos s r+(((qd i).size-1:Nat):Int):=by
   rw [hxs];exact qa (by unfold pos;omega)
  have w2:IntKind.i64.wrap (i+1)=i+1:=qa (by omega)
  have ih:=qdr hs r hr b l h1 h2 h4 k (i+1) M (by omega) (by omega) (by omega)
  unfold qfU
  by_cases hf:pos s r+(((qd i).size-1:Nat):Int)≤(s.length:Int)
  ·have hk2:(qd i).size-1≤r.length:=by unfold pos at hf;omega
   have cmp:(((BR s).extract (pos s r).toNat (IntKind.i64.wrap (pos s r+(((qd i).extract ((1:Int)).toNat (((qd i).size:Nat):Int).toNat).size:Int))).toNat).toList==((qd i).extract ((1:Int)).toNat (((qd i).size:Nat):Int).toNat).toList)=true↔(qd i).toList.tail.isPrefixOf r=true:=by
    rw [w1,qcc hr,hx,qAN,qAN,beq_iff_eq,List.isPrefixOf_iff_prefix,List.prefix_iff_eq_take,List.length_tail,qAW]
    exact ⟨fun e=>e.symm,fun e=>e.symm⟩
   have g1:decide (IntKind.i64.wrap (pos s r+(((qd i).extract ((1:Int)).toNat (((qd i).size:Nat):Int).toNat).size:Int))≤((BR s).size:Int))=true:=decide_eq_true (by rw [w1,qY];exact hf)
   have g2:decide (0≤pos s r∧pos s r≤IntKind.i64.wrap (pos s r+(((qd i).extract ((1:Int)).toNat (((qd i).size:Nat):Int).toNat).size:Int))∧IntKind.i64.wrap (pos s r+(((qd i).extract ((1:Int)).toNat (((qd i).size:Nat):Int).toNat).size:Int))≤((BR s).size:Int))=true:=decide_eq_true (by rw [w1,qY];exact ⟨qYM _ _,by omega,hf⟩)
   by_cases hp:(qd i).toList.tail.isPrefixOf r=true
   ·rw [if_pos hp]
    have h4:=h4 i hi5
    rw [←qWj hr rfl hk2,←w1] at h4
    exact qN (qD (decide_eq_true (show i≤5 by omega)) (qA (h1 i hi5) (qD (decide_eq_true ⟨by decide,by omega,Int.le_refl _⟩) (qD g1 (qD g2 (qD (cmp.2 hp) (qA (h2 i hi5) (qA h4 rfl))))))))
   ·rw [if_neg hp]
    rw [qX (v':=(i+1,BR s,pos s r,b,l.length,l.map qV)) (by
     refine qD (decide_eq_true (show i≤5 by omega)) (qA (h1 i hi5) (qD (decide_eq_true ⟨by decide,by omega,Int.le_refl _⟩) (qD g1 (qD g2 (qM (by rw [Bool.eq_false_iff];exact fun e=>hp (cmp.1 e)) ?_)))))
     rw [qB,w2])]
    exact ih
  ·have hp:¬(qd i).toList.tail.isPrefixOf r=true:=by
    intro e
    have:=(List.isPrefixOf_iff_prefix.1 e).length_le
    rw [List.length_tail,qAW] at this
    unfold pos at hf
    omega
   rw [if_neg hp]
   rw [qX (v':=(i+1,BR s,pos s r,b,l.length,l.map qV)) (by
    refine qD (decide_eq_true (show i≤5 by omega)) (qA (h1 i hi5) (qD (decide_eq_true ⟨by decide,by omega,Int.le_refl _⟩) (qM (decide_eq_false (by rw [w1,qY];exact hf)) ?_)))
    rw [qB,w2])]
   exact ih
theorem qhV {s:List UInt8} (hs:s.length≤1000) (r:List UInt8) (hr:r<:+s) (b:Bool) (l:List Nd) (hl:l.length≤5000):∃n0,∀n,n0≤n→∀M,n0≤M→zL (qCH n) M (1,BR s,pos s r,b,l.length,l.map qV)=some (match qfU r 1 5 with
   |some e=> .inl (qDT s (qHo (nd1 (4,e,em)) (r.drop ((qd e).size-1),b,l)))
   |none=> .inr (BR s,pos s r,b,l.length,l.map qV)):=by
 obtain ⟨n1,h1⟩:=qOM (F:=qBO) (f:=qd) (lo:=1) (by decide) (fun i hi=>qPk i ⟨by omega,hi.2⟩)
 obtain ⟨n2,h2⟩:=qOM (F:=qC2) (f:=fun i=>(4,i,em)) (lo:=1) (by decide) (fun i _=>qcW i)
 obtain ⟨n4,h4⟩:=qOM (F:=fun n i=>qm n 1 0 4 i em 0 0 false false 0 0 false false [] (BR s) (pos s (r.drop ((qd i).size-1))) b l.length (l.map qV)) (f:=fun i=>qDT s (qHo (nd1 (4,i,em)) (r.drop ((qd i).size-1),b,l))) (lo:=1) (by decide) (fun i _=>qWa (s:=s) (nd1 (4,i,em)) (r.drop ((qd i).size-1),b,l) hl ⟨by simp [kd,nd1],by simp [nd1,em];decide⟩)
 exact ⟨n1+n2+n4+7,fun n hn M hM=>qdr hs r hr b l (h1 n (by omega)) (h2 n (by omega)) (h4 n (by omega)) 5 1 M (by omega) (by omega) (by omega)⟩
theorem qhW:∃n0,∀n,n0≤n→∀i,1≤i∧i≤10→qCp n i=some (fnS i):=by
 obtain ⟨n1,h1⟩:=qDn (F:=fun (i:Nat) n=>qCp n ((i:Int)+1)) (f:=fun i=>fnS ((i:Int)+1)) (List.range 10) (fun i hi=>qaE _ (by have:=List.mem_range.1 hi;omega))
 refine ⟨n1,fun n hn i hi=>?_⟩
 have:=h1 n hn (i-1).toNat (List.mem_range.2 (by omega))
 rwa [show (((i-1).toNat:Nat):Int)+1=i by omega] at this
theorem qhw {i j:Int} (hi:1≤i∧i≤10) (hj:1≤j∧j≤10) (h:(fnS i).toList=(fnS j).toList):i=j:=by
 have t:∀a:Fin 10,∀b:Fin 10,(fnS (((a.val:Nat):Int)+1)).toList=(fnS (((b.val:Nat):Int)+1)).toList→a=b:=by decide+kernel
 have:=t ⟨(i-1).toNat,by omega⟩ ⟨(j-1).toNat,by omega⟩ (by
  simp only
  rw [show (((i-1).toNat:Nat):Int)+1=i by omega,show (((j-1).toNat:Nat):Int)+1=j by omega]
  exact h)
 have:=congrArg Fin.val this
 simp only at this
 omega
theorem qej {g:G_spec_l3Rd_row} {n:Nat} {s:List UInt8} (w:List UInt8) (q:PS) (h1:∀i,1≤i∧i≤10→qCp n i=some (fnS i)):
  ∀(k:Nat) (i:Int) (M:Nat),1≤i→i+k=11→k+1≤M→(∀j,i≤j∧j≤10→(fnS j).toList≠w)→zL (qC4 g n) M (BR w,i,qDy s q)=some (.inr (BR w,qDy s q))
 |k,i,0,_,_,h,_=>by omega
 |0,i,M+1,hi,hk,h,_=>qN (qM (decide_eq_false (show ¬i≤10 by omega)) rfl)
 |k+1,i,M+1,hi,hk,h,hn=>by
  have w1:IntKind.i64.wrap (i+1)=i+1:=qa (by omega)
  rw [qX (v':=(BR w,i+1,qDy s q)) (by
   refine qD (decide_eq_true (show i≤10 by omega)) (qA (h1 i ⟨hi,by omega⟩) (qM (by rw [beq_eq_false_iff_ne];show (fnS i).toList≠(BR w).toList;rw [qAN];exact hn i ⟨Int.le_refl _,by omega⟩) ?_))
   rw [qB,w1])]
  exact qej w q h1 k (i+1) M (by omega) (by omega) (by omega) (fun j hj=>hn j ⟨by omega,hj.2⟩)
theorem qWk {g:G_spec_l3Rd_row} {n:Nat} {s:List UInt8} (w:List UInt8) (q:PS) (res:Int→Int×PS) (h1:∀i,1≤i∧i≤10→qCp n i=some (fnS i))
  (h2:q8 n ⟨#[40]⟩ (BR s) (pos s q.1) q.2.1 q.2.2.length (q.2.2.map qV)=some ((sIs [40] q).1,qDy s (sIs [40] q).2)):
  ∀(k:Nat) (i:Int) (M:Nat),1≤i→i+k=11→k+1≤M→(∀op,qOO w i k=some op→(sIs [40] q).1=true→g.spec_l3Rd_call op (BR s) (pos s (sIs [40] q).2.1) (sIs [40] q).2.2.1 (sIs [40] q).2.2.2.length ((sIs [40] q).2.2.2.map qV)=some (qDT s (res op)))→
   zL (qC4 g n) M (BR w,i,qDy s q)=some (match qOO w i k with
   |some op=>if (sIs [40] q).1=true then .inl (qDT s (res op)) else .inr (BR w,qDy s (sIs [40] q).2)
   |none=> .inr (BR w,qDy s q))
 |k,i,0,_,_,h,_=>by omega
 |0,i,M+1,hi,hk,h,_=>qN (qM (decide_eq_false (show ¬i≤10 by omega)) rfl)
 |k+1,i,M+1,hi,hk,h,hc=>by
  have w1:IntKind.i64.wrap (i+1)=i+1:=qa (by omega)
  unfold qOO at hc⊢
  by_cases hq:(fnS i).toList=w
  ·rw [if_pos hq] at hc⊢
   have hqb:((fnS i).toList==(BR w).toList)=true:=by rw [beq_iff_eq,qAN];exact hq
   simp only
   cases hi2:(sIs [40] q).1 with
   |true=>
    rw [if_pos rfl]
    exact qN (qD (decide_eq_true (show i≤10 by omega)) (qA (h1 i ⟨hi,by omega⟩) (qD hqb (qA h2 (qD hi2 (qA (hc i rfl hi2) rfl))))))
   |false=>
    rw [if_neg (by simp)]
    rw [qX (v':=(BR w,i+1,qDy s (sIs [40] q).2)) (by
     refine qD (decide_eq_true (show i≤10 by omega)) (qA (h1 i ⟨hi,by omega⟩) (qD hqb (qA h2 (qM hi2 ?_))))
     rw [qB,w1])]
    exact qej w _ h1 k (i+1) M (by omega) (by omega) (by omega) (fun j hj e=>by
     have:=qhw (i:=i) (j:=j) ⟨hi,by omega⟩ ⟨by omega,hj.2⟩ (hq.trans e.symm)
     omega)
  ·rw [if_neg hq] at hc⊢
   rw [qX (v':=(BR w,i+1,qDy s q)) (by
    refine qD (decide_eq_true (show i≤10 by omega)) (qA (h1 i ⟨hi,by omega⟩) (qM (by rw [beq_eq_false_iff_ne];show (fnS i).toList≠(BR w).toList;rw [qAN];exact hq) ?_))
    rw [qB,w1])]
   exact qWk w q res h1 h2 k (i+1) M (by omega) (by omega) (by omega) hc
structure Go (k:Nat) (q q':PS):Prop where
 suf:q'.1<:+q.1
 sum:q'.2.2.length+q'.1.length+k≤q.2.2.length+q.1.length
 sm:(∀x∈q.2.2,qeO x)→∀x∈q'.2.2,qeO x
theorem Go.refl (q:PS):Go 0 q q:=⟨List.suffix_rfl,Nat.le_refl _,id⟩
theorem Go.trans {a b:Nat} {p q r:PS} (h:Go a p q) (h':Go b q r):Go (a+b) p r:=⟨h'.suf.trans h.suf,by have:=h.sum;have:=h'.sum;omega,fun e=>h'.sm (h.sm e)⟩
theorem Go.tr0 {p q r:PS} (h:Go 0 p q) (h':Go 0 q r):Go 0 p r:=h.trans h'
theorem Go.add {p q:PS} {x:Nd} (h:Go 1 p q) (hx:qeO x):Go 0 p (qHo x q).2:=by
 refine ⟨h.suf,?_,fun e y hy=>?_⟩
 ·have:=h.sum
  simp only [qHo,List.length_append,List.length_singleton]
  omega
 ·simp only [qHo,List.mem_append,List.mem_singleton] at hy
  rcases hy with hy|rfl
  ·exact h.sm e y hy
  ·exact hx
theorem Go.weak {k:Nat} {p q:PS} (h:Go k p q):Go 0 p q:=⟨h.suf,by have:=h.sum;omega,h.sm⟩
theorem Go.of (q:PS) {r:List UInt8} (b:Bool) {k:Nat} (h:r<:+q.1) (hk:r.length+k≤q.1.length):Go k q (r,b,q.2.2):=⟨h,by simp only;omega,id⟩
theorem qaN (q:PS):Go 0 q (tb q.1,q.2):=⟨List.dropWhile_suffix _,by have:=qAC q.1;simp only;omega,id⟩
theorem qek (q:PS):Go 0 q (wr (tb q.1),q.2):=⟨(List.dropWhile_suffix _).trans (List.dropWhile_suffix _),by have:=qAC q.1;have:=qPo (tb q.1);simp only;omega,id⟩
theorem qg0 (q:PS) (h:wd (tb q.1)≠ []):Go 1 q (wr (tb q.1),q.2):=⟨(List.dropWhile_suffix _).trans (List.dropWhile_suffix _),by
 have:=qAC q.1
 have e:=congrArg List.length (wdr (tb q.1))
 have:=List.length_pos_iff.2 h
 simp only [List.length_append] at e
 simp only;omega,id⟩
theorem qYN {w:List UInt8} {q:PS} (h:(sIs w q).1=true):w<+:tb q.1∧(sIs w q).2=((tb q.1).drop w.length,q.2)∧q.2.1=false:=by
 unfold sIs at h⊢
 split at h
 ·cases h
 ·rename_i hb
  rw [if_neg hb]
  split at h
  ·rename_i hp
   rw [if_pos hp]
   exact ⟨List.isPrefixOf_iff_prefix.1 hp,rfl,by rw [Bool.eq_false_iff];exact hb⟩
  ·cases h
theorem qel {w:List UInt8} {q:PS} (h:(sIs w q).1=false):(sIs w q).2=(tb q.1,q.2):=by
 unfold sIs at h⊢
 split at h
 ·rename_i hb;rw [if_pos hb]
 ·rename_i hb
  rw [if_neg hb]
  split at h
  ·cases h
  ·rename_i hp;rw [if_neg hp]
theorem qWb (w:List UInt8) (q:PS):Go 0 q (sIs w q).2:=by
 cases h:(sIs w q).1 with
 |true=>
  obtain ⟨_,h2,_⟩:=qYN h
  rw [h2]
  exact Go.tr0 (qaN q) ⟨List.drop_suffix _ _,by simp,id⟩
 |false=>rw [qel h];exact qaN q
theorem qKe {w:List UInt8} (hw:w≠ []) {q:PS} (h:(sIs w q).1=true):Go 1 q (sIs w q).2:=by
 obtain ⟨h1,h2,_⟩:=qYN h
 rw [h2]
 have l1:=h1.length_le
 have l2:=List.length_pos_iff.2 hw
 have:=qAC q.1
 exact ⟨(List.drop_suffix _ _).trans (List.dropWhile_suffix _),by simp;omega,id⟩
theorem qds {k:Nat} {p q:PS} (h:Go k p q):Go k p (qYx q):=⟨h.suf,h.sum,h.sm⟩
theorem qg1:∀(t r:List UInt8),(tb r).length≤(tb (t++r)).length
 | [],r=>Nat.le_refl _
 |c::t,r=>by
  have ih:=qg1 t r
  have:=qAC (t++r)
  by_cases hc:c=32
  ·rw [show tb (c::t++r)=tb (t++r) by simp [tb,hc]];exact ih
  ·rw [show tb (c::t++r)=c::(t++r) by simp [tb,hc]]
   simp only [List.length_cons];omega
theorem Go.tb {k:Nat} {p q:PS} (h:Go k p q):(tb q.1).length≤(tb p.1).length:=by
 obtain ⟨t,ht⟩:=h.suf
 rw [←ht];exact qg1 t q.1
theorem qgK {w:List UInt8} (hw:w≠ []) {q:PS} (h:(sIs w q).1=true):(tb (sIs w q).2.1).length<(tb q.1).length:=by
 obtain ⟨h1,h2,_⟩:=qYN h
 rw [h2]
 exact qfC hw h1
theorem qgL (level:Int) (r:List UInt8):∀l:List Int,qG6 level r l≠0→qG6 level r l∈l∧(qAM (qG6 level r l)).toList<+:r
 | [],h=>absurd rfl h
 |o::l,h=>by
  unfold qG6 at h⊢
  split at h
  ·rename_i hc
   rw [if_pos hc]
   exact ⟨List.mem_cons_self ..,List.isPrefixOf_iff_prefix.1 hc.2⟩
  ·rename_i hc
   rw [if_neg hc]
   have:=qgL level r l h
   exact ⟨List.mem_cons_of_mem _ this.1,this.2⟩
theorem qha (level:Int) (q:PS):Go 0 q (sOp level q).2∧((sOp level q).1≠0→Go 1 q (sOp level q).2∧(tb (sOp level q).2.1).length<(tb q.1).length):=by
 unfold sOp
 split
 ·exact ⟨qaN q,fun h=>absurd rfl h⟩
 ·simp only
  by_cases h:qG6 level (tb q.1) qCo=0
  ·rw [if_pos h]
   exact ⟨qaN q,fun e=>absurd h e⟩
  ·rw [if_neg h]
   obtain ⟨h1,h2⟩:=qgL level (tb q.1) qCo h
   have ne:=(qfE _ h1).1
   have l1:=h2.length_le
   have l2:=List.length_pos_iff.2 ne
   rw [qAW] at l1 l2
   have l3:=qAC q.1
   have g:Go 1 q ((tb q.1).drop (qAM (qG6 level (tb q.1) qCo)).size,q.2):=⟨(List.drop_suffix _ _).trans (List.dropWhile_suffix _),by simp;omega,id⟩
   have t:=qfC ne h2
   rw [qAW] at t
   exact ⟨g.weak,fun _=>⟨g,t⟩⟩
theorem qbG:∀(k:Nat) (acc r:List UInt8) {w t:List UInt8},r.length≤k→qCc acc r=some (w,t)→t<:+r
 |k,acc,[],w,t,hk,h=>by simp [qCc] at h
 |0,acc,c::r,w,t,hk,h=>by simp at hk
 |k+1,acc,c::r,w,t,hk,h=>by
  simp only [List.length_cons] at hk
  by_cases hc:c=34
  ·subst hc
   by_cases hq:r.head?=some 34
   ·obtain ⟨u,rfl⟩:=qWi hq
    rw [qhm] at h
    simp only [List.length_cons] at hk
    have:=qbG k _ u (by omega) h
    exact this.trans ((List.suffix_cons 34 u).trans (List.suffix_cons 34 _))
   ·rw [qhn acc r hq] at h
    cases h
    exact List.suffix_cons 34 _
  ·rw [qho acc r hc] at h
   exact (qbG k _ r (by omega) h).trans (List.suffix_cons c _)
def Ks:SJ→PS→Prop
 | .call _ kids,q=>q.2.1=true∨kids.length+q.1.length≤1500
 |_,_=>True
theorem qTR {k op:Int} {kids:List Int} (h:kids.length≤2000):qeO (ndK k op kids):=⟨h,by simp [ndK,em];decide⟩
theorem qCC {k:Nat} {p q:PS} (h:Go k p q):q.1.length≤p.1.length:=h.suf.length_le
theorem qK1 (H:RdOK):∀(f:Nat) (j:SJ) (q:PS),q.1.length≤1000→Ks j q→Go 0 q (sP f j q).2
 |0,j,q,_,_=>Go.refl q
 |f+1,.row level,q,hr,_=>by
  unfold sP
  split
  ·exact Go.refl q
  ·split
   ·exact qK1 H f .one q hr trivial
   ·have a:=qK1 H f (.row (level+1)) q hr trivial
    exact a.tr0 (qK1 H f (.rl level _) _ (Nat.le_trans (qCC a) hr) trivial)
 |f+1,.rl level a,q,hr,_=>by
  unfold sP
  split
  ·exact Go.refl q
  ·simp only
   have o:=qha level q
   split
   ·exact o.1
   ·rename_i h0
    have o1:=(o.2 h0).1
    have b:=qK1 H f (.row (level+1)) (sOp level q).2 (Nat.le_trans (qCC o1) hr) trivial
    have c:=Go.add (x:=ndK 5 (sOp level q).1 [a,(sP f (.row (level+1)) (sOp level q).2).1]) (o1.trans b) (qTR (by simp))
    exact c.tr0 (qK1 H f (.rl level _) _ (Nat.le_trans (qCC c) hr) trivial)
 |f+1,.one,q,hr,_=>by
  unfold sP
  split
  ·rename_i h
   have a:=qKe (by simp) h
   have b:=qK1 H f (.row 5) (sIs [45] q).2 (Nat.le_trans (qCC a) hr) trivial
   exact Go.add (a.trans b) (qTR (by simp))
  ·have a:=qWb [45] q
   split
   ·rename_i h
    have c:=a.tr0 (qKe (by simp) h).weak
    have b:=qK1 H f (.row 1) (sIs [40] (sIs [45] q).2).2 (Nat.le_trans (qCC c) hr) trivial
    have d:=(c.tr0 b).tr0 (qWb [41] _)
    simp only
    split
    ·exact d
    ·exact qds d
   ·simp only
    have t:=qaN q
    split
    ·rename_i h
     have c:=qKe (by simp) h
     obtain ⟨_,e,_⟩:=qYN h
     split
     ·exact ⟨List.nil_suffix,by simp,id⟩
     ·rename_i w u hq
      have d:=qbG _ _ _ (Nat.le_refl _) hq
      have d2:=d.length_le
      have dz:=qPq _ _ _ (Nat.le_refl _) hq
      have g:=t.trans c
      have l:=qCC g
      have sg:=g.sum
      have eq:(sIs [34] (tb q.1,q.2)).2.2=q.2:=by rw [e]
      rw [eq] at sg
      simp only [List.length_nil] at dz
      exact Go.add (q:=(u,q.2)) ⟨d.trans g.suf,by simp only;omega,id⟩ ⟨by simp [kd,nd1],by simp only [nd1,qY];omega⟩
    ·split
     ·rename_i h
      have c:=qKe (by simp) h
      obtain ⟨_,e,_⟩:=qYN h
      have g:=t.trans c
      have l:=qCC g
      have sg:=g.sum
      have eq:(sIs [35] (tb q.1,q.2)).2.2=q.2:=by rw [e]
      rw [eq] at sg
      split
      ·exact Go.add (q:=(_,q.2)) ⟨(List.drop_suffix _ _).trans g.suf,by simp;omega,id⟩ ⟨by simp [kd,nd1],by simp [nd1,em];decide⟩
      ·exact ⟨g.suf,by simp only;omega,id⟩
     ·have w:=qek q
      split
      ·split
       ·have c:=w.tr0 (qWb [40] _)
        exact c.tr0 (qK1 H f (.call _ []) _ (Nat.le_trans (qCC c) hr) (.inr (by have:=qCC c;simp only [List.length_nil];omega)))
       ·exact qds (w.tr0 (qWb [40] _))
      ·split
       ·rename_i hv
        exact Go.add (qg0 q hv.2) ⟨by simp [kd,nd1],qWZ hv.1 (H.v _ (qfv _) hv.2 hv.1)⟩
       ·split
        ·rename_i hp
         exact Go.add (qg0 q (fun e=>by rw [e,H.p0] at hp;cases hp)) ⟨by simp [kd,ndC],by simp [ndC,em];decide⟩
        ·exact qds w
 |f+1,.call op kids,q,hr,hk=>by
  unfold sP
  split
  ·exact Go.refl q
  ·rename_i hb
   have hk:kids.length+q.1.length≤1500:=hk.elim (fun h=>absurd h hb) id
   have a:=qK1 H f .arg q hr trivial
   simp only
   split
   ·rename_i h
    exact Go.add (a.trans (qKe (by simp) h)) (qTR (by simp;omega))
   ·have c:=a.tr0 (qWb [41] _)
    split
    ·rename_i h
     have d:=c.trans (qKe (by simp) h)
     obtain ⟨e1,e2,_⟩:=qYN h
     have l:=e1.length_le
     have l2:=qCC c
     have l3:=qAC (sIs [41] (sP f .arg q).2).2.1
     simp only [List.length_cons,List.length_nil] at l
     exact d.weak.tr0 (qK1 H f (.call op _) _ (Nat.le_trans (qCC d) hr) (.inr (by rw [e2];simp;omega)))
    ·have d:=qds (c.tr0 (qWb [44] _))
     exact d.tr0 (qK1 H f (.call op _) _ (Nat.le_trans (qCC d) hr) (.inl rfl))
 |f+1,.arg,q,hr,_=>by
  unfold sP
  simp only
  have w:=qek q
  split
  ·rename_i h
   have c:=w.trans (qKe (by simp) h.2)
   have d:=c.trans (qek _)
   split
   ·exact Go.add d ⟨by simp [kd,ndA],by simp [ndA,em];decide⟩
   ·exact ⟨d.suf,by have:=d.sum;simp only at this⊢;omega,d.sm⟩
  ·have t:=qaN q
   exact t.tr0 (qK1 H f (.row 1) _ (Nat.le_trans (qCC t) hr) trivial)
def As (f:Nat):SJ→PS→Prop
 | .row level,q=>((20*(tb q.1).length+10:Nat):Int)-level≤f∧1≤level∧level≤5
 | .rl level _,q=>20*(tb q.1).length+5≤f∧1≤level∧level≤4
 | .one,q=>20*(tb q.1).length+4≤f∧q.2.1=false
 | .call _ _,q=>(q.2.1=true∧1≤f)∨20*(tb q.1).length+12≤f
 | .arg,q=>20*(tb q.1).length+10≤f
def Iv (s:List UInt8) (q:PS):Prop:=q.1<:+s∧q.2.2.length+q.1.length≤2000
theorem Iv.go {s:List UInt8} {k:Nat} {q q':PS} (h:Iv s q) (g:Go k q q'):Iv s q':=⟨g.suf.trans h.1,by have:=g.sum;have:=h.2;omega⟩
def Ws (s:List UInt8):SJ→PS→Int×PS→Prop
 | .row level,q,r=>Ev (qFT · level (BR s) (pos s q.1) q.2.1 q.2.2.length (q.2.2.map qV)) (qDT s r)
 | .rl level a,q,r=>∃x,(x= .inl (qDT s r)∨x= .inr (qDT s r))∧∃n0,∀n,n0≤n→∀M,n0≤M→zL (qEn (qO n) n) M (level,a,qDy s q)=some x
 | .one,q,r=>Ev (qTs · (BR s) (pos s q.1) q.2.1 q.2.2.length (q.2.2.map qV)) (qDT s r)
 | .call op kids,q,r=>∃x,(x= .inl (qDT s r)∨(x= .inr (qDy s r.2)∧r.1=0))∧∃n0,∀n,n0≤n→∀M,n0≤M→zL (qD4 (qO n) n) M (op,kids.length,kids.map qBI,qDy s q)=some x
 | .arg,q,r=>Ev (qTt · (BR s) (pos s q.1) q.2.1 q.2.2.length (q.2.2.map qV)) (qDT s r)
theorem srp (r:List UInt8) (h:r.length≤1000):Ev (qAj · (BR (wd r))) (qBC (BR (wd r))):=qaB _ (by rw [qY];have:=qfB r;omega)
theorem srv (r:List UInt8) (h:r.length≤1000):Ev (qAD · (BR (wd r))) (qh (BR (wd r))):=qQ2 _ (by rw [qY];have:=qfB r;omega)
theorem qiY {r:List UInt8} (h:wd r≠ []):(tb (wr r)).length<r.length:=by
 have e:=congrArg List.length (wdr r)
 have:=List.length_pos_iff.2 h
 have:=qAC (wr r)
 simp only [List.length_append] at e
 omega
def qfF (n:Nat) (w:ByteArray) (c:ByteArray×Int×Bool×Nat×List (List PV)):Tr (Int×ByteArray×Int×Bool×Nat×List (List PV)):=
 (.opt (qAj n w) fun r=>(.ask (!r.2.2.2.2) (.done (0,c.1,c.2.1,true,c.2.2.2.1,c.2.2.2.2))
  (.opt (qm n 2 0 0 0 ⟨#[]⟩ r.1 r.2.1 r.2.2.1 r.2.2.2.1 0 0 false false [] c.1 c.2.1 c.2.2.1 c.2.2.2.1 c.2.2.2.2) fun t=> .done (t.1,t.2.1,t.2.2.1,t.2.2.2.1,t.2.2.2.2.1,t.2.2.2.2.2))))
def qhx (n:Nat) (w:ByteArray) (c:ByteArray×Int×Bool×Nat×List (List PV)):Tr (Int×ByteArray×Int×Bool×Nat×List (List PV)):=
 (.opt (qAD n w) fun r=>(.ask r.2.2.2
  (.ask (!(w.toList==(⟨#[]⟩:ByteArray).toList))
   (.opt (qm n 1 0 r.1 r.2.1 r.2.2.1 0 0 false false 0 0 false false [] c.1 c.2.1 c.2.2.1 c.2.2.2.1 c.2.2.2.2) fun t=> .done (t.1,t.2.1,t.2.2.1,t.2.2.2.1,t.2.2.2.2.1,t.2.2.2.2.2))
   (qfF n w c))
  (qfF n w c)))
def qdt (w:List UInt8) (q3:PS):Int×PS:=
 if (qh (BR w)).2.2.2=true∧w≠ [] then qHo (nd1 ((qh (BR w)).1,(qh (BR w)).2.1,(qh (BR w)).2.2.1)) q3
 else if (qBC (BR w)).2.2.2.2=true then qHo (ndC (qBC (BR w))) q3
 else (0,qYx q3)
theorem qem (H:RdOK) {s:List UInt8} (r:List UInt8) (q:PS) (hr:r.length≤1000) (hn:q.2.2.length≤5000):∃n0,∀n,n0≤n→(qhx n (BR (wd r)) (qDy s q)).run=some (qDT s (qdt (wd r) q)):=by
 obtain ⟨n1,h1⟩:=srv r hr
 obtain ⟨n2,h2⟩:=srp r hr
 obtain ⟨n4,h4⟩:=qWa (s:=s) (ndC (qBC (BR (wd r)))) q hn ⟨by simp [kd,ndC],by simp [ndC,em];decide⟩
 have place:∃n0,∀n,n0≤n→(qfF n (BR (wd r)) (qDy s q)).run=some (qDT s (if (qBC (BR (wd r))).2.2.2.2=true then qHo (ndC (qBC (BR (wd r)))) q else (0,qYx q))):=by
  refine ⟨n2+n4,fun n hn=>?_⟩
  cases hp:(qBC (BR (wd r))).2.2.2.2 with
  |true=>rw [if_pos rfl];exact qA (h2 n (by omega)) (qM (qEY hp) (qA (h4 n (by omega)) rfl))
  |false=>rw [if_neg (by simp)];exact qA (h2 n (by omega)) (qD (qHp hp) rfl)
 obtain ⟨n5,h5⟩:=place
 by_cases hv:(qh (BR (wd r))).2.2.2=true∧wd r≠ []
 ·obtain ⟨n3,h3⟩:=qWa (s:=s) (nd1 ((qh (BR (wd r))).1,(qh (BR (wd r))).2.1,(qh (BR (wd r))).2.2.1)) q hn ⟨by simp [kd,nd1],qWZ hv.1 (H.v _ (qfv _) hv.2 hv.1)⟩
  refine ⟨n1+n3,fun n hn=>?_⟩
  unfold qdt
  rw [if_pos hv]
  exact qA (h1 n (by omega)) (qD hv.1 (qD (qHp (by rw [beq_eq_false_iff_ne,qAN,qAI];exact hv.2)) (qA (h3 n (by omega)) rfl)))
 ·refine ⟨n1+n5,fun n hn=>?_⟩
  unfold qdt
  rw [if_neg hv]
  refine qA (h1 n (by omega)) ?_
  by_cases ho:(qh (BR (wd r))).2.2.2=true
  ·have e:wd r= []:=Classical.byContradiction fun e=>hv ⟨ho,e⟩
   exact qD ho (qM (qEY (by rw [beq_iff_eq,qAN,qAI];exact e)) (h5 n (by omega)))
  ·exact qM (by rw [Bool.eq_false_iff];exact ho) (h5 n (by omega))
theorem qLf (H:RdOK) {s:List UInt8} (hs:s.length≤1000):∀(f:Nat) (j:SJ) (q:PS),As f j q→Iv s q→Ks j q→Ws s j q (sP f j q)
 |0,j,q,ha,_,_=>by cases j<;>simp [As] at ha<;>omega
 |f+1,.row level,q,ha,hi,_=>by
  obtain ⟨ha,hl1,hl5⟩:=ha
  have hr:q.1.length≤1000:=Nat.le_trans (qFP hi.1) hs
  unfold sP
  by_cases hb:q.2.1=true
  ·rw [if_pos hb]
   refine ⟨1,fun n hn=>?_⟩
   obtain ⟨k,rfl,hm⟩:=up1 hn
   exact qD hb rfl
  ·have hb:q.2.1=false:=by rw [Bool.eq_false_iff];exact hb
   rw [if_neg (by rw [hb];simp)]
   by_cases h5:level=5
   ·rw [if_pos h5]
    obtain ⟨n1,h1⟩:=qLf H hs f .one q ⟨by omega,hb⟩ hi trivial
    refine ⟨n1+1,fun n hn=>?_⟩
    obtain ⟨k,rfl,hm⟩:=up1 hn
    exact qM hb (qD (beq_iff_eq.2 h5) (qA (h1 k (by omega)) rfl))
   ·rw [if_neg h5]
    have g:=qK1 H f (.row (level+1)) q hr trivial
    have gl:=g.tb
    obtain ⟨n1,h1⟩:=qLf H hs f (.row (level+1)) q ⟨by omega,by omega,by omega⟩ hi trivial
    generalize sP f (.row (level+1)) q=Q at g gl h1⊢
    obtain ⟨x,hx,n2,h2⟩:=qLf H hs f (.rl level Q.1) Q.2 ⟨by omega,by omega,by omega⟩ (hi.go g) trivial
    refine ⟨n1+n2+1,fun n hn=>?_⟩
    obtain ⟨k,rfl,hm⟩:=up1 hn
    have w1:IntKind.i64.wrap (level+1)=level+1:=qa (by omega)
    have h1:=h1 k (by omega)
    rw [←w1] at h1
    have h2:=h2 k (by omega) k (by omega)
    rcases hx with rfl|rfl
    ·exact qM hb (qM (beq_eq_false_iff_ne.2 h5) (qA h1 (qA h2 rfl)))
    ·exact qM hb (qM (beq_eq_false_iff_ne.2 h5) (qA h1 (qA h2 rfl)))
 |f+1,.rl level a,q,ha,hi,_=>by
  obtain ⟨ha,hl1,hl4⟩:=ha
  have hr:q.1.length≤1000:=Nat.le_trans (qFP hi.1) hs
  unfold sP
  by_cases hb:q.2.1=true
  ·rw [if_pos hb]
   refine ⟨.inr (qDT s (a,q)),.inr rfl,1,fun n hn M hM=>?_⟩
   obtain ⟨M,rfl,hM⟩:=up1 hM
   exact qN (qM (qEY hb) rfl)
  ·have hb:q.2.1=false:=by rw [Bool.eq_false_iff];exact hb
   rw [if_neg (by rw [hb];simp)]
   simp only
   obtain ⟨n1,h1⟩:=qhv hs (level:=level) ⟨hl1,hl4⟩ q hb hi.1
   have o:=qha level q
   generalize sOp level q=O at h1 o⊢
   by_cases h0:O.1=0
   ·rw [if_pos h0]
    refine ⟨.inl (qDT s (a,O.2)),.inl rfl,n1+1,fun n hn M hM=>?_⟩
    obtain ⟨M,rfl,hM⟩:=up1 hM
    exact qN (qD (qHp hb) (qA (h1 n (by omega)) (qD (beq_iff_eq.2 h0) rfl)))
   ·rw [if_neg h0]
    obtain ⟨o1,o2⟩:=o.2 h0
    have b:=qK1 H f (.row (level+1)) O.2 (Nat.le_trans (qCC o1) hr) trivial
    obtain ⟨n2,h2⟩:=qLf H hs f (.row (level+1)) O.2 ⟨by omega,by omega,by omega⟩ (hi.go o1) trivial
    have ib:=(hi.go o1).go b
    have tbb:=b.tb
    have c:=Go.add (x:=ndK 5 O.1 [a,(sP f (.row (level+1)) O.2).1]) (o1.trans b) (qTR (by simp))
    generalize sP f (.row (level+1)) O.2=Q at h2 b ib tbb c⊢
    obtain ⟨n3,h3⟩:=qWa (s:=s) (ndK 5 O.1 [a,Q.1]) Q.2 (by have:=ib.2;omega) (qTR (by simp))
    have rest:(qHo (ndK 5 O.1 [a,Q.1]) Q.2).2.1=Q.2.1:=rfl
    generalize qHo (ndK 5 O.1 [a,Q.1]) Q.2=C at h3 c rest⊢
    obtain ⟨x,hx,n4,h4⟩:=qLf H hs f (.rl level C.1) C.2 ⟨by rw [rest];omega,hl1,hl4⟩ (hi.go c) trivial
    refine ⟨x,hx,n1+n2+n3+n4+1,fun n hn M hM=>?_⟩
    obtain ⟨M,rfl,hM⟩:=up1 hM
    have w1:IntKind.i64.wrap (level+1)=level+1:=qa (by omega)
    have h2:=h2 n (by omega)
    rw [←w1] at h2
    rw [qX (v':=(level,C.1,qDy s C.2)) (by
     exact qD (qHp hb) (qA (h1 n (by omega)) (qM (beq_eq_false_iff_ne.2 h0) (qA h2 (qD rfl (qA (h3 n (by omega)) rfl))))))]
    exact h4 n (by omega) M (by omega)
 |f+1,.one,q,ha,hi,_=>by
  obtain ⟨ha,hb⟩:=ha
  have hr:q.1.length≤1000:=Nat.le_trans (qFP hi.1) hs
  unfold sP
  obtain ⟨n1,h1⟩:=qPr hs [45] (by simp) q hi.1
  cases c1:(sIs [45] q).1 with
  |true=>
   rw [if_pos rfl]
   have a:=qKe (by simp) c1
   have al:=qgK (by simp) c1
   have b:=qK1 H f (.row 5) (sIs [45] q).2 (Nat.le_trans (qCC a) hr) trivial
   obtain ⟨n2,h2⟩:=qLf H hs f (.row 5) (sIs [45] q).2 ⟨by omega,by omega,by omega⟩ (hi.go a) trivial
   have ib:=(hi.go a).go b
   simp only
   generalize sP f (.row 5) (sIs [45] q).2=Q at h2 ib⊢
   obtain ⟨n3,h3⟩:=qWa (s:=s) (ndK 4 0 [Q.1]) Q.2 (by have:=ib.2;omega) (qTR (by simp))
   refine ⟨n1+n2+n3+1,fun n hn=>?_⟩
   obtain ⟨k,rfl,hm⟩:=up1 hn
   exact qA (h1 k (by omega)) (qD c1 (qA (h2 k (by omega)) (qD rfl (qA (h3 k (by omega)) rfl))))
  |false=>
   rw [if_neg (by simp)]
   have a:=qWb [45] q
   obtain ⟨n2,h2⟩:=qPr hs [40] (by simp) (sIs [45] q).2 (hi.go a).1
   cases c2:(sIs [40] (sIs [45] q).2).1 with
   |true=>
    rw [if_pos rfl]
    have b:=qKe (by simp) c2
    have al:=qgK (by simp) c2
    have atb:=a.tb
    have g1:=a.trans b
    have b2:=qK1 H f (.row 1) (sIs [40] (sIs [45] q).2).2 (Nat.le_trans (qCC g1) hr) trivial
    obtain ⟨n3,h3⟩:=qLf H hs f (.row 1) (sIs [40] (sIs [45] q).2).2 ⟨by omega,by omega,by omega⟩ (hi.go g1) trivial
    have ib:=(hi.go g1).go b2
    simp only
    generalize sP f (.row 1) (sIs [40] (sIs [45] q).2).2=Q at h3 ib⊢
    obtain ⟨n4,h4⟩:=qPr hs [41] (by simp) Q.2 ib.1
    refine ⟨n1+n2+n3+n4+1,fun n hn=>?_⟩
    obtain ⟨k,rfl,hm⟩:=up1 hn
    refine qA (h1 k (by omega)) (qM c1 (qA (h2 k (by omega)) (qD c2 (qA (h3 k (by omega)) (qA (h4 k (by omega)) ?_)))))
    cases c3:(sIs [41] Q.2).1 with
    |true=>rw [if_pos rfl];exact qM rfl rfl
    |false=>rw [if_neg (by simp)];exact qD rfl rfl
   |false=>
    rw [if_neg (by simp)]
    have e2:(sIs [40] (sIs [45] q).2).2=(tb q.1,q.2):=by
     rw [qel c2,qel c1];simp only [qDS]
    rw [e2] at h2
    have t:=qaN q
    have it:=hi.go t
    obtain ⟨n3,h3⟩:=qPr hs [34] (by simp) (tb q.1,q.2) it.1
    simp only
    cases c3:(sIs [34] (tb q.1,q.2)).1 with
    |true=>
     rw [if_pos rfl]
     have b:=qKe (by simp) c3
     have ib:=it.go b
     have eq2:(sIs [34] (tb q.1,q.2)).2.2=q.2:=by obtain ⟨_,e,_⟩:=qYN c3;rw [e]
     obtain ⟨n4,h4⟩:=qgy hs (sIs [34] (tb q.1,q.2)).2 ib.1 (by have:=ib.2;omega)
     refine ⟨n1+n2+n3+n4+1,fun n hn=>?_⟩
     obtain ⟨k,rfl,hm⟩:=up1 hn
     refine qA (h1 k (by omega)) (qM c1 (qA (h2 k (by omega)) (qM c2 (qA (h3 k (by omega)) (qD c3 (qA (h4 k (by omega)) ?_))))))
     rw [qB,eq2]
     all_goals (cases qCc [] (sIs [34] (tb q.1,q.2)).2.1<;>rfl)
    |false=>
     rw [if_neg (by simp)]
     have e3:(sIs [34] (tb q.1,q.2)).2=(tb q.1,q.2):=by rw [qel c3];simp only [qDS]
     rw [e3] at h3
     obtain ⟨n4,h4⟩:=qPr hs [35] (by simp) (tb q.1,q.2) it.1
     cases c4:(sIs [35] (tb q.1,q.2)).1 with
     |true=>
      rw [if_pos rfl]
      have b:=qKe (by simp) c4
      have ib:=it.go b
      have eq2:(sIs [35] (tb q.1,q.2)).2.2=q.2:=by obtain ⟨_,e,_⟩:=qYN c4;rw [e]
      obtain ⟨n5,h5⟩:=qhV hs (sIs [35] (tb q.1,q.2)).2.1 ib.1 q.2.1 q.2.2 (by have:=hi.2;omega)
      have h4:=fun k hk=>h4 k hk
      refine ⟨n1+n2+n3+n4+n5+1,fun n hn=>?_⟩
      obtain ⟨k,rfl,hm⟩:=up1 hn
      have h4:=h4 k (by omega)
      have h5:=h5 k (by omega) k (by omega)
      have e4:qDy s (sIs [35] (tb q.1,q.2)).2=(BR s,pos s (sIs [35] (tb q.1,q.2)).2.1,q.2.1,q.2.2.length,q.2.2.map qV):=by unfold qDy;rw [eq2]
      rw [e4] at h4
      refine qA (h1 k (by omega)) (qM c1 (qA (h2 k (by omega)) (qM c2 (qA (h3 k (by omega)) (qM c3 (qA h4 (qD c4 (qA h5 ?_))))))))
      cases qfU (sIs [35] (tb q.1,q.2)).2.1 1 5<;>rfl
     |false=>
      rw [if_neg (by simp)]
      have e4:(sIs [35] (tb q.1,q.2)).2=(tb q.1,q.2):=by rw [qel c4];simp only [qDS]
      rw [e4] at h4
      obtain ⟨n5,h5⟩:=qdq hs (tb q.1,q.2) it.1
      have w:=qek q
      have iw:=hi.go w
      have htl:=qAC q.1
      obtain ⟨n6,h6⟩:=qPr hs [40] (by simp) (wr (tb q.1),q.2) iw.1
      obtain ⟨n7,h7⟩:=qhW
      obtain ⟨n9,h9⟩:=qem H (s:=s) (tb q.1) (wr (tb q.1),q.2) (by omega) (by have:=hi.2;simp only;omega)
      have gi:=qWb [40] (wr (tb q.1),q.2)
      cases hf:qOO (wd (tb q.1)) 1 10 with
      |none=>
       simp only
       refine ⟨n1+n2+n3+n4+n5+n6+n7+n9+12+1,fun n hn=>?_⟩
       obtain ⟨k,rfl,hm⟩:=up1 hn
       have lp:=qWk (g:=qO k) (s:=s) (wd (tb q.1)) (wr (tb q.1),q.2) (fun _=>(0,q)) (h7 k (by omega)) (h6 k (by omega)) 10 1 k (by omega) (by omega) (by omega) (fun op h=>by rw [hf] at h;cases h)
       rw [hf] at lp
       exact qA (h1 k (by omega)) (qM c1 (qA (h2 k (by omega)) (qM c2 (qA (h3 k (by omega)) (qM c3 (qA (h4 k (by omega)) (qM c4 (qA (h5 k (by omega)) (qA lp (h9 k (by omega)))))))))))
      |some op=>
       have wne:wd (tb q.1)≠ []:=fun e=>by rw [e,H.f0] at hf;cases hf
       have wlt:=qiY wne
       simp only
       cases c5:(sIs [40] (wr (tb q.1),q.2)).1 with
       |true=>
        rw [if_pos rfl]
        have il:=qgK (by simp) c5
        simp only at il
        obtain ⟨x,hx,n8,h8⟩:=qLf H hs f (.call op []) (sIs [40] (wr (tb q.1),q.2)).2 (.inr (by omega)) (iw.go gi) (.inr (by have:=qCC (w.tr0 gi);simp only [List.length_nil];omega))
        have hcall:Ev (qR9 · op (BR s) (pos s (sIs [40] (wr (tb q.1),q.2)).2.1) (sIs [40] (wr (tb q.1),q.2)).2.2.1 (sIs [40] (wr (tb q.1),q.2)).2.2.2.length ((sIs [40] (wr (tb q.1),q.2)).2.2.2.map qV)) (qDT s (sP f (.call op []) (sIs [40] (wr (tb q.1),q.2)).2)):=by
         refine ⟨n8+1,fun n hn=>?_⟩
         obtain ⟨k,rfl,hm⟩:=up1 hn
         have h8:=h8 k (by omega) k (by omega)
         rcases hx with rfl|⟨rfl,hz⟩
         ·exact qA h8 rfl
         ·refine qA h8 ?_
          show some ((0:Int),qDy s _)=some (_,qDy s _)
          rw [hz]
        obtain ⟨n10,h10⟩:=hcall
        refine ⟨n1+n2+n3+n4+n5+n6+n7+n10+12+1,fun n hn=>?_⟩
        obtain ⟨k,rfl,hm⟩:=up1 hn
        have lp:=qWk (g:=qO k) (s:=s) (wd (tb q.1)) (wr (tb q.1),q.2) (fun op=>sP f (.call op []) (sIs [40] (wr (tb q.1),q.2)).2) (h7 k (by omega)) (h6 k (by omega)) 10 1 k (by omega) (by omega) (by omega) (fun op' h _=>by rw [hf] at h;cases h;exact h10 k (by omega))
        rw [hf] at lp
        simp only at lp
        rw [if_pos c5] at lp
        exact qA (h1 k (by omega)) (qM c1 (qA (h2 k (by omega)) (qM c2 (qA (h3 k (by omega)) (qM c3 (qA (h4 k (by omega)) (qM c4 (qA (h5 k (by omega)) (qA lp rfl)))))))))
       |false=>
        rw [if_neg (by simp)]
        obtain ⟨v1,v2⟩:=H.f _ _ hf
        obtain ⟨n9,h9⟩:=qem H (s:=s) (tb q.1) (sIs [40] (wr (tb q.1),q.2)).2 (by omega) (by have:=(iw.go gi).2;omega)
        have er:qdt (wd (tb q.1)) (sIs [40] (wr (tb q.1),q.2)).2=(0,qYx (sIs [40] (wr (tb q.1),q.2)).2):=by
         unfold qdt
         rw [if_neg (fun h=>by rw [v1] at h;cases h.1),if_neg (by rw [v2];simp)]
        rw [er] at h9
        refine ⟨n1+n2+n3+n4+n5+n6+n7+n9+12+1,fun n hn=>?_⟩
        obtain ⟨k,rfl,hm⟩:=up1 hn
        have lp:=qWk (g:=qO k) (s:=s) (wd (tb q.1)) (wr (tb q.1),q.2) (fun _=>(0,q)) (h7 k (by omega)) (h6 k (by omega)) 10 1 k (by omega) (by omega) (by omega) (fun op' h h'=>by rw [c5] at h';cases h')
        rw [hf] at lp
        simp only at lp
        rw [if_neg (by rw [c5];simp)] at lp
        exact qA (h1 k (by omega)) (qM c1 (qA (h2 k (by omega)) (qM c2 (qA (h3 k (by omega)) (qM c3 (qA (h4 k (by omega)) (qM c4 (qA (h5 k (by omega)) (qA lp (h9 k (by omega)))))))))))
 |f+1,.call op kids,q,ha,hi,hk=>by
  have hr:q.1.length≤1000:=Nat.le_trans (qFP hi.1) hs
  unfold sP
  by_cases hb:q.2.1=true
  ·rw [if_pos hb]
   refine ⟨.inr (qDy s q),.inr ⟨rfl,rfl⟩,1,fun n hn M hM=>?_⟩
   obtain ⟨M,rfl,hM⟩:=up1 hM
   exact qN (qM (qEY hb) rfl)
  ·have hk:kids.length+q.1.length≤1500:=hk.elim (fun h=>absurd h hb) id
   have ha:20*(tb q.1).length+12≤f+1:=ha.elim (fun h=>absurd h.1 hb) id
   have hb:q.2.1=false:=by rw [Bool.eq_false_iff];exact hb
   rw [if_neg (by rw [hb];simp)]
   simp only
   have a:=qK1 H f .arg q hr trivial
   obtain ⟨n1,h1⟩:=qLf H hs f .arg q (by show 20*_+10≤f;omega) hi trivial
   generalize sP f .arg q=A at a h1⊢
   have ia:=hi.go a
   have ta:=a.tb
   have ra:=qCC a
   obtain ⟨n2,h2⟩:=qPr hs [41] (by simp) A.2 ia.1
   have kl:decide (kids.length=(kids.map qBI).length∧0<1∧0<8∧(kids.length+([[(PV.i .i64 A.1)]]:List (List PV)).length)*8≤140737488355328∧([[(PV.i .i64 A.1)]]:List (List PV)).all (fun e=>e.length==1)=true)=true:=decide_eq_true ⟨by simp,by decide,by decide,by simp;omega,rfl⟩
   have k1:(kids++ [A.1]).length=kids.length+1:=by simp
   have k2:(kids++ [A.1]).map qBI=kids.map qBI++ [[PV.i .i64 A.1]]:=by simp [qBI]
   cases c1:(sIs [41] A.2).1 with
   |true=>
    rw [if_pos rfl]
    have g:=a.trans (qKe (by simp) c1)
    obtain ⟨n3,h3⟩:=qWa (s:=s) (ndK 6 op (kids++ [A.1])) (sIs [41] A.2).2 (by have:=(hi.go g).2;omega) (qTR (by simp;omega))
    refine ⟨.inl (qDT s (qHo (ndK 6 op (kids++ [A.1])) (sIs [41] A.2).2)),.inl rfl,n1+n2+n3+1,fun n hn M hM=>?_⟩
    obtain ⟨M,rfl,hM⟩:=up1 hM
    have h3:_=some _:=h3 n (by omega)
    simp only [ndK,kd] at h3
    rw [k2] at h3
    exact qN (qD (qHp hb) (qA (h1 n (by omega)) (qD rfl (qD kl (qA (h2 n (by omega)) (qD c1 (qD (decide_eq_true (by simp)) (qA h3 rfl))))))))
   |false=>
    rw [if_neg (by simp)]
    have g:=a.tr0 (qWb [41] A.2)
    have gt:=(qWb [41] A.2).tb
    have i2:=hi.go g
    obtain ⟨n3,h3⟩:=qPr hs [44] (by simp) (sIs [41] A.2).2 i2.1
    cases c2:(sIs [44] (sIs [41] A.2).2).1 with
    |true=>
     rw [if_pos rfl]
     have b:=qKe (by simp) c2
     have bl:=qgK (by simp) c2
     have bs:=qCC (g.trans b)
     have b1:=b.sum
     have eq3:(sIs [44] (sIs [41] A.2).2).2.2=(sIs [41] A.2).2.2:=by obtain ⟨_,e,_⟩:=qYN c2;rw [e]
     rw [eq3] at b1
     have g0:=qCC g
     obtain ⟨x,hx,n4,h4⟩:=qLf H hs f (.call op (kids++ [A.1])) (sIs [44] (sIs [41] A.2).2).2 (.inr (by omega)) (i2.go b) (.inr (by rw [k1];omega))
     refine ⟨x,hx,n1+n2+n3+n4+1,fun n hn M hM=>?_⟩
     obtain ⟨M,rfl,hM⟩:=up1 hM
     have h4:=h4 n (by omega) M (by omega)
     rw [k1,k2] at h4
     rw [qX (v':=(op,kids.length+1,kids.map qBI++ [[PV.i .i64 A.1]],qDy s (sIs [44] (sIs [41] A.2).2).2)) (by
      exact qD (qHp hb) (qA (h1 n (by omega)) (qD rfl (qD kl (qA (h2 n (by omega)) (qM c1 (qA (h3 n (by omega)) (qM (qEY c2) rfl))))))))]
     exact h4
    |false=>
     rw [if_neg (by simp)]
     have b:=qWb [44] (sIs [41] A.2).2
     obtain ⟨x,hx,n4,h4⟩:=qLf H hs f (.call op (kids++ [A.1])) (qYx (sIs [44] (sIs [41] A.2).2).2) (.inl ⟨rfl,by omega⟩) (i2.go (qds b)) (.inl rfl)
     refine ⟨x,hx,n1+n2+n3+n4+1,fun n hn M hM=>?_⟩
     obtain ⟨M,rfl,hM⟩:=up1 hM
     have h4:=h4 n (by omega) M (by omega)
     rw [k1,k2] at h4
     rw [qX (v':=(op,kids.length+1,kids.map qBI++ [[PV.i .i64 A.1]],qDy s (qYx (sIs [44] (sIs [41] A.2).2).2))) (by
      exact qD (qHp hb) (qA (h1 n (by omega)) (qD rfl (qD kl (qA (h2 n (by omega)) (qM c1 (qA (h3 n (by omega)) (qD (qHp c2) rfl))))))))]
     exact h4
 |f+1,.arg,q,ha,hi,_=>by
  replace ha:20*(tb q.1).length+10≤f+1:=ha
  have hr:q.1.length≤1000:=Nat.le_trans (qFP hi.1) hs
  have htl:=qAC q.1
  unfold sP
  simp only
  have t:=qaN q
  have it:=hi.go t
  have w:=qek q
  have iw:=hi.go w
  obtain ⟨n1,h1⟩:=qfD hs q hi.1
  obtain ⟨n2,h2⟩:=qdq hs (tb q.1,q.2) it.1
  obtain ⟨n3,h3⟩:=srp (tb q.1) (by omega)
  obtain ⟨n4,h4⟩:=qPr hs [58] (by simp) (wr (tb q.1),q.2) iw.1
  have eq2:(sIs [58] (wr (tb q.1),q.2)).2.2=q.2:=by
   cases c:(sIs [58] (wr (tb q.1),q.2)).1 with
   |true=>obtain ⟨_,e,_⟩:=qYN c;rw [e]
   |false=>rw [qel c]
  by_cases hc:(qBC (BR (wd (tb q.1)))).2.2.2.2=true∧(sIs [58] (wr (tb q.1),q.2)).1=true
  ·rw [if_pos hc]
   have g:=w.trans (qKe (by simp) hc.2)
   have ig:=hi.go g
   have rg:=qCC g
   generalize sIs [58] (wr (tb q.1),q.2)=I at*
   have gt:=qaN I.2
   have gw:=qek I.2
   have il:=qAC I.2.1
   obtain ⟨n5,h5⟩:=qfD hs I.2 ig.1
   obtain ⟨n6,h6⟩:=qdq hs (tb I.2.1,I.2.2) (ig.go gt).1
   obtain ⟨n7,h7⟩:=srp (tb I.2.1) (by omega)
   cases hp:(qBC (BR (wd (tb I.2.1)))).2.2.2.2 with
   |true=>
    rw [if_pos rfl]
    obtain ⟨n8,h8⟩:=qWa (s:=s) (ndA (qBC (BR (wd (tb q.1)))) (qBC (BR (wd (tb I.2.1))))) (wr (tb I.2.1),I.2.2) (by have:=(ig.go gw).2;simp only at this⊢;omega) ⟨by simp [kd,ndA],by simp [ndA,em];decide⟩
    refine ⟨n1+n2+n3+n4+n5+n6+n7+n8+1,fun n hn=>?_⟩
    obtain ⟨k,rfl,hm⟩:=up1 hn
    exact qA (h1 k (by omega)) (qA (h2 k (by omega)) (qA (h3 k (by omega)) (qD hc.1 (qA (h4 k (by omega)) (qD hc.2 (qA (h5 k (by omega)) (qA (h6 k (by omega)) (qA (h7 k (by omega)) (qM (qEY hp) (qA (h8 k (by omega)) rfl))))))))))
   |false=>
    rw [if_neg (by simp)]
    refine ⟨n1+n2+n3+n4+n5+n6+n7+1,fun n hn=>?_⟩
    obtain ⟨k,rfl,hm⟩:=up1 hn
    exact qA (h1 k (by omega)) (qA (h2 k (by omega)) (qA (h3 k (by omega)) (qD hc.1 (qA (h4 k (by omega)) (qD hc.2 (qA (h5 k (by omega)) (qA (h6 k (by omega)) (qA (h7 k (by omega)) (qD (qHp hp) rfl)))))))))
  ·rw [if_neg hc]
   obtain ⟨n5,h5⟩:=qLf H hs f (.row 1) (tb q.1,q.2) ⟨by simp only [qDS];omega,by omega,by omega⟩ it trivial
   refine ⟨n1+n2+n3+n4+n5+1,fun n hn=>?_⟩
   obtain ⟨k,rfl,hm⟩:=up1 hn
   cases hp:(qBC (BR (wd (tb q.1)))).2.2.2.2 with
   |true=>
    have ht:(sIs [58] (wr (tb q.1),q.2)).1=false:=by rw [Bool.eq_false_iff];exact fun e=>hc ⟨hp,e⟩
    have h4:=h4 k (by omega)
    have e4:qDy s (sIs [58] (wr (tb q.1),q.2)).2=(BR s,pos s (sIs [58] (wr (tb q.1),q.2)).2.1,q.2.1,q.2.2.length,q.2.2.map qV):=by unfold qDy;rw [eq2]
    rw [e4] at h4
    exact qA (h1 k (by omega)) (qA (h2 k (by omega)) (qA (h3 k (by omega)) (qD hp (qA h4 (qM ht (qA (h5 k (by omega)) rfl))))))
   |false=>exact qA (h1 k (by omega)) (qA (h2 k (by omega)) (qA (h3 k (by omega)) (qM hp (qA (h5 k (by omega)) rfl))))
theorem qgY {w:List UInt8} (h:w.all wch=true) (hn:w≠ []):(qBT (BR w)).1=1∨(qBT (BR w)).1=3:=by
 cases w with
 |nil=>exact absurd rfl hn
 |cons c t=>
  simp only [List.all_cons,Bool.and_eq_true] at h
  have h39:¬(c::t).head?=some 39:=by
   intro e;simp at e;rw [e] at h;exact absurd h.1 (by decide)
  have h35:¬(c::t).head?=some 35:=by
   intro e;simp at e;rw [e] at h;exact absurd h.1 (by decide)
  unfold qBT
  rw [qAN,if_neg h39]
  split
  ·exact .inr rfl
  ·split
   ·exact .inr rfl
   ·exact .inl rfl
theorem qhy:RdOK where
 v:=fun w h hn ho=>by
  have c:=qgY h hn
  unfold qh at ho⊢
  split at ho
  ·rename_i hc;rw [if_pos hc];exact c
  ·cases ho
 v0:=by
  have:(qh (BR [])).1=0:=by
   have:(qh ⟨#[]⟩).1=0:=by decide+kernel
   exact this
  rw [this];decide
 p0:=by
  have:(qBC ⟨#[]⟩).2.2.2.2=false:=by decide+kernel
  exact this
 f:=fun w op h=>by
  have t:∀a:Fin 10,(qh (fnS (((a.val:Nat):Int)+1))).2.2.2=false∧(qBC (fnS (((a.val:Nat):Int)+1))).2.2.2.2=false:=by decide+kernel
  have e:∀(k:Nat) (i:Int),1≤i→i+k≤11→qOO w i k=some op→∃j:Int,1≤j∧j≤10∧(fnS j).toList=w:=by
   intro k
   induction k with
   |zero=>intro i _ _ h;cases h
   |succ k ih=>
    intro i h1 h2 h
    unfold qOO at h
    split at h
    ·rename_i hq;exact ⟨i,h1,by omega,hq⟩
    ·exact ih (i+1) (by omega) (by omega) h
  obtain ⟨j,j1,j2,rfl⟩:=e 10 1 (by omega) (by omega) h
  rw [qUU]
  have:=t ⟨(j-1).toNat,by omega⟩
  simp only at this
  rwa [show (((j-1).toNat:Nat):Int)+1=j by omega] at this
 f0:=by decide+kernel
 n:=fun n hn=>by
  have c:n=1∨n=2∨n=3∨n=4∨n=5:=by omega
  rcases c with rfl|rfl|rfl|rfl|rfl
  ·exact ⟨[68,73,86,33],by decide+kernel⟩
  ·exact ⟨[84,89,80,69,33],by decide+kernel⟩
  ·exact ⟨[82,69,70,33],by decide+kernel⟩
  ·exact ⟨[79,86,69,82,33],by decide+kernel⟩
  ·exact ⟨[67,89,67,76,69,33],by decide+kernel⟩
def qen (s:ByteArray):PS:=(pP 4050 (.bin 1 0) (s.toList,false,[])).2
def qBp (s:ByteArray):List Nd×Bool:=
 if qFO s 200=true∧(qen s).2.1=false∧tb (qen s).1= []∧qMo (qen s).2.2=true then ((qen s).2.2,true) else ([],false)
theorem qWl {s:ByteArray} (h:qFO s 200=true):s.toList.length≤200:=by
 unfold qFO at h
 simp only [Bool.and_eq_true,decide_eq_true_eq] at h
 rw [qAW];omega
theorem qf0 {s:ByteArray} (h:qFO s 200=true):Gd (s.toList,false,[]):=⟨by have:=qWl h;simp only;omega,by simp,fun x hx=>by cases hx⟩
theorem qWm {l:List Nd} (h:∀x∈l,qeO x):∀c∈l,(kd c).length≤140737488351232∧c.2.2.2.2.1.size≤140737488351232:=fun c hc=>by
 have:=h c hc
 exact ⟨by have:=this.1;omega,by have:=this.2;omega⟩
theorem qXl (s:ByteArray) (hb:s.size≤140737488351232):Ev (qFJ · s) ((qBp s).1.map qV,(qBp s).2):=by
 obtain ⟨n1,h1⟩:=qPh s 200 hb
 by_cases hp:qFO s 200=true
 ·have hl:=qWl hp
  have htb:=qAC s.toList
  have hg:=qf0 hp
  obtain ⟨n2,h2⟩:=qLe 4050 (.bin 1 0) (s.toList,false,[]) (by show 20*(tb s.toList).length+6≤4050;omega) ⟨by decide,by decide⟩ hg trivial
  have g:=(qK0 4050 (.bin 1 0) (s.toList,false,[]) hg trivial).1
  have e0:(pP 4050 (.bin 1 0) (s.toList,false,[])).2=qen s:=rfl
  rw [e0] at g
  generalize pP 4050 (.bin 1 0) (s.toList,false,[])=P at h2 e0
  rw [qUU] at h2
  unfold qBp
  rw [←e0] at g⊢
  obtain ⟨n3,h3⟩:=qQ5 P.2.1 P.2.2.2.length P.2.2.1 (P.2.2.2.map qV)
  obtain ⟨n4,h4⟩:=qQ4 P.2.2.2 (by have:=g.n;omega) (qWm g.s)
  refine ⟨n1+n2+n3+n4+1,fun n hn=>?_⟩
  obtain ⟨k,rfl,hm⟩:=up1 hn
  have h1:=h1 k (by omega)
  rw [hp] at h1
  refine qA h1 (qM rfl (qA (h2 k (by omega)) (qA (h3 k (by omega)) ?_)))
  by_cases hbad:P.2.2.1=true
  ·rw [if_neg (fun h=>by rw [hbad] at h;cases h.2.1)]
   exact qD hbad (qD rfl rfl)
  ·have hbad:P.2.2.1=false:=by rw [Bool.eq_false_iff];exact hbad
   refine qM hbad ?_
   by_cases hr:tb P.2.1= []
   ·refine qM (qEY (by rw [beq_iff_eq,qAI];show (BR (tb P.2.1)).toList= [];rw [qAN];exact hr)) (qD (decide_eq_true (by simp)) (qA (h4 k (by omega)) (qD (qE _) ?_)))
    cases ho:qMo P.2.2.2 with
    |true=>
     rw [if_pos ⟨hp,hbad,hr,rfl⟩]
     exact qM rfl (qD (decide_eq_true (by simp)) rfl)
    |false=>
     rw [if_neg (fun h=>by cases h.2.2.2)]
     exact qD rfl (qD rfl rfl)
   ·rw [if_neg (fun h=>hr h.2.2.1)]
    exact qD (qHp (by rw [beq_eq_false_iff_ne,qAI];show (BR (tb P.2.1)).toList≠ [];rw [qAN];exact hr)) (qD rfl rfl)
 ·refine ⟨n1+1,fun n hn=>?_⟩
  obtain ⟨k,rfl,hm⟩:=up1 hn
  unfold qBp
  rw [if_neg (fun h=>hp h.1)]
  exact qA (h1 k (by omega)) (qD (qHp (by rw [Bool.eq_false_iff];exact hp)) (qD rfl rfl))
theorem qgZ {l:List Nd} (h:∃x∈l,qNz x=false):qMo l=false:=by
 obtain ⟨x,hx,hb⟩:=h
 rw [Bool.eq_false_iff]
 intro ho
 unfold qMo at ho
 simp only [Bool.and_eq_true] at ho
 obtain ⟨i,hi⟩:=List.mem_iff_getElem?.1 hx
 have hil:=(List.getElem?_eq_some_iff.1 hi).1
 have:=(qMn.1 ho.2.1 (i:Int) (by omega) (by omega)).1
 unfold qON at this
 have e:ndi l (i:Int)=x:=by unfold ndi;simp [hi]
 rw [e,hb] at this
 cases this
theorem qXm (s:ByteArray) (hb:s.size≤140737488351232):Ev (qEq · s) ((qBp s).1.map qV,(qBp s).2):=by
 obtain ⟨n1,h1⟩:=qND s hb
 by_cases hp:qFO s 200=true
 ·have hl:=qWl hp
  have hs:s.toList.length≤1000:=by omega
  have htb:=qAC s.toList
  have hg:=qf0 hp
  have gi:=(qK0 4050 (.bin 1 0) (s.toList,false,[]) hg trivial).1
  have sim:=(qhR qhy (tb s.toList).length).2.2.1 (s.toList,false,[]) (s.toList,false,[]) 0 4 4050 4050 (by omega) ⟨rfl,rfl,rfl,rfl⟩ rfl (by omega) (by omega) (by omega) (by omega)
  rw [show (5:Int)-((4:Nat):Int)=1 from rfl] at sim
  have iv:Iv s.toList (s.toList,false,[]):=⟨List.suffix_rfl,by simp;omega⟩
  obtain ⟨n2,h2⟩:=qLf qhy hs 4050 (.row 1) (s.toList,false,[]) ⟨by simp only;omega,by omega,by omega⟩ iv trivial
  have g:=qK1 qhy 4050 (.row 1) (s.toList,false,[]) hs trivial
  have e0:(pP 4050 (.bin 1 0) (s.toList,false,[])).2=qen s:=rfl
  generalize pP 4050 (.bin 1 0) (s.toList,false,[])=P at sim e0 gi
  generalize sP 4050 (.row 1) (s.toList,false,[])=Q at sim h2 g
  unfold qBp
  rw [←e0]
  obtain ⟨n3,h3⟩:=qfD hs Q.2 (iv.go g).1
  obtain ⟨n4,h4⟩:=qQ3 Q.2.2.2 (qWm (g.sm (fun x hx=>by cases hx)))
  have p0:pos s.toList s.toList=0:=by unfold pos;simp
  simp only [qUU,p0] at h2 h3
  have g2:=(qfz (iv.go g).1)
  refine ⟨n1+n2+n3+n4+1,fun n hn=>?_⟩
  obtain ⟨k,rfl,hm⟩:=up1 hn
  have h1:=h1 k (by omega)
  rw [hp] at h1
  have h2:=h2 k (by omega)
  have h3:=h3 k (by omega)
  have e1:qDT s.toList Q=(Q.1,s,pos s.toList Q.2.1,Q.2.2.1,Q.2.2.2.length,Q.2.2.2.map qV):=by unfold qDT qDy;rw [qUU]
  have e2:qDy s.toList (tb Q.2.1,Q.2.2)=(s,pos s.toList (tb Q.2.1),Q.2.2.1,Q.2.2.2.length,Q.2.2.2.map qV):=by unfold qDy;rw [qUU]
  rw [e1] at h2
  rw [e2] at h3
  refine qA h1 (qM rfl (qA h2 (qA h3 ?_)))
  rcases sim with ⟨_,hk,_⟩|⟨hbad,hd⟩
  ·obtain ⟨k1,k2,k3,k4⟩:=hk
   rw [k1,k3,k4]
   refine qM k2 ?_
   by_cases hr:tb Q.2.1= []
   ·refine qM (decide_eq_false (show ¬pos s.toList (tb Q.2.1)<(s.size:Int) by rw [hr];unfold pos;simp [qAW])) (qD (decide_eq_true (by simp)) (qA (h4 k (by omega)) (qD (qE _) ?_)))
    cases ho:qMo Q.2.2.2 with
    |true=>
     rw [if_pos ⟨hp,rfl,hr,rfl⟩]
     exact qM rfl (qD (decide_eq_true (by simp)) rfl)
    |false=>
     rw [if_neg (fun h=>by cases h.2.2.2)]
     exact qD rfl (qD rfl rfl)
   ·rw [if_neg (fun h=>hr h.2.2.1)]
    have hlp:=List.length_pos_iff.2 hr
    have hsl:=qFP g2
    exact qD (decide_eq_true (show pos s.toList (tb Q.2.1)<(s.size:Int) by rw [qAW] at hsl;unfold pos;rw [qAW];omega)) (qD rfl rfl)
  ·rw [if_neg (fun h=>by
    rcases hd with hd|hd
    ·rw [hd] at h;cases h.2.1
    ·rw [qgZ hd] at h;cases h.2.2.2)]
   exact qD hbad (qD rfl rfl)
 ·refine ⟨n1+1,fun n hn=>?_⟩
  obtain ⟨k,rfl,hm⟩:=up1 hn
  unfold qBp
  rw [if_neg (fun h=>hp h.1)]
  exact qA (h1 k (by omega)) (qD (qHp (by rw [Bool.eq_false_iff];exact hp)) (qD rfl rfl))
theorem qaO (s:ByteArray):(qBp s).1.length≤60∧∀x∈(qBp s).1,qeO x:=by
 unfold qBp
 split
 ·rename_i h
  have g:=(qK0 4050 (.bin 1 0) (s.toList,false,[]) (qf0 h.1) trivial).1
  exact ⟨g.n,g.s⟩
 ·exact ⟨by simp,fun x hx=>by cases hx⟩
theorem qdu:∀(l:List UInt8) (acc:Nat) {u:Nat},l.all qBH=true→Lib.parseUintM (2^64-1) acc l= .ok u→u=qAi acc l
 | [],acc,u,_,h=>by simp only [Lib.parseUintM] at h;cases h;rfl
 |c::r,acc,u,hd,h=>by
  simp only [List.all_cons,Bool.and_eq_true] at hd
  have hc:=hd.1
  simp only [qBH,Bool.and_eq_true,decide_eq_true_eq] at hc
  unfold Lib.parseUintM at h
  rw [qG5]
  rw [if_pos hc] at h
  by_cases h1:1844674407370955162≤acc
  ·rw [if_pos h1] at h;cases h
  ·rw [if_neg h1] at h
   by_cases h2:2^64-1<acc*10+(c.toNat-48)
   ·rw [if_pos h2] at h;cases h
   ·rw [if_neg h2] at h
    exact qdu r _ hd.2 h
theorem qf1 {p:UInt8→Bool}:∀l:List UInt8,(l.dropWhile p= [])↔l.all p=true
 | []=>by simp
 |c::r=>by
  rw [List.dropWhile_cons,List.all_cons]
  by_cases h:p c=true
  ·rw [if_pos h,h,Bool.true_and];exact qf1 r
  ·rw [if_neg h];simp [h]
theorem qgM {p:UInt8→Bool}:∀(l:List UInt8) {a:UInt8} {r:List UInt8},l.dropWhile p=a::r→p a=false
 | [],a,r,h=>by simp at h
 |c::l,a,r,h=>by
  rw [List.dropWhile_cons] at h
  by_cases hc:p c=true
  ·rw [if_pos hc] at h;exact qgM l h
  ·rw [if_neg hc] at h
   cases h
   rw [Bool.eq_false_iff];exact hc
theorem qg2:∀i:Fin 256,((⟨#[48,49,50,51,52,53,54,55,56,57]⟩:ByteArray).data.toList.contains (UInt8.ofNat i.val))=qBH (UInt8.ofNat i.val):=by decide+kernel
theorem qfg {p:UInt8→Bool} {t:List UInt8}:((t.reverse.dropWhile p).reverse.dropWhile p= [])↔t.all p=true:=by
 rw [qf1]
 constructor
 ·intro h
  cases hx:t.reverse.dropWhile p with
  |nil=>
   rw [qf1] at hx
   rw [List.all_eq_true] at hx⊢
   exact fun x hx'=>hx x (by simpa using hx')
  |cons a r=>
   rw [List.all_eq_true] at h
   have h1:=h a (by rw [hx];simp)
   rw [qgM _ hx] at h1
   cases h1
 ·intro h
  rw [List.all_eq_true] at h⊢
  intro x hx
  rw [List.mem_reverse] at hx
  exact h x (by simpa using (List.dropWhile_suffix p).subset hx)
def qPx (s:List UInt8):List UInt8:=if s.head?=some 45 then s.tail else s
def qWc (s:List UInt8):Int:=if s.head?=some 45 then-((qAi 0 (qPx s):Nat):Int) else ((qAi 0 (qPx s):Nat):Int)
def qeP (s:List UInt8):Bool:=decide (qPx s≠ [])&&(qPx s).all qBH
def qKf (s:List UInt8):Bool:=qeP s&&okV 1 (qWc s) em
theorem qg3 (s:List UInt8):(qPx s).length≤s.length:=by unfold qPx;split<;>simp
theorem qfh (s:List UInt8) (h:s.length≤1000):Ev (qFU · (BR s)) (qeP s):=by
 refine ⟨10,fun n hn=>?_⟩
 obtain ⟨k,rfl⟩:∃k,n=k+5:=⟨n-5,by omega⟩
 have tp:qDm (k+4) (BR s) ⟨#[45]⟩=some (BR (qPx s)):=by
  have hp:qo (k+2) (BR s) ⟨#[45]⟩=some (List.isPrefixOf [45] s):=by
   have:=qBo (k+1) s [45]
   simp only [qe,qCY,qB,qC,qF,qG,qH,qI,Option.bind_some,qE,qJ,qK] at this
   have e:∀o:Option Bool,(o.bind fun x=>some x)=o:=fun o=>by cases o<;>rfl
   rw [e] at this
   exact this
  have inner:qAv (k+3) (BR s) ⟨#[45]⟩=some (BR (qPx s)):=by
   by_cases hh:s.head?=some 45
   ·rw [(qKd 45 s).2 hh] at hp
    obtain ⟨t,rfl⟩:=qWi hh
    unfold qPx
    rw [if_pos hh]
    refine qA hp (qD rfl (qD (decide_eq_true ⟨by decide,by rw [qY];show (1:Int)≤_;simp;omega,Int.le_refl _⟩) ?_))
    rw [qB]
    show some ((BR (45::t)).extract 1 ((((BR (45::t)).size:Nat):Int)).toNat)=_
    rw [qNG,qY]
    simp
   ·have e:List.isPrefixOf [45] s=false:=by rw [Bool.eq_false_iff];exact fun e=>hh ((qKd 45 s).1 e)
    rw [e] at hp
    unfold qPx
    rw [if_neg hh]
    exact qA hp (qM rfl rfl)
  exact qA inner rfl
 have tl:=qg3 s
 unfold qeP
 generalize qPx s=t at tp tl⊢
 refine qA tp ?_
 by_cases ht:t= []
 ·subst ht
  refine qM (qEY (by rw [qAN,qAI];rfl)) ?_
  rfl
 ·refine qD (qHp (by rw [beq_eq_false_iff_ne,qAN,qAI];exact ht)) ?_
  have tr:qKV (k+4) (BR t) ⟨#[48,49,50,51,52,53,54,55,56,57]⟩=some (BR (((t.reverse.dropWhile qBH).reverse).dropWhile qBH)):=by
   show zAL (BR t) ⟨#[48,49,50,51,52,53,54,55,56,57]⟩=_
   unfold zAL
   rw [if_pos ⟨by rw [qY];omega,by decide,by decide+kernel⟩]
   unfold Lib.trimS Lib.trimLeftS Lib.trimRightS
   have:(fun c=>(⟨#[48,49,50,51,52,53,54,55,56,57]⟩:ByteArray).data.toList.contains c)=qBH:=funext (qfw qg2)
   rw [this,←Go.Lib.toList_data (BR t),qAN]
   rfl
  refine qA tr ?_
  rw [qB]
  congr 1
  have dt:decide (t≠ [])=true:=decide_eq_true ht
  rw [dt,Bool.true_and,qAN,qAI]
  by_cases ha:t.all qBH=true
  ·rw [qfg.2 ha,ha];rfl
  ·have hx:¬(t.reverse.dropWhile qBH).reverse.dropWhile qBH= []:=fun e=>ha (qfg.1 e)
   rw [beq_eq_false_iff_ne.2 hx,Bool.eq_false_iff.2 ha]
theorem qhz {n:Int}:okV 1 n em=true↔-1000000000000000≤n∧n≤1000000000000000:=by
 simp [okV,em,qAI]
theorem qbH {s:List UInt8} (h:qeP s=true):(∀n,Lib.parseIntB 64 s= .ok n→n=qWc s)∧(qKf s=true→Lib.parseIntB 64 s= .ok (qWc s)):=by
 have hd:=h
 unfold qeP at hd
 simp only [Bool.and_eq_true,decide_eq_true_eq] at hd
 obtain ⟨h1,h2⟩:=hd
 have p:(2:Nat)^(64-1)=9223372036854775808:=by decide
 have hne:s≠ []:=fun e=>h1 (by rw [e];rfl)
 obtain ⟨c,r,rfl⟩:∃c r,s=c::r:=by
  cases s with
  |nil=>exact absurd rfl hne
  |cons c r=>exact ⟨c,r,rfl⟩
 have c45:(c.toNat=45)↔c=45:=⟨fun e=>UInt8.toNat_inj.1 (show c.toNat=(45:UInt8).toNat from e),fun e=>by rw [e];rfl⟩
 have nt:qPx (c::r)=if c.toNat=43∨c.toNat=45 then r else c::r:=by
  unfold qPx
  by_cases hc:c=45
  ·subst hc;simp
  ·have hc2:¬c.toNat=45:=fun e=>hc (c45.1 e)
   have ht:qPx (c::r)=c::r:=by unfold qPx;rw [if_neg (by simpa using hc)]
   rw [ht] at h2
   simp only [List.all_cons,Bool.and_eq_true,qBH,decide_eq_true_eq] at h2
   rw [if_neg (by simpa using hc),if_neg (by omega)]
 have nv:qWc (c::r)=if c.toNat=45 then-((qAi 0 (qPx (c::r)):Nat):Int) else ((qAi 0 (qPx (c::r)):Nat):Int):=by
  unfold qWc
  by_cases hc:c=45
  ·subst hc;rfl
  ·rw [if_neg (by simpa using hc),if_neg (fun e=>hc (c45.1 e))]
 unfold Lib.parseIntB
 simp only
 rw [←nt]
 unfold Lib.parseUintB
 rw [if_neg h1]
 constructor
 ·intro n hn
  rcases hq : Lib.parseUintM (2^64-1) 0 (qPx (c::r)) with u | _ | _
  rotate_left
  · rw [hq] at hn;cases hn
  · rw [hq] at hn;cases hn
  ·have hu:=qdu _ 0 h2 hq
   rw [hq] at hn
   simp only at hn
   split at hn
   ·cases hn
   ·split at hn
    ·cases hn
    ·injection hn with hn
     rw [nv,←hu,←hn]
 ·intro ho
  unfold qKf at ho
  simp only [Bool.and_eq_true] at ho
  have hb:=qhz.1 ho.2
  have hv:qAi 0 (qPx (c::r))≤1000000000000000:=by
   rw [nv] at hb
   split at hb<;>omega
  rw [qa3 _ 0 h2 (by omega)]
  simp only
  rw [if_neg (by rw [p];omega),if_neg (by rw [p];omega),nv]
def szL:List UInt8→List UInt8
 | []=> []
 |c::t=>if t≠ []∧c=48 then szL t else c::t
theorem qcd:∀l:List UInt8,qAi 0 (szL l)=qAi 0 l
 | []=>rfl
 |c::t=>by
  unfold szL
  split
  ·rename_i h
   rw [qcd t,qG5,h.2]
   rfl
  ·rfl
theorem qfG:∀l:List UInt8,(szL l).all qBH=l.all qBH
 | []=>rfl
 |c::t=>by
  unfold szL
  split
  ·rename_i h
   rw [qfG t,List.all_cons,h.2]
   simp [qBH]
  ·rfl
theorem qhb:∀l:List UInt8,l≠ []→szL l≠ []
 | [],h=>absurd rfl h
 |c::t,_=>by
  unfold szL
  split
  ·rename_i h;exact qhb t h.1
  ·simp
theorem qfH:∀l:List UInt8,(szL l).head?=some 48→(szL l).length=1
 | [],h=>by cases h
 |c::t,h=>by
  unfold szL at h⊢
  split at h
  ·rename_i hc;rw [if_pos hc];exact qfH t h
  ·rename_i hc
   rw [if_neg hc]
   have h48:c=48:=by simpa using h
   have:t= []:=Classical.byContradiction fun e=>hc ⟨e,h48⟩
   rw [this];rfl
theorem qg4 {l:List UInt8} (h:l≠ []):qNy (szL l)=l.all qBH:=by
 unfold qNy
 rw [qfG]
 have h1:(szL l== [])=false:=beq_eq_false_iff_ne.2 (qhb l h)
 rw [h1]
 by_cases e:(szL l).head?=some 48
 ·rw [qfH l e];simp
 ·rw [beq_eq_false_iff_ne.2 e];simp
theorem qfi:∀(l:List UInt8) (acc:Nat),acc*10^l.length≤qAi acc l
 | [],acc=>by rw [qPj];simp
 |c::r,acc=>by
  have:=qfi r (acc*10+(c.toNat-48))
  rw [qG5,List.length_cons,Nat.pow_succ]
  refine Nat.le_trans ?_ this
  rw [show acc*(10^r.length*10)=acc*10*10^r.length by rw [Nat.mul_comm (10^r.length) 10,Nat.mul_assoc]]
  exact Nat.mul_le_mul_right _ (by omega)
theorem qh0 {l:List UInt8} (hd:l.all qBH=true) (h:16<(szL l).length):10000000000000000≤qAi 0 l:=by
 rw [←qcd]
 rw [←qfG] at hd
 have hh:=qfH l
 cases hz:szL l with
 |nil=>rw [hz] at h;simp at h
 |cons c r=>
  rw [hz] at h hd hh
  simp only [List.length_cons] at h
  have hc:¬c=48:=fun e=>by
   have:=hh (by rw [e];rfl)
   simp only [List.length_cons] at this
   omega
  simp only [List.all_cons,Bool.and_eq_true,qBH,decide_eq_true_eq] at hd
  have hc2:¬c.toNat=48:=fun e=>hc (UInt8.toNat_inj.1 (show c.toNat=(48:UInt8).toNat from e))
  rw [qG5]
  have a:=qfi r (0*10+(c.toNat-48))
  have p:10^16≤10^r.length:=Nat.pow_le_pow_right (by decide) (by omega)
  have p16:(10:Nat)^16=10000000000000000:=by decide
  have:1*10^r.length≤(0*10+(c.toNat-48))*10^r.length:=Nat.mul_le_mul_right _ (by omega)
  omega
theorem qaP (n:Nat) (neg:Bool) (a b:Int) (e:ByteArray):∀(l:List UInt8) (M:Nat),l.length≤1000→l.length+1≤M→zL (qBW n) M (BR l,neg,a,b,e)=some (BR (szL l),neg,a,b,e)
 |l,0,_,h=>by omega
 | [],M+1,_,_=>qN (qM (decide_eq_false (show ¬((BR []).size:Int)>1 by rw [qY];decide)) rfl)
 |c::t,M+1,hl,h=>by
  simp only [List.length_cons] at h hl
  unfold szL
  by_cases ht:t= []
  ·rw [if_neg (fun h=>h.1 ht)]
   subst ht
   exact qN (qM (decide_eq_false (show ¬((BR [c]).size:Int)>1 by rw [qY];simp)) rfl)
  ·have hpos:=List.length_pos_iff.2 ht
   have g0:decide (((BR (c::t)).size:Int)>1)=true:=decide_eq_true (by rw [qY];simp only [List.length_cons];omega)
   have g1:(BR (c::t)).toList[((0:Int)).toNat]?=some c:=by rw [qAN];rfl
   by_cases hc:c=48
   ·rw [if_pos ⟨ht,hc⟩]
    subst hc
    rw [qX (v':=(BR t,neg,a,b,e)) (by
     refine qD g0 (qD rfl (qA g1 (qD rfl (qD (decide_eq_true ⟨by decide,by rw [qY];simp only [List.length_cons];omega,Int.le_refl _⟩) ?_))))
     rw [qB]
     show some (Sum.inl ((BR (48::t)).extract 1 ((((BR (48::t)).size:Nat):Int)).toNat,neg,a,b,e))=_
     rw [qNG,qY]
     simp)]
    exact qaP n neg a b e t M (by omega) (by omega)
   ·rw [if_neg (fun h=>hc h.2)]
    refine qN (qD g0 (qD rfl (qA g1 (qM ?_ rfl))))
    rw [beq_eq_false_iff_ne]
    intro e
    exact hc (UInt8.toNat_inj.1 (show c.toNat=48 by omega))
theorem qh1 {l:List UInt8} (h:l≠ []):l1I (szL l) 16=if (szL l).length≤16∧l.all qBH=true then (((qAi 0 l:Nat):Int),true) else (0,false):=by
 unfold l1I
 rw [qg4 h,qcd]
 by_cases hh:(szL l).length≤16∧l.all qBH=true
 ·rw [if_pos hh,if_pos ⟨by have:=hh.1;omega,hh.2⟩]
 ·rw [if_neg hh,if_neg (fun e=>hh ⟨by have:=e.1;omega,e.2⟩)]
theorem qfj (neg:Bool) (t:List UInt8) (ht:t≠ []) (hl:t.length≤1000):∃r:Int×Int×ByteArray×Bool,(r.2.2.2=(t.all qBH&&okV 1 (if neg=true then-((qAi 0 t:Nat):Int) else ((qAi 0 t:Nat):Int)) em))∧(r.2.2.2=true→r=(1,(if neg=true then-((qAi 0 t:Nat):Int) else ((qAi 0 t:Nat):Int)),em,true))∧
  ∃n0,∀n,n0≤n→∃v:ByteArray×Bool×Int×Int×ByteArray,zL (qBW n) n (BR t,neg,0,0,⟨#[]⟩)=some v∧
   (Tr.opt (qn n v.1 16) fun r221=>(.ask (v.2.1)
    (.ask (r221.2) (.opt (qT n 1 (IntKind.i64.wrap (0-r221.1)) ⟨#[]⟩) fun r222=>(.done ((1:Int),(IntKind.i64.wrap (0-r221.1)),(⟨#[]⟩:ByteArray),r222))) (.done ((1:Int),(IntKind.i64.wrap (0-r221.1)),(⟨#[]⟩:ByteArray),false)))
    (.ask (r221.2) (.opt (qT n 1 r221.1 ⟨#[]⟩) fun r223=>(.done ((1:Int),r221.1,(⟨#[]⟩:ByteArray),r223))) (.done ((1:Int),r221.1,(⟨#[]⟩:ByteArray),false))))).run=some r:=by
 have hi:=qHn (BR (szL t)) 16 (by decide)
 rw [qAN,qh1 ht] at hi
 obtain ⟨n1,h1⟩:=hi
 by_cases hh:(szL t).length≤16∧t.all qBH=true
 ·have hv:qAi 0 t<10^(0+(szL t).length):=by
   have:=qe1 (szL t) 0 0 (by rw [qfG];exact hh.2) (by decide)
   rwa [qcd] at this
  have hp:10^(0+(szL t).length)≤10^16:=Nat.pow_le_pow_right (by decide) (by omega)
  have p16:(10:Nat)^16=10000000000000000:=by decide
  have w1:IntKind.i64.wrap (0-((qAi 0 t:Nat):Int))= -((qAi 0 t:Nat):Int):=by rw [qa (by omega)];omega
  cases neg with
  |true=>
   obtain ⟨n2,h2⟩:=qAE 1 (-((qAi 0 t:Nat):Int)) em (by decide)
   refine ⟨(1,-((qAi 0 t:Nat):Int),em,okV 1 (-((qAi 0 t:Nat):Int)) em),by rw [hh.2];simp,fun e=>?_,n1+n2+t.length+1,fun n hn=>⟨_,qaP n true 0 0 _ t n hl (by omega),?_⟩⟩
   ·simp only at e;rw [e];rfl
   ·have h1:=h1 n (by omega)
    rw [if_pos hh] at h1
    have h2:=h2 n (by omega)
    rw [←w1] at h2
    refine qA h1 (qD rfl (qD rfl (qA h2 ?_)))
    rw [qB,w1];rfl
  |false=>
   obtain ⟨n2,h2⟩:=qAE 1 ((qAi 0 t:Nat):Int) em (by decide)
   refine ⟨(1,((qAi 0 t:Nat):Int),em,okV 1 ((qAi 0 t:Nat):Int) em),by rw [hh.2];simp,fun e=>?_,n1+n2+t.length+1,fun n hn=>⟨_,qaP n false 0 0 _ t n hl (by omega),?_⟩⟩
   ·simp only at e;rw [e];rfl
   ·have h1:=h1 n (by omega)
    rw [if_pos hh] at h1
    exact qA h1 (qM rfl (qD rfl (qA (h2 n (by omega)) rfl)))
 ·have hno:(t.all qBH&&okV 1 (if neg=true then-((qAi 0 t:Nat):Int) else ((qAi 0 t:Nat):Int)) em)=false:=by
   rw [Bool.eq_false_iff]
   intro e
   simp only [Bool.and_eq_true] at e
   have hb:=qhz.1 e.2
   have:16<(szL t).length:=by
    have:¬(szL t).length≤16:=fun h=>hh ⟨h,e.1⟩
    omega
   have:=qh0 e.1 this
   split at hb<;>omega
  cases neg with
  |true=>
   refine ⟨(1,IntKind.i64.wrap (0-0),em,false),hno.symm,(fun e=>by cases e),n1+t.length+1,fun n hn=>⟨_,qaP n true 0 0 _ t n hl (by omega),?_⟩⟩
   have h1:=h1 n (by omega)
   rw [if_neg hh] at h1
   exact qA h1 (qD rfl (qM rfl rfl))
  |false=>
   refine ⟨(1,0,em,false),hno.symm,(fun e=>by cases e),n1+t.length+1,fun n hn=>⟨_,qaP n false 0 0 _ t n hl (by omega),?_⟩⟩
   have h1:=h1 n (by omega)
   rw [if_neg hh] at h1
   exact qA h1 (qM rfl (qM rfl rfl))
theorem qfk (s:List UInt8) (hs:s≠ []) (hl:s.length≤1000):∃r:Int×Int×ByteArray×Bool,r.2.2.2=qKf s∧(qKf s=true→r=(1,qWc s,em,true))∧Ev (qH7 · (BR s)) r:=by
 obtain ⟨c,t,rfl⟩:∃c t,s=c::t:=by
  cases s with
  |nil=>exact absurd rfl hs
  |cons c t=>exact ⟨c,t,rfl⟩
 simp only [List.length_cons] at hl
 have g0:decide (((BR (c::t)).size:Int)>0)=true:=decide_eq_true (by rw [qY];simp only [List.length_cons];omega)
 have g1:(BR (c::t)).toList[((0:Int)).toNat]?=some c:=by rw [qAN];rfl
 by_cases hc:c=45
 ·subst hc
  have ext:(BR (45::t)).extract ((1:Int)).toNat ((((BR (45::t)).size:Nat):Int)).toNat=BR t:=by rw [qNG,qY];simp
  have g2:decide (0≤(1:Int)∧(1:Int)≤((BR (45::t)).size:Int)∧((BR (45::t)).size:Int)≤((BR (45::t)).size:Int))=true:=decide_eq_true ⟨by decide,by rw [qY];simp only [List.length_cons];omega,Int.le_refl _⟩
  have nt:qPx (45::t)=t:=rfl
  have nv:qWc (45::t)= -((qAi 0 t:Nat):Int):=rfl
  by_cases ht:t= []
  ·subst ht
   refine ⟨(0,0,⟨#[]⟩,false),by decide+kernel,(fun e=>by revert e;decide+kernel),1,fun n hn=>?_⟩
   obtain ⟨k,rfl,hm⟩:=up1 hn
   exact qD g0 (qD rfl (qA g1 (qD rfl (qD g2 (qD (by rw [ext,qAN,qAI];rfl) rfl)))))
  ·obtain ⟨r,r1,r2,n0,h0⟩:=qfj true t ht (by omega)
   have e:qKf (45::t)=(t.all qBH&&okV 1 (-((qAi 0 t:Nat):Int)) em):=by
    unfold qKf qeP
    rw [nt,nv,decide_eq_true ht,Bool.true_and]
   rw [if_pos rfl] at r1 r2
   refine ⟨r,by rw [e];exact r1,fun h=>by rw [nv];exact r2 (by rw [r1,←e];exact h),n0+1,fun n hn=>?_⟩
   obtain ⟨k,rfl,hm⟩:=up1 hn
   obtain ⟨v,lp,fin⟩:=h0 k (by omega)
   rw [←ext] at lp
   exact qD g0 (qD rfl (qA g1 (qD rfl (qD g2 (qM (by rw [ext,beq_eq_false_iff_ne,qAN,qAI];exact ht) (qA lp fin))))))
 ·have c45:((c.toNat:Int)==45)=false:=by
   rw [beq_eq_false_iff_ne];intro e
   exact hc (UInt8.toNat_inj.1 (show c.toNat=45 by omega))
  have hh:¬(c::t).head?=some 45:=by simpa using hc
  have nt:qPx (c::t)=c::t:=by unfold qPx;rw [if_neg hh]
  have nv:qWc (c::t)=((qAi 0 (c::t):Nat):Int):=by unfold qWc;rw [if_neg hh,nt]
  obtain ⟨r,r1,r2,n0,h0⟩:=qfj false (c::t) (by simp) (by simp only [List.length_cons];omega)
  have e:qKf (c::t)=((c::t).all qBH&&okV 1 (((qAi 0 (c::t):Nat):Int)) em):=by
   unfold qKf qeP
   rw [nt,nv,decide_eq_true (by simp),Bool.true_and]
  rw [if_neg (by simp)] at r1 r2
  refine ⟨r,by rw [e];exact r1,fun h=>by rw [nv];exact r2 (by rw [r1,←e];exact h),n0+1,fun n hn=>?_⟩
  obtain ⟨k,rfl,hm⟩:=up1 hn
  obtain ⟨v,lp,fin⟩:=h0 k (by omega)
  rw [←c45] at lp
  exact qD g0 (qD rfl (qA g1 (qM c45 (qM (by rw [beq_eq_false_iff_ne,qAN,qAI];simp) (qA lp fin)))))
def qfI (s:ByteArray):ByteArray×Bool:=
 if qFO s 200=false then (⟨#[]⟩,false) else if s.toList= [] then (⟨#[]⟩,true) else
 if s.toList.head?=some 61 then (if (qBp (BR s.toList.tail)).2=true∧(qEX (qBp (BR s.toList.tail)).1).toList≠ []∧(qEX (qBp (BR s.toList.tail)).1).size<200 then (⟨#[61]⟩++qEX (qBp (BR s.toList.tail)).1,true) else (⟨#[]⟩,false)) else
 if qKf s.toList=true then (qPv (qWc s.toList),true) else
 if (qh s).2.2.2=true then (s,true) else
 if s.size=200 then (⟨#[]⟩,false) else (⟨#[39]⟩++s,true)
theorem qf2 (t:ByteArray):Ev (qBV · ((qBp t).1.map qV)) (qEX (qBp t).1):=qXj _ (by have:=(qaO t).1;omega) (qWm (qaO t).2)
theorem qf3 (t:ByteArray):Ev (qBZ · ((qBp t).1.map qV)) (qEX (qBp t).1):=qXk _ (by have:=(qaO t).1;omega) (qWm (qaO t).2)
theorem qdv (l:List Nd):(qEX l).size≤200:=by
 unfold qEX
 split
 ·split
  ·decide
  ·omega
 ·decide
theorem qSn {s:ByteArray} (h:s.toList≠ []):(s.toList==(⟨#[]⟩:ByteArray).toList)=false:=by rw [qAI];exact beq_eq_false_iff_ne.2 h
theorem qfl {s:ByteArray} (h:s.toList= []):(s.toList==(⟨#[]⟩:ByteArray).toList)=true:=by rw [qAI];exact beq_iff_eq.2 h
theorem qfm {s:ByteArray} (h:(qh s).2.2.2=true):okV (qh s).1 (qh s).2.1 (qh s).2.2.1=true∧(qCb (qh s).1 (qh s).2.1 (qh s).2.2.1)=s:=by
 unfold qh at h⊢
 split at h
 ·rename_i hc
  rw [if_pos hc]
  exact ⟨hc.1,qKa hc.2⟩
 ·cases h
theorem qjw {s:ByteArray} (h:qFO s 200=true):okV 2 0 s=true:=by
 unfold okV
 rw [if_pos rfl,h]
 rfl
theorem qYy {s:ByteArray} (h:qFO s 200=true):s.size≤200:=by have:=qWl h;rw [qAW] at this;exact this
theorem qg5 (s:ByteArray):(qCb 2 0 s).size=s.size+1:=by
 have e:qCb 2 0 s=⟨#[39]⟩++s:=rfl
 rw [e,ByteArray.size_append]
 show 1+s.size=_
 omega
theorem qga {s:ByteArray} (h:(qh s).2.2.2=true):(qh s).2.2.1.size≤1000:=by
 obtain ⟨h1,h2⟩:=qfm h
 unfold okV at h1
 split at h1
 ·simp only [Bool.and_eq_true] at h1
  have:=qYy h1.2;omega
 ·simp only [Bool.and_eq_true,beq_iff_eq] at h1
  have:=congrArg List.length h1.1
  rw [qAW] at this
  simp only [List.length_nil] at this
  omega
theorem qca (s:ByteArray) (hb:s.size≤140737488351232):Ev (qJ0 · s) (qfI s):=by
 obtain ⟨n1,h1⟩:=qND s hb
 unfold qfI
 cases hp:qFO s 200 with
 |false=>
  rw [if_pos rfl]
  refine ⟨n1+1,fun n hn=>?_⟩
  obtain ⟨k,rfl,hm⟩:=up1 hn
  exact qA (h1 k (by omega)) (qD (qHp hp) rfl)
 |true=>
  rw [if_neg (by simp)]
  have hsz:=qYy hp
  by_cases h0:s.toList= []
  ·rw [if_pos h0]
   refine ⟨n1+1,fun n hn=>?_⟩
   obtain ⟨k,rfl,hm⟩:=up1 hn
   exact qA (h1 k (by omega)) (qM (qEY hp) (qD (qfl h0) rfl))
  ·rw [if_neg h0]
   obtain ⟨c,t,hct⟩:∃c t,s.toList=c::t:=by
    cases h:s.toList with
    |nil=>exact absurd h h0
    |cons c t=>exact ⟨c,t,rfl⟩
   have g1:s.toList[((0:Int)).toNat]?=some c:=by rw [hct];rfl
   have hl:s.size=t.length+1:=by rw [←qAW,hct];rfl
   by_cases h61:s.toList.head?=some 61
   ·rw [if_pos h61]
    have hc:c=61:=by rw [hct] at h61;simpa using h61
    subst hc
    have ext:s.extract ((1:Int)).toNat (((s.size:Nat):Int)).toNat=BR s.toList.tail:=by
     conv=>lhs;rw [←qUU s]
     rw [qNG,qY,hct]
     simp
    obtain ⟨n2,h2⟩:=qXm (BR s.toList.tail) (by rw [qY,hct];simp;omega)
    obtain ⟨n3,h3⟩:=qf2 (BR s.toList.tail)
    rw [←ext] at h2 h3⊢
    have fz:=qdv (qBp (s.extract ((1:Int)).toNat (((s.size:Nat):Int)).toNat)).1
    have w1:IntKind.i64.wrap (((qEX (qBp (s.extract ((1:Int)).toNat (((s.size:Nat):Int)).toNat)).1).size:Int)+1)=((qEX (qBp (s.extract ((1:Int)).toNat (((s.size:Nat):Int)).toNat)).1).size:Int)+1:=qa (by omega)
    refine ⟨n1+n2+n3+1,fun n hn=>?_⟩
    obtain ⟨k,rfl,hm⟩:=up1 hn
    refine qA (h1 k (by omega)) (qM (qEY hp) (qM (qSn h0) (qD rfl (qA g1 (qD rfl (qD (decide_eq_true ⟨by decide,by omega,Int.le_refl _⟩) (qA (h2 k (by omega)) (qA (h3 k (by omega)) ?_))))))))
    by_cases hr:(qBp (s.extract ((1:Int)).toNat (((s.size:Nat):Int)).toNat)).2=true
    ·refine qM (qEY hr) ?_
     by_cases he:(qEX (qBp (s.extract ((1:Int)).toNat (((s.size:Nat):Int)).toNat)).1).toList= []
     ·rw [if_neg (fun h=>h.2.1 he)]
      exact qD (qfl he) rfl
     ·refine qM (qSn he) ?_
      by_cases hz:(qEX (qBp (s.extract ((1:Int)).toNat (((s.size:Nat):Int)).toNat)).1).size<200
      ·rw [if_pos ⟨hr,he,hz⟩]
       exact qM (decide_eq_false (by rw [w1];omega)) (qD (decide_eq_true (by show 1+(qEX (qBp (s.extract ((1:Int)).toNat (((s.size:Nat):Int)).toNat)).1).size≤9223372036854775807;omega)) rfl)
      ·rw [if_neg (fun h=>hz h.2.2)]
       exact qD (decide_eq_true (by rw [w1];omega)) rfl
    ·rw [if_neg (fun h=>hr h.1)]
     exact qD (qHp (by rw [Bool.eq_false_iff];exact hr)) rfl
   ·rw [if_neg h61]
    have hc:((c.toNat:Int)==61)=false:=by
     rw [beq_eq_false_iff_ne];intro e
     refine h61 ?_
     rw [hct,show c=61 from UInt8.toNat_inj.1 (show c.toNat=61 by omega)];rfl
    obtain ⟨r,r1,r2,n2,h2⟩:=qfk s.toList h0 (by rw [qAW];omega)
    rw [qUU] at h2
    obtain ⟨n3,h3⟩:=qQ2 s (by omega)
    cases hn:qKf s.toList with
    |true=>
     rw [if_pos rfl]
     have er:=r2 hn
     subst er
     have hok:okV 1 (qWc s.toList) em=true:=by unfold qKf at hn;simp only [Bool.and_eq_true] at hn;exact hn.2
     obtain ⟨n4,h4⟩:=qFs 1 (qWc s.toList) em (by decide)
     rw [if_pos hok] at h4
     refine ⟨n1+n2+n4+1,fun n hn=>?_⟩
     obtain ⟨k,rfl,hm⟩:=up1 hn
     exact qA (h1 k (by omega)) (qM (qEY hp) (qM (qSn h0) (qD rfl (qA g1 (qM hc (qA (h2 k (by omega)) (qD rfl (qA (h4 k (by omega)) rfl))))))))
    |false=>
     rw [if_neg (by simp)]
     have rf:r.2.2.2=false:=by rw [r1];exact hn
     by_cases hv:(qh s).2.2.2=true
     ·rw [if_pos hv]
      obtain ⟨v1,v2⟩:=qfm hv
      obtain ⟨n4,h4⟩:=qFs (qh s).1 (qh s).2.1 (qh s).2.2.1 (by have:=qga hv;omega)
      rw [if_pos v1,v2] at h4
      refine ⟨n1+n2+n3+n4+1,fun n hn=>?_⟩
      obtain ⟨k,rfl,hm⟩:=up1 hn
      exact qA (h1 k (by omega)) (qM (qEY hp) (qM (qSn h0) (qD rfl (qA g1 (qM hc (qA (h2 k (by omega)) (qM rf (qA (h3 k (by omega)) (qM (qEY hv) (qA (h4 k (by omega)) (qM (decide_eq_false (by omega)) rfl)))))))))))
     ·rw [if_neg hv]
      obtain ⟨n4,h4⟩:=qFs 2 0 s hb
      rw [if_pos (qjw hp)] at h4
      have vz:=qg5 s
      refine ⟨n1+n2+n3+n4+1,fun n hn=>?_⟩
      obtain ⟨k,rfl,hm⟩:=up1 hn
      refine qA (h1 k (by omega)) (qM (qEY hp) (qM (qSn h0) (qD rfl (qA g1 (qM hc (qA (h2 k (by omega)) (qM rf (qA (h3 k (by omega)) (qD (qHp (by rw [Bool.eq_false_iff];exact hv)) (qA (h4 k (by omega)) ?_))))))))))
      by_cases hz:s.size=200
      ·rw [if_pos hz]
       exact qD (decide_eq_true (by omega)) rfl
      ·rw [if_neg hz]
       exact qM (decide_eq_false (by omega)) rfl
theorem qfn (X:ByteArray):Ev (qIA · ((qBp X).1.map qV)) (⟨#[61]⟩++qEX (qBp X).1,decide ((qEX (qBp X).1).toList≠ [])&&decide ((qEX (qBp X).1).size<200)):=by
 obtain ⟨n1,h1⟩:=qf3 X
 have fz:=qdv (qBp X).1
 refine ⟨n1+1,fun n hn=>?_⟩
 obtain ⟨k,rfl,hm⟩:=up1 hn
 refine qA (h1 k (by omega)) (qD (decide_eq_true (by show 1+(qEX (qBp X).1).size≤9223372036854775807;omega)) ?_)
 by_cases he:(qEX (qBp X).1).toList= []
 ·refine qM (qEY (qfl he)) ?_
  rw [qB,decide_eq_false (fun h=>h he),Bool.false_and]
 ·refine qD (qHp (qSn he)) ?_
  rw [qB,decide_eq_true he,Bool.true_and]
  have e:decide (((qEX (qBp X).1).size:Int)<200)=decide ((qEX (qBp X).1).size<200):=by rw [decide_eq_decide];omega
  exact congrArg (fun b:Bool=>some ((⟨#[61]⟩:ByteArray)++qEX (qBp X).1,b)) e
theorem qcb (s:ByteArray) (hb:s.size≤140737488351232):Ev (qKY · s) (qfI s):=by
 obtain ⟨n1,h1⟩:=qPh s 200 hb
 unfold qfI
 cases hp:qFO s 200 with
 |false=>
  rw [if_pos rfl]
  have h0:s.toList≠ []:=fun e=>by
   have:qFO s 200=true:=by
    unfold qFO
    have hz:s.size=0:=by rw [←qAW,e];rfl
    rw [e,hz];rfl
   rw [hp] at this;cases this
  refine ⟨n1+1,fun n hn=>?_⟩
  obtain ⟨k,rfl,hm⟩:=up1 hn
  refine qA (h1 k (by omega)) (qD (qHp hp) ?_)
  rw [qB,qSn h0]
 |true=>
  rw [if_neg (by simp)]
  have hsz:=qYy hp
  by_cases h0:s.toList= []
  ·rw [if_pos h0]
   refine ⟨n1+1,fun n hn=>?_⟩
   obtain ⟨k,rfl,hm⟩:=up1 hn
   refine qA (h1 k (by omega)) (qM (qEY hp) (qD (qfl h0) ?_))
   rw [qB,qfl h0]
  ·rw [if_neg h0]
   obtain ⟨n2,h2⟩:=qOL s 61
   by_cases h61:s.toList.head?=some 61
   ·rw [if_pos h61]
    rw [if_pos h61] at h2
    obtain ⟨n3,h3⟩:=qXl (BR s.toList.tail) (by rw [qY,List.length_tail,qAW];omega)
    obtain ⟨n4,h4⟩:=qfn (BR s.toList.tail)
    change ∀n,n2≤n→qr n s ⟨#[61]⟩=some (BR s.toList.tail,true) at h2
    generalize BR s.toList.tail=X at h2 h3 h4⊢
    refine ⟨n1+n2+n3+n4+1,fun n hn=>?_⟩
    obtain ⟨k,rfl,hm⟩:=up1 hn
    have h4:=h4 k (by omega)
    refine qA (h1 k (by omega)) (qM (qEY hp) (qM (qSn h0) (qA (h2 k (by omega)) (qD rfl (qA (h3 k (by omega)) (qA h4 ?_))))))
    by_cases hr:(qBp X).2=true
    ·refine qM (qEY hr) ?_
     by_cases he:(qEX (qBp X).1).toList≠ []∧(qEX (qBp X).1).size<200
     ·rw [if_pos ⟨hr,he⟩]
      exact qM (qEY (by simp only;rw [decide_eq_true he.1,decide_eq_true he.2];rfl)) rfl
     ·rw [if_neg (fun h=>he h.2)]
      exact qD (qHp (by simp only;rw [Bool.eq_false_iff];intro e;simp only [Bool.and_eq_true,decide_eq_true_eq] at e;exact he e)) rfl
    ·rw [if_neg (fun h=>hr h.1)]
     exact qD (qHp (by rw [Bool.eq_false_iff];exact hr)) rfl
   ·rw [if_neg h61]
    rw [if_neg h61] at h2
    obtain ⟨n3,h3⟩:=qQ1 s (by omega)
    obtain ⟨n4,h4⟩:=qfh s.toList (by rw [qAW];omega)
    rw [qUU] at h4
    have fin:∀k,n3≤k→(Tr.opt (qZ k s) fun r=>(.ask (r.2.2.2) (.done (s,true)) (.ask (((s.size:Int)==(200:Int))) (.done ((⟨#[]⟩:ByteArray),false)) (.ask (decide ((⟨#[39]⟩:ByteArray).size+s.size≤9223372036854775807)) (.done (((⟨#[39]⟩:ByteArray)++s),true)) .fail)))).run=some (if (qh s).2.2.2=true then (s,true) else if s.size=200 then ((⟨#[]⟩:ByteArray),false) else (⟨#[39]⟩++s,true)):=fun k hk=>by
     refine qA (h3 k hk) ?_
     by_cases hv:(qh s).2.2.2=true
     ·rw [if_pos hv];exact qD hv rfl
     ·rw [if_neg hv]
      refine qM (by rw [Bool.eq_false_iff];exact hv) ?_
      by_cases hz:s.size=200
      ·rw [if_pos hz];exact qD (beq_iff_eq.2 (by omega)) rfl
      ·rw [if_neg hz]
       exact qM (beq_eq_false_iff_ne.2 (by omega)) (qD (decide_eq_true (by show 1+s.size≤9223372036854775807;omega)) rfl)
    have hpi:∀k,qAl (k+1) s 10 64=zb s 10 64:=fun k=>rfl
    have hL:zb s 10 64=(match Lib.parseIntB 64 s.toList with
     | .ok v=>some (.inl v)
     | .range=>some (.inr (Lib.intSat 64 s.toList))
     | _ => some (.inr 0)):=by
     unfold zb
     rw [if_pos ⟨rfl,rfl,by omega⟩,Go.Lib.toList_data]
     cases Lib.parseIntB 64 s.data.toList<;>rfl
    rcases hq : Lib.parseIntB 64 s.toList with v | _ | _
    rotate_left
    ·have hn:qKf s.toList=false:=by
      rw [Bool.eq_false_iff];intro e
      have hd:qeP s.toList=true:=by unfold qKf at e;simp only [Bool.and_eq_true] at e;exact e.1
      have:=(qbH hd).2 e
      rw [hq] at this;cases this
     rw [hn,if_neg (by simp)]
     rw [hq] at hL
     refine ⟨n1+n2+n3+2,fun n hn=>?_⟩
     obtain ⟨k,rfl,hm⟩:=up1 hn
     obtain ⟨k,rfl,hm⟩:=up1 (show n1+n2+n3+1≤k by omega)
     exact qA (h1 (k+1) (by omega)) (qM (qEY hp) (qM (qSn h0) (qA (h2 (k+1) (by omega)) (qM rfl (qA ((hpi k).trans hL) (qM rfl (fin (k+1) (by omega))))))))
    ·have hn:qKf s.toList=false:=by
      rw [Bool.eq_false_iff];intro e
      have hd:qeP s.toList=true:=by unfold qKf at e;simp only [Bool.and_eq_true] at e;exact e.1
      have:=(qbH hd).2 e
      rw [hq] at this;cases this
     rw [hn,if_neg (by simp)]
     rw [hq] at hL
     refine ⟨n1+n2+n3+2,fun n hn=>?_⟩
     obtain ⟨k,rfl,hm⟩:=up1 hn
     obtain ⟨k,rfl,hm⟩:=up1 (show n1+n2+n3+1≤k by omega)
     exact qA (h1 (k+1) (by omega)) (qM (qEY hp) (qM (qSn h0) (qA (h2 (k+1) (by omega)) (qM rfl (qA ((hpi k).trans hL) (qM rfl (fin (k+1) (by omega))))))))
    ·rw [hq] at hL
     cases hd:qeP s.toList with
     |false=>
      have hn:qKf s.toList=false:=by unfold qKf;rw [hd];rfl
      rw [hn,if_neg (by simp)]
      refine ⟨n1+n2+n3+n4+2,fun n hn=>?_⟩
      obtain ⟨k,rfl,hm⟩:=up1 hn
      obtain ⟨k,rfl,hm⟩:=up1 (show n1+n2+n3+n4+1≤k by omega)
      have h4:=h4 (k+1) (by omega)
      rw [hd] at h4
      exact qA (h1 (k+1) (by omega)) (qM (qEY hp) (qM (qSn h0) (qA (h2 (k+1) (by omega)) (qM rfl (qA ((hpi k).trans hL) (qD rfl (qA h4 (qM rfl (fin (k+1) (by omega))))))))))
     |true=>
      have hv:=(qbH hd).1 v hq
      subst hv
      obtain ⟨n5,h5⟩:=qWO (qWc s.toList)
      obtain ⟨n6,h6⟩:=qNE 1 (qWc s.toList) em (by decide)
      have ei:qKf s.toList=okV 1 (qWc s.toList) em:=by unfold qKf;rw [hd,Bool.true_and]
      rw [ei]
      cases ho:okV 1 (qWc s.toList) em with
      |true=>
       rw [if_pos rfl]
       have hb2:=qhz.1 ho
       obtain ⟨n7,h7⟩:=qNF (qWc s.toList) (by omega)
       refine ⟨n1+n2+n3+n4+n5+n6+n7+2,fun n hn=>?_⟩
       obtain ⟨k,rfl,hm⟩:=up1 hn
       obtain ⟨k,rfl,hm⟩:=up1 (show n1+n2+n3+n4+n5+n6+n7+1≤k by omega)
       have h4:=h4 (k+1) (by omega)
       rw [hd] at h4
       exact qA (h1 (k+1) (by omega)) (qM (qEY hp) (qM (qSn h0) (qA (h2 (k+1) (by omega)) (qM rfl (qA ((hpi k).trans hL) (qD rfl (qA h4 (qD rfl (qA (h5 (k+1) (by omega)) (qA (h6 (k+1) (by omega)) (qD ho (qA (h7 (k+1) (by omega)) rfl))))))))))))
      |false=>
       rw [if_neg (by simp)]
       refine ⟨n1+n2+n3+n4+n5+n6+2,fun n hn=>?_⟩
       obtain ⟨k,rfl,hm⟩:=up1 hn
       obtain ⟨k,rfl,hm⟩:=up1 (show n1+n2+n3+n4+n5+n6+1≤k by omega)
       have h4:=h4 (k+1) (by omega)
       rw [hd] at h4
       exact qA (h1 (k+1) (by omega)) (qM (qEY hp) (qM (qSn h0) (qA (h2 (k+1) (by omega)) (qM rfl (qA ((hpi k).trans hL) (qD rfl (qA h4 (qD rfl (qA (h5 (k+1) (by omega)) (qA (h6 (k+1) (by omega)) (qM ho (fin (k+1) (by omega)))))))))))))
theorem law (s:ByteArray) (hb:s.size≤140737488351232):Ev (qDM · s) true:=by
 by_cases h:(s.size:Int)>1048576
 ·refine ⟨1,fun n hn=>?_⟩
  obtain ⟨m,rfl,hm⟩:=up1 hn
  simp only [qDM,qDL,qB,qC,qF,qG,qH,qI,Option.bind_some,qE,qJ,qK]
  simp [h]
 ·obtain ⟨n1,h1⟩:=qca s hb
  obtain ⟨n2,h2⟩:=qcb s hb
  refine ⟨n1+n2+1,fun n hn=>?_⟩
  obtain ⟨m,rfl,hm⟩:=up1 hn
  have h1:=h1 m (by omega)
  dsimp only at h1
  have h2:=h2 m (by omega)
  dsimp only at h2
  simp only [qDM,qDL,qB,qC,qF,qG,qH,qI,Option.bind_some,qE,qJ,qK,h1,h2]
  simp [h]
end Go.Proofs.YthhngmnbcmkhpaaGreatDoor.KFnExactInputOf

