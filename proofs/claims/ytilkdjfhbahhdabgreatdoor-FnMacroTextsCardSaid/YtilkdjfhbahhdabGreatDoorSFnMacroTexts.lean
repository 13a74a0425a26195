import Derived.Test.YtilkdjfhbahhdabGreatDoorTFnMacroTexts
import Derived.Test.YtilkdjfhbahhdabGreatDoorE32
import Derived.Lib.Strings
import Derived.Test.YtilkdjfhbahhdabGreatDoorSFnMacroTextsp1
namespace Go.Proofs.YtilkdjfhbahhdabGreatDoor.KFnMacroTexts
open Go.Eng
set_option linter.unusedVariables false
set_option linter.unusedSimpArgs false
theorem Kz:∀(f:Nat) (j:PJ) (p:PS),Gd p->Kj j p->Gd (pP f j p).2/\(pP f j p).2.1.length<=p.1.length
 |0,j,p,h,_=>⟨h,zH _⟩
 |f+1,.bin least deep,p,h,_=>by
  unfold pP;have a:=Kz f (.un deep) p h trivial;have b:=Kz f (.loop least deep (pP f (.un deep) p).1) (pP f (.un deep) p).2 a.1 trivial;exact ⟨b.1,zU b.2 a.2⟩
 |f+1,.loop least deep a,p,h,_=>by
  have h1:=EO p.1;unfold pP;split
  ·exact ⟨h,zH _⟩
  ·split
   ·exact ⟨Tk h h1,h1⟩
   ·have l1:((tb p.1).drop (sgn (tb p.1)).length).length<=p.1.length:=by simp;omega
    have b:=Kz f (.bin (lvl (Er (tb p.1))+1) deep) ((tb p.1).drop (sgn (tb p.1)).length,p.2) (Tk h l1) trivial;simp only;have c:=M5 (x:=ndK 5 (Er (tb p.1)) [a,(pP f (.bin (lvl (Er (tb p.1))+1) deep) ((tb p.1).drop (sgn (tb p.1)).length,p.2)).1]) b.1 ⟨by simp [kd,ndK],by simp [ndK,em];decide⟩;have d:=Kz f (.loop least deep (IN (ndK 5 (Er (tb p.1)) [a,(pP f (.bin (lvl (Er (tb p.1))+1) deep) ((tb p.1).drop (sgn (tb p.1)).length,p.2)).1]) (pP f (.bin (lvl (Er (tb p.1))+1) deep) ((tb p.1).drop (sgn (tb p.1)).length,p.2)).2).1) _ c trivial;refine ⟨d.1,zU d.2 ?_⟩;rw [FY];exact zU b.2 l1
 |f+1,.un deep,p,h,_=>by
  have h1:=EO p.1;have h2:=PE [45] p;unfold pP;split
  ·exact ⟨⟨h.r,h.n,h.s⟩,zH _⟩
  ·split
   ·simp only;have b:=Kz f (.un (deep+1)) (qp [45] p).2 (Hr h) trivial;refine ⟨M5 b.1 ⟨by simp [kd,ndK],by simp [ndK,em];decide⟩,?_⟩;rw [FY];exact zU b.2 (by omega)
   ·have b:=Kz f (.at deep) (qp [45] p).2 (Hr h) trivial;exact ⟨b.1,zU b.2 (by omega)⟩
 |f+1,.at deep,p,h,_=>by
  have h1:=EO p.1;have h2:=PE [40] p;have h3:=M4 (tb p.1);have h4:=h.r;have g2:Gd (wr (tb p.1),p.2):=Tk h (by omega);unfold pP;simp only;split
  ·split
   ·exact ⟨⟨by simp only;omega,h.n,h.s⟩,h1⟩
   ·rename_i hh _ s t hq;have a:=Q0 _ _ hq;have b:=M6 _ _ _ (zH _) hq;simp only [List.length_tail,zanD] at a b;refine ⟨M5 (Tk h (by omega)) ⟨by simp [kd,nd1],by simp only [nd1,qw];omega⟩,?_⟩;rw [FY];simp only;omega
  ·split
   ·refine ⟨M5 (Tk h (by simp;omega)) ⟨by simp [kd,nd1],by simp [nd1,em];decide⟩,?_⟩;rw [FY];simp;omega
   ·split
    ·have b:=Kz f (.bin 1 (deep+1)) (qp [40] p).2 (Hr h) trivial;have c:=Q2 (w:= [41]) b.1;exact ⟨c.1,zU c.2 (zU b.2 (by omega))⟩
    ·split
     ·rename_i hv;refine ⟨M5 g2 ⟨by simp [kd,nd1],Qr hv.1 hv.2⟩,?_⟩;rw [FY];simp only;omega
     ·split
      ·refine ⟨M5 g2 ⟨by simp [kd,ndC],by simp [ndC,em];decide⟩,?_⟩;rw [FY];simp only;omega
      ·split
       ·rename_i op _;have b:=Kz f (.call op deep) (wr (tb p.1),p.2) g2 trivial;exact ⟨b.1,zU b.2 (by simp only;omega)⟩
       ·exact ⟨⟨g2.r,g2.n,g2.s⟩,by show (wr (tb p.1)).length<=_;omega⟩
 |f+1,.call op deep,p,h,_=>by
  unfold pP;have a:=Q2 (w:= [40]) h;have b:=Kz f (.args op deep []) (G0 [40] p) a.1 (by have:=a.1.r;show 0+_<=_;omega);exact ⟨b.1,zU b.2 a.2⟩
 |f+1,.args op deep kids,p,h,hk=>by
  replace hk:kids.length+p.1.length<=1500:=hk
  unfold pP;split
  ·refine ⟨M5 h ⟨by simp [kd,ndK];omega,by simp [ndK,em];decide⟩,?_⟩;rw [FY];exact zH _
  ·simp only;have a:=ag h;have qg:Gd (I8 (FV p) (λp=>pP f (.bin 1 (deep+1)) p)).2/\(I8 (FV p) (λp=>pP f (.bin 1 (deep+1)) p)).2.1.length<=p.1.length:=by
    unfold I8;split
    ·rename_i x hx;refine ⟨M5 a.1 (a.2.2 x hx),?_⟩;rw [FY];exact a.2.1
    ·have b:=Kz f (.bin 1 (deep+1)) (FV p).2 a.1 trivial;exact ⟨b.1,zU b.2 a.2.1⟩
   generalize I8 (FV p) (λp=>pP f (.bin 1 (deep+1)) p)=q at qg⊢;have t0:=qg.2;have t1:=EO q.2.1;have t2:=PE [44] q.2;split
   ·rename_i ht;have t3:=I9 (by simp) ht;have b:=Kz f (.args op deep (kids++ [q.1])) (qp [44] q.2).2 (Hr qg.1) (by show (kids++ [q.1]).length+_<=_;simp;omega);exact ⟨b.1,zU b.2 (by omega)⟩
   ·have c:=Q2 (w:= [41]) (Hr (w:= [44]) qg.1);refine ⟨M5 c.1 ⟨by simp [kd,ndK];omega,by simp [ndK,em];decide⟩,?_⟩;rw [FY];exact zU c.2 (by omega)
def Ad (f:Nat):PJ->PS->Prop
 | .bin _ _,p=>20*(tb p.1).length+6<=f
 | .loop _ _ _,p=>20*(tb p.1).length+5<=f
 | .un _,p=>20*(tb p.1).length+4<=f
 | .at _,p=>20*(tb p.1).length+3<=f/\p.2.1=false
 | .call _ _,p=>20*(tb p.1).length+9<=f
 | .args _ _ _,p=>20*(tb p.1).length+8<=f
def Jd:PJ->Prop
 | .bin _ d=>0<=d/\d<=401
 | .loop _ d _=>0<=d/\d<=401
 | .un d=>0<=d/\d<=401
 | .at d=>0<=d/\d<=400
 | .call _ d=>0<=d/\d<=400
 | .args _ d _=>0<=d/\d<=400
def Wk:PJ->PS->Int×PS->Prop
 | .bin least deep,p,r=>Ev (Hh · least deep (BR p.1) p.2.2.length p.2.1 (p.2.2.map qu)) (ND r)
 | .loop least deep a,p,r=>∃n0,∀n,n0<=n->∀M,n0<=M->zF (IF (qk n) n) M (least,deep,a,Li p)=some (ND r)
 | .un deep,p,r=>Ev (L6 · deep (BR p.1) p.2.2.length p.2.1 (p.2.2.map qu)) (ND r)
 | .at deep,p,r=>Ev (Mp · deep (BR p.1) p.2.2.length p.2.1 (p.2.2.map qu)) (ND r)
 | .call op deep,p,r=>Ev (HH · op deep (BR p.1) p.2.2.length p.2.1 (p.2.2.map qu)) (ND r)
 | .args op deep kids,p,r=>∃(ks:List Int) (p':PS),r=IN (ndK 6 op ks) p'/\Gd p'/\ks.length<=1501/\∃n0,∀n,n0<=n->∀M,n0<=M->
   zF (HN (qk n) n) M (op,deep,kids.length,kids.map Fg,Li p)=some (op,ks.length,ks.map Fg,Li p')
theorem Tl (w:LBy) {p:PS} (h:p.2.1=false):(BR (qp w p).2.1,(qp w p).2.2.2.length,!(qp w p).1,(qp w p).2.2.2.map qu)=Li (G0 w p):=by
 have e:(qp w p).2.2=p.2:=by unfold qp;split<;>rfl
 unfold G0;rw [if_neg (by rw [h];simp)];cases hc:(qp w p).1 with
 |true=>rw [if_pos rfl];simp only [Li,e,h];rfl
 |false=>rw [if_neg (by simp)];rfl
theorem Yx {r w:LBy} (hw:w≠ []) (h:w<+:r):(tb (r.drop w.length)).length<r.length:=by
 have h1:=EO (r.drop w.length);have h2:=h.length_le;have h3:0<w.length:=List.length_pos_iff.2 hw;simp only [List.length_drop] at h1;omega
theorem pg {r:LBy} (h:Er r≠0):1<=Er r/\Er r<=11/\sgn r=(D5 (Er r)).toList/\sgn r≠ []:=by
 rcases aa r with e|⟨a,b,c⟩
 ·exact absurd e h
 ·refine ⟨a,b,c,λe=>h ?_⟩;unfold Er;rw [e];decide
def Tm (f:Nat) (deep:Int) (w:LBy) (p2:PS):Int×PS:=
 if (q7 (BR w)).2.2.2=true/\((q7 (BR w)).1=1\/(q7 (BR w)).1=3) then IN (nd1 ((q7 (BR w)).1,(q7 (BR w)).2.1,(q7 (BR w)).2.2.1)) p2
 else if (Ec (BR w)).2.2.2.2=true then IN (ndC (Ec (BR w))) p2
 else match Lg w 1 10 with
 |some op=>pP f (.call op deep) p2
 |none=>(-1,d9 p2)
def f9 (g:G_impl_reader_binary) (n:Nat) (deep:Int) (w:BA) (c:BA×Nat×Bool×RW):Tr (Int×BA×Nat×Bool×RW):=
 (.opt (Em n w) λr=>(.ask r.2.2.2.2
  (.opt (Eo n 2 0 0 0 ⟨#[]⟩ r.1 r.2.1 r.2.2.1 r.2.2.2.1 0 0 false false [] c.1 c.2.1 c.2.2.1 c.2.2.2) λs=> .done (s.1,s.2.1,s.2.2.1,s.2.2.2.1,s.2.2.2.2))
  (.opt (zF (FF g n) n (deep,w,1,c.1,c.2.1,c.2.2.1,c.2.2.2)) λs=>(.alt s (λt=> .done (t.1,t.2.1,t.2.2.1,t.2.2.2.1,t.2.2.2.2)) (λt=> .done (-1,t.1,t.2.1,true,t.2.2.2))))))
def lx (g:G_impl_reader_binary) (n:Nat) (deep:Int) (w:BA) (c:BA×Nat×Bool×RW):Tr (Int×BA×Nat×Bool×RW):=
 (.opt (EG n w) λr=>(.ask r.2.2.2
  (.ask (r.1==1) (.opt (EY n r.1 r.2.1 r.2.2.1 c.1 c.2.1 c.2.2.1 c.2.2.2) λs=> .done (s.1,s.2.1,s.2.2.1,s.2.2.2.1,s.2.2.2.2))
   (.ask (r.1==3) (.opt (EY n r.1 r.2.1 r.2.2.1 c.1 c.2.1 c.2.2.1 c.2.2.2) λs=> .done (s.1,s.2.1,s.2.2.1,s.2.2.2.1,s.2.2.2.2))
    (f9 g n deep w c)))
  (f9 g n deep w c)))
theorem ce (f:Nat) (deep:Int) (r:LBy) (p2:PS) (hr:r.length<=1000) (hp:p2.2.2.length<=60) (hc:∀op,Lg (wd (tb r)) 1 10=some op->Ev (HH · op deep (BR p2.1) p2.2.2.length p2.2.1 (p2.2.2.map qu)) (ND (pP f (.call op deep) p2))):
  ∃n0,∀n,n0<=n->(f9 (qk n) n deep (BR (wd (tb r))) (Li p2)).run=some (ND (if (Ec (BR (wd (tb r)))).2.2.2.2=true then IN (ndC (Ec (BR (wd (tb r))))) p2 else match Lg (wd (tb r)) 1 10 with
   |some op=>pP f (.call op deep) p2
   |none=>(-1,d9 p2))):=by
 obtain ⟨n1,h1⟩:=ef r hr;obtain ⟨n2,h2⟩:=U9 (ndC (Ec (BR (wd (tb r))))) p2 hp;obtain ⟨n3,h3⟩:=mu;obtain ⟨n4,h4⟩:∃n4,∀n,n4<=n->∀op,Lg (wd (tb r)) 1 10=some op->HH n op deep (BR p2.1) p2.2.2.length p2.2.1 (p2.2.2.map qu)=some (ND (pP f (.call op deep) p2)):=by
  cases hf:Lg (wd (tb r)) 1 10 with
  |none=>exact ⟨0,λn _ op h=>by cases h⟩
  |some op=>obtain ⟨n4,h4⟩:=hc op hf;exact ⟨n4,λn hn op' h=>by cases h;exact h4 n hn⟩
 refine ⟨n1+n2+n3+n4+12,λn hn=>?_⟩;have lp:=af (g:=qk n) deep (wd (tb r)) p2 (λop=>pP f (.call op deep) p2) (h3 n (by omega)) 10 1 n (by omega) (by omega) (by omega) (h4 n (by omega));cases hb:(Ec (BR (wd (tb r)))).2.2.2.2 with
 |true=>
  rw [if_pos rfl];exact qa (h1 n (by omega)) (qb hb (qa (h2 n (by omega)) rfl))
 |false=>
  rw [if_neg (by simp)];refine qa (h1 n (by omega)) (qc hb (qa lp ?_));cases Lg (wd (tb r)) 1 10<;>rfl
theorem eh (f:Nat) (deep:Int) (r:LBy) (p2:PS) (hr:r.length<=1000) (hp:p2.2.2.length<=60) (hc:∀op,Lg (wd (tb r)) 1 10=some op->Ev (HH · op deep (BR p2.1) p2.2.2.length p2.2.1 (p2.2.2.map qu)) (ND (pP f (.call op deep) p2))):
  ∃n0,∀n,n0<=n->(lx (qk n) n deep (BR (wd (tb r))) (Li p2)).run=some (ND (Tm f deep (wd (tb r)) p2)):=by
 obtain ⟨n1,h1⟩:=pf r hr;obtain ⟨n2,h2⟩:=Qq ((q7 (BR (wd (tb r)))).1,(q7 (BR (wd (tb r)))).2.1,(q7 (BR (wd (tb r)))).2.2.1) p2 hp;obtain ⟨n3,h3⟩:=ce f deep r p2 hr hp hc;refine ⟨n1+n2+n3,λn hn=>?_⟩;have h2:=h2 n (by omega);have h3:=h3 n (by omega);unfold Tm;refine qa (h1 n (by omega)) ?_;by_cases ho:(q7 (BR (wd (tb r)))).2.2.2=true
 ·refine qb ho ?_;by_cases k1:(q7 (BR (wd (tb r)))).1=1
  ·rw [if_pos ⟨ho,.inl k1⟩];exact qb (by rw [k1];rfl) (qa h2 rfl)
  ·refine qc (zanF.2 k1) ?_;by_cases k3:(q7 (BR (wd (tb r)))).1=3
   ·rw [if_pos ⟨ho,.inr k3⟩];exact qb (by rw [k3];rfl) (qa h2 rfl)
   ·rw [if_neg (λh=>h.2.elim k1 k3)];exact qc (zanF.2 k3) h3
 ·rw [if_neg (λh=>ho h.1)];exact qc (by rw [bX];exact ho) h3
theorem pi (w:LBy) (p:PS):qp w (tb p.1,p.2)=qp w p:=by unfold qp;simp only [HS]
theorem Q3 {c:UInt8} {r:LBy} (h:r.head?=some c):∃t,r=c::t:=by
 cases r with
 |nil=>cases h
 |cons d t=>simp at h;subst h;exact ⟨t,rfl⟩
theorem LL:∀(f:Nat) (j:PJ) (p:PS),Ad f j p->Jd j->Gd p->Kj j p->Wk j p (pP f j p)
 |0,j,p,ha,_,_,_=>by cases j<;>simp [Ad] at ha
 |f+1,.bin least deep,p,ha,hj,hg,_=>by
  replace ha:20*(tb p.1).length+6<=f+1:=ha
  obtain ⟨n1,h1⟩:=LL f (.un deep) p (by show 20*_+4<=f;omega) hj hg trivial;have hl:=JA f (.un deep) p;obtain ⟨n2,h2⟩:=LL f (.loop least deep (pP f (.un deep) p).1) (pP f (.un deep) p).2 (by show 20*_+5<=f;omega) hj (Kz f (.un deep) p hg trivial).1 trivial;refine ⟨n1+n2+1,λn hn=>?_⟩;obtain ⟨k,rfl,hm⟩:=up1 hn;exact qa (h1 k (by omega)) (qa (h2 k (by omega) k (by omega)) rfl)
 |f+1,.loop least deep a,(r,b,l),ha,hj,hg,_=>by
  replace ha:20*(tb r).length+5<=f+1:=ha
  have hn60:l.length<=60:=hg.n;have hr1:r.length<=1000:=hg.r;have ht:=EO r;unfold pP;cases b with
  |true=>
   rw [if_pos rfl];refine ⟨1,λn hn M hM=>?_⟩;obtain ⟨M,rfl,hM⟩:=up1 hM;exact qe (qc rfl rfl)
  |false=>
   rw [if_neg (by simp)];simp only;obtain ⟨n1,h1⟩:=jr least deep a r l.length false (l.map qu);by_cases h0:Er (tb r)=0
   ·rw [if_pos (.inl h0)];refine ⟨n1+1,λn hn M hM=>?_⟩;obtain ⟨M,rfl,hM⟩:=up1 hM;exact qe (qb rfl (qa (h1 n (by omega) n (by omega)) (qb (by simp only;rw [h0];rfl) rfl)))
   ·obtain ⟨o1,o2,o3,o4⟩:=pg h0;obtain ⟨n2,h2⟩:=Rv (Er (tb r)) ⟨o1,o2⟩;by_cases hl:lvl (Er (tb r))<least
    ·rw [if_pos (.inr hl)];refine ⟨n1+n2+1,λn hn M hM=>?_⟩;obtain ⟨M,rfl,hM⟩:=up1 hM;exact qe (qb rfl (qa (h1 n (by omega) n (by omega)) (qc (zanF.2 h0) (qa (h2 n (by omega)) (qb (zC hl) rfl)))))
    ·rw [if_neg (λh=>h.elim h0 hl)];have lv:=Yu (op:=Er (tb r));have hlt:=Yx o4 (ac (tb r));have hp1:Gd ((tb r).drop (sgn (tb r)).length,false,l):=⟨by simp;omega,hn60,hg.s⟩;obtain ⟨n3,h3⟩:=M3 (Er (tb r)) ⟨o1,o2⟩;obtain ⟨n4,h4⟩:=YJ (D5 (Er (tb r))).toList (tb r) l.length false (l.map qu);obtain ⟨n5,h5⟩:=LL f (.bin (lvl (Er (tb r))+1) deep) ((tb r).drop (sgn (tb r)).length,false,l) (by show 20*_+6<=f;simp only;omega) hj hp1 trivial;have g5:=Kz f (.bin (lvl (Er (tb r))+1) deep) ((tb r).drop (sgn (tb r)).length,false,l) hp1 trivial;have l5:=JA f (.bin (lvl (Er (tb r))+1) deep) ((tb r).drop (sgn (tb r)).length,false,l);simp only at l5;generalize pP f (.bin (lvl (Er (tb r))+1) deep) ((tb r).drop (sgn (tb r)).length,false,l)=q at h5 g5 l5⊢;obtain ⟨n6,h6⟩:=U9 (ndK 5 (Er (tb r)) [a,q.1]) q.2 g5.1.n;have g6:=M5 (x:=ndK 5 (Er (tb r)) [a,q.1]) g5.1 ⟨by simp [kd,ndK],by simp [ndK,em];decide⟩;have e6:=FY (ndK 5 (Er (tb r)) [a,q.1]) q.2;generalize IN (ndK 5 (Er (tb r)) [a,q.1]) q.2=c at h6 g6 e6⊢;obtain ⟨n7,h7⟩:=LL f (.loop least deep c.1) c.2 (by show 20*(tb c.2.1).length+5<=f;rw [e6];omega) hj g6 trivial;refine ⟨n1+n2+n3+n4+n5+n6+n7+1,λn hn M hM=>?_⟩;obtain ⟨M,rfl,hM⟩:=up1 hM;have w1:IntKind.i64.wrap (lvl (Er (tb r))+1)=lvl (Er (tb r))+1:=ql (by omega);have h3:=h3 n (by omega);have h4:=h4 n (by omega);have h5:=h5 n (by omega);rw [Ky,HS,<-o3,if_pos rfl] at h4;rw [<-w1] at h5;rw [qm (v':=(least,deep,c.1,Li c.2)) (by
      exact qb rfl (qa (h1 n (by omega) n (by omega)) (qc (zanF.2 h0) (qa (h2 n (by omega)) (qc (aA hl) (qa h3 (qa h4 (qa (h2 n (by omega)) (qa h5 (qb rfl (qa (h6 n (by omega)) rfl)))))))))))]
     exact h7 n (by omega) M (by omega)
 |f+1,.un deep,p,ha,hj,hg,_=>by
  replace ha:20*(tb p.1).length+4<=f+1:=ha
  replace hj:0<=deep/\deep<=401:=hj
  unfold pP;by_cases hd:deep>400
  ·rw [if_pos (.inl hd)];refine ⟨1,λn hn=>?_⟩;obtain ⟨k,rfl,hm⟩:=up1 hn;exact qb (zC hd) (qb rfl rfl)
  ·cases hb:p.2.1 with
   |true=>
    rw [if_pos (.inr rfl)];refine ⟨1,λn hn=>?_⟩;obtain ⟨k,rfl,hm⟩:=up1 hn;refine qc (aA hd) (qb hb ?_);rw [qh,hb];rfl
   |false=>
    rw [if_neg (λh=>h.elim hd (by simp))];obtain ⟨n1,h1⟩:=ML [45] p;have t1:=JN [45] p;cases hc:(qp [45] p).1 with
    |true=>
     rw [if_pos rfl];simp only;have t2:=I9 (by simp) hc;have t3:=EO (qp [45] p).2.1;obtain ⟨n2,h2⟩:=LL f (.un (deep+1)) (qp [45] p).2 (by show 20*_+4<=f;omega) (by show 0<=deep+1/\deep+1<=401;omega) (Hr hg) trivial;have g2:=Kz f (.un (deep+1)) (qp [45] p).2 (Hr hg) trivial;generalize pP f (.un (deep+1)) (qp [45] p).2=q at h2 g2⊢;obtain ⟨n3,h3⟩:=U9 (ndK 4 0 [q.1]) q.2 g2.1.n;refine ⟨n1+n2+n3+1,λn hn=>?_⟩;obtain ⟨k,rfl,hm⟩:=up1 hn;have w1:IntKind.i64.wrap (deep+1)=deep+1:=ql (by omega);have h2:=h2 k (by omega);rw [<-w1] at h2;exact qc (aA hd) (qc hb (qa (h1 k (by omega)) (qb hc (qa h2 (qb rfl (qa (h3 k (by omega)) rfl))))))
    |false=>
     rw [if_neg (by simp)];have e:(qp [45] p).2.2=p.2:=by unfold qp;split<;>rfl
     obtain ⟨n2,h2⟩:=LL f (.at deep) (qp [45] p).2 ⟨by omega,by rw [e];exact hb⟩ (by show 0<=deep/\deep<=400;omega) (Hr hg) trivial;refine ⟨n1+n2+1,λn hn=>?_⟩;obtain ⟨k,rfl,hm⟩:=up1 hn;exact qc (aA hd) (qc hb (qa (h1 k (by omega)) (qc hc (qa (h2 k (by omega)) rfl))))
 |f+1,.at deep,(r0,b,l),ha,hj,hg,_=>by
  obtain ⟨ha,hb⟩:=ha
  replace ha:20*(tb r0).length+3<=f+1:=ha
  replace hb:b=false:=hb
  subst hb
  replace hj:0<=deep/\deep<=400:=hj
  have hn60:l.length<=60:=hg.n;have hr1:r0.length<=1000:=hg.r;have ht:=EO r0;have ett:=HS r0;have eit:=pi [40] (r0,false,l);obtain ⟨n1,h1⟩:=Nf r0 l.length false (l.map qu);have wdec:∀op,Lg (wd (tb r0)) 1 10=some op->(wr (tb r0)).length<(tb r0).length:=λop h=>by
   have e:=congrArg List.length (wdr (tb r0));simp only [zamO] at e;have:wd (tb r0)≠ []:=λe=>by
    rw [e,show Lg [] 1 10=none by decide+kernel] at h;cases h
   have:=List.length_pos_iff.2 this;omega
  unfold pP;simp only at eit⊢;rw [<-eit];generalize tb r0=r at*
  have hw:=M4 r;have wordEv:∃n0,∀n,n0<=n->(lx (qk n) n deep (BR (wd r)) (Li (wr r,false,l))).run=some (ND (Tm f deep (wd r) (wr r,false,l))):=by
   have:=eh f deep r (wr r,false,l) (by omega) hn60 (by
    rw [ett];intro op h;exact LL f (.call op deep) (wr r,false,l) (by have:=wdec op h;have:=EO (wr r);show 20*(tb (wr r)).length+9<=f;omega) hj ⟨by simp only;omega,hn60,hg.s⟩ trivial)
   rwa [ett] at this
  obtain ⟨n9,h9⟩:=wordEv;obtain ⟨n8,h8⟩:=Yv (r,false,l) (by simp only;omega);simp only [ett] at h8;by_cases hq:r.head?=some 34
  ·rw [if_pos hq];obtain ⟨t,rfl⟩:=Q3 hq;simp only [zamM] at ht;obtain ⟨n2,h2⟩:=cd t false l (by omega) hn60;refine ⟨n1+n2+3,λn hn=>?_⟩;obtain ⟨k,rfl,hm⟩:=up3 hn;refine qa (h1 (k+2) (by omega)) (qa (GF k (34::t) [34]) (qb rfl (qa (h2 (k+2) (by omega)) ?_)));rw [qh];simp only [List.tail_cons]
   all_goals (cases GZ [] t<;>rfl)
  ·rw [if_neg hq];have p34:List.isPrefixOf [34] r=false:=by rw [bX];exact λe=>hq ((Ie 34 r).1 e)
   by_cases hh:r.head?=some 35
   ·have p35:List.isPrefixOf [35] r=true:=(Ie 35 r).2 hh;simp only [if_pos hh];obtain ⟨n2,h2⟩:=mr deep r false l hn60;cases he:Nc r 1 5 with
    |some e=>
     simp only;refine ⟨n1+n2+3,λn hn=>?_⟩;obtain ⟨k,rfl,hm⟩:=up3 hn;have h2:=h2 (k+2) (by omega) (k+2) (by omega);rw [he] at h2;exact qa (h1 (k+2) (by omega)) (qa (GF k r [34]) (qc p34 (qa (GF k r [35]) (qb p35 (qa h2 rfl)))))
    |none=>
     simp only;rw [if_neg (λh=>h.1 hh)];refine ⟨n1+n2+n8+n9+3,λn hn=>?_⟩;obtain ⟨k,rfl,hm⟩:=up3 hn;have h2:=h2 (k+2) (by omega) (k+2) (by omega);rw [he] at h2;exact qa (h1 (k+2) (by omega)) (qa (GF k r [34]) (qc p34 (qa (GF k r [35]) (qb p35 (qa h2 (qa (h8 (k+2) (by omega)) (h9 (k+2) (by omega))))))))
   ·have p35:List.isPrefixOf [35] r=false:=by rw [bX];exact λe=>hh ((Ie 35 r).1 e)
    simp only [if_neg hh];obtain ⟨n2,h2⟩:=ML [40] (r,false,l);cases hc:(qp [40] (r,false,l)).1 with
    |true=>
     rw [if_pos ⟨hh,rfl⟩];have t2:=I9 (by simp) hc;have t3:=EO (qp [40] (r,false,l)).2.1;simp only [ett] at t2;have g1:Gd (r,false,l):=⟨by simp only;omega,hn60,hg.s⟩;obtain ⟨n3,h3⟩:=LL f (.bin 1 (deep+1)) (qp [40] (r,false,l)).2 (by show 20*_+6<=f;omega) (by show 0<=deep+1/\deep+1<=401;omega) (Hr g1) trivial;generalize pP f (.bin 1 (deep+1)) (qp [40] (r,false,l)).2=q at h3⊢;obtain ⟨n4,h4⟩:=ML [41] q.2;refine ⟨n1+n2+n3+n4+3,λn hn=>?_⟩;obtain ⟨k,rfl,hm⟩:=up3 hn;have w1:IntKind.i64.wrap (deep+1)=deep+1:=ql (by omega);have h3:=h3 (k+2) (by omega);rw [<-w1] at h3;cases hbb:q.2.2.1 with
     |true=>
      refine qa (h1 (k+2) (by omega)) (qa (GF k r [34]) (qc p34 (qa (GF k r [35]) (qc p35 (qa (h2 (k+2) (by omega)) (qb hc (qa h3 (qb hbb ?_))))))));rw [qh];unfold G0;rw [if_pos hbb];simp only [ND,hbb]
     |false=>
      refine qa (h1 (k+2) (by omega)) (qa (GF k r [34]) (qc p34 (qa (GF k r [35]) (qc p35 (qa (h2 (k+2) (by omega)) (qb hc (qa h3 (qc hbb (qa (h4 (k+2) (by omega)) ?_)))))))));rw [qh];exact congrArg (λx=>some (q.1,x)) (Tl [41] hbb)
    |false=>
     rw [if_neg (λh=>by simp at h)];have e:(qp [40] (r,false,l)).2=(r,false,l):=by
      unfold qp at hc⊢;split at hc
      ·cases hc
      ·rename_i hne;rw [if_neg hne];simp only [ett]
     rw [hc,e] at h2;refine ⟨n1+n2+n8+n9+3,λn hn=>?_⟩;obtain ⟨k,rfl,hm⟩:=up3 hn;exact qa (h1 (k+2) (by omega)) (qa (GF k r [34]) (qc p34 (qa (GF k r [35]) (qc p35 (qa (h2 (k+2) (by omega)) (qc rfl (qa (h8 (k+2) (by omega)) (h9 (k+2) (by omega)))))))))
 |f+1,.call op deep,p,ha,hj,hg,_=>by
  replace ha:20*(tb p.1).length+9<=f+1:=ha
  unfold pP;have gm:=Q2 (w:= [40]) hg;have rm:=Qz [40] p;obtain ⟨ks,p',e1,e2,e3,n2,h2⟩:=LL f (.args op deep []) (G0 [40] p) (by show 20*_+8<=f;omega) hj gm.1 (by have:=gm.1.r;show 0+_<=_;omega);obtain ⟨n1,h1⟩:=ML [40] p;obtain ⟨n3,h3⟩:=U9 (ndK 6 op ks) p' e2.n;rw [e1];refine ⟨n1+n2+n3+1,λn hn=>?_⟩;obtain ⟨k,rfl,hm⟩:=up1 hn;have h2:=h2 k (by omega) k (by omega);by_cases hb:p.2.1=true
  ·have em:Li (G0 [40] p)=(BR p.1,p.2.2.length,true,p.2.2.map qu):=by
    unfold G0;rw [if_pos hb];simp only [Li,hb]
   rw [em] at h2;exact qb hb (qa h2 (qb (zC (by simp)) (qa (h3 k (by omega)) rfl)))
  ·have hb:p.2.1=false:=by rw [bX];exact hb
   have em:=Tl [40] hb;rw [<-em] at h2;exact qc hb (qa (h1 k (by omega)) (qa h2 (qb (zC (by simp)) (qa (h3 k (by omega)) rfl))))
 |f+1,.args op deep kids,p,ha,hj,hg,hk=>by
  replace ha:20*(tb p.1).length+8<=f+1:=ha
  replace hk:kids.length+p.1.length<=1500:=hk
  replace hj:0<=deep/\deep<=400:=hj
  unfold pP;cases hb:p.2.1 with
  |true=>
   rw [if_pos rfl];refine ⟨kids,p,rfl,hg,by omega,1,λn hn M hM=>?_⟩;obtain ⟨M,rfl,hM⟩:=up1 hM;exact qe (qc (by show (!p.2.1)=false;rw [hb];rfl) rfl)
  |false=>
   rw [if_neg (by simp)];simp only;obtain ⟨x,hx,n1,h1⟩:=js p hg.r;have ga:=ag hg;have ra:=Oe p;have tl0:=EO p.1;have nb:∀k:Nat,(!(Li p).2.2.1)=true:=λ_=>by show (!p.2.1)=true;rw [hb];rfl
   cases hi:(FV p).1 with
   |some y=>
    have hxy:=hx y hi;subst hxy;obtain ⟨n3,h3⟩:=U9 x (FV p).2 ga.1.n;have eo:I8 (FV p) (λp=>pP f (.bin 1 (deep+1)) p)=IN x (FV p).2:=by unfold I8;rw [hi]
    rw [eo];have gq:Gd (IN x (FV p).2).2/\(IN x (FV p).2).2.1.length<=p.1.length/\(tb (IN x (FV p).2).2.1).length<=(tb p.1).length:=⟨M5 ga.1 (ga.2.2 x hi),by rw [FY];exact ga.2.1,by rw [FY];exact ra⟩;have n2:=0;generalize IN x (FV p).2=Q at h3 gq⊢;obtain ⟨n4,h4⟩:=ML [44] Q.2;cases hc:(qp [44] Q.2).1 with
    |true=>
     obtain ⟨ks,p',e1,e2,e3,n6,h6⟩:=LL f (.args op deep (kids++ [Q.1])) (qp [44] Q.2).2 (by have:=I9 (by simp) hc;show 20*(tb (qp [44] Q.2).2.1).length+8<=f;have:=EO (qp [44] Q.2).2.1;omega) ⟨hj.1,hj.2⟩ (Hr gq.1) (by have:=I9 (by simp) hc;have:=EO Q.2.1;show (kids++ [Q.1]).length+_<=_;simp;omega);refine ⟨ks,p',by rw [if_pos rfl];exact e1,e2,e3,n1+n2+n3+n4+n6+1,λk hn M hM=>?_⟩;obtain ⟨M,rfl,hM⟩:=up1 hM;rw [qm (v':=(op,deep,(kids++ [Q.1]).length,(kids++ [Q.1]).map Fg,Li (qp [44] Q.2).2)) (by
      have h1:=h1 k (by omega);rw [hi] at h1;refine qb (nb 0) (qa h1 (qb rfl (qa (h3 k (by omega)) (qb rfl (qb (zC ⟨by simp,by decide,by decide,by simp;omega,rfl⟩) (qa (h4 k (by omega)) ?_))))));refine qc (by simp only;rw [hc];rfl) ?_;rw [qh];simp only [zamO,List.map_append];rfl)]
     exact h6 k (by omega) M (by omega)
    |false=>
     obtain ⟨n5,h5⟩:=ML [41] (qp [44] Q.2).2;refine ⟨kids++ [Q.1],G0 [41] (qp [44] Q.2).2,by rw [if_neg (by simp)],(Q2 (Hr gq.1)).1,by simp;omega,n1+n2+n3+n4+n5+1,λk hn M hM=>?_⟩;obtain ⟨M,rfl,hM⟩:=up1 hM;cases hbb:(qp [44] Q.2).2.2.1 with
     |true=>
      rw [qe (r:=(op,(kids++ [Q.1]).length,(kids++ [Q.1]).map Fg,Li (G0 [41] (qp [44] Q.2).2))) (by
       have h1:=h1 k (by omega);rw [hi] at h1;refine qb (nb 0) (qa h1 (qb rfl (qa (h3 k (by omega)) (qb rfl (qb (zC ⟨by simp,by decide,by decide,by simp;omega,rfl⟩) (qa (h4 k (by omega)) ?_))))));refine qb (by simp only;rw [hc];rfl) (qb hbb ?_);rw [qh];unfold G0;rw [if_pos hbb];simp only [zamO,List.map_append,Li,hbb];rfl)]
     |false=>
      rw [qe (r:=(op,(kids++ [Q.1]).length,(kids++ [Q.1]).map Fg,Li (G0 [41] (qp [44] Q.2).2))) (by
       have h1:=h1 k (by omega);rw [hi] at h1;refine qb (nb 0) (qa h1 (qb rfl (qa (h3 k (by omega)) (qb rfl (qb (zC ⟨by simp,by decide,by decide,by simp;omega,rfl⟩) (qa (h4 k (by omega)) ?_))))));refine qb (by simp only;rw [hc];rfl) (qc hbb (qa (h5 k (by omega)) ?_));rw [qh];simp only [zamO,List.map_append];exact congrArg (λx=>some (Sum.inr (op,kids.length+1,kids.map Fg++ [[PV.i IntKind.i64 Q.1]],x))) (Tl [41] hbb))]
   |none=>
    have eo:I8 (FV p) (λp=>pP f (.bin 1 (deep+1)) p)=pP f (.bin 1 (deep+1)) (FV p).2:=by unfold I8;rw [hi]
    rw [eo];obtain ⟨n3,h3⟩:=LL f (.bin 1 (deep+1)) (FV p).2 (by show 20*_+6<=f;omega) (by show 0<=deep+1/\deep+1<=401;omega) ga.1 trivial;have g3:=Kz f (.bin 1 (deep+1)) (FV p).2 ga.1 trivial;have l3:=JA f (.bin 1 (deep+1)) (FV p).2;have w1:IntKind.i64.wrap (deep+1)=deep+1:=ql (by omega);have gq:Gd (pP f (.bin 1 (deep+1)) (FV p).2).2/\(pP f (.bin 1 (deep+1)) (FV p).2).2.1.length<=p.1.length/\(tb (pP f (.bin 1 (deep+1)) (FV p).2).2.1).length<=(tb p.1).length:=⟨g3.1,zU g3.2 ga.2.1,zU l3 ra⟩;rw [<-w1] at h3;have n2:=0;rw [w1] at h3;generalize pP f (.bin 1 (deep+1)) (FV p).2=Q at h3 gq⊢;obtain ⟨n4,h4⟩:=ML [44] Q.2;cases hc:(qp [44] Q.2).1 with
    |true=>
     obtain ⟨ks,p',e1,e2,e3,n6,h6⟩:=LL f (.args op deep (kids++ [Q.1])) (qp [44] Q.2).2 (by have:=I9 (by simp) hc;show 20*(tb (qp [44] Q.2).2.1).length+8<=f;have:=EO (qp [44] Q.2).2.1;omega) ⟨hj.1,hj.2⟩ (Hr gq.1) (by have:=I9 (by simp) hc;have:=EO Q.2.1;show (kids++ [Q.1]).length+_<=_;simp;omega);refine ⟨ks,p',by rw [if_pos rfl];exact e1,e2,e3,n1+n2+n3+n4+n6+1,λk hn M hM=>?_⟩;obtain ⟨M,rfl,hM⟩:=up1 hM;rw [qm (v':=(op,deep,(kids++ [Q.1]).length,(kids++ [Q.1]).map Fg,Li (qp [44] Q.2).2)) (by
      have h1:=h1 k (by omega);rw [hi] at h1;have h3:=h3 k (by omega);rw [<-w1] at h3;refine qb (nb 0) (qa h1 (qc rfl (qa h3 (qb rfl (qb (zC ⟨by simp,by decide,by decide,by simp;omega,rfl⟩) (qa (h4 k (by omega)) ?_))))));refine qc (by simp only;rw [hc];rfl) ?_;rw [qh];simp only [zamO,List.map_append];rfl)]
     exact h6 k (by omega) M (by omega)
    |false=>
     obtain ⟨n5,h5⟩:=ML [41] (qp [44] Q.2).2;refine ⟨kids++ [Q.1],G0 [41] (qp [44] Q.2).2,by rw [if_neg (by simp)],(Q2 (Hr gq.1)).1,by simp;omega,n1+n2+n3+n4+n5+1,λk hn M hM=>?_⟩;obtain ⟨M,rfl,hM⟩:=up1 hM;cases hbb:(qp [44] Q.2).2.2.1 with
     |true=>
      rw [qe (r:=(op,(kids++ [Q.1]).length,(kids++ [Q.1]).map Fg,Li (G0 [41] (qp [44] Q.2).2))) (by
       have h1:=h1 k (by omega);rw [hi] at h1;have h3:=h3 k (by omega);rw [<-w1] at h3;refine qb (nb 0) (qa h1 (qc rfl (qa h3 (qb rfl (qb (zC ⟨by simp,by decide,by decide,by simp;omega,rfl⟩) (qa (h4 k (by omega)) ?_))))));refine qb (by simp only;rw [hc];rfl) (qb hbb ?_);rw [qh];unfold G0;rw [if_pos hbb];simp only [zamO,List.map_append,Li,hbb];rfl)]
     |false=>
      rw [qe (r:=(op,(kids++ [Q.1]).length,(kids++ [Q.1]).map Fg,Li (G0 [41] (qp [44] Q.2).2))) (by
       have h1:=h1 k (by omega);rw [hi] at h1;have h3:=h3 k (by omega);rw [<-w1] at h3;refine qb (nb 0) (qa h1 (qc rfl (qa h3 (qb rfl (qb (zC ⟨by simp,by decide,by decide,by simp;omega,rfl⟩) (qa (h4 k (by omega)) ?_))))));refine qb (by simp only;rw [hc];rfl) (qc hbb (qa (h5 k (by omega)) ?_));rw [qh];simp only [zamO,List.map_append];exact congrArg (λx=>some (Sum.inr (op,kids.length+1,kids.map Fg++ [[PV.i IntKind.i64 Q.1]],x))) (Tl [41] hbb))]
def pos (s r:LBy):Int:=((s.length-r.length:Nat):Int)
def H0 (s:LBy) (q:PS):BA×Int×Bool×Nat×RW:=(BR s,pos s q.1,q.2.1,q.2.2.length,q.2.2.map qu)
def HT (s:LBy) (r:Int×PS):Int×BA×Int×Bool×Nat×RW:=(r.1,H0 s r.2)
theorem Zf {s r:LBy} (h:r<:+s):s.drop (s.length-r.length)=r:=by
 obtain ⟨t,rfl⟩:=h;simp
theorem ah (s r:LBy):(pos s r).toNat=s.length-r.length:=by unfold pos;simp
theorem Rx (s r:LBy):0<=pos s r:=by unfold pos;omega
theorem IY {s r:LBy} (h:r<:+s):r.length<=s.length:=h.length_le
theorem Q4 {s r t:LBy} {k:Nat} (h:r<:+s) (e:t=r.drop k) (hk:k<=r.length):pos s r+(k:Int)=pos s t:=by
 subst e;have:=IY h;unfold pos;simp only [List.length_drop];omega
theorem Tn {s r:LBy} (h:r<:+s):(BR s).toList[(pos s r).toNat]?=r.head?:=by
 rw [Ek,ah,<-List.head?_drop,Zf h]
theorem i6 {s r:LBy} (h:r<:+s):tb r<:+s:=(List.dropWhile_suffix _).trans h
theorem XA {s t:LBy} {c:UInt8} (h:(c::t)<:+s):t<:+s:=(List.suffix_cons c t).trans h
theorem WE {s r:LBy} {k:Nat} (h:r<:+s):(BR s).extract (pos s r).toNat (pos s r+(k:Int)).toNat=BR (r.take k):=by
 rw [Ly,ah,show (pos s r+(k:Int)).toNat=(s.length-r.length)+k by unfold pos;omega,<-List.take_drop,Zf h]
theorem IP {b:Bool} (h:b=true):(!b)=false:=by rw [h];rfl
theorem JO {b:Bool} (h:b=false):(!b)=true:=by rw [h];rfl
theorem YL {s:LBy} (hs:s.length<=1000) (n:Nat) (b:Bool) (m:Nat) (rows:RW):∀(r:LBy) (M:Nat),r<:+s->r.length+1<=M->zF (It n) M (BR s,pos s r,b,m,rows)=some (BR s,pos s (tb r),b,m,rows)
 |r,0,_,h=>by omega
 | [],M+1,h,_=>by
  exact qe (qc (aA (show ¬pos s []<((BR s).size:Int) by rw [qw];unfold pos;simp)) rfl)
 |c::t,M+1,h,hM=>by
  have hl:=IY h;simp only [zamM] at hl hM;have g:=Tn h;have p1:pos s (c::t)<((BR s).size:Int):=by rw [qw];unfold pos;simp only [zamM];omega
  by_cases hc:c=32
  ·subst hc;have w1:IntKind.i64.wrap (pos s (32::t)+1)=pos s t:=by
    have:=Q4 (k:=1) h (t:=t) rfl (by simp);rw [ql (by unfold pos;omega)];exact this
   rw [qm (v':=(BR s,pos s t,b,m,rows)) (by
    refine qb (zC p1) (qb (zC (Rx _ _)) (qa g (qb rfl ?_)));rw [qh,w1])]
   have e:tb (32::t)=tb t:=by simp [tb]
   rw [e];exact YL hs n b m rows t M (XA h) (by omega)
  ·have e:tb (c::t)=c::t:=by simp [tb,hc]
   rw [e];refine qe (qb (zC p1) (qb (zC (Rx _ _)) (qa g (qc ?_ rfl))));rw [zanF];intro e;exact hc (UInt8.toNat_inj.1 (show c.toNat=32 by omega))
theorem Yy {s:LBy} (hs:s.length<=1000) (q:PS) (h:q.1<:+s):Ev (GL · (BR s) (pos s q.1) q.2.1 q.2.2.length (q.2.2.map qu)) (H0 s (tb q.1,q.2)):=by
 have hl:=IY h;refine ⟨q.1.length+2,λn hn=>?_⟩;obtain ⟨k,rfl,hm⟩:=up1 hn;exact qa (YL hs k q.2.1 q.2.2.length (q.2.2.map qu) q.1 k h (by omega)) rfl
theorem M7 {s:LBy} (hs:s.length<=1000) (w:LBy) (hw:w.length<=1000) (q:PS) (h:q.1<:+s):Ev (ET · (BR w) (BR s) (pos s q.1) q.2.1 q.2.2.length (q.2.2.map qu)) ((sIs w q).1,H0 s (sIs w q).2):=by
 obtain ⟨n1,h1⟩:=Yy hs q h;have ht:=i6 h;have hl:=IY ht;refine ⟨n1+1,λn hn=>?_⟩;obtain ⟨k,rfl,hm⟩:=up1 hn;have w1:IntKind.i64.wrap (pos s (tb q.1)+((BR w).size:Int))=pos s (tb q.1)+(w.length:Int):=by rw [qw];exact ql (by unfold pos;omega)
 unfold sIs;cases hb:q.2.1 with
 |true=>
  rw [if_pos rfl];have h1:=h1 k (by omega);rw [hb] at h1;refine qa h1 (qb hb ?_);rw [qh]
 |false=>
  have h1:=h1 k (by omega);rw [hb] at h1;rw [if_neg (by simp)];by_cases hf:pos s (tb q.1)+(w.length:Int)>(s.length:Int)
  ·have hn:¬w.isPrefixOf (tb q.1)=true:=by
    intro e;have:=(List.isPrefixOf_iff_prefix.1 e).length_le;unfold pos at hf;omega
   rw [if_neg hn];refine qa h1 (qc hb (qb (zC (show IntKind.i64.wrap (pos s (tb q.1)+((BR w).size:Int))>((BR s).size:Int) by rw [w1,qw];exact hf)) ?_));rw [qh]
  ·have hx:=WE (k:=w.length) ht;have hwl:w.length<=(tb q.1).length:=by unfold pos at hf;omega
   have cmp:((BR s).extract (pos s (tb q.1)).toNat (IntKind.i64.wrap (pos s (tb q.1)+((BR w).size:Int))).toNat).toList==(BR w).toList↔w.isPrefixOf (tb q.1)=true:=by
    rw [w1,hx,Ek,Ek,zanG,List.isPrefixOf_iff_prefix,List.prefix_iff_eq_take];exact ⟨λe=>e.symm,λe=>e.symm⟩
   refine qa h1 (qc hb (qc (aA (show ¬IntKind.i64.wrap (pos s (tb q.1)+((BR w).size:Int))>((BR s).size:Int) by rw [w1,qw];exact hf)) (qb (zC (show 0<=pos s (tb q.1)/\pos s (tb q.1)<=IntKind.i64.wrap (pos s (tb q.1)+((BR w).size:Int))/\IntKind.i64.wrap (pos s (tb q.1)+((BR w).size:Int))<=((BR s).size:Int) by rw [w1,qw];exact ⟨Rx _ _,by omega,by omega⟩)) ?_)));by_cases hp:w.isPrefixOf (tb q.1)=true
   ·rw [if_pos hp];refine qc (IP (cmp.2 hp)) ?_;rw [qh];show some (true,BR s,IntKind.i64.wrap (pos s (tb q.1)+((BR w).size:Int)),q.2.1,q.2.2.length,q.2.2.map qu)=_;rw [w1,Q4 ht rfl hwl];rfl
   ·rw [if_neg hp];refine qb (JO (by rw [bX];exact λe=>hp (cmp.1 e))) ?_;rw [qh]
theorem Qs {s:LBy} (x:Nd) (q:PS) (h:q.2.2.length<=5000) (hx:Xu x):Ev (EI · x.1 x.2.1 x.2.2.1 x.2.2.2.1 x.2.2.2.2.1 x.2.2.2.2.2.1 x.2.2.2.2.2.2.1 x.2.2.2.2.2.2.2.1 x.2.2.2.2.2.2.2.2.1 x.2.2.2.2.2.2.2.2.2.1 x.2.2.2.2.2.2.2.2.2.2.1 x.2.2.2.2.2.2.2.2.2.2.2.1 x.2.2.2.2.2.2.2.2.2.2.2.2.1 ((kd x).map Fg) (BR s) (pos s q.1) q.2.1 q.2.2.length (q.2.2.map qu)) (HT s (Jl x q)):=by
 obtain ⟨n1,h1⟩:=Oa x (by have:=hx.2;omega);refine ⟨n1+1,λn hn=>?_⟩;obtain ⟨k,rfl,hm⟩:=up1 hn;have w2:IntKind.i64.wrap ((((q.2.2.length+1):Nat):Int)-1)=(q.2.2.length:Int):=by rw [ql (by omega)];omega
 refine qb rfl (qb (zC ⟨by simp,by decide,by decide,by simp;omega,rfl⟩) ?_);unfold Jl;by_cases h6:60<q.2.2.length+1
 ·rw [if_pos (.inl h6)];refine qb (zC (by omega)) ?_;rw [qh,w2];simp only [HT,H0,List.map_append,zamO];rfl
 ·refine qc (aA (by omega)) (qa (h1 k (by omega)) ?_);cases ho:Gq x with
  |true=>
   rw [if_neg (λe=>e.elim h6 (by simp))];refine qc rfl ?_;rw [qh,w2];simp only [HT,H0,List.map_append,zamO];rfl
  |false=>
   rw [if_pos (.inr rfl)];refine qb rfl ?_;rw [qh,w2];simp only [HT,H0,List.map_append,zamO];rfl
theorem VP {s:LBy} (hs:s.length<=1000) (n:Nat) (at0:Int) (b:Bool) (m:Nat) (rows:RW):∀(r:LBy) (M:Nat),r<:+s->r.length+1<=M->zF (Gv n) M (at0,BR s,pos s r,b,m,rows)=some (at0,BR s,pos s (wr r),b,m,rows)
 |r,0,_,h=>by omega
 | [],M+1,h,_=>by
  exact qe (qc (aA (show ¬pos s []<((BR s).size:Int) by rw [qw];unfold pos;simp)) rfl)
 |c::t,M+1,h,hM=>by
  have hl:=IY h;simp only [zamM] at hl hM;have g:=Tn h;have p1:pos s (c::t)<((BR s).size:Int):=by rw [qw];unfold pos;simp only [zamM];omega
  have p0:decide (0<=pos s (c::t))=true:=zC (Rx _ _);have w1:IntKind.i64.wrap (pos s (c::t)+1)=pos s t:=by
   have:=Q4 (k:=1) h (t:=t) rfl (by simp);rw [ql (by unfold pos;omega)];exact this
  have yes:(wch c=true)->(Gv n (at0,BR s,pos s (c::t),b,m,rows)).run=some (.inl (at0,BR s,pos s t,b,m,rows)):=λhc=>by
   have fin:some (Sum.inl (at0,BR s,IntKind.i64.wrap (pos s (c::t)+1),b,m,rows))=(some (Sum.inl (at0,BR s,pos s t,b,m,rows)):Option (_⊕(Int×BA×Int×Bool×Nat×RW))):=by rw [w1]
   refine qb (zC p1) (qb p0 (qa g ?_));by_cases a1:(c.toNat:Int)≥65
   ·refine qb (zC a1) (qb p0 (qa g ?_));by_cases a2:(c.toNat:Int)<=90
    ·exact qb (zC a2) fin
    ·refine qc (aA a2) (qb p0 (qa g ?_));by_cases a3:(c.toNat:Int)≥48
     ·refine qb (zC a3) (qb p0 (qa g ?_));by_cases a4:(c.toNat:Int)<=57
      ·exact qb (zC a4) fin
      ·refine qc (aA a4) (qb p0 (qa g ?_));have a5:c=36:=by
        unfold wch at hc;simp only [Bool.or_eq_true,zL,aG,zanG] at hc;rcases hc with hc|hc|hc
        ·omega
        ·omega
        ·exact hc
       exact qb (by rw [a5];rfl) fin
     ·omega
   ·refine qc (aA a1) (qb p0 (qa g ?_));by_cases a3:(c.toNat:Int)≥48
    ·refine qb (zC a3) (qb p0 (qa g ?_));by_cases a4:(c.toNat:Int)<=57
     ·exact qb (zC a4) fin
     ·refine qc (aA a4) (qb p0 (qa g ?_));have a5:c=36:=by
       unfold wch at hc;simp only [Bool.or_eq_true,zL,aG,zanG] at hc;rcases hc with hc|hc|hc
       ·omega
       ·omega
       ·exact hc
      exact qb (by rw [a5];rfl) fin
    ·refine qc (aA a3) (qb p0 (qa g ?_));have a5:c=36:=by
      unfold wch at hc;simp only [Bool.or_eq_true,zL,aG,zanG] at hc;rcases hc with hc|hc|hc
      ·omega
      ·omega
      ·exact hc
     exact qb (by rw [a5];rfl) fin
  have no:(wch c=false)->(Gv n (at0,BR s,pos s (c::t),b,m,rows)).run=some (.inr (at0,BR s,pos s (c::t),b,m,rows)):=λhc=>by
   have hc':¬((65<=c.toNat/\c.toNat<=90)\/(48<=c.toNat/\c.toNat<=57)\/c=36):=λe=>by
    have:wch c=true:=by
     unfold wch;simp only [Bool.or_eq_true,zL,aG,zanG];exact e
    rw [hc] at this;cases this
   have a5:((c.toNat:Int)==36)=false:=by
    rw [zanF];intro e;exact hc' (.inr (.inr (UInt8.toNat_inj.1 (show c.toNat=36 by omega))))
   refine qb (zC p1) (qb p0 (qa g ?_));by_cases a1:(c.toNat:Int)≥65
   ·have a2:¬(c.toNat:Int)<=90:=λe=>hc' (.inl ⟨by omega,by omega⟩)
    refine qb (zC a1) (qb p0 (qa g (qc (aA a2) ?_)));refine qb p0 (qa g (qb (zC (show (c.toNat:Int)≥48 by omega)) ?_));exact qb p0 (qa g (qc (aA (show ¬(c.toNat:Int)<=57 by omega)) (qb p0 (qa g (qc a5 rfl)))))
   ·refine qc (aA a1) (qb p0 (qa g ?_));by_cases a3:(c.toNat:Int)≥48
    ·have a4:¬(c.toNat:Int)<=57:=λe=>hc' (.inr (.inl ⟨by omega,by omega⟩))
     exact qb (zC a3) (qb p0 (qa g (qc (aA a4) (qb p0 (qa g (qc a5 rfl))))))
    ·exact qc (aA a3) (qb p0 (qa g (qc a5 rfl)))
  cases hc:wch c with
  |true=>
   rw [qm (yes hc),show wr (c::t)=wr t by simp [wr,hc]];exact VP hs n at0 b m rows t M (XA h) (by omega)
  |false=>
   rw [qe (no hc),show wr (c::t)=c::t by simp [wr,hc]]
theorem XB {s:LBy} (hs:s.length<=1000) (q:PS) (h:q.1<:+s):Ev (H9 · (BR s) (pos s q.1) q.2.1 q.2.2.length (q.2.2.map qu)) (BR (wd q.1),H0 s (wr q.1,q.2)):=by
 have hl:=IY h;have hw:=M4 q.1;have hd:=congrArg List.length (wdr q.1);simp only [zamO] at hd;refine ⟨q.1.length+2,λn hn=>?_⟩;obtain ⟨k,rfl,hm⟩:=up1 hn;refine qa (VP hs k (pos s q.1) q.2.1 q.2.2.length (q.2.2.map qu) q.1 k h (by omega)) (qb (zC ⟨Rx _ _,by unfold pos;simp only;omega,by rw [qw];unfold pos;simp only;omega⟩) ?_);rw [qh];have e:(pos s (wr q.1))=pos s q.1+((wd q.1).length:Int):=by unfold pos;omega
 have x:=WE (k:=(wd q.1).length) h;rw [<-e] at x;have t:q.1.take (wd q.1).length=wd q.1:=by
  have:=List.take_left (l₁:=wd q.1) (l₂:=wr q.1)
  rwa [wdr] at this
 rw [t] at x;show some ((BR s).extract (pos s q.1).toNat (pos s (wr q.1)).toNat,_)=_;rw [x];rfl
theorem Ng {s:LBy} (hs:s.length<=1000) {n:Nat} (b:Bool) (l:List Nd) (res:Int×PS):∀(k:Nat) (r acc:LBy) (M:Nat),r.length<=k->r<:+s->acc.length+r.length<=1001->r.length+1<=M->
  (∀w t,GZ acc r=some (w,t)->EI n 1 0 2 0 (BR w) 0 0 false false 0 0 false false [] (BR s) (pos s t) b l.length (l.map qu)=some (HT s res))->
  zF (JR n) M (BR acc,BR s,pos s r,b,l.length,l.map qu)=some (match GZ acc r with
   |none=> .inr (BR s,pos s [],b,l.length,l.map qu)
   |some _=> .inl (HT s res))
 |k,r,acc,0,_,_,_,h,_=>by omega
 |k,[],acc,M+1,_,h,_,_,_=>by
  exact qe (qc (aA (show ¬pos s []<((BR s).size:Int) by rw [qw];unfold pos;simp)) rfl)
 |0,c::t,acc,M+1,hk,_,_,_,_=>by simp at hk
 |k+1,c::t,acc,M+1,hk,h,ha,hM,hr=>by
  have hl:=IY h;simp only [zamM] at hl hM hk ha;have g:=Tn h;have p1:pos s (c::t)<((BR s).size:Int):=by rw [qw];unfold pos;simp only [zamM];omega
  have p0:decide (0<=pos s (c::t))=true:=zC (Rx _ _);have pa:=Q4 (k:=1) h (t:=t) rfl (by simp);have w1:IntKind.i64.wrap (pos s (c::t)+1)=pos s t:=by rw [ql (by unfold pos;omega)];exact pa
  by_cases hc:c=34
  ·subst hc;have ht:=XA h;by_cases hq:t.head?=some 34
   ·obtain ⟨u,rfl⟩:=Q3 hq;simp only [zamM] at hl hM hk ha;rw [jn] at hr⊢;have g2:=Tn ht;have pb:=Q4 (k:=1) ht (t:=u) rfl (by simp);have w2:IntKind.i64.wrap (pos s (34::u)+1)=pos s u:=by rw [ql (by unfold pos;omega)];exact pb
    rw [qm (v':=(BR (acc++ [34]),BR s,pos s u,b,l.length,l.map qu)) (by
     refine qb (zC p1) (qb p0 (qa g (qc rfl (qc (aA (show ¬IntKind.i64.wrap (pos s (34::34::u)+1)≥((BR s).size:Int) by rw [w1,qw];unfold pos;simp only [zamM];omega)) (qb (zC (show 0<=IntKind.i64.wrap (pos s (34::34::u)+1) by rw [w1];exact Rx _ _)) (qa (x:=34) (by show (BR s).toList[(IntKind.i64.wrap (pos s (34::34::u)+1)).toNat]?=_;rw [w1];exact g2) (qc rfl (qb (zC (show (BR acc).size+1<=9223372036854775807 by rw [qw];omega)) ?_))))))));rw [qh];show some (Sum.inl (BR acc++BR [34],BR s,IntKind.i64.wrap (IntKind.i64.wrap (pos s (34::34::u)+1)+1),b,l.length,l.map qu))=_;rw [w1,w2,U7])]
    exact Ng hs b l res k u _ M (by omega) (XA ht) (by simp;omega) (by omega) hr
   ·rw [jo acc t hq] at hr⊢;have hr:=hr acc t rfl;refine qe (qb (zC p1) (qb p0 (qa g (qc rfl ?_))));cases t with
    |nil=>
     refine qb (zC (show IntKind.i64.wrap (pos s [34]+1)≥((BR s).size:Int) by rw [w1,qw];unfold pos;simp)) ?_;rw [<-w1] at hr;exact qa hr rfl
    |cons d u=>
     have g2:=Tn ht;have hd:¬d=34:=λe=>hq (by rw [e];rfl)
     refine qc (aA (show ¬IntKind.i64.wrap (pos s (34::d::u)+1)≥((BR s).size:Int) by rw [w1,qw];unfold pos;simp only [zamM] at hl⊢;omega)) (qb (zC (show 0<=IntKind.i64.wrap (pos s (34::d::u)+1) by rw [w1];exact Rx _ _)) (qa (x:=d) (by show (BR s).toList[(IntKind.i64.wrap (pos s (34::d::u)+1)).toNat]?=_;rw [w1];exact g2) (qb ?_ ?_)))
     ·rw [bne_iff_ne];intro e;exact hd (UInt8.toNat_inj.1 (show d.toNat=34 by omega))
     ·rw [<-w1] at hr;exact qa hr rfl
  ·rw [jp acc t hc] at hr⊢;have hx:=WE (k:=1) h;rw [show ((1:Nat):Int)=1 from rfl] at hx pa;have hx:(BR s).extract (pos s (c::t)).toNat (IntKind.i64.wrap (pos s (c::t)+1)).toNat=BR [c]:=by
    rw [w1,<-pa];exact hx
   rw [qm (v':=(BR (acc++ [c]),BR s,pos s t,b,l.length,l.map qu)) (by
    refine qb (zC p1) (qb p0 (qa g (qb ?_ (qb (zC (show 0<=pos s (c::t)/\pos s (c::t)<=IntKind.i64.wrap (pos s (c::t)+1)/\IntKind.i64.wrap (pos s (c::t)+1)<=((BR s).size:Int) by rw [w1,qw];exact ⟨Rx _ _,by unfold pos;simp only [zamM];omega,by unfold pos;omega⟩)) (qb (zC (show (BR acc).size+((BR s).extract (pos s (c::t)).toNat (IntKind.i64.wrap (pos s (c::t)+1)).toNat).size<=9223372036854775807 by rw [hx,qw,qw];simp;omega)) ?_)))))
    ·rw [bne_iff_ne];intro e;exact hc (UInt8.toNat_inj.1 (show c.toNat=34 by omega))
    ·rw [qh];show some (Sum.inl (BR acc++(BR s).extract (pos s (c::t)).toNat (IntKind.i64.wrap (pos s (c::t)+1)).toNat,BR s,IntKind.i64.wrap (pos s (c::t)+1),b,l.length,l.map qu))=_;rw [hx,U7,w1])]
   exact Ng hs b l res k t _ M (by omega) (XA h) (by simp;omega) (by omega) hr
theorem eu {s:LBy} (hs:s.length<=1000) (q:PS) (h:q.1<:+s) (hn:q.2.2.length<=5000):Ev (K3 · (BR s) (pos s q.1) q.2.1 q.2.2.length (q.2.2.map qu)) (HT s (match GZ [] q.1 with
  |none=>(0,[],true,q.2.2)
  |some (w,t)=>Jl (nd1 (2,0,BR w)) (t,q.2))):=by
 have hl:=IY h;cases hq:GZ [] q.1 with
 |none=>
  refine ⟨q.1.length+2,λn hn=>?_⟩;obtain ⟨k,rfl,hm⟩:=up1 hn;have lp:=Ng hs (n:=k) q.2.1 q.2.2 (0,q) q.1.length q.1 [] k (zH _) h (by simp;omega) (by omega) (λw t e=>by rw [hq] at e;cases e);rw [hq] at lp;exact qa lp rfl
 |some wt=>
  obtain ⟨w,t⟩:=wt;have hw:=M6 _ _ _ (zH _) hq;simp only [zanD] at hw;obtain ⟨n1,h1⟩:=Qs (s:=s) (nd1 (2,0,BR w)) (t,q.2) hn ⟨by simp [kd,nd1],by simp only [nd1,qw];omega⟩;refine ⟨n1+q.1.length+2,λn hn=>?_⟩;obtain ⟨k,rfl,hm⟩:=up1 hn;have lp:=Ng hs (n:=k) q.2.1 q.2.2 (Jl (nd1 (2,0,BR w)) (t,q.2)) q.1.length q.1 [] k (zH _) h (by simp;omega) (by omega) (λw' t' e=>by rw [hq] at e;cases e;exact h1 k (by omega));rw [hq] at lp;exact qa lp rfl
theorem Yz:∀o∈G3,(D5 o).toList≠ []/\(D5 o).size<=2:=by decide+kernel
theorem ey:∀o∈G3,1<=o/\o<=11:=by decide
def opR:RW:=G3.map Fg
def rsL (level:Int) (r:LBy):List Int->LBy
 | []=>r
 |o::l=>if lvl o=level then rsL level (tb r) l else rsL level r l
theorem VA {s:LBy} (hs:s.length<=1000) {n:Nat} (level:Int) (R:LBy) (hR:tb R=R) (m:Nat) (rows:RW)
  (h1:∀o∈G3,HE n o=some (lvl o)) (h2:∀o∈G3,G4 n o=some (D5 o)):
  ∀(k i:Nat) (r:LBy) (M:Nat),i+k=11->k+1<=M->tb r=R->
  (∀r',tb r'=R->(r'=r\/r'=R)->∀o∈G3,ET n (D5 o) (BR s) (pos s r') false m rows=some (if (D5 o).toList.isPrefixOf R=true then (true,BR s,pos s (R.drop (D5 o).size),false,m,rows) else (false,BR s,pos s R,false,m,rows)))->
  zF (KN n) M (level,11,(i:Int),opR,BR s,pos s r,false,m,rows)=some (if JM level R (G3.drop i)=0 then .inr (BR s,pos s (rsL level r (G3.drop i)),false,m,rows) else .inl (JM level R (G3.drop i),BR s,pos s (R.drop (D5 (JM level R (G3.drop i))).size),false,m,rows))
 |k,i,r,0,_,h,_,_=>by omega
 |0,i,r,M+1,hk,_,_,_=>by
  have hi:i=11:=by omega
  subst hi;exact qe (qc rfl rfl)
 |k+1,i,r,M+1,hk,hM,hr,h3=>by
  have hi:i<G3.length:=by simp [G3];omega
  obtain ⟨o,ho⟩:∃o,G3[i]?=some o:=⟨_,zh hi⟩;have hin:=aC ho;have hR2:opR[i]?=some [PV.i .i64 o]:=by simp [opR,zamS,ho,Fg]
  have hc:zI .i64 [PV.i .i64 o] 0=some o:=rfl;have hd:G3.drop i=o::G3.drop (i+1):=KD ho;have w5:IntKind.i64.wrap ((i:Int)+1)=((i+1:Nat):Int):=by rw [ql (by omega)];omega
  have g1:decide ((i:Int)<((11:Nat):Int))=true:=zC (by omega);have g2:decide (11=opR.length/\0<=(i:Int)/\(i:Int)<((11:Nat):Int))=true:=zC ⟨rfl,by omega,by omega⟩;have h0:o≠0:=by have:=ey o hin;omega
  rw [hd];by_cases hl:lvl o=level
  ·have is:=h3 r hr (.inl rfl) o hin;by_cases hp:(D5 o).toList.isPrefixOf R=true
   ·have e:JM level R (o::G3.drop (i+1))=o:=by unfold JM;rw [if_pos ⟨hl,hp⟩]
    rw [e,if_neg h0];rw [if_pos hp] at is;exact qe (qb g1 (qb g2 (qa hR2 (qa hc (qa (h1 o hin) (qb (zanG.2 hl) (qb g2 (qa hR2 (qa hc (qa (h2 o hin) (qa is (qb rfl (qb g2 (qa hR2 (qa hc rfl)))))))))))))))
   ·have e:JM level R (o::G3.drop (i+1))=JM level R (G3.drop (i+1)):=by
     conv=>lhs;unfold JM
     rw [if_neg (λh=>hp h.2)]
    have e2:rsL level r (o::G3.drop (i+1))=rsL level R (G3.drop (i+1)):=by
     conv=>lhs;unfold rsL
     rw [if_pos hl,hr]
    rw [e,e2];rw [if_neg hp] at is;rw [qm (v':=(level,11,((i+1:Nat):Int),opR,BR s,pos s R,false,m,rows)) (by
     refine qb g1 (qb g2 (qa hR2 (qa hc (qa (h1 o hin) (qb (zanG.2 hl) (qb g2 (qa hR2 (qa hc (qa (h2 o hin) (qa is (qc rfl ?_)))))))))));rw [qh,w5])]
    exact VA hs level R hR m rows h1 h2 k (i+1) R M (by omega) (by omega) hR (λr' a b=>h3 r' a (.inr (b.elim id id)))
  ·have e:JM level R (o::G3.drop (i+1))=JM level R (G3.drop (i+1)):=by
    conv=>lhs;unfold JM
    rw [if_neg (λh=>hl h.1)]
   have e2:rsL level r (o::G3.drop (i+1))=rsL level r (G3.drop (i+1)):=by
    conv=>lhs;unfold rsL
    rw [if_neg hl]
   rw [e,e2];rw [qm (v':=(level,11,((i+1:Nat):Int),opR,BR s,pos s r,false,m,rows)) (by
    refine qb g1 (qb g2 (qa hR2 (qa hc (qa (h1 o hin) (qc (zanF.2 hl) ?_)))));rw [qh,w5])]
   exact VA hs level R hR m rows h1 h2 k (i+1) r M (by omega) (by omega) hr h3
theorem mz {level:Int} (h:1<=level/\level<=4) (r:LBy):rsL level r G3=tb r:=by
 have c:level=1\/level=2\/level=3\/level=4:=by omega
 rcases c with rfl|rfl|rfl|rfl<;>simp [rsL,G3,lvl,HS]
theorem nf {s:LBy} (hs:s.length<=1000) {level:Int} (hl:1<=level/\level<=4) (q:PS) (hb:q.2.1=false) (h:q.1<:+s):Ev (KQ · level (BR s) (pos s q.1) q.2.1 q.2.2.length (q.2.2.map qu)) (HT s (sOp level q)):=by
 obtain ⟨n1,h1⟩:=FJ (F:=λo n=>HE n o) (f:=lvl) G3 (λo _=>Pn o);obtain ⟨n2,h2⟩:=FJ (F:=λo n=>G4 n o) (f:=D5) G3 (λo ho=>M2 o (ey o ho));obtain ⟨n3,h3⟩:=FJ (F:=λo n=>ET n (D5 o) (BR s) (pos s q.1) q.2.1 q.2.2.length (q.2.2.map qu)) (f:=λo=>((sIs (D5 o).toList q).1,H0 s (sIs (D5 o).toList q).2)) G3 (λo ho=>by
  have:=M7 hs (D5 o).toList (by rw [EA];have:=(Yz o ho).2;omega) q h
  rwa [Ky] at this)
 obtain ⟨n4,h4⟩:=FJ (F:=λo n=>ET n (D5 o) (BR s) (pos s (tb q.1)) q.2.1 q.2.2.length (q.2.2.map qu)) (f:=λo=>((sIs (D5 o).toList (tb q.1,q.2)).1,H0 s (sIs (D5 o).toList (tb q.1,q.2)).2)) G3 (λo ho=>by
  have:=M7 hs (D5 o).toList (by rw [EA];have:=(Yz o ho).2;omega) (tb q.1,q.2) (i6 h)
  rwa [Ky] at this)
 refine ⟨n1+n2+n3+n4+13,λn hn=>?_⟩;obtain ⟨k,rfl,hm⟩:=up1 hn;have lp:=VA hs (n:=k) level (tb q.1) (HS q.1) q.2.2.length (q.2.2.map qu) (h1 k (by omega)) (h2 k (by omega)) 11 0 q.1 k (by omega) (by omega) rfl (λr' _ hr' o ho=>by
  rcases hr' with rfl|rfl
  ·have:=h3 k (by omega) o ho;rw [hb] at this;refine this.trans ?_;unfold sIs;rw [if_neg (by rw [hb];simp)];by_cases hp:(D5 o).toList.isPrefixOf (tb q.1)=true
   ·rw [if_pos hp,if_pos hp,EA];simp only [H0,hb]
   ·rw [if_neg hp,if_neg hp];simp only [H0,hb]
  ·have:=h4 k (by omega) o ho;rw [hb] at this;refine this.trans ?_;unfold sIs;rw [if_neg (by rw [hb];simp)];simp only [HS];by_cases hp:(D5 o).toList.isPrefixOf (tb q.1)=true
   ·rw [if_pos hp,if_pos hp,EA];simp only [H0,hb]
   ·rw [if_neg hp,if_neg hp];simp only [H0,hb])
 rw [List.drop_zero,mz hl] at lp;unfold sOp;rw [if_neg (by rw [hb];simp)];show KQ (k+1) level (BR s) (pos s q.1) q.2.1 q.2.2.length (q.2.2.map qu)=_;rw [hb];by_cases h0:JM level (tb q.1) G3=0
 ·rw [if_pos h0] at lp;rw [if_pos h0];refine qa lp ?_;simp only [HT,H0,hb,h0];rfl
 ·rw [if_neg h0] at lp;rw [if_neg h0];refine qa lp ?_;simp only [HT,H0,hb];rfl
theorem XC {s:LBy} (hs:s.length<=1000) {n:Nat} (r:LBy) (hr:r<:+s) (b:Bool) (l:List Nd)
  (h1:∀i,1<=i/\i<=5->F3 n i=some (qq i)) (h2:∀i,1<=i/\i<=5->H8 n i=some (4,i,em))
  (h4:∀i,1<=i/\i<=5->EI n 1 0 4 i em 0 0 false false 0 0 false false [] (BR s) (pos s (r.drop ((qq i).size-1))) b l.length (l.map qu)=some (HT s (Jl (nd1 (4,i,em)) (r.drop ((qq i).size-1),b,l)))):
  ∀(k:Nat) (i:Int) (M:Nat),1<=i->i+k=6->k+1<=M->zF (Ha n) M (i,BR s,pos s r,b,l.length,l.map qu)=some (match ZU r i k with
   |some e=> .inl (HT s (Jl (nd1 (4,e,em)) (r.drop ((qq e).size-1),b,l)))
   |none=> .inr (BR s,pos s r,b,l.length,l.map qu))
 |k,i,0,_,_,h=>by omega
 |0,i,M+1,hi,hk,h=>by
  exact qe (qc (aA (show ¬i<=5 by omega)) rfl)
 |k+1,i,M+1,hi,hk,h=>by
  have hi5:1<=i/\i<=5:=⟨hi,by omega⟩;have hsz:1<=(qq i).size/\(qq i).size<=7:=by
   have c:i=1\/i=2\/i=3\/i=4\/i=5:=by omega
   rcases c with rfl|rfl|rfl|rfl|rfl<;>decide+kernel
  have hx:(qq i).extract ((1:Int)).toNat (((qq i).size:Nat):Int).toNat=BR (qq i).toList.tail:=by
   conv=>lhs;rw [<-Ky (qq i)]
   rw [Ly,qw,EA]
   congr 1
   rw [cT,List.take_of_length_le (by rw [EA];omega)];exact List.drop_one
  have hxs:((qq i).extract ((1:Int)).toNat (((qq i).size:Nat):Int).toNat).size=(qq i).size-1:=by
   rw [hx,qw,List.length_tail,EA]
  have hl:=IY hr;have w1:IntKind.i64.wrap (pos s r+(((qq i).extract ((1:Int)).toNat (((qq i).size:Nat):Int).toNat).size:Int))=pos s r+(((qq i).size-1:Nat):Int):=by
   rw [hxs];exact ql (by unfold pos;omega)
  have w2:IntKind.i64.wrap (i+1)=i+1:=ql (by omega);have ih:=XC hs r hr b l h1 h2 h4 k (i+1) M (by omega) (by omega) (by omega);unfold ZU;by_cases hf:pos s r+(((qq i).size-1:Nat):Int)<=(s.length:Int)
  ·have hk2:(qq i).size-1<=r.length:=by unfold pos at hf;omega
   have cmp:(((BR s).extract (pos s r).toNat (IntKind.i64.wrap (pos s r+(((qq i).extract ((1:Int)).toNat (((qq i).size:Nat):Int).toNat).size:Int))).toNat).toList==((qq i).extract ((1:Int)).toNat (((qq i).size:Nat):Int).toNat).toList)=true↔(qq i).toList.tail.isPrefixOf r=true:=by
    rw [w1,WE hr,hx,Ek,Ek,zanG,List.isPrefixOf_iff_prefix,List.prefix_iff_eq_take,List.length_tail,EA];exact ⟨λe=>e.symm,λe=>e.symm⟩
   have g1:decide (IntKind.i64.wrap (pos s r+(((qq i).extract ((1:Int)).toNat (((qq i).size:Nat):Int).toNat).size:Int))<=((BR s).size:Int))=true:=zC (by rw [w1,qw];exact hf);have g2:decide (0<=pos s r/\pos s r<=IntKind.i64.wrap (pos s r+(((qq i).extract ((1:Int)).toNat (((qq i).size:Nat):Int).toNat).size:Int))/\IntKind.i64.wrap (pos s r+(((qq i).extract ((1:Int)).toNat (((qq i).size:Nat):Int).toNat).size:Int))<=((BR s).size:Int))=true:=zC (by rw [w1,qw];exact ⟨Rx _ _,by omega,hf⟩);by_cases hp:(qq i).toList.tail.isPrefixOf r=true
   ·rw [if_pos hp];have h4:=h4 i hi5;rw [<-Q4 hr rfl hk2,<-w1] at h4;exact qe (qb (zC (show i<=5 by omega)) (qa (h1 i hi5) (qb (zC ⟨by decide,by omega,Int.le_refl _⟩) (qb g1 (qb g2 (qb (cmp.2 hp) (qa (h2 i hi5) (qa h4 rfl))))))))
   ·rw [if_neg hp];rw [qm (v':=(i+1,BR s,pos s r,b,l.length,l.map qu)) (by
     refine qb (zC (show i<=5 by omega)) (qa (h1 i hi5) (qb (zC ⟨by decide,by omega,Int.le_refl _⟩) (qb g1 (qb g2 (qc (by rw [bX];exact λe=>hp (cmp.1 e)) ?_)))));rw [qh,w2])]
    exact ih
  ·have hp:¬(qq i).toList.tail.isPrefixOf r=true:=by
    intro e;have:=(List.isPrefixOf_iff_prefix.1 e).length_le;rw [List.length_tail,EA] at this;unfold pos at hf;omega
   rw [if_neg hp];rw [qm (v':=(i+1,BR s,pos s r,b,l.length,l.map qu)) (by
    refine qb (zC (show i<=5 by omega)) (qa (h1 i hi5) (qb (zC ⟨by decide,by omega,Int.le_refl _⟩) (qc (aA (by rw [w1,qw];exact hf)) ?_)));rw [qh,w2])]
   exact ih
theorem ju {s:LBy} (hs:s.length<=1000) (r:LBy) (hr:r<:+s) (b:Bool) (l:List Nd) (hl:l.length<=5000):∃n0,∀n,n0<=n->∀M,n0<=M->zF (Ha n) M (1,BR s,pos s r,b,l.length,l.map qu)=some (match ZU r 1 5 with
   |some e=> .inl (HT s (Jl (nd1 (4,e,em)) (r.drop ((qq e).size-1),b,l)))
   |none=> .inr (BR s,pos s r,b,l.length,l.map qu)):=by
 obtain ⟨n1,h1⟩:=MJ (F:=F3) (f:=qq) (lo:=1) (by decide) (λi hi=>Mz i ⟨by omega,hi.2⟩);obtain ⟨n2,h2⟩:=MJ (F:=H8) (f:=λi=>(4,i,em)) (lo:=1) (by decide) (λi _=>V6 i);obtain ⟨n4,h4⟩:=MJ (F:=λn i=>EI n 1 0 4 i em 0 0 false false 0 0 false false [] (BR s) (pos s (r.drop ((qq i).size-1))) b l.length (l.map qu)) (f:=λi=>HT s (Jl (nd1 (4,i,em)) (r.drop ((qq i).size-1),b,l))) (lo:=1) (by decide) (λi _=>Qs (s:=s) (nd1 (4,i,em)) (r.drop ((qq i).size-1),b,l) hl ⟨by simp [kd,nd1],by simp [nd1,em];decide⟩);exact ⟨n1+n2+n4+7,λn hn M hM=>XC hs r hr b l (h1 n (by omega)) (h2 n (by omega)) (h4 n (by omega)) 5 1 M (by omega) (by omega) (by omega)⟩
theorem jv:∃n0,∀n,n0<=n->∀i,1<=i/\i<=10->HY n i=some (fnS i):=by
 obtain ⟨n1,h1⟩:=FJ (F:=λ(i:Nat) n=>HY n ((i:Int)+1)) (f:=λi=>fnS ((i:Int)+1)) (List.range 10) (λi hi=>Td _ (by have:=List.mem_range.1 hi;omega));refine ⟨n1,λn hn i hi=>?_⟩;have:=h1 n hn (i-1).toNat (List.mem_range.2 (by omega))
 rwa [show (((i-1).toNat:Nat):Int)+1=i by omega] at this
theorem ng {i j:Int} (hi:1<=i/\i<=10) (hj:1<=j/\j<=10) (h:(fnS i).toList=(fnS j).toList):i=j:=by
 have t:∀a:Fin 10,∀b:Fin 10,(fnS (((a.val:Nat):Int)+1)).toList=(fnS (((b.val:Nat):Int)+1)).toList->a=b:=by decide+kernel
 have:=t ⟨(i-1).toNat,by omega⟩ ⟨(j-1).toNat,by omega⟩ (by
  simp only;rw [show (((i-1).toNat:Nat):Int)+1=i by omega,show (((j-1).toNat:Nat):Int)+1=j by omega];exact h)
 have:=congrArg Fin.val this;simp only at this;omega
theorem YM {g:G_spec_l3Rd_row} {n:Nat} {s:LBy} (w:LBy) (q:PS) (h1:∀i,1<=i/\i<=10->HY n i=some (fnS i)):
  ∀(k:Nat) (i:Int) (M:Nat),1<=i->i+k=11->k+1<=M->(∀j,i<=j/\j<=10->(fnS j).toList≠w)->zF (IS g n) M (BR w,i,H0 s q)=some (.inr (BR w,H0 s q))
 |k,i,0,_,_,h,_=>by omega
 |0,i,M+1,hi,hk,h,_=>qe (qc (aA (show ¬i<=10 by omega)) rfl)
 |k+1,i,M+1,hi,hk,h,hn=>by
  have w1:IntKind.i64.wrap (i+1)=i+1:=ql (by omega);rw [qm (v':=(BR w,i+1,H0 s q)) (by
   refine qb (zC (show i<=10 by omega)) (qa (h1 i ⟨hi,by omega⟩) (qc (by rw [zanF];show (fnS i).toList≠(BR w).toList;rw [Ek];exact hn i ⟨Int.le_refl _,by omega⟩) ?_));rw [qh,w1])]
  exact YM w q h1 k (i+1) M (by omega) (by omega) (by omega) (λj hj=>hn j ⟨by omega,hj.2⟩)
theorem Q5 {g:G_spec_l3Rd_row} {n:Nat} {s:LBy} (w:LBy) (q:PS) (res:Int->Int×PS) (h1:∀i,1<=i/\i<=10->HY n i=some (fnS i))
  (h2:ET n ⟨#[40]⟩ (BR s) (pos s q.1) q.2.1 q.2.2.length (q.2.2.map qu)=some ((sIs [40] q).1,H0 s (sIs [40] q).2)):
  ∀(k:Nat) (i:Int) (M:Nat),1<=i->i+k=11->k+1<=M->(∀op,Lg w i k=some op->(sIs [40] q).1=true->g.spec_l3Rd_call op (BR s) (pos s (sIs [40] q).2.1) (sIs [40] q).2.2.1 (sIs [40] q).2.2.2.length ((sIs [40] q).2.2.2.map qu)=some (HT s (res op)))->
   zF (IS g n) M (BR w,i,H0 s q)=some (match Lg w i k with
   |some op=>if (sIs [40] q).1=true then .inl (HT s (res op)) else .inr (BR w,H0 s (sIs [40] q).2)
   |none=> .inr (BR w,H0 s q))
 |k,i,0,_,_,h,_=>by omega
 |0,i,M+1,hi,hk,h,_=>qe (qc (aA (show ¬i<=10 by omega)) rfl)
 |k+1,i,M+1,hi,hk,h,hc=>by
  have w1:IntKind.i64.wrap (i+1)=i+1:=ql (by omega);unfold Lg at hc⊢;by_cases hq:(fnS i).toList=w
  ·rw [if_pos hq] at hc⊢;have hqb:((fnS i).toList==(BR w).toList)=true:=by rw [zanG,Ek];exact hq
   simp only;cases hi2:(sIs [40] q).1 with
   |true=>
    rw [if_pos rfl];exact qe (qb (zC (show i<=10 by omega)) (qa (h1 i ⟨hi,by omega⟩) (qb hqb (qa h2 (qb hi2 (qa (hc i rfl hi2) rfl))))))
   |false=>
    rw [if_neg (by simp)];rw [qm (v':=(BR w,i+1,H0 s (sIs [40] q).2)) (by
     refine qb (zC (show i<=10 by omega)) (qa (h1 i ⟨hi,by omega⟩) (qb hqb (qa h2 (qc hi2 ?_))));rw [qh,w1])]
    exact YM w _ h1 k (i+1) M (by omega) (by omega) (by omega) (λj hj e=>by
     have:=ng (i:=i) (j:=j) ⟨hi,by omega⟩ ⟨by omega,hj.2⟩ (hq.trans e.symm);omega)
  ·rw [if_neg hq] at hc⊢;rw [qm (v':=(BR w,i+1,H0 s q)) (by
    refine qb (zC (show i<=10 by omega)) (qa (h1 i ⟨hi,by omega⟩) (qc (by rw [zanF];show (fnS i).toList≠(BR w).toList;rw [Ek];exact hq) ?_));rw [qh,w1])]
   exact Q5 w q res h1 h2 k (i+1) M (by omega) (by omega) (by omega) hc
structure Go (k:Nat) (q q':PS):Prop where
 suf:q'.1<:+q.1
 sum:q'.2.2.length+q'.1.length+k<=q.2.2.length+q.1.length
 sm:(∀x∈q.2.2,Xu x)->∀x∈q'.2.2,Xu x
theorem Go.refl (q:PS):Go 0 q q:=⟨List.suffix_rfl,zH _,id⟩
theorem Go.trans {a b:Nat} {p q r:PS} (h:Go a p q) (h':Go b q r):Go (a+b) p r:=⟨h'.suf.trans h.suf,by have:=h.sum;have:=h'.sum;omega,λe=>h'.sm (h.sm e)⟩
theorem Go.tr0 {p q r:PS} (h:Go 0 p q) (h':Go 0 q r):Go 0 p r:=h.trans h'
theorem Go.add {p q:PS} {x:Nd} (h:Go 1 p q) (hx:Xu x):Go 0 p (Jl x q).2:=by
 refine ⟨h.suf,?_,λe y hy=>?_⟩
 ·have:=h.sum;simp only [Jl,zamO,List.length_singleton];omega
 ·simp only [Jl,List.mem_append,zamQ] at hy;rcases hy with hy|rfl
  ·exact h.sm e y hy
  ·exact hx
theorem Go.weak {k:Nat} {p q:PS} (h:Go k p q):Go 0 p q:=⟨h.suf,by have:=h.sum;omega,h.sm⟩
theorem Go.of (q:PS) {r:LBy} (b:Bool) {k:Nat} (h:r<:+q.1) (hk:r.length+k<=q.1.length):Go k q (r,b,q.2.2):=⟨h,by simp only;omega,id⟩
theorem To (q:PS):Go 0 q (tb q.1,q.2):=⟨List.dropWhile_suffix _,by have:=EO q.1;simp only;omega,id⟩
theorem YN (q:PS):Go 0 q (wr (tb q.1),q.2):=⟨(List.dropWhile_suffix _).trans (List.dropWhile_suffix _),by have:=EO q.1;have:=M4 (tb q.1);simp only;omega,id⟩
theorem ez (q:PS) (h:wd (tb q.1)≠ []):Go 1 q (wr (tb q.1),q.2):=⟨(List.dropWhile_suffix _).trans (List.dropWhile_suffix _),by
 have:=EO q.1;have e:=congrArg List.length (wdr (tb q.1));have:=List.length_pos_iff.2 h;simp only [zamO] at e;simp only;omega,id⟩
theorem Ry {w:LBy} {q:PS} (h:(sIs w q).1=true):w<+:tb q.1/\(sIs w q).2=((tb q.1).drop w.length,q.2)/\q.2.1=false:=by
 unfold sIs at h⊢;split at h
 ·cases h
 ·rename_i hb;rw [if_neg hb];split at h
  ·rename_i hp;rw [if_pos hp];exact ⟨List.isPrefixOf_iff_prefix.1 hp,rfl,by rw [bX];exact hb⟩
  ·cases h
theorem YO {w:LBy} {q:PS} (h:(sIs w q).1=false):(sIs w q).2=(tb q.1,q.2):=by
 unfold sIs at h⊢;split at h
 ·rename_i hb;rw [if_pos hb]
 ·rename_i hb;rw [if_neg hb];split at h
  ·cases h
  ·rename_i hp;rw [if_neg hp]
theorem Qt (w:LBy) (q:PS):Go 0 q (sIs w q).2:=by
 cases h:(sIs w q).1 with
 |true=>
  obtain ⟨_,h2,_⟩:=Ry h;rw [h2];exact Go.tr0 (To q) ⟨List.drop_suffix _ _,by simp,id⟩
 |false=>rw [YO h];exact To q
theorem Kr {w:LBy} (hw:w≠ []) {q:PS} (h:(sIs w q).1=true):Go 1 q (sIs w q).2:=by
 obtain ⟨h1,h2,_⟩:=Ry h;rw [h2];have l1:=h1.length_le;have l2:=List.length_pos_iff.2 hw;have:=EO q.1;exact ⟨(List.drop_suffix _ _).trans (List.dropWhile_suffix _),by simp;omega,id⟩
theorem XD {k:Nat} {p q:PS} (h:Go k p q):Go k p (Sj q):=⟨h.suf,h.sum,h.sm⟩
theorem fa:∀(t r:LBy),(tb r).length<=(tb (t++r)).length
 | [],r=>zH _
 |c::t,r=>by
  have ih:=fa t r;have:=EO (t++r);by_cases hc:c=32
  ·rw [show tb (c::t++r)=tb (t++r) by simp [tb,hc]];exact ih
  ·rw [show tb (c::t++r)=c::(t++r) by simp [tb,hc]];simp only [zamM];omega
theorem Go.tb {k:Nat} {p q:PS} (h:Go k p q):(tb q.1).length<=(tb p.1).length:=by
 obtain ⟨t,ht⟩:=h.suf;rw [<-ht];exact fa t q.1
theorem ai {w:LBy} (hw:w≠ []) {q:PS} (h:(sIs w q).1=true):(tb (sIs w q).2.1).length<(tb q.1).length:=by
 obtain ⟨h1,h2,_⟩:=Ry h;rw [h2];exact Yx hw h1
theorem aj (level:Int) (r:LBy):∀l:List Int,JM level r l≠0->JM level r l∈l/\(D5 (JM level r l)).toList<+:r
 | [],h=>absurd rfl h
 |o::l,h=>by
  unfold JM at h⊢;split at h
  ·rename_i hc;rw [if_pos hc];exact ⟨zamN ..,List.isPrefixOf_iff_prefix.1 hc.2⟩
  ·rename_i hc;rw [if_neg hc];have:=aj level r l h;exact ⟨zamR _ this.1,this.2⟩
theorem ly (level:Int) (q:PS):Go 0 q (sOp level q).2/\((sOp level q).1≠0->Go 1 q (sOp level q).2/\(tb (sOp level q).2.1).length<(tb q.1).length):=by
 unfold sOp;split
 ·exact ⟨To q,λh=>absurd rfl h⟩
 ·simp only;by_cases h:JM level (tb q.1) G3=0
  ·rw [if_pos h];exact ⟨To q,λe=>absurd h e⟩
  ·rw [if_neg h];obtain ⟨h1,h2⟩:=aj level (tb q.1) G3 h;have ne:=(Yz _ h1).1;have l1:=h2.length_le;have l2:=List.length_pos_iff.2 ne;rw [EA] at l1 l2;have l3:=EO q.1;have g:Go 1 q ((tb q.1).drop (D5 (JM level (tb q.1) G3)).size,q.2):=⟨(List.drop_suffix _ _).trans (List.dropWhile_suffix _),by simp;omega,id⟩;have t:=Yx ne h2;rw [EA] at t;exact ⟨g.weak,λ_=>⟨g,t⟩⟩
theorem VB:∀(k:Nat) (acc r:LBy) {w t:LBy},r.length<=k->GZ acc r=some (w,t)->t<:+r
 |k,acc,[],w,t,hk,h=>by simp [GZ] at h
 |0,acc,c::r,w,t,hk,h=>by simp at hk
 |k+1,acc,c::r,w,t,hk,h=>by
  simp only [zamM] at hk;by_cases hc:c=34
  ·subst hc;by_cases hq:r.head?=some 34
   ·obtain ⟨u,rfl⟩:=Q3 hq;rw [jn] at h;simp only [zamM] at hk;have:=VB k _ u (by omega) h;exact this.trans ((List.suffix_cons 34 u).trans (List.suffix_cons 34 _))
   ·rw [jo acc r hq] at h;cases h;exact List.suffix_cons 34 _
  ·rw [jp acc r hc] at h;exact (VB k _ r (by omega) h).trans (List.suffix_cons c _)
def Ks:SJ->PS->Prop
 | .call _ kids,q=>q.2.1=true\/kids.length+q.1.length<=1500
 |_,_=>True
theorem PH {k op:Int} {kids:List Int} (h:kids.length<=2000):Xu (ndK k op kids):=⟨h,by simp [ndK,em];decide⟩
theorem Gg {k:Nat} {p q:PS} (h:Go k p q):q.1.length<=p.1.length:=h.suf.length_le
theorem K0 (H:RdOK):∀(f:Nat) (j:SJ) (q:PS),q.1.length<=1000->Ks j q->Go 0 q (sP f j q).2
 |0,j,q,_,_=>Go.refl q
 |f+1,.row level,q,hr,_=>by
  unfold sP;split
  ·exact Go.refl q
  ·split
   ·exact K0 H f .one q hr trivial
   ·have a:=K0 H f (.row (level+1)) q hr trivial;exact a.tr0 (K0 H f (.rl level _) _ (zU (Gg a) hr) trivial)
 |f+1,.rl level a,q,hr,_=>by
  unfold sP;split
  ·exact Go.refl q
  ·simp only;have o:=ly level q;split
   ·exact o.1
   ·rename_i h0;have o1:=(o.2 h0).1;have b:=K0 H f (.row (level+1)) (sOp level q).2 (zU (Gg o1) hr) trivial;have c:=Go.add (x:=ndK 5 (sOp level q).1 [a,(sP f (.row (level+1)) (sOp level q).2).1]) (o1.trans b) (PH (by simp));exact c.tr0 (K0 H f (.rl level _) _ (zU (Gg c) hr) trivial)
 |f+1,.one,q,hr,_=>by
  unfold sP;split
  ·rename_i h;have a:=Kr (by simp) h;have b:=K0 H f (.row 5) (sIs [45] q).2 (zU (Gg a) hr) trivial;exact Go.add (a.trans b) (PH (by simp))
  ·have a:=Qt [45] q;split
   ·rename_i h;have c:=a.tr0 (Kr (by simp) h).weak;have b:=K0 H f (.row 1) (sIs [40] (sIs [45] q).2).2 (zU (Gg c) hr) trivial;have d:=(c.tr0 b).tr0 (Qt [41] _);simp only;split
    ·exact d
    ·exact XD d
   ·simp only;have t:=To q;split
    ·rename_i h;have c:=Kr (by simp) h;obtain ⟨_,e,_⟩:=Ry h;split
     ·exact ⟨List.nil_suffix,by simp,id⟩
     ·rename_i w u hq;have d:=VB _ _ _ (zH _) hq;have d2:=d.length_le;have dz:=M6 _ _ _ (zH _) hq;have g:=t.trans c;have l:=Gg g;have sg:=g.sum;have eq:(sIs [34] (tb q.1,q.2)).2.2=q.2:=by rw [e]
      rw [eq] at sg;simp only [zanD] at dz;exact Go.add (q:=(u,q.2)) ⟨d.trans g.suf,by simp only;omega,id⟩ ⟨by simp [kd,nd1],by simp only [nd1,qw];omega⟩
    ·split
     ·rename_i h;have c:=Kr (by simp) h;obtain ⟨_,e,_⟩:=Ry h;have g:=t.trans c;have l:=Gg g;have sg:=g.sum;have eq:(sIs [35] (tb q.1,q.2)).2.2=q.2:=by rw [e]
      rw [eq] at sg;split
      ·exact Go.add (q:=(_,q.2)) ⟨(List.drop_suffix _ _).trans g.suf,by simp;omega,id⟩ ⟨by simp [kd,nd1],by simp [nd1,em];decide⟩
      ·exact ⟨g.suf,by simp only;omega,id⟩
     ·have w:=YN q;split
      ·split
       ·have c:=w.tr0 (Qt [40] _);exact c.tr0 (K0 H f (.call _ []) _ (zU (Gg c) hr) (.inr (by have:=Gg c;simp only [zanD];omega)))
       ·exact XD (w.tr0 (Qt [40] _))
      ·split
       ·rename_i hv;exact Go.add (ez q hv.2) ⟨by simp [kd,nd1],Qr hv.1 (H.v _ (f6 _) hv.2 hv.1)⟩
       ·split
        ·rename_i hp;exact Go.add (ez q (λe=>by rw [e,H.p0] at hp;cases hp)) ⟨by simp [kd,ndC],by simp [ndC,em];decide⟩
        ·exact XD w
 |f+1,.call op kids,q,hr,hk=>by
  unfold sP;split
  ·exact Go.refl q
  ·rename_i hb;have hk:kids.length+q.1.length<=1500:=hk.elim (λh=>absurd h hb) id;have a:=K0 H f .arg q hr trivial;simp only;split
   ·rename_i h;exact Go.add (a.trans (Kr (by simp) h)) (PH (by simp;omega))
   ·have c:=a.tr0 (Qt [41] _);split
    ·rename_i h;have d:=c.trans (Kr (by simp) h);obtain ⟨e1,e2,_⟩:=Ry h;have l:=e1.length_le;have l2:=Gg c;have l3:=EO (sIs [41] (sP f .arg q).2).2.1;simp only [zamM,zanD] at l;exact d.weak.tr0 (K0 H f (.call op _) _ (zU (Gg d) hr) (.inr (by rw [e2];simp;omega)))
    ·have d:=XD (c.tr0 (Qt [44] _));exact d.tr0 (K0 H f (.call op _) _ (zU (Gg d) hr) (.inl rfl))
 |f+1,.arg,q,hr,_=>by
  unfold sP;simp only;have w:=YN q;split
  ·rename_i h;have c:=w.trans (Kr (by simp) h.2);have d:=c.trans (YN _);split
   ·exact Go.add d ⟨by simp [kd,ndA],by simp [ndA,em];decide⟩
   ·exact ⟨d.suf,by have:=d.sum;simp only at this⊢;omega,d.sm⟩
  ·have t:=To q;exact t.tr0 (K0 H f (.row 1) _ (zU (Gg t) hr) trivial)
def As (f:Nat):SJ->PS->Prop
 | .row level,q=>((20*(tb q.1).length+10:Nat):Int)-level<=f/\1<=level/\level<=5
 | .rl level _,q=>20*(tb q.1).length+5<=f/\1<=level/\level<=4
 | .one,q=>20*(tb q.1).length+4<=f/\q.2.1=false
 | .call _ _,q=>(q.2.1=true/\1<=f)\/20*(tb q.1).length+12<=f
 | .arg,q=>20*(tb q.1).length+10<=f
def Iv (s:LBy) (q:PS):Prop:=q.1<:+s/\q.2.2.length+q.1.length<=2000
theorem Iv.go {s:LBy} {k:Nat} {q q':PS} (h:Iv s q) (g:Go k q q'):Iv s q':=⟨g.suf.trans h.1,by have:=g.sum;have:=h.2;omega⟩
def Ws (s:LBy):SJ->PS->Int×PS->Prop
 | .row level,q,r=>Ev (Jo · level (BR s) (pos s q.1) q.2.1 q.2.2.length (q.2.2.map qu)) (HT s r)
 | .rl level a,q,r=>∃x,(x= .inl (HT s r)\/x= .inr (HT s r))/\∃n0,∀n,n0<=n->∀M,n0<=M->zF (Jx (qz n) n) M (level,a,H0 s q)=some x
 | .one,q,r=>Ev (PU · (BR s) (pos s q.1) q.2.1 q.2.2.length (q.2.2.map qu)) (HT s r)
 | .call op kids,q,r=>∃x,(x= .inl (HT s r)\/(x= .inr (H0 s r.2)/\r.1=0))/\∃n0,∀n,n0<=n->∀M,n0<=M->zF (JS (qz n) n) M (op,kids.length,kids.map Fg,H0 s q)=some x
 | .arg,q,r=>Ev (PW · (BR s) (pos s q.1) q.2.1 q.2.2.length (q.2.2.map qu)) (HT s r)
theorem srp (r:LBy) (h:r.length<=1000):Ev (FA · (BR (wd r))) (Ec (BR (wd r))):=NY _ (by rw [qw];have:=Yw r;omega)
theorem srv (r:LBy) (h:r.length<=1000):Ev (EZ · (BR (wd r))) (q7 (BR (wd r))):=NX _ (by rw [qw];have:=Yw r;omega)
theorem pj {r:LBy} (h:wd r≠ []):(tb (wr r)).length<r.length:=by
 have e:=congrArg List.length (wdr r);have:=List.length_pos_iff.2 h;have:=EO (wr r);simp only [zamO] at e;omega
def Y0 (n:Nat) (w:BA) (c:BA×Int×Bool×Nat×RW):Tr (Int×BA×Int×Bool×Nat×RW):=
 (.opt (FA n w) λr=>(.ask (!r.2.2.2.2) (.done (0,c.1,c.2.1,true,c.2.2.2.1,c.2.2.2.2))
  (.opt (EI n 2 0 0 0 ⟨#[]⟩ r.1 r.2.1 r.2.2.1 r.2.2.2.1 0 0 false false [] c.1 c.2.1 c.2.2.1 c.2.2.2.1 c.2.2.2.2) λt=> .done (t.1,t.2.1,t.2.2.1,t.2.2.2.1,t.2.2.2.2.1,t.2.2.2.2.2))))
def nh (n:Nat) (w:BA) (c:BA×Int×Bool×Nat×RW):Tr (Int×BA×Int×Bool×Nat×RW):=
 (.opt (EZ n w) λr=>(.ask r.2.2.2
  (.ask (!(w.toList==(⟨#[]⟩:BA).toList))
   (.opt (EI n 1 0 r.1 r.2.1 r.2.2.1 0 0 false false 0 0 false false [] c.1 c.2.1 c.2.2.1 c.2.2.2.1 c.2.2.2.2) λt=> .done (t.1,t.2.1,t.2.2.1,t.2.2.2.1,t.2.2.2.2.1,t.2.2.2.2.2))
   (Y0 n w c))
  (Y0 n w c)))
def XE (w:LBy) (q3:PS):Int×PS:=
 if (q7 (BR w)).2.2.2=true/\w≠ [] then Jl (nd1 ((q7 (BR w)).1,(q7 (BR w)).2.1,(q7 (BR w)).2.2.1)) q3
 else if (Ec (BR w)).2.2.2.2=true then Jl (ndC (Ec (BR w))) q3
 else (0,Sj q3)
theorem YP (H:RdOK) {s:LBy} (r:LBy) (q:PS) (hr:r.length<=1000) (hn:q.2.2.length<=5000):∃n0,∀n,n0<=n->(nh n (BR (wd r)) (H0 s q)).run=some (HT s (XE (wd r) q)):=by
 obtain ⟨n1,h1⟩:=srv r hr;obtain ⟨n2,h2⟩:=srp r hr;obtain ⟨n4,h4⟩:=Qs (s:=s) (ndC (Ec (BR (wd r)))) q hn ⟨by simp [kd,ndC],by simp [ndC,em];decide⟩;have place:∃n0,∀n,n0<=n->(Y0 n (BR (wd r)) (H0 s q)).run=some (HT s (if (Ec (BR (wd r))).2.2.2.2=true then Jl (ndC (Ec (BR (wd r)))) q else (0,Sj q))):=by
  refine ⟨n2+n4,λn hn=>?_⟩;cases hp:(Ec (BR (wd r))).2.2.2.2 with
  |true=>rw [if_pos rfl];exact qa (h2 n (by omega)) (qc (IP hp) (qa (h4 n (by omega)) rfl))
  |false=>rw [if_neg (by simp)];exact qa (h2 n (by omega)) (qb (JO hp) rfl)
 obtain ⟨n5,h5⟩:=place;by_cases hv:(q7 (BR (wd r))).2.2.2=true/\wd r≠ []
 ·obtain ⟨n3,h3⟩:=Qs (s:=s) (nd1 ((q7 (BR (wd r))).1,(q7 (BR (wd r))).2.1,(q7 (BR (wd r))).2.2.1)) q hn ⟨by simp [kd,nd1],Qr hv.1 (H.v _ (f6 _) hv.2 hv.1)⟩;refine ⟨n1+n3,λn hn=>?_⟩;unfold XE;rw [if_pos hv];exact qa (h1 n (by omega)) (qb hv.1 (qb (JO (by rw [zanF,Ek,qy];exact hv.2)) (qa (h3 n (by omega)) rfl)))
 ·refine ⟨n1+n5,λn hn=>?_⟩;unfold XE;rw [if_neg hv];refine qa (h1 n (by omega)) ?_;by_cases ho:(q7 (BR (wd r))).2.2.2=true
  ·have e:wd r= []:=Classical.byContradiction λe=>hv ⟨ho,e⟩
   exact qb ho (qc (IP (by rw [zanG,Ek,qy];exact e)) (h5 n (by omega)))
  ·exact qc (by rw [bX];exact ho) (h5 n (by omega))
theorem LM (H:RdOK) {s:LBy} (hs:s.length<=1000):∀(f:Nat) (j:SJ) (q:PS),As f j q->Iv s q->Ks j q->Ws s j q (sP f j q)
 |0,j,q,ha,_,_=>by cases j<;>simp [As] at ha<;>omega
 |f+1,.row level,q,ha,hi,_=>by
  obtain ⟨ha,hl1,hl5⟩:=ha;have hr:q.1.length<=1000:=zU (IY hi.1) hs;unfold sP;by_cases hb:q.2.1=true
  ·rw [if_pos hb];refine ⟨1,λn hn=>?_⟩;obtain ⟨k,rfl,hm⟩:=up1 hn;exact qb hb rfl
  ·have hb:q.2.1=false:=by rw [bX];exact hb
   rw [if_neg (by rw [hb];simp)];by_cases h5:level=5
   ·rw [if_pos h5];obtain ⟨n1,h1⟩:=LM H hs f .one q ⟨by omega,hb⟩ hi trivial;refine ⟨n1+1,λn hn=>?_⟩;obtain ⟨k,rfl,hm⟩:=up1 hn;exact qc hb (qb (zanG.2 h5) (qa (h1 k (by omega)) rfl))
   ·rw [if_neg h5];have g:=K0 H f (.row (level+1)) q hr trivial;have gl:=g.tb;obtain ⟨n1,h1⟩:=LM H hs f (.row (level+1)) q ⟨by omega,by omega,by omega⟩ hi trivial;generalize sP f (.row (level+1)) q=Q at g gl h1⊢;obtain ⟨x,hx,n2,h2⟩:=LM H hs f (.rl level Q.1) Q.2 ⟨by omega,by omega,by omega⟩ (hi.go g) trivial;refine ⟨n1+n2+1,λn hn=>?_⟩;obtain ⟨k,rfl,hm⟩:=up1 hn;have w1:IntKind.i64.wrap (level+1)=level+1:=ql (by omega);have h1:=h1 k (by omega);rw [<-w1] at h1;have h2:=h2 k (by omega) k (by omega);rcases hx with rfl|rfl
    ·exact qc hb (qc (zanF.2 h5) (qa h1 (qa h2 rfl)))
    ·exact qc hb (qc (zanF.2 h5) (qa h1 (qa h2 rfl)))
 |f+1,.rl level a,q,ha,hi,_=>by
  obtain ⟨ha,hl1,hl4⟩:=ha;have hr:q.1.length<=1000:=zU (IY hi.1) hs;unfold sP;by_cases hb:q.2.1=true
  ·rw [if_pos hb];refine ⟨.inr (HT s (a,q)),.inr rfl,1,λn hn M hM=>?_⟩;obtain ⟨M,rfl,hM⟩:=up1 hM;exact qe (qc (IP hb) rfl)
  ·have hb:q.2.1=false:=by rw [bX];exact hb
   rw [if_neg (by rw [hb];simp)];simp only;obtain ⟨n1,h1⟩:=nf hs (level:=level) ⟨hl1,hl4⟩ q hb hi.1;have o:=ly level q;generalize sOp level q=O at h1 o⊢;by_cases h0:O.1=0
   ·rw [if_pos h0];refine ⟨.inl (HT s (a,O.2)),.inl rfl,n1+1,λn hn M hM=>?_⟩;obtain ⟨M,rfl,hM⟩:=up1 hM;exact qe (qb (JO hb) (qa (h1 n (by omega)) (qb (zanG.2 h0) rfl)))
   ·rw [if_neg h0];obtain ⟨o1,o2⟩:=o.2 h0;have b:=K0 H f (.row (level+1)) O.2 (zU (Gg o1) hr) trivial;obtain ⟨n2,h2⟩:=LM H hs f (.row (level+1)) O.2 ⟨by omega,by omega,by omega⟩ (hi.go o1) trivial;have ib:=(hi.go o1).go b;have tbb:=b.tb;have c:=Go.add (x:=ndK 5 O.1 [a,(sP f (.row (level+1)) O.2).1]) (o1.trans b) (PH (by simp));generalize sP f (.row (level+1)) O.2=Q at h2 b ib tbb c⊢;obtain ⟨n3,h3⟩:=Qs (s:=s) (ndK 5 O.1 [a,Q.1]) Q.2 (by have:=ib.2;omega) (PH (by simp));have rest:(Jl (ndK 5 O.1 [a,Q.1]) Q.2).2.1=Q.2.1:=rfl;generalize Jl (ndK 5 O.1 [a,Q.1]) Q.2=C at h3 c rest⊢;obtain ⟨x,hx,n4,h4⟩:=LM H hs f (.rl level C.1) C.2 ⟨by rw [rest];omega,hl1,hl4⟩ (hi.go c) trivial;refine ⟨x,hx,n1+n2+n3+n4+1,λn hn M hM=>?_⟩;obtain ⟨M,rfl,hM⟩:=up1 hM;have w1:IntKind.i64.wrap (level+1)=level+1:=ql (by omega);have h2:=h2 n (by omega);rw [<-w1] at h2;rw [qm (v':=(level,C.1,H0 s C.2)) (by
     exact qb (JO hb) (qa (h1 n (by omega)) (qc (zanF.2 h0) (qa h2 (qb rfl (qa (h3 n (by omega)) rfl))))))]
    exact h4 n (by omega) M (by omega)
 |f+1,.one,q,ha,hi,_=>by
  obtain ⟨ha,hb⟩:=ha;have hr:q.1.length<=1000:=zU (IY hi.1) hs;unfold sP;obtain ⟨n1,h1⟩:=M7 hs [45] (by simp) q hi.1;cases c1:(sIs [45] q).1 with
  |true=>
   rw [if_pos rfl];have a:=Kr (by simp) c1;have al:=ai (by simp) c1;have b:=K0 H f (.row 5) (sIs [45] q).2 (zU (Gg a) hr) trivial;obtain ⟨n2,h2⟩:=LM H hs f (.row 5) (sIs [45] q).2 ⟨by omega,by omega,by omega⟩ (hi.go a) trivial;have ib:=(hi.go a).go b;simp only;generalize sP f (.row 5) (sIs [45] q).2=Q at h2 ib⊢;obtain ⟨n3,h3⟩:=Qs (s:=s) (ndK 4 0 [Q.1]) Q.2 (by have:=ib.2;omega) (PH (by simp));refine ⟨n1+n2+n3+1,λn hn=>?_⟩;obtain ⟨k,rfl,hm⟩:=up1 hn;exact qa (h1 k (by omega)) (qb c1 (qa (h2 k (by omega)) (qb rfl (qa (h3 k (by omega)) rfl))))
  |false=>
   rw [if_neg (by simp)];have a:=Qt [45] q;obtain ⟨n2,h2⟩:=M7 hs [40] (by simp) (sIs [45] q).2 (hi.go a).1;cases c2:(sIs [40] (sIs [45] q).2).1 with
   |true=>
    rw [if_pos rfl];have b:=Kr (by simp) c2;have al:=ai (by simp) c2;have atb:=a.tb;have g1:=a.trans b;have b2:=K0 H f (.row 1) (sIs [40] (sIs [45] q).2).2 (zU (Gg g1) hr) trivial;obtain ⟨n3,h3⟩:=LM H hs f (.row 1) (sIs [40] (sIs [45] q).2).2 ⟨by omega,by omega,by omega⟩ (hi.go g1) trivial;have ib:=(hi.go g1).go b2;simp only;generalize sP f (.row 1) (sIs [40] (sIs [45] q).2).2=Q at h3 ib⊢;obtain ⟨n4,h4⟩:=M7 hs [41] (by simp) Q.2 ib.1;refine ⟨n1+n2+n3+n4+1,λn hn=>?_⟩;obtain ⟨k,rfl,hm⟩:=up1 hn;refine qa (h1 k (by omega)) (qc c1 (qa (h2 k (by omega)) (qb c2 (qa (h3 k (by omega)) (qa (h4 k (by omega)) ?_)))));cases c3:(sIs [41] Q.2).1 with
    |true=>rw [if_pos rfl];exact qc rfl rfl
    |false=>rw [if_neg (by simp)];exact qb rfl rfl
   |false=>
    rw [if_neg (by simp)];have e2:(sIs [40] (sIs [45] q).2).2=(tb q.1,q.2):=by
     rw [YO c2,YO c1];simp only [HS]
    rw [e2] at h2;have t:=To q;have it:=hi.go t;obtain ⟨n3,h3⟩:=M7 hs [34] (by simp) (tb q.1,q.2) it.1;simp only;cases c3:(sIs [34] (tb q.1,q.2)).1 with
    |true=>
     rw [if_pos rfl];have b:=Kr (by simp) c3;have ib:=it.go b;have eq2:(sIs [34] (tb q.1,q.2)).2.2=q.2:=by obtain ⟨_,e,_⟩:=Ry c3;rw [e]
     obtain ⟨n4,h4⟩:=eu hs (sIs [34] (tb q.1,q.2)).2 ib.1 (by have:=ib.2;omega);refine ⟨n1+n2+n3+n4+1,λn hn=>?_⟩;obtain ⟨k,rfl,hm⟩:=up1 hn;refine qa (h1 k (by omega)) (qc c1 (qa (h2 k (by omega)) (qc c2 (qa (h3 k (by omega)) (qb c3 (qa (h4 k (by omega)) ?_))))));rw [qh,eq2]
     all_goals (cases GZ [] (sIs [34] (tb q.1,q.2)).2.1<;>rfl)
    |false=>
     rw [if_neg (by simp)];have e3:(sIs [34] (tb q.1,q.2)).2=(tb q.1,q.2):=by rw [YO c3];simp only [HS]
     rw [e3] at h3;obtain ⟨n4,h4⟩:=M7 hs [35] (by simp) (tb q.1,q.2) it.1;cases c4:(sIs [35] (tb q.1,q.2)).1 with
     |true=>
      rw [if_pos rfl];have b:=Kr (by simp) c4;have ib:=it.go b;have eq2:(sIs [35] (tb q.1,q.2)).2.2=q.2:=by obtain ⟨_,e,_⟩:=Ry c4;rw [e]
      obtain ⟨n5,h5⟩:=ju hs (sIs [35] (tb q.1,q.2)).2.1 ib.1 q.2.1 q.2.2 (by have:=hi.2;omega);have h4:=λk hk=>h4 k hk
      refine ⟨n1+n2+n3+n4+n5+1,λn hn=>?_⟩;obtain ⟨k,rfl,hm⟩:=up1 hn;have h4:=h4 k (by omega);have h5:=h5 k (by omega) k (by omega);have e4:H0 s (sIs [35] (tb q.1,q.2)).2=(BR s,pos s (sIs [35] (tb q.1,q.2)).2.1,q.2.1,q.2.2.length,q.2.2.map qu):=by unfold H0;rw [eq2]
      rw [e4] at h4;refine qa (h1 k (by omega)) (qc c1 (qa (h2 k (by omega)) (qc c2 (qa (h3 k (by omega)) (qc c3 (qa h4 (qb c4 (qa h5 ?_))))))));cases ZU (sIs [35] (tb q.1,q.2)).2.1 1 5<;>rfl
     |false=>
      rw [if_neg (by simp)];have e4:(sIs [35] (tb q.1,q.2)).2=(tb q.1,q.2):=by rw [YO c4];simp only [HS]
      rw [e4] at h4;obtain ⟨n5,h5⟩:=XB hs (tb q.1,q.2) it.1;have w:=YN q;have iw:=hi.go w;have htl:=EO q.1;obtain ⟨n6,h6⟩:=M7 hs [40] (by simp) (wr (tb q.1),q.2) iw.1;obtain ⟨n7,h7⟩:=jv;obtain ⟨n9,h9⟩:=YP H (s:=s) (tb q.1) (wr (tb q.1),q.2) (by omega) (by have:=hi.2;simp only;omega);have gi:=Qt [40] (wr (tb q.1),q.2);cases hf:Lg (wd (tb q.1)) 1 10 with
      |none=>
       simp only;refine ⟨n1+n2+n3+n4+n5+n6+n7+n9+12+1,λn hn=>?_⟩;obtain ⟨k,rfl,hm⟩:=up1 hn;have lp:=Q5 (g:=qz k) (s:=s) (wd (tb q.1)) (wr (tb q.1),q.2) (λ_=>(0,q)) (h7 k (by omega)) (h6 k (by omega)) 10 1 k (by omega) (by omega) (by omega) (λop h=>by rw [hf] at h;cases h);rw [hf] at lp;exact qa (h1 k (by omega)) (qc c1 (qa (h2 k (by omega)) (qc c2 (qa (h3 k (by omega)) (qc c3 (qa (h4 k (by omega)) (qc c4 (qa (h5 k (by omega)) (qa lp (h9 k (by omega)))))))))))
      |some op=>
       have wne:wd (tb q.1)≠ []:=λe=>by rw [e,H.f0] at hf;cases hf
       have wlt:=pj wne;simp only;cases c5:(sIs [40] (wr (tb q.1),q.2)).1 with
       |true=>
        rw [if_pos rfl];have il:=ai (by simp) c5;simp only at il;obtain ⟨x,hx,n8,h8⟩:=LM H hs f (.call op []) (sIs [40] (wr (tb q.1),q.2)).2 (.inr (by omega)) (iw.go gi) (.inr (by have:=Gg (w.tr0 gi);simp only [zanD];omega));have hcall:Ev (OJ · op (BR s) (pos s (sIs [40] (wr (tb q.1),q.2)).2.1) (sIs [40] (wr (tb q.1),q.2)).2.2.1 (sIs [40] (wr (tb q.1),q.2)).2.2.2.length ((sIs [40] (wr (tb q.1),q.2)).2.2.2.map qu)) (HT s (sP f (.call op []) (sIs [40] (wr (tb q.1),q.2)).2)):=by
         refine ⟨n8+1,λn hn=>?_⟩;obtain ⟨k,rfl,hm⟩:=up1 hn;have h8:=h8 k (by omega) k (by omega);rcases hx with rfl|⟨rfl,hz⟩
         ·exact qa h8 rfl
         ·refine qa h8 ?_;show some ((0:Int),H0 s _)=some (_,H0 s _);rw [hz]
        obtain ⟨n10,h10⟩:=hcall;refine ⟨n1+n2+n3+n4+n5+n6+n7+n10+12+1,λn hn=>?_⟩;obtain ⟨k,rfl,hm⟩:=up1 hn;have lp:=Q5 (g:=qz k) (s:=s) (wd (tb q.1)) (wr (tb q.1),q.2) (λop=>sP f (.call op []) (sIs [40] (wr (tb q.1),q.2)).2) (h7 k (by omega)) (h6 k (by omega)) 10 1 k (by omega) (by omega) (by omega) (λop' h _=>by rw [hf] at h;cases h;exact h10 k (by omega));rw [hf] at lp;simp only at lp;rw [if_pos c5] at lp;exact qa (h1 k (by omega)) (qc c1 (qa (h2 k (by omega)) (qc c2 (qa (h3 k (by omega)) (qc c3 (qa (h4 k (by omega)) (qc c4 (qa (h5 k (by omega)) (qa lp rfl)))))))))
       |false=>
        rw [if_neg (by simp)];obtain ⟨v1,v2⟩:=H.f _ _ hf;obtain ⟨n9,h9⟩:=YP H (s:=s) (tb q.1) (sIs [40] (wr (tb q.1),q.2)).2 (by omega) (by have:=(iw.go gi).2;omega);have er:XE (wd (tb q.1)) (sIs [40] (wr (tb q.1),q.2)).2=(0,Sj (sIs [40] (wr (tb q.1),q.2)).2):=by
         unfold XE;rw [if_neg (λh=>by rw [v1] at h;cases h.1),if_neg (by rw [v2];simp)]
        rw [er] at h9;refine ⟨n1+n2+n3+n4+n5+n6+n7+n9+12+1,λn hn=>?_⟩;obtain ⟨k,rfl,hm⟩:=up1 hn;have lp:=Q5 (g:=qz k) (s:=s) (wd (tb q.1)) (wr (tb q.1),q.2) (λ_=>(0,q)) (h7 k (by omega)) (h6 k (by omega)) 10 1 k (by omega) (by omega) (by omega) (λop' h h'=>by rw [c5] at h';cases h');rw [hf] at lp;simp only at lp;rw [if_neg (by rw [c5];simp)] at lp;exact qa (h1 k (by omega)) (qc c1 (qa (h2 k (by omega)) (qc c2 (qa (h3 k (by omega)) (qc c3 (qa (h4 k (by omega)) (qc c4 (qa (h5 k (by omega)) (qa lp (h9 k (by omega)))))))))))
 |f+1,.call op kids,q,ha,hi,hk=>by
  have hr:q.1.length<=1000:=zU (IY hi.1) hs;unfold sP;by_cases hb:q.2.1=true
  ·rw [if_pos hb];refine ⟨.inr (H0 s q),.inr ⟨rfl,rfl⟩,1,λn hn M hM=>?_⟩;obtain ⟨M,rfl,hM⟩:=up1 hM;exact qe (qc (IP hb) rfl)
  ·have hk:kids.length+q.1.length<=1500:=hk.elim (λh=>absurd h hb) id;have ha:20*(tb q.1).length+12<=f+1:=ha.elim (λh=>absurd h.1 hb) id;have hb:q.2.1=false:=by rw [bX];exact hb
   rw [if_neg (by rw [hb];simp)];simp only;have a:=K0 H f .arg q hr trivial;obtain ⟨n1,h1⟩:=LM H hs f .arg q (by show 20*_+10<=f;omega) hi trivial;generalize sP f .arg q=A at a h1⊢;have ia:=hi.go a;have ta:=a.tb;have ra:=Gg a;obtain ⟨n2,h2⟩:=M7 hs [41] (by simp) A.2 ia.1;have kl:decide (kids.length=(kids.map Fg).length/\0<1/\0<8/\(kids.length+([[(PV.i .i64 A.1)]]:RW).length)*8<=140737488355328/\([[(PV.i .i64 A.1)]]:RW).all (λe=>e.length==1)=true)=true:=zC ⟨by simp,by decide,by decide,by simp;omega,rfl⟩;have k1:(kids++ [A.1]).length=kids.length+1:=by simp
   have k2:(kids++ [A.1]).map Fg=kids.map Fg++ [[PV.i .i64 A.1]]:=by simp [Fg]
   cases c1:(sIs [41] A.2).1 with
   |true=>
    rw [if_pos rfl];have g:=a.trans (Kr (by simp) c1);obtain ⟨n3,h3⟩:=Qs (s:=s) (ndK 6 op (kids++ [A.1])) (sIs [41] A.2).2 (by have:=(hi.go g).2;omega) (PH (by simp;omega));refine ⟨.inl (HT s (Jl (ndK 6 op (kids++ [A.1])) (sIs [41] A.2).2)),.inl rfl,n1+n2+n3+1,λn hn M hM=>?_⟩;obtain ⟨M,rfl,hM⟩:=up1 hM;have h3:_=some _:=h3 n (by omega);simp only [ndK,kd] at h3;rw [k2] at h3;exact qe (qb (JO hb) (qa (h1 n (by omega)) (qb rfl (qb kl (qa (h2 n (by omega)) (qb c1 (qb (zC (by simp)) (qa h3 rfl))))))))
   |false=>
    rw [if_neg (by simp)];have g:=a.tr0 (Qt [41] A.2);have gt:=(Qt [41] A.2).tb;have i2:=hi.go g;obtain ⟨n3,h3⟩:=M7 hs [44] (by simp) (sIs [41] A.2).2 i2.1;cases c2:(sIs [44] (sIs [41] A.2).2).1 with
    |true=>
     rw [if_pos rfl];have b:=Kr (by simp) c2;have bl:=ai (by simp) c2;have bs:=Gg (g.trans b);have b1:=b.sum;have eq3:(sIs [44] (sIs [41] A.2).2).2.2=(sIs [41] A.2).2.2:=by obtain ⟨_,e,_⟩:=Ry c2;rw [e]
     rw [eq3] at b1;have g0:=Gg g;obtain ⟨x,hx,n4,h4⟩:=LM H hs f (.call op (kids++ [A.1])) (sIs [44] (sIs [41] A.2).2).2 (.inr (by omega)) (i2.go b) (.inr (by rw [k1];omega));refine ⟨x,hx,n1+n2+n3+n4+1,λn hn M hM=>?_⟩;obtain ⟨M,rfl,hM⟩:=up1 hM;have h4:=h4 n (by omega) M (by omega);rw [k1,k2] at h4;rw [qm (v':=(op,kids.length+1,kids.map Fg++ [[PV.i .i64 A.1]],H0 s (sIs [44] (sIs [41] A.2).2).2)) (by
      exact qb (JO hb) (qa (h1 n (by omega)) (qb rfl (qb kl (qa (h2 n (by omega)) (qc c1 (qa (h3 n (by omega)) (qc (IP c2) rfl))))))))]
     exact h4
    |false=>
     rw [if_neg (by simp)];have b:=Qt [44] (sIs [41] A.2).2;obtain ⟨x,hx,n4,h4⟩:=LM H hs f (.call op (kids++ [A.1])) (Sj (sIs [44] (sIs [41] A.2).2).2) (.inl ⟨rfl,by omega⟩) (i2.go (XD b)) (.inl rfl);refine ⟨x,hx,n1+n2+n3+n4+1,λn hn M hM=>?_⟩;obtain ⟨M,rfl,hM⟩:=up1 hM;have h4:=h4 n (by omega) M (by omega);rw [k1,k2] at h4;rw [qm (v':=(op,kids.length+1,kids.map Fg++ [[PV.i .i64 A.1]],H0 s (Sj (sIs [44] (sIs [41] A.2).2).2))) (by
      exact qb (JO hb) (qa (h1 n (by omega)) (qb rfl (qb kl (qa (h2 n (by omega)) (qc c1 (qa (h3 n (by omega)) (qb (JO c2) rfl))))))))]
     exact h4
 |f+1,.arg,q,ha,hi,_=>by
  replace ha:20*(tb q.1).length+10<=f+1:=ha
  have hr:q.1.length<=1000:=zU (IY hi.1) hs;have htl:=EO q.1;unfold sP;simp only;have t:=To q;have it:=hi.go t;have w:=YN q;have iw:=hi.go w;obtain ⟨n1,h1⟩:=Yy hs q hi.1;obtain ⟨n2,h2⟩:=XB hs (tb q.1,q.2) it.1;obtain ⟨n3,h3⟩:=srp (tb q.1) (by omega);obtain ⟨n4,h4⟩:=M7 hs [58] (by simp) (wr (tb q.1),q.2) iw.1;have eq2:(sIs [58] (wr (tb q.1),q.2)).2.2=q.2:=by
   cases c:(sIs [58] (wr (tb q.1),q.2)).1 with
   |true=>obtain ⟨_,e,_⟩:=Ry c;rw [e]
   |false=>rw [YO c]
  by_cases hc:(Ec (BR (wd (tb q.1)))).2.2.2.2=true/\(sIs [58] (wr (tb q.1),q.2)).1=true
  ·rw [if_pos hc];have g:=w.trans (Kr (by simp) hc.2);have ig:=hi.go g;have rg:=Gg g;generalize sIs [58] (wr (tb q.1),q.2)=I at*
   have gt:=To I.2;have gw:=YN I.2;have il:=EO I.2.1;obtain ⟨n5,h5⟩:=Yy hs I.2 ig.1;obtain ⟨n6,h6⟩:=XB hs (tb I.2.1,I.2.2) (ig.go gt).1;obtain ⟨n7,h7⟩:=srp (tb I.2.1) (by omega);cases hp:(Ec (BR (wd (tb I.2.1)))).2.2.2.2 with
   |true=>
    rw [if_pos rfl];obtain ⟨n8,h8⟩:=Qs (s:=s) (ndA (Ec (BR (wd (tb q.1)))) (Ec (BR (wd (tb I.2.1))))) (wr (tb I.2.1),I.2.2) (by have:=(ig.go gw).2;simp only at this⊢;omega) ⟨by simp [kd,ndA],by simp [ndA,em];decide⟩;refine ⟨n1+n2+n3+n4+n5+n6+n7+n8+1,λn hn=>?_⟩;obtain ⟨k,rfl,hm⟩:=up1 hn;exact qa (h1 k (by omega)) (qa (h2 k (by omega)) (qa (h3 k (by omega)) (qb hc.1 (qa (h4 k (by omega)) (qb hc.2 (qa (h5 k (by omega)) (qa (h6 k (by omega)) (qa (h7 k (by omega)) (qc (IP hp) (qa (h8 k (by omega)) rfl))))))))))
   |false=>
    rw [if_neg (by simp)];refine ⟨n1+n2+n3+n4+n5+n6+n7+1,λn hn=>?_⟩;obtain ⟨k,rfl,hm⟩:=up1 hn;exact qa (h1 k (by omega)) (qa (h2 k (by omega)) (qa (h3 k (by omega)) (qb hc.1 (qa (h4 k (by omega)) (qb hc.2 (qa (h5 k (by omega)) (qa (h6 k (by omega)) (qa (h7 k (by omega)) (qb (JO hp) rfl)))))))))
  ·rw [if_neg hc];obtain ⟨n5,h5⟩:=LM H hs f (.row 1) (tb q.1,q.2) ⟨by simp only [HS];omega,by omega,by omega⟩ it trivial;refine ⟨n1+n2+n3+n4+n5+1,λn hn=>?_⟩;obtain ⟨k,rfl,hm⟩:=up1 hn;cases hp:(Ec (BR (wd (tb q.1)))).2.2.2.2 with
   |true=>
    have ht:(sIs [58] (wr (tb q.1),q.2)).1=false:=by rw [bX];exact λe=>hc ⟨hp,e⟩
    have h4:=h4 k (by omega);have e4:H0 s (sIs [58] (wr (tb q.1),q.2)).2=(BR s,pos s (sIs [58] (wr (tb q.1),q.2)).2.1,q.2.1,q.2.2.length,q.2.2.map qu):=by unfold H0;rw [eq2]
    rw [e4] at h4;exact qa (h1 k (by omega)) (qa (h2 k (by omega)) (qa (h3 k (by omega)) (qb hp (qa h4 (qc ht (qa (h5 k (by omega)) rfl))))))
   |false=>exact qa (h1 k (by omega)) (qa (h2 k (by omega)) (qa (h3 k (by omega)) (qc hp (qa (h5 k (by omega)) rfl))))
theorem cf {w:LBy} (h:w.all wch=true) (hn:w≠ []):(FS (BR w)).1=1\/(FS (BR w)).1=3:=by
 cases w with
 |nil=>exact absurd rfl hn
 |cons c t=>
  simp only [zanC,zL] at h;have h39:¬(c::t).head?=some 39:=by
   intro e;simp at e;rw [e] at h;exact absurd h.1 (by decide)
  have h35:¬(c::t).head?=some 35:=by
   intro e;simp at e;rw [e] at h;exact absurd h.1 (by decide)
  unfold FS;rw [Ek,if_neg h39];split
  ·exact .inr rfl
  ·split
   ·exact .inr rfl
   ·exact .inl rfl
theorem cg:RdOK where
 v:=λw h hn ho=>by
  have c:=cf h hn;unfold q7 at ho⊢;split at ho
  ·rename_i hc;rw [if_pos hc];exact c
  ·cases ho
 v0:=by
  have:(q7 (BR [])).1=0:=by
   have:(q7 ⟨#[]⟩).1=0:=by decide+kernel
   exact this
  rw [this];decide
 p0:=by
  have:(Ec ⟨#[]⟩).2.2.2.2=false:=by decide+kernel
  exact this
 f:=λw op h=>by
  have t:∀a:Fin 10,(q7 (fnS (((a.val:Nat):Int)+1))).2.2.2=false/\(Ec (fnS (((a.val:Nat):Int)+1))).2.2.2.2=false:=by decide+kernel
  have e:∀(k:Nat) (i:Int),1<=i->i+k<=11->Lg w i k=some op->∃j:Int,1<=j/\j<=10/\(fnS j).toList=w:=by
   intro k
   induction k with
   |zero=>intro i _ _ h;cases h
   |succ k ih=>
    intro i h1 h2 h;unfold Lg at h;split at h
    ·rename_i hq;exact ⟨i,h1,by omega,hq⟩
    ·exact ih (i+1) (by omega) (by omega) h
  obtain ⟨j,j1,j2,rfl⟩:=e 10 1 (by omega) (by omega) h;rw [Ky];have:=t ⟨(j-1).toNat,by omega⟩;simp only at this
  rwa [show (((j-1).toNat:Nat):Int)+1=j by omega] at this
 f0:=by decide+kernel
 n:=λn hn=>by
  have c:n=1\/n=2\/n=3\/n=4\/n=5:=by omega
  rcases c with rfl|rfl|rfl|rfl|rfl
  ·exact ⟨[68,73,86,33],by decide+kernel⟩
  ·exact ⟨[84,89,80,69,33],by decide+kernel⟩
  ·exact ⟨[82,69,70,33],by decide+kernel⟩
  ·exact ⟨[79,86,69,82,33],by decide+kernel⟩
  ·exact ⟨[67,89,67,76,69,33],by decide+kernel⟩
def VQ (s:BA):PS:=(pP 4050 (.bin 1 0) (s.toList,false,[])).2
def FW (s:BA):List Nd×Bool:=
 if FT s 200=true/\(VQ s).2.1=false/\tb (VQ s).1= []/\Jk (VQ s).2.2=true then ((VQ s).2.2,true) else ([],false)
theorem Q6 {s:BA} (h:FT s 200=true):s.toList.length<=200:=by
 unfold FT at h;simp only [zL,aG] at h;rw [EA];omega
theorem i7 {s:BA} (h:FT s 200=true):Gd (s.toList,false,[]):=⟨by have:=Q6 h;simp only;omega,by simp,λx hx=>by cases hx⟩
theorem Og {l:List Nd} (h:∀x∈l,Xu x):∀c∈l,(kd c).length<=140737488351232/\c.2.2.2.2.1.size<=140737488351232:=λc hc=>by
 have:=h c hc;exact ⟨by have:=this.1;omega,by have:=this.2;omega⟩
theorem Rf (s:BA) (hb:s.size<=140737488351232):Ev (J2 · s) ((FW s).1.map qu,(FW s).2):=by
 obtain ⟨n1,h1⟩:=Qf s 200 hb;by_cases hp:FT s 200=true
 ·have hl:=Q6 hp;have htb:=EO s.toList;have hg:=i7 hp;obtain ⟨n2,h2⟩:=LL 4050 (.bin 1 0) (s.toList,false,[]) (by show 20*(tb s.toList).length+6<=4050;omega) ⟨by decide,by decide⟩ hg trivial;have g:=(Kz 4050 (.bin 1 0) (s.toList,false,[]) hg trivial).1;have e0:(pP 4050 (.bin 1 0) (s.toList,false,[])).2=VQ s:=rfl;rw [e0] at g;generalize pP 4050 (.bin 1 0) (s.toList,false,[])=P at h2 e0;rw [Ky] at h2;unfold FW;rw [<-e0] at g⊢;obtain ⟨n3,h3⟩:=Nf P.2.1 P.2.2.2.length P.2.2.1 (P.2.2.2.map qu);obtain ⟨n4,h4⟩:=Nb P.2.2.2 (by have:=g.n;omega) (Og g.s);refine ⟨n1+n2+n3+n4+1,λn hn=>?_⟩;obtain ⟨k,rfl,hm⟩:=up1 hn;have h1:=h1 k (by omega);rw [hp] at h1;refine qa h1 (qc rfl (qa (h2 k (by omega)) (qa (h3 k (by omega)) ?_)));by_cases hbad:P.2.2.1=true
  ·rw [if_neg (λh=>by rw [hbad] at h;cases h.2.1)];exact qb hbad (qb rfl rfl)
  ·have hbad:P.2.2.1=false:=by rw [bX];exact hbad
   refine qc hbad ?_;by_cases hr:tb P.2.1= []
   ·refine qc (IP (by rw [zanG,qy];show (BR (tb P.2.1)).toList= [];rw [Ek];exact hr)) (qb (zC (by simp)) (qa (h4 k (by omega)) (qb (Qy _) ?_)));cases ho:Jk P.2.2.2 with
    |true=>
     rw [if_pos ⟨hp,hbad,hr,rfl⟩];exact qc rfl (qb (zC (by simp)) rfl)
    |false=>
     rw [if_neg (λh=>by cases h.2.2.2)];exact qb rfl (qb rfl rfl)
   ·rw [if_neg (λh=>hr h.2.2.1)];exact qb (JO (by rw [zanF,qy];show (BR (tb P.2.1)).toList≠ [];rw [Ek];exact hr)) (qb rfl rfl)
 ·refine ⟨n1+1,λn hn=>?_⟩;obtain ⟨k,rfl,hm⟩:=up1 hn;unfold FW;rw [if_neg (λh=>hp h.1)];exact qa (h1 k (by omega)) (qb (JO (by rw [bX];exact hp)) (qb rfl rfl))
theorem cj {l:List Nd} (h:∃x∈l,Gq x=false):Jk l=false:=by
 obtain ⟨x,hx,hb⟩:=h;rw [bX];intro ho;unfold Jk at ho;simp only [zL] at ho;obtain ⟨i,hi⟩:=List.mem_iff_getElem?.1 hx;have hil:=(zamJ.1 hi).1;have:=(Le.1 ho.2.1 (i:Int) (by omega) (by omega)).1;unfold MK at this;have e:ndi l (i:Int)=x:=by unfold ndi;simp [hi]
 rw [e,hb] at this;cases this
theorem Rh (s:BA) (hb:s.size<=140737488351232):Ev (Jy · s) ((FW s).1.map qu,(FW s).2):=by
 obtain ⟨n1,h1⟩:=Pi s hb;by_cases hp:FT s 200=true
 ·have hl:=Q6 hp;have hs:s.toList.length<=1000:=by omega
  have htb:=EO s.toList;have hg:=i7 hp;have gi:=(Kz 4050 (.bin 1 0) (s.toList,false,[]) hg trivial).1;have sim:=(jm cg (tb s.toList).length).2.2.1 (s.toList,false,[]) (s.toList,false,[]) 0 4 4050 4050 (by omega) ⟨rfl,rfl,rfl,rfl⟩ rfl (by omega) (by omega) (by omega) (by omega);rw [show (5:Int)-((4:Nat):Int)=1 from rfl] at sim;have iv:Iv s.toList (s.toList,false,[]):=⟨List.suffix_rfl,by simp;omega⟩;obtain ⟨n2,h2⟩:=LM cg hs 4050 (.row 1) (s.toList,false,[]) ⟨by simp only;omega,by omega,by omega⟩ iv trivial;have g:=K0 cg 4050 (.row 1) (s.toList,false,[]) hs trivial;have e0:(pP 4050 (.bin 1 0) (s.toList,false,[])).2=VQ s:=rfl;generalize pP 4050 (.bin 1 0) (s.toList,false,[])=P at sim e0 gi;generalize sP 4050 (.row 1) (s.toList,false,[])=Q at sim h2 g;unfold FW;rw [<-e0];obtain ⟨n3,h3⟩:=Yy hs Q.2 (iv.go g).1;obtain ⟨n4,h4⟩:=Na Q.2.2.2 (Og (g.sm (λx hx=>by cases hx)));have p0:pos s.toList s.toList=0:=by unfold pos;simp
  simp only [Ky,p0] at h2 h3;have g2:=(i6 (iv.go g).1);refine ⟨n1+n2+n3+n4+1,λn hn=>?_⟩;obtain ⟨k,rfl,hm⟩:=up1 hn;have h1:=h1 k (by omega);rw [hp] at h1;have h2:=h2 k (by omega);have h3:=h3 k (by omega);have e1:HT s.toList Q=(Q.1,s,pos s.toList Q.2.1,Q.2.2.1,Q.2.2.2.length,Q.2.2.2.map qu):=by unfold HT H0;rw [Ky]
  have e2:H0 s.toList (tb Q.2.1,Q.2.2)=(s,pos s.toList (tb Q.2.1),Q.2.2.1,Q.2.2.2.length,Q.2.2.2.map qu):=by unfold H0;rw [Ky]
  rw [e1] at h2;rw [e2] at h3;refine qa h1 (qc rfl (qa h2 (qa h3 ?_)));rcases sim with ⟨_,hk,_⟩|⟨hbad,hd⟩
  ·obtain ⟨k1,k2,k3,k4⟩:=hk;rw [k1,k3,k4];refine qc k2 ?_;by_cases hr:tb Q.2.1= []
   ·refine qc (aA (show ¬pos s.toList (tb Q.2.1)<(s.size:Int) by rw [hr];unfold pos;simp [EA])) (qb (zC (by simp)) (qa (h4 k (by omega)) (qb (Qy _) ?_)));cases ho:Jk Q.2.2.2 with
    |true=>
     rw [if_pos ⟨hp,rfl,hr,rfl⟩];exact qc rfl (qb (zC (by simp)) rfl)
    |false=>
     rw [if_neg (λh=>by cases h.2.2.2)];exact qb rfl (qb rfl rfl)
   ·rw [if_neg (λh=>hr h.2.2.1)];have hlp:=List.length_pos_iff.2 hr;have hsl:=IY g2;exact qb (zC (show pos s.toList (tb Q.2.1)<(s.size:Int) by rw [EA] at hsl;unfold pos;rw [EA];omega)) (qb rfl rfl)
  ·rw [if_neg (λh=>by
    rcases hd with hd|hd
    ·rw [hd] at h;cases h.2.1
    ·rw [cj hd] at h;cases h.2.2.2)]
   exact qb hbad (qb rfl rfl)
 ·refine ⟨n1+1,λn hn=>?_⟩;obtain ⟨k,rfl,hm⟩:=up1 hn;unfold FW;rw [if_neg (λh=>hp h.1)];exact qa (h1 k (by omega)) (qb (JO (by rw [bX];exact hp)) (qb rfl rfl))
theorem Qu (s:BA):(FW s).1.length<=60/\∀x∈(FW s).1,Xu x:=by
 unfold FW;split
 ·rename_i h;have g:=(Kz 4050 (.bin 1 0) (s.toList,false,[]) (i7 h.1) trivial).1;exact ⟨g.n,g.s⟩
 ·exact ⟨by simp,λx hx=>by cases hx⟩
theorem XF:∀(l:LBy) (acc:Nat) {u:Nat},l.all Ej=true->Lib.parseUintM (2^64-1) acc l= .ok u->u=E7 acc l
 | [],acc,u,_,h=>by simp only [Lib.parseUintM] at h;cases h;rfl
 |c::r,acc,u,hd,h=>by
  simp only [zanC,zL] at hd;have hc:=hd.1;simp only [Ej,zL,aG] at hc;unfold Lib.parseUintM at h;rw [JL];rw [if_pos hc] at h;by_cases h1:1844674407370955162<=acc
  ·rw [if_pos h1] at h;cases h
  ·rw [if_neg h1] at h;by_cases h2:2^64-1<acc*10+(c.toNat-48)
   ·rw [if_pos h2] at h;cases h
   ·rw [if_neg h2] at h;exact XF r _ hd.2 h
theorem i9 {p:UInt8->Bool}:∀l:LBy,(l.dropWhile p= [])↔l.all p=true
 | []=>by simp
 |c::r=>by
  rw [List.dropWhile_cons,zanC];by_cases h:p c=true
  ·rw [if_pos h,h,Bool.true_and];exact i9 r
  ·rw [if_neg h];simp [h]
theorem ak {p:UInt8->Bool}:∀(l:LBy) {a:UInt8} {r:LBy},l.dropWhile p=a::r->p a=false
 | [],a,r,h=>by simp at h
 |c::l,a,r,h=>by
  rw [List.dropWhile_cons] at h;by_cases hc:p c=true
  ·rw [if_pos hc] at h;exact ak l h
  ·rw [if_neg hc] at h;cases h;rw [bX];exact hc
theorem fb:∀i:Fin 256,((⟨#[48,49,50,51,52,53,54,55,56,57]⟩:BA).data.toList.contains (UInt8.ofNat i.val))=Ej (UInt8.ofNat i.val):=by decide+kernel
theorem Zg {p:UInt8->Bool} {t:LBy}:((t.reverse.dropWhile p).reverse.dropWhile p= [])↔t.all p=true:=by
 rw [i9]
 constructor
 ·intro h;cases hx:t.reverse.dropWhile p with
  |nil=>
   rw [i9] at hx;rw [zamK] at hx⊢;exact λx hx'=>hx x (by simpa using hx')
  |cons a r=>
   rw [zamK] at h;have h1:=h a (by rw [hx];simp);rw [ak _ hx] at h1;cases h1
 ·intro h;rw [zamK] at h⊢;intro x hx;rw [List.mem_reverse] at hx;exact h x (by simpa using (List.dropWhile_suffix p).subset hx)
def Lj (s:LBy):LBy:=if s.head?=some 45 then s.tail else s
def N9 (s:LBy):Int:=if s.head?=some 45 then-((E7 0 (Lj s):Nat):Int) else ((E7 0 (Lj s):Nat):Int)
def Tp (s:LBy):Bool:=decide (Lj s≠ [])&&(Lj s).all Ej
def JP (s:LBy):Bool:=Tp s&&okV 1 (N9 s) em
theorem fe (s:LBy):(Lj s).length<=s.length:=by unfold Lj;split<;>simp
theorem Zh (s:LBy) (h:s.length<=1000):Ev (Lt · (BR s)) (Tp s):=by
 refine ⟨10,λn hn=>?_⟩;obtain ⟨k,rfl⟩:∃k,n=k+5:=⟨n-5,by omega⟩;have tp:I3 (k+4) (BR s) ⟨#[45]⟩=some (BR (Lj s)):=by
  have hp:EQ (k+2) (BR s) ⟨#[45]⟩=some (List.isPrefixOf [45] s):=by
   have:=GF (k+1) s [45];simp only [D4,Gy,qj] at this;have e:∀o:Option Bool,(o.bind λx=>some x)=o:=λo=>by cases o<;>rfl
   rw [e] at this;exact this
  have inner:F2 (k+3) (BR s) ⟨#[45]⟩=some (BR (Lj s)):=by
   by_cases hh:s.head?=some 45
   ·rw [(Ie 45 s).2 hh] at hp;obtain ⟨t,rfl⟩:=Q3 hh;unfold Lj;rw [if_pos hh];refine qa hp (qb rfl (qb (zC ⟨by decide,by rw [qw];show (1:Int)<=_;simp;omega,Int.le_refl _⟩) ?_));rw [qh];show some ((BR (45::t)).extract 1 ((((BR (45::t)).size:Nat):Int)).toNat)=_;rw [Ly,qw];simp
   ·have e:List.isPrefixOf [45] s=false:=by rw [bX];exact λe=>hh ((Ie 45 s).1 e)
    rw [e] at hp;unfold Lj;rw [if_neg hh];exact qa hp (qc rfl rfl)
  exact qa inner rfl
 have tl:=fe s;unfold Tp;generalize Lj s=t at tp tl⊢;refine qa tp ?_;by_cases ht:t= []
 ·subst ht;refine qc (IP (by rw [Ek,qy];rfl)) ?_;rfl
 ·refine qb (JO (by rw [zanF,Ek,qy];exact ht)) ?_;have tr:Mu (k+4) (BR t) ⟨#[48,49,50,51,52,53,54,55,56,57]⟩=some (BR (((t.reverse.dropWhile Ej).reverse).dropWhile Ej)):=by
   show cC (BR t) ⟨#[48,49,50,51,52,53,54,55,56,57]⟩=_;unfold cC;rw [if_pos ⟨by rw [qw];omega,by decide,by decide+kernel⟩];unfold Lib.trimS Lib.trimLeftS Lib.trimRightS;have:(λc=>(⟨#[48,49,50,51,52,53,54,55,56,57]⟩:BA).data.toList.contains c)=Ej:=funext (f7 fb);rw [this,<-zao (BR t),Ek];rfl
  refine qa tr ?_;rw [qh]
  congr 1
  have dt:decide (t≠ [])=true:=zC ht;rw [dt,Bool.true_and,Ek,qy];by_cases ha:t.all Ej=true
  ·rw [Zg.2 ha,ha];rfl
  ·have hx:¬(t.reverse.dropWhile Ej).reverse.dropWhile Ej= []:=λe=>ha (Zg.1 e)
   rw [zanF.2 hx,bX.2 ha]
theorem jy {n:Int}:okV 1 n em=true↔-1000000000000000<=n/\n<=1000000000000000:=by
 simp [okV,em,qy]
theorem VC {s:LBy} (h:Tp s=true):(∀n,Lib.parseIntB 64 s= .ok n->n=N9 s)/\(JP s=true->Lib.parseIntB 64 s= .ok (N9 s)):=by
 have hd:=h;unfold Tp at hd;simp only [zL,aG] at hd;obtain ⟨h1,h2⟩:=hd;have p:(2:Nat)^(64-1)=9223372036854775808:=by decide
 have hne:s≠ []:=λe=>h1 (by rw [e];rfl)
 obtain ⟨c,r,rfl⟩:∃c r,s=c::r:=by
  cases s with
  |nil=>exact absurd rfl hne
  |cons c r=>exact ⟨c,r,rfl⟩
 have c45:(c.toNat=45)↔c=45:=⟨λe=>UInt8.toNat_inj.1 (show c.toNat=(45:UInt8).toNat from e),λe=>by rw [e];rfl⟩;have nt:Lj (c::r)=if c.toNat=43\/c.toNat=45 then r else c::r:=by
  unfold Lj;by_cases hc:c=45
  ·subst hc;simp
  ·have hc2:¬c.toNat=45:=λe=>hc (c45.1 e)
   have ht:Lj (c::r)=c::r:=by unfold Lj;rw [if_neg (by simpa using hc)]
   rw [ht] at h2;simp only [zanC,zL,Ej,aG] at h2;rw [if_neg (by simpa using hc),if_neg (by omega)]
 have nv:N9 (c::r)=if c.toNat=45 then-((E7 0 (Lj (c::r)):Nat):Int) else ((E7 0 (Lj (c::r)):Nat):Int):=by
  unfold N9;by_cases hc:c=45
  ·subst hc;rfl
  ·rw [if_neg (by simpa using hc),if_neg (λe=>hc (c45.1 e))]
 unfold Lib.parseIntB;simp only;rw [<-nt];unfold Lib.parseUintB;rw [if_neg h1]
 constructor
 ·intro n hn;rcases hq:Lib.parseUintM (2^64-1) 0 (Lj (c::r)) with u|_|_
  rotate_left
  ·rw [hq] at hn;cases hn
  ·rw [hq] at hn;cases hn
  ·have hu:=XF _ 0 h2 hq;rw [hq] at hn;simp only at hn;split at hn
   ·cases hn
   ·split at hn
    ·cases hn
    ·injection hn with hn;rw [nv,<-hu,<-hn]
 ·intro ho;unfold JP at ho;simp only [zL] at ho;have hb:=jy.1 ho.2;have hv:E7 0 (Lj (c::r))<=1000000000000000:=by
   rw [nv] at hb;split at hb<;>omega
  rw [Uz _ 0 h2 (by omega)];simp only;rw [if_neg (by rw [p];omega),if_neg (by rw [p];omega),nv]
def szL:LBy->LBy
 | []=> []
 |c::t=>if t≠ []/\c=48 then szL t else c::t
theorem WF:∀l:LBy,E7 0 (szL l)=E7 0 l
 | []=>rfl
 |c::t=>by
  unfold szL;split
  ·rename_i h;rw [WF t,JL,h.2];rfl
  ·rfl
theorem Y1:∀l:LBy,(szL l).all Ej=l.all Ej
 | []=>rfl
 |c::t=>by
  unfold szL;split
  ·rename_i h;rw [Y1 t,zanC,h.2];simp [Ej]
  ·rfl
theorem lz:∀l:LBy,l≠ []->szL l≠ []
 | [],h=>absurd rfl h
 |c::t,_=>by
  unfold szL;split
  ·rename_i h;exact lz t h.1
  ·simp
theorem Y2:∀l:LBy,(szL l).head?=some 48->(szL l).length=1
 | [],h=>by cases h
 |c::t,h=>by
  unfold szL at h⊢;split at h
  ·rename_i hc;rw [if_pos hc];exact Y2 t h
  ·rename_i hc;rw [if_neg hc];have h48:c=48:=by simpa using h
   have:t= []:=Classical.byContradiction λe=>hc ⟨e,h48⟩
   rw [this];rfl
theorem ff {l:LBy} (h:l≠ []):L9 (szL l)=l.all Ej:=by
 unfold L9;rw [Y1];have h1:(szL l== [])=false:=zanF.2 (lz l h);rw [h1];by_cases e:(szL l).head?=some 48
 ·rw [Y2 l e];simp
 ·rw [zanF.2 e];simp
theorem Zi:∀(l:LBy) (acc:Nat),acc*10^l.length<=E7 acc l
 | [],acc=>by rw [My];simp
 |c::r,acc=>by
  have:=Zi r (acc*10+(c.toNat-48));rw [JL,zamM,Nat.pow_succ];refine zU ?_ this;rw [show acc*(10^r.length*10)=acc*10*10^r.length by rw [Nat.mul_comm (10^r.length) 10,Nat.mul_assoc]];exact dN _ (by omega)
theorem ni {l:LBy} (hd:l.all Ej=true) (h:16<(szL l).length):10000000000000000<=E7 0 l:=by
 rw [<-WF];rw [<-Y1] at hd;have hh:=Y2 l;cases hz:szL l with
 |nil=>rw [hz] at h;simp at h
 |cons c r=>
  rw [hz] at h hd hh;simp only [zamM] at h;have hc:¬c=48:=λe=>by
   have:=hh (by rw [e];rfl);simp only [zamM] at this;omega
  simp only [zanC,zL,Ej,aG] at hd;have hc2:¬c.toNat=48:=λe=>hc (UInt8.toNat_inj.1 (show c.toNat=(48:UInt8).toNat from e))
  rw [JL];have a:=Zi r (0*10+(c.toNat-48));have p:10^16<=10^r.length:=Nat.pow_le_pow_right (by decide) (by omega);have p16:(10:Nat)^16=10000000000000000:=by decide
  have:1*10^r.length<=(0*10+(c.toNat-48))*10^r.length:=dN _ (by omega);omega
theorem Tq (n:Nat) (neg:Bool) (a b:Int) (e:BA):∀(l:LBy) (M:Nat),l.length<=1000->l.length+1<=M->zF (GO n) M (BR l,neg,a,b,e)=some (BR (szL l),neg,a,b,e)
 |l,0,_,h=>by omega
 | [],M+1,_,_=>qe (qc (aA (show ¬((BR []).size:Int)>1 by rw [qw];decide)) rfl)
 |c::t,M+1,hl,h=>by
  simp only [zamM] at h hl;unfold szL;by_cases ht:t= []
  ·rw [if_neg (λh=>h.1 ht)];subst ht;exact qe (qc (aA (show ¬((BR [c]).size:Int)>1 by rw [qw];simp)) rfl)
  ·have hpos:=List.length_pos_iff.2 ht;have g0:decide (((BR (c::t)).size:Int)>1)=true:=zC (by rw [qw];simp only [zamM];omega);have g1:(BR (c::t)).toList[((0:Int)).toNat]?=some c:=by rw [Ek];rfl
   by_cases hc:c=48
   ·rw [if_pos ⟨ht,hc⟩];subst hc;rw [qm (v':=(BR t,neg,a,b,e)) (by
     refine qb g0 (qb rfl (qa g1 (qb rfl (qb (zC ⟨by decide,by rw [qw];simp only [zamM];omega,Int.le_refl _⟩) ?_))));rw [qh];show some (Sum.inl ((BR (48::t)).extract 1 ((((BR (48::t)).size:Nat):Int)).toNat,neg,a,b,e))=_;rw [Ly,qw];simp)]
    exact Tq n neg a b e t M (by omega) (by omega)
   ·rw [if_neg (λh=>hc h.2)];refine qe (qb g0 (qb rfl (qa g1 (qc ?_ rfl))));rw [zanF];intro e;exact hc (UInt8.toNat_inj.1 (show c.toNat=48 by omega))
theorem nj {l:LBy} (h:l≠ []):l1I (szL l) 16=if (szL l).length<=16/\l.all Ej=true then (((E7 0 l:Nat):Int),true) else (0,false):=by
 unfold l1I;rw [ff h,WF];by_cases hh:(szL l).length<=16/\l.all Ej=true
 ·rw [if_pos hh,if_pos ⟨by have:=hh.1;omega,hh.2⟩]
 ·rw [if_neg hh,if_neg (λe=>hh ⟨by have:=e.1;omega,e.2⟩)]
theorem Zj (neg:Bool) (t:LBy) (ht:t≠ []) (hl:t.length<=1000):∃r:Int×Int×BA×Bool,(r.2.2.2=(t.all Ej&&okV 1 (if neg=true then-((E7 0 t:Nat):Int) else ((E7 0 t:Nat):Int)) em))/\(r.2.2.2=true->r=(1,(if neg=true then-((E7 0 t:Nat):Int) else ((E7 0 t:Nat):Int)),em,true))/\
  ∃n0,∀n,n0<=n->∃v:BA×Bool×Int×Int×BA,zF (GO n) n (BR t,neg,0,0,⟨#[]⟩)=some v/\
   (Tr.opt (E8 n v.1 16) λr221=>(.ask (v.2.1)
    (.ask (r221.2) (.opt (En n 1 (IntKind.i64.wrap (0-r221.1)) ⟨#[]⟩) λr222=>(.done ((1:Int),(IntKind.i64.wrap (0-r221.1)),(⟨#[]⟩:BA),r222))) (.done ((1:Int),(IntKind.i64.wrap (0-r221.1)),(⟨#[]⟩:BA),false)))
    (.ask (r221.2) (.opt (En n 1 r221.1 ⟨#[]⟩) λr223=>(.done ((1:Int),r221.1,(⟨#[]⟩:BA),r223))) (.done ((1:Int),r221.1,(⟨#[]⟩:BA),false))))).run=some r:=by
 have hi:=Ij (BR (szL t)) 16 (by decide);rw [Ek,nj ht] at hi;obtain ⟨n1,h1⟩:=hi;by_cases hh:(szL t).length<=16/\t.all Ej=true
 ·have hv:E7 0 t<10^(0+(szL t).length):=by
   have:=Yl (szL t) 0 0 (by rw [Y1];exact hh.2) (by decide)
   rwa [WF] at this
  have hp:10^(0+(szL t).length)<=10^16:=Nat.pow_le_pow_right (by decide) (by omega);have p16:(10:Nat)^16=10000000000000000:=by decide
  have w1:IntKind.i64.wrap (0-((E7 0 t:Nat):Int))= -((E7 0 t:Nat):Int):=by rw [ql (by omega)];omega
  cases neg with
  |true=>
   obtain ⟨n2,h2⟩:=ES 1 (-((E7 0 t:Nat):Int)) em (by decide);refine ⟨(1,-((E7 0 t:Nat):Int),em,okV 1 (-((E7 0 t:Nat):Int)) em),by rw [hh.2];simp,λe=>?_,n1+n2+t.length+1,λn hn=>⟨_,Tq n true 0 0 _ t n hl (by omega),?_⟩⟩
   ·simp only at e;rw [e];rfl
   ·have h1:=h1 n (by omega);rw [if_pos hh] at h1;have h2:=h2 n (by omega);rw [<-w1] at h2;refine qa h1 (qb rfl (qb rfl (qa h2 ?_)));rw [qh,w1];rfl
  |false=>
   obtain ⟨n2,h2⟩:=ES 1 ((E7 0 t:Nat):Int) em (by decide);refine ⟨(1,((E7 0 t:Nat):Int),em,okV 1 ((E7 0 t:Nat):Int) em),by rw [hh.2];simp,λe=>?_,n1+n2+t.length+1,λn hn=>⟨_,Tq n false 0 0 _ t n hl (by omega),?_⟩⟩
   ·simp only at e;rw [e];rfl
   ·have h1:=h1 n (by omega);rw [if_pos hh] at h1;exact qa h1 (qc rfl (qb rfl (qa (h2 n (by omega)) rfl)))
 ·have hno:(t.all Ej&&okV 1 (if neg=true then-((E7 0 t:Nat):Int) else ((E7 0 t:Nat):Int)) em)=false:=by
   rw [bX];intro e;simp only [zL] at e;have hb:=jy.1 e.2;have:16<(szL t).length:=by
    have:¬(szL t).length<=16:=λh=>hh ⟨h,e.1⟩
    omega
   have:=ni e.1 this;split at hb<;>omega
  cases neg with
  |true=>
   refine ⟨(1,IntKind.i64.wrap (0-0),em,false),hno.symm,(λe=>by cases e),n1+t.length+1,λn hn=>⟨_,Tq n true 0 0 _ t n hl (by omega),?_⟩⟩;have h1:=h1 n (by omega);rw [if_neg hh] at h1;exact qa h1 (qb rfl (qc rfl rfl))
  |false=>
   refine ⟨(1,0,em,false),hno.symm,(λe=>by cases e),n1+t.length+1,λn hn=>⟨_,Tq n false 0 0 _ t n hl (by omega),?_⟩⟩;have h1:=h1 n (by omega);rw [if_neg hh] at h1;exact qa h1 (qc rfl (qc rfl rfl))
theorem Zk (s:LBy) (hs:s≠ []) (hl:s.length<=1000):∃r:Int×Int×BA×Bool,r.2.2.2=JP s/\(JP s=true->r=(1,N9 s,em,true))/\Ev (Lq · (BR s)) r:=by
 obtain ⟨c,t,rfl⟩:∃c t,s=c::t:=by
  cases s with
  |nil=>exact absurd rfl hs
  |cons c t=>exact ⟨c,t,rfl⟩
 simp only [zamM] at hl;have g0:decide (((BR (c::t)).size:Int)>0)=true:=zC (by rw [qw];simp only [zamM];omega);have g1:(BR (c::t)).toList[((0:Int)).toNat]?=some c:=by rw [Ek];rfl
 by_cases hc:c=45
 ·subst hc;have ext:(BR (45::t)).extract ((1:Int)).toNat ((((BR (45::t)).size:Nat):Int)).toNat=BR t:=by rw [Ly,qw];simp
  have g2:decide (0<=(1:Int)/\(1:Int)<=((BR (45::t)).size:Int)/\((BR (45::t)).size:Int)<=((BR (45::t)).size:Int))=true:=zC ⟨by decide,by rw [qw];simp only [zamM];omega,Int.le_refl _⟩;have nt:Lj (45::t)=t:=rfl;have nv:N9 (45::t)= -((E7 0 t:Nat):Int):=rfl;by_cases ht:t= []
  ·subst ht;refine ⟨(0,0,⟨#[]⟩,false),by decide+kernel,(λe=>by revert e;decide+kernel),1,λn hn=>?_⟩;obtain ⟨k,rfl,hm⟩:=up1 hn;exact qb g0 (qb rfl (qa g1 (qb rfl (qb g2 (qb (by rw [ext,Ek,qy];rfl) rfl)))))
  ·obtain ⟨r,r1,r2,n0,h0⟩:=Zj true t ht (by omega);have e:JP (45::t)=(t.all Ej&&okV 1 (-((E7 0 t:Nat):Int)) em):=by
    unfold JP Tp;rw [nt,nv,zC ht,Bool.true_and]
   rw [if_pos rfl] at r1 r2;refine ⟨r,by rw [e];exact r1,λh=>by rw [nv];exact r2 (by rw [r1,<-e];exact h),n0+1,λn hn=>?_⟩;obtain ⟨k,rfl,hm⟩:=up1 hn;obtain ⟨v,lp,fin⟩:=h0 k (by omega);rw [<-ext] at lp;exact qb g0 (qb rfl (qa g1 (qb rfl (qb g2 (qc (by rw [ext,zanF,Ek,qy];exact ht) (qa lp fin))))))
 ·have c45:((c.toNat:Int)==45)=false:=by
   rw [zanF];intro e;exact hc (UInt8.toNat_inj.1 (show c.toNat=45 by omega))
  have hh:¬(c::t).head?=some 45:=by simpa using hc
  have nt:Lj (c::t)=c::t:=by unfold Lj;rw [if_neg hh]
  have nv:N9 (c::t)=((E7 0 (c::t):Nat):Int):=by unfold N9;rw [if_neg hh,nt]
  obtain ⟨r,r1,r2,n0,h0⟩:=Zj false (c::t) (by simp) (by simp only [zamM];omega);have e:JP (c::t)=((c::t).all Ej&&okV 1 (((E7 0 (c::t):Nat):Int)) em):=by
   unfold JP Tp;rw [nt,nv,zC (by simp),Bool.true_and]
  rw [if_neg (by simp)] at r1 r2;refine ⟨r,by rw [e];exact r1,λh=>by rw [nv];exact r2 (by rw [r1,<-e];exact h),n0+1,λn hn=>?_⟩;obtain ⟨k,rfl,hm⟩:=up1 hn;obtain ⟨v,lp,fin⟩:=h0 k (by omega);rw [<-c45] at lp;exact qb g0 (qb rfl (qa g1 (qc c45 (qc (by rw [zanF,Ek,qy];simp) (qa lp fin)))))
def GJ (s:BA):BA×Bool:=
 if FT s 200=false then (⟨#[]⟩,false) else if s.toList= [] then (⟨#[]⟩,true) else
 if s.toList.head?=some 61 then (if (FW (BR s.toList.tail)).2=true/\(F1 (FW (BR s.toList.tail)).1).toList≠ []/\(F1 (FW (BR s.toList.tail)).1).size<200 then (⟨#[61]⟩++F1 (FW (BR s.toList.tail)).1,true) else (⟨#[]⟩,false)) else
 if JP s.toList=true then (Gk (N9 s.toList),true) else
 if (q7 s).2.2.2=true then (s,true) else
 if s.size=200 then (⟨#[]⟩,false) else (⟨#[39]⟩++s,true)
theorem l7 (t:BA):Ev (GN · ((FW t).1.map qu)) (F1 (FW t).1):=Rc _ (by have:=(Qu t).1;omega) (Og (Qu t).2)
theorem l8 (t:BA):Ev (GU · ((FW t).1.map qu)) (F1 (FW t).1):=Re _ (by have:=(Qu t).1;omega) (Og (Qu t).2)
theorem Sk (l:List Nd):(F1 l).size<=200:=by
 unfold F1;split
 ·split
  ·decide
  ·omega
 ·decide
theorem M8 {s:BA} (h:s.toList≠ []):(s.toList==(⟨#[]⟩:BA).toList)=false:=by rw [qy];exact zanF.2 h
theorem XG {s:BA} (h:s.toList= []):(s.toList==(⟨#[]⟩:BA).toList)=true:=by rw [qy];exact zanG.2 h
theorem XH {s:BA} (h:(q7 s).2.2.2=true):okV (q7 s).1 (q7 s).2.1 (q7 s).2.2.1=true/\(EN (q7 s).1 (q7 s).2.1 (q7 s).2.2.1)=s:=by
 unfold q7 at h⊢;split at h
 ·rename_i hc;rw [if_pos hc];exact ⟨hc.1,HU hc.2⟩
 ·cases h
theorem pk {s:BA} (h:FT s 200=true):okV 2 0 s=true:=by
 unfold okV;rw [if_pos rfl,h];rfl
theorem M9 {s:BA} (h:FT s 200=true):s.size<=200:=by have:=Q6 h;rw [EA] at this;exact this
theorem fg (s:BA):(EN 2 0 s).size=s.size+1:=by
 have e:EN 2 0 s=⟨#[39]⟩++s:=rfl;rw [e,ze];show 1+s.size=_;omega
theorem ck {s:BA} (h:(q7 s).2.2.2=true):(q7 s).2.2.1.size<=1000:=by
 obtain ⟨h1,h2⟩:=XH h;unfold okV at h1;split at h1
 ·simp only [zL] at h1;have:=M9 h1.2;omega
 ·simp only [zL,zanG] at h1;have:=congrArg List.length h1.1;rw [EA] at this;simp only [zanD] at this;omega
theorem Ju (s:BA) (hb:s.size<=140737488355328):Ev (GA · s) (GJ s):=by
 obtain ⟨n1,h1⟩:=OX s hb;unfold GJ;cases hp:FT s 200 with
 |false=>
  rw [if_pos rfl];refine ⟨n1+1,λn hn=>?_⟩;obtain ⟨k,rfl,hm⟩:=up1 hn;exact qa (h1 k (by omega)) (qb (JO hp) rfl)
 |true=>
  rw [if_neg (by simp)];have hsz:=M9 hp;by_cases h0:s.toList= []
  ·rw [if_pos h0];refine ⟨n1+1,λn hn=>?_⟩;obtain ⟨k,rfl,hm⟩:=up1 hn;exact qa (h1 k (by omega)) (qc (IP hp) (qb (XG h0) rfl))
  ·rw [if_neg h0];obtain ⟨c,t,hct⟩:∃c t,s.toList=c::t:=by
    cases h:s.toList with
    |nil=>exact absurd h h0
    |cons c t=>exact ⟨c,t,rfl⟩
   have g1:s.toList[((0:Int)).toNat]?=some c:=by rw [hct];rfl
   have hl:s.size=t.length+1:=by rw [<-EA,hct];rfl
   by_cases h61:s.toList.head?=some 61
   ·rw [if_pos h61];have hc:c=61:=by rw [hct] at h61;simpa using h61
    subst hc;have ext:s.extract ((1:Int)).toNat (((s.size:Nat):Int)).toNat=BR s.toList.tail:=by
     conv=>lhs;rw [<-Ky s]
     rw [Ly,qw,hct];simp
    obtain ⟨n2,h2⟩:=Rh (BR s.toList.tail) (by rw [qw,hct];simp;omega);obtain ⟨n3,h3⟩:=l7 (BR s.toList.tail);rw [<-ext] at h2 h3⊢;have fz:=Sk (FW (s.extract ((1:Int)).toNat (((s.size:Nat):Int)).toNat)).1;have w1:IntKind.i64.wrap (((F1 (FW (s.extract ((1:Int)).toNat (((s.size:Nat):Int)).toNat)).1).size:Int)+1)=((F1 (FW (s.extract ((1:Int)).toNat (((s.size:Nat):Int)).toNat)).1).size:Int)+1:=ql (by omega);refine ⟨n1+n2+n3+1,λn hn=>?_⟩;obtain ⟨k,rfl,hm⟩:=up1 hn;refine qa (h1 k (by omega)) (qc (IP hp) (qc (M8 h0) (qb rfl (qa g1 (qb rfl (qb (zC ⟨by decide,by omega,Int.le_refl _⟩) (qa (h2 k (by omega)) (qa (h3 k (by omega)) ?_))))))));by_cases hr:(FW (s.extract ((1:Int)).toNat (((s.size:Nat):Int)).toNat)).2=true
    ·refine qc (IP hr) ?_;by_cases he:(F1 (FW (s.extract ((1:Int)).toNat (((s.size:Nat):Int)).toNat)).1).toList= []
     ·rw [if_neg (λh=>h.2.1 he)];exact qb (XG he) rfl
     ·refine qc (M8 he) ?_;by_cases hz:(F1 (FW (s.extract ((1:Int)).toNat (((s.size:Nat):Int)).toNat)).1).size<200
      ·rw [if_pos ⟨hr,he,hz⟩];exact qc (aA (by rw [w1];omega)) (qb (zC (by show 1+(F1 (FW (s.extract ((1:Int)).toNat (((s.size:Nat):Int)).toNat)).1).size<=9223372036854775807;omega)) rfl)
      ·rw [if_neg (λh=>hz h.2.2)];exact qb (zC (by rw [w1];omega)) rfl
    ·rw [if_neg (λh=>hr h.1)];exact qb (JO (by rw [bX];exact hr)) rfl
   ·rw [if_neg h61];have hc:((c.toNat:Int)==61)=false:=by
     rw [zanF];intro e;refine h61 ?_;rw [hct,show c=61 from UInt8.toNat_inj.1 (show c.toNat=61 by omega)];rfl
    obtain ⟨r,r1,r2,n2,h2⟩:=Zk s.toList h0 (by rw [EA];omega);rw [Ky] at h2;obtain ⟨n3,h3⟩:=NX s (by omega);cases hn:JP s.toList with
    |true=>
     rw [if_pos rfl];have er:=r2 hn;subst er;have hok:okV 1 (N9 s.toList) em=true:=by unfold JP at hn;simp only [zL] at hn;exact hn.2
     obtain ⟨n4,h4⟩:=Iq 1 (N9 s.toList) em (by decide);rw [if_pos hok] at h4;refine ⟨n1+n2+n4+1,λn hn=>?_⟩;obtain ⟨k,rfl,hm⟩:=up1 hn;exact qa (h1 k (by omega)) (qc (IP hp) (qc (M8 h0) (qb rfl (qa g1 (qc hc (qa (h2 k (by omega)) (qb rfl (qa (h4 k (by omega)) rfl))))))))
    |false=>
     rw [if_neg (by simp)];have rf:r.2.2.2=false:=by rw [r1];exact hn
     by_cases hv:(q7 s).2.2.2=true
     ·rw [if_pos hv];obtain ⟨v1,v2⟩:=XH hv;obtain ⟨n4,h4⟩:=Iq (q7 s).1 (q7 s).2.1 (q7 s).2.2.1 (by have:=ck hv;omega);rw [if_pos v1,v2] at h4;refine ⟨n1+n2+n3+n4+1,λn hn=>?_⟩;obtain ⟨k,rfl,hm⟩:=up1 hn;exact qa (h1 k (by omega)) (qc (IP hp) (qc (M8 h0) (qb rfl (qa g1 (qc hc (qa (h2 k (by omega)) (qc rf (qa (h3 k (by omega)) (qc (IP hv) (qa (h4 k (by omega)) (qc (aA (by omega)) rfl)))))))))))
     ·rw [if_neg hv];obtain ⟨n4,h4⟩:=Iq 2 0 s (by omega);rw [if_pos (pk hp)] at h4;have vz:=fg s;refine ⟨n1+n2+n3+n4+1,λn hn=>?_⟩;obtain ⟨k,rfl,hm⟩:=up1 hn;refine qa (h1 k (by omega)) (qc (IP hp) (qc (M8 h0) (qb rfl (qa g1 (qc hc (qa (h2 k (by omega)) (qc rf (qa (h3 k (by omega)) (qb (JO (by rw [bX];exact hv)) (qa (h4 k (by omega)) ?_))))))))));by_cases hz:s.size=200
      ·rw [if_pos hz];exact qb (zC (by omega)) rfl
      ·rw [if_neg hz];exact qc (aA (by omega)) rfl
theorem Zl (X:BA):Ev (Ls · ((FW X).1.map qu)) (⟨#[61]⟩++F1 (FW X).1,decide ((F1 (FW X).1).toList≠ [])&&decide ((F1 (FW X).1).size<200)):=by
 obtain ⟨n1,h1⟩:=l8 X;have fz:=Sk (FW X).1;refine ⟨n1+1,λn hn=>?_⟩;obtain ⟨k,rfl,hm⟩:=up1 hn;refine qa (h1 k (by omega)) (qb (zC (by show 1+(F1 (FW X).1).size<=9223372036854775807;omega)) ?_);by_cases he:(F1 (FW X).1).toList= []
 ·refine qc (IP (XG he)) ?_;rw [qh,aA (λh=>h he),Bool.false_and]
 ·refine qb (JO (M8 he)) ?_;rw [qh,zC he,Bool.true_and];have e:decide (((F1 (FW X).1).size:Int)<200)=decide ((F1 (FW X).1).size<200):=by rw [decide_eq_decide];omega
  exact congrArg (λb:Bool=>some ((⟨#[61]⟩:BA)++F1 (FW X).1,b)) e
theorem WA (s:BA) (hb:s.size<=140737488355328):Ev (Mv · s) (GJ s):=by
 obtain ⟨n1,h1⟩:=Pj s 200 hb;unfold GJ;cases hp:FT s 200 with
 |false=>
  rw [if_pos rfl];have h0:s.toList≠ []:=λe=>by
   have:FT s 200=true:=by
    unfold FT;have hz:s.size=0:=by rw [<-EA,e];rfl
    rw [e,hz];rfl
   rw [hp] at this;cases this
  refine ⟨n1+1,λn hn=>?_⟩;obtain ⟨k,rfl,hm⟩:=up1 hn;refine qa (h1 k (by omega)) (qb (JO hp) ?_);rw [qh,M8 h0]
 |true=>
  rw [if_neg (by simp)];have hsz:=M9 hp;by_cases h0:s.toList= []
  ·rw [if_pos h0];refine ⟨n1+1,λn hn=>?_⟩;obtain ⟨k,rfl,hm⟩:=up1 hn;refine qa (h1 k (by omega)) (qc (IP hp) (qb (XG h0) ?_));rw [qh,XG h0]
  ·rw [if_neg h0];obtain ⟨n2,h2⟩:=MH s 61;by_cases h61:s.toList.head?=some 61
   ·rw [if_pos h61];rw [if_pos h61] at h2;obtain ⟨n3,h3⟩:=Rf (BR s.toList.tail) (by rw [qw,List.length_tail,EA];omega);obtain ⟨n4,h4⟩:=Zl (BR s.toList.tail)
    change ∀n,n2<=n->EX n s ⟨#[61]⟩=some (BR s.toList.tail,true) at h2
    generalize BR s.toList.tail=X at h2 h3 h4⊢;refine ⟨n1+n2+n3+n4+1,λn hn=>?_⟩;obtain ⟨k,rfl,hm⟩:=up1 hn;have h4:=h4 k (by omega);refine qa (h1 k (by omega)) (qc (IP hp) (qc (M8 h0) (qa (h2 k (by omega)) (qb rfl (qa (h3 k (by omega)) (qa h4 ?_))))));by_cases hr:(FW X).2=true
    ·refine qc (IP hr) ?_;by_cases he:(F1 (FW X).1).toList≠ []/\(F1 (FW X).1).size<200
     ·rw [if_pos ⟨hr,he⟩];exact qc (IP (by simp only;rw [zC he.1,zC he.2];rfl)) rfl
     ·rw [if_neg (λh=>he h.2)];exact qb (JO (by simp only;rw [bX];intro e;simp only [zL,aG] at e;exact he e)) rfl
    ·rw [if_neg (λh=>hr h.1)];exact qb (JO (by rw [bX];exact hr)) rfl
   ·rw [if_neg h61];rw [if_neg h61] at h2;obtain ⟨n3,h3⟩:=NW s (by omega);obtain ⟨n4,h4⟩:=Zh s.toList (by rw [EA];omega);rw [Ky] at h4;have fin:∀k,n3<=k->(Tr.opt (EG k s) λr=>(.ask (r.2.2.2) (.done (s,true)) (.ask (((s.size:Int)==(200:Int))) (.done ((⟨#[]⟩:BA),false)) (.ask (decide ((⟨#[39]⟩:BA).size+s.size<=9223372036854775807)) (.done (((⟨#[39]⟩:BA)++s),true)) .fail)))).run=some (if (q7 s).2.2.2=true then (s,true) else if s.size=200 then ((⟨#[]⟩:BA),false) else (⟨#[39]⟩++s,true)):=λk hk=>by
     refine qa (h3 k hk) ?_;by_cases hv:(q7 s).2.2.2=true
     ·rw [if_pos hv];exact qb hv rfl
     ·rw [if_neg hv];refine qc (by rw [bX];exact hv) ?_;by_cases hz:s.size=200
      ·rw [if_pos hz];exact qb (zanG.2 (by omega)) rfl
      ·rw [if_neg hz];exact qc (zanF.2 (by omega)) (qb (zC (by show 1+s.size<=9223372036854775807;omega)) rfl)
    have hpi:∀k,Et (k+1) s 10 64=zN s 10 64:=λk=>rfl
    have hL:zN s 10 64=(match Lib.parseIntB 64 s.toList with
     | .ok v=>some (.inl v)
     | .range=>some (.inr (Lib.intSat 64 s.toList))
     |_=>some (.inr 0)):=by
     unfold zN;rw [if_pos ⟨rfl,rfl,by omega⟩,zao];cases Lib.parseIntB 64 s.data.toList<;>rfl
    rcases hq:Lib.parseIntB 64 s.toList with v|_|_
    rotate_left
    ·have hn:JP s.toList=false:=by
      rw [bX];intro e;have hd:Tp s.toList=true:=by unfold JP at e;simp only [zL] at e;exact e.1
      have:=(VC hd).2 e;rw [hq] at this;cases this
     rw [hn,if_neg (by simp)];rw [hq] at hL;refine ⟨n1+n2+n3+2,λn hn=>?_⟩;obtain ⟨k,rfl,hm⟩:=up1 hn;obtain ⟨k,rfl,hm⟩:=up1 (show n1+n2+n3+1<=k by omega);exact qa (h1 (k+1) (by omega)) (qc (IP hp) (qc (M8 h0) (qa (h2 (k+1) (by omega)) (qc rfl (qa ((hpi k).trans hL) (qc rfl (fin (k+1) (by omega))))))))
    ·have hn:JP s.toList=false:=by
      rw [bX];intro e;have hd:Tp s.toList=true:=by unfold JP at e;simp only [zL] at e;exact e.1
      have:=(VC hd).2 e;rw [hq] at this;cases this
     rw [hn,if_neg (by simp)];rw [hq] at hL;refine ⟨n1+n2+n3+2,λn hn=>?_⟩;obtain ⟨k,rfl,hm⟩:=up1 hn;obtain ⟨k,rfl,hm⟩:=up1 (show n1+n2+n3+1<=k by omega);exact qa (h1 (k+1) (by omega)) (qc (IP hp) (qc (M8 h0) (qa (h2 (k+1) (by omega)) (qc rfl (qa ((hpi k).trans hL) (qc rfl (fin (k+1) (by omega))))))))
    ·rw [hq] at hL;cases hd:Tp s.toList with
     |false=>
      have hn:JP s.toList=false:=by unfold JP;rw [hd];rfl
      rw [hn,if_neg (by simp)];refine ⟨n1+n2+n3+n4+2,λn hn=>?_⟩;obtain ⟨k,rfl,hm⟩:=up1 hn;obtain ⟨k,rfl,hm⟩:=up1 (show n1+n2+n3+n4+1<=k by omega);have h4:=h4 (k+1) (by omega);rw [hd] at h4;exact qa (h1 (k+1) (by omega)) (qc (IP hp) (qc (M8 h0) (qa (h2 (k+1) (by omega)) (qc rfl (qa ((hpi k).trans hL) (qb rfl (qa h4 (qc rfl (fin (k+1) (by omega))))))))))
     |true=>
      have hv:=(VC hd).1 v hq;subst hv;obtain ⟨n5,h5⟩:=Qg (N9 s.toList);obtain ⟨n6,h6⟩:=Lw 1 (N9 s.toList) em (by decide);have ei:JP s.toList=okV 1 (N9 s.toList) em:=by unfold JP;rw [hd,Bool.true_and]
      rw [ei];cases ho:okV 1 (N9 s.toList) em with
      |true=>
       rw [if_pos rfl];have hb2:=jy.1 ho;obtain ⟨n7,h7⟩:=Jt (N9 s.toList) (by omega);refine ⟨n1+n2+n3+n4+n5+n6+n7+2,λn hn=>?_⟩;obtain ⟨k,rfl,hm⟩:=up1 hn;obtain ⟨k,rfl,hm⟩:=up1 (show n1+n2+n3+n4+n5+n6+n7+1<=k by omega);have h4:=h4 (k+1) (by omega);rw [hd] at h4;exact qa (h1 (k+1) (by omega)) (qc (IP hp) (qc (M8 h0) (qa (h2 (k+1) (by omega)) (qc rfl (qa ((hpi k).trans hL) (qb rfl (qa h4 (qb rfl (qa (h5 (k+1) (by omega)) (qa (h6 (k+1) (by omega)) (qb ho (qa (h7 (k+1) (by omega)) rfl))))))))))))
      |false=>
       rw [if_neg (by simp)];refine ⟨n1+n2+n3+n4+n5+n6+2,λn hn=>?_⟩;obtain ⟨k,rfl,hm⟩:=up1 hn;obtain ⟨k,rfl,hm⟩:=up1 (show n1+n2+n3+n4+n5+n6+1<=k by omega);have h4:=h4 (k+1) (by omega);rw [hd] at h4;exact qa (h1 (k+1) (by omega)) (qc (IP hp) (qc (M8 h0) (qa (h2 (k+1) (by omega)) (qc rfl (qa ((hpi k).trans hL) (qb rfl (qa h4 (qb rfl (qa (h5 (k+1) (by omega)) (qa (h6 (k+1) (by omega)) (qc ho (fin (k+1) (by omega)))))))))))))
abbrev Cl:=Int×Int×BA
def cm (s:BA):Bool:=(GJ s).2&&(decide (s.toList≠ [])&&((GJ s).1.toList==s.toList))
theorem VR (s:BA) (hb:s.size<=140737488355328):Ev (Ic · s) (cm s):=by
 obtain ⟨n1,h1⟩:=WA s hb;refine ⟨n1+1,λn hn=>?_⟩;obtain ⟨k,rfl,hm⟩:=up1 hn;refine qa (h1 k (by omega)) ?_;unfold cm;by_cases h2:(GJ s).2=true
 ·refine qb h2 ?_;rw [h2,Bool.true_and];by_cases h3:s.toList= []
  ·refine qc (IP (XG h3)) ?_;rw [qh,aA (λe=>e h3),Bool.false_and]
  ·refine qb (JO (M8 h3)) ?_;rw [qh,zC h3,Bool.true_and]
 ·have h2:(GJ s).2=false:=by rw [bX];exact h2
  refine qc h2 ?_;rw [qh,h2,Bool.false_and]
structure SrcAt (n:Nat) (c:Cl):Prop where
 r1:FQ n c.1 c.2.1=some (Ef c.1 c.2.1)
 r2:Gc n c.1 c.2.1=some (Ef c.1 c.2.1)
 i1:GA n c.2.2=some (GJ c.2.2)
 i2:Ic n c.2.2=some (cm c.2.2)
theorem Ts {r:LBy} (h:r.head?≠some 32):tb r=r:=by
 cases r with
 |nil=>rfl
 |cons c t=>
  have:¬c=32:=λe=>h (by rw [e];rfl)
  simp [tb,this]
theorem Y3 {w r:LBy} (h:w.all wch=true) (h2:∀c,r.head?=some c->wch c=false):wd (w++r)=w/\wr (w++r)=r:=by
 unfold wd wr;rw [zamK] at h;rw [List.takeWhile_append_of_pos h,List.dropWhile_append_of_pos h];cases r with
 |nil=>simp
 |cons c r=>simp [h2 c rfl]
def Fo (r:LBy):Prop:=∀c,r.head?=some c->c∈([38,43,45,42,47,60,61,62,41,44]:LBy)
theorem fh:Fo []:=λc h=>by cases h
theorem Hs {c:UInt8} {r:LBy} (h:c∈([38,43,45,42,47,60,61,62,41,44]:LBy)):Fo (c::r):=λd hd=>by
 simp at hd;subst hd;exact h
theorem Sl {r:LBy} (h:Fo r):∀c,r.head?=some c->wch c=false:=λc hc=>by
 have:=h c hc
 revert this
 simp only [zamT,List.not_mem_nil,or_false];rintro (rfl|rfl|rfl|rfl|rfl|rfl|rfl|rfl|rfl|rfl)<;>decide
theorem am {r:LBy} (h:Fo r) {d:UInt8} (hd:d∉([38,43,45,42,47,60,61,62,41,44]:LBy)):r.head?≠some d:=λe=>hd (h d e)
theorem au {r:LBy} (h:Fo r):tb r=r:=Ts (am h (by decide))
theorem Y4:∀(b acc r:LBy),r.head?≠some 34->GZ acc (E6 b++34::r)=some (acc++b,r)
 | [],acc,r,h=>by simp only [E6,List.flatMap_nil,List.nil_append,List.append_nil];exact jo acc r h
 |c::b,acc,r,h=>by
  rw [J9];by_cases hc:c=34
  ·subst hc;rw [if_pos rfl];show GZ acc (34::34::(E6 b++34::r))=_;rw [jn,Y4 b _ r h];simp
  ·rw [if_neg hc];show GZ acc (c::(E6 b++34::r))=_;rw [jp _ _ hc,Y4 b _ r h];simp
def Sta (r:LBy):Prop:=∃c,r.head?=some c/\(wch c=true\/c=45\/c=40\/c=34\/c=35)
theorem Y5 {r:LBy} (h:Sta r) {d:UInt8} (h1:wch d=false) (h2:d≠45/\d≠40/\d≠34/\d≠35):r.head?≠some d:=λe=>by
 obtain ⟨c,hc,hw⟩:=h;rw [e] at hc;cases hc;rcases hw with hw|rfl|rfl|rfl|rfl
 ·rw [h1] at hw;cases hw
 ·exact h2.1 rfl
 ·exact h2.2.1 rfl
 ·exact h2.2.2.1 rfl
 ·exact h2.2.2.2 rfl
theorem l9 {r:LBy} (h:Sta r):tb r=r:=Ts (Y5 h (by decide) (by decide))
theorem PI {r:LBy} (h:Sta r) (x:LBy):Sta (r++x):=by
 obtain ⟨c,hc,hw⟩:=h;cases r with
 |nil=>cases hc
 |cons d t=>exact ⟨c,hc,hw⟩
theorem Zm {op:Int} (ho:1<=op/\op<=11) {x:LBy} (hx:Sta x):sgn ((D5 op).toList++x)=(D5 op).toList:=by
 have n61:x.head?≠some 61:=Y5 hx (by decide) (by decide);have n62:x.head?≠some 62:=Y5 hx (by decide) (by decide);have c:op=1\/op=2\/op=3\/op=4\/op=5\/op=6\/op=7\/op=8\/op=9\/op=10\/op=11:=by omega
 rcases c with rfl|rfl|rfl|rfl|rfl|rfl|rfl|rfl|rfl|rfl|rfl
 ·rw [sg1];exact (Kq 43 x (by decide) (by decide)).trans (by decide)
 ·rw [sg2];exact (Kq 45 x (by decide) (by decide)).trans (by decide)
 ·rw [sg3];exact (Kq 42 x (by decide) (by decide)).trans (by decide)
 ·rw [sg4];exact (Kq 47 x (by decide) (by decide)).trans (by decide)
 ·rw [sg5];exact (Kq 38 x (by decide) (by decide)).trans (by decide)
 ·rw [sg6];exact (Kq 61 x (by decide) (by decide)).trans (by decide)
 ·rw [sg7];exact (Qp (62::x)).trans (by simp)
 ·rw [sg8];exact (Qp x).trans (by rw [if_neg n62,if_neg n61])
 ·rw [sg9];exact (Qp (61::x)).trans (by simp)
 ·rw [f4];exact (U4 x).trans (by rw [if_neg n61])
 ·rw [f5];exact (U4 (61::x)).trans (by simp)
theorem YQ {op:Int} (ho:1<=op/\op<=11) {r:LBy} (h:sgn r=(D5 op).toList):Er r=op:=by
 unfold Er;rw [h];have c:op=1\/op=2\/op=3\/op=4\/op=5\/op=6\/op=7\/op=8\/op=9\/op=10\/op=11:=by omega
 rcases c with rfl|rfl|rfl|rfl|rfl|rfl|rfl|rfl|rfl|rfl|rfl<;>decide+kernel
theorem Y6 {op:Int} (ho:1<=op/\op<=11) (x:LBy):Fo ((D5 op).toList++x):=by
 have c:op=1\/op=2\/op=3\/op=4\/op=5\/op=6\/op=7\/op=8\/op=9\/op=10\/op=11:=by omega
 rcases c with rfl|rfl|rfl|rfl|rfl|rfl|rfl|rfl|rfl|rfl|rfl
 ·rw [sg1];exact Hs (by decide)
 ·rw [sg2];exact Hs (by decide)
 ·rw [sg3];exact Hs (by decide)
 ·rw [sg4];exact Hs (by decide)
 ·rw [sg5];exact Hs (by decide)
 ·rw [sg6];exact Hs (by decide)
 ·rw [sg7];exact Hs (by decide)
 ·rw [sg8];exact Hs (by decide)
 ·rw [sg9];exact Hs (by decide)
 ·rw [f4];exact Hs (by decide)
 ·rw [f5];exact Hs (by decide)
theorem fi {op:Int} (ho:1<=op/\op<=11):1<=(D5 op).toList.length:=by
 have c:op=1\/op=2\/op=3\/op=4\/op=5\/op=6\/op=7\/op=8\/op=9\/op=10\/op=11:=by omega
 rcases c with rfl|rfl|rfl|rfl|rfl|rfl|rfl|rfl|rfl|rfl|rfl<;>decide+kernel
theorem Y7 (x:LBy):Er (41::x)=0:=by
 unfold Er;rw [Kq 41 x (by decide) (by decide)]
 decide
theorem jz (x:LBy):Er (44::x)=0:=by
 unfold Er;rw [Kq 44 x (by decide) (by decide)]
 decide
theorem Zn:Er []=0:=by decide
theorem Y8 {c:UInt8} (hc:c∈([45,40,41,44,58]:LBy)) {p:PS} (h:(tb p.1).head?≠some c):qp [c] p=(false,tb p.1,p.2):=by
 unfold qp;rw [if_neg];intro e;exact h ((Ie c _).1 ((y9 hc _).1 e))
theorem Qv {c:UInt8} (hc:c∈([45,40,41,44,58]:LBy)) {r:LBy} (h32:c≠32) (b:Bool) (l:List Nd):qp [c] (c::r,b,l)=(true,r,b,l):=by
 have t:tb (c::r)=c::r:=Ts (by simpa using h32);unfold qp;simp only [t];rw [if_pos ((y9 hc _).2 ((Ie c _).2 rfl))];rfl
theorem nk {n:Int} (hn:1<=n/\n<=5) (r:LBy):Nc ((qq n).toList++r) 1 5=some n:=by
 have t1:(qq 1).toList= [35,68,73,86,33]:=by rw [zao];rfl
 have t2:(qq 2).toList= [35,84,89,80,69,33]:=by rw [zao];rfl
 have t3:(qq 3).toList= [35,82,69,70,33]:=by rw [zao];rfl
 have t4:(qq 4).toList= [35,79,86,69,82,33]:=by rw [zao];rfl
 have t5:(qq 5).toList= [35,67,89,67,76,69,33]:=by rw [zao];rfl
 have a2:(1:Int)+1=2:=rfl;have a3:(2:Int)+1=3:=rfl;have a4:(3:Int)+1=4:=rfl;have a5:(4:Int)+1=5:=rfl;simp only [Nc,a2,a3,a4,a5];have c:n=1\/n=2\/n=3\/n=4\/n=5:=by omega
 rcases c with rfl|rfl|rfl|rfl|rfl<;>simp [t1,t2,t3,t4,t5,List.isPrefixOf]
theorem Hy (a b:BA):(a++b).toList=a.toList++b.toList:=by rw [zao,IM,zao,zao]
theorem Tt {a b:Int} {f g:Bool} (h:zP a b f g=true):a=0/\b=0/\f=false/\g=false:=by
 unfold zP at h;simp only [zL,aG,Bool.not_eq_true'] at h;exact ⟨h.1,h.2.1,h.2.2.1,h.2.2.2⟩
theorem Zo {k x:Int} {s:BA} (h:zV k x s=true):k=0/\x=0/\s=em:=by
 unfold zV at h;simp only [zL,aG,zanG] at h;exact ⟨h.1,h.2.1,HU (h.2.2.trans qy.symm)⟩
theorem m7 {l:List Int} (h:decide (l.length=0)=true):l= []:=List.length_eq_zero_iff.1 (of_decide_eq_true h)
theorem fj {c:Nd} (h:Gq c=true) (k:c.1=1):c=nd1 (c.2.2.1,c.2.2.2.1,c.2.2.2.2.1)/\okV c.2.2.1 c.2.2.2.1 c.2.2.2.2.1=true/\c.2.2.1≠0/\(c.2.2.1=1->0<=c.2.2.2.1):=by
 obtain ⟨k0,op,vk,vx,vs,a,b,fc,fr,a2,b2,fc2,fr2,ks⟩:=c;simp only at k;subst k;unfold Gq at h;simp only [if_true,zL,aG,kd,Bool.not_eq_true',decide_eq_false_iff_not,Bool.or_eq_true] at h;obtain ⟨h1,h2,h3,h4,h5,h6,h7⟩:=h;obtain ⟨rfl,rfl,rfl,rfl⟩:=Tt h2;obtain ⟨rfl,rfl,rfl,rfl⟩:=Tt h3;have:=m7 h4;subst this;subst h1;refine ⟨rfl,h5,h6,λe=>?_⟩;rcases h7 with h7|h7
 ·exact absurd e h7
 ·exact h7
theorem fk {c:Nd} (h:Gq c=true) (k:c.1=2):c=ndC (c.2.2.2.2.2.1,c.2.2.2.2.2.2.1,c.2.2.2.2.2.2.2.1,c.2.2.2.2.2.2.2.2.1,true)/\Ef c.2.2.2.2.2.1 c.2.2.2.2.2.2.1=true:=by
 obtain ⟨k0,op,vk,vx,vs,a,b,fc,fr,a2,b2,fc2,fr2,ks⟩:=c;simp only at k;subst k;unfold Gq at h;rw [if_neg (by simp),if_pos rfl] at h;simp only [zL,aG,kd] at h;obtain ⟨h1,h2,h3,h4,h5⟩:=h;obtain ⟨rfl,rfl,rfl⟩:=Zo h2;obtain ⟨rfl,rfl,rfl,rfl⟩:=Tt h3;have:=m7 h4;subst this;subst h1;exact ⟨rfl,h5⟩
theorem m8 {c:Nd} (h:Gq c=true) (k:c.1=3):c=ndA (c.2.2.2.2.2.1,c.2.2.2.2.2.2.1,c.2.2.2.2.2.2.2.1,c.2.2.2.2.2.2.2.2.1,true) (c.2.2.2.2.2.2.2.2.2.1,c.2.2.2.2.2.2.2.2.2.2.1,c.2.2.2.2.2.2.2.2.2.2.2.1,c.2.2.2.2.2.2.2.2.2.2.2.2.1,true)/\J7 c.2.2.2.2.2.1 c.2.2.2.2.2.2.1 c.2.2.2.2.2.2.2.2.2.1 c.2.2.2.2.2.2.2.2.2.2.1=true:=by
 obtain ⟨k0,op,vk,vx,vs,a,b,fc,fr,a2,b2,fc2,fr2,ks⟩:=c;simp only at k;subst k;unfold Gq at h;rw [if_neg (by simp),if_neg (by simp),if_pos rfl] at h;simp only [zL,aG,kd] at h;obtain ⟨h1,h2,h4,h5⟩:=h;obtain ⟨rfl,rfl,rfl⟩:=Zo h2;have:=m7 h4;subst this;subst h1;exact ⟨rfl,h5⟩
theorem fm {c:Nd} (h:Gq c=true) (k:c.1=4):∃x,c=ndK 4 0 [x]:=by
 obtain ⟨k0,op,vk,vx,vs,a,b,fc,fr,a2,b2,fc2,fr2,ks⟩:=c;simp only at k;subst k;unfold Gq at h;rw [if_neg (by simp),if_neg (by simp),if_neg (by simp),if_pos rfl] at h;simp only [zL,aG,kd] at h;obtain ⟨h1,h2,h3,h4,h5⟩:=h;obtain ⟨rfl,rfl,rfl⟩:=Zo h2;obtain ⟨rfl,rfl,rfl,rfl⟩:=Tt h3;obtain ⟨rfl,rfl,rfl,rfl⟩:=Tt h4;obtain ⟨x,rfl⟩:=List.length_eq_one_iff.1 (of_decide_eq_true h5);subst h1;exact ⟨x,rfl⟩
theorem fo {c:Nd} (h:Gq c=true) (k:c.1=5):∃x y,c=ndK 5 c.2.1 [x,y]/\1<=c.2.1/\c.2.1<=11:=by
 obtain ⟨k0,op,vk,vx,vs,a,b,fc,fr,a2,b2,fc2,fr2,ks⟩:=c;simp only at k;subst k;unfold Gq at h;rw [if_neg (by simp),if_neg (by simp),if_neg (by simp),if_neg (by simp),if_pos rfl] at h;simp only [zL,aG,kd] at h;obtain ⟨h1,h2,h3,h4,h5⟩:=h;obtain ⟨rfl,rfl,rfl⟩:=Zo h2;obtain ⟨rfl,rfl,rfl,rfl⟩:=Tt h3;obtain ⟨rfl,rfl,rfl,rfl⟩:=Tt h4;obtain ⟨x,y,rfl⟩:∃x y,ks= [x,y]:=by
  match ks,of_decide_eq_true h5 with
  | [x,y],_=>exact ⟨x,y,rfl⟩
 exact ⟨x,y,rfl,h1⟩
theorem fp {c:Nd} (h:Gq c=true) (k:c.1=6):c=ndK 6 c.2.1 (kd c)/\MC c.2.1 ((kd c).length:Int)=true:=by
 obtain ⟨k0,op,vk,vx,vs,a,b,fc,fr,a2,b2,fc2,fr2,ks⟩:=c;simp only at k;subst k;unfold Gq at h;rw [if_neg (by simp),if_neg (by simp),if_neg (by simp),if_neg (by simp),if_neg (by simp),if_pos rfl] at h;simp only [zL,kd] at h;obtain ⟨h1,h2,h3,h4⟩:=h;obtain ⟨rfl,rfl,rfl⟩:=Zo h2;obtain ⟨rfl,rfl,rfl,rfl⟩:=Tt h3;obtain ⟨rfl,rfl,rfl,rfl⟩:=Tt h4;exact ⟨rfl,h1⟩
theorem YR {c r:Int} {fc fr:Bool} (h:Ef c r=true):(EF c r fc fr).toList=(if fc=true then [36] else [])++((GI c).data.toList++((if fr=true then [36] else [])++Lib.itoa r)):=by
 rw [zao];simp [EF,h,Gk]
theorem nq {c:UInt8} (h:J8 c=true):wch c=true:=by
 simp only [J8,zL,aG] at h;unfold wch;simp only [Bool.or_eq_true,zL,aG];exact .inl h
theorem Tu {c:UInt8} (h:Ej c=true):wch c=true:=by
 simp only [Ej,zL,aG] at h;unfold wch;simp only [Bool.or_eq_true,zL,aG];exact .inr (.inl h)
theorem Qw {x:Int} (h:0<=x):(Lib.itoa x).all Ej=true/\Lib.itoa x≠ []:=by
 unfold Lib.itoa;rw [if_neg (by omega)];obtain ⟨h1,_,h3,_,_⟩:=HV x.toNat;exact ⟨h1,h3⟩
theorem Kt {p q:UInt8->Bool} {l:LBy} (h:∀c,p c=true->q c=true) (hl:l.all p=true):l.all q=true:=by
 rw [zamK] at hl⊢;exact λx hx=>h x (hl x hx)
theorem LN {c r:Int} {fc fr:Bool} (h:Ef c r=true):(EF c r fc fr).toList.all wch=true/\(EF c r fc fr).toList≠ []:=by
 obtain ⟨hc,hr⟩:=Ji h;obtain ⟨u1,u2,u3⟩:=WC hc;rw [YR h];obtain ⟨d1,d2⟩:=Qw (x:=r) (by omega);refine ⟨?_,by simp [u3]⟩;simp only [List.all_append,zL];refine ⟨?_,Kt (λ_=>nq) u1,?_,Kt (λ_=>Tu) d1⟩
 ·split<;>decide
 ·split<;>decide
theorem co {c r:Int} {fc fr:Bool} (h:Ef c r=true):¬((q7 (EF c r fc fr)).2.2.2=true/\((q7 (EF c r fc fr)).1=1\/(q7 (EF c r fc fr)).1=3)):=by
 rintro ⟨ho,hk⟩;obtain ⟨hc,hr⟩:=Ji h;obtain ⟨u1,u2,u3⟩:=WC hc;obtain ⟨d1,d2⟩:=Qw (x:=r) (by omega);obtain ⟨v1,v2⟩:=XH ho;have e:=congrArg ByteArray.toList v2;rw [YR h] at e;generalize q7 (EF c r fc fr)=v at*
 obtain ⟨a,t,hat⟩:∃a t,(GI c).data.toList=a::t:=by
  cases hq:(GI c).data.toList with
  |nil=>exact absurd hq u3
  |cons a t=>exact ⟨a,t,rfl⟩
 obtain ⟨d,t',hdt⟩:∃d t',Lib.itoa r=d::t':=by
  cases hq:Lib.itoa r with
  |nil=>exact absurd hq d2
  |cons a t=>exact ⟨a,t,rfl⟩
 have ma:a∈(EN v.1 v.2.1 v.2.2.1).toList:=by rw [e,hat];simp
 have md:d∈(EN v.1 v.2.1 v.2.2.1).toList:=by rw [e,hdt];simp
 have ua:J8 a=true:=by rw [hat,zanC,zL] at u1;exact u1.1
 have dd:Ej d=true:=by rw [hdt,zanC,zL] at d1;exact d1.1
 simp only [J8,zL,aG] at ua;simp only [Ej,zL,aG] at dd;rcases hk with hk|hk
 ·rw [hk] at ma;have ht:(EN 1 v.2.1 v.2.2.1).toList=Lib.itoa v.2.1:=by rw [zao];simp [EN,Gk]
  rw [ht] at ma;unfold Lib.itoa at ma;split at ma
  ·rcases zamT.1 ma with rfl|ma
   ·exact absurd ua.1 (by decide)
   ·have:=(HV v.2.1.natAbs).1;rw [zamK] at this;have:=this a ma;simp only [Ej,zL,aG] at this;omega
  ·have:=(HV v.2.1.toNat).1;rw [zamK] at this;have:=this a ma;simp only [Ej,zL,aG] at this;omega
 ·rw [hk] at md v1;have hs:=N3 v1 (by decide);rw [hs] at v1 md;have hr:=X0 v1;have c01:v.2.1=0\/v.2.1=1:=by omega
  rcases c01 with e0|e0
  ·rw [e0] at md;have ht:(EN 3 0 em).toList= [70,65,76,83,69]:=by rw [zao];rfl
   rw [ht] at md;simp only [zamT,List.not_mem_nil,or_false] at md;rcases md with rfl|rfl|rfl|rfl|rfl<;>exact absurd dd (by decide)
  ·rw [e0] at md;have ht:(EN 3 1 em).toList= [84,82,85,69]:=by rw [zao];rfl
   rw [ht] at md;simp only [zamT,List.not_mem_nil,or_false] at md;rcases md with rfl|rfl|rfl|rfl<;>exact absurd dd (by decide)
theorem Ku {l:List Nd} (hl:l.length<=60) {i:Int} (hi:0<=i/\i<l.length) (r:LBy) {x:Nd} (hx:ndi l i=x):IN x (r,false,l.take i.toNat)=(i,r,false,l.take (i.toNat+1)):=by
 have hlen:(l.take i.toNat).length=i.toNat:=by rw [List.length_take];omega
 unfold IN;rw [if_neg]
 ·simp only [hlen];have hg:=Hp (l:=l) (i:=i) ⟨hi.1,hi.2⟩;rw [hx] at hg;rw [List.take_add_one,hg];refine Prod.ext (by simp only;omega) rfl
 ·simp only [hlen];rintro (h|h)
  ·cases h
  ·omega
theorem aw {f:Nat} {deep:Int} {x:LBy} {l:List Nd} (hd:deep<=400) (h32:x.head?≠some 32) (h45:x.head?≠some 45):pP (f+1) (.un deep) (x,false,l)=pP f (.at deep) (x,false,l):=by
 have t:=Ts h32;have tk:=Y8 (c:=45) (by decide) (p:=(x,false,l)) (by simp only;rw [t];exact h45);simp only [t] at tk
 conv=>lhs;unfold pP
 rw [if_neg (λh=>h.elim (by omega) (by simp)),tk];simp
theorem kh {f:Nat} {deep:Int} {w r:LBy} {l:List Nd} (hw:w.all wch=true) (hn:w≠ []) (hr:∀c,r.head?=some c->wch c=false):pP (f+1) (.at deep) (w++r,false,l)=Tm f deep w (r,false,l):=by
 obtain ⟨c,t,rfl⟩:∃c t,w=c::t:=by
  cases w with
  |nil=>exact absurd rfl hn
  |cons c t=>exact ⟨c,t,rfl⟩
 have wc:wch c=true:=by rw [zanC,zL] at hw;exact hw.1
 have ne:∀d:UInt8,wch d=false->((c::t)++r).head?≠some d:=λd hd e=>by
  have:c=d:=by simpa using e
  rw [this,hd] at wc;cases wc
 have tt:tb ((c::t)++r)=(c::t)++r:=Ts (ne 32 (by decide));have tk:=Y8 (c:=40) (by decide) (p:=((c::t)++r,false,l)) (by simp only;rw [tt];exact ne 40 (by decide));obtain ⟨e1,e2⟩:=Y3 hw hr
 conv=>lhs;unfold pP
 simp only [tt,tk,e1,e2];rw [if_neg (ne 34 (by decide)),if_neg (ne 35 (by decide))];simp only;rw [if_neg (λh=>by cases h.2)];rfl
theorem WG {f:Nat} {deep:Int} {w r:LBy} {l:List Nd} (hd:deep<=400) (hw:w.all wch=true) (hn:w≠ []) (hr:∀c,r.head?=some c->wch c=false):pP (f+2) (.un deep) (w++r,false,l)=Tm f deep w (r,false,l):=by
 have hs:Sta (w++r):=by
  cases w with
  |nil=>exact absurd rfl hn
  |cons c t=>
   rw [zanC,zL] at hw;exact ⟨c,rfl,.inl hw.1⟩
 have h45:(w++r).head?≠some 45:=by
  cases w with
  |nil=>exact absurd rfl hn
  |cons c t=>
   rw [zanC,zL] at hw;intro e;have:c=45:=by simpa using e
   rw [this] at hw;exact absurd hw.1 (by decide)
 rw [aw hd (Y5 hs (by decide) (by decide)) h45,kh hw hn hr]
theorem XI {x:Int} (h:0<=x/\x<=1):(EN 3 x em).toList.all wch=true/\(EN 3 x em).toList≠ []:=by
 have c01:x=0\/x=1:=by omega
 rcases c01 with rfl|rfl
 ·have ht:(EN 3 0 em).toList= [70,65,76,83,69]:=by rw [zao];rfl
  rw [ht];exact ⟨by decide,by decide⟩
 ·have ht:(EN 3 1 em).toList= [84,82,85,69]:=by rw [zao];rfl
  rw [ht];exact ⟨by decide,by decide⟩
theorem nr {l:List Nd} (hl:l.length<=60) {i:Int} (hi:0<=i/\i<l.length) {k x:Int} {s:BA} (hx:ndi l i=nd1 (k,x,s)) (hv:okV k x s=true) (h0:k≠0) (h1:k=1->0<=x) {f:Nat} {deep:Int} {r:LBy} (hd:deep<=400) (hr:Fo r):
  pP (f+2) (.un deep) ((if k=2 then I7 s else EN k x s).toList++r,false,l.take i.toNat)=(i,r,false,l.take (i.toNat+1)):=by
 have kc:=w6 hv;rcases kc with rfl|rfl|rfl|rfl|rfl
 ·exact absurd rfl h0
 ·rw [if_neg (by decide)];have hs:=N3 hv (by decide);subst hs;have ht:(EN 1 x em).toList=Lib.itoa x:=by rw [zao];simp [EN,Gk]
  have rb:=OZ hv;obtain ⟨d1,d2⟩:=Qw (h1 rfl);have e:BR (Lib.itoa x)=EN 1 x em:=by rw [<-ht,Ky]
  rw [ht,WG hd (Kt (λ_=>Tu) d1) d2 (Sl hr)];unfold Tm;rw [e,rb,if_pos ⟨rfl,.inl rfl⟩];exact Ku hl hi r hx
 ·rw [if_pos rfl];obtain ⟨rfl,_,_⟩:=TV hv;have ht:(I7 s).toList=34::E6 s.toList++ [34]:=by unfold I7;exact Eg _
  rw [ht];have e:(34::E6 s.toList++ [34])++r=34::(E6 s.toList++34::r):=by simp
  rw [e,aw hd (by simp) (by simp)];have tt:tb (34::(E6 s.toList++34::r))=34::(E6 s.toList++34::r):=Ts (by simp);have q:=Y4 s.toList [] r (am hr (by decide))
  conv=>lhs;unfold pP
  simp only [tt];rw [if_pos (show (34::(E6 s.toList++34::r)).head?=some 34 from rfl),List.tail_cons,q];simp only [List.nil_append,Ky];exact Ku hl hi r hx
 ·rw [if_neg (by decide)];have hs:=N3 hv (by decide);subst hs;have rb:=OZ hv;obtain ⟨d1,d2⟩:=XI (X0 hv);rw [WG hd d1 d2 (Sl hr)];unfold Tm;rw [Ky,rb,if_pos ⟨rfl,.inr rfl⟩];exact Ku hl hi r hx
 ·rw [if_neg (by decide)];have hs:=N3 hv (by decide);subst hs;have hn:=X1 hv;have hx2:EN 4 x em=qq x:=rfl;rw [hx2];obtain ⟨t,ht⟩:=cg.n x hn;have hh:((qq x).toList++r).head?=some 35:=by rw [ht];rfl
  rw [aw hd (by rw [hh];decide) (by rw [hh];decide)];have tt:tb ((qq x).toList++r)=(qq x).toList++r:=Ts (by rw [hh];decide);have ea:=nk hn r;have ed:((qq x).toList++r).drop (qq x).size=r:=by rw [<-EA];exact List.drop_left
  conv=>lhs;unfold pP
  simp only [tt];rw [if_neg (by rw [hh];decide),if_pos hh,ea];simp only [ed];exact Ku hl hi r hx
theorem ki {l:List Nd} (hl:l.length<=60) {i:Int} (hi:0<=i/\i<l.length) {c w:Int} {fc fr:Bool} (hx:ndi l i=ndC (c,w,fc,fr,true)) (ho:Ef c w=true) {f:Nat} {deep:Int} {r:LBy} (hd:deep<=400) (hr:Fo r):
  pP (f+2) (.un deep) ((EF c w fc fr).toList++r,false,l.take i.toNat)=(i,r,false,l.take (i.toNat+1)):=by
 obtain ⟨d1,d2⟩:=LN (fc:=fc) (fr:=fr) ho;rw [WG hd d1 d2 (Sl hr)];unfold Tm;rw [Ky,if_neg (co ho),M0 ho,if_pos rfl];exact Ku hl hi r hx
def lo (l:List Nd) (i:Int):Int:=GY (qi l) (i.toNat+1) i
def VS (l:List Nd):Int->List Int->Int->Prop
 |s,[],e=>s=e
 |s,k::r,e=>lo l k=s/\VS l (k+1) r e
theorem XJ {l:List Nd}:∀{ks:List Int} {s m k e:Int},VS l s ks m->lo l k=m->k+1=e->VS l s (ks++ [k]) e
 | [],s,m,k,e,h,h1,h2=>by
  have h:s=m:=h;subst h;exact ⟨h1,h2⟩
 |a::ks,s,m,k,e,h,h1,h2=>⟨h.1,XJ h.2 h1 h2⟩
theorem Zp {l:List Nd} {F:Int->Int}:∀(ks:List Int) {e s:Int},(∀k∈ks,0<=k->F k=lo l k)->goT F ks (e-1)=s->0<=s->VS l s ks.reverse e
 | [],e,s,_,h,_=>by
  have h:e-1+1=s:=h;show s=e;omega
 |k::r,e,s,hF,h,h0=>by
  unfold goT at h;split at h
  ·omega
  ·rename_i hc;split at h
   ·omega
   ·have hk:k=e-1:=Classical.byContradiction λh=>hc (.inr h)
    have h1:0<=k:=by omega
    have e1:=hF k (zamN ..) h1;rw [<-hk,e1] at h;rw [List.reverse_cons];exact XJ (Zp r (λk hk=>hF k (zamR _ hk)) h h0) rfl (by omega)
theorem XK {l:List Nd} (h:Fine l) {i:Int} (hi:0<=i/\i<l.length) (h0:0<=lo l i):VS l (lo l i) (qi l i) i:=by
 have:=Zp (l:=l) (F:=GY (qi l) i.toNat) (qi l i).reverse (e:=i) (s:=lo l i) (λk hk hk0=>by
  have hin:=(h.own i hi.1 hi.2).2 k (by simpa using hk);exact ZQ (qi l) _ _ _ (by omega) (by omega) hk0) (by
  unfold lo;rw [GY]) h0
 rwa [List.reverse_reverse] at this
def tx (l:List Nd) (g:Nat) (i t:Int):LBy:=(D6 l g i t).toList
def ME (l:List Nd) (g:Nat):List Int->LBy
 | []=> []
 | [k]=>tx l g k 1
 |k::r=>tx l g k 1++44::ME l g r
theorem Sn (l:List Nd) (g:Nat) (k k2:Int) (r:List Int):ME l g (k::k2::r)=tx l g k 1++44::ME l g (k2::r):=rfl
theorem ax (l:List Nd) (g:Nat):∀ks:List Int,(Qn (ks.map λk=>D6 l g k 1)).toList=ME l g ks
 | []=>by unfold Qn;exact Eg _
 | [k]=>by
  unfold Qn;rw [Eg];simp [Lib.join,ME,tx,zao]
 |k::k2::r=>by
  have ih:=ax l g (k2::r);unfold Qn at ih⊢;rw [Eg] at ih⊢;simp only [zanE] at ih⊢;rw [Sn,<-ih];simp [Lib.join,tx,zao]
theorem pm {l:List Nd} {g:Nat} {i t:Int} (h:(ndi l i).1=1):tx l (g+1) i t=(if (ndi l i).2.2.1=2 then I7 (ndi l i).2.2.2.2.1 else EN (ndi l i).2.2.1 (ndi l i).2.2.2.1 (ndi l i).2.2.2.2.1).toList:=by
 unfold tx
 conv=>lhs;unfold D6
 rw [if_pos h]
theorem pn {l:List Nd} {g:Nat} {i t:Int} (h:(ndi l i).1=2):tx l (g+1) i t=(EF (ndi l i).2.2.2.2.2.1 (ndi l i).2.2.2.2.2.2.1 (ndi l i).2.2.2.2.2.2.2.1 (ndi l i).2.2.2.2.2.2.2.2.1).toList:=by
 unfold tx
 conv=>lhs;unfold D6
 rw [if_neg (by rw [h];decide),if_pos h]
theorem pp {l:List Nd} {g:Nat} {i t:Int} (h:(ndi l i).1=3):tx l (g+1) i t=(EF (ndi l i).2.2.2.2.2.1 (ndi l i).2.2.2.2.2.2.1 (ndi l i).2.2.2.2.2.2.2.1 (ndi l i).2.2.2.2.2.2.2.2.1).toList++58::(EF (ndi l i).2.2.2.2.2.2.2.2.2.1 (ndi l i).2.2.2.2.2.2.2.2.2.2.1 (ndi l i).2.2.2.2.2.2.2.2.2.2.2.1 (ndi l i).2.2.2.2.2.2.2.2.2.2.2.2.1).toList:=by
 unfold tx
 conv=>lhs;unfold D6
 rw [if_neg (by rw [h];decide),if_neg (by rw [h];decide),if_pos h,Hy,Hy];simp [zao]
theorem pq {l:List Nd} {g:Nat} {i t:Int} {k:Int} (h:ndi l i=ndK 4 0 [k]):tx l (g+1) i t=45::tx l g k 5:=by
 unfold tx
 conv=>lhs;unfold D6
 rw [h,show (ndK 4 0 [k]).1=4 from rfl,if_neg (by decide),if_neg (by decide),if_neg (by decide),if_pos rfl,Hy];simp [zao,kid,kd,ndK]
theorem pr {l:List Nd} {g:Nat} {i t:Int} {op k0 k1:Int} (h:ndi l i=ndK 5 op [k0,k1]):tx l (g+1) i t=if lvl op<t then 40::(tx l g k0 (lvl op)++((D5 op).toList++tx l g k1 (lvl op+1)))++ [41] else tx l g k0 (lvl op)++((D5 op).toList++tx l g k1 (lvl op+1)):=by
 unfold tx
 conv=>lhs;unfold D6
 rw [h,show (ndK 5 op [k0,k1]).1=5 from rfl,if_neg (by decide),if_neg (by decide),if_neg (by decide),if_neg (by decide),if_pos rfl];have e0:kid (ndK 5 op [k0,k1]) 0=k0:=rfl;have e1:kid (ndK 5 op [k0,k1]) 1=k1:=rfl;have e2:(ndK 5 op [k0,k1]).2.1=op:=rfl;rw [e0,e1,e2];unfold par;by_cases hl:lvl op<t
 ·rw [if_pos (zC hl),if_pos hl,Hy,Hy,Hy,Hy];simp [zao]
 ·rw [if_neg (by simpa using hl),if_neg hl,Hy,Hy,List.append_assoc]
theorem pt {l:List Nd} {g:Nat} {i t:Int} {op:Int} {ks:List Int} (h:ndi l i=ndK 6 op ks):tx l (g+1) i t=(fnS op).toList++40::(ME l g ks++ [41]):=by
 unfold tx
 conv=>lhs;unfold D6
 have e:qi l i=ks:=by unfold qi;rw [h];rfl
 rw [e,h,show (ndK 6 op ks).1=6 from rfl,if_neg (by decide),if_neg (by decide),if_neg (by decide),if_neg (by decide),if_neg (by decide),Hy,Hy,Hy,ax];have e2:(ndK 6 op ks).2.1=op:=rfl;rw [e2];simp [zao]
structure RT (l:List Nd) (g:Nat) (i:Int):Prop where
 s:∀t,Sta (tx l g i t)
 c:∀(t:Int) (r:LBy),Fo r->∀d:UInt8,(d=58\/d=32)->(wr (tx l g i t++r)).head?≠some d
 u:∀(r:LBy) (deep:Int) (f:Nat),Fo r->0<=deep->deep+g<=400->20*(tx l g i 5++r).length+4<=f->pP f (.un deep) (tx l g i 5++r,false,l.take (lo l i).toNat)=(i,r,false,l.take (i.toNat+1))
 b:∀(t t':Int) (r:LBy) (deep:Int) (f:Nat),1<=t->t<=t'->t'<=5->Fo r->(Er r=0\/lvl (Er r)<=t')->0<=deep->deep+g<=400->20*(tx l g i t'++r).length+6<=f->
  ∃f2,20*r.length+5<=f2/\pP f (.bin t deep) (tx l g i t'++r,false,l.take (lo l i).toNat)=pP f2 (.loop t deep i) (r,false,l.take (i.toNat+1))
theorem fq (op:Int):1<=lvl op/\lvl op<=4:=Yu
theorem XL {l:List Nd} {g:Nat} {i:Int} (u:∀(r:LBy) (deep:Int) (f:Nat),Fo r->0<=deep->deep+g<=400->20*(tx l g i 5++r).length+4<=f->pP f (.un deep) (tx l g i 5++r,false,l.take (lo l i).toNat)=(i,r,false,l.take (i.toNat+1)))
  {t t':Int} (e:tx l g i t'=tx l g i 5) {r:LBy} {deep:Int} {f:Nat} (hr:Fo r) (h0:0<=deep) (hd:deep+g<=400) (hf:20*(tx l g i t'++r).length+6<=f):
  ∃f2,20*r.length+5<=f2/\pP f (.bin t deep) (tx l g i t'++r,false,l.take (lo l i).toNat)=pP f2 (.loop t deep i) (r,false,l.take (i.toNat+1)):=by
 obtain ⟨f,rfl⟩:∃f',f=f'+1:=⟨f-1,by omega⟩;rw [e] at hf⊢;refine ⟨f,by simp only [zamO] at hf;omega,?_⟩
 conv=>lhs;unfold pP
 rw [u r deep f hr h0 hd (by omega)]
theorem Tv {f:Nat} {t deep a:Int} {r:LBy} {l:List Nd} (hr:Fo r) (h:Er r=0\/lvl (Er r)<t) (hf:1<=f):pP f (.loop t deep a) (r,false,l)=(a,r,false,l):=by
 obtain ⟨f,rfl⟩:∃f',f=f'+1:=⟨f-1,by omega⟩;unfold pP;simp only [au hr];rw [if_neg (by simp),if_pos h]
theorem kj {l:List Nd} (hl:l.length<=60) {g:Nat} {i k0 k1 op:Int} (hi:0<=i/\i<l.length) (hx:ndi l i=ndK 5 op [k0,k1]) (ho:1<=op/\op<=11) (R:RT l g k1) (h1:lo l k1=k0+1) (h2:k1+1=i) (hk0:0<=k0) (hk1:0<=k1)
  {t:Int} {r:LBy} {deep:Int} {f:Nat} (ht:t<=lvl op) (hr:Fo r) (hop:Er r=0\/lvl (Er r)<=lvl op) (h0:0<=deep) (hd:deep+g<=400) (hf:20*((D5 op).toList++(tx l g k1 (lvl op+1)++r)).length+5<=f):
  ∃f2,20*r.length+5<=f2/\pP f (.loop t deep k0) ((D5 op).toList++(tx l g k1 (lvl op+1)++r),false,l.take (k0.toNat+1))=pP f2 (.loop t deep i) (r,false,l.take (i.toNat+1)):=by
 obtain ⟨f,rfl⟩:∃f',f=f'+1:=⟨f-1,by omega⟩;have lv:=fq op;have hs:=PI (R.s (lvl op+1)) r;have sg:=Zm ho hs;have oa:=YQ ho sg;have tt:=au (Y6 ho (tx l g k1 (lvl op+1)++r));have sl:=fi ho;simp only [zamO] at hf;obtain ⟨f2,q1,q2⟩:=R.b (lvl op+1) (lvl op+1) r deep f (by omega) (Int.le_refl _) (by omega) hr (by rcases hop with h|h;exact .inl h;exact .inr (by omega)) h0 hd (by simp only [zamO];omega);rw [Tv hr (by rcases hop with h|h;exact .inl h;exact .inr (by omega)) (by omega)] at q2;refine ⟨f,by omega,?_⟩
 conv=>lhs;unfold pP
 simp only [tt,oa,sg];rw [if_neg (by simp),if_neg (by omega)];have ed:((D5 op).toList++(tx l g k1 (lvl op+1)++r)).drop (D5 op).toList.length=tx l g k1 (lvl op+1)++r:=List.drop_left;have el:(lo l k1).toNat=k0.toNat+1:=by omega
 rw [ed,<-el,q2];have e2:k1.toNat+1=i.toNat:=by omega
 rw [e2,Ku hl hi r hx]
theorem pu {c:UInt8} {x:LBy} (h:wch c=false):wr (c::x)=c::x:=by unfold wr;rw [List.dropWhile_cons,if_neg (by rw [h];simp)]
theorem Q7 {w:LBy} (hw:w.all wch=true) (hn:w≠ []):Sta w/\∀r,(∀c,r.head?=some c->wch c=false)->∀d:UInt8,r.head?≠some d->(wr (w++r)).head?≠some d:=by
 refine ⟨?_,λr h1 d h2=>by rw [(Y3 hw h1).2];exact h2⟩;cases w with
 |nil=>exact absurd rfl hn
 |cons c t=>
  rw [zanC,zL] at hw;exact ⟨c,rfl,.inl hw.1⟩
theorem WH {c:UInt8} {w:LBy} (hc:c=45\/c=40\/c=34\/c=35):Sta (c::w)/\∀r:LBy,∀d:UInt8,(d=58\/d=32)->(wr ((c::w)++r)).head?≠some d:=by
 refine ⟨⟨c,rfl,.inr hc⟩,λr d hd=>?_⟩;have:wch c=false:=by rcases hc with rfl|rfl|rfl|rfl<;>decide
 rw [List.cons_append,pu this];simp only [List.head?_cons];intro e;have e:c=d:=by simpa using e
 subst e;rcases hc with rfl|rfl|rfl|rfl<;>exact absurd hd (by decide)
theorem ft {r:LBy} (h:Fo r) {d:UInt8} (hd:d=58\/d=32):r.head?≠some d:=by
 rcases hd with rfl|rfl
 ·exact am h (by decide)
 ·exact am h (by decide)
theorem nu {k x:Int} {s:BA} (hv:okV k x s=true) (h0:k≠0) (h1:k=1->0<=x):Sta (if k=2 then I7 s else EN k x s).toList/\∀r,Fo r->∀d:UInt8,(d=58\/d=32)->(wr ((if k=2 then I7 s else EN k x s).toList++r)).head?≠some d:=by
 rcases w6 hv with rfl|rfl|rfl|rfl|rfl
 ·exact absurd rfl h0
 ·rw [if_neg (by decide)];have ht:(EN 1 x s).toList=Lib.itoa x:=by rw [zao];simp [EN,Gk]
  obtain ⟨d1,d2⟩:=Qw (h1 rfl);rw [ht];have:=Q7 (Kt (λ_=>Tu) d1) d2;exact ⟨this.1,λr hr d hd=>this.2 r (Sl hr) d (ft hr hd)⟩
 ·rw [if_pos rfl];have ht:(I7 s).toList=34::(E6 s.toList++ [34]):=by unfold I7;rw [Eg];simp
  rw [ht];have:=WH (c:=34) (w:=E6 s.toList++ [34]) (.inr (.inr (.inl rfl)));exact ⟨this.1,λr _ d hd=>this.2 r d hd⟩
 ·rw [if_neg (by decide)];have hs:=N3 hv (by decide);subst hs;obtain ⟨d1,d2⟩:=XI (X0 hv);have:=Q7 d1 d2;exact ⟨this.1,λr hr d hd=>this.2 r (Sl hr) d (ft hr hd)⟩
 ·rw [if_neg (by decide)];have hx2:EN 4 x s=qq x:=rfl;obtain ⟨t,ht⟩:=cg.n x (X1 hv);rw [hx2,ht];have:=WH (c:=35) (w:=t) (.inr (.inr (.inr rfl)));exact ⟨this.1,λr _ d hd=>this.2 r d hd⟩
theorem mb {op:Int} (h:1<=op/\op<=10):Lg (fnS op).toList 1 10=some op/\(fnS op).toList.all wch=true/\(fnS op).toList≠ []:=by
 have t:∀a:Fin 10,Lg (fnS (((a.val:Nat):Int)+1)).toList 1 10=some (((a.val:Nat):Int)+1)/\(fnS (((a.val:Nat):Int)+1)).toList.all wch=true/\(fnS (((a.val:Nat):Int)+1)).toList≠ []:=by decide+kernel
 have:=t ⟨(op-1).toNat,by omega⟩;simp only at this
 rwa [show (((op-1).toNat:Nat):Int)+1=op by omega] at this
def ay (l:List Nd) (g:Nat) (k:Int):Prop:=(0<=k/\k<l.length)/\(RT l g k\/((ndi l k).1=3/\Gq (ndi l k)=true/\lo l k=k/\∃g',g=g'+1))
theorem Zq {l:List Nd} (hl:l.length<=60) {g:Nat} {k:Int} (A:ay l g k) {x:LBy} (hx:Fo x) (ho:Er x=0) {deep:Int} {f:Nat} (h0:0<=deep) (hd:deep+1+g<=400) (hf:20*(tx l g k 1++x).length+6<=f):
  I8 (FV (tx l g k 1++x,false,l.take (lo l k).toNat)) (λp=>pP f (.bin 1 (deep+1)) p)=(k,x,false,l.take (k.toNat+1)):=by
 obtain ⟨hi,A⟩:=A;rcases A with R|⟨h3,hb,hlo,g',rfl⟩
 ·have tt:=l9 (PI (R.s 1) x);have none:FV (tx l g k 1++x,false,l.take (lo l k).toNat)=(none,tx l g k 1++x,false,l.take (lo l k).toNat):=by
   unfold FV;simp only [tt];rw [if_neg];rintro ⟨_,h2⟩;have tk:=R.c 1 x hx 58 (.inl rfl);unfold qp at h2;split at h2
   ·rename_i hs;have hh:=(Ie 58 _).1 ((y9 (by decide) _).1 hs);by_cases hb:(wr (tx l g k 1++x)).head?=some 32
    ·exact absurd hb (R.c 1 x hx 32 (.inr rfl))
    ·rw [Ts hb] at hh;exact tk hh
   ·cases h2
  rw [none];unfold I8;simp only;obtain ⟨f2,q1,q2⟩:=R.b 1 1 x (deep+1) f (by omega) (by omega) (by omega) hx (.inl ho) (by omega) (by omega) hf;rw [q2];exact Tv hx (.inl ho) (by omega)
 ·obtain ⟨e,ha⟩:=m8 hb h3;obtain ⟨a1,a2,a3,a4,_⟩:=Xz ha;have e3:=pp (g:=g') (t:=1) h3;generalize hc:ndi l k=c at*
  have r1:Ef c.2.2.2.2.2.1 c.2.2.2.2.2.2.1=true:=by unfold Ef;simp;omega
  have r2:Ef c.2.2.2.2.2.2.2.2.2.1 c.2.2.2.2.2.2.2.2.2.2.1=true:=by unfold Ef;simp;omega
  obtain ⟨d1,d2⟩:=LN (fc:=c.2.2.2.2.2.2.2.1) (fr:=c.2.2.2.2.2.2.2.2.1) r1;obtain ⟨d3,d4⟩:=LN (fc:=c.2.2.2.2.2.2.2.2.2.2.2.1) (fr:=c.2.2.2.2.2.2.2.2.2.2.2.2.1) r2;have b1:=M0 (fc:=c.2.2.2.2.2.2.2.1) (fr:=c.2.2.2.2.2.2.2.2.1) r1;have b2:=M0 (fc:=c.2.2.2.2.2.2.2.2.2.2.2.1) (fr:=c.2.2.2.2.2.2.2.2.2.2.2.2.1) r2;rw [e3,hlo];generalize hw1:(EF c.2.2.2.2.2.1 c.2.2.2.2.2.2.1 c.2.2.2.2.2.2.2.1 c.2.2.2.2.2.2.2.2.1).toList=w1 at*
  generalize hw2:(EF c.2.2.2.2.2.2.2.2.2.1 c.2.2.2.2.2.2.2.2.2.2.1 c.2.2.2.2.2.2.2.2.2.2.2.1 c.2.2.2.2.2.2.2.2.2.2.2.2.1).toList=w2 at*
  have p1:Ec (BR w1)=(c.2.2.2.2.2.1,c.2.2.2.2.2.2.1,c.2.2.2.2.2.2.2.1,c.2.2.2.2.2.2.2.2.1,true):=by rw [<-hw1,Ky];exact b1
  have p2:Ec (BR w2)=(c.2.2.2.2.2.2.2.2.2.1,c.2.2.2.2.2.2.2.2.2.2.1,c.2.2.2.2.2.2.2.2.2.2.2.1,c.2.2.2.2.2.2.2.2.2.2.2.2.1,true):=by rw [<-hw2,Ky];exact b2
  have ea:(w1++58::w2)++x=w1++(58::(w2++x)):=by simp
  rw [ea];have t1:tb (w1++(58::(w2++x)))=w1++(58::(w2++x)):=l9 (PI (Q7 d1 d2).1 _);obtain ⟨q1,q2⟩:=Y3 (r:=58::(w2++x)) d1 (λd hd=>by simp at hd;subst hd;decide);have t2:tb (w2++x)=w2++x:=l9 (PI (Q7 d3 d4).1 _);obtain ⟨q3,q4⟩:=Y3 (r:=x) d3 (Sl hx);have ar:FV (w1++(58::(w2++x)),false,l.take k.toNat)=(some c,x,false,l.take k.toNat):=by
   unfold FV;simp only [t1,q1,q2];rw [Qv (by decide) (by decide)];simp only [t2,q3,q4,p1,p2];rw [if_pos (by simp),<-e];rfl
  rw [ar];unfold I8;simp only;exact Ku hl hi x hc
theorem XM {c:UInt8} (hc:c∈([45,40,41,44,58]:LBy)) (h32:c≠32) (r:LBy) (l:List Nd):G0 [c] (c::r,false,l)=(r,false,l):=by
 unfold G0;rw [if_neg (by simp),Qv hc h32,if_pos rfl]
theorem YS {l:List Nd} (hl:l.length<=60) {g:Nat} {op:Int} {deep:Int} (h0:0<=deep) (hd:deep+1+g<=400):∀(ks:List Int),ks≠ []->(∀k∈ks,ay l g k)->∀(pre:List Int) (m e:Int) (r:LBy) (f:Nat),VS l m ks e->0<=m->20*(ME l g ks++41::r).length+8<=f->
  pP f (.args op deep pre) (ME l g ks++41::r,false,l.take m.toNat)=IN (ndK 6 op (pre++ks)) (r,false,l.take e.toNat)
 | [],h,_,_,_,_,_,_,_,_,_=>absurd rfl h
 | [k],_,hA,pre,m,e,r,f,hc,hm,hf=>by
  obtain ⟨f,rfl⟩:∃f',f=f'+1:=⟨f-1,by omega⟩;obtain ⟨c1,c2⟩:=hc;have c2:k+1=e:=c2;have hk:=(hA k (zamN ..)).1;have ar:=Zq hl (hA k (zamN ..)) (x:=41::r) (Hs (by decide)) (Y7 r) h0 hd (f:=f) (by have:ME l g [k]=tx l g k 1:=rfl;rw [this] at hf;omega);rw [c1] at ar;have ek:k.toNat+1=e.toNat:=by omega
  rw [ek] at ar;show pP (f+1) (.args op deep pre) (tx l g k 1++41::r,false,l.take m.toNat)=_
  conv=>lhs;unfold pP
  rw [if_neg (by simp),ar];simp only;have tk:=Y8 (c:=44) (by decide) (p:=(41::r,false,l.take e.toNat)) (by simp only;rw [au (Hs (by decide))];simp);rw [tk,if_neg (by simp)];simp only [au (r:=41::r) (Hs (by decide))];rw [XM (by decide) (by decide)]
 |k::k2::ks,_,hA,pre,m,e,r,f,hc,hm,hf=>by
  obtain ⟨f,rfl⟩:∃f',f=f'+1:=⟨f-1,by omega⟩;obtain ⟨c1,c2⟩:=hc;have hk:=(hA k (zamN ..)).1;have ej:ME l g (k::k2::ks)++41::r=tx l g k 1++(44::(ME l g (k2::ks)++41::r)):=by rw [Sn];simp
  rw [ej] at hf⊢;have ar:=Zq hl (hA k (zamN ..)) (x:=44::(ME l g (k2::ks)++41::r)) (Hs (by decide)) (jz _) h0 hd (f:=f) (by omega);rw [c1] at ar
  conv=>lhs;unfold pP
  rw [if_neg (by simp),ar];simp only;rw [Qv (by decide) (by decide),if_pos rfl];have hlen:20*(ME l g (k2::ks)++41::r).length+8<=f:=by
   rw [zamO,zamM] at hf;omega
  have ek:k.toNat+1=(k+1).toNat:=by omega
  have ih:=YS (op:=op) hl h0 hd (k2::ks) (by simp) (λq hq=>hA q (zamR _ hq)) (pre++ [k]) (k+1) e r f c2 (by omega) hlen;rw [ek];rw [List.append_assoc] at ih;exact ih
theorem km {l:List Nd} (hl:l.length<=60) {g:Nat} {i op:Int} {ks:List Int} (hi:0<=i/\i<l.length) (hx:ndi l i=ndK 6 op ks) (ho:1<=op/\op<=10) (hn:ks≠ []) (hA:∀k∈ks,ay l g k) (hc:VS l (lo l i) ks i) (h0:0<=lo l i):RT l (g+1) i:=by
 obtain ⟨w1,w2,w3⟩:=mb ho;have e:=λt=>pt (g:=g) (t:=t) hx
 have ws:=Q7 w2 w3;have u:∀(r:LBy) (deep:Int) (f:Nat),Fo r->0<=deep->deep+(g+1:Nat)<=400->20*(tx l (g+1) i 5++r).length+4<=f->pP f (.un deep) (tx l (g+1) i 5++r,false,l.take (lo l i).toNat)=(i,r,false,l.take (i.toNat+1)):=λr deep f hr hd hd2 hf=>by
  have ee:tx l (g+1) i 5++r=(fnS op).toList++(40::(ME l g ks++41::r)):=by rw [e];simp
  rw [ee] at hf⊢;have wl:=List.length_pos_iff.2 w3;simp only [zamO,zamM] at hf;obtain ⟨f,rfl⟩:∃f',f=f'+4:=⟨f-4,by omega⟩;rw [WG (f:=f+2) (by omega) w2 w3 (λd hd=>by simp at hd;subst hd;decide)];unfold Tm;obtain ⟨v1,v2⟩:=cg.f _ _ w1;rw [if_neg (λh=>by rw [v1] at h;cases h.1),if_neg (by rw [v2];simp),w1];simp only
  conv=>lhs;unfold pP
  rw [XM (by decide) (by decide),YS hl hd (by omega) ks hn hA [] (lo l i) i r (f+1) hc h0 (by simp only [zamO,zamM];omega)];exact Ku hl hi r hx
 refine ⟨λt=>by rw [e];exact PI ws.1 _,λt r hr d hd=>?_,u,λt t' r deep f h1 h2 h3 hr _ hd hd2 hf=>XL u (by rw [e,e]) hr hd hd2 hf⟩;have ee:tx l (g+1) i t++r=(fnS op).toList++(40::(ME l g ks++41::r)):=by rw [e];simp
 rw [ee];refine ws.2 _ (λd hd=>by simp at hd;subst hd;decide) d (λe=>?_);simp at e;rcases hd with rfl|rfl
 ·exact absurd e (by decide)
 ·exact absurd e (by decide)
theorem nw {l:List Nd} (hl:l.length<=60) {g:Nat} {i k:Int} (hi:0<=i/\i<l.length) (hx:ndi l i=ndK 4 0 [k]) (R:RT l g k) (h1:lo l k=lo l i) (h2:k+1=i) (hk:0<=k):RT l (g+1) i:=by
 have e:=λt=>pq (g:=g) (t:=t) hx
 have hs:=λx=>WH (c:=45) (w:=x) (.inl rfl)
 have u:∀(r:LBy) (deep:Int) (f:Nat),Fo r->0<=deep->deep+(g+1:Nat)<=400->20*(tx l (g+1) i 5++r).length+4<=f->pP f (.un deep) (tx l (g+1) i 5++r,false,l.take (lo l i).toNat)=(i,r,false,l.take (i.toNat+1)):=λr deep f hr hd hd2 hf=>by
  rw [e,List.cons_append] at hf⊢;simp only [zamM] at hf;obtain ⟨f,rfl⟩:∃f',f=f'+1:=⟨f-1,by omega⟩;have ih:=R.u r (deep+1) f hr (by omega) (by omega) (by omega);rw [h1] at ih
  conv=>lhs;unfold pP
  rw [if_neg (λh=>h.elim (by omega) (by simp)),Qv (by decide) (by decide),if_pos rfl];simp only;rw [ih];have ek:k.toNat+1=i.toNat:=by omega
  rw [ek];exact Ku hl hi r hx
 exact ⟨λt=>by rw [e];exact (hs _).1,λt r _ d hd=>by rw [e];exact (hs _).2 r d hd,u,λt t' r deep f h1 h2 h3 hr _ hd hd2 hf=>XL u (by rw [e,e]) hr hd hd2 hf⟩
theorem nx {l:List Nd} (hl:l.length<=60) {g:Nat} {i k0 k1 op:Int} (hi:0<=i/\i<l.length) (hx:ndi l i=ndK 5 op [k0,k1]) (ho:1<=op/\op<=11) (R0:RT l g k0) (R1:RT l g k1) (h0:lo l k0=lo l i) (h1:lo l k1=k0+1) (h2:k1+1=i) (hk0:0<=k0) (hk1:0<=k1):RT l (g+1) i:=by
 have e:=λt=>pr (g:=g) (t:=t) hx
 have lv:=fq op;have e5:tx l (g+1) i 5=40::(tx l g k0 (lvl op)++((D5 op).toList++tx l g k1 (lvl op+1)))++ [41]:=by rw [e,if_pos (by omega)]
 have c0:∀(t t':Int) (r:LBy) (deep:Int) (f:Nat),1<=t->t<=t'->t'<=lvl op->Fo r->(Er r=0\/lvl (Er r)<=lvl op)->0<=deep->deep+g<=400->20*((tx l g k0 (lvl op)++((D5 op).toList++tx l g k1 (lvl op+1)))++r).length+6<=f->
   ∃f2,20*r.length+5<=f2/\pP f (.bin t deep) ((tx l g k0 (lvl op)++((D5 op).toList++tx l g k1 (lvl op+1)))++r,false,l.take (lo l i).toNat)=pP f2 (.loop t deep i) (r,false,l.take (i.toNat+1)):=λt t' r deep f a1 a2 a3 hr hop hd hd2 hf=>by
  have ee:(tx l g k0 (lvl op)++((D5 op).toList++tx l g k1 (lvl op+1)))++r=tx l g k0 (lvl op)++((D5 op).toList++(tx l g k1 (lvl op+1)++r)):=by simp
  rw [ee] at hf⊢;have sg:=Zm ho (PI (R1.s (lvl op+1)) r);have oa:=YQ ho sg;obtain ⟨f2,q1,q2⟩:=R0.b t (lvl op) ((D5 op).toList++(tx l g k1 (lvl op+1)++r)) deep f a1 (by omega) (by omega) (Y6 ho _) (.inr (by rw [oa];omega)) hd hd2 hf;obtain ⟨f3,q3,q4⟩:=kj hl hi hx ho R1 h1 h2 hk0 hk1 (t:=t) (deep:=deep) (f:=f2) (by omega) hr hop hd hd2 q1;rw [h0] at q2;exact ⟨f3,q3,q2.trans q4⟩
 have u:∀(r:LBy) (deep:Int) (f:Nat),Fo r->0<=deep->deep+(g+1:Nat)<=400->20*(tx l (g+1) i 5++r).length+4<=f->pP f (.un deep) (tx l (g+1) i 5++r,false,l.take (lo l i).toNat)=(i,r,false,l.take (i.toNat+1)):=λr deep f hr hd hd2 hf=>by
  have ee:tx l (g+1) i 5++r=40::((tx l g k0 (lvl op)++((D5 op).toList++tx l g k1 (lvl op+1)))++41::r):=by rw [e5];simp
  rw [ee] at hf⊢;simp only [zamM] at hf;obtain ⟨f,rfl⟩:∃f',f=f'+2:=⟨f-2,by omega⟩;obtain ⟨f2,q1,q2⟩:=c0 1 1 (41::r) (deep+1) f (by omega) (by omega) (by omega) (Hs (by decide)) (.inl (Y7 r)) (by omega) (by omega) (by omega);rw [Tv (Hs (by decide)) (.inl (Y7 r)) (by omega)] at q2;generalize (tx l g k0 (lvl op)++((D5 op).toList++tx l g k1 (lvl op+1)))++41::r=x at q2⊢;rw [aw (by omega) (by simp) (by simp)];have tt:tb (40::x)=40::x:=Ts (by simp)
  conv=>lhs;unfold pP
  simp only [tt];rw [if_neg (show ¬(40::x).head?=some 34 by simp),if_neg (show ¬(40::x).head?=some 35 by simp)];simp only;rw [Qv (by decide) (by decide),if_pos ⟨by simp,rfl⟩,q2];simp only;rw [XM (by decide) (by decide)]
 refine ⟨λt=>?_,λt r hr d hd=>?_,u,λt t' r deep f a1 a2 a3 hr hop hd hd2 hf=>?_⟩
 ·rw [e];split
  ·exact ⟨40,rfl,.inr (.inr (.inl rfl))⟩
  ·exact PI (R0.s (lvl op)) _
 ·rw [e];split
  ·exact (WH (c:=40) (w:=(tx l g k0 (lvl op)++((D5 op).toList++tx l g k1 (lvl op+1)))++ [41]) (.inr (.inl rfl))).2 r d hd
  ·have ee:(tx l g k0 (lvl op)++((D5 op).toList++tx l g k1 (lvl op+1)))++r=tx l g k0 (lvl op)++((D5 op).toList++(tx l g k1 (lvl op+1)++r)):=by simp
   rw [ee];exact R0.c (lvl op) _ (Y6 ho _) d hd
 ·by_cases hp:lvl op<t'
  ·exact XL u (by rw [e,e,if_pos hp,if_pos (by omega)]) hr hd hd2 hf
  ·rw [e,if_neg hp] at hf⊢;exact c0 t t' r deep f a1 a2 (by omega) hr (by rcases hop with h|h;exact .inl h;exact .inr (by omega)) hd (by omega) hf
theorem XN {l:List Nd} (h:Fine l):∀(g:Nat) (i:Int),(0<=i/\i<l.length)->FU (qi l) (i.toNat+1) i<=g->Fh l i=false->0<=lo l i->RT l g i
 |0,i,hi,hd,_,_=>by
  have:=Ob (qi l) (i.toNat+1) i hi.1 (by omega);omega
 |g+1,i,hi,hd,ha,h0=>by
  have hb:Gq (ndi l i)=true:=(h.own i hi.1 hi.2).1;have hch:=XK h hi h0;have kidok:=λk hk=>h.kid hi hd (k:=k) hk
  have kin:=(h.own i hi.1 hi.2).2;rcases Lf hb with ⟨k1,_⟩|k2|k3|⟨k4,_⟩|⟨k5,_⟩|k6
  ·obtain ⟨e,v1,v2,v3⟩:=fj hb k1;have et:=λt=>pm (g:=g) (t:=t) k1
   have kz:qi l i= []:=by unfold qi;rw [e];rfl
   rw [kz] at hch;have hlo:lo l i=i:=hch;have sc:=nu v1 v2 v3;have u:∀(r:LBy) (deep:Int) (f:Nat),Fo r->0<=deep->deep+(g+1:Nat)<=400->20*(tx l (g+1) i 5++r).length+4<=f->pP f (.un deep) (tx l (g+1) i 5++r,false,l.take (lo l i).toNat)=(i,r,false,l.take (i.toNat+1)):=λr deep f hr hd1 hd2 hf=>by
    obtain ⟨f,rfl⟩:∃f',f=f'+2:=⟨f-2,by omega⟩;rw [et,hlo];exact nr h.len hi e v1 v2 v3 (by omega) hr
   exact ⟨λt=>by rw [et];exact sc.1,λt r hr d hd=>by rw [et];exact sc.2 r hr d hd,u,λt t' r deep f _ _ _ hr _ hd1 hd2 hf=>XL u (by rw [et,et]) hr hd1 hd2 hf⟩
  ·obtain ⟨e,v1⟩:=fk hb k2;have et:=λt=>pn (g:=g) (t:=t) k2
   have kz:qi l i= []:=by unfold qi;rw [e];rfl
   rw [kz] at hch;have hlo:lo l i=i:=hch;obtain ⟨d1,d2⟩:=LN (fc:=(ndi l i).2.2.2.2.2.2.2.1) (fr:=(ndi l i).2.2.2.2.2.2.2.2.1) v1;have sc:=Q7 d1 d2;have u:∀(r:LBy) (deep:Int) (f:Nat),Fo r->0<=deep->deep+(g+1:Nat)<=400->20*(tx l (g+1) i 5++r).length+4<=f->pP f (.un deep) (tx l (g+1) i 5++r,false,l.take (lo l i).toNat)=(i,r,false,l.take (i.toNat+1)):=λr deep f hr hd1 hd2 hf=>by
    obtain ⟨f,rfl⟩:∃f',f=f'+2:=⟨f-2,by omega⟩;rw [et,hlo];exact ki h.len hi e v1 (by omega) hr
   exact ⟨λt=>by rw [et];exact sc.1,λt r hr d hd=>by rw [et];exact sc.2 r (Sl hr) d (ft hr hd),u,λt t' r deep f _ _ _ hr _ hd1 hd2 hf=>XL u (by rw [et,et]) hr hd1 hd2 hf⟩
  ·unfold Fh at ha;rw [decide_eq_false_iff_not] at ha;exact absurd k3 ha
  ·obtain ⟨k,e⟩:=fm hb k4;have kz:qi l i= [k]:=by unfold qi;rw [e];rfl
   rw [kz] at hch;obtain ⟨c1,c2⟩:=hch;have c2:k+1=i:=c2;have hk:k∈qi l i:=by rw [kz];exact zamN ..
   obtain ⟨q1,q2⟩:=kidok k hk;have na:Fh l k=false:=by
    rw [bX];intro hh;exact (kin k hk).2.2 ⟨hh,by unfold Gm;rw [e];rfl⟩
   exact nw h.len hi e (XN h g k q1 q2 na (by omega)) c1 c2 q1.1
  ·obtain ⟨k0,k1,e,o1,o2⟩:=fo hb k5;have kz:qi l i= [k0,k1]:=by unfold qi;rw [e];rfl
   rw [kz] at hch;obtain ⟨c1,c2,c3⟩:=hch;have c3:k1+1=i:=c3;have hk0:k0∈qi l i:=by rw [kz];simp
   have hk1:k1∈qi l i:=by rw [kz];simp
   obtain ⟨q1,q2⟩:=kidok k0 hk0;obtain ⟨q3,q4⟩:=kidok k1 hk1;have nc:Gm l i=false:=by unfold Gm;rw [e];rfl
   have na0:Fh l k0=false:=by
    rw [bX];intro hh;exact (kin k0 hk0).2.2 ⟨hh,nc⟩
   have na1:Fh l k1=false:=by
    rw [bX];intro hh;exact (kin k1 hk1).2.2 ⟨hh,nc⟩
   exact nx h.len hi e ⟨o1,o2⟩ (XN h g k0 q1 q2 na0 (by omega)) (XN h g k1 q3 q4 na1 (by omega)) c1 c2 c3 q1.1 q3.1
  ·have k6:(ndi l i).1=6:=by
    first
    |exact k6
    |exact k6.1
   obtain ⟨e,hargs⟩:=fp hb k6;have kz:qi l i=kd (ndi l i):=rfl;rw [kz] at hch;have ops:1<=(ndi l i).2.1/\(ndi l i).2.1<=10/\kd (ndi l i)≠ []:=by
    unfold MC at hargs;split at hargs
    ·have:=of_decide_eq_true hargs;refine ⟨by omega,by omega,λe0=>?_⟩;rw [e0] at this;simp at this
    ·split at hargs
     ·have:=of_decide_eq_true hargs;refine ⟨by omega,by omega,λe0=>?_⟩;rw [e0] at this;simp at this
     ·split at hargs
      ·have:=of_decide_eq_true hargs;refine ⟨by omega,by omega,λe0=>?_⟩;rw [e0] at this;simp at this
      ·cases hargs
   have args:∀(ks:List Int),(∀k∈ks,k∈qi l i)->∀m,0<=m->VS l m ks i->∀k∈ks,ay l g k:=by
    intro ks
    induction ks with
    |nil=>intro _ m _ _ k hk;cases hk
    |cons a ks ih=>
     intro hsub m hm hc k hk;obtain ⟨c1,c2⟩:=hc;obtain ⟨q1,q2⟩:=kidok a (hsub a (zamN ..));rcases zamT.1 hk with rfl|hk
     ·refine ⟨q1,?_⟩;by_cases har:Fh l k=true
      ·right
       have h3:(ndi l k).1=3:=by unfold Fh at har;exact of_decide_eq_true har
       have hbk:Gq (ndi l k)=true:=(h.own k q1.1 q1.2).1;have hch2:=XK h q1 (by omega);have kz2:qi l k= []:=by unfold qi;rw [(m8 hbk h3).1];rfl
       rw [kz2] at hch2;have gp:=Ob (qi l) (k.toNat+1) k q1.1 (by omega);exact ⟨h3,hbk,hch2,g-1,by omega⟩
      ·left
       exact XN h g k q1 q2 (by rw [bX];exact har) (by omega)
     ·exact ih (λk hk=>hsub k (zamR _ hk)) (a+1) (by omega) c2 k hk
   exact km h.len hi e ⟨ops.1,ops.2.1⟩ ops.2.2 (args _ (λk hk=>hk) _ h0 hch) hch h0
theorem PK {c:UInt8} (h:wch c=true):okc c=true:=by
 unfold wch at h;simp only [Bool.or_eq_true,zL,aG,zanG] at h;unfold okc;rw [aG];rcases h with h|h|h
 ·omega
 ·omega
 ·subst h;decide
theorem YT:∀s:LBy,s.all okc=true->(E6 s).all okc=true
 | [],_=>rfl
 |c::s,h=>by
  rw [zanC,zL] at h;rw [J9,List.all_append,zL];refine ⟨?_,YT s h.2⟩;split
  ·decide
  ·simp [h.1]
theorem Zr {op:Int} (ho:1<=op/\op<=11):(D5 op).toList.all okc=true:=by
 have c:op=1\/op=2\/op=3\/op=4\/op=5\/op=6\/op=7\/op=8\/op=9\/op=10\/op=11:=by omega
 rcases c with rfl|rfl|rfl|rfl|rfl|rfl|rfl|rfl|rfl|rfl|rfl<;>decide+kernel
theorem fu {n:Int} (hn:1<=n/\n<=5):(qq n).toList.all okc=true:=by
 have c:n=1\/n=2\/n=3\/n=4\/n=5:=by omega
 rcases c with rfl|rfl|rfl|rfl|rfl<;>decide+kernel
theorem kr {k x:Int} {s:BA} (hv:okV k x s=true) (h0:k≠0) (h1:k=1->0<=x):(if k=2 then I7 s else EN k x s).toList.all okc=true:=by
 rcases w6 hv with rfl|rfl|rfl|rfl|rfl
 ·exact absurd rfl h0
 ·rw [if_neg (by decide)];have ht:(EN 1 x s).toList=Lib.itoa x:=by rw [zao];simp [EN,Gk]
  rw [ht];exact Kt (λ_ h=>PK (Tu h)) (Qw (h1 rfl)).1
 ·rw [if_pos rfl];have ht:(I7 s).toList=34::(E6 s.toList++ [34]):=by unfold I7;rw [Eg];simp
  obtain ⟨_,_,a⟩:=TV hv;rw [ht,zanC,List.all_append,YT _ a]
  decide
 ·rw [if_neg (by decide)];have hs:=N3 hv (by decide);subst hs;exact Kt (λ_=>PK) (XI (X0 hv)).1
 ·rw [if_neg (by decide)];exact fu (X1 hv)
theorem Zs {l:List Nd} {g:Nat}:∀ks:List Int,(∀k∈ks,(tx l g k 1).all okc=true)->(ME l g ks).all okc=true
 | [],_=>rfl
 | [k],h=>h k (zamN ..)
 |k::k2::ks,h=>by
  rw [Sn,List.all_append,zanC,h k (zamN ..),Zs (k2::ks) (λq hq=>h q (zamR _ hq))]
  decide
theorem Zt {l:List Nd} (h:Fine l):∀(g:Nat) (i t:Int),(0<=i/\i<l.length)->(tx l g i t).all okc=true
 |0,i,t,_=>by unfold tx D6;rw [qy];rfl
 |g+1,i,t,hi=>by
  have hb:Gq (ndi l i)=true:=(h.own i hi.1 hi.2).1;have kin:=λk hk=>(h.own i hi.1 hi.2).2 k hk
  have ih:=λk t (hk:k∈qi l i)=>Zt h g k t (by have:=kin k hk;omega)
  rcases Lf hb with ⟨k1,_⟩|k2|k3|⟨k4,_⟩|⟨k5,_⟩|k6
  ·obtain ⟨e,v1,v2,v3⟩:=fj hb k1;rw [pm k1];exact kr v1 v2 v3
  ·rw [pn k2];exact Kt (λ_=>PK) (LN (fk hb k2).2).1
  ·obtain ⟨e,ha⟩:=m8 hb k3;obtain ⟨a1,a2,a3,a4,_⟩:=Xz ha;rw [pp k3];generalize ndi l i=c at*
   have r1:Ef c.2.2.2.2.2.1 c.2.2.2.2.2.2.1=true:=by unfold Ef;simp;omega
   have r2:Ef c.2.2.2.2.2.2.2.2.2.1 c.2.2.2.2.2.2.2.2.2.2.1=true:=by unfold Ef;simp;omega
   rw [List.all_append,zanC,Kt (λ_=>PK) (LN r1).1,Kt (λ_=>PK) (LN r2).1]
   decide
  ·obtain ⟨k,e⟩:=fm hb k4;have kz:qi l i= [k]:=by unfold qi;rw [e];rfl
   rw [pq e,zanC,ih k 5 (by rw [kz];simp)]
   decide
  ·obtain ⟨k0,k1,e,o1,o2⟩:=fo hb k5;have kz:qi l i= [k0,k1]:=by unfold qi;rw [e];rfl
   have i0:=λt=>ih k0 t (by rw [kz];simp)
   have i1:=λt=>ih k1 t (by rw [kz];simp)
   rw [pr e];split
   ·rw [List.cons_append,zanC,List.all_append,List.all_append,List.all_append,i0,i1,Zr ⟨o1,o2⟩]
    decide
   ·rw [List.all_append,List.all_append,i0,i1,Zr ⟨o1,o2⟩]
    decide
  ·have k6:(ndi l i).1=6:=by
    first
    |exact k6
    |exact k6.1
   obtain ⟨e,hargs⟩:=fp hb k6;have ops:1<=(ndi l i).2.1/\(ndi l i).2.1<=10:=by
    unfold MC at hargs;split at hargs
    ·omega
    ·split at hargs
     ·omega
     ·split at hargs
      ·omega
      ·cases hargs
   rw [pt e,List.all_append,zanC,List.all_append,Kt (λ_=>PK) (mb ops).2.1,Zs (kd (ndi l i)) (λk hk=>ih k 1 hk)]
   decide
theorem cp {l:List Nd} (hf:Jk l=true) (hk:∀c∈l,(kd c).length<=140737488351232/\c.2.2.2.2.1.size<=140737488351232) (hs:(F1 l).toList≠ []):FW (F1 l)=(l,true):=by
 obtain ⟨q1,q2,q3⟩:=Yt hf hk;have hform:=hf;unfold Jk at hf;simp only [zL,aG,Bool.not_eq_true'] at hf;obtain ⟨h1,_,h3,h4,_⟩:=hf;have en:((l.length:Int)-1).toNat+1=l.length:=by omega
 have hlo:lo l ((l.length:Int)-1)=0:=by unfold lo;rw [en];exact h3
 have R:=XN q1 12 ((l.length:Int)-1) q2 q3 h4 (by omega);have hsz:=Sk l;have et:(F1 l).toList=tx l 12 ((l.length:Int)-1) 1:=by
  unfold F1 at hs⊢;rw [if_pos hform] at hs⊢;split at hs
  ·exact absurd qy hs
  ·rename_i hc;rw [if_neg hc];rfl
 have hlen:(tx l 12 ((l.length:Int)-1) 1).length<=200:=by rw [<-et,EA];exact hsz
 have hp:FT (F1 l) 200=true:=by
  unfold FT;rw [et,Zt q1 12 _ 1 q2,Bool.true_and,aG];omega
 obtain ⟨f2,b1,b2⟩:=R.b 1 1 [] 0 4050 (by omega) (by omega) (by omega) fh (.inl Zn) (by omega) (by omega) (by rw [List.append_nil];omega);rw [Tv fh (.inl Zn) (by simp at b1;omega),List.append_nil,hlo,en,List.take_length] at b2;have hR:VQ (F1 l)=([],false,l):=by
  unfold VQ;rw [et];have:l.take (0:Int).toNat= []:=rfl;rw [this] at b2;rw [b2]
 unfold FW;rw [hR,if_pos ⟨hp,rfl,rfl,hform⟩]
theorem m9 {s:BA} (h:(FW s).2=true):Jk (FW s).1=true:=by
 unfold FW at h⊢;split at h
 ·rename_i hc;rw [if_pos hc];exact hc.2.2.2
 ·cases h
def Dwx {β:Type} (Q:β->Prop) (R:Nat->Tr β):Prop:=∃x,Q x/\Ev (λn=>(R n).run) x
theorem qx {α β:Type} {Q:β->Prop} {F:Nat->Option α} {r:α} {K:Nat->α->Tr β} (h:Ev F r) (hk:Dwx Q λn=>K n r):Dwx Q λn=> .opt (F n) (K n):=by
 obtain ⟨x,q,n1,h1⟩:=hk;obtain ⟨n0,h0⟩:=h;exact ⟨x,q,n0+n1,λn hn=>qa (h0 n (by omega)) (h1 n (by omega))⟩
theorem EB {β:Type} {Q:β->Prop} {b:Bool} {t e:Nat->Tr β} (h:b=true) (hk:Dwx Q t):Dwx Q λn=> .ask b (t n) (e n):=by
 obtain ⟨x,q,n1,h1⟩:=hk;exact ⟨x,q,n1,λn hn=>qb h (h1 n hn)⟩
theorem D8 {β:Type} {Q:β->Prop} {b:Bool} {t e:Nat->Tr β} (h:b=false) (hk:Dwx Q e):Dwx Q λn=> .ask b (t n) (e n):=by
 obtain ⟨x,q,n1,h1⟩:=hk;exact ⟨x,q,n1,λn hn=>qc h (h1 n hn)⟩
theorem LW {α β:Type} {Q:β->Prop} {o:Option α} {r:α} {K:Nat->α->Tr β} (h:o=some r) (hk:Dwx Q λn=>K n r):Dwx Q λn=> .opt o (K n):=by
 obtain ⟨x,q,n1,h1⟩:=hk;exact ⟨x,q,n1,λn hn=>qa h (h1 n hn)⟩
theorem qv {β:Type} {Q:β->Prop} {x:β} (h:Q x):Dwx Q λ_=> .done x:=⟨x,h,0,λ_ _=>rfl⟩
theorem IQ {β:Type} {Q:β->Prop} {F:Nat->Option β} {R:Nat->Tr β} (h:Dwx Q R) (hF:∀n,F (n+1)=(R n).run):∃x,Q x/\Ev F x:=by
 obtain ⟨x,q,n1,h1⟩:=h;refine ⟨x,q,n1+1,λn hn=>?_⟩;obtain ⟨m,rfl,hm⟩:=up1 hn;rw [hF];exact h1 m hm
theorem Oh {β:Type} {F:Nat->Option β} {x:β} (h:∃y,y=x/\Ev F y):Ev F x:=by
 obtain ⟨y,rfl,h⟩:=h;exact h
theorem Fx {x y:BA} {a b:Nat} (hx:x.size<=a) (hy:y.size<=b):(x++y).size<=a+b:=by rw [ze];omega
theorem fit {x y:BA} {a b:Nat} (hx:x.size<=a) (hy:y.size<=b) (h:a+b<=9000000000000000000):decide (x.size+y.size<=9223372036854775807)=true:=zC (by omega)
abbrev Drn (l:RW) {α:Type} (P:α->Prop) (x:α×RW×Int):Prop:=x.2.1=l/\(0<=x.2.2/\x.2.2<=l.length)/\P x.1
def az (n:Nat) (l:RW) (p:Int):Tr (BA×RW×Int):= .opt (EE n l p) λr11=> .opt (EC n (5:Int) r11.2.2.1 r11.2.2.2) λr13=> .opt (EC n (5:Int) r13.2.1 r13.2.2) λr14=> .opt (q9 n r11.1 r11.2.1 r13.1 r14.1) λr30=> .done (r30,r14.2.1,r14.2.2)
theorem XO {l:RW} {p:Int} (hl:Lx l) (hp:0<=p/\p<=l.length):Dwx (Drn l λt:BA=>t.size<=1000) λn=>az n l p:=by
 obtain ⟨a,b,p1,h1,h2⟩:=Sc hl hp;obtain ⟨fc,p2,h3,h4⟩:=O8 5 (by decide) hl h1;obtain ⟨fr,p3,h5,h6⟩:=O8 5 (by decide) hl h3;refine qx (Gp h2) (qx (Gp h4) (qx (Gp h6) (qx (GD a b fc fr) (qv ⟨rfl,h5,?_⟩))));have:=G7 a b fc fr;dsimp only;omega
def pv (n:Nat) (l:RW) (p:Int):Tr (BA×RW×Int):= .opt (qd n (7:Int) l p) λr8=> .ask (r8.1==(0:Int)) (az n r8.2.1 r8.2.2) (.ask (r8.1==(1:Int)) (az n r8.2.1 r8.2.2) (.ask (r8.1==(2:Int)) (az n r8.2.1 r8.2.2) (.ask (r8.1==(3:Int))
 (.opt (qd n (6:Int) r8.2.1 r8.2.2) λr39=>(.ask (decide (6=([[(.s (⟨#[34,97,34]⟩:BA))],[(.s (⟨#[34,34]⟩:BA))],[(.s (⟨#[84,82,85,69]⟩:BA))],[(.s (⟨#[70,65,76,83,69]⟩:BA))],[(.s (⟨#[35,82,69,70,33]⟩:BA))],[(.s (⟨#[34,113,34,34,34]⟩:BA))]]:RW).length/\0<=r39.1/\r39.1<((6:Nat):Int))) (.opt (([[(.s (⟨#[34,97,34]⟩:BA))],[(.s (⟨#[34,34]⟩:BA))],[(.s (⟨#[84,82,85,69]⟩:BA))],[(.s (⟨#[70,65,76,83,69]⟩:BA))],[(.s (⟨#[35,82,69,70,33]⟩:BA))],[(.s (⟨#[34,113,34,34,34]⟩:BA))]]:RW)[(r39.1).toNat]?) λe40=>(.opt (z8 e40 0) λy41=>(.done (y41,r39.2.1,r39.2.2)))) .fail))
 (.opt (qd n (12:Int) r8.2.1 r8.2.2) λr42=>(.opt (D3 n r42.1) λr43=>(.done (r43,r42.2.1,r42.2.2)))))))
theorem Zu {l:RW} {p:Int} (hl:Lx l) (hp:0<=p/\p<=l.length):Dwx (Drn l λt:BA=>t.size<=1000) λn=>pv n l p:=by
 obtain ⟨a,p1,h1,ha,h2⟩:=FC 7 (by decide) hl hp;refine qx (Gp h2) ?_;have c:a=0\/a=1\/a=2\/a=3\/¬(a=0\/a=1\/a=2\/a=3):=by omega
 rcases c with rfl|rfl|rfl|rfl|c
 ·exact EB rfl (XO hl h1)
 ·exact D8 rfl (EB rfl (XO hl h1))
 ·exact D8 rfl (D8 rfl (EB rfl (XO hl h1)))
 ·refine D8 rfl (D8 rfl (D8 rfl (EB rfl ?_)));obtain ⟨b,p2,h3,hb,h4⟩:=FC 6 (by decide) hl h1;refine qx (Gp h4) ?_;have c:b=0\/b=1\/b=2\/b=3\/b=4\/b=5:=by omega
  rcases c with rfl|rfl|rfl|rfl|rfl|rfl<;>exact EB rfl (LW rfl (LW rfl (qv ⟨rfl,h3,by dsimp only;decide⟩)))
 ·refine D8 (zanF.2 (by dsimp only;omega)) (D8 (zanF.2 (by dsimp only;omega)) (D8 (zanF.2 (by dsimp only;omega)) (D8 (zanF.2 (by dsimp only;omega)) ?_)));obtain ⟨b,p2,h3,hb,h4⟩:=FC 12 (by decide) hl h1;refine qx (Gp h4) (qx (G6 b (by omega)) (qv ⟨rfl,h3,?_⟩));have:=HC (x:=b) (by omega);dsimp only;omega
theorem XP {l:RW} (hl:Lx l):∀(d:Nat),d<=9->∀{p:Int},(0<=p/\p<=l.length)->∃(t:BA) (p':Int),(0<=p'/\p'<=l.length)/\t.size<=1000*4^d/\Ev (λn=>EP n (d:Int) l p) (t,l,p')
 |0,_,p,hp=>by
  obtain ⟨⟨t,l',p'⟩,⟨rfl,h1,h2⟩,h3⟩:=IQ (F:=λn=>EP n ((0:Nat):Int) l p) (R:=λn=>HX (EP n) n ((0:Nat):Int) l p) (EB rfl (Zu hl hp)) λn=>rfl
  exact ⟨t,p',h1,by simpa using h2,h3⟩
 |d+1,hd,p,hp=>by
  have ih:=fun {p:Int} (hp:0<=p/\p<=l.length)=>XP hl d (by omega) (p:=p) hp
  have hb:1000<=1000*4^d:=Nat.le_mul_of_pos_right _ (Nat.pow_pos (by decide));have hb9:1000*4^d<=300000000:=by
   have:4^d<=4^9:=Nat.pow_le_pow_right (by decide) (by omega);have e:4^9=262144:=by decide
   omega
  have he:1000*4^(d+1)=4*(1000*4^d):=by rw [Nat.pow_succ];omega
  rw [he];generalize 1000*4^d=B at ih hb hb9;have hw:IntKind.i64.wrap (((d+1:Nat):Int)-(1:Int))=(d:Int):=by rw [ql (by omega)];omega
  have key:Dwx (Drn l λt:BA=>t.size<=4*B) λn=>HX (EP n) n ((d+1:Nat):Int) l p:=by
   unfold HX Is;rw [hw];refine D8 (zanF.2 (by omega)) ?_;obtain ⟨o,p1,h1,h2⟩:=O8 3 (by decide) hl hp;refine qx (Gp h2) ?_;cases o with
   |true=>
    obtain ⟨⟨t,l',p'⟩,⟨rfl,g1,g2⟩,g3⟩:=Zu hl h1;refine EB rfl ⟨(t,l',p'),⟨rfl,g1,?_⟩,g3⟩;dsimp only at g2⊢;omega
   |false=>
    refine D8 rfl ?_;obtain ⟨a,p2,h3,ha,h4⟩:=FC 8 (by decide) hl h1;refine qx (Gp h4) ?_;have one:(⟨#[45]⟩:BA).size<=9/\(⟨#[40]⟩:BA).size<=9/\(⟨#[41]⟩:BA).size<=9/\(⟨#[44]⟩:BA).size<=9/\(⟨#[58]⟩:BA).size<=9/\(⟨#[73,70,40]⟩:BA).size<=9:=by decide
    obtain ⟨o1,o2,o3,o4,o5,o6⟩:=one;have areaG:∀{K:Nat->Int×RW×Int->Int->Int->Int->Int->Tr (BA×RW×Int)},(∀(u:BA) (a b c d q:Int),u.size<=9->True)->True:=λ_=>trivial
    have c:a=0\/a=1\/(a=2\/a=3)\/a=4\/a=5\/¬(a=0\/a=1\/a=2\/a=3\/a=4\/a=5):=by omega
    rcases c with rfl|rfl|c|rfl|rfl|c
    ·refine EB rfl ?_;obtain ⟨t,p3,g1,g2,g3⟩:=ih h3;exact qx g3 (EB (fit o1 g2 (by omega)) (qv ⟨rfl,g1,zU (Fx o1 g2) (by omega)⟩))
    ·refine D8 rfl (EB rfl ?_);obtain ⟨t,p3,g1,g2,g3⟩:=ih h3;exact qx g3 (EB (fit o2 g2 (by omega)) (EB (fit (Fx o2 g2) o3 (by omega)) (qv ⟨rfl,g1,zU (Fx (Fx o2 g2) o3) (by omega)⟩)))
    ·obtain ⟨a1,a2,a3,a4,p3,g1,g2⟩:=iu hl h3;obtain ⟨b,p4,g3,hb',g4⟩:=FC 6 (by decide) hl g1;have z1:=G7 a1 a2 false false;have z2:=G7 a3 a4 false false;obtain ⟨t,p5,g5,g6,g7⟩:=ih g3;have fin:∀(u:BA),u.size<=9->Dwx (Drn l λt:BA=>t.size<=4*B) λn=>(.ask (decide (u.size+(⟨#[40]⟩:BA).size<=9223372036854775807)) (.opt (q9 n a1 a2 false false) λr83=>(.ask (decide ((u++(⟨#[40]⟩:BA)).size+r83.size<=9223372036854775807)) (.ask (decide (((u++(⟨#[40]⟩:BA))++r83).size+(⟨#[58]⟩:BA).size<=9223372036854775807)) (.opt (q9 n a3 a4 false false) λr84=>(.ask (decide ((((u++(⟨#[40]⟩:BA))++r83)++(⟨#[58]⟩:BA)).size+r84.size<=9223372036854775807)) (.ask (decide (((((u++(⟨#[40]⟩:BA))++r83)++(⟨#[58]⟩:BA))++r84).size+(⟨#[44]⟩:BA).size<=9223372036854775807)) (.opt (EP n (d:Int) l p4) λr85=>(.ask (decide ((((((u++(⟨#[40]⟩:BA))++r83)++(⟨#[58]⟩:BA))++r84)++(⟨#[44]⟩:BA)).size+r85.1.size<=9223372036854775807)) (.ask (decide (((((((u++(⟨#[40]⟩:BA))++r83)++(⟨#[58]⟩:BA))++r84)++(⟨#[44]⟩:BA))++r85.1).size+(⟨#[41]⟩:BA).size<=9223372036854775807)) (.done ((((((((u++(⟨#[40]⟩:BA))++r83)++(⟨#[58]⟩:BA))++r84)++(⟨#[44]⟩:BA))++r85.1)++(⟨#[41]⟩:BA)),r85.2.1,r85.2.2)) .fail) .fail)) .fail) .fail)) .fail) .fail)) .fail:Tr (BA×RW×Int)):=λu hu=>by
      have s1:=Fx hu o2;have s2:=Fx s1 z1;have s3:=Fx s2 o5;have s4:=Fx s3 z2;have s5:=Fx s4 o4;have s6:=Fx s5 g6;exact EB (fit hu o2 (by omega)) (qx (GD a1 a2 false false) (EB (fit s1 z1 (by omega)) (EB (fit s2 o5 (by omega)) (qx (GD a3 a4 false false) (EB (fit s3 z2 (by omega)) (EB (fit s4 o4 (by omega)) (qx g7 (EB (fit s5 g6 (by omega)) (EB (fit s6 o3 (by omega)) (qv ⟨rfl,g5,zU (Fx s6 o3) (by omega)⟩))))))))))
     have cb:b=0\/b=1\/b=2\/b=3\/b=4\/b=5:=by omega
     rcases c with rfl|rfl
     ·refine D8 rfl (D8 rfl (EB rfl (qx (Gp g2) (qx (Gp g4) ?_))));rcases cb with rfl|rfl|rfl|rfl|rfl|rfl<;>exact EB rfl (LW rfl (LW rfl (fin _ (by decide))))
     ·refine D8 rfl (D8 rfl (D8 rfl (EB rfl (qx (Gp g2) (qx (Gp g4) ?_)))));rcases cb with rfl|rfl|rfl|rfl|rfl|rfl<;>exact EB rfl (LW rfl (LW rfl (fin _ (by decide))))
    ·refine D8 rfl (D8 rfl (D8 rfl (D8 rfl (EB rfl ?_))));obtain ⟨t1,p3,g1,g2,g3⟩:=ih h3;obtain ⟨t2,p4,g4,g5,g6⟩:=ih g1;obtain ⟨t3,p5,g7,g8,g9⟩:=ih g4;have s1:=Fx o6 g2;have s2:=Fx s1 o4;have s3:=Fx s2 g5;have s4:=Fx s3 o4;have s5:=Fx s4 g8;exact qx g3 (EB (fit o6 g2 (by omega)) (EB (fit s1 o4 (by omega)) (qx g6 (EB (fit s2 g5 (by omega)) (EB (fit s3 o4 (by omega)) (qx g9 (EB (fit s4 g8 (by omega)) (EB (fit s5 o3 (by omega)) (qv ⟨rfl,g7,zU (Fx s5 o3) (by omega)⟩)))))))))
    ·refine D8 rfl (D8 rfl (D8 rfl (D8 rfl (D8 rfl (EB rfl ?_)))));obtain ⟨b,p3,g1,hb',g2⟩:=FC 3 (by decide) hl h3;obtain ⟨t,p4,g4,g5,g6⟩:=ih g1;refine qx (Gp g2) ?_;have cb:b=0\/b=1\/b=2:=by omega
     rcases cb with rfl|rfl|rfl<;>exact EB rfl (LW rfl (LW rfl (EB (fit (a:=9) (by decide) o2 (by omega)) (qx g6 (EB (fit (Fx (a:=9) (by decide) o2) g5 (by omega)) (EB (fit (Fx (Fx (a:=9) (by decide) o2) g5) o3 (by omega)) (qv ⟨rfl,g4,zU (Fx (Fx (Fx (a:=9) (by decide) o2) g5) o3) (by omega)⟩)))))))
    ·have ne:∀{x:Int},a≠x->(a==x)=false:=λh=>zanF.2 h
     refine D8 (ne (by omega)) (D8 (ne (by omega)) (D8 (ne (by omega)) (D8 (ne (by omega)) (D8 (ne (by omega)) (D8 (ne (by omega)) ?_)))));obtain ⟨t1,p3,g1,g2,g3⟩:=ih h3;obtain ⟨b,p4,g4,hb',g5⟩:=FC 11 (by decide) hl g1;obtain ⟨t2,p5,g7,g8,g9⟩:=ih g4;have w1:IntKind.i64.wrap ((1:Int)+b)=1+b:=ql (by omega);have z:=PD (op:=1+b) (by omega);refine qx g3 (qx (Gp g5) ?_);dsimp only;rw [w1];exact qx (M2 (1+b) (by omega)) (EB (fit g2 z (by omega)) (qx g9 (EB (fit (Fx g2 z) g8 (by omega)) (qv ⟨rfl,g7,zU (Fx (Fx g2 z) g8) (by omega)⟩))))
  obtain ⟨⟨t,l',p'⟩,⟨rfl,h1,h2⟩,h3⟩:=IQ (F:=λn=>EP n ((d+1:Nat):Int) l p) key λn=>rfl
  exact ⟨t,p',h1,h2,h3⟩
theorem fv (x:Int):Tp (Lib.itoa x)=true/\N9 (Lib.itoa x)=x:=by
 unfold Lib.itoa;split
 ·rename_i hx;obtain ⟨h1,h2,h3,_,_⟩:=HV x.natAbs;have e:Lj (45::Lib.decDigits x.natAbs)=Lib.decDigits x.natAbs:=rfl;refine ⟨by unfold Tp;rw [e,h1];simpa using h3,?_⟩;unfold N9;rw [e,h2];simp only [List.head?_cons,if_true];omega
 ·rename_i hx;obtain ⟨h1,h2,h3,_,_⟩:=HV x.toNat;obtain ⟨c,r,hcr,hd⟩:=OY x.toNat;have e:(Lib.decDigits x.toNat).head?≠some 45:=by
   rw [hcr];intro h;cases h
   revert hd
   decide
  have e2:Lj (Lib.decDigits x.toNat)=Lib.decDigits x.toNat:=by unfold Lj;rw [if_neg e]
  refine ⟨by unfold Tp;rw [e2,h1];simpa using h3,?_⟩;unfold N9;rw [if_neg e,e2,h2];omega
theorem fw (x:Int):(Lib.itoa x).all okc=true:=by
 have hd:∀u,(Lib.decDigits u).all okc=true:=λu=>Kt (λc hc=>PK (Tu hc)) (HV u).1
 unfold Lib.itoa;split
 ·rw [zanC,hd];decide
 ·exact hd _
theorem kt (s:BA):BR s.toList=s:=HU (by rw [zao];rfl)
theorem Tw {s:BA} (h:s.toList.all okc=true) (h2:s.size<=200):FT s 200=true:=by
 unfold FT;rw [h,Bool.true_and,aG];omega
theorem Zv {s o:BA} (h:GJ s=(o,true)):GJ o=(o,true)/\(o.toList= []↔s.toList= [])/\(o.toList.head?≠some 61->(q7 o).2.2.2=true)/\(o.toList.head?=some 61->∃l,FW (BR o.toList.tail)=(l,true)/\o=⟨#[61]⟩++F1 l):=by
 have h0:=h;unfold GJ at h;split at h
 ·cases h
 rename_i hp;have hp:FT s 200=true:=by simpa using hp
 split at h
 ·rename_i hs;cases h;refine ⟨?_,⟨λ_=>hs,λ_=>qy⟩,λ_=>?_,λe=>by rw [qy] at e;cases e⟩
  ·unfold GJ;rw [if_neg (by decide+kernel),if_pos qy]
  ·have:=OZ (k:=0) (x:=0) (s:=em) (by decide+kernel);have e:EN 0 0 em=⟨#[]⟩:=rfl;rw [e] at this;rw [this]
 rename_i hs;split at h
 ·rename_i hh;split at h
  ·rename_i hc;obtain ⟨c1,c2,c3⟩:=hc;cases h;generalize hl:(FW (BR s.toList.tail)).1=l at c2 c3;have hf:Jk l=true:=by rw [<-hl];exact m9 c1
   have hb:=Og (l:=l) (by rw [<-hl];exact (Qu _).2);have hr:=cp hf hb c2;have hpl:FT (F1 l) 200=true:=by
    have h2:(FW (F1 l)).2=true:=by rw [hr]
    unfold FW at h2;split at h2
    ·rename_i h3;exact h3.1
    ·cases h2
   have e61:(⟨#[61]⟩:BA).toList= [61]:=by decide+kernel
   have ht:(⟨#[61]⟩++F1 l:BA).toList=61::(F1 l).toList:=by rw [Hy,e61];rfl
   have hsz:(⟨#[61]⟩++F1 l:BA).size<=200:=by
    rw [ze];show 1+_<=200;omega
   have ho:FT (⟨#[61]⟩++F1 l) 200=true:=Tw (by
    rw [ht,zanC];unfold FT at hpl;simp only [zL] at hpl;rw [hpl.1]
    decide) hsz
   have htl:BR (⟨#[61]⟩++F1 l:BA).toList.tail=F1 l:=by rw [ht];exact kt _
   refine ⟨?_,⟨λe=>(by rw [ht] at e;cases e),λe=>absurd e hs⟩,λe=>absurd (by rw [ht];rfl) e,λ_=>⟨l,by rw [htl];exact hr,rfl⟩⟩;unfold GJ;rw [if_neg (by rw [ho];simp),if_neg (by rw [ht];simp),if_pos (by rw [ht];rfl),htl,hr,if_pos ⟨rfl,c2,c3⟩]
  ·cases h
 rename_i hh;split at h
 ·rename_i hn;have hn2:=hn;unfold JP at hn2;simp only [zL] at hn2;obtain ⟨hd,hv⟩:=hn2;cases h;generalize N9 s.toList=x at hv;have ht:(Gk x).toList=Lib.itoa x:=by rw [zao];rfl
  obtain ⟨g1,g2⟩:=fv x;have hz:=HC (x:=x) (by have:=jy.1 hv;omega);have hrd:=OZ hv;have e:EN 1 x em=Gk x:=rfl;rw [e] at hrd;have hne:Lib.itoa x≠ []:=λe=>by
   rw [e] at g1;cases g1
  have h61:(Lib.itoa x).head?≠some 61:=λe=>by
   unfold Lib.itoa at e;split at e
   ·cases e
   ·obtain ⟨c,r,hcr,hd⟩:=OY x.toNat;rw [hcr] at e;cases e
    revert hd
    decide
  refine ⟨?_,⟨λe=>absurd (ht▸e) hne,λe=>absurd e hs⟩,λ_=>by rw [hrd],λe=>absurd (ht▸e) h61⟩;unfold GJ;rw [if_neg (by rw [Tw (by rw [ht];exact fw x) (by omega)];simp),ht,if_neg hne,if_neg h61,if_pos (by unfold JP;rw [g1,g2,hv];rfl),g2]
 rename_i hn;split at h
 ·rename_i hv;cases h;exact ⟨h0,Iff.rfl,λ_=>hv,λe=>absurd e hh⟩
 rename_i hv;split at h
 ·cases h
 rename_i h200;cases h;have hz:=M9 hp;have hrd:=OZ (pk hp);have e:EN 2 0 s=⟨#[39]⟩++s:=rfl;rw [e] at hrd;have e39:(⟨#[39]⟩:BA).toList= [39]:=by decide+kernel
 have ht:(⟨#[39]⟩++s:BA).toList=39::s.toList:=by rw [Hy,e39];rfl
 have ho:FT (⟨#[39]⟩++s) 200=true:=Tw (by
  rw [ht,zanC];unfold FT at hp;simp only [zL] at hp;rw [hp.1]
  decide) (by
   rw [ze];show 1+s.size<=200;omega)
 refine ⟨?_,⟨λe=>(by rw [ht] at e;cases e),λe=>absurd e hs⟩,λ_=>(by rw [hrd]),λe=>(by rw [ht] at e;cases e)⟩;unfold GJ;rw [if_neg (by rw [ho];simp),if_neg (by rw [ht];simp),if_neg (by rw [ht];simp),if_neg (by rw [ht];unfold JP Tp Lj;simp [Ej]),hrd,if_pos rfl]
theorem Y9 {l:RW} (hl:Lx l) (d:Nat) (hd:d<=2) {p:Int} (hp:0<=p/\p<=l.length):Dwx (Drn l λt:BA=>t.size<=20000) λn=>(.opt (EP n (d:Int) l p) λr107=>(.ask (decide ((⟨#[61]⟩:BA).size+r107.1.size<=9223372036854775807)) (.done (((⟨#[61]⟩:BA)++r107.1),r107.2.1,r107.2.2)) .fail:Tr (BA×RW×Int))):=by
 obtain ⟨t,p1,h1,h2,h3⟩:=XP hl d (by omega) hp;have hb:t.size<=16000:=by
  have:4^d<=4^2:=Nat.pow_le_pow_right (by decide) hd;have e:4^2=16:=by decide
  omega
 have o1:(⟨#[61]⟩:BA).size<=9:=by decide
 exact qx h3 (EB (fit o1 hb (by omega)) (qv ⟨rfl,h1,zU (Fx o1 hb) (by omega)⟩))
theorem fx {l:RW} (hl:Lx l) {p:Int} (hp:0<=p/\p<=l.length):∃(t:BA) (p':Int),(0<=p'/\p'<=l.length)/\t.size<=20000/\Ev (λn=>Hc n l p) (t,l,p'):=by
 have key:Dwx (Drn l λt:BA=>t.size<=20000) λn=>KS n l p:=by
  obtain ⟨a,p1,h1,ha,h2⟩:=FC 8 (by decide) hl hp;refine qx (Gp h2) ?_;have dec:Dwx (Drn l λt:BA=>t.size<=20000) λn=>(.opt (qd n (20:Int) l p1) λr110=>(.opt (D3 n r110.1) λr111=>(.done (r111,r110.2.1,r110.2.2))):Tr (BA×RW×Int)):=by
   obtain ⟨b,p2,h3,hb,h4⟩:=FC 20 (by decide) hl h1;refine qx (Gp h4) (qx (G6 b (by omega)) (qv ⟨rfl,h3,?_⟩));have:=HC (x:=b) (by omega);dsimp only;omega
  have c:a=0\/a=1\/a=2\/a=3\/a=4\/a=5\/a=6\/a=7:=by omega
  rcases c with rfl|rfl|rfl|rfl|rfl|rfl|rfl|rfl
  ·exact EB rfl (Y9 hl 2 (by decide) h1)
  ·exact D8 rfl (EB rfl (Y9 hl 2 (by decide) h1))
  ·exact D8 rfl (D8 rfl (EB rfl (Y9 hl 2 (by decide) h1)))
  ·exact D8 rfl (D8 rfl (D8 rfl (EB rfl dec)))
  ·exact D8 rfl (D8 rfl (D8 rfl (D8 rfl (EB rfl dec))))
  ·refine D8 rfl (D8 rfl (D8 rfl (D8 rfl (D8 rfl (EB rfl ?_)))));obtain ⟨b,p2,h3,hb,h4⟩:=FC 8 (by decide) hl h1;refine qx (Gp h4) ?_;have c:b=0\/b=1\/b=2\/b=3\/b=4\/b=5\/b=6\/b=7:=by omega
   rcases c with rfl|rfl|rfl|rfl|rfl|rfl|rfl|rfl<;>exact EB rfl (LW rfl (LW rfl (qv ⟨rfl,h3,by dsimp only;decide⟩)))
  ·exact D8 rfl (D8 rfl (D8 rfl (D8 rfl (D8 rfl (D8 rfl (EB rfl (qv ⟨rfl,h1,by dsimp only;decide⟩)))))))
  ·exact D8 rfl (D8 rfl (D8 rfl (D8 rfl (D8 rfl (D8 rfl (D8 rfl (Y9 hl 1 (by decide) h1)))))))
 obtain ⟨⟨t,l',p'⟩,⟨rfl,h1,h2⟩,h3⟩:=IQ (F:=λn=>Hc n l p) key λn=>rfl
 exact ⟨t,p',h1,h2,h3⟩
def XQ {α R:Type} (f:Nat->α->Option R):Nat->List α->Option R
 |_,[]=>none
 |i,a::r=>match f i a with
  |some x=>some x
  |none=>XQ f (i+1) r
theorem cq {V R α:Type} {B:V->Tr (V⊕R)} (st:Nat->V) (l:List α) (f:Nat->α->Option R) (z:R) (hs:∀i a,l[i]?=some a->(B (st i)).run=some (match f i a with|some r=> .inr r|none=> .inl (st (i+1))))
  (he:(B (st l.length)).run=some (.inr z)):∀(M:Nat),l.length+1<=M->zF B M (st 0)=some ((XQ f 0 l).getD z):=by
 have key:∀(r:List α) (i M:Nat),l.drop i=r->i+r.length=l.length->r.length+1<=M->zF B M (st i)=some ((XQ f i r).getD z):=by
  intro r
  induction r with
  |nil=>
   intro i M h1 h2 h3;obtain ⟨M,rfl⟩:∃q,M=q+1:=⟨M-1,by omega⟩;have e:i=l.length:=by simpa using h2
   subst e;rw [qe he];rfl
  |cons a r ih=>
   intro i M h1 h2 h3;obtain ⟨M,rfl⟩:∃q,M=q+1:=⟨M-1,by omega⟩;have hg:l[i]?=some a:=by rw [<-List.head?_drop,h1];rfl
   have hd:l.drop (i+1)=r:=by rw [<-List.tail_drop,h1];rfl
   have h4:=hs i a hg;simp only [zamM] at h2 h3;unfold XQ;cases hf:f i a with
   |some x=>rw [hf] at h4;rw [qe h4];rfl
   |none=>rw [hf] at h4;rw [qm h4];exact ih (i+1) M hd (by omega) (by omega)
 exact λM h=>key l 0 M rfl (by omega) h
def MM {α:Type} (p:Nat->α->Bool):Nat->List α->Bool
 |_,[]=>true
 |i,a::r=>p i a&&MM p (i+1) r
theorem XR {α R:Type} {p:Nat->α->Bool} {e:R}:∀{l:List α} {i:Nat},XQ (λi a=>if p i a=true then none else some e) i l=if MM p i l=true then none else some e
 | [],i=>rfl
 |a::r,i=>by
  unfold XQ MM;cases p i a with
  |true=>simp only [if_true,Bool.true_and];exact XR
  |false=>rfl
theorem VD {i:Nat} {k:Int} {l:RW} {e:List PV} (hk:k=(i:Int)) (h:l[i]?=some e):decide (0<=k/\k<l.length)=true/\l[k.toNat]?=some e:=by
 subst hk;have:=(zamJ.1 h).1;exact ⟨zC (by omega),by rw [cT];exact h⟩
abbrev Sm:=Int×Int×Int×BA×Int
def q8 (c:Sm):List PV:= [.i .i64 c.1,.i .i64 c.2.1,.i .i64 c.2.2.1,.s c.2.2.2.1,.i .i64 c.2.2.2.2]
theorem ny {l:List Sm} {i:Nat} {e:List PV} (h:(l.map q8)[i]?=some e):∃c,l[i]?=some c/\e=q8 c:=by
 rw [zamS] at h;obtain ⟨c,hc,rfl⟩:=zD.1 h;exact ⟨c,hc,rfl⟩
def Ri (s:BA):Bool:=(GJ s).2&&((GJ s).1.toList==s.toList)
def wrS (s:BA):Bool:=Ri (⟨#[61]⟩++s)
def inZ (x lo hi:Int):Bool:=decide (lo<=x/\x<=hi)
def stB (n:Nat) (i:Nat) (c:Sm):Bool:=
 if c.1=1 then Ef c.2.1 c.2.2.1&&(wrS c.2.2.2.1&&c.2.2.2.2==0) else
 if c.1=2 then Ef c.2.1 c.2.2.1&&(Ri c.2.2.2.1&&c.2.2.2.2==0) else
 if c.1=3 then (c.2.1==0&&c.2.2.1==0)&&(wrS c.2.2.2.1&&inZ c.2.2.2.2 1 ((n:Int)-1-(i:Int))) else
 if c.1=4 then (c.2.1==0&&c.2.2.1==0)&&(wrS c.2.2.2.1&&inZ c.2.2.2.2 1 (i:Int)) else
 if c.1=5 then (c.2.1==0&&c.2.2.1==0)&&(wrS c.2.2.2.1&&c.2.2.2.2==0) else false
def GK (l:List Sm):Bool:=MM (stB l.length) 0 l&&decide ((l.length:Int)<=30)
theorem mc (s:BA):(⟨#[61]⟩++s:BA).toList≠ []:=by
 have e:(⟨#[61]⟩:BA).toList= [61]:=by decide+kernel
 rw [Hy,e];exact List.cons_ne_nil _ _
theorem Zw {s:BA} (hb:s.size<=140737488351232):(⟨#[61]⟩++s:BA).size<=140737488355328/\decide ((⟨#[61]⟩:BA).size+s.size<=9223372036854775807)=true:=by
 have e:(⟨#[61]⟩:BA).size=1:=rfl;rw [ze,e];exact ⟨by omega,zC (by omega)⟩
theorem ZA (s:BA) (hb:s.size<=140737488351232):Ev (IH · s) (wrS s):=by
 refine Oh (IQ (R:=λn=>K9 n s) (EB (Zw hb).2 (qx (VR _ (Zw hb).1) (qv ?_))) λn=>rfl);unfold cm wrS Ri;rw [zC (mc s),Bool.true_and]
theorem Xv (s:BA) (hb:s.size<=140737488351232):Ev (GB · s) (wrS s):=by
 refine Oh (IQ (R:=λn=>KT n s) (EB (Zw hb).2 (qx (Ju _ (Zw hb).1) ?_)) λn=>rfl);unfold wrS Ri;cases h:(GJ (⟨#[61]⟩++s)).2 with
 |true=>exact EB rfl (EB (Zw hb).2 (qv rfl))
 |false=>exact D8 rfl (qv rfl)
theorem VT (x a b:Int):Ev (Eh · x a b) (inZ x a b):=by
 have h:=Eb x a b;have e:inZ x a b=decide (a<=x/\x<=b):=rfl;rw [e];exact h
theorem VU (x a b:Int):Ev (FN · x a b) (inZ x a b):=by
 have h:=G2 x a b;have e:inZ x a b=decide (a<=x/\x<=b):=rfl;rw [e];exact h
theorem nb {a b:Int} (h:¬a=b):(a==b)=false:=zanF.2 h
theorem cr (n:Nat) (c:Sm) (i:Nat) (hb:c.2.2.2.1.size<=140737488351232):Ev (IX · c.1 c.2.1 c.2.2.1 c.2.2.2.1 c.2.2.2.2 (i:Int) ((n:Int)-1-(i:Int))) (stB n i c):=by
 obtain ⟨k,a,b,s,m⟩:=c;refine Oh (IQ (R:=λq=>J5 q k a b s m (i:Int) ((n:Int)-1-(i:Int))) ?_ λq=>rfl);unfold stB;dsimp only;have w:=ZA s hb;by_cases k1:k=1
 ·subst k1;refine EB rfl (qx (Hw a b) ?_);rw [if_pos rfl];cases Ef a b with
  |false=>exact D8 rfl (qv rfl)
  |true=>
   refine EB rfl (qx w ?_);cases wrS s with
   |false=>exact D8 rfl (qv rfl)
   |true=>exact EB rfl (qv rfl)
 rw [if_neg k1];refine D8 (nb k1) ?_;by_cases k2:k=2
 ·subst k2;refine EB rfl (qx (Hw a b) ?_);rw [if_pos rfl];cases Ef a b with
  |false=>exact D8 rfl (qv rfl)
  |true=>
   refine EB rfl ?_;by_cases hs:s.toList= []
   ·refine EB (XG hs) (qv ?_);have e:Ri s=true:=by
     unfold Ri GJ;have hp:FT s 200=true:=Tw (by rw [hs];rfl) (by have:=EA s;rw [hs] at this;simp at this;omega);rw [if_neg (by rw [hp];simp),if_pos hs,hs];show (true&&((⟨#[]⟩:BA).toList== []))=true;rw [qy];rfl
    rw [e];simp
   ·refine D8 (M8 hs) (qx (VR s (by have:s.size<=140737488351232:=hb;omega)) ?_);have e:cm s=Ri s:=by unfold cm Ri;rw [zC hs,Bool.true_and]
    rw [e];cases Ri s with
    |false=>exact D8 rfl (qv rfl)
    |true=>exact EB rfl (qv rfl)
 rw [if_neg k2];refine D8 (nb k2) ?_;have zz:∀{X:Bool} {t:Nat->Tr Bool},Dwx (λy=>y=X) t->Dwx (λy=>y=((a==0&&b==0)&&X)) λq=> .ask ((a==(0:Int))&&((b==(0:Int))&&true)) (t q) (.done false):=fun {X t} h=>by
  rw [Bool.and_true];cases a==0&&b==0 with
  |false=>exact D8 rfl (qv rfl)
  |true=>exact EB rfl (by simpa using h)
 by_cases k3:k=3
 ·subst k3;rw [if_pos rfl];refine EB rfl (zz (qx w ?_));cases wrS s with
  |false=>exact D8 rfl (qv rfl)
  |true=>exact EB rfl (qx (VT m 1 _) (qv rfl))
 rw [if_neg k3];refine D8 (nb k3) ?_;by_cases k4:k=4
 ·subst k4;rw [if_pos rfl];refine EB rfl (zz (qx w ?_));cases wrS s with
  |false=>exact D8 rfl (qv rfl)
  |true=>exact EB rfl (qx (VT m 1 _) (qv rfl))
 rw [if_neg k4];refine D8 (nb k4) ?_;by_cases k5:k=5
 ·subst k5;rw [if_pos rfl];refine EB rfl (zz (qx w ?_));cases wrS s with
  |false=>exact D8 rfl (qv rfl)
  |true=>exact EB rfl (qv rfl)
 rw [if_neg k5];exact D8 (nb k5) (qv rfl)
theorem ba {α R:Type} {F:Nat->α->Nat->Option R} {f:Nat->α->R}:∀(l:List α) (i:Nat),(∀i,∀c∈l,Ev (F i c) (f i c))->∃n0,∀n,n0<=n->∀j c,l[j]?=some c->F (i+j) c n=some (f (i+j) c)
 | [],i,_=>⟨0,λn _ j c hc=>by simp at hc⟩
 |a::l,i,h=>by
  obtain ⟨n1,h1⟩:=h i a (zamN ..);obtain ⟨n2,h2⟩:=ba l (i+1) λi c hc=>h i c (zamR _ hc)
  refine ⟨n1+n2,λn hn j c hc=>?_⟩;cases j with
  |zero=>simp at hc;subst hc;exact h1 n (by omega)
  |succ j=>have:=h2 n (by omega) j c (by simpa using hc);rw [show i+(j+1)=i+1+j by omega];exact this
theorem Lz (l:List Sm) (hb:l.length<=140737488351232) (hs:∀c∈l,c.2.2.2.1.size<=140737488351232):Ev (II · (l.map q8)) (GK l):=by
 obtain ⟨n0,h0⟩:=ba (F:=λi (c:Sm) n=>IX n c.1 c.2.1 c.2.2.1 c.2.2.2.1 c.2.2.2.2 (i:Int) ((l.length:Int)-1-(i:Int))) (f:=stB l.length) l 0 λi c hc=>cr l.length c i (hs c hc)
 refine ⟨n0+l.length+3,λn hn=>?_⟩;obtain ⟨m,rfl,hm⟩:=up1 hn;have h:=cq (B:=Kg m) (λi=>(l.map q8,l.map q8,((l.map q8).length:Int),(i:Int))) l (λi c=>if stB l.length i c=true then none else some (.inl false)) (.inr (l.map q8))
  (λi c he=>by
   have hi:=(zamJ.1 he).1;have hg:(l.map q8)[i]?=some (q8 c):=by rw [zamS,he];rfl
   obtain ⟨a1,a2⟩:=VD rfl hg;have h1:=h0 m (by omega) i c he;rw [Nat.zero_add] at h1;have w1:IntKind.i64.wrap (IntKind.i64.wrap (((l.map q8).length:Int)-1)-(i:Int))=(l.length:Int)-1-(i:Int):=by
    rw [zamV,ql (x:=(l.length:Int)-1) (by omega),ql (by omega)]
   refine qb (zC (by simpa using hi)) (qb a1 (qa a2 (qb rfl (qa rfl (qa rfl (qa rfl (qa rfl (qa rfl ?_))))))));rw [w1];refine qa h1 ?_;cases stB l.length i c with
   |true=>refine qc rfl ?_;dsimp only;rw [ql (by omega)];rfl
   |false=>exact qb rfl rfl)
  (qc (aA (by simp)) rfl) m (by omega)
 refine qa h ?_;rw [XR];unfold GK;cases MM (stB l.length) 0 l with
 |true=>simp [qj]
 |false=>rfl
theorem If (l:List Sm) (hb:l.length<=140737488351232) (hs:∀c∈l,c.2.2.2.1.size<=140737488351232):Ev (HF · (l.map q8)) (GK l):=by
 by_cases h30:(l.length:Int)>30
 ·refine Oh (IQ (R:=λq=>Mc q (l.map q8)) (EB (zC (by simpa using h30)) (qv ?_)) λq=>rfl);unfold GK;rw [aA (by omega),Bool.and_false]
 obtain ⟨n1,h1⟩:=FJ (F:=λ(c:Sm) n=>FQ n c.2.1 c.2.2.1) (f:=λc=>Ef c.2.1 c.2.2.1) l λc hc=>Hu c.2.1 c.2.2.1
 obtain ⟨n2,h2⟩:=FJ (F:=λ(c:Sm) n=>GB n c.2.2.2.1) (f:=λc=>wrS c.2.2.2.1) l λc hc=>Xv c.2.2.2.1 (hs c hc)
 obtain ⟨n3,h3⟩:=FJ (F:=λ(c:Sm) n=>GA n c.2.2.2.1) (f:=λc=>GJ c.2.2.2.1) l λc hc=>Ju c.2.2.2.1 (by have:=hs c hc;omega)
 obtain ⟨n4,h4⟩:=ba (F:=λi (c:Sm) n=>FN n c.2.2.2.2 1 ((l.length:Int)-1-(i:Int))) (f:=λi c=>inZ c.2.2.2.2 1 ((l.length:Int)-1-(i:Int))) l 0 λi c hc=>VU c.2.2.2.2 1 ((l.length:Int)-1-(i:Int))
 obtain ⟨n5,h5⟩:=ba (F:=λi (c:Sm) n=>FN n c.2.2.2.2 1 (i:Int)) (f:=λi c=>inZ c.2.2.2.2 1 (i:Int)) l 0 λi c hc=>VU c.2.2.2.2 1 (i:Int)
 refine ⟨n1+n2+n3+n4+n5+l.length+3,λn hn=>?_⟩;obtain ⟨m,rfl,hm⟩:=up1 hn;have h:=cq (B:=KU m) (λi=>(l.map q8,(i:Int))) l (λi c=>if stB l.length i c=true then none else some (.inl false)) (.inr ())
  (λi c he=>by
   have hi:=(zamJ.1 he).1;have hmem:=aC he;have hg:(l.map q8)[i]?=some (q8 c):=by rw [zamS,he];rfl
   obtain ⟨a1,a2⟩:=VD rfl hg;have h1:=h1 m (by omega) c hmem;have h2:=h2 m (by omega) c hmem;have h3:=h3 m (by omega) c hmem;have h4:=h4 m (by omega) i c he;have h5:=h5 m (by omega) i c he;rw [Nat.zero_add] at h4 h5;obtain ⟨k,a,b,s,q⟩:=c;dsimp only at h1 h2 h3 h4 h5;have w1:IntKind.i64.wrap (IntKind.i64.wrap (((l.map q8).length:Int)-1)-(i:Int))=(l.length:Int)-1-(i:Int):=by
    rw [zamV,ql (x:=(l.length:Int)-1) (by omega),ql (by omega)]
   have w2:IntKind.i64.wrap ((i:Int)+1)=((i+1:Nat):Int):=by rw [ql (by omega)];omega
   refine qb (zC (by simpa using hi)) (qb a1 (qa a2 (qb rfl (qa rfl (qa rfl (qa rfl (qa rfl (qa rfl ?_))))))));dsimp only;rw [w1,w2];unfold stB;dsimp only;by_cases k1:k=1
   ·subst k1;refine qb rfl (qa h1 ?_);rw [if_pos rfl];cases Ef a b with
    |false=>exact qb rfl rfl
    |true=>
     refine qc rfl ?_;by_cases q0:q=0
     ·subst q0;refine qc rfl (qa h2 ?_);cases wrS s with
      |false=>exact qb rfl rfl
      |true=>exact qc rfl rfl
     ·refine qb (bne_iff_ne.2 q0) ?_;rw [nb q0,Bool.and_false,Bool.and_false];rfl
   rw [if_neg k1];refine qc (nb k1) ?_;by_cases k2:k=2
   ·subst k2;refine qb rfl (qa h3 (qa h1 ?_));rw [if_pos rfl];cases Ef a b with
    |false=>exact qb rfl rfl
    |true=>
     refine qc rfl ?_;by_cases q0:q=0
     ·subst q0;refine qc rfl ?_;unfold Ri;cases hq:(GJ s).2 with
      |false=>exact qb rfl rfl
      |true=>
       refine qc rfl ?_;cases hq2:(GJ s).1.toList==s.toList with
       |false=>exact qb rfl rfl
       |true=>exact qc rfl rfl
     ·refine qb (bne_iff_ne.2 q0) ?_;rw [nb q0,Bool.and_false,Bool.and_false];rfl
   rw [if_neg k2];refine qc (nb k2) ?_;rw [Bool.and_true];by_cases k3:k=3
   ·subst k3;rw [if_pos rfl];refine qb rfl ?_;cases a==0&&b==0 with
    |false=>exact qb rfl rfl
    |true=>
     refine qc rfl (qa h4 ?_);cases inZ q 1 ((l.length:Int)-1-(i:Int)) with
     |false=>refine qb rfl ?_;rw [Bool.and_false,Bool.and_false];rfl
     |true=>
      refine qc rfl (qa h2 ?_);cases wrS s with
      |false=>exact qb rfl rfl
      |true=>exact qc rfl rfl
   rw [if_neg k3];refine qc (nb k3) ?_;by_cases k4:k=4
   ·subst k4;rw [if_pos rfl];refine qb rfl ?_;cases a==0&&b==0 with
    |false=>exact qb rfl rfl
    |true=>
     refine qc rfl (qa h5 ?_);cases inZ q 1 (i:Int) with
     |false=>refine qb rfl ?_;rw [Bool.and_false,Bool.and_false];rfl
     |true=>
      refine qc rfl (qa h2 ?_);cases wrS s with
      |false=>exact qb rfl rfl
      |true=>exact qc rfl rfl
   rw [if_neg k4];refine qc (nb k4) ?_;by_cases k5:k=5
   ·subst k5;rw [if_pos rfl];refine qb rfl ?_;cases a==0&&b==0 with
    |false=>exact qb rfl rfl
    |true=>
     refine qc rfl ?_;by_cases q0:q=0
     ·subst q0;refine qc rfl (qa h2 ?_);cases wrS s with
      |false=>exact qb rfl rfl
      |true=>exact qc rfl rfl
     ·refine qb (bne_iff_ne.2 q0) ?_;rw [nb q0,Bool.and_false,Bool.and_false];rfl
   rw [if_neg k5];exact qc (nb k5) rfl)
  (qc (aA (by simp)) rfl) m (by omega)
 refine qc (aA (by simpa using h30)) (qa h ?_);rw [XR];unfold GK;rw [zC (by omega),Bool.and_true];cases MM (stB l.length) 0 l<;>rfl
theorem nz {α β γ:Type} {Q:α->Prop} {x:γ} {K:Nat->β->Tr α} {L:Nat->γ->Tr α} (h:Dwx Q λn=>L n x):Dwx Q λn=> .alt (Sum.inr x) (K n) (L n):=h
theorem ob {α β γ:Type} {Q:α->Prop} {x:β} {K:Nat->β->Tr α} {L:Nat->γ->Tr α} (h:Dwx Q λn=>K n x):Dwx Q λn=> .alt (Sum.inl x) (K n) (L n):=h
theorem Oi {α R:Type}:∀(l:List α) (i:Nat),XQ (λ(_:Nat) (_:α)=>(none:Option R)) i l=none
 | [],i=>rfl
 |a::l,i=>Oi l (i+1)
def plB (c:Nd):Bool:=if c.1=2 then Ef c.2.2.2.2.2.1 c.2.2.2.2.2.2.1 else if c.1=3 then J7 c.2.2.2.2.2.1 c.2.2.2.2.2.2.1 c.2.2.2.2.2.2.2.2.2.1 c.2.2.2.2.2.2.2.2.2.2.1 else true
structure PlaceCh (f:Nd->Nd):Prop where
 k:∀c,(f c).1=c.1
 n:∀c,Gq c=true->c.1=2\/c.1=3->Gq (f c)=plB (f c)
 kd:∀c,kd (f c)=kd c
abbrev Vs:=Int×List Int×List Cl
abbrev Br:=BA×Int
theorem bc {α:Type} {enc:α->List PV} {l:List α} {i:Nat} {a:α} (h:l[i]?=some a):(l.map enc)[i]?=some (enc a):=by rw [zamS,h];rfl
inductive Rch (sc:Nat->List Nat) (a:Nat):Nat->Prop
 |one {j:Nat}:j∈sc a->Rch sc a j
 |more {i j:Nat}:Rch sc a i->j∈sc i->Rch sc a j
def PL (Q:List Nat):List Nat->List Nat
 | []=>Q
 |x::M=>PL (if Q.contains x=true then Q else Q++ [x]) M
theorem LO {x:Nat}:∀(M Q:List Nat),x∈PL Q M↔x∈Q\/x∈M
 | [],Q=>by simp [PL]
 |y::M,Q=>by
  unfold PL;rw [LO M];by_cases h:Q.contains y=true
  ·rw [if_pos h];have hy:y∈Q:=by simpa using h
   rw [zamT]
   constructor
   ·rintro (h|h)
    ·exact .inl h
    ·exact .inr (.inr h)
   ·rintro (h|rfl|h)
    ·exact .inl h
    ·exact .inl hy
    ·exact .inr h
  ·rw [if_neg h,List.mem_append,zamQ,zamT,or_assoc]
theorem Tx:∀(M Q:List Nat),Q.Nodup->(PL Q M).Nodup
 | [],Q,h=>h
 |y::M,Q,h=>by
  unfold PL;refine Tx M _ ?_;by_cases hy:Q.contains y=true
  ·rw [if_pos hy];exact h
  ·rw [if_neg hy];have hy':y∉Q:=by simpa using hy
   rw [List.nodup_append];refine ⟨h,by simp,λa ha b hb=>?_⟩;rw [zamQ] at hb;subst hb;rintro rfl;exact hy' ha
theorem Sp:∀(M Q:List Nat) (k:Nat),k<Q.length->(PL Q M)[k]?=Q[k]?
 | [],Q,k,h=>rfl
 |y::M,Q,k,h=>by
  unfold PL;by_cases hy:Q.contains y=true
  ·rw [if_pos hy];exact Sp M Q k h
  ·rw [if_neg hy,Sp M _ k (by simp;omega),zanA h]
theorem o7:∀(n:Nat) (l:List Nat),l.Nodup->(∀x∈l,x<n)->l.length<=n
 |0,l,_,h=>by
  cases l with
  |nil=>simp
  |cons a l=>exact absurd (h a (zamN ..)) (Nat.not_lt_zero a)
 |n+1,l,hd,h=>by
  by_cases hn:n∈l
  ·have h1:=o7 n (l.erase n) (hd.erase n) λx hx=>by
    have h2:=(hd.mem_erase_iff).1 hx;have:=h x h2.2;omega
   rw [List.length_erase_of_mem hn] at h1;omega
  ·have:=o7 n l hd λx hx=>by
    have h2:=h x hx;have h3:x≠n:=λe=>hn (e▸hx)
    omega
   omega
structure QI (sc:Nat->List Nat) (a n:Nat) (Q:List Nat) (k:Nat):Prop where
 nd:Q.Nodup
 lt:∀x∈Q,x<n
 rc:∀x∈Q,Rch sc a x
 st:∀j∈sc a,j∈Q
 dn:∀i q,i<k->Q[i]?=some q->q≠a/\∀j∈sc q,j∈Q
theorem QI.len {sc:Nat->List Nat} {a n:Nat} {Q:List Nat} {k:Nat} (h:QI sc a n Q k):Q.length<=n:=o7 n Q h.nd h.lt
theorem QI.all {sc:Nat->List Nat} {a n:Nat} {Q:List Nat} (h:QI sc a n Q Q.length):¬Rch sc a a:=by
 have key:∀x,Rch sc a x->x∈Q:=λx hx=>by
  induction hx with
  |one h1=>exact h.st _ h1
  |more h1 h2 ih=>
   obtain ⟨i,hi,e⟩:=List.mem_iff_getElem.1 ih;exact (h.dn i _ hi (by rw [zh hi,e])).2 _ h2
 intro hr;obtain ⟨i,hi,e⟩:=List.mem_iff_getElem.1 (key a hr);exact (h.dn i _ hi (by rw [zh hi,e])).1 rfl
theorem QI.next {sc:Nat->List Nat} {a n:Nat} {Q:List Nat} {k q:Nat} (h:QI sc a n Q k) (hq:Q[k]?=some q) (hne:q≠a) (hs:∀j∈sc q,j<n):QI sc a n (PL Q (sc q)) (k+1):=by
 have hk:=(zamJ.1 hq).1;have hm:=aC hq;refine ⟨Tx _ _ h.nd,λx hx=>?_,λx hx=>?_,λj hj=>(LO _ _).2 (.inl (h.st j hj)),λi r hi hr=>?_⟩
 ·rcases (LO _ _).1 hx with hx|hx
  ·exact h.lt x hx
  ·exact hs x hx
 ·rcases (LO _ _).1 hx with hx|hx
  ·exact h.rc x hx
  ·exact .more (h.rc q hm) hx
 ·rw [Sp _ _ i (by omega)] at hr;by_cases e:i=k
  ·subst e;rw [hq] at hr;cases hr;exact ⟨hne,λj hj=>(LO _ _).2 (.inr hj)⟩
  ·obtain ⟨h1,h2⟩:=h.dn i r (by omega) hr;exact ⟨h1,λj hj=>(LO _ _).2 (.inl (h2 j hj))⟩
theorem QI.start {sc:Nat->List Nat} {a n:Nat} (hd:(sc a).Nodup) (hs:∀j∈sc a,j<n):QI sc a n (sc a) 0:=⟨hd,hs,λx hx=> .one hx,λj hj=>hj,λi q hi=>absurd hi (Nat.not_lt_zero i)⟩
structure MI (sc:Nat->List Nat) (a n:Nat) (met:List Bool) (Q:List Nat) (k:Nat):Prop where
 ln:met.length=n
 kl:k<=Q.length
 lt:∀x∈Q,x<n
 rc:∀x∈Q,Rch sc a x
 st:∀j∈sc a,j∈Q
 mt:∀i,met[i]?=some true->∀j∈sc i,j∈Q
 dn:∀i q,i<k->Q[i]?=some q->q≠a/\met[q]?=some true
theorem MI.all {sc:Nat->List Nat} {a n:Nat} {met:List Bool} {Q:List Nat} (h:MI sc a n met Q Q.length):¬Rch sc a a:=by
 have key:∀x,Rch sc a x->x∈Q:=λx hx=>by
  induction hx with
  |one h1=>exact h.st _ h1
  |more h1 h2 ih=>
   obtain ⟨i,hi,e⟩:=List.mem_iff_getElem.1 ih;exact h.mt _ (h.dn i _ hi (by rw [zh hi,e])).2 _ h2
 intro hr;obtain ⟨i,hi,e⟩:=List.mem_iff_getElem.1 (key a hr);exact (h.dn i _ hi (by rw [zh hi,e])).1 rfl
theorem MI.start {sc:Nat->List Nat} {a n:Nat} (hs:∀j∈sc a,j<n):MI sc a n (List.replicate n false) (sc a) 0:=⟨by simp,Nat.zero_le _,hs,λx hx=> .one hx,λj hj=>hj,λi hi=>by
 obtain ⟨h1,h2⟩:=zamJ.1 hi;simp at h2,λi q hi=>absurd hi (Nat.not_lt_zero i)⟩
inductive Tch (bs:Nat->Prop) (sc:Nat->List Nat):Nat->Prop
 |zero {i:Nat}:bs i->Tch bs sc i
 |lean {i k:Nat}:k∈sc i->Tch bs sc k->Tch bs sc i
structure TI (bs:Nat->Prop) (sc:Nat->List Nat) (n:Nat) (o:List Bool):Prop where
 ln:o.length=n
 ok:∀i,o[i]?=some true->Tch bs sc i
 st:∀i,i<n->bs i->o[i]?=some true
theorem TI.set {bs:Nat->Prop} {sc:Nat->List Nat} {n:Nat} {o:List Bool} (h:TI bs sc n o) {i k:Nat} (hk:k∈sc i) (ho:o[k]?=some true):TI bs sc n (o.set i true):=by
 refine ⟨by rw [List.length_set];exact h.ln,λj hj=>?_,λj hj hb=>?_⟩
 ·by_cases e:i=j
  ·subst e;exact .lean hk (h.ok k ho)
  ·rw [List.getElem?_set_ne e] at hj;exact h.ok j hj
 ·by_cases e:i=j
  ·subst e;exact List.getElem?_set_self (by rw [h.ln];exact hj)
  ·rw [List.getElem?_set_ne e];exact h.st j hj hb
theorem TI.all {bs:Nat->Prop} {sc:Nat->List Nat} {n:Nat} {o:List Bool} (h:TI bs sc n o) (hn:∀i,∀k∈sc i,k<n) (hc:∀i,i<n->∀k∈sc i,o[k]?=some true->o[i]?=some true) {i:Nat} (hi:i<n):o[i]?=some true↔Tch bs sc i:=by
 refine ⟨h.ok i,λht=>?_⟩
 induction ht with
 |zero hb=>exact h.st _ hi hb
 |lean hk _ ih=>exact hc _ hi _ hk (ih (hn _ _ hk))
structure SI (hr b2:Nat->Bool) (sc:Nat->List Nat) (n:Nat) (A:List Nat):Prop where
 nd:A.Nodup
 lt:∀a∈A,a<n
 ok:∀a∈A,Tch (λi=>hr i=true\/b2 i=true) sc a
theorem SI.add {hr b2:Nat->Bool} {sc:Nat->List Nat} {n:Nat} {A:List Nat} {i:Nat} (h:SI hr b2 sc n A) (hi:i<n) (h1:¬(hr i||A.contains i)=true) (h2:(b2 i||A.any λk=>(sc i).contains k)=true):SI hr b2 sc n (A++ [i]):=by
 have hn:i∉A:=λhi=>h1 (by rw [Bool.or_eq_true];exact .inr (by simpa using hi))
 refine ⟨?_,λa ha=>?_,λa ha=>?_⟩
 ·rw [List.nodup_append];refine ⟨h.nd,by simp,λa ha b hb=>?_⟩;rw [zamQ] at hb;subst hb;rintro rfl;exact hn ha
 ·rcases List.mem_append.1 ha with ha|ha
  ·exact h.lt a ha
  ·rw [zamQ] at ha;omega
 ·rcases List.mem_append.1 ha with ha|ha
  ·exact h.ok a ha
  ·rw [zamQ] at ha;subst ha;rcases Bool.or_eq_true_iff.1 h2 with hb|hb
   ·exact .zero (.inr hb)
   ·obtain ⟨k,hk,hc⟩:=List.any_eq_true.1 hb;exact .lean (by simpa using hc) (h.ok k hk)
theorem SI.all {hr b2:Nat->Bool} {sc:Nat->List Nat} {n:Nat} {A:List Nat} (h:SI hr b2 sc n A) (hn:∀i,∀k∈sc i,k<n) (hb:∀i,∀k∈sc i,hr k=true->b2 i=true)
  (hc:∀i,i<n->(b2 i||A.any λk=>(sc i).contains k)=true->(hr i||A.contains i)=true) {i:Nat} (hi:i<n):(hr i||A.contains i)=true↔Tch (λi=>hr i=true\/b2 i=true) sc i:=by
 constructor
 ·intro h1;rcases Bool.or_eq_true_iff.1 h1 with h1|h1
  ·exact .zero (.inl h1)
  ·exact h.ok i (by simpa using h1)
 ·intro ht
  induction ht with
  |zero hq=>
   rcases hq with hq|hq
   ·rw [hq];rfl
   ·exact hc _ hi (by rw [hq];rfl)
  | @lean i k hk _ ih=>
   refine hc i hi ?_;rw [Bool.or_eq_true];rcases Bool.or_eq_true_iff.1 (ih (hn _ _ hk)) with h1|h1
   ·exact .inl (hb i k hk h1)
   ·exact .inr (List.any_eq_true.2 ⟨k,by simpa using h1,by simpa using hk⟩)
theorem ZB {α:Type} {p:Nat->α->Bool}:∀{l:List α} {i j:Nat} {c:α},MM p i l=true->l[j]?=some c->p (i+j) c=true
 | [],i,j,c,h,hc=>by simp at hc
 |a::l,i,0,c,h,hc=>by
  unfold MM at h;rw [zL] at h;simp only [List.getElem?_cons_zero,zS] at hc;subst hc;exact h.1
 |a::l,i,j+1,c,h,hc=>by
  unfold MM at h;rw [zL] at h;have:=ZB h.2 (show l[j]?=some c by simpa using hc)
  rwa [show i+(j+1)=i+1+j by omega]
theorem VE {s:BA} (h:Ri s=true):s.size<=200:=by
 unfold Ri at h;rw [zL] at h;have h1:=h.1;unfold GJ at h1;split at h1
 ·cases h1
 ·rename_i hp;exact M9 (by cases hq:FT s 200 with|true=>rfl|false=>exact absurd hq hp)
theorem Ty {s:BA} (h:wrS s=true):s.size<=200:=by
 have:=VE h;rw [ze] at this;omega
structure StOk (n:Nat) (c:Sm):Prop where
 k:c.1=1\/c.1=2\/c.1=3\/c.1=4\/c.1=5
 s:c.2.2.2.1.size<=200
 m:c.1=3\/c.1=4->1<=c.2.2.2.2/\c.2.2.2.2<=n
theorem py {n i:Nat} {c:Sm} (hi:i<n) (h:stB n i c=true):StOk n c:=by
 unfold stB at h;by_cases k1:c.1=1
 ·rw [if_pos k1] at h;simp only [zL] at h;exact ⟨.inl k1,Ty h.2.1,λe=>by omega⟩
 rw [if_neg k1] at h;by_cases k2:c.1=2
 ·rw [if_pos k2] at h;simp only [zL] at h;exact ⟨.inr (.inl k2),VE h.2.1,λe=>by omega⟩
 rw [if_neg k2] at h;by_cases k3:c.1=3
 ·rw [if_pos k3] at h;simp only [zL,inZ,aG] at h;exact ⟨.inr (.inr (.inl k3)),Ty h.2.1,λe=>by omega⟩
 rw [if_neg k3] at h;by_cases k4:c.1=4
 ·rw [if_pos k4] at h;simp only [zL,inZ,aG] at h;exact ⟨.inr (.inr (.inr (.inl k4))),Ty h.2.1,λe=>by omega⟩
 rw [if_neg k4] at h;by_cases k5:c.1=5
 ·rw [if_pos k5] at h;simp only [zL] at h;exact ⟨.inr (.inr (.inr (.inr k5))),Ty h.2.1,λe=>by omega⟩
 rw [if_neg k5] at h;cases h
def Gn (k:Int):BA:=if k=1 then ⟨#[115,101,116]⟩ else if k=2 then ⟨#[112,117,116]⟩ else if k=3 then ⟨#[117,110,108,101,115,115]⟩ else if k=4 then ⟨#[119,104,105,108,101]⟩ else ⟨#[97,98,111,114,116]⟩
def IR (c:Sm):BA:=if c.1=1\/c.1=2 then EF c.2.1 c.2.2.1 false false++⟨#[32]⟩ else if c.1=5 then ⟨#[]⟩ else Gk c.2.2.2.2++⟨#[32]⟩
def stT (c:Sm):BA:=(Gn c.1++⟨#[32]⟩)++(IR c++(c.2.2.2.1++⟨#[10]⟩))
def mcx (l:List Sm):BA:=l.foldl (λt c=>t++stT c) ⟨#[]⟩
theorem XS {l:List Sm} {i:Nat} {c:Sm} (h:l[i]?=some c):mcx (l.take (i+1))=mcx (l.take i)++stT c:=by
 unfold mcx;rw [List.take_add_one,h,List.foldl_append];rfl
theorem XT (k:Int):(Gn k).size<=6:=by
 unfold Gn;split
 ·decide
 ·split
  ·decide
  ·split
   ·decide
   ·split<;>decide
theorem YU {n:Nat} {c:Sm} (h:StOk n c) (hn:n<=30):(IR c).size<=31:=by
 unfold IR;split
 ·rw [ze];have:=G7 c.2.1 c.2.2.1 false false;show _+1<=31;omega
 ·split
  ·decide
  ·rename_i k1 k5;have hm:=h.m (by have:=h.k;omega);have:=HC (x:=c.2.2.2.2) (by omega);rw [ze];show _+1<=31;omega
theorem fy {n:Nat} {c:Sm} (h:StOk n c) (hn:n<=30):(stT c).size<=300:=by
 have h1:=XT c.1;have h2:=YU h hn;have h3:=h.s;unfold stT;simp only [ze];show _+1+(_+(_+1))<=300;omega
theorem Tz {l:List Sm} (h:∀c∈l,StOk l.length c) (hn:l.length<=30):∀i,i<=l.length->(mcx (l.take i)).size<=300*i:=by
 intro i
 induction i with
 |zero=>intro _;exact zH _
 |succ i ih=>
  intro hi;have hg:=zh (l:=l) (i:=i) (by omega);rw [XS hg,ze];have h1:=ih (by omega);have h2:=fy (h _ (List.getElem_mem (by omega:i<l.length))) hn;omega
theorem WI (l:List Sm):mcx (l.take l.length)=mcx l:=by rw [List.take_length]
theorem NA {l:List Sm} (h:GK l=true):l.length<=30/\∀c∈l,StOk l.length c:=by
 unfold GK at h;rw [zL,aG] at h;refine ⟨by omega,λc hc=>?_⟩;obtain ⟨j,hj⟩:=List.getElem?_of_mem hc;have h1:=ZB h.1 hj;rw [Nat.zero_add] at h1;exact py (zamJ.1 hj).1 h1
def WB (t:BA):RW:=t.data.toList.map byR
theorem Zx (t:BA):(WB t).length=t.size:=by
 unfold WB;rw [zamV];exact Array.length_toList
theorem gb (t s:BA):WB (t++s)=WB t++s.data.toList.map byR:=by
 unfold WB;rw [IM,List.map_append]
theorem Zy:∀l:LBy,uA (l.map byR)=true/\bytesOf (l.map byR)=some l
 | []=>⟨rfl,rfl⟩
 |c::l=>by
  obtain ⟨h1,h2⟩:=Zy l;have hc:c.toNat<256:=c.toNat_lt
  constructor
  ·unfold uA at h1⊢;rw [zanE,zanC,h1,Bool.and_true];exact zC ⟨by omega,by omega⟩
  ·rw [zanE];show (bytesOf (l.map byR)).map (UInt8.ofNat ((c.toNat:Int)).toNat:: ·)=_;rw [h2,cT,zamW,UInt8.ofNat_toNat]
theorem bw (t s:BA) (q:Nat) (h:t.size+s.size<=100000000):qn (q+1) s t.size (WB t)=some ((s.size:Int),(t++s).size,WB (t++s)):=by
 show zY s t.size (WB t)=_;unfold zY;rw [if_pos ⟨(Zx t).symm,by omega⟩,ze,gb]
theorem bs (t:BA) (q:Nat):Gf (q+1) t.size (WB t)=some (t,[]):=by
 show zk t.size (WB t)=_;unfold zk;obtain ⟨h1,h2⟩:=Zy t.data.toList;rw [if_pos ⟨(Zx t).symm,h1⟩];show (bytesOf (t.data.toList.map byR)).map _=_;rw [h2,zamW]
theorem mf {k:Int} (h:k=1\/k=2\/k=3\/k=4\/k=5) (q:Nat):Js (q+1) k=some (Gn k):=by
 rcases h with rfl|rfl|rfl|rfl|rfl<;>rfl
theorem szd {x y:BA} {a b:Nat} (hx:x.size<=a) (hy:y.size<=b) (hab:a+b<=9223372036854775807):decide (x.size+y.size<=9223372036854775807)=true:=zC (by omega)
theorem sza {x y:BA} {a b:Nat} (hx:x.size<=a) (hy:y.size<=b):(x++y).size<=a+b:=by rw [ze];omega
theorem P1:(⟨#[32]⟩:BA).size<=1:=zH _
theorem o8:(⟨#[10]⟩:BA).size<=1:=zH _
theorem o9 (a b:Int):Ev (I4 · a b) (EF a b false false):=Oh (IQ (R:=λn=>Mw n a b) (qx (Hn a b false false) (qv rfl)) λn=>rfl)
theorem Nh (l:List Sm) (hl:l.length<=30) (hs:∀c∈l,StOk l.length c):Ev (JJ · (l.map q8)) (mcx l):=by
 obtain ⟨n1,h1⟩:=FJ (F:=λ(c:Sm) n=>I4 n c.2.1 c.2.2.1) (f:=λc=>EF c.2.1 c.2.2.1 false false) l λc _=>o9 _ _
 obtain ⟨n2,h2⟩:=FJ (F:=λ(c:Sm) n=>if c.1=3\/c.1=4 then FH n c.2.2.2.2 else some (Gk c.2.2.2.2)) (f:=λc=>Gk c.2.2.2.2) l λc hc=>by
  by_cases hk:c.1=3\/c.1=4
  ·have hm:=(hs c hc).m hk;simp only [if_pos hk];exact Jt _ (by omega)
  ·simp only [if_neg hk];exact ⟨0,λn _=>rfl⟩
 refine ⟨n1+n2+l.length+5,λn hn=>?_⟩;obtain ⟨m,rfl,hm⟩:=up1 hn;obtain ⟨q,rfl⟩:∃q,m=q+1:=⟨m-1,by omega⟩;have h:=cq (B:=Ja (q+1)) (λi=>(l.map q8,((l.map q8).length:Int),(i:Int),(mcx (l.take i)).size,WB (mcx (l.take i)))) l (λ_ _=>none) ((mcx l).size,WB (mcx l))
  (λi c he=>by
   have hi:=(zamJ.1 he).1;have hmem:=aC he;obtain ⟨a1,a2⟩:=VD (k:=(i:Int)) rfl (bc (enc:=q8) he);have h1:=h1 (q+1) (by omega) c hmem;have h2:=h2 (q+1) (by omega) c hmem;have hk:=hs c hmem;have hz:=Tz hs hl i (by omega);have hw:=mf hk.k q;have zw:=XT c.1;have zm:=YU hk hl;have zs:=hk.s;have w:IntKind.i64.wrap ((i:Int)+1)=((i+1:Nat):Int):=by rw [ql (by omega)];omega
   have e:=XS he;have zz:=sza zw P1;have zt:=sza zs o8;generalize mcx (l.take i)=t at*
   have b1:=bw t (Gn c.1++⟨#[32]⟩) q (by omega);have z1:(t++(Gn c.1++⟨#[32]⟩)).size<=9100:=by rw [ze];omega
   have b2:=bw (t++(Gn c.1++⟨#[32]⟩)) (IR c) q (by omega);have z2:(t++(Gn c.1++⟨#[32]⟩)++IR c).size<=9200:=by rw [ze];omega
   have b3:=bw (t++(Gn c.1++⟨#[32]⟩)++IR c) (c.2.2.2.1++⟨#[10]⟩) q (by omega);have e2:t++(Gn c.1++⟨#[32]⟩)++IR c++(c.2.2.2.1++⟨#[10]⟩)=mcx (l.take (i+1)):=by
    rw [e,stT,ByteArray.append_assoc,ByteArray.append_assoc]
   rw [e2] at b3;have em0:IR c=⟨#[]⟩->t++(Gn c.1++⟨#[32]⟩)++IR c=t++(Gn c.1++⟨#[32]⟩):=λh=>by rw [h];exact ByteArray.append_empty
   refine qb (zC (by simpa using hi)) (qb a1 (qa a2 (qb rfl (qa rfl (qa rfl (qa rfl (qa rfl (qa rfl (qa hw (qb (szd zw P1 (by decide)) (qa b1 ?_)))))))))));dsimp only;rw [w];have dt:=szd zs o8 (by decide);rcases hk.k with k|k|k|k|k
   ·have em:EF c.2.1 c.2.2.1 false false++⟨#[32]⟩=IR c:=by unfold IR;rw [if_pos (.inl k)]
    refine qb (zanG.2 k) (qa h1 (qb (szd (G7 _ _ _ _) P1 (by decide)) ?_));rw [em];exact qa b2 (qb dt (qa b3 rfl))
   ·have em:EF c.2.1 c.2.2.1 false false++⟨#[32]⟩=IR c:=by unfold IR;rw [if_pos (.inr k)]
    refine qc (nb (by omega)) (qb (zanG.2 k) (qa h1 (qb (szd (G7 _ _ _ _) P1 (by decide)) ?_)));rw [em];exact qa b2 (qb dt (qa b3 rfl))
   ·have em:Gk c.2.2.2.2++⟨#[32]⟩=IR c:=by unfold IR;rw [if_neg (by omega),if_neg (by omega)]
    have hm:=hk.m (.inl k);simp only [if_pos (show c.1=3\/c.1=4 from .inl k)] at h2;refine qc (nb (by omega)) (qc (nb (by omega)) (qb (zanG.2 k) (qa h2 (qb (szd (HC (by omega)) P1 (by decide)) ?_))));rw [em];exact qa b2 (qb dt (qa b3 rfl))
   ·have em:Gk c.2.2.2.2++⟨#[32]⟩=IR c:=by unfold IR;rw [if_neg (by omega),if_neg (by omega)]
    have hm:=hk.m (.inr k);simp only [if_pos (show c.1=3\/c.1=4 from .inr k)] at h2;refine qc (nb (by omega)) (qc (nb (by omega)) (qc (nb (by omega)) (qb (zanG.2 k) (qa h2 (qb (szd (HC (by omega)) P1 (by decide)) ?_)))));rw [em];exact qa b2 (qb dt (qa b3 rfl))
   ·have em:IR c=⟨#[]⟩:=by unfold IR;rw [if_neg (by omega),if_pos k]
    rw [em0 em] at b3;exact qc (nb (by omega)) (qc (nb (by omega)) (qc (nb (by omega)) (qc (nb (by omega)) (qb dt (qa b3 rfl))))))
  (qc (aA (by simp)) (by rw [WI];rfl)) (q+1) (by omega)
 rw [Oi] at h;refine qa h ?_;exact qa (bs (mcx l) q) rfl
theorem Kv (l:List Sm) (hb:l.length<=140737488351232) (hs:∀c∈l,c.2.2.2.1.size<=140737488351232):Ev (IL · (l.map q8)) (if GK l=true then mcx l else ⟨#[]⟩):=by
 have hM:=If l hb hs;refine Oh (IQ (R:=λn=>LG n (l.map q8)) (qx hM ?_) λn=>rfl);cases hB:GK l with
 |false=>exact EB rfl (qv rfl)
 |true=>
  rw [if_pos rfl];obtain ⟨hl,hk⟩:=NA hB;obtain ⟨n1,h1⟩:=FJ (F:=λ(c:Sm) n=>q9 n c.2.1 c.2.2.1 false false) (f:=λc=>EF c.2.1 c.2.2.1 false false) l λc _=>GD _ _ _ _
  obtain ⟨n2,h2⟩:=FJ (F:=λ(c:Sm) n=>if c.1=3\/c.1=4 then D3 n c.2.2.2.2 else some (Gk c.2.2.2.2)) (f:=λc=>Gk c.2.2.2.2) l λc hc=>by
   by_cases hq:c.1=3\/c.1=4
   ·have hm:=(hk c hc).m hq;simp only [if_pos hq];exact G6 _ (by omega)
   ·simp only [if_neg hq];exact ⟨0,λn _=>rfl⟩
  refine D8 rfl (qx (r:=mcx l) ⟨n1+n2+l.length+5,λm hm=>?_⟩ (qv rfl));have h:=cq (B:=Jb m) (λi=>(l.map q8,mcx (l.take i),(i:Int))) l (λ_ _=>none) (mcx l)
   (λi c he=>by
    have hi:=(zamJ.1 he).1;have hmem:=aC he;obtain ⟨a1,a2⟩:=VD (k:=(i:Int)) rfl (bc (enc:=q8) he);have h1:=h1 m (by omega) c hmem;have h2:=h2 m (by omega) c hmem;have hk:=hk c hmem;have hz:=Tz (λc hc=>(NA hB).2 c hc) hl i (by omega);have zs:=hk.s;have w:IntKind.i64.wrap ((i:Int)+1)=((i+1:Nat):Int):=by rw [ql (by omega)];omega
    have e:=XS he;generalize mcx (l.take i)=t at*
    have zt:t.size<=9000:=by omega
    refine qb (zC (by simpa using hi)) (qb a1 (qa a2 (qb rfl (qa rfl (qa rfl (qa rfl (qa rfl (qa rfl (qa h1 ?_)))))))));dsimp only;rw [w,e];have zp:=G7 c.2.1 c.2.2.1 false false;have fin:∀{x:BA} {k:Int},Gn c.1++⟨#[32]⟩=x->∀{y:BA},y++⟨#[32]⟩=IR c->t++x++y++⟨#[32]⟩++c.2.2.2.1++⟨#[10]⟩=t++stT c:=fun {x k} h1 {y} h2=>by
     rw [stT,h1,<-h2];simp only [ByteArray.append_assoc]
    rcases hk.k with k|k|k|k|k
    ·have em:EF c.2.1 c.2.2.1 false false++⟨#[32]⟩=IR c:=by unfold IR;rw [if_pos (.inl k)]
     have ew:Gn c.1++⟨#[32]⟩=(⟨#[115,101,116,32]⟩:BA):=by rw [k];rfl
     have z4:(⟨#[115,101,116,32]⟩:BA).size<=4:=zH _;refine qb (zanG.2 k) (qb (szd zt z4 (by decide)) (qb (szd (sza zt z4) zp (by decide)) (qb (szd (sza (sza zt z4) zp) P1 (by decide)) (qb (szd (sza (sza (sza zt z4) zp) P1) zs (by decide)) (qb (szd (sza (sza (sza (sza zt z4) zp) P1) zs) o8 (by decide)) ?_)))));rw [fin (k:=0) ew em];rfl
    ·have em:EF c.2.1 c.2.2.1 false false++⟨#[32]⟩=IR c:=by unfold IR;rw [if_pos (.inr k)]
     have ew:Gn c.1++⟨#[32]⟩=(⟨#[112,117,116,32]⟩:BA):=by rw [k];rfl
     have z4:(⟨#[112,117,116,32]⟩:BA).size<=4:=zH _;refine qc (nb (by omega)) (qb (zanG.2 k) (qb (szd zt z4 (by decide)) (qb (szd (sza zt z4) zp (by decide)) (qb (szd (sza (sza zt z4) zp) P1 (by decide)) (qb (szd (sza (sza (sza zt z4) zp) P1) zs (by decide)) (qb (szd (sza (sza (sza (sza zt z4) zp) P1) zs) o8 (by decide)) ?_))))));rw [fin (k:=0) ew em];rfl
    ·have em:Gk c.2.2.2.2++⟨#[32]⟩=IR c:=by unfold IR;rw [if_neg (by omega),if_neg (by omega)]
     have hm:=hk.m (.inl k);have zp:=HC (x:=c.2.2.2.2) (by omega);have ew:Gn c.1++⟨#[32]⟩=(⟨#[117,110,108,101,115,115,32]⟩:BA):=by rw [k];rfl
     have z4:(⟨#[117,110,108,101,115,115,32]⟩:BA).size<=7:=zH _;simp only [if_pos (show c.1=3\/c.1=4 from .inl k)] at h2;refine qc (nb (by omega)) (qc (nb (by omega)) (qb (zanG.2 k) (qb (szd zt z4 (by decide)) (qa h2 (qb (szd (sza zt z4) zp (by decide)) (qb (szd (sza (sza zt z4) zp) P1 (by decide)) (qb (szd (sza (sza (sza zt z4) zp) P1) zs (by decide)) (qb (szd (sza (sza (sza (sza zt z4) zp) P1) zs) o8 (by decide)) ?_))))))));rw [fin (k:=0) ew em];rfl
    ·have em:Gk c.2.2.2.2++⟨#[32]⟩=IR c:=by unfold IR;rw [if_neg (by omega),if_neg (by omega)]
     have hm:=hk.m (.inr k);have zp:=HC (x:=c.2.2.2.2) (by omega);have ew:Gn c.1++⟨#[32]⟩=(⟨#[119,104,105,108,101,32]⟩:BA):=by rw [k];rfl
     have z4:(⟨#[119,104,105,108,101,32]⟩:BA).size<=6:=zH _;simp only [if_pos (show c.1=3\/c.1=4 from .inr k)] at h2;refine qc (nb (by omega)) (qc (nb (by omega)) (qc (nb (by omega)) (qb (zanG.2 k) (qb (szd zt z4 (by decide)) (qa h2 (qb (szd (sza zt z4) zp (by decide)) (qb (szd (sza (sza zt z4) zp) P1 (by decide)) (qb (szd (sza (sza (sza zt z4) zp) P1) zs (by decide)) (qb (szd (sza (sza (sza (sza zt z4) zp) P1) zs) o8 (by decide)) ?_)))))))));rw [fin (k:=0) ew em];rfl
    ·have em:IR c=⟨#[]⟩:=by unfold IR;rw [if_neg (by omega),if_pos k]
     have ew:Gn c.1++⟨#[32]⟩=(⟨#[97,98,111,114,116,32]⟩:BA):=by rw [k];rfl
     have z4:(⟨#[97,98,111,114,116,32]⟩:BA).size<=6:=zH _;have e3:t++⟨#[97,98,111,114,116,32]⟩++c.2.2.2.1++⟨#[10]⟩=t++stT c:=by
      rw [stT,ew,em];have e4:(⟨#[]⟩:BA)++(c.2.2.2.1++⟨#[10]⟩)=c.2.2.2.1++⟨#[10]⟩:=ByteArray.empty_append;rw [e4];simp only [ByteArray.append_assoc]
     refine qc (nb (by omega)) (qc (nb (by omega)) (qc (nb (by omega)) (qc (nb (by omega)) (qb (zanG.2 k) (qb (szd zt z4 (by decide)) (qb (szd (sza zt z4) zs (by decide)) (qb (szd (sza (sza zt z4) zs) o8 (by decide)) ?_)))))));rw [e3];rfl)
   (qc (aA (by simp)) (by rw [WI];rfl)) m (by omega)
  rw [Oi] at h;exact h
theorem Ni (l:List Sm) (hb:l.length<=140737488351232) (hs:∀c∈l,c.2.2.2.1.size<=140737488351232):Ev (IJ · (l.map q8)) (if GK l=true then mcx l else ⟨#[]⟩):=by
 refine Oh (IQ (R:=λn=>LB n (l.map q8)) (qx (Lz l hb hs) ?_) λn=>rfl);cases hB:GK l with
 |false=>exact EB rfl (qv rfl)
 |true=>
  rw [if_pos rfl];obtain ⟨hl,hk⟩:=NA hB;exact D8 rfl (qx (Nh l hl hk) (qv rfl))
def Sml (x:Int):Prop:=1<=x/\x<=1000000000
theorem Sml.dec {x:Int} (h:Sml x):(Gk x).size<=20:=HC (by unfold Sml at h;omega)
structure VerT (v:Vs):Prop where
 id:Sml v.1
 up:∀u∈v.2.1,Sml u
 un:v.2.1.length<=2
 cn:v.2.2.length<=120
 cs:∀c∈v.2.2,c.2.2.size<=200
structure BrT (b:Br):Prop where
 id:Sml b.2
 nm:b.1.size<=12
structure MA (A:RW) (e:List PV) (len i:Nat) (ks D:RW):Prop where
 maL:A.length=len
 maG:A[i]?=some e
 maN:e.length=14
 maK:e[13]?=some (.ls ks)
 maD:A.drop (i+1)=D
 maT:i<len
theorem MA.next {A:RW} {e:List PV} {len i:Nat} {ks D:RW} (h:MA A e len i ks D) {o:Nat} {x:PV} (ho:o<13):MA (A.set ((i:Nat):Int).toNat (zb e o [x])) (zb e o [x]) len i ks D:=by
 have hl:i<A.length:=by rw [h.maL];exact h.maT
 have hs:o+ [x].length<=e.length:=by rw [h.maN];simp;omega
 rw [cT];refine ⟨by rw [List.length_set];exact h.maL,List.getElem?_set_self hl,by rw [zu _ _ _ hs];exact h.maN,?_,?_,h.maT⟩
 ·rw [aD _ _ _ hs,if_neg (by simp;omega)];exact h.maK
 ·rw [List.drop_set_of_lt (by omega)];exact h.maD
theorem Zz {c:UInt8}:∀l:LBy,c∉l\/∃p r,l=p++c::r/\c∉p
 | []=> .inl (by simp)
 |a::l=>by
  by_cases h:a=c
  ·exact .inr ⟨[],l,by rw [h];rfl,by simp⟩
  ·rcases Zz (c:=c) l with h1|⟨p,r,h1,h2⟩
   ·exact .inl (by simp [Ne.symm h,h1])
   ·exact .inr ⟨a::p,r,by rw [h1];rfl,by simp [Ne.symm h,h2]⟩
theorem p7 {c:UInt8}:∀{p r:LBy},c∉p->Lib.index (p++c::r) [c]=(p.length:Int)
 | [],r,h=>by
  show Lib.index (c::r) [c]=0;unfold Lib.index;simp [List.isPrefixOf]
 |a::p,r,h=>by
  simp only [zamT,not_or] at h;have h1:=p7 (r:=r) h.2;show Lib.index (a::(p++c::r)) [c]=_;unfold Lib.index;have:List.isPrefixOf [c] (a::(p++c::r))=false:=by simp [List.isPrefixOf,h.1]
  rw [this,h1];simp
theorem gh {c:UInt8}:∀{p:LBy},c∉p->Lib.index p [c]= -1
 | [],h=>rfl
 |a::p,h=>by
  simp only [zamT,not_or] at h;have h1:=gh h.2;unfold Lib.index;have:List.isPrefixOf [c] (a::p)=false:=by simp [List.isPrefixOf,h.1]
  rw [this,h1];rfl
def IZ:LBy->LBy×LBy
 | []=>([],[])
 |c::r=>if c=32 then ([],r) else (c::(IZ r).1,(IZ r).2)
theorem WJ:∀{p r:LBy},(32:UInt8)∉p->IZ (p++32::r)=(p,r)
 | [],r,h=>rfl
 |a::p,r,h=>by
  simp only [zamT,not_or] at h;show IZ (a::(p++32::r))=_;unfold IZ;rw [if_neg (Ne.symm h.1),WJ h.2]
theorem bd:∀{p:LBy},(32:UInt8)∉p->IZ p=(p,[])
 | [],h=>rfl
 |a::p,h=>by
  simp only [zamT,not_or] at h;unfold IZ;rw [if_neg (Ne.symm h.1),bd h.2]
theorem oc (l:LBy):(Lib.cut l [32]).1=(IZ l).1/\(Lib.cut l [32]).2.1=(IZ l).2:=by
 rcases Zz (c:=32) l with h|⟨p,r,rfl,h⟩
 ·have h1:=gh h;unfold Lib.cut;rw [h1,if_neg (by decide),bd h];exact ⟨rfl,rfl⟩
 ·have h1:=p7 (r:=r) h;unfold Lib.cut;rw [h1,if_pos (by omega),WJ h];simp
def EH (s:BA):BA×BA:=(⟨(IZ s.toList).1.toArray⟩,⟨(IZ s.toList).2.toArray⟩)
theorem Z0:∀l:LBy,(IZ l).1.length<=l.length/\(IZ l).2.length<=l.length
 | []=>⟨zH _,zH _⟩
 |c::r=>by
  have:=Z0 r;unfold IZ;split
  ·exact ⟨by simp,by simp⟩
  ·simp only [zamM];omega
theorem T0 (l:LBy):(⟨l.toArray⟩:BA).size=l.length:=by show l.toArray.size=_;simp
theorem KF (s:BA):(EH s).1.size<=s.size/\(EH s).2.size<=s.size:=by
 have:=Z0 s.toList;rw [EA] at this;unfold EH;rw [T0,T0];exact this
def od (s:BA):Bool:=(Lib.cut s.data.toList [32]).2.2
theorem pz {s:BA} (hs:s.size<=1048576):bE s ⟨#[32]⟩=some ((EH s).1,(EH s).2,od s):=by
 unfold bE;rw [if_pos (by omega)];obtain ⟨h1,h2⟩:=oc s.data.toList;have e:(⟨#[32]⟩:BA).data.toList= [32]:=rfl;unfold EH od;rw [e,h1,h2,zao]
def FP:LBy->List (LBy)×LBy
 | []=>([],[])
 |c::r=>if c=10 then ([]::(FP r).1,(FP r).2) else match (FP r).1 with
  | []=>([],c::(FP r).2)
  |l::ls=>((c::l)::ls,(FP r).2)
theorem XU:∀{l r:LBy},(10:UInt8)∉l->FP (l++10::r)=(l::(FP r).1,(FP r).2)
 | [],r,h=>rfl
 |a::l,r,h=>by
  simp only [zamT,not_or] at h;have e:FP (a::(l++10::r))=match (FP (l++10::r)).1 with
   | []=>([],a::(FP (l++10::r)).2)
   |x::ls=>((a::x)::ls,(FP (l++10::r)).2):=by
   conv=>lhs;unfold FP
   rw [if_neg (Ne.symm h.1)]
  rw [XU h.2] at e;exact e
def unl (ls:List (LBy)):LBy:=ls.flatMap λl=>l++ [10]
theorem XV:∀{ls:List (LBy)},(∀l∈ls,(10:UInt8)∉l)->FP (unl ls)=(ls,[])
 | [],_=>rfl
 |l::ls,h=>by
  have e:unl (l::ls)=l++10::unl ls:=by simp [unl]
  rw [e,XU (h l (zamN ..)),XV λx hx=>h x (zamR _ hx)]
theorem XW:∀{ls:List (LBy)} {k:Nat},(∀l∈ls,(10:UInt8)∉l)->ls.length<=k->Lib.splitK [10] 0 k (unl ls)=ls++ [[]]
 | [],0,_,_=>rfl
 | [],k+1,_,_=>rfl
 |l::ls,0,_,h=>by simp at h
 |l::ls,k+1,hl,h=>by
  have e:unl (l::ls)=l++10::unl ls:=by simp [unl]
  have h1:=p7 (r:=unl ls) (hl l (zamN ..));have ih:=XW (k:=k) (λx hx=>hl x (zamR _ hx)) (by simpa using h);unfold Lib.splitK;rw [e,h1,if_neg (by simp),cT];have e1:(l++10::unl ls).take (l.length+0)=l:=by simp
  have e2:(l++10::unl ls).drop (l.length+ [(10:UInt8)].length)=unl ls:=by
   rw [show l++10::unl ls=(l++ [10])++unl ls by simp];exact List.drop_left' (by simp)
  rw [e1,e2,ih];rfl
def mkB (l:LBy):BA:=⟨l.toArray⟩
theorem NB (l:LBy):(mkB l).toList=l:=Eg l
theorem Oj (s:BA):mkB s.toList=s:=HU (Eg _)
def plS (s:BA):List BA:=(Lib.splitB ⟨#[10]⟩ 0 (min 32 (s.size+1)-1) s).dropLast
theorem p8 (k:Nat) (s:BA):Lib.splitB ⟨#[10]⟩ 0 k s=(Lib.splitK [10] 0 k s.toList).map mkB:=by
 have h:=Lib.splitB_data ⟨#[10]⟩ 0 k s;have e:(⟨#[10]⟩:BA).data.toList= [10]:=rfl;rw [e,<-zao] at h;rw [<-h,List.map_map];have:(mkB∘λx:BA=>x.data.toList)=id:=funext λx=>by
  show mkB x.data.toList=x;rw [<-zao,Oj]
 rw [this,List.map_id]
theorem ku (ls:List (LBy)):ls.length<=(unl ls).length:=by
 induction ls with
 |nil=>exact zH _
 |cons l ls ih=>
  have e:unl (l::ls)=(l++ [10])++unl ls:=by simp [unl]
  rw [e,zamO,zamO];simp only [zamM,zanD];omega
theorem kv {ls:List (LBy)} {s:BA} (h:∀l∈ls,(10:UInt8)∉l) (hl:ls.length<=30) (hs:s.toList=unl ls):plS s=ls.map mkB:=by
 unfold plS;have hz:s.size=(unl ls).length:=by rw [<-hs,EA]
 have:=ku ls;rw [p8,hs,XW h (by omega),List.map_append,zanE,List.map_nil,List.dropLast_concat]
theorem bf (s:BA):(plS s).length<=31:=by
 unfold plS;have:=Lib.splitB_length_le ⟨#[10]⟩ 0 (min 32 (s.size+1)-1) s;rw [List.length_dropLast];omega
theorem YV (sep:BA):∀(k:Nat) (s:BA),∀x∈Lib.splitB sep 0 k s,x.size<=s.size
 |0,s,x,hx=>by
  rw [Lib.splitB_zero,zamQ] at hx;rw [hx];exact zH _
 |k+1,s,x,hx=>by
  unfold Lib.splitB at hx;split at hx
  ·rw [zamQ] at hx;rw [hx];exact zH _
  ·rcases zamT.1 hx with rfl|hx
   ·rw [ByteArray.size_extract];omega
   ·have:=YV sep k _ x hx;rw [ByteArray.size_extract] at this;omega
theorem oe (s:BA):∀x∈plS s,x.size<=s.size:=λx hx=>YV _ _ s x ((List.dropLast_sublist _).subset hx)
def GH (w:BA):Int:=if w.toList=(Gn 5).toList then 5 else if w.toList=(Gn 4).toList then 4 else if w.toList=(Gn 3).toList then 3 else if w.toList=(Gn 2).toList then 2 else if w.toList=(Gn 1).toList then 1 else 0
theorem mg:(Gn 1).toList= [115,101,116]/\(Gn 2).toList= [112,117,116]/\(Gn 3).toList= [117,110,108,101,115,115]/\(Gn 4).toList= [119,104,105,108,101]/\(Gn 5).toList= [97,98,111,114,116]:=by
 refine ⟨?_,?_,?_,?_,?_⟩<;>(rw [zao];rfl)
theorem Z1 (w:BA):0<=GH w/\GH w<=5:=by
 unfold GH
 repeat' split
 all_goals decide
theorem T1 {k:Int} (h:k=1\/k=2\/k=3\/k=4\/k=5):GH (Gn k)=k/\(32:UInt8)∉(Gn k).toList/\(10:UInt8)∉(Gn k).toList:=by
 obtain ⟨w1,w2,w3,w4,w5⟩:=mg;unfold GH;rw [w1,w2,w3,w4,w5];rcases h with rfl|rfl|rfl|rfl|rfl
 ·rw [w1];decide
 ·rw [w2];decide
 ·rw [w3];decide
 ·rw [w4];decide
 ·rw [w5];decide
def XX (s:BA):Int:=match zN s 10 64 with
 |some (.inl v)=>v
 |_=>0
theorem p9 {s:BA} {x:Int} (hs:s.toList=Lib.itoa x) (h: -1000000000000000<=x/\x<=1000000000000000):XX s=x:=by
 have hd:s.data.toList=Lib.itoa x:=by rw [<-zao];exact hs
 have hsz:s.size<=281474976710656:=by
  rw [<-EA,hs];unfold Lib.itoa;split
  ·have:=NU x.natAbs (by omega);simp;omega
  ·have:=NU x.toNat (by omega);omega
 unfold XX zN;rw [if_pos ⟨rfl,rfl,hsz⟩,hd,Ww h]
def rd1 (s:BA):Sm:=
 if GH (EH s).1=1\/GH (EH s).1=2 then (GH (EH s).1,(Ec (EH (EH s).2).1).1,(Ec (EH (EH s).2).1).2.1,(EH (EH s).2).2,0)
 else if GH (EH s).1=3\/GH (EH s).1=4 then (GH (EH s).1,0,0,(EH (EH s).2).2,XX (EH (EH s).2).1)
 else (GH (EH s).1,0,0,(EH s).2,0)
def rd2 (s:BA):Sm:=
 if GH (EH s).1=5 then (5,0,0,(EH s).2,0)
 else if GH (EH s).1=1\/GH (EH s).1=2 then (GH (EH s).1,(Ec (EH (EH s).2).1).1,(Ec (EH (EH s).2).1).2.1,(EH (EH s).2).2,0)
 else (GH (EH s).1,0,0,(EH (EH s).2).2,(l1I (EH (EH s).2).1.toList 2).1)
structure RtS (c:Sm):Prop where
 k:c.1=1\/c.1=2\/c.1=3\/c.1=4\/c.1=5
 s:(10:UInt8)∉c.2.2.2.1.toList
 p:c.1=1\/c.1=2->Ef c.2.1 c.2.2.1=true/\c.2.2.2.2=0
 z:¬(c.1=1\/c.1=2)->c.2.1=0/\c.2.2.1=0
 m:c.1=3\/c.1=4->1<=c.2.2.2.2/\c.2.2.2.2<=30
 q:c.1=5->c.2.2.2.2=0
theorem s7 {s:BA} (h:Ri s=true):s.toList.all okc=true:=by
 unfold Ri at h;rw [zL] at h;have h1:=h.1;unfold GJ at h1;split at h1
 ·cases h1
 ·rename_i hp;have hp:FT s 200=true:=by cases hq:FT s 200 with|true=>rfl|false=>exact absurd hq hp
  unfold FT at hp;rw [zL] at hp;exact hp.1
theorem og {l:LBy} (h:l.all okc=true):(10:UInt8)∉l:=λhm=>by
 have:=zamK.1 h _ hm;exact absurd this (by decide)
theorem bg {s:BA} (h:Ri s=true):(10:UInt8)∉s.toList:=og (s7 h)
theorem ZC {s:BA} (h:wrS s=true):(10:UInt8)∉s.toList:=λhm=>bg h (by rw [Hy];exact zamZ _ hm)
theorem rtS {n i:Nat} {c:Sm} (hn:n<=30) (hi:i<n) (h:stB n i c=true):RtS c:=by
 unfold stB at h;by_cases k1:c.1=1
 ·rw [if_pos k1] at h;simp only [zL,zanG] at h;exact ⟨.inl k1,ZC h.2.1,λ_=>⟨h.1,h.2.2⟩,λe=>absurd (.inl k1) e,λe=>by omega,λe=>by omega⟩
 rw [if_neg k1] at h;by_cases k2:c.1=2
 ·rw [if_pos k2] at h;simp only [zL,zanG] at h;exact ⟨.inr (.inl k2),bg h.2.1,λ_=>⟨h.1,h.2.2⟩,λe=>absurd (.inr k2) e,λe=>by omega,λe=>by omega⟩
 rw [if_neg k2] at h;by_cases k3:c.1=3
 ·rw [if_pos k3] at h;simp only [zL,zanG,inZ,aG] at h;exact ⟨.inr (.inr (.inl k3)),ZC h.2.1,λe=>by omega,λ_=>h.1,λ_=>by omega,λe=>by omega⟩
 rw [if_neg k3] at h;by_cases k4:c.1=4
 ·rw [if_pos k4] at h;simp only [zL,zanG,inZ,aG] at h;exact ⟨.inr (.inr (.inr (.inl k4))),ZC h.2.1,λe=>by omega,λ_=>h.1,λ_=>by omega,λe=>by omega⟩
 rw [if_neg k4] at h;by_cases k5:c.1=5
 ·rw [if_pos k5] at h;simp only [zL,zanG] at h;exact ⟨.inr (.inr (.inr (.inr k5))),ZC h.2.1,λe=>by omega,λ_=>h.1,λe=>by omega,λ_=>h.2.2⟩
 rw [if_neg k5] at h;cases h
theorem gk {l:List Sm} (h:GK l=true):l.length<=30/\∀c∈l,RtS c:=by
 unfold GK at h;rw [zL,aG] at h;refine ⟨by omega,λc hc=>?_⟩;obtain ⟨j,hj⟩:=List.getElem?_of_mem hc;have h1:=ZB h.1 hj;rw [Nat.zero_add] at h1;exact rtS (by omega) (zamJ.1 hj).1 h1
def Nj (c:Sm):LBy:=(Gn c.1).toList++(32::((IR c).toList++c.2.2.2.1.toList))
theorem l32:(⟨#[32]⟩:BA).toList= [32]:=by decide+kernel
theorem l10:(⟨#[10]⟩:BA).toList= [10]:=by decide+kernel
theorem gn (c:Sm):(stT c).toList=Nj c++ [10]:=by
 unfold stT Nj;simp only [Hy,l32,l10,List.append_assoc,List.cons_append,List.nil_append,List.singleton_append]
theorem XY {x:Int} (h:0<=x):(Gk x).toList.all Ej=true:=by
 unfold Gk;rw [Eg];unfold Lib.itoa;rw [if_neg (by omega)];exact (HV x.toNat).1
theorem ZD {l:LBy} (h:l.all Ej=true) {c:UInt8} (hc:Ej c=false):c∉l:=λhm=>by
 rw [zamK.1 h c hm] at hc;cases hc
theorem s8 {c r:Int} (h:Ef c r=true):(EF c r false false).toList=(GI c).data.toList++(Gk r).toList:=by
 rw [zao,zao];simp [EF,h]
theorem YW {c r:Int} (h:Ef c r=true) {x:UInt8} (h1:Ej x=false) (h2:J8 x=false):x∉(EF c r false false).toList:=by
 rw [s8 h];obtain ⟨hc,hr⟩:=Ji h;intro hm;rcases List.mem_append.1 hm with hm|hm
 ·rw [zamK.1 (WC hc).1 x hm] at h2;cases h2
 ·exact ZD (XY (by omega)) h1 hm
theorem Z2 {c:Sm} (h:RtS c) (h5:c.1≠5):∃w:BA,(IR c).toList=w.toList++ [32]/\(32:UInt8)∉w.toList/\(10:UInt8)∉w.toList/\
  (c.1=1\/c.1=2->w=EF c.2.1 c.2.2.1 false false)/\(c.1=3\/c.1=4->w=Gk c.2.2.2.2):=by
 by_cases hk:c.1=1\/c.1=2
 ·refine ⟨EF c.2.1 c.2.2.1 false false,?_,YW (h.p hk).1 (by decide) (by decide),YW (h.p hk).1 (by decide) (by decide),λ_=>rfl,λe=>by omega⟩;unfold IR;rw [if_pos hk,Hy,l32]
 ·have hm:=h.m (by have:=h.k;omega);refine ⟨Gk c.2.2.2.2,?_,ZD (XY (by omega)) (by decide),ZD (XY (by omega)) (by decide),λe=>absurd e hk,λ_=>rfl⟩;unfold IR;rw [if_neg hk,if_neg h5,Hy,l32]
theorem lf {c:Sm} (h:RtS c):(10:UInt8)∉Nj c:=by
 obtain ⟨_,_,w10⟩:=T1 h.k;have hm:(10:UInt8)∉(IR c).toList:=by
  by_cases h5:c.1=5
  ·unfold IR;rw [if_neg (by omega),if_pos h5,qy];simp
  ·obtain ⟨w,e,_,h10,_⟩:=Z2 h h5;rw [e];simp [h10]
 unfold Nj;simp only [List.mem_append,zamT,not_or];exact ⟨w10,by decide,hm,h.s⟩
theorem Z3 {c:Sm} (h:RtS c):EH (mkB (Nj c))=(Gn c.1,mkB ((IR c).toList++c.2.2.2.1.toList)):=by
 unfold EH;rw [NB];unfold Nj;rw [WJ (T1 h.k).2.1];exact Prod.ext (Oj _) rfl
theorem Z4 {c:Sm} (h:RtS c) (h5:c.1≠5):∃w:BA,EH (mkB ((IR c).toList++c.2.2.2.1.toList))=(w,c.2.2.2.1)/\(c.1=1\/c.1=2->w=EF c.2.1 c.2.2.1 false false)/\(c.1=3\/c.1=4->w=Gk c.2.2.2.2):=by
 obtain ⟨w,e,h32,_,hp,hd⟩:=Z2 h h5;refine ⟨w,?_,hp,hd⟩;unfold EH;rw [NB,e,List.append_assoc,List.singleton_append,WJ h32];exact Prod.ext (Oj _) (Oj _)
theorem YX {c:Sm} {a b d f:Int} {s:BA} (h1:a=c.1) (h2:b=c.2.1) (h3:d=c.2.2.1) (h4:s=c.2.2.2.1) (h5:f=c.2.2.2.2):((a,b,d,s,f):Sm)=c:=by
 subst h1;subst h2;subst h3;subst h4;subst h5;rfl
theorem mh {c:Sm} (h5:c.1=5):mkB ((IR c).toList++c.2.2.2.1.toList)=c.2.2.2.1:=by
 unfold IR;rw [if_neg (by omega),if_pos h5,qy,List.nil_append,Oj]
theorem gr {c:Sm} (h:RtS c):rd1 (mkB (Nj c))=c:=by
 unfold rd1;rw [Z3 h];simp only [(T1 h.k).1];by_cases h5:c.1=5
 ·obtain ⟨z1,z2⟩:=h.z (by omega);rw [if_neg (by omega),if_neg (by omega),mh h5];exact YX rfl z1.symm z2.symm rfl (h.q h5).symm
 ·obtain ⟨w,e,hp,hd⟩:=Z4 h h5;rw [e];by_cases hk:c.1=1\/c.1=2
  ·rw [if_pos hk];simp only;rw [hp hk,M0 (h.p hk).1];exact YX rfl rfl rfl rfl (h.p hk).2.symm
  ·have h34:c.1=3\/c.1=4:=by have:=h.k;omega
   obtain ⟨z1,z2⟩:=h.z hk;have hm:=h.m h34;rw [if_neg hk,if_pos h34];simp only;rw [hd h34,p9 (x:=c.2.2.2.2) (by unfold Gk;rw [Eg]) (by omega)];exact YX rfl z1.symm z2.symm rfl rfl
theorem gu {c:Sm} (h:RtS c):rd2 (mkB (Nj c))=c:=by
 unfold rd2;rw [Z3 h];simp only [(T1 h.k).1];by_cases h5:c.1=5
 ·obtain ⟨z1,z2⟩:=h.z (by omega);rw [if_pos h5,mh h5];exact YX h5.symm z1.symm z2.symm rfl (h.q h5).symm
 ·obtain ⟨w,e,hp,hd⟩:=Z4 h h5;rw [e,if_neg h5];by_cases hk:c.1=1\/c.1=2
  ·rw [if_pos hk];simp only;rw [hp hk,M0 (h.p hk).1];exact YX rfl rfl rfl rfl (h.p hk).2.symm
  ·have h34:c.1=3\/c.1=4:=by have:=h.k;omega
   obtain ⟨z1,z2⟩:=h.z hk;have hm:=h.m h34;rw [if_neg hk];simp only;have ed:(Gk c.2.2.2.2).toList=Lib.itoa c.2.2.2.2:=by unfold Gk;rw [Eg]
   rw [hd h34,ed,Yq (r:=c.2.2.2.2) (by omega)];exact YX rfl z1.symm z2.symm rfl rfl
theorem ct (l:List Sm):∀t:BA,(l.foldl (λt c=>t++stT c) t).toList=t.toList++unl (l.map Nj):=by
 induction l with
 |nil=>intro t;simp [unl]
 |cons c l ih=>
  intro t;rw [List.foldl_cons,ih,Hy,gn];simp [unl]
theorem gv (l:List Sm):(mcx l).toList=unl (l.map Nj):=by
 unfold mcx;rw [ct,qy,List.nil_append]
theorem Sq {l:List Sm} (h:GK l=true) {s:BA} (hs:(mcx l).toList=s.toList):(plS s).map rd1=l/\FP s.toList=(l.map Nj,[])/\((l.map Nj).map mkB).map rd2=l/\l.length<=30:=by
 obtain ⟨hl,hr⟩:=gk h;have h10:∀x∈l.map Nj,(10:UInt8)∉x:=λx hx=>by
  obtain ⟨c,hc,rfl⟩:=List.mem_map.1 hx;exact lf (hr c hc)
 have e:s.toList=unl (l.map Nj):=by rw [<-hs,gv]
 refine ⟨?_,by rw [e,XV h10],?_,hl⟩
 ·rw [kv h10 (by rw [zamV];exact hl) e,List.map_map,List.map_map]
  conv=>rhs;rw [<-List.map_id l]
  exact List.map_congr_left λc hc=>gr (hr c hc)
 ·rw [List.map_map,List.map_map]
  conv=>rhs;rw [<-List.map_id l]
  exact List.map_congr_left λc hc=>gu (hr c hc)
def rmP (s:BA):List Sm×Bool:=if GK ((plS s).map rd1)=true/\(mcx ((plS s).map rd1)).toList=s.toList then ((plS s).map rd1,true) else ([],false)
def slS (s:BA):List Sm:=((FP s.toList).1.map mkB).map rd2
def rmS (s:BA):List Sm×Bool:=if ((FP s.toList).2= []/\(FP s.toList).1.length<=30)/\(GK (slS s)=true/\(mcx (slS s)).toList=s.toList) then (slS s,true) else ([],false)
theorem re (s:BA):rmP s=rmS s:=by
 by_cases h:GK ((plS s).map rd1)=true/\(mcx ((plS s).map rd1)).toList=s.toList
 ·obtain ⟨_,h2,h3,h4⟩:=Sq h.1 h.2;have e:slS s=(plS s).map rd1:=by unfold slS;rw [h2];exact h3
  unfold rmP rmS;rw [if_pos h,e,if_pos ⟨⟨by rw [h2],by rw [h2,zamV];exact h4⟩,h⟩]
 ·unfold rmP rmS;rw [if_neg h,if_neg];rintro ⟨_,h1,h2⟩;obtain ⟨h3,_⟩:=Sq h1 h2;rw [<-h3] at h1 h2;exact h ⟨h1,h2⟩
theorem gx {s:BA} (x:Sm) (hx:x∈(rmP s).1):x.2.2.2.1.size<=200:=by
 unfold rmP at hx;split at hx
 ·rename_i h;exact ((NA h.1).2 x hx).s
 ·cases hx
theorem Z5:∀l:LBy,(IZ l).1=l.take (IZ l).1.length/\((IZ l).1.length=l.length->(IZ l).2= [])/\((IZ l).1.length<l.length->(IZ l).2=l.drop ((IZ l).1.length+1))/\(IZ l).1.length<=l.length
 | []=>⟨rfl,λ_=>rfl,λh=>by simp [IZ] at h,zH _⟩
 |c::r=>by
  obtain ⟨h1,h2,h3,h4⟩:=Z5 r;by_cases hc:c=32
  ·have e:IZ (c::r)=([],r):=by unfold IZ;rw [if_pos hc]
   rw [e];exact ⟨rfl,λh=>by simp at h,λ_=>rfl,Nat.zero_le _⟩
  ·have e:IZ (c::r)=(c::(IZ r).1,(IZ r).2):=by
    conv=>lhs;unfold IZ
    rw [if_neg hc]
   rw [e];simp only [zamM,List.take_succ_cons,List.drop_succ_cons,List.cons.injEq,true_and];exact ⟨h1,λh=>h2 (by omega),λh=>h3 (by omega),by omega⟩
theorem VV (n:Nat) (s:BA) (hb:s.size<=140737488351232):∀(r pre:LBy) (M:Nat),s.toList=pre++r->r.length+1<=M->
  zF (LI n) M (s,(pre.length:Int))=some (s,((pre.length+(IZ r).1.length:Nat):Int))
 | [],pre,M,h1,h2=>by
  obtain ⟨M,rfl⟩:∃q,M=q+1:=⟨M-1,by simp at h2;omega⟩;have hl:s.size=pre.length:=by rw [<-EA,h1];simp
  exact qe (qc (aA (by simp only;omega)) rfl)
 |c::r,pre,M,h1,h2=>by
  obtain ⟨M,rfl⟩:∃q,M=q+1:=⟨M-1,by simp at h2;omega⟩;have hl:s.size=pre.length+(r.length+1):=by rw [<-EA,h1];simp
  have hg:s.toList[pre.length]?=some c:=by rw [h1];simp
  have hw:IntKind.i64.wrap ((pre.length:Int)+1)=((pre++ [c]).length:Int):=by rw [ql (by omega)];simp
  by_cases hc:c=32
  ·have e:IZ (c::r)=([],r):=by unfold IZ;rw [if_pos hc]
   rw [e];exact qe (qb (zC (by simp only;omega)) (qb (zC (by simp)) (qa (by simpa using hg) (qc (by subst hc;rfl) rfl))))
  ·have e:IZ (c::r)=(c::(IZ r).1,(IZ r).2):=by
    conv=>lhs;unfold IZ
    rw [if_neg hc]
   have hne:((c.toNat:Int) !=32)=true:=by
    rw [bne_iff_ne];intro h;exact hc (UInt8.toNat_inj.1 (by show c.toNat=32;omega))
   rw [qm (v':=(s,((pre++ [c]).length:Int))) (qb (zC (by simp only;omega)) (qb (zC (by simp)) (qa (by simpa using hg) (qb hne (by rw [<-hw];rfl)))))];rw [VV n s hb r (pre++ [c]) M (by rw [h1];simp) (by simp at h2;omega),e];simp;omega
theorem Qx (s:BA) (hb:s.size<=1048576):Ev (Ii · s) (EH s):=by
 refine ⟨s.size+3,λn hn=>?_⟩;obtain ⟨m,rfl,hm⟩:=up1 hn;have h:=VV m s (by omega) s.toList [] m rfl (by rw [EA];omega);obtain ⟨h1,h2,h3,h4⟩:=Z5 s.toList;simp only [zanD,Nat.zero_add] at h;rw [EA] at h2 h3 h4;refine qa h ?_;generalize hk:(IZ s.toList).1.length=k at*
 by_cases he:k=s.size
 ·refine qb (zanG.2 (by simp only;omega)) ?_;have e:EH s=(s,⟨#[]⟩):=by
   unfold EH;rw [h2 he,h1,he,<-EA,List.take_length];exact Prod.ext (Oj s) rfl
  rw [e];rfl
 ·have hlt:k<s.size:=by omega
  have hw:IntKind.i64.wrap ((k:Int)+1)=((k+1:Nat):Int):=by rw [ql (by omega)];omega
  refine qc (zanF.2 (by simp only;omega)) (qb (zC (by simp only;omega)) (qb (zC (by simp only [hw];omega)) ?_));simp only [hw,qh,cT];have q1:s.extract 0 k=mkB (IZ s.toList).1:=HU (by rw [W1,NB,<-h1]);have q2:s.extract (k+1) s.size=mkB (IZ s.toList).2:=HU (by rw [Kp,NB,h3 hlt]);rw [show ((0:Int)).toNat=0 from rfl,q1,q2];rfl
def Hz:LBy->LBy->List (LBy)×LBy
 |line,[]=>([],line)
 |line,c::r=>if c=10 then (line::(Hz [] r).1,(Hz [] r).2) else Hz (line++ [c]) r
theorem VF:∀(r line:LBy),Hz line r=match (FP r).1 with
  | []=>([],line++(FP r).2)
  |l::ls=>((line++l)::ls,(FP r).2)
 | [],line=>by simp [Hz,FP]
 |c::r,line=>by
  unfold Hz FP;by_cases hc:c=10
  ·rw [if_pos hc,if_pos hc,VF r []];cases h:(FP r).1 with
   |nil=>simp
   |cons l ls=>simp
  ·rw [if_neg hc,if_neg hc,VF r (line++ [c])];cases h:(FP r).1 with
   |nil=>simp
   |cons l ls=>simp
theorem XZ (r:LBy):Hz [] r=FP r:=by
 rw [VF];cases h:(FP r).1 with
 |nil=>simp [<-h]
 |cons l ls=>simp [<-h]
def VW (l:LBy):List PV:= [.s (mkB l)]
theorem Xa:∀(r line:LBy),(∀x∈(Hz line r).1,x.length<=line.length+r.length)
 | [],line=>λx hx=>by simp [Hz] at hx
 |c::r,line=>λx hx=>by
  unfold Hz at hx;split at hx
  ·rcases zamT.1 hx with rfl|hx
   ·omega
   ·have:=Xa r [] x hx;simp only [zamM,zanD] at this⊢;omega
  ·have:=Xa r (line++ [c]) x hx;simp only [zamO,zamM,zanD] at this⊢;omega
theorem gy {s:BA} {i:Nat} {c:UInt8} (h:s.toList[i]?=some c):(s.extract i (i+1)).toList= [c]:=by
 have hi:=(zamJ.1 h).1;rw [zao] at h⊢;rw [Lib.extract_data];have:s.data.toList.drop i=c::s.data.toList.drop (i+1):=KD h
 first
 |(rw [this];simp)
 |(rw [List.drop_take,this];simp)
theorem OA (n:Nat) (s:BA) (hb:s.size<=1048576):∀(r pre line:LBy) (out:List (LBy)) (M:Nat),s.toList=pre++r->line.length<=pre.length->out.length<=pre.length->r.length+1<=M->
  zF (J6 n) M (s,out.length,mkB line,(pre.length:Int),out.map VW)=some (out.length+(Hz line r).1.length,mkB (Hz line r).2,(out++(Hz line r).1).map VW)
 | [],pre,line,out,M,h1,h2,h3,h4=>by
  obtain ⟨M,rfl⟩:∃q,M=q+1:=⟨M-1,by simp at h4;omega⟩;have hl:s.size=pre.length:=by rw [<-EA,h1];simp
  have e:Hz line []=([],line):=rfl;rw [e,List.append_nil];exact qe (qc (aA (by simp only;omega)) rfl)
 |c::r,pre,line,out,M,h1,h2,h3,h4=>by
  obtain ⟨M,rfl⟩:∃q,M=q+1:=⟨M-1,by simp at h4;omega⟩;have hl:s.size=pre.length+(r.length+1):=by rw [<-EA,h1];simp
  have hg:s.toList[pre.length]?=some c:=by rw [h1];simp
  have hw:IntKind.i64.wrap ((pre.length:Int)+1)=((pre.length+1:Nat):Int):=by rw [ql (by omega)];omega
  by_cases hc:c=10
  ·have e:Hz line (c::r)=(line::(Hz [] r).1,(Hz [] r).2):=by
    conv=>lhs;unfold Hz
    rw [if_pos hc]
   rw [qm (v':=(s,(out++ [line]).length,mkB [],((pre++ [c]).length:Int),(out++ [line]).map VW)) (qb (zC (by simp only;omega)) (qb (zC (by simp)) (qa (by simpa using hg) (qb (by subst hc;rfl) (qb rfl (qb (zC ⟨by simp,by decide,by decide,by simp;omega,rfl⟩) (by
     simp only [qh,hw,zamO,zamM,zanD,List.map_append,zanE,List.map_nil];rfl)))))))]
   rw [OA n s hb r (pre++ [c]) [] (out++ [line]) M (by rw [h1];simp) (by simp) (by simp;omega) (by simp at h4;omega),e];simp;omega
  ·have e:Hz line (c::r)=Hz (line++ [c]) r:=by
    conv=>lhs;unfold Hz
    rw [if_neg hc]
   have hne:((c.toNat:Int)==10)=false:=by
    rw [zanF];intro h;exact hc (UInt8.toNat_inj.1 (by show c.toNat=10;omega))
   have hx:mkB line++s.extract pre.length (pre.length+1)=mkB (line++ [c]):=by
    apply HU;rw [Hy,NB,NB,gy hg]
   have hz:(mkB line).size+(s.extract pre.length (pre.length+1)).size<=9223372036854775807:=by
    have:=T0 line;unfold mkB;rw [this,ByteArray.size_extract];omega
   rw [qm (v':=(s,out.length,mkB (line++ [c]),((pre++ [c]).length:Int),out.map VW)) (qb (zC (by simp only;omega)) (qb (zC (by simp)) (qa (by simpa using hg) (qc hne (qb (zC (by simp only [hw];omega)) (qb (zC (by simpa only [hw,cT] using hz)) (by
     simp only [qh,hw,cT,hx,zamO,zamM,zanD])))))))]
   rw [OA n s hb r (pre++ [c]) (line++ [c]) out M (by rw [h1];simp) (by simp;omega) (by simp;omega) (by simp at h4;omega),e]
theorem VG (s:BA) (hb:s.size<=1048576):Ev (Lv · s) ((FP s.toList).1.map VW,(FP s.toList).2== []):=by
 refine ⟨s.size+3,λn hn=>?_⟩;obtain ⟨m,rfl,hm⟩:=up1 hn;have h:=OA m s hb s.toList [] [] [] m rfl (zH _) (zH _) (by rw [EA];omega);rw [XZ] at h;simp only [zanD,Nat.zero_add,List.nil_append,List.map_nil] at h;refine qa h (qb (zC (by simp)) ?_);have e:((mkB (FP s.toList).2).toList==(⟨#[]⟩:BA).toList)=((FP s.toList).2== []):=by rw [NB,qy]
 simp only [qh,e]
theorem oh:(⟨#[115,101,116]⟩:BA).toList= [115,101,116]/\(⟨#[112,117,116]⟩:BA).toList= [112,117,116]/\(⟨#[117,110,108,101,115,115]⟩:BA).toList= [117,110,108,101,115,115]/\(⟨#[119,104,105,108,101]⟩:BA).toList= [119,104,105,108,101]/\(⟨#[97,98,111,114,116]⟩:BA).toList= [97,98,111,114,116]:=by
 refine ⟨?_,?_,?_,?_,?_⟩<;>(rw [zao])
theorem kw (w:BA):(w.toList==(⟨#[115,101,116]⟩:BA).toList)=decide (GH w=1)/\(w.toList==(⟨#[112,117,116]⟩:BA).toList)=decide (GH w=2)/\(w.toList==(⟨#[117,110,108,101,115,115]⟩:BA).toList)=decide (GH w=3)/\
  (w.toList==(⟨#[119,104,105,108,101]⟩:BA).toList)=decide (GH w=4)/\(w.toList==(⟨#[97,98,111,114,116]⟩:BA).toList)=decide (GH w=5):=by
 obtain ⟨w1,w2,w3,w4,w5⟩:=mg;obtain ⟨l1,l2,l3,l4,l5⟩:=oh;unfold GH;rw [w1,w2,w3,w4,w5,l1,l2,l3,l4,l5];generalize w.toList=l;by_cases h5:l= [97,98,111,114,116]
 ·subst h5;decide
 by_cases h4:l= [119,104,105,108,101]
 ·subst h4;decide
 by_cases h3:l= [117,110,108,101,115,115]
 ·subst h3;decide
 by_cases h2:l= [112,117,116]
 ·subst h2;decide
 by_cases h1:l= [115,101,116]
 ·subst h1;decide
 rw [if_neg h5,if_neg h4,if_neg h3,if_neg h2,if_neg h1];simp [h1,h2,h3,h4,h5]
theorem Ir {m:Nat} {acc:RW} {e:List PV} (hm:m=acc.length) (hb:m<=1000) (he:e.length=5):decide (m=acc.length/\0<5/\0<48/\(m+ [e].length)*48<=140737488355328/\ [e].all (λe=>e.length==5)=true)=true:=
 zC ⟨hm,by decide,by decide,by simp;omega,by simp [he]⟩
theorem gz {s:BA} (hb:s.size<=1048576):(rd2 s).2.2.2.1.size<=1048576:=by
 have h1:=KF s;have h2:=KF (EH s).2;unfold rd2;split
 ·simp only;omega
 ·split
  ·simp only;omega
  ·simp only;omega
theorem Z6 {α:Type} {g:α->List PV} {l:List α} {i:Nat} {a:α} (h:l[i]?=some a):(l.take (i+1)).map g=(l.take i).map g++ [g a]:=by
 rw [List.take_add_one,h,List.map_append];rfl
theorem Z7 (s:BA) (ls:List (LBy)) (hl:ls.length<=30) (hz:∀l∈ls,l.length<=1048576):Ev (λn=>zF (Hm n) n (s,ls.map VW,(0:Nat),(0:Int),([]:RW))) (s,ls.length,ls.map λl=>q8 (rd2 (mkB l))):=by
 have z1:∀l∈ls,(mkB l).size<=1048576:=λl h=>by have:=hz l h;unfold mkB;rw [T0];exact this
 have z2:∀l∈ls,(EH (mkB l)).2.size<=1048576:=λl h=>zU (KF _).2 (z1 l h)
 have z3:∀l∈ls,(EH (EH (mkB l)).2).1.size<=1048576:=λl h=>zU (KF _).1 (z2 l h)
 obtain ⟨n1,h1⟩:=FJ (F:=λ(l:LBy) n=>Ii n (mkB l)) (f:=λl=>EH (mkB l)) ls λl h=>Qx _ (z1 l h)
 obtain ⟨n2,h2⟩:=FJ (F:=λ(l:LBy) n=>Ii n (EH (mkB l)).2) (f:=λl=>EH (EH (mkB l)).2) ls λl h=>Qx _ (z2 l h)
 obtain ⟨n3,h3⟩:=FJ (F:=λ(l:LBy) n=>FA n (EH (EH (mkB l)).2).1) (f:=λl=>Ec (EH (EH (mkB l)).2).1) ls λl h=>NY _ (z3 l h)
 obtain ⟨n4,h4⟩:=FJ (F:=λ(l:LBy) n=>E8 n (EH (EH (mkB l)).2).1 2) (f:=λl=>l1I (EH (EH (mkB l)).2).1.toList 2) ls λl h=>Ij _ 2 (by decide)
 refine ⟨n1+n2+n3+n4+ls.length+5,λm hm=>?_⟩;have h:=cq (B:=Hm m) (λi=>(s,ls.map VW,i,(i:Int),(ls.take i).map λl=>q8 (rd2 (mkB l)))) ls (λ_ _=>none) (s,ls.length,ls.map λl=>q8 (rd2 (mkB l)))
  (λi l he=>by
   have hi:=(zamJ.1 he).1;have hmem:=aC he;obtain ⟨a1,a2⟩:=VD (k:=(i:Int)) rfl (bc (enc:=VW) he);have h1:=h1 m (by omega) l hmem;have h2:=h2 m (by omega) l hmem;have h3:=h3 m (by omega) l hmem;have h4:=h4 m (by omega) l hmem;have w:IntKind.i64.wrap ((i:Int)+1)=((i+1:Nat):Int):=by rw [ql (by omega)];omega
   have hacc:i=((ls.take i).map λl=>q8 (rd2 (mkB l))).length:=by simp;omega
   have hb:=Z6 (g:=λl=>q8 (rd2 (mkB l))) he;generalize ((ls.take i).map λl=>q8 (rd2 (mkB l)))=acc at*
   generalize hW:(EH (mkB l)).1=W at*
   obtain ⟨w1,w2,w3,w4,w5⟩:=kw W;have hk:=Z1 W;have r2:=λ(x:Sm) (hx:rd2 (mkB l)=x)=>(show ((ls.take (i+1)).map λl=>q8 (rd2 (mkB l)))=acc++ [q8 x] by rw [hb,hx])
   have hr:∀{k:Int},GH W=k->∀{x:Sm},(if k=5 then ((5,0,0,(EH (mkB l)).2,0):Sm) else if k=1\/k=2 then (k,(Ec (EH (EH (mkB l)).2).1).1,(Ec (EH (EH (mkB l)).2).1).2.1,(EH (EH (mkB l)).2).2,0)
    else (k,0,0,(EH (EH (mkB l)).2).2,(l1I (EH (EH (mkB l)).2).1.toList 2).1))=x->rd2 (mkB l)=x:=fun {k} h {x} hx=>by
    unfold rd2;rw [hW,h];exact hx
   refine qb (zC (by simpa using hi)) (qb a1 (qa a2 (qb rfl (qa rfl (qa h1 ?_)))));simp only [hW,w1,w2,w3,w4,w5,w];have ok:∀x:Sm,decide (i=acc.length/\0<5/\0<48/\(i+ [q8 x].length)*48<=140737488355328/\ [q8 x].all (λe=>e.length==5)=true)=true:=λx=>Ir hacc (by omega) rfl
   have k6:GH W=0\/GH W=1\/GH W=2\/GH W=3\/GH W=4\/GH W=5:=by omega
   rcases k6 with k|k|k|k|k|k
   ·rw [k];refine qb rfl (qa h2 (qa h3 (qa h4 (qc rfl (qc rfl (qc rfl (qc rfl (qc rfl (qc rfl (qc rfl (qb rfl (qb (Ir hacc (by omega) rfl) ?_))))))))))));rw [r2 _ (hr k (if_neg (by decide)))];rfl
   ·rw [k];refine qb rfl (qa h2 (qa h3 (qa h4 (qb rfl (qb rfl (qb rfl (qb (Ir hacc (by omega) rfl) ?_)))))));rw [r2 _ (hr k (if_neg (by decide)))];rfl
   ·rw [k];refine qb rfl (qa h2 (qa h3 (qa h4 (qc rfl (qb rfl (qc rfl (qb rfl (qb rfl (qb (Ir hacc (by omega) rfl) ?_)))))))));rw [r2 _ (hr k (if_neg (by decide)))];rfl
   ·rw [k];refine qb rfl (qa h2 (qa h3 (qa h4 (qc rfl (qc rfl (qc rfl (qc rfl (qb rfl (qb rfl (qb (Ir hacc (by omega) rfl) ?_))))))))));rw [r2 _ (hr k (if_neg (by decide)))];rfl
   ·rw [k];refine qb rfl (qa h2 (qa h3 (qa h4 (qc rfl (qc rfl (qc rfl (qc rfl (qc rfl (qb rfl (qb rfl (qb (Ir hacc (by omega) rfl) ?_)))))))))));rw [r2 _ (hr k (if_neg (by decide)))];rfl
   ·rw [k];refine qc rfl (qc rfl (qc rfl (qc rfl (qc rfl (qb rfl (qb rfl (qb (Ir hacc (by omega) rfl) ?_)))))));rw [r2 _ (hr k (if_pos rfl))];rfl)
  (qc (aA (by simp)) (by rw [List.take_length];rfl)) m (by omega)
 rw [Oi] at h;exact h
theorem lg (s:BA):((FP s.toList).1.map λl=>q8 (rd2 (mkB l)))=(slS s).map q8:=by
 unfold slS;rw [List.map_map,List.map_map];rfl
theorem lh (s:BA):(slS s).length=(FP s.toList).1.length:=by unfold slS;simp
theorem cu (s:BA):∀l∈(FP s.toList).1,l.length<=s.size:=λl hl=>by
 rw [<-XZ] at hl;have:=Xa s.toList [] l hl;rw [EA] at this;simpa using this
theorem s9 (s:BA) (hb:s.size<=1048576):Ev (I5 · s) ((Ec s).1,(Ec s).2.1):=Oh (IQ (R:=λn=>Mx n s) (qx (NZ s hb) (qv rfl)) λn=>rfl)
theorem Xw (s:BA) (hb:s.size<=1048576):Ev (Hj · s) (XX s):=by
 have key:∃r,zN s 10 64=some r:=by
  unfold zN;rw [if_pos ⟨rfl,rfl,by omega⟩];split<;>exact ⟨_,rfl⟩
 obtain ⟨r,hr⟩:=key;have e:Ev (Et · s 10 64) r:=⟨1,λn hn=>by
  obtain ⟨m,rfl,hm⟩:=up1 hn;exact hr⟩
 refine Oh (IQ (R:=λn=>Kh n s) (qx e ?_) λn=>rfl);unfold XX;rw [hr];rcases r with v|v
 ·exact ob (D8 rfl (qv rfl))
 ·exact nz (EB rfl (qv rfl))
theorem Z8 {s:BA} (hb:s.size<=1048576) {m:Nat} (hm:1<=m):Ig m s ⟨#[32]⟩=some ((EH s).1,(EH s).2,od s):=by
 obtain ⟨q,rfl,_⟩:=up1 hm;exact pz hb
theorem Ol {n:Nat} (hn:1<=n) {a:BA} {m:Nat} {w r:BA} {rows acc:RW} {len i j c1 c2 mn:Int} {t:BA} {k k':Int} (hk:k=1\/k=2\/k=3\/k=4\/k=5) (hk':IntKind.i64.wrap (k+1)=k'):
  (HP n (a,m,w,r,k,rows,len,i,acc,j,c1,c2,t,mn)).run=some (.inl (a,m,w,r,k',rows,len,i,acc,(if w.toList=(Gn k).toList then k else j),c1,c2,t,mn)):=by
 obtain ⟨q,rfl,_⟩:=up1 hn;refine qb (zC (by simp only;omega)) (qa (mf hk q) ?_);rw [<-hk'];by_cases h:w.toList=(Gn k).toList
 ·rw [if_pos h];exact qb (by simp [h]) rfl
 ·rw [if_neg h];exact qc (by simp [h]) rfl
theorem t6 {n M:Nat} (hn:1<=n) (hM:6<=M) (a:BA) (m:Nat) (w r:BA) (rows acc:RW) (len i c1 c2 mn:Int) (t:BA):
  zF (HP n) M (a,m,w,r,1,rows,len,i,acc,0,c1,c2,t,mn)=some (a,m,r,rows,len,i,acc,GH w,c1,c2,t,mn):=by
 obtain ⟨M,rfl⟩:∃q,M=q+6:=⟨M-6,by omega⟩;rw [qm (Ol hn (.inl rfl) (k':=2) (by decide)),qm (Ol hn (.inr (.inl rfl)) (k':=3) (by decide)),qm (Ol hn (.inr (.inr (.inl rfl))) (k':=4) (by decide)),qm (Ol hn (.inr (.inr (.inr (.inl rfl)))) (k':=5) (by decide)),
  qm (Ol hn (.inr (.inr (.inr (.inr rfl)))) (k':=6) (by decide))]
 exact qe (qc rfl rfl)
def T2 (x:BA):List PV:= [.s x]
theorem ic {s:BA} (hb:s.size<=1048576):(rd1 s).2.2.2.1.size<=1048576:=by
 have h1:=KF s;have h2:=KF (EH s).2;unfold rd1;split
 ·simp only;omega
 ·split
  ·simp only;omega
  ·simp only;omega
theorem Z9 (s:BA) (ls:List BA) (hl:ls.length<=31) (hz:∀l∈ls,l.size<=1048576):Ev (λn=>zF (H2 n) n (s,(0:Nat),ls.map T2,((ls.map T2).length:Int),(0:Int),([]:RW))) (s,ls.length,ls.map λl=>q8 (rd1 l)):=by
 have z2:∀l∈ls,(EH l).2.size<=1048576:=λl h=>zU (KF _).2 (hz l h)
 have z3:∀l∈ls,(EH (EH l).2).1.size<=1048576:=λl h=>zU (KF _).1 (z2 l h)
 obtain ⟨n3,h3⟩:=FJ (F:=λ(l:BA) n=>I5 n (EH (EH l).2).1) (f:=λl=>((Ec (EH (EH l).2).1).1,(Ec (EH (EH l).2).1).2.1)) ls λl h=>s9 _ (z3 l h)
 obtain ⟨n4,h4⟩:=FJ (F:=λ(l:BA) n=>Hj n (EH (EH l).2).1) (f:=λl=>XX (EH (EH l).2).1) ls λl h=>Xw _ (z3 l h)
 refine ⟨n3+n4+ls.length+9,λm hm=>?_⟩;have h:=cq (B:=H2 m) (λi=>(s,i,ls.map T2,((ls.map T2).length:Int),(i:Int),(ls.take i).map λl=>q8 (rd1 l))) ls (λ_ _=>none) (s,ls.length,ls.map λl=>q8 (rd1 l))
  (λi l he=>by
   have hi:=(zamJ.1 he).1;have hmem:=aC he;obtain ⟨a1,a2⟩:=VD (k:=(i:Int)) rfl (bc (enc:=T2) he);have h3:=h3 m (by omega) l hmem;have h4:=h4 m (by omega) l hmem;have c1:=Z8 (hz l hmem) (show 1<=m by omega);have c2:=Z8 (z2 l hmem) (show 1<=m by omega);have w:IntKind.i64.wrap ((i:Int)+1)=((i+1:Nat):Int):=by rw [ql (by omega)];omega
   have hacc:i=((ls.take i).map λl=>q8 (rd1 l)).length:=by simp;omega
   have hb:=Z6 (g:=λl=>q8 (rd1 l)) he;generalize ((ls.take i).map λl=>q8 (rd1 l))=acc at*
   have hk:=Z1 (EH l).1;have hr:∀{k:Int},GH (EH l).1=k->∀{x:Sm},(if k=1\/k=2 then ((k,(Ec (EH (EH l).2).1).1,(Ec (EH (EH l).2).1).2.1,(EH (EH l).2).2,0):Sm)
    else if k=3\/k=4 then (k,0,0,(EH (EH l).2).2,XX (EH (EH l).2).1) else (k,0,0,(EH l).2,0))=x->rd1 l=x:=fun {k} h {x} hx=>by
    unfold rd1;rw [h];exact hx
   have r2:=λ(x:Sm) (hx:rd1 l=x)=>(show ((ls.take (i+1)).map λl=>q8 (rd1 l))=acc++ [q8 x] by rw [hb,hx])
   have ok:∀x:Sm,decide (i=acc.length/\0<5/\0<48/\(i+ [q8 x].length)*48<=140737488355328/\ [q8 x].all (λe=>e.length==5)=true)=true:=λx=>Ir hacc (by omega) rfl
   refine qb (zC (by simpa using hi)) (qb a1 (qa a2 (qb rfl (qa rfl (qa c1 (qa (t6 (by omega) (by omega) _ _ _ _ _ _ _ _ _ _ _ _) (qa c2 ?_)))))));dsimp only;rw [w];have k6:GH (EH l).1=0\/GH (EH l).1=1\/GH (EH l).1=2\/GH (EH l).1=3\/GH (EH l).1=4\/GH (EH l).1=5:=by omega
   rcases k6 with k|k|k|k|k|k
   ·rw [k];refine qc rfl (qc rfl (qc rfl (qc rfl (qb rfl (qb (Ir hacc (by omega) rfl) ?_)))));rw [r2 _ (hr k ((if_neg (by decide)).trans (if_neg (by decide))))];rfl
   ·rw [k];refine qb rfl (qa h3 (qb rfl (qb (Ir hacc (by omega) rfl) ?_)));rw [r2 _ (hr k (if_pos (by decide)))];rfl
   ·rw [k];refine qc rfl (qb rfl (qa h3 (qb rfl (qb (Ir hacc (by omega) rfl) ?_))));rw [r2 _ (hr k (if_pos (by decide)))];rfl
   ·rw [k];refine qc rfl (qc rfl (qb rfl (qa h4 (qb rfl (qb (Ir hacc (by omega) rfl) ?_)))));rw [r2 _ (hr k ((if_neg (by decide)).trans (if_pos (by decide))))];rfl
   ·rw [k];refine qc rfl (qc rfl (qc rfl (qb rfl (qa h4 (qb rfl (qb (Ir hacc (by omega) rfl) ?_))))));rw [r2 _ (hr k ((if_neg (by decide)).trans (if_pos (by decide))))];rfl
   ·rw [k];refine qc rfl (qc rfl (qc rfl (qc rfl (qb rfl (qb (Ir hacc (by omega) rfl) ?_)))));rw [r2 _ (hr k ((if_neg (by decide)).trans (if_neg (by decide))))];rfl)
  (qc (aA (by simp)) (by rw [List.take_length];rfl)) m (by omega)
 rw [Oi] at h;exact h
theorem cv (sep:BA) (k:Nat) (s:BA):1<=(Lib.splitB sep 0 k s).length:=by
 cases k with
 |zero=>exact zH _
 |succ k=>
  unfold Lib.splitB;split
  ·exact zH _
  ·simp
def b3 (x:Int):Bool:=Int.tmod x 3==0
structure MB (A:RW) (e:List PV) (i:Nat) (P D:RW):Prop where
 mbA:A=P++e::D
 mbP:P.length=i
theorem MB.next {A:RW} {e e':List PV} {i:Nat} {P D:RW} (h:MB A e i P D):MB (A.set ((i:Nat):Int).toNat e') e' i P D:=by
 rw [cT];refine ⟨?_,h.mbP⟩;rw [h.mbA,List.set_append_right (h:=by have:=h.mbP;omega),h.mbP,Nat.sub_self];rfl
theorem Rj (s:BA) (hb:s.size<=1048576):Ev (JK · s) ((rmS s).1.map q8,(rmS s).2):=by
 have hz:∀l∈(FP s.toList).1,l.length<=1048576:=λl hl=>zU (cu s l hl) hb
 refine Oh (IQ (R:=λn=>LJ n s) (qx (VG s hb) ?_) λn=>rfl);by_cases hr:(FP s.toList).2= []
 ·refine D8 (by simp [hr]) ?_;by_cases hl:(FP s.toList).1.length<=30
  ·have hsz:∀c∈slS s,c.2.2.2.1.size<=140737488351232:=λc hc=>by
    unfold slS at hc;obtain ⟨x,hx,rfl⟩:=List.mem_map.1 hc;obtain ⟨l,hl,rfl⟩:=List.mem_map.1 hx;have:=gz (s:=mkB l) (by unfold mkB;rw [T0];exact hz l hl);omega
   have hlen:=lh s;refine D8 (aA (by simp;omega)) (qx (Z7 s _ hl hz) (EB (zC (by simp)) ?_));simp only [lg];rw [<-hlen];refine qx (If (slS s) (by omega) hsz) (EB (Qy _) ?_);cases hB:GK (slS s) with
   |false=>
    have e:rmS s=([],false):=by unfold rmS;rw [if_neg (λh=>by rw [hB] at h;cases h.2.1)]
    exact EB rfl (EB rfl (qv (by rw [e];rfl)))
   |true=>
    refine D8 rfl (EB (zC (by simp)) (qx (Kv (slS s) (by omega) hsz) (EB (Yh _) ?_)));rw [if_pos hB];by_cases ht:(mcx (slS s)).toList=s.toList
    ·have e:rmS s=(slS s,true):=by unfold rmS;rw [if_pos ⟨⟨hr,hl⟩,hB,ht⟩]
     exact D8 (by simp [ht]) (EB (zC (by simp)) (qv (by rw [e])))
    ·have e:rmS s=([],false):=by unfold rmS;rw [if_neg (λh=>ht h.2.2)]
     exact EB (by simp [ht]) (EB rfl (qv (by rw [e];rfl)))
  ·have e:rmS s=([],false):=by unfold rmS;rw [if_neg (λh=>hl h.1.2)]
   exact EB (zC (by simp;omega)) (EB rfl (qv (by rw [e];rfl)))
 ·have e:rmS s=([],false):=by unfold rmS;rw [if_neg (λh=>hr h.1.1)]
  exact EB (by simp [hr]) (EB rfl (qv (by rw [e];rfl)))
theorem MF (s:BA) (hb:s.size<=1048576):Ev (IK · s) ((rmP s).1.map q8,(rmP s).2):=by
 have e1:Ev (LC · s ⟨#[10]⟩ 32) ((Lib.splitB ⟨#[10]⟩ 0 (min 32 (s.size+1)-1) s).map T2):=⟨1,λn hn=>by
  obtain ⟨m,rfl,_⟩:=up1 hn;show bL s ⟨#[10]⟩ 32=_;unfold bL;rw [if_pos ⟨by omega,by decide,by decide,by decide⟩];rfl⟩
 have hlen:=cv ⟨#[10]⟩ (min 32 (s.size+1)-1) s;have hlen2:=Lib.splitB_length_le ⟨#[10]⟩ 0 (min 32 (s.size+1)-1) s;have hw:∀k:Nat,1<=k->k<=100->IntKind.i64.wrap ((k:Int)-1)=((k-1:Nat):Int):=λk h1 h2=>by rw [ql (by omega)];omega
 have hdl:(((Lib.splitB ⟨#[10]⟩ 0 (min 32 (s.size+1)-1) s).map T2).take ((Lib.splitB ⟨#[10]⟩ 0 (min 32 (s.size+1)-1) s).length-1)).drop 0=(plS s).map T2:=by
  unfold plS;rw [List.drop_zero,<-List.map_take,List.dropLast_eq_take]
 have hpl:=bf s;have hz:∀x∈plS s,x.size<=1048576:=λx hx=>zU (oe s x hx) hb
 have hsz:∀c∈(plS s).map rd1,c.2.2.2.1.size<=140737488351232:=λc hc=>by
  obtain ⟨x,hx,rfl⟩:=List.mem_map.1 hc;have:=ic (hz x hx);omega
 have hmap:((plS s).map λl=>q8 (rd1 l))=((plS s).map rd1).map q8:=by rw [List.map_map];rfl
 refine Oh (IQ (R:=λn=>LE n s) (qx e1 ?_) λn=>rfl);simp only [zamV];rw [hw _ hlen (by omega)];simp only [cT];rw [show ((0:Int)).toNat=0 from rfl,hdl];refine EB (zC ⟨by decide,by omega,by omega,by simp [T2]⟩) (qx (Z9 s (plS s) hpl hz) (EB (zC (by simp)) ?_));simp only [hmap];refine qx (Lz ((plS s).map rd1) (by simp;omega) hsz) (EB (Qy _) ?_);cases hB:GK ((plS s).map rd1) with
 |false=>
  have e:rmP s=([],false):=by unfold rmP;rw [if_neg (λh=>by rw [hB] at h;cases h.1)]
  exact EB rfl (EB rfl (qv (by rw [e];rfl)))
 |true=>
  obtain ⟨hl,hst⟩:=NA hB;refine D8 rfl (EB (zC (by simp)) (qx (Nh ((plS s).map rd1) hl hst) (EB (Yh _) ?_)));by_cases ht:(mcx ((plS s).map rd1)).toList=s.toList
  ·have e:rmP s=((plS s).map rd1,true):=by unfold rmP;rw [if_pos ⟨hB,ht⟩]
   exact D8 (by simp [ht]) (EB (zC (by simp)) (qv (by rw [e])))
  ·have e:rmP s=([],false):=by unfold rmP;rw [if_neg (λh=>ht h.2)]
   exact EB (by simp [ht]) (EB rfl (qv (by rw [e];rfl)))
theorem bh {s o:BA} (h:GJ s=(o,true)):o.size<=200/\(s.toList≠ []->1<=o.size):=by
 obtain ⟨h1,h2,_⟩:=Zv h;refine ⟨VE (by unfold Ri;rw [h1];simp),λhs=>?_⟩;have:o.toList≠ []:=λe=>hs (h2.1 e)
 have h3:o.toList.length≠0:=λe=>this (bR e)
 have h4:=EA o;omega
theorem bj {l:RW} (hl:Lx l) {p:Int} (hp:0<=p/\p<=l.length):∃(t:BA) (p':Int),(0<=p'/\p'<=l.length)/\t.size<=200/\Ev (λn=>HB n 1 l p) (t,l,p'):=by
 have key:Dwx (Drn l λt:BA=>t.size<=200) λn=>K5 n 1 l p:=by
  obtain ⟨t,p1,h1,h2,h3⟩:=XP hl 1 (by decide) hp;have hb:t.size<=4000:=by simpa using h2
  have o1:(⟨#[61]⟩:BA).size<=9:=by decide
  refine qx h3 (EB (fit o1 hb (by omega)) (qx (Ju (⟨#[61]⟩++t) (by have:=Fx o1 hb;omega)) ?_));cases hi:GJ (⟨#[61]⟩++t) with
  |mk o ok=>
   cases ok with
   |false=>exact EB rfl (qv ⟨rfl,h1,by dsimp only;decide⟩)
   |true=>
    obtain ⟨g1,g2⟩:=bh hi;have g2:=g2 (mc t);refine D8 rfl (EB (zC ⟨by decide,by dsimp only;omega,by dsimp only;omega⟩) (qv ⟨rfl,h1,?_⟩));dsimp only;rw [ByteArray.size_extract];omega
 obtain ⟨⟨t,l',p'⟩,⟨rfl,h1,h2⟩,h3⟩:=IQ (F:=λn=>HB n 1 l p) key λn=>rfl
 exact ⟨t,p',h1,h2,h3⟩
theorem bk {l:RW} (hl:Lx l) {p:Int} (hp:0<=p/\p<=l.length):∃(c:Sm) (p':Int),(0<=p'/\p'<=l.length)/\c.2.2.2.1.size<=200/\Ev (λn=>IC n l p) (c.1,c.2.1,c.2.2.1,c.2.2.2.1,c.2.2.2.2,l,p'):=by
 have key:Dwx (λr:Int×Int×Int×BA×Int×RW×Int=>∃(c:Sm) (p':Int),(0<=p'/\p'<=l.length)/\c.2.2.2.1.size<=200/\r=(c.1,c.2.1,c.2.2.1,c.2.2.2.1,c.2.2.2.2,l,p')) λn=>K6 n l p:=by
  obtain ⟨a,p1,h1,ha,h2⟩:=FC 8 (by decide) hl hp;refine qx (Gp h2) ?_;have set:Dwx (λr:Int×Int×Int×BA×Int×RW×Int=>∃(c:Sm) (p':Int),(0<=p'/\p'<=l.length)/\c.2.2.2.1.size<=200/\r=(c.1,c.2.1,c.2.2.1,c.2.2.2.1,c.2.2.2.2,l,p')) λn=>(.opt (EE n l p1) λr19=>(.opt (HB n (1:Int) r19.2.2.1 r19.2.2.2) λr337=>(.done ((1:Int),r19.1,r19.2.1,r337.1,(0:Int),r337.2.1,r337.2.2))):Tr (Int×Int×Int×BA×Int×RW×Int)):=by
   obtain ⟨x,y,p2,h3,h4⟩:=Sc hl h1;obtain ⟨t,p3,h5,h6,h7⟩:=bj hl h3;exact qx (Gp h4) (qx h7 (qv ⟨(1,x,y,t,0),p3,h5,h6,rfl⟩))
  have put:Dwx (λr:Int×Int×Int×BA×Int×RW×Int=>∃(c:Sm) (p':Int),(0<=p'/\p'<=l.length)/\c.2.2.2.1.size<=200/\r=(c.1,c.2.1,c.2.2.1,c.2.2.2.1,c.2.2.2.2,l,p')) λn=>(.opt (Hc n l p1) λr354=>(.opt (GA n r354.1) λr355=>(.ask ((!r355.2)) (.opt (EE n r354.2.1 r354.2.2) λr356=>(.done ((2:Int),r356.1,r356.2.1,(⟨#[49]⟩:BA),(0:Int),r356.2.2.1,r356.2.2.2))) (.opt (EE n r354.2.1 r354.2.2) λr357=>(.done ((2:Int),r357.1,r357.2.1,r355.1,(0:Int),r357.2.2.1,r357.2.2.2))))):Tr (Int×Int×Int×BA×Int×RW×Int)):=by
   obtain ⟨t,p2,h3,h4,h5⟩:=fx hl h1;obtain ⟨x,y,p3,h6,h7⟩:=Sc hl h3;refine qx h5 (qx (Ju t (by omega)) ?_);cases hi:GJ t with
   |mk o ok=>
    cases ok with
    |false=>exact EB rfl (qx (Gp h7) (qv ⟨(2,x,y,⟨#[49]⟩,0),p3,h6,by dsimp only;decide,rfl⟩))
    |true=>exact D8 rfl (qx (Gp h7) (qv ⟨(2,x,y,o,0),p3,h6,(bh hi).1,rfl⟩))
  have c:a=0\/a=1\/a=2\/a=3\/a=4\/a=5\/a=6\/a=7:=by omega
  rcases c with rfl|rfl|rfl|rfl|rfl|rfl|rfl|rfl
  ·exact EB rfl set
  ·exact D8 rfl (EB rfl set)
  ·exact D8 rfl (D8 rfl (EB rfl set))
  ·exact D8 rfl (D8 rfl (D8 rfl (EB rfl put)))
  ·exact D8 rfl (D8 rfl (D8 rfl (D8 rfl (EB rfl put))))
  ·obtain ⟨b,p2,h3,hb,h4⟩:=FC 2 (by decide) hl h1;obtain ⟨t,p3,h5,h6,h7⟩:=bj hl h3;exact D8 rfl (D8 rfl (D8 rfl (D8 rfl (D8 rfl (EB rfl (qx (Gp h4) (qx h7 (qv ⟨(3,0,0,t,IntKind.i64.wrap (1+b)),p3,h5,h6,rfl⟩))))))))
  ·obtain ⟨b,p2,h3,hb,h4⟩:=FC 9 (by decide) hl h1;have hd:=HC (x:=b) (by omega);have o1:(⟨#[65,49,61]⟩:BA).size<=9:=by decide
   exact D8 rfl (D8 rfl (D8 rfl (D8 rfl (D8 rfl (D8 rfl (EB rfl (qx (Gp h4) (qx (G6 b (by omega)) (EB (fit o1 hd (by omega)) (qv ⟨(5,0,0,⟨#[65,49,61]⟩++Gk b,0),p2,h3,zU (Fx o1 hd) (by omega),rfl⟩))))))))))
  ·obtain ⟨b,p2,h3,hb,h4⟩:=FC 2 (by decide) hl h1;obtain ⟨d,p3,h5,hd0,h6⟩:=FC 9 (by decide) hl h3;have hd:=HC (x:=d) (by omega);have o1:(⟨#[65,49,60]⟩:BA).size<=9:=by decide
   exact D8 rfl (D8 rfl (D8 rfl (D8 rfl (D8 rfl (D8 rfl (D8 rfl (qx (Gp h4) (qx (Gp h6) (qx (G6 d (by omega)) (EB (fit o1 hd (by omega)) (qv ⟨(4,0,0,⟨#[65,49,60]⟩++Gk d,IntKind.i64.wrap (1+b)),p3,h5,zU (Fx o1 hd) (by omega),rfl⟩)))))))))))
 obtain ⟨r,⟨c,p',h1,h2,rfl⟩,h3⟩:=IQ (F:=λn=>IC n l p) key λn=>rfl
 exact ⟨c,p',h1,h2,h3⟩
theorem Xb {l:RW} (hl:Lx l):∀(j:Nat) (out:List Sm) (p:Int),out.length+j<=5->(∀c∈out,c.2.2.2.1.size<=200)->(0<=p/\p<=l.length)->∃(o':List Sm) (p':Int),(0<=p'/\p'<=l.length)/\(o'.length<=5/\∀c∈o',c.2.2.2.1.size<=200)/\∃n0,∀n,n0<=n->∀M,j+1<=M->zF (Gh n) M (out.length,(j:Int),out.map q8,l,p)=some (o'.length,o'.map q8,l,p')
 |0,out,p,h5,hs,hp=>⟨out,p,hp,⟨by omega,hs⟩,0,λn _ M hM=>by
  obtain ⟨M,rfl⟩:∃q,M=q+1:=⟨M-1,by omega⟩;exact qe (qc (aA (by simp)) rfl)⟩
 |j+1,out,p,h5,hs,hp=>by
  obtain ⟨c,p1,h1,h2,n1,h3⟩:=bk hl hp;have hs1:∀x∈out++ [c],x.2.2.2.1.size<=200:=λx hx=>by
   rcases List.mem_append.1 hx with h|h
   ·exact hs x h
   ·rw [zamQ.1 h];exact h2
  obtain ⟨n2,hm⟩:=If (out++ [c]) (by simp;omega) (λx hx=>by have:=hs1 x hx;omega);have eA:(([]:RW)++out.map q8)++ [q8 c]=(out++ [c]).map q8:=by simp
  have eL:(0+(out.map q8).length)+1=(out++ [c]).length:=by simp
  have w:IntKind.i64.wrap (((j+1:Nat):Int)-1)=(j:Int):=by rw [ql (by omega)];omega
  have kA:decide (0=([]:RW).length/\0<5/\0<48/\(0+(out.map q8).length)*48<=140737488355328/\(out.map q8).all (λe=>e.length==5)=true)=true:=zC ⟨rfl,by decide,by decide,by simp;omega,by simp [q8]⟩;have kB:decide ((0+(out.map q8).length)=(([]:RW)++out.map q8).length/\0<5/\0<48/\((0+(out.map q8).length)+([q8 c]:RW).length)*48<=140737488355328/\([q8 c]:RW).all (λe=>e.length==5)=true)=true:=zC ⟨by simp,by decide,by decide,by simp;omega,rfl⟩;have kC:decide (((0+(out.map q8).length)+1)=((([]:RW)++out.map q8)++ [q8 c]).length)=true:=zC (by simp);have step:∀n,n1+n2<=n->(Gh n (out.length,((j+1:Nat):Int),out.map q8,l,p)).run=some (.inl (if GK (out++ [c])=true\/c.1=3 then ((out++ [c]).length,(j:Int),(out++ [c]).map q8,l,p1) else (out.length,(j:Int),out.map q8,l,p1))):=λn hn=>by
   have h3:=h3 n (by omega);have hm:=hm n (by omega);rw [<-eA] at hm;refine qb (zC (by dsimp only;omega)) (qb (zC (by simp)) (qb kA (qa h3 (qb rfl (qb kB (qb kC (qa hm (qb rfl ?_))))))));cases hB:GK (out++ [c]) with
   |true=>
    refine qb rfl ?_;rw [if_pos (.inl rfl),<-eA,<-eL,<-w];rfl
   |false=>
    have wi:IntKind.i64.wrap ((((0+(out.map q8).length)+1:Nat):Int)-1)=((out.length:Nat):Int):=by rw [ql (by simp;omega)];simp
    have hg:((([]:RW)++out.map q8)++ [q8 c])[((out.length:Nat):Int).toNat]?=some (q8 c):=by rw [cT];simp
    refine qc rfl ?_;dsimp only;rw [wi];refine qb (zC ⟨by simp,by omega,by simp;omega⟩) (qa hg (qa (x:=c.1) rfl ?_));by_cases k3:c.1=3
    ·refine qb (zanG.2 k3) ?_;rw [if_pos (.inr k3),<-eA,<-eL,<-w];rfl
    ·refine qc (zanF.2 k3) ?_;rw [if_neg (λh=>h.elim (λh=>by cases h) k3),<-w];rfl
  by_cases hq:GK (out++ [c])=true\/c.1=3
  ·obtain ⟨o',p',g1,g2,n3,g3⟩:=Xb hl j (out++ [c]) p1 (by simp;omega) hs1 h1;refine ⟨o',p',g1,g2,n1+n2+n3,λn hn M hM=>?_⟩;obtain ⟨M,rfl⟩:∃q,M=q+1:=⟨M-1,by omega⟩;have st:=step n (by omega);rw [if_pos hq] at st;rw [qm st,g3 n (by omega) M (by omega)]
  ·obtain ⟨o',p',g1,g2,n3,g3⟩:=Xb hl j out p1 (by omega) hs h1;refine ⟨o',p',g1,g2,n1+n2+n3,λn hn M hM=>?_⟩;obtain ⟨M,rfl⟩:∃q,M=q+1:=⟨M-1,by omega⟩;have st:=step n (by omega);rw [if_neg hq] at st;rw [qm st,g3 n (by omega) M (by omega)]
theorem b8 {l:RW} (hl:Lx l) {p:Int} (hp:0<=p/\p<=l.length):∃(o:List Sm) (p':Int),(0<=p'/\p'<=l.length)/\(o.length<=7/\∀c∈o,c.2.2.2.1.size<=200)/\Ev (λn=>Hd n l p) (o.map q8,l,p'):=by
 have key:Dwx (λr:RW×RW×Int=>∃(o:List Sm) (p':Int),(0<=p'/\p'<=l.length)/\(o.length<=7/\∀c∈o,c.2.2.2.1.size<=200)/\r=(o.map q8,l,p')) λn=>KV n l p:=by
  obtain ⟨b,p1,h1,h2⟩:=O8 4 (by decide) hl hp;refine qx (Gp h2) ?_;cases b with
  |true=>
   obtain ⟨d,p2,h3,hd0,h4⟩:=FC 9 (by decide) hl h1;have hd:=HC (x:=d) (by omega);have o1:(⟨#[65,49,60]⟩:BA).size<=9:=by decide
   obtain ⟨c,p3,h5,h6,h7⟩:=bk hl h3;refine EB rfl (qx (Gp h4) (qx (G6 d (by omega)) (EB (fit o1 hd (by omega)) (qx h7 (EB rfl (qv ⟨[(1,1,1,⟨#[65,49,43,49]⟩,0),(1,2,1,⟨#[66,49,43,65,49]⟩,0),(4,0,0,⟨#[65,49,60]⟩++Gk d,2),c],p3,h5,⟨by simp,λx hx=>?_⟩,rfl⟩))))));simp only [zamT,List.not_mem_nil,or_false] at hx;rcases hx with rfl|rfl|rfl|rfl
   ·dsimp only;decide
   ·dsimp only;decide
   ·exact zU (Fx o1 hd) (by omega)
   ·exact h6
  |false=>
   obtain ⟨j,p2,h3,hj,h4⟩:=FC 6 (by decide) hl h1;obtain ⟨j,rfl⟩:∃k:Nat,j=(k:Int):=⟨j.toNat,by omega⟩;obtain ⟨o,p3,h5,⟨h6,h7⟩,n0,h8⟩:=Xb hl j [] p2 (by simp;omega) (λc hc=>by cases hc) h3;have h8:Ev (λn=>zF (Gh n) n ((0:Nat),(j:Int),([]:RW),l,p2)) (o.length,o.map q8,l,p3):=⟨n0+j+1,λn hn=>h8 n (by omega) n (by omega)⟩;refine D8 rfl (qx (Gp h4) (qx h8 (EB (zC (by simp)) (qx (If o (by omega) (λx hx=>by have:=h7 x hx;omega)) (EB (Qy _) ?_)))));have plain:∀{p':Int},(0<=p'/\p'<=l.length)->Dwx (λr:RW×RW×Int=>∃(o:List Sm) (p':Int),(0<=p'/\p'<=l.length)/\(o.length<=7/\∀c∈o,c.2.2.2.1.size<=200)/\r=(o.map q8,l,p')) λ_=>(.ask (decide (o.length=(o.map q8).length)) (.done (o.map q8,l,p')) .fail:Tr (RW×RW×Int)):=fun {p'} hp'=>EB (zC (by simp)) (qv ⟨o,p',hp',⟨by omega,h7⟩,rfl⟩)
   cases hB:GK o with
   |true=>exact D8 rfl (plain h5)
   |false=>
    obtain ⟨t,p4,g1,g2⟩:=O8 20 (by decide) hl h5;refine EB rfl (qx (Gp g2) ?_);cases t with
    |true=>exact D8 rfl (plain g1)
    |false=>
     obtain ⟨a,b,p5,g3,g4⟩:=Sc hl g1;obtain ⟨a',b',p6,g5,g6⟩:=Sc hl g3;have e2:o.map q8++ [q8 (1,a,b,⟨#[49]⟩,0),q8 (1,a',b',⟨#[65,49,43,66,50]⟩,0)]=(o++([(1,a,b,⟨#[49]⟩,0),(1,a',b',⟨#[65,49,43,66,50]⟩,0)]:List Sm)).map q8:=by simp
     refine EB rfl (qx (Gp g4) (qx (Gp g6) (EB rfl (EB (zC ⟨by simp,by decide,by decide,by simp;omega,rfl⟩) (EB (zC (by simp)) (qv ⟨_,p6,g5,⟨?_,?_⟩,congrArg (λx=>(x,l,p6)) e2⟩))))))
     ·simp;omega
     ·intro x hx;rcases List.mem_append.1 hx with h|h
      ·exact h7 x h
      ·simp only [zamT,List.not_mem_nil,or_false] at h;rcases h with rfl|rfl
       ·dsimp only;decide
       ·dsimp only;decide
 obtain ⟨r,⟨o,p',h1,h2,rfl⟩,h3⟩:=IQ (F:=λn=>Hd n l p) key λn=>rfl
 exact ⟨o,p',h1,h2,h3⟩
theorem VH {l:RW} (hl:Lx l):∃o:List Sm,(o.length<=7/\∀c∈o,c.2.2.2.1.size<=200)/\Ev (Ix · l) (o.map q8):=by
 obtain ⟨o,p1,h1,h2,h3⟩:=b8 hl (p:=0) (by omega);exact ⟨o,h2,Oh (IQ (R:=λn=>Iw n l) (qx (Gp (u6 l)) (qx h3 (qv rfl))) λn=>rfl)⟩
theorem VI {l:RW} (hl:Lx l):∃t:BA,t.size<=100000/\Ev (Hl · l) t:=by
 obtain ⟨o,p1,h1,⟨h2,h2s⟩,h3⟩:=b8 hl (p:=0) (by omega);have hsz:(if GK o=true then mcx o else (⟨#[]⟩:BA)).size<=9000:=by
  split
  ·rename_i hB;obtain ⟨q1,q2⟩:=NA hB;have:=Tz q2 q1 o.length (zH _);rw [WI] at this;omega
  ·exact Nat.zero_le _
 obtain ⟨u,p3,g1,g2,g3⟩:=jb (if GK o=true then mcx o else (⟨#[]⟩:BA)) (by omega) hl h1;refine IQ (R:=λn=>I6 n l) (qx (Gp (u6 l)) (qx h3 (qx (Kv o (by omega) (λc hc=>by have:=h2s c hc;omega)) (qx (Gp g3) (qv (by dsimp only;omega)))))) λn=>rfl
theorem T3 (l:List Sm) (hb:l.length<=140737488351232):Ev (LH · (l.map q8) (l.map q8)) true:=by
 refine ⟨l.length+5,λn hn=>?_⟩;obtain ⟨m,rfl,hm⟩:=up1 hn;have h:=t8 (B:=Jc m) (rows:=l.map q8) (r:= .inr ())
  (λi e he=>by
   obtain ⟨c,hc,rfl⟩:=ny he;have hi:i<l.length:=(zamJ.1 hc).1;have hw:IntKind.i64.wrap ((i:Int)+1)=((i+1:Nat):Int):=by rw [ql (by omega)];omega
   have hg:(l.map q8)[((i:Nat):Int).toNat]?=some (q8 c):=by rw [cT,zamS,hc];rfl
   have hc':(0:Int)<=(i:Int)/\(i:Int)<(l.map q8).length:=by simp;omega
   refine qb (zC (by simpa using hi)) (qb (zC hc') (qa hg (qb rfl ?_)))
   iterate 5 refine qa rfl ?_
   refine qb (zC hc') (qa hg (qb rfl ?_))
   iterate 5 refine qa rfl ?_
   refine qc (by simp) ?_;show some _=some _;rw [hw])
  (qc (by simp) rfl) l.length 0 m (by simp) (by omega)
 simp only [Int.natCast_zero] at h;exact qc (by simp) (qa h rfl)
theorem law (rows:RW) (w:rows.length*1<=140737488351232/\∀r∈rows,okR [.i .u8] r):Ev (L8 · rows) true:=by
 refine Oh (IQ (R:=λn=>Je n rows) (qx (ZH rows) ?_) λn=>rfl);by_cases h:(rows.length:Int)>1048576
 ·exact EB (zC h) (qv rfl)
 refine D8 (aA h) ?_;have hl:=ip w.2 h;obtain ⟨o,⟨ho,hos⟩,hd⟩:=VH hl;have hos':∀c∈o,c.2.2.2.1.size<=140737488351232:=λc hc=>by have:=hos c hc;omega
 have hsz:(if GK o=true then mcx o else (⟨#[]⟩:BA)).size<=9000:=by
  split
  ·rename_i hB;obtain ⟨q1,q2⟩:=NA hB;have:=Tz q2 q1 o.length (zH _);rw [WI] at this;omega
  ·exact Nat.zero_le _
 have mi:=Ni o (by omega) hos';have ms:=Kv o (by omega) hos';have bi:=Lz o (by omega) hos';have bs:=If o (by omega) hos';obtain ⟨t,ht,hdt⟩:=VI hl;have ri:=MF t (by omega);have rs:=Rj t (by omega);have second:Dwx (λy:Bool=>y=true) λn=>(.opt (Hl n rows) λr479=>(.opt (IK n r479) λr480=>(.opt (JK n r479) λr493=>(.ask ((r480.2==r493.2)) (.ask ((!r480.2)) (.done true) (.opt (IJ n r480.1) λr494=>(.done (r494.toList==r479.toList)))) (.done false)))):Tr Bool):=by
  refine qx hdt (qx ri (qx rs (EB (by rw [re];simp) ?_)));by_cases hB:GK ((plS t).map rd1)=true/\(mcx ((plS t).map rd1)).toList=t.toList
  ·have e:rmP t=((plS t).map rd1,true):=by unfold rmP;rw [if_pos hB]
   have hz:∀c∈(plS t).map rd1,c.2.2.2.1.size<=140737488351232:=λc hc=>by
    have:=gx (s:=t) c (by rw [e];exact hc);omega
   have hn:=bf t;rw [e];refine D8 rfl (qx (Ni ((plS t).map rd1) (by simp;omega) hz) (qv ?_));rw [if_pos hB.1,hB.2];simp
  ·have e:rmP t=([],false):=by unfold rmP;rw [if_neg hB]
   rw [e];exact EB rfl (qv rfl)
 refine qx hd (qx mi (qx (MF _ (by omega)) (qx ms (D8 (by simp) (qx bi (qx bs (D8 (by simp) (qx bi ?_))))))));cases hB:GK o with
 |false=>exact D8 rfl second
 |true=>
  refine EB rfl ?_;obtain ⟨b1,_⟩:=Sq hB rfl;have e:rmP (mcx o)=(o,true):=by unfold rmP;rw [b1,if_pos ⟨hB,rfl⟩]
  rw [if_pos rfl,e];exact D8 rfl (qx (T3 o (by omega)) (D8 rfl second))
end Go.Proofs.YtilkdjfhbahhdabGreatDoor.KFnMacroTexts

