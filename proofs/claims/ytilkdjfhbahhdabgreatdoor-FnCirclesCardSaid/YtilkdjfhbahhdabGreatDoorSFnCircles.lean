import Derived.Test.YtilkdjfhbahhdabGreatDoorTFnCircles
import Derived.Test.YtilkdjfhbahhdabGreatDoorE32
import Derived.Lib.Strings
import Derived.Test.YtilkdjfhbahhdabGreatDoorSFnCirclesp1
namespace Go.Proofs.YtilkdjfhbahhdabGreatDoor.KFnCircles
open Go.Eng
set_option linter.unusedVariables false
set_option linter.unusedSimpArgs false
theorem ew (f:Nat) (deep:Int) (r:List UInt8) (p2:PS) (hr:r.length<=1000) (hp:p2.2.2.length<=60) (hc:∀op,LE (wd (tb r)) 1 10=some op->Ev (Gr · op deep (BR p2.1) p2.2.2.length p2.2.1 (p2.2.2.map qo)) (M6 (pP f (.call op deep) p2))):
  ∃n0,∀n,n0<=n->(am (qn n) n deep (BR (wd (tb r))) (LG p2)).run=some (M6 (if (Ej (BR (wd (tb r)))).2.2.2.2=true then Hn (ndC (Ej (BR (wd (tb r))))) p2 else match LE (wd (tb r)) 1 10 with
   |some op=>pP f (.call op deep) p2
   |none=>(-1,af p2))):=by
 obtain ⟨n1,h1⟩:=io r hr;obtain ⟨n2,h2⟩:=VK (ndC (Ej (BR (wd (tb r))))) p2 hp;obtain ⟨n3,h3⟩:=pg;obtain ⟨n4,h4⟩:∃n4,∀n,n4<=n->∀op,LE (wd (tb r)) 1 10=some op->Gr n op deep (BR p2.1) p2.2.2.length p2.2.1 (p2.2.2.map qo)=some (M6 (pP f (.call op deep) p2)):=by
  cases hf:LE (wd (tb r)) 1 10 with
  |none=>exact ⟨0,λn _ op h=>by cases h⟩
  |some op=>obtain ⟨n4,h4⟩:=hc op hf;exact ⟨n4,λn hn op' h=>by cases h;exact h4 n hn⟩
 refine ⟨n1+n2+n3+n4+12,λn hn=>?_⟩;have lp:=co (g:=qn n) deep (wd (tb r)) p2 (λop=>pP f (.call op deep) p2) (h3 n (by omega)) 10 1 n (by omega) (by omega) (by omega) (h4 n (by omega));cases hb:(Ej (BR (wd (tb r)))).2.2.2.2 with
 |true=>
  rw [if_pos rfl];exact qa (h1 n (by omega)) (qb hb (qa (h2 n (by omega)) rfl))
 |false=>
  rw [if_neg (by simp)];refine qa (h1 n (by omega)) (qc hb (qa lp ?_));cases LE (wd (tb r)) 1 10<;>rfl
theorem ip (f:Nat) (deep:Int) (r:List UInt8) (p2:PS) (hr:r.length<=1000) (hp:p2.2.2.length<=60) (hc:∀op,LE (wd (tb r)) 1 10=some op->Ev (Gr · op deep (BR p2.1) p2.2.2.length p2.2.1 (p2.2.2.map qo)) (M6 (pP f (.call op deep) p2))):
  ∃n0,∀n,n0<=n->(om (qn n) n deep (BR (wd (tb r))) (LG p2)).run=some (M6 (T0 f deep (wd (tb r)) p2)):=by
 obtain ⟨n1,h1⟩:=sd r hr;obtain ⟨n2,h2⟩:=Q3 ((qz (BR (wd (tb r)))).1,(qz (BR (wd (tb r)))).2.1,(qz (BR (wd (tb r)))).2.2.1) p2 hp;obtain ⟨n3,h3⟩:=ew f deep r p2 hr hp hc;refine ⟨n1+n2+n3,λn hn=>?_⟩;have h2:=h2 n (by omega);have h3:=h3 n (by omega);unfold T0;refine qa (h1 n (by omega)) ?_;by_cases ho:(qz (BR (wd (tb r)))).2.2.2=true
 ·refine qb ho ?_;by_cases k1:(qz (BR (wd (tb r)))).1=1
  ·rw [if_pos ⟨ho,.inl k1⟩];exact qb (by rw [k1];rfl) (qa h2 rfl)
  ·refine qc (zanF.2 k1) ?_;by_cases k3:(qz (BR (wd (tb r)))).1=3
   ·rw [if_pos ⟨ho,.inr k3⟩];exact qb (by rw [k3];rfl) (qa h2 rfl)
   ·rw [if_neg (λh=>h.2.elim k1 k3)];exact qc (zanF.2 k3) h3
 ·rw [if_neg (λh=>ho h.1)];exact qc (by rw [aE];exact ho) h3
theorem sf (w:List UInt8) (p:PS):qq w (tb p.1,p.2)=qq w p:=by unfold qq;simp only [G5]
theorem RH {c:UInt8} {r:List UInt8} (h:r.head?=some c):∃t,r=c::t:=by
 cases r with
 |nil=>cases h
 |cons d t=>simp at h;subst h;exact ⟨t,rfl⟩
theorem Kp:∀(f:Nat) (j:PJ) (p:PS),Ad f j p->Jd j->Gd p->Kj j p->Wk j p (pP f j p)
 |0,j,p,ha,_,_,_=>by cases j<;>simp [Ad] at ha
 |f+1,.bin least deep,p,ha,hj,hg,_=>by
  replace ha:20*(tb p.1).length+6<=f+1:=ha
  obtain ⟨n1,h1⟩:=Kp f (.un deep) p (by show 20*_+4<=f;omega) hj hg trivial;have hl:=Im f (.un deep) p;obtain ⟨n2,h2⟩:=Kp f (.loop least deep (pP f (.un deep) p).1) (pP f (.un deep) p).2 (by show 20*_+5<=f;omega) hj (KY f (.un deep) p hg trivial).1 trivial;refine ⟨n1+n2+1,λn hn=>?_⟩;obtain ⟨k,rfl,hm⟩:=up1 hn;exact qa (h1 k (by omega)) (qa (h2 k (by omega) k (by omega)) rfl)
 |f+1,.loop least deep a,(r,b,l),ha,hj,hg,_=>by
  replace ha:20*(tb r).length+5<=f+1:=ha
  have hn60:l.length<=60:=hg.n;have hr1:r.length<=1000:=hg.r;have ht:=Dj r;unfold pP;cases b with
  |true=>
   rw [if_pos rfl];refine ⟨1,λn hn M hM=>?_⟩;obtain ⟨M,rfl,hM⟩:=up1 hM;exact qd (qc rfl rfl)
  |false=>
   rw [if_neg (by simp)];simp only;obtain ⟨n1,h1⟩:=mz least deep a r l.length false (l.map qo);by_cases h0:EE (tb r)=0
   ·rw [if_pos (.inl h0)];refine ⟨n1+1,λn hn M hM=>?_⟩;obtain ⟨M,rfl,hM⟩:=up1 hM;exact qd (qb rfl (qa (h1 n (by omega) n (by omega)) (qb (by simp only;rw [h0];rfl) rfl)))
   ·obtain ⟨o1,o2,o3,o4⟩:=se h0;obtain ⟨n2,h2⟩:=R8 (EE (tb r)) ⟨o1,o2⟩;by_cases hl:lvl (EE (tb r))<least
    ·rw [if_pos (.inr hl)];refine ⟨n1+n2+1,λn hn M hM=>?_⟩;obtain ⟨M,rfl,hM⟩:=up1 hM;exact qd (qb rfl (qa (h1 n (by omega) n (by omega)) (qc (zanF.2 h0) (qa (h2 n (by omega)) (qb (zD hl) rfl)))))
    ·rw [if_neg (λh=>h.elim h0 hl)];have lv:=Zb (op:=EE (tb r));have hlt:=Ze o4 (ck (tb r));have hp1:Gd ((tb r).drop (sgn (tb r)).length,false,l):=⟨by simp;omega,hn60,hg.s⟩;obtain ⟨n3,h3⟩:=M0 (EE (tb r)) ⟨o1,o2⟩;obtain ⟨n4,h4⟩:=Yt (DJ (EE (tb r))).toList (tb r) l.length false (l.map qo);obtain ⟨n5,h5⟩:=Kp f (.bin (lvl (EE (tb r))+1) deep) ((tb r).drop (sgn (tb r)).length,false,l) (by show 20*_+6<=f;simp only;omega) hj hp1 trivial;have g5:=KY f (.bin (lvl (EE (tb r))+1) deep) ((tb r).drop (sgn (tb r)).length,false,l) hp1 trivial;have l5:=Im f (.bin (lvl (EE (tb r))+1) deep) ((tb r).drop (sgn (tb r)).length,false,l);simp only at l5;generalize pP f (.bin (lvl (EE (tb r))+1) deep) ((tb r).drop (sgn (tb r)).length,false,l)=q at h5 g5 l5⊢;obtain ⟨n6,h6⟩:=VK (ndK 5 (EE (tb r)) [a,q.1]) q.2 g5.1.n;have g6:=M2 (x:=ndK 5 (EE (tb r)) [a,q.1]) g5.1 ⟨by simp [kd,ndK],by simp [ndK,em];decide⟩;have e6:=E0 (ndK 5 (EE (tb r)) [a,q.1]) q.2;generalize Hn (ndK 5 (EE (tb r)) [a,q.1]) q.2=c at h6 g6 e6⊢;obtain ⟨n7,h7⟩:=Kp f (.loop least deep c.1) c.2 (by show 20*(tb c.2.1).length+5<=f;rw [e6];omega) hj g6 trivial;refine ⟨n1+n2+n3+n4+n5+n6+n7+1,λn hn M hM=>?_⟩;obtain ⟨M,rfl,hM⟩:=up1 hM;have w1:IntKind.i64.wrap (lvl (EE (tb r))+1)=lvl (EE (tb r))+1:=ql (by omega);have h3:=h3 n (by omega);have h4:=h4 n (by omega);have h5:=h5 n (by omega);rw [KM,G5,<-o3,if_pos rfl] at h4;rw [<-w1] at h5;rw [qm (v':=(least,deep,c.1,LG c.2)) (by
      exact qb rfl (qa (h1 n (by omega) n (by omega)) (qc (zanF.2 h0) (qa (h2 n (by omega)) (qc (zd hl) (qa h3 (qa h4 (qa (h2 n (by omega)) (qa h5 (qb rfl (qa (h6 n (by omega)) rfl)))))))))))]
     exact h7 n (by omega) M (by omega)
 |f+1,.un deep,p,ha,hj,hg,_=>by
  replace ha:20*(tb p.1).length+4<=f+1:=ha
  replace hj:0<=deep/\deep<=401:=hj
  unfold pP;by_cases hd:deep>400
  ·rw [if_pos (.inl hd)];refine ⟨1,λn hn=>?_⟩;obtain ⟨k,rfl,hm⟩:=up1 hn;exact qb (zD hd) (qb rfl rfl)
  ·cases hb:p.2.1 with
   |true=>
    rw [if_pos (.inr rfl)];refine ⟨1,λn hn=>?_⟩;obtain ⟨k,rfl,hm⟩:=up1 hn;refine qc (zd hd) (qb hb ?_);rw [qf,hb];rfl
   |false=>
    rw [if_neg (λh=>h.elim hd (by simp))];obtain ⟨n1,h1⟩:=L8 [45] p;have t1:=Iz [45] p;cases hc:(qq [45] p).1 with
    |true=>
     rw [if_pos rfl];simp only;have t2:=Il (by simp) hc;have t3:=Dj (qq [45] p).2.1;obtain ⟨n2,h2⟩:=Kp f (.un (deep+1)) (qq [45] p).2 (by show 20*_+4<=f;omega) (by show 0<=deep+1/\deep+1<=401;omega) (HP hg) trivial;have g2:=KY f (.un (deep+1)) (qq [45] p).2 (HP hg) trivial;generalize pP f (.un (deep+1)) (qq [45] p).2=q at h2 g2⊢;obtain ⟨n3,h3⟩:=VK (ndK 4 0 [q.1]) q.2 g2.1.n;refine ⟨n1+n2+n3+1,λn hn=>?_⟩;obtain ⟨k,rfl,hm⟩:=up1 hn;have w1:IntKind.i64.wrap (deep+1)=deep+1:=ql (by omega);have h2:=h2 k (by omega);rw [<-w1] at h2;exact qc (zd hd) (qc hb (qa (h1 k (by omega)) (qb hc (qa h2 (qb rfl (qa (h3 k (by omega)) rfl))))))
    |false=>
     rw [if_neg (by simp)];have e:(qq [45] p).2.2=p.2:=by unfold qq;split<;>rfl
     obtain ⟨n2,h2⟩:=Kp f (.at deep) (qq [45] p).2 ⟨by omega,by rw [e];exact hb⟩ (by show 0<=deep/\deep<=400;omega) (HP hg) trivial;refine ⟨n1+n2+1,λn hn=>?_⟩;obtain ⟨k,rfl,hm⟩:=up1 hn;exact qc (zd hd) (qc hb (qa (h1 k (by omega)) (qc hc (qa (h2 k (by omega)) rfl))))
 |f+1,.at deep,(r0,b,l),ha,hj,hg,_=>by
  obtain ⟨ha,hb⟩:=ha
  replace ha:20*(tb r0).length+3<=f+1:=ha
  replace hb:b=false:=hb
  subst hb
  replace hj:0<=deep/\deep<=400:=hj
  have hn60:l.length<=60:=hg.n;have hr1:r0.length<=1000:=hg.r;have ht:=Dj r0;have ett:=G5 r0;have eit:=sf [40] (r0,false,l);obtain ⟨n1,h1⟩:=NX r0 l.length false (l.map qo);have wdec:∀op,LE (wd (tb r0)) 1 10=some op->(wr (tb r0)).length<(tb r0).length:=λop h=>by
   have e:=congrArg List.length (wdr (tb r0));simp only [zamO] at e;have:wd (tb r0)≠ []:=λe=>by
    rw [e,show LE [] 1 10=none by decide+kernel] at h;cases h
   have:=List.length_pos_iff.2 this;omega
  unfold pP;simp only at eit⊢;rw [<-eit];generalize tb r0=r at*
  have hw:=M1 r;have wordEv:∃n0,∀n,n0<=n->(om (qn n) n deep (BR (wd r)) (LG (wr r,false,l))).run=some (M6 (T0 f deep (wd r) (wr r,false,l))):=by
   have:=ip f deep r (wr r,false,l) (by omega) hn60 (by
    rw [ett];intro op h;exact Kp f (.call op deep) (wr r,false,l) (by have:=wdec op h;have:=Dj (wr r);show 20*(tb (wr r)).length+9<=f;omega) hj ⟨by simp only;omega,hn60,hg.s⟩ trivial)
   rwa [ett] at this
  obtain ⟨n9,h9⟩:=wordEv;obtain ⟨n8,h8⟩:=Zc (r,false,l) (by simp only;omega);simp only [ett] at h8;by_cases hq:r.head?=some 34
  ·rw [if_pos hq];obtain ⟨t,rfl⟩:=RH hq;simp only [zamM] at ht;obtain ⟨n2,h2⟩:=eu t false l (by omega) hn60;refine ⟨n1+n2+3,λn hn=>?_⟩;obtain ⟨k,rfl,hm⟩:=up3 hn;refine qa (h1 (k+2) (by omega)) (qa (Fh k (34::t) [34]) (qb rfl (qa (h2 (k+2) (by omega)) ?_)));rw [qf];simp only [List.tail_cons]
   all_goals (cases F4 [] t<;>rfl)
  ·rw [if_neg hq];have p34:List.isPrefixOf [34] r=false:=by rw [aE];exact λe=>hq ((IB 34 r).1 e)
   by_cases hh:r.head?=some 35
   ·have p35:List.isPrefixOf [35] r=true:=(IB 35 r).2 hh;simp only [if_pos hh];obtain ⟨n2,h2⟩:=pf deep r false l hn60;cases he:NW r 1 5 with
    |some e=>
     simp only;refine ⟨n1+n2+3,λn hn=>?_⟩;obtain ⟨k,rfl,hm⟩:=up3 hn;have h2:=h2 (k+2) (by omega) (k+2) (by omega);rw [he] at h2;exact qa (h1 (k+2) (by omega)) (qa (Fh k r [34]) (qc p34 (qa (Fh k r [35]) (qb p35 (qa h2 rfl)))))
    |none=>
     simp only;rw [if_neg (λh=>h.1 hh)];refine ⟨n1+n2+n8+n9+3,λn hn=>?_⟩;obtain ⟨k,rfl,hm⟩:=up3 hn;have h2:=h2 (k+2) (by omega) (k+2) (by omega);rw [he] at h2;exact qa (h1 (k+2) (by omega)) (qa (Fh k r [34]) (qc p34 (qa (Fh k r [35]) (qb p35 (qa h2 (qa (h8 (k+2) (by omega)) (h9 (k+2) (by omega))))))))
   ·have p35:List.isPrefixOf [35] r=false:=by rw [aE];exact λe=>hh ((IB 35 r).1 e)
    simp only [if_neg hh];obtain ⟨n2,h2⟩:=L8 [40] (r,false,l);cases hc:(qq [40] (r,false,l)).1 with
    |true=>
     rw [if_pos ⟨hh,rfl⟩];have t2:=Il (by simp) hc;have t3:=Dj (qq [40] (r,false,l)).2.1;simp only [ett] at t2;have g1:Gd (r,false,l):=⟨by simp only;omega,hn60,hg.s⟩;obtain ⟨n3,h3⟩:=Kp f (.bin 1 (deep+1)) (qq [40] (r,false,l)).2 (by show 20*_+6<=f;omega) (by show 0<=deep+1/\deep+1<=401;omega) (HP g1) trivial;generalize pP f (.bin 1 (deep+1)) (qq [40] (r,false,l)).2=q at h3⊢;obtain ⟨n4,h4⟩:=L8 [41] q.2;refine ⟨n1+n2+n3+n4+3,λn hn=>?_⟩;obtain ⟨k,rfl,hm⟩:=up3 hn;have w1:IntKind.i64.wrap (deep+1)=deep+1:=ql (by omega);have h3:=h3 (k+2) (by omega);rw [<-w1] at h3;cases hbb:q.2.2.1 with
     |true=>
      refine qa (h1 (k+2) (by omega)) (qa (Fh k r [34]) (qc p34 (qa (Fh k r [35]) (qc p35 (qa (h2 (k+2) (by omega)) (qb hc (qa h3 (qb hbb ?_))))))));rw [qf];unfold Gb;rw [if_pos hbb];simp only [M6,hbb]
     |false=>
      refine qa (h1 (k+2) (by omega)) (qa (Fh k r [34]) (qc p34 (qa (Fh k r [35]) (qc p35 (qa (h2 (k+2) (by omega)) (qb hc (qa h3 (qc hbb (qa (h4 (k+2) (by omega)) ?_)))))))));rw [qf];exact congrArg (λx=>some (q.1,x)) (Tz [41] hbb)
    |false=>
     rw [if_neg (λh=>by simp at h)];have e:(qq [40] (r,false,l)).2=(r,false,l):=by
      unfold qq at hc⊢;split at hc
      ·cases hc
      ·rename_i hne;rw [if_neg hne];simp only [ett]
     rw [hc,e] at h2;refine ⟨n1+n2+n8+n9+3,λn hn=>?_⟩;obtain ⟨k,rfl,hm⟩:=up3 hn;exact qa (h1 (k+2) (by omega)) (qa (Fh k r [34]) (qc p34 (qa (Fh k r [35]) (qc p35 (qa (h2 (k+2) (by omega)) (qc rfl (qa (h8 (k+2) (by omega)) (h9 (k+2) (by omega)))))))))
 |f+1,.call op deep,p,ha,hj,hg,_=>by
  replace ha:20*(tb p.1).length+9<=f+1:=ha
  unfold pP;have gm:=RG (w:= [40]) hg;have rm:=RD [40] p;obtain ⟨ks,p',e1,e2,e3,n2,h2⟩:=Kp f (.args op deep []) (Gb [40] p) (by show 20*_+8<=f;omega) hj gm.1 (by have:=gm.1.r;show 0+_<=_;omega);obtain ⟨n1,h1⟩:=L8 [40] p;obtain ⟨n3,h3⟩:=VK (ndK 6 op ks) p' e2.n;rw [e1];refine ⟨n1+n2+n3+1,λn hn=>?_⟩;obtain ⟨k,rfl,hm⟩:=up1 hn;have h2:=h2 k (by omega) k (by omega);by_cases hb:p.2.1=true
  ·have em:LG (Gb [40] p)=(BR p.1,p.2.2.length,true,p.2.2.map qo):=by
    unfold Gb;rw [if_pos hb];simp only [LG,hb]
   rw [em] at h2;exact qb hb (qa h2 (qb (zD (by simp)) (qa (h3 k (by omega)) rfl)))
  ·have hb:p.2.1=false:=by rw [aE];exact hb
   have em:=Tz [40] hb;rw [<-em] at h2;exact qc hb (qa (h1 k (by omega)) (qa h2 (qb (zD (by simp)) (qa (h3 k (by omega)) rfl))))
 |f+1,.args op deep kids,p,ha,hj,hg,hk=>by
  replace ha:20*(tb p.1).length+8<=f+1:=ha
  replace hk:kids.length+p.1.length<=1500:=hk
  replace hj:0<=deep/\deep<=400:=hj
  unfold pP;cases hb:p.2.1 with
  |true=>
   rw [if_pos rfl];refine ⟨kids,p,rfl,hg,by omega,1,λn hn M hM=>?_⟩;obtain ⟨M,rfl,hM⟩:=up1 hM;exact qd (qc (by show (!p.2.1)=false;rw [hb];rfl) rfl)
  |false=>
   rw [if_neg (by simp)];simp only;obtain ⟨x,hx,n1,h1⟩:=nf p hg.r;have ga:=cp hg;have ra:=OX p;have tl0:=Dj p.1;have nb:∀k:Nat,(!(LG p).2.2.1)=true:=λ_=>by show (!p.2.1)=true;rw [hb];rfl
   cases hi:(Et p).1 with
   |some y=>
    have hxy:=hx y hi;subst hxy;obtain ⟨n3,h3⟩:=VK x (Et p).2 ga.1.n;have eo:Ik (Et p) (λp=>pP f (.bin 1 (deep+1)) p)=Hn x (Et p).2:=by unfold Ik;rw [hi]
    rw [eo];have gq:Gd (Hn x (Et p).2).2/\(Hn x (Et p).2).2.1.length<=p.1.length/\(tb (Hn x (Et p).2).2.1).length<=(tb p.1).length:=⟨M2 ga.1 (ga.2.2 x hi),by rw [E0];exact ga.2.1,by rw [E0];exact ra⟩;have n2:=0;generalize Hn x (Et p).2=Q at h3 gq⊢;obtain ⟨n4,h4⟩:=L8 [44] Q.2;cases hc:(qq [44] Q.2).1 with
    |true=>
     obtain ⟨ks,p',e1,e2,e3,n6,h6⟩:=Kp f (.args op deep (kids++ [Q.1])) (qq [44] Q.2).2 (by have:=Il (by simp) hc;show 20*(tb (qq [44] Q.2).2.1).length+8<=f;have:=Dj (qq [44] Q.2).2.1;omega) ⟨hj.1,hj.2⟩ (HP gq.1) (by have:=Il (by simp) hc;have:=Dj Q.2.1;show (kids++ [Q.1]).length+_<=_;simp;omega);refine ⟨ks,p',by rw [if_pos rfl];exact e1,e2,e3,n1+n2+n3+n4+n6+1,λk hn M hM=>?_⟩;obtain ⟨M,rfl,hM⟩:=up1 hM;rw [qm (v':=(op,deep,(kids++ [Q.1]).length,(kids++ [Q.1]).map Eo,LG (qq [44] Q.2).2)) (by
      have h1:=h1 k (by omega);rw [hi] at h1;refine qb (nb 0) (qa h1 (qb rfl (qa (h3 k (by omega)) (qb rfl (qb (zD ⟨by simp,by decide,by decide,by simp;omega,rfl⟩) (qa (h4 k (by omega)) ?_))))));refine qc (by simp only;rw [hc];rfl) ?_;rw [qf];simp only [zamO,List.map_append];rfl)]
     exact h6 k (by omega) M (by omega)
    |false=>
     obtain ⟨n5,h5⟩:=L8 [41] (qq [44] Q.2).2;refine ⟨kids++ [Q.1],Gb [41] (qq [44] Q.2).2,by rw [if_neg (by simp)],(RG (HP gq.1)).1,by simp;omega,n1+n2+n3+n4+n5+1,λk hn M hM=>?_⟩;obtain ⟨M,rfl,hM⟩:=up1 hM;cases hbb:(qq [44] Q.2).2.2.1 with
     |true=>
      rw [qd (r:=(op,(kids++ [Q.1]).length,(kids++ [Q.1]).map Eo,LG (Gb [41] (qq [44] Q.2).2))) (by
       have h1:=h1 k (by omega);rw [hi] at h1;refine qb (nb 0) (qa h1 (qb rfl (qa (h3 k (by omega)) (qb rfl (qb (zD ⟨by simp,by decide,by decide,by simp;omega,rfl⟩) (qa (h4 k (by omega)) ?_))))));refine qb (by simp only;rw [hc];rfl) (qb hbb ?_);rw [qf];unfold Gb;rw [if_pos hbb];simp only [zamO,List.map_append,LG,hbb];rfl)]
     |false=>
      rw [qd (r:=(op,(kids++ [Q.1]).length,(kids++ [Q.1]).map Eo,LG (Gb [41] (qq [44] Q.2).2))) (by
       have h1:=h1 k (by omega);rw [hi] at h1;refine qb (nb 0) (qa h1 (qb rfl (qa (h3 k (by omega)) (qb rfl (qb (zD ⟨by simp,by decide,by decide,by simp;omega,rfl⟩) (qa (h4 k (by omega)) ?_))))));refine qb (by simp only;rw [hc];rfl) (qc hbb (qa (h5 k (by omega)) ?_));rw [qf];simp only [zamO,List.map_append];exact congrArg (λx=>some (Sum.inr (op,kids.length+1,kids.map Eo++ [[PV.i IntKind.i64 Q.1]],x))) (Tz [41] hbb))]
   |none=>
    have eo:Ik (Et p) (λp=>pP f (.bin 1 (deep+1)) p)=pP f (.bin 1 (deep+1)) (Et p).2:=by unfold Ik;rw [hi]
    rw [eo];obtain ⟨n3,h3⟩:=Kp f (.bin 1 (deep+1)) (Et p).2 (by show 20*_+6<=f;omega) (by show 0<=deep+1/\deep+1<=401;omega) ga.1 trivial;have g3:=KY f (.bin 1 (deep+1)) (Et p).2 ga.1 trivial;have l3:=Im f (.bin 1 (deep+1)) (Et p).2;have w1:IntKind.i64.wrap (deep+1)=deep+1:=ql (by omega);have gq:Gd (pP f (.bin 1 (deep+1)) (Et p).2).2/\(pP f (.bin 1 (deep+1)) (Et p).2).2.1.length<=p.1.length/\(tb (pP f (.bin 1 (deep+1)) (Et p).2).2.1).length<=(tb p.1).length:=⟨g3.1,zS g3.2 ga.2.1,zS l3 ra⟩;rw [<-w1] at h3;have n2:=0;rw [w1] at h3;generalize pP f (.bin 1 (deep+1)) (Et p).2=Q at h3 gq⊢;obtain ⟨n4,h4⟩:=L8 [44] Q.2;cases hc:(qq [44] Q.2).1 with
    |true=>
     obtain ⟨ks,p',e1,e2,e3,n6,h6⟩:=Kp f (.args op deep (kids++ [Q.1])) (qq [44] Q.2).2 (by have:=Il (by simp) hc;show 20*(tb (qq [44] Q.2).2.1).length+8<=f;have:=Dj (qq [44] Q.2).2.1;omega) ⟨hj.1,hj.2⟩ (HP gq.1) (by have:=Il (by simp) hc;have:=Dj Q.2.1;show (kids++ [Q.1]).length+_<=_;simp;omega);refine ⟨ks,p',by rw [if_pos rfl];exact e1,e2,e3,n1+n2+n3+n4+n6+1,λk hn M hM=>?_⟩;obtain ⟨M,rfl,hM⟩:=up1 hM;rw [qm (v':=(op,deep,(kids++ [Q.1]).length,(kids++ [Q.1]).map Eo,LG (qq [44] Q.2).2)) (by
      have h1:=h1 k (by omega);rw [hi] at h1;have h3:=h3 k (by omega);rw [<-w1] at h3;refine qb (nb 0) (qa h1 (qc rfl (qa h3 (qb rfl (qb (zD ⟨by simp,by decide,by decide,by simp;omega,rfl⟩) (qa (h4 k (by omega)) ?_))))));refine qc (by simp only;rw [hc];rfl) ?_;rw [qf];simp only [zamO,List.map_append];rfl)]
     exact h6 k (by omega) M (by omega)
    |false=>
     obtain ⟨n5,h5⟩:=L8 [41] (qq [44] Q.2).2;refine ⟨kids++ [Q.1],Gb [41] (qq [44] Q.2).2,by rw [if_neg (by simp)],(RG (HP gq.1)).1,by simp;omega,n1+n2+n3+n4+n5+1,λk hn M hM=>?_⟩;obtain ⟨M,rfl,hM⟩:=up1 hM;cases hbb:(qq [44] Q.2).2.2.1 with
     |true=>
      rw [qd (r:=(op,(kids++ [Q.1]).length,(kids++ [Q.1]).map Eo,LG (Gb [41] (qq [44] Q.2).2))) (by
       have h1:=h1 k (by omega);rw [hi] at h1;have h3:=h3 k (by omega);rw [<-w1] at h3;refine qb (nb 0) (qa h1 (qc rfl (qa h3 (qb rfl (qb (zD ⟨by simp,by decide,by decide,by simp;omega,rfl⟩) (qa (h4 k (by omega)) ?_))))));refine qb (by simp only;rw [hc];rfl) (qb hbb ?_);rw [qf];unfold Gb;rw [if_pos hbb];simp only [zamO,List.map_append,LG,hbb];rfl)]
     |false=>
      rw [qd (r:=(op,(kids++ [Q.1]).length,(kids++ [Q.1]).map Eo,LG (Gb [41] (qq [44] Q.2).2))) (by
       have h1:=h1 k (by omega);rw [hi] at h1;have h3:=h3 k (by omega);rw [<-w1] at h3;refine qb (nb 0) (qa h1 (qc rfl (qa h3 (qb rfl (qb (zD ⟨by simp,by decide,by decide,by simp;omega,rfl⟩) (qa (h4 k (by omega)) ?_))))));refine qb (by simp only;rw [hc];rfl) (qc hbb (qa (h5 k (by omega)) ?_));rw [qf];simp only [zamO,List.map_append];exact congrArg (λx=>some (Sum.inr (op,kids.length+1,kids.map Eo++ [[PV.i IntKind.i64 Q.1]],x))) (Tz [41] hbb))]
def pos (s r:List UInt8):Int:=((s.length-r.length:Nat):Int)
def HU (s:List UInt8) (q:PS):BA×Int×Bool×Nat×List (List PV):=(BR s,pos s q.1,q.2.1,q.2.2.length,q.2.2.map qo)
def G6 (s:List UInt8) (r:Int×PS):Int×BA×Int×Bool×Nat×List (List PV):=(r.1,HU s r.2)
theorem m8 {s r:List UInt8} (h:r<:+s):s.drop (s.length-r.length)=r:=by
 obtain ⟨t,rfl⟩:=h;simp
theorem cq (s r:List UInt8):(pos s r).toNat=s.length-r.length:=by unfold pos;simp
theorem SA (s r:List UInt8):0<=pos s r:=by unfold pos;omega
theorem H6 {s r:List UInt8} (h:r<:+s):r.length<=s.length:=h.length_le
theorem RI {s r t:List UInt8} {k:Nat} (h:r<:+s) (e:t=r.drop k) (hk:k<=r.length):pos s r+(k:Int)=pos s t:=by
 subst e;have:=H6 h;unfold pos;simp only [List.length_drop];omega
theorem T1 {s r:List UInt8} (h:r<:+s):(BR s).toList[(pos s r).toNat]?=r.head?:=by
 rw [D7,cq,<-List.head?_drop,m8 h]
theorem au {s r:List UInt8} (h:r<:+s):tb r<:+s:=(List.dropWhile_suffix _).trans h
theorem Xg {s t:List UInt8} {c:UInt8} (h:(c::t)<:+s):t<:+s:=(List.suffix_cons c t).trans h
theorem We {s r:List UInt8} {k:Nat} (h:r<:+s):(BR s).extract (pos s r).toNat (pos s r+(k:Int)).toNat=BR (r.take k):=by
 rw [Ko,cq,show (pos s r+(k:Int)).toNat=(s.length-r.length)+k by unfold pos;omega,<-List.take_drop,m8 h]
theorem Ep {b:Bool} (h:b=true):(!b)=false:=by rw [h];rfl
theorem HQ {b:Bool} (h:b=false):(!b)=true:=by rw [h];rfl
theorem Yv {s:List UInt8} (hs:s.length<=1000) (n:Nat) (b:Bool) (m:Nat) (rows:List (List PV)):∀(r:List UInt8) (M:Nat),r<:+s->r.length+1<=M->zE (IW n) M (BR s,pos s r,b,m,rows)=some (BR s,pos s (tb r),b,m,rows)
 |r,0,_,h=>by omega
 | [],M+1,h,_=>by
  exact qd (qc (zd (show ¬pos s []<((BR s).size:Int) by rw [qv];unfold pos;simp)) rfl)
 |c::t,M+1,h,hM=>by
  have hl:=H6 h;simp only [zamM] at hl hM;have g:=T1 h;have p1:pos s (c::t)<((BR s).size:Int):=by rw [qv];unfold pos;simp only [zamM];omega
  by_cases hc:c=32
  ·subst hc;have w1:IntKind.i64.wrap (pos s (32::t)+1)=pos s t:=by
    have:=RI (k:=1) h (t:=t) rfl (by simp);rw [ql (by unfold pos;omega)];exact this
   rw [qm (v':=(BR s,pos s t,b,m,rows)) (by
    refine qb (zD p1) (qb (zD (SA _ _)) (qa g (qb rfl ?_)));rw [qf,w1])]
   have e:tb (32::t)=tb t:=by simp [tb]
   rw [e];exact Yv hs n b m rows t M (Xg h) (by omega)
  ·have e:tb (c::t)=c::t:=by simp [tb,hc]
   rw [e];refine qd (qb (zD p1) (qb (zD (SA _ _)) (qa g (qc ?_ rfl))));rw [zanF];intro e;exact hc (UInt8.toNat_inj.1 (show c.toNat=32 by omega))
theorem Zf {s:List UInt8} (hs:s.length<=1000) (q:PS) (h:q.1<:+s):Ev (Fp · (BR s) (pos s q.1) q.2.1 q.2.2.length (q.2.2.map qo)) (HU s (tb q.1,q.2)):=by
 have hl:=H6 h;refine ⟨q.1.length+2,λn hn=>?_⟩;obtain ⟨k,rfl,hm⟩:=up1 hn;exact qa (Yv hs k q.2.1 q.2.2.length (q.2.2.map qo) q.1 k h (by omega)) rfl
theorem M4 {s:List UInt8} (hs:s.length<=1000) (w:List UInt8) (hw:w.length<=1000) (q:PS) (h:q.1<:+s):Ev (Dn · (BR w) (BR s) (pos s q.1) q.2.1 q.2.2.length (q.2.2.map qo)) ((sIs w q).1,HU s (sIs w q).2):=by
 obtain ⟨n1,h1⟩:=Zf hs q h;have ht:=au h;have hl:=H6 ht;refine ⟨n1+1,λn hn=>?_⟩;obtain ⟨k,rfl,hm⟩:=up1 hn;have w1:IntKind.i64.wrap (pos s (tb q.1)+((BR w).size:Int))=pos s (tb q.1)+(w.length:Int):=by rw [qv];exact ql (by unfold pos;omega)
 unfold sIs;cases hb:q.2.1 with
 |true=>
  rw [if_pos rfl];have h1:=h1 k (by omega);rw [hb] at h1;refine qa h1 (qb hb ?_);rw [qf]
 |false=>
  have h1:=h1 k (by omega);rw [hb] at h1;rw [if_neg (by simp)];by_cases hf:pos s (tb q.1)+(w.length:Int)>(s.length:Int)
  ·have hn:¬w.isPrefixOf (tb q.1)=true:=by
    intro e;have:=(List.isPrefixOf_iff_prefix.1 e).length_le;unfold pos at hf;omega
   rw [if_neg hn];refine qa h1 (qc hb (qb (zD (show IntKind.i64.wrap (pos s (tb q.1)+((BR w).size:Int))>((BR s).size:Int) by rw [w1,qv];exact hf)) ?_));rw [qf]
  ·have hx:=We (k:=w.length) ht;have hwl:w.length<=(tb q.1).length:=by unfold pos at hf;omega
   have cmp:((BR s).extract (pos s (tb q.1)).toNat (IntKind.i64.wrap (pos s (tb q.1)+((BR w).size:Int))).toNat).toList==(BR w).toList↔w.isPrefixOf (tb q.1)=true:=by
    rw [w1,hx,D7,D7,zanG,List.isPrefixOf_iff_prefix,List.prefix_iff_eq_take];exact ⟨λe=>e.symm,λe=>e.symm⟩
   refine qa h1 (qc hb (qc (zd (show ¬IntKind.i64.wrap (pos s (tb q.1)+((BR w).size:Int))>((BR s).size:Int) by rw [w1,qv];exact hf)) (qb (zD (show 0<=pos s (tb q.1)/\pos s (tb q.1)<=IntKind.i64.wrap (pos s (tb q.1)+((BR w).size:Int))/\IntKind.i64.wrap (pos s (tb q.1)+((BR w).size:Int))<=((BR s).size:Int) by rw [w1,qv];exact ⟨SA _ _,by omega,by omega⟩)) ?_)));by_cases hp:w.isPrefixOf (tb q.1)=true
   ·rw [if_pos hp];refine qc (Ep (cmp.2 hp)) ?_;rw [qf];show some (true,BR s,IntKind.i64.wrap (pos s (tb q.1)+((BR w).size:Int)),q.2.1,q.2.2.length,q.2.2.map qo)=_;rw [w1,RI ht rfl hwl];rfl
   ·rw [if_neg hp];refine qb (HQ (by rw [aE];exact λe=>hp (cmp.1 e))) ?_;rw [qf]
theorem Q5 {s:List UInt8} (x:Nd) (q:PS) (h:q.2.2.length<=5000) (hx:Wa x):Ev (DX · x.1 x.2.1 x.2.2.1 x.2.2.2.1 x.2.2.2.2.1 x.2.2.2.2.2.1 x.2.2.2.2.2.2.1 x.2.2.2.2.2.2.2.1 x.2.2.2.2.2.2.2.2.1 x.2.2.2.2.2.2.2.2.2.1 x.2.2.2.2.2.2.2.2.2.2.1 x.2.2.2.2.2.2.2.2.2.2.2.1 x.2.2.2.2.2.2.2.2.2.2.2.2.1 ((kd x).map Eo) (BR s) (pos s q.1) q.2.1 q.2.2.length (q.2.2.map qo)) (G6 s (JK x q)):=by
 obtain ⟨n1,h1⟩:=OT x (by have:=hx.2;omega);refine ⟨n1+1,λn hn=>?_⟩;obtain ⟨k,rfl,hm⟩:=up1 hn;have w2:IntKind.i64.wrap ((((q.2.2.length+1):Nat):Int)-1)=(q.2.2.length:Int):=by rw [ql (by omega)];omega
 refine qb rfl (qb (zD ⟨by simp,by decide,by decide,by simp;omega,rfl⟩) ?_);unfold JK;by_cases h6:60<q.2.2.length+1
 ·rw [if_pos (.inl h6)];refine qb (zD (by omega)) ?_;rw [qf,w2];simp only [G6,HU,List.map_append,zamO];rfl
 ·refine qc (zd (by omega)) (qa (h1 k (by omega)) ?_);cases ho:GN x with
  |true=>
   rw [if_neg (λe=>e.elim h6 (by simp))];refine qc rfl ?_;rw [qf,w2];simp only [G6,HU,List.map_append,zamO];rfl
  |false=>
   rw [if_pos (.inr rfl)];refine qb rfl ?_;rw [qf,w2];simp only [G6,HU,List.map_append,zamO];rfl
theorem Vd {s:List UInt8} (hs:s.length<=1000) (n:Nat) (at0:Int) (b:Bool) (m:Nat) (rows:List (List PV)):∀(r:List UInt8) (M:Nat),r<:+s->r.length+1<=M->zE (GU n) M (at0,BR s,pos s r,b,m,rows)=some (at0,BR s,pos s (wr r),b,m,rows)
 |r,0,_,h=>by omega
 | [],M+1,h,_=>by
  exact qd (qc (zd (show ¬pos s []<((BR s).size:Int) by rw [qv];unfold pos;simp)) rfl)
 |c::t,M+1,h,hM=>by
  have hl:=H6 h;simp only [zamM] at hl hM;have g:=T1 h;have p1:pos s (c::t)<((BR s).size:Int):=by rw [qv];unfold pos;simp only [zamM];omega
  have p0:decide (0<=pos s (c::t))=true:=zD (SA _ _);have w1:IntKind.i64.wrap (pos s (c::t)+1)=pos s t:=by
   have:=RI (k:=1) h (t:=t) rfl (by simp);rw [ql (by unfold pos;omega)];exact this
  have yes:(wch c=true)->(GU n (at0,BR s,pos s (c::t),b,m,rows)).run=some (.inl (at0,BR s,pos s t,b,m,rows)):=λhc=>by
   have fin:some (Sum.inl (at0,BR s,IntKind.i64.wrap (pos s (c::t)+1),b,m,rows))=(some (Sum.inl (at0,BR s,pos s t,b,m,rows)):Option (_⊕(Int×BA×Int×Bool×Nat×List (List PV)))):=by rw [w1]
   refine qb (zD p1) (qb p0 (qa g ?_));by_cases a1:(c.toNat:Int)≥65
   ·refine qb (zD a1) (qb p0 (qa g ?_));by_cases a2:(c.toNat:Int)<=90
    ·exact qb (zD a2) fin
    ·refine qc (zd a2) (qb p0 (qa g ?_));by_cases a3:(c.toNat:Int)≥48
     ·refine qb (zD a3) (qb p0 (qa g ?_));by_cases a4:(c.toNat:Int)<=57
      ·exact qb (zD a4) fin
      ·refine qc (zd a4) (qb p0 (qa g ?_));have a5:c=36:=by
        unfold wch at hc;simp only [Bool.or_eq_true,zL,aC,zanG] at hc;rcases hc with hc|hc|hc
        ·omega
        ·omega
        ·exact hc
       exact qb (by rw [a5];rfl) fin
     ·omega
   ·refine qc (zd a1) (qb p0 (qa g ?_));by_cases a3:(c.toNat:Int)≥48
    ·refine qb (zD a3) (qb p0 (qa g ?_));by_cases a4:(c.toNat:Int)<=57
     ·exact qb (zD a4) fin
     ·refine qc (zd a4) (qb p0 (qa g ?_));have a5:c=36:=by
       unfold wch at hc;simp only [Bool.or_eq_true,zL,aC,zanG] at hc;rcases hc with hc|hc|hc
       ·omega
       ·omega
       ·exact hc
      exact qb (by rw [a5];rfl) fin
    ·refine qc (zd a3) (qb p0 (qa g ?_));have a5:c=36:=by
      unfold wch at hc;simp only [Bool.or_eq_true,zL,aC,zanG] at hc;rcases hc with hc|hc|hc
      ·omega
      ·omega
      ·exact hc
     exact qb (by rw [a5];rfl) fin
  have no:(wch c=false)->(GU n (at0,BR s,pos s (c::t),b,m,rows)).run=some (.inr (at0,BR s,pos s (c::t),b,m,rows)):=λhc=>by
   have hc':¬((65<=c.toNat/\c.toNat<=90)\/(48<=c.toNat/\c.toNat<=57)\/c=36):=λe=>by
    have:wch c=true:=by
     unfold wch;simp only [Bool.or_eq_true,zL,aC,zanG];exact e
    rw [hc] at this;cases this
   have a5:((c.toNat:Int)==36)=false:=by
    rw [zanF];intro e;exact hc' (.inr (.inr (UInt8.toNat_inj.1 (show c.toNat=36 by omega))))
   refine qb (zD p1) (qb p0 (qa g ?_));by_cases a1:(c.toNat:Int)≥65
   ·have a2:¬(c.toNat:Int)<=90:=λe=>hc' (.inl ⟨by omega,by omega⟩)
    refine qb (zD a1) (qb p0 (qa g (qc (zd a2) ?_)));refine qb p0 (qa g (qb (zD (show (c.toNat:Int)≥48 by omega)) ?_));exact qb p0 (qa g (qc (zd (show ¬(c.toNat:Int)<=57 by omega)) (qb p0 (qa g (qc a5 rfl)))))
   ·refine qc (zd a1) (qb p0 (qa g ?_));by_cases a3:(c.toNat:Int)≥48
    ·have a4:¬(c.toNat:Int)<=57:=λe=>hc' (.inr (.inl ⟨by omega,by omega⟩))
     exact qb (zD a3) (qb p0 (qa g (qc (zd a4) (qb p0 (qa g (qc a5 rfl))))))
    ·exact qc (zd a3) (qb p0 (qa g (qc a5 rfl)))
  cases hc:wch c with
  |true=>
   rw [qm (yes hc),show wr (c::t)=wr t by simp [wr,hc]];exact Vd hs n at0 b m rows t M (Xg h) (by omega)
  |false=>
   rw [qd (no hc),show wr (c::t)=c::t by simp [wr,hc]]
theorem Xh {s:List UInt8} (hs:s.length<=1000) (q:PS) (h:q.1<:+s):Ev (He · (BR s) (pos s q.1) q.2.1 q.2.2.length (q.2.2.map qo)) (BR (wd q.1),HU s (wr q.1,q.2)):=by
 have hl:=H6 h;have hw:=M1 q.1;have hd:=congrArg List.length (wdr q.1);simp only [zamO] at hd;refine ⟨q.1.length+2,λn hn=>?_⟩;obtain ⟨k,rfl,hm⟩:=up1 hn;refine qa (Vd hs k (pos s q.1) q.2.1 q.2.2.length (q.2.2.map qo) q.1 k h (by omega)) (qb (zD ⟨SA _ _,by unfold pos;simp only;omega,by rw [qv];unfold pos;simp only;omega⟩) ?_);rw [qf];have e:(pos s (wr q.1))=pos s q.1+((wd q.1).length:Int):=by unfold pos;omega
 have x:=We (k:=(wd q.1).length) h;rw [<-e] at x;have t:q.1.take (wd q.1).length=wd q.1:=by
  have:=List.take_left (l₁:=wd q.1) (l₂:=wr q.1)
  rwa [wdr] at this
 rw [t] at x;show some ((BR s).extract (pos s q.1).toNat (pos s (wr q.1)).toNat,_)=_;rw [x];rfl
theorem NY {s:List UInt8} (hs:s.length<=1000) {n:Nat} (b:Bool) (l:List Nd) (res:Int×PS):∀(k:Nat) (r acc:List UInt8) (M:Nat),r.length<=k->r<:+s->acc.length+r.length<=1001->r.length+1<=M->
  (∀w t,F4 acc r=some (w,t)->DX n 1 0 2 0 (BR w) 0 0 false false 0 0 false false [] (BR s) (pos s t) b l.length (l.map qo)=some (G6 s res))->
  zE (I4 n) M (BR acc,BR s,pos s r,b,l.length,l.map qo)=some (match F4 acc r with
   |none=> .inr (BR s,pos s [],b,l.length,l.map qo)
   |some _=> .inl (G6 s res))
 |k,r,acc,0,_,_,_,h,_=>by omega
 |k,[],acc,M+1,_,h,_,_,_=>by
  exact qd (qc (zd (show ¬pos s []<((BR s).size:Int) by rw [qv];unfold pos;simp)) rfl)
 |0,c::t,acc,M+1,hk,_,_,_,_=>by simp at hk
 |k+1,c::t,acc,M+1,hk,h,ha,hM,hr=>by
  have hl:=H6 h;simp only [zamM] at hl hM hk ha;have g:=T1 h;have p1:pos s (c::t)<((BR s).size:Int):=by rw [qv];unfold pos;simp only [zamM];omega
  have p0:decide (0<=pos s (c::t))=true:=zD (SA _ _);have pa:=RI (k:=1) h (t:=t) rfl (by simp);have w1:IntKind.i64.wrap (pos s (c::t)+1)=pos s t:=by rw [ql (by unfold pos;omega)];exact pa
  by_cases hc:c=34
  ·subst hc;have ht:=Xg h;by_cases hq:t.head?=some 34
   ·obtain ⟨u,rfl⟩:=RH hq;simp only [zamM] at hl hM hk ha;rw [mr] at hr⊢;have g2:=T1 ht;have pb:=RI (k:=1) ht (t:=u) rfl (by simp);have w2:IntKind.i64.wrap (pos s (34::u)+1)=pos s u:=by rw [ql (by unfold pos;omega)];exact pb
    rw [qm (v':=(BR (acc++ [34]),BR s,pos s u,b,l.length,l.map qo)) (by
     refine qb (zD p1) (qb p0 (qa g (qc rfl (qc (zd (show ¬IntKind.i64.wrap (pos s (34::34::u)+1)≥((BR s).size:Int) by rw [w1,qv];unfold pos;simp only [zamM];omega)) (qb (zD (show 0<=IntKind.i64.wrap (pos s (34::34::u)+1) by rw [w1];exact SA _ _)) (qa (x:=34) (by show (BR s).toList[(IntKind.i64.wrap (pos s (34::34::u)+1)).toNat]?=_;rw [w1];exact g2) (qc rfl (qb (zD (show (BR acc).size+1<=9223372036854775807 by rw [qv];omega)) ?_))))))));rw [qf];show some (Sum.inl (BR acc++BR [34],BR s,IntKind.i64.wrap (IntKind.i64.wrap (pos s (34::34::u)+1)+1),b,l.length,l.map qo))=_;rw [w1,w2,VI])]
    exact NY hs b l res k u _ M (by omega) (Xg ht) (by simp;omega) (by omega) hr
   ·rw [mu acc t hq] at hr⊢;have hr:=hr acc t rfl;refine qd (qb (zD p1) (qb p0 (qa g (qc rfl ?_))));cases t with
    |nil=>
     refine qb (zD (show IntKind.i64.wrap (pos s [34]+1)≥((BR s).size:Int) by rw [w1,qv];unfold pos;simp)) ?_;rw [<-w1] at hr;exact qa hr rfl
    |cons d u=>
     have g2:=T1 ht;have hd:¬d=34:=λe=>hq (by rw [e];rfl)
     refine qc (zd (show ¬IntKind.i64.wrap (pos s (34::d::u)+1)≥((BR s).size:Int) by rw [w1,qv];unfold pos;simp only [zamM] at hl⊢;omega)) (qb (zD (show 0<=IntKind.i64.wrap (pos s (34::d::u)+1) by rw [w1];exact SA _ _)) (qa (x:=d) (by show (BR s).toList[(IntKind.i64.wrap (pos s (34::d::u)+1)).toNat]?=_;rw [w1];exact g2) (qb ?_ ?_)))
     ·rw [bne_iff_ne];intro e;exact hd (UInt8.toNat_inj.1 (show d.toNat=34 by omega))
     ·rw [<-w1] at hr;exact qa hr rfl
  ·rw [mw acc t hc] at hr⊢;have hx:=We (k:=1) h;rw [show ((1:Nat):Int)=1 from rfl] at hx pa;have hx:(BR s).extract (pos s (c::t)).toNat (IntKind.i64.wrap (pos s (c::t)+1)).toNat=BR [c]:=by
    rw [w1,<-pa];exact hx
   rw [qm (v':=(BR (acc++ [c]),BR s,pos s t,b,l.length,l.map qo)) (by
    refine qb (zD p1) (qb p0 (qa g (qb ?_ (qb (zD (show 0<=pos s (c::t)/\pos s (c::t)<=IntKind.i64.wrap (pos s (c::t)+1)/\IntKind.i64.wrap (pos s (c::t)+1)<=((BR s).size:Int) by rw [w1,qv];exact ⟨SA _ _,by unfold pos;simp only [zamM];omega,by unfold pos;omega⟩)) (qb (zD (show (BR acc).size+((BR s).extract (pos s (c::t)).toNat (IntKind.i64.wrap (pos s (c::t)+1)).toNat).size<=9223372036854775807 by rw [hx,qv,qv];simp;omega)) ?_)))))
    ·rw [bne_iff_ne];intro e;exact hc (UInt8.toNat_inj.1 (show c.toNat=34 by omega))
    ·rw [qf];show some (Sum.inl (BR acc++(BR s).extract (pos s (c::t)).toNat (IntKind.i64.wrap (pos s (c::t)+1)).toNat,BR s,IntKind.i64.wrap (pos s (c::t)+1),b,l.length,l.map qo))=_;rw [hx,VI,w1])]
   exact NY hs b l res k t _ M (by omega) (Xg h) (by simp;omega) (by omega) hr
theorem iq {s:List UInt8} (hs:s.length<=1000) (q:PS) (h:q.1<:+s) (hn:q.2.2.length<=5000):Ev (Kc · (BR s) (pos s q.1) q.2.1 q.2.2.length (q.2.2.map qo)) (G6 s (match F4 [] q.1 with
  |none=>(0,[],true,q.2.2)
  |some (w,t)=>JK (nd1 (2,0,BR w)) (t,q.2))):=by
 have hl:=H6 h;cases hq:F4 [] q.1 with
 |none=>
  refine ⟨q.1.length+2,λn hn=>?_⟩;obtain ⟨k,rfl,hm⟩:=up1 hn;have lp:=NY hs (n:=k) q.2.1 q.2.2 (0,q) q.1.length q.1 [] k (zK _) h (by simp;omega) (by omega) (λw t e=>by rw [hq] at e;cases e);rw [hq] at lp;exact qa lp rfl
 |some wt=>
  obtain ⟨w,t⟩:=wt;have hw:=M3 _ _ _ (zK _) hq;simp only [zanD] at hw;obtain ⟨n1,h1⟩:=Q5 (s:=s) (nd1 (2,0,BR w)) (t,q.2) hn ⟨by simp [kd,nd1],by simp only [nd1,qv];omega⟩;refine ⟨n1+q.1.length+2,λn hn=>?_⟩;obtain ⟨k,rfl,hm⟩:=up1 hn;have lp:=NY hs (n:=k) q.2.1 q.2.2 (JK (nd1 (2,0,BR w)) (t,q.2)) q.1.length q.1 [] k (zK _) h (by simp;omega) (by omega) (λw' t' e=>by rw [hq] at e;cases e;exact h1 k (by omega));rw [hq] at lp;exact qa lp rfl
theorem Zg:∀o∈Gg,(DJ o).toList≠ []/\(DJ o).size<=2:=by decide+kernel
theorem ir:∀o∈Gg,1<=o/\o<=11:=by decide
def opR:List (List PV):=Gg.map Eo
def rsL (level:Int) (r:List UInt8):List Int->List UInt8
 | []=>r
 |o::l=>if lvl o=level then rsL level (tb r) l else rsL level r l
theorem VL {s:List UInt8} (hs:s.length<=1000) {n:Nat} (level:Int) (R:List UInt8) (hR:tb R=R) (m:Nat) (rows:List (List PV))
  (h1:∀o∈Gg,Gp n o=some (lvl o)) (h2:∀o∈Gg,Gh n o=some (DJ o)):
  ∀(k i:Nat) (r:List UInt8) (M:Nat),i+k=11->k+1<=M->tb r=R->
  (∀r',tb r'=R->(r'=r\/r'=R)->∀o∈Gg,Dn n (DJ o) (BR s) (pos s r') false m rows=some (if (DJ o).toList.isPrefixOf R=true then (true,BR s,pos s (R.drop (DJ o).size),false,m,rows) else (false,BR s,pos s R,false,m,rows)))->
  zE (Jw n) M (level,11,(i:Int),opR,BR s,pos s r,false,m,rows)=some (if Iy level R (Gg.drop i)=0 then .inr (BR s,pos s (rsL level r (Gg.drop i)),false,m,rows) else .inl (Iy level R (Gg.drop i),BR s,pos s (R.drop (DJ (Iy level R (Gg.drop i))).size),false,m,rows))
 |k,i,r,0,_,h,_,_=>by omega
 |0,i,r,M+1,hk,_,_,_=>by
  have hi:i=11:=by omega
  subst hi;exact qd (qc rfl rfl)
 |k+1,i,r,M+1,hk,hM,hr,h3=>by
  have hi:i<Gg.length:=by simp [Gg];omega
  obtain ⟨o,ho⟩:∃o,Gg[i]?=some o:=⟨_,zW hi⟩;have hin:=zi ho;have hR2:opR[i]?=some [PV.i .i64 o]:=by simp [opR,zamS,ho,Eo]
  have hc:zC .i64 [PV.i .i64 o] 0=some o:=rfl;have hd:Gg.drop i=o::Gg.drop (i+1):=IG ho;have w5:IntKind.i64.wrap ((i:Int)+1)=((i+1:Nat):Int):=by rw [ql (by omega)];omega
  have g1:decide ((i:Int)<((11:Nat):Int))=true:=zD (by omega);have g2:decide (11=opR.length/\0<=(i:Int)/\(i:Int)<((11:Nat):Int))=true:=zD ⟨rfl,by omega,by omega⟩;have h0:o≠0:=by have:=ir o hin;omega
  rw [hd];by_cases hl:lvl o=level
  ·have is:=h3 r hr (.inl rfl) o hin;by_cases hp:(DJ o).toList.isPrefixOf R=true
   ·have e:Iy level R (o::Gg.drop (i+1))=o:=by unfold Iy;rw [if_pos ⟨hl,hp⟩]
    rw [e,if_neg h0];rw [if_pos hp] at is;exact qd (qb g1 (qb g2 (qa hR2 (qa hc (qa (h1 o hin) (qb (zanG.2 hl) (qb g2 (qa hR2 (qa hc (qa (h2 o hin) (qa is (qb rfl (qb g2 (qa hR2 (qa hc rfl)))))))))))))))
   ·have e:Iy level R (o::Gg.drop (i+1))=Iy level R (Gg.drop (i+1)):=by
     conv=>lhs;unfold Iy
     rw [if_neg (λh=>hp h.2)]
    have e2:rsL level r (o::Gg.drop (i+1))=rsL level R (Gg.drop (i+1)):=by
     conv=>lhs;unfold rsL
     rw [if_pos hl,hr]
    rw [e,e2];rw [if_neg hp] at is;rw [qm (v':=(level,11,((i+1:Nat):Int),opR,BR s,pos s R,false,m,rows)) (by
     refine qb g1 (qb g2 (qa hR2 (qa hc (qa (h1 o hin) (qb (zanG.2 hl) (qb g2 (qa hR2 (qa hc (qa (h2 o hin) (qa is (qc rfl ?_)))))))))));rw [qf,w5])]
    exact VL hs level R hR m rows h1 h2 k (i+1) R M (by omega) (by omega) hR (λr' a b=>h3 r' a (.inr (b.elim id id)))
  ·have e:Iy level R (o::Gg.drop (i+1))=Iy level R (Gg.drop (i+1)):=by
    conv=>lhs;unfold Iy
    rw [if_neg (λh=>hl h.1)]
   have e2:rsL level r (o::Gg.drop (i+1))=rsL level r (Gg.drop (i+1)):=by
    conv=>lhs;unfold rsL
    rw [if_neg hl]
   rw [e,e2];rw [qm (v':=(level,11,((i+1:Nat):Int),opR,BR s,pos s r,false,m,rows)) (by
    refine qb g1 (qb g2 (qa hR2 (qa hc (qa (h1 o hin) (qc (zanF.2 hl) ?_)))));rw [qf,w5])]
   exact VL hs level R hR m rows h1 h2 k (i+1) r M (by omega) (by omega) hr h3
theorem pk {level:Int} (h:1<=level/\level<=4) (r:List UInt8):rsL level r Gg=tb r:=by
 have c:level=1\/level=2\/level=3\/level=4:=by omega
 rcases c with rfl|rfl|rfl|rfl<;>simp [rsL,Gg,lvl,G5]
theorem pm {s:List UInt8} (hs:s.length<=1000) {level:Int} (hl:1<=level/\level<=4) (q:PS) (hb:q.2.1=false) (h:q.1<:+s):Ev (Jx · level (BR s) (pos s q.1) q.2.1 q.2.2.length (q.2.2.map qo)) (G6 s (sOp level q)):=by
 obtain ⟨n1,h1⟩:=Eu (F:=λo n=>Gp n o) (f:=lvl) Gg (λo _=>Pt o);obtain ⟨n2,h2⟩:=Eu (F:=λo n=>Gh n o) (f:=DJ) Gg (λo ho=>Mz o (ir o ho));obtain ⟨n3,h3⟩:=Eu (F:=λo n=>Dn n (DJ o) (BR s) (pos s q.1) q.2.1 q.2.2.length (q.2.2.map qo)) (f:=λo=>((sIs (DJ o).toList q).1,HU s (sIs (DJ o).toList q).2)) Gg (λo ho=>by
  have:=M4 hs (DJ o).toList (by rw [Dz];have:=(Zg o ho).2;omega) q h
  rwa [KM] at this)
 obtain ⟨n4,h4⟩:=Eu (F:=λo n=>Dn n (DJ o) (BR s) (pos s (tb q.1)) q.2.1 q.2.2.length (q.2.2.map qo)) (f:=λo=>((sIs (DJ o).toList (tb q.1,q.2)).1,HU s (sIs (DJ o).toList (tb q.1,q.2)).2)) Gg (λo ho=>by
  have:=M4 hs (DJ o).toList (by rw [Dz];have:=(Zg o ho).2;omega) (tb q.1,q.2) (au h)
  rwa [KM] at this)
 refine ⟨n1+n2+n3+n4+13,λn hn=>?_⟩;obtain ⟨k,rfl,hm⟩:=up1 hn;have lp:=VL hs (n:=k) level (tb q.1) (G5 q.1) q.2.2.length (q.2.2.map qo) (h1 k (by omega)) (h2 k (by omega)) 11 0 q.1 k (by omega) (by omega) rfl (λr' _ hr' o ho=>by
  rcases hr' with rfl|rfl
  ·have:=h3 k (by omega) o ho;rw [hb] at this;refine this.trans ?_;unfold sIs;rw [if_neg (by rw [hb];simp)];by_cases hp:(DJ o).toList.isPrefixOf (tb q.1)=true
   ·rw [if_pos hp,if_pos hp,Dz];simp only [HU,hb]
   ·rw [if_neg hp,if_neg hp];simp only [HU,hb]
  ·have:=h4 k (by omega) o ho;rw [hb] at this;refine this.trans ?_;unfold sIs;rw [if_neg (by rw [hb];simp)];simp only [G5];by_cases hp:(DJ o).toList.isPrefixOf (tb q.1)=true
   ·rw [if_pos hp,if_pos hp,Dz];simp only [HU,hb]
   ·rw [if_neg hp,if_neg hp];simp only [HU,hb])
 rw [List.drop_zero,pk hl] at lp;unfold sOp;rw [if_neg (by rw [hb];simp)];show Jx (k+1) level (BR s) (pos s q.1) q.2.1 q.2.2.length (q.2.2.map qo)=_;rw [hb];by_cases h0:Iy level (tb q.1) Gg=0
 ·rw [if_pos h0] at lp;rw [if_pos h0];refine qa lp ?_;simp only [G6,HU,hb,h0];rfl
 ·rw [if_neg h0] at lp;rw [if_neg h0];refine qa lp ?_;simp only [G6,HU,hb];rfl
theorem Xi {s:List UInt8} (hs:s.length<=1000) {n:Nat} (r:List UInt8) (hr:r<:+s) (b:Bool) (l:List Nd)
  (h1:∀i,1<=i/\i<=5->FV n i=some (qt i)) (h2:∀i,1<=i/\i<=5->Hd n i=some (4,i,em))
  (h4:∀i,1<=i/\i<=5->DX n 1 0 4 i em 0 0 false false 0 0 false false [] (BR s) (pos s (r.drop ((qt i).size-1))) b l.length (l.map qo)=some (G6 s (JK (nd1 (4,i,em)) (r.drop ((qt i).size-1),b,l)))):
  ∀(k:Nat) (i:Int) (M:Nat),1<=i->i+k=6->k+1<=M->zE (HG n) M (i,BR s,pos s r,b,l.length,l.map qo)=some (match f7 r i k with
   |some e=> .inl (G6 s (JK (nd1 (4,e,em)) (r.drop ((qt e).size-1),b,l)))
   |none=> .inr (BR s,pos s r,b,l.length,l.map qo))
 |k,i,0,_,_,h=>by omega
 |0,i,M+1,hi,hk,h=>by
  exact qd (qc (zd (show ¬i<=5 by omega)) rfl)
 |k+1,i,M+1,hi,hk,h=>by
  have hi5:1<=i/\i<=5:=⟨hi,by omega⟩;have hsz:1<=(qt i).size/\(qt i).size<=7:=by
   have c:i=1\/i=2\/i=3\/i=4\/i=5:=by omega
   rcases c with rfl|rfl|rfl|rfl|rfl<;>decide+kernel
  have hx:(qt i).extract ((1:Int)).toNat (((qt i).size:Nat):Int).toNat=BR (qt i).toList.tail:=by
   conv=>lhs;rw [<-KM (qt i)]
   rw [Ko,qv,Dz]
   congr 1
   rw [bO,List.take_of_length_le (by rw [Dz];omega)];exact List.drop_one
  have hxs:((qt i).extract ((1:Int)).toNat (((qt i).size:Nat):Int).toNat).size=(qt i).size-1:=by
   rw [hx,qv,List.length_tail,Dz]
  have hl:=H6 hr;have w1:IntKind.i64.wrap (pos s r+(((qt i).extract ((1:Int)).toNat (((qt i).size:Nat):Int).toNat).size:Int))=pos s r+(((qt i).size-1:Nat):Int):=by
   rw [hxs];exact ql (by unfold pos;omega)
  have w2:IntKind.i64.wrap (i+1)=i+1:=ql (by omega);have ih:=Xi hs r hr b l h1 h2 h4 k (i+1) M (by omega) (by omega) (by omega);unfold f7;by_cases hf:pos s r+(((qt i).size-1:Nat):Int)<=(s.length:Int)
  ·have hk2:(qt i).size-1<=r.length:=by unfold pos at hf;omega
   have cmp:(((BR s).extract (pos s r).toNat (IntKind.i64.wrap (pos s r+(((qt i).extract ((1:Int)).toNat (((qt i).size:Nat):Int).toNat).size:Int))).toNat).toList==((qt i).extract ((1:Int)).toNat (((qt i).size:Nat):Int).toNat).toList)=true↔(qt i).toList.tail.isPrefixOf r=true:=by
    rw [w1,We hr,hx,D7,D7,zanG,List.isPrefixOf_iff_prefix,List.prefix_iff_eq_take,List.length_tail,Dz];exact ⟨λe=>e.symm,λe=>e.symm⟩
   have g1:decide (IntKind.i64.wrap (pos s r+(((qt i).extract ((1:Int)).toNat (((qt i).size:Nat):Int).toNat).size:Int))<=((BR s).size:Int))=true:=zD (by rw [w1,qv];exact hf);have g2:decide (0<=pos s r/\pos s r<=IntKind.i64.wrap (pos s r+(((qt i).extract ((1:Int)).toNat (((qt i).size:Nat):Int).toNat).size:Int))/\IntKind.i64.wrap (pos s r+(((qt i).extract ((1:Int)).toNat (((qt i).size:Nat):Int).toNat).size:Int))<=((BR s).size:Int))=true:=zD (by rw [w1,qv];exact ⟨SA _ _,by omega,hf⟩);by_cases hp:(qt i).toList.tail.isPrefixOf r=true
   ·rw [if_pos hp];have h4:=h4 i hi5;rw [<-RI hr rfl hk2,<-w1] at h4;exact qd (qb (zD (show i<=5 by omega)) (qa (h1 i hi5) (qb (zD ⟨by decide,by omega,Int.le_refl _⟩) (qb g1 (qb g2 (qb (cmp.2 hp) (qa (h2 i hi5) (qa h4 rfl))))))))
   ·rw [if_neg hp];rw [qm (v':=(i+1,BR s,pos s r,b,l.length,l.map qo)) (by
     refine qb (zD (show i<=5 by omega)) (qa (h1 i hi5) (qb (zD ⟨by decide,by omega,Int.le_refl _⟩) (qb g1 (qb g2 (qc (by rw [aE];exact λe=>hp (cmp.1 e)) ?_)))));rw [qf,w2])]
    exact ih
  ·have hp:¬(qt i).toList.tail.isPrefixOf r=true:=by
    intro e;have:=(List.isPrefixOf_iff_prefix.1 e).length_le;rw [List.length_tail,Dz] at this;unfold pos at hf;omega
   rw [if_neg hp];rw [qm (v':=(i+1,BR s,pos s r,b,l.length,l.map qo)) (by
    refine qb (zD (show i<=5 by omega)) (qa (h1 i hi5) (qb (zD ⟨by decide,by omega,Int.le_refl _⟩) (qc (zd (by rw [w1,qv];exact hf)) ?_)));rw [qf,w2])]
   exact ih
theorem ng {s:List UInt8} (hs:s.length<=1000) (r:List UInt8) (hr:r<:+s) (b:Bool) (l:List Nd) (hl:l.length<=5000):∃n0,∀n,n0<=n->∀M,n0<=M->zE (HG n) M (1,BR s,pos s r,b,l.length,l.map qo)=some (match f7 r 1 5 with
   |some e=> .inl (G6 s (JK (nd1 (4,e,em)) (r.drop ((qt e).size-1),b,l)))
   |none=> .inr (BR s,pos s r,b,l.length,l.map qo)):=by
 obtain ⟨n1,h1⟩:=L5 (F:=FV) (f:=qt) (lo:=1) (by decide) (λi hi=>Mx i ⟨by omega,hi.2⟩);obtain ⟨n2,h2⟩:=L5 (F:=Hd) (f:=λi=>(4,i,em)) (lo:=1) (by decide) (λi _=>WV i);obtain ⟨n4,h4⟩:=L5 (F:=λn i=>DX n 1 0 4 i em 0 0 false false 0 0 false false [] (BR s) (pos s (r.drop ((qt i).size-1))) b l.length (l.map qo)) (f:=λi=>G6 s (JK (nd1 (4,i,em)) (r.drop ((qt i).size-1),b,l))) (lo:=1) (by decide) (λi _=>Q5 (s:=s) (nd1 (4,i,em)) (r.drop ((qt i).size-1),b,l) hl ⟨by simp [kd,nd1],by simp [nd1,em];decide⟩);exact ⟨n1+n2+n4+7,λn hn M hM=>Xi hs r hr b l (h1 n (by omega)) (h2 n (by omega)) (h4 n (by omega)) 5 1 M (by omega) (by omega) (by omega)⟩
theorem nh:∃n0,∀n,n0<=n->∀i,1<=i/\i<=10->HE n i=some (fnS i):=by
 obtain ⟨n1,h1⟩:=Eu (F:=λ(i:Nat) n=>HE n ((i:Int)+1)) (f:=λi=>fnS ((i:Int)+1)) (List.range 10) (λi hi=>Ts _ (by have:=List.mem_range.1 hi;omega));refine ⟨n1,λn hn i hi=>?_⟩;have:=h1 n hn (i-1).toNat (List.mem_range.2 (by omega))
 rwa [show (((i-1).toNat:Nat):Int)+1=i by omega] at this
theorem pn {i j:Int} (hi:1<=i/\i<=10) (hj:1<=j/\j<=10) (h:(fnS i).toList=(fnS j).toList):i=j:=by
 have t:∀a:Fin 10,∀b:Fin 10,(fnS (((a.val:Nat):Int)+1)).toList=(fnS (((b.val:Nat):Int)+1)).toList->a=b:=by decide+kernel
 have:=t ⟨(i-1).toNat,by omega⟩ ⟨(j-1).toNat,by omega⟩ (by
  simp only;rw [show (((i-1).toNat:Nat):Int)+1=i by omega,show (((j-1).toNat:Nat):Int)+1=j by omega];exact h)
 have:=congrArg Fin.val this;simp only at this;omega
theorem Yw {g:G_spec_l3Rd_row} {n:Nat} {s:List UInt8} (w:List UInt8) (q:PS) (h1:∀i,1<=i/\i<=10->HE n i=some (fnS i)):
  ∀(k:Nat) (i:Int) (M:Nat),1<=i->i+k=11->k+1<=M->(∀j,i<=j/\j<=10->(fnS j).toList≠w)->zE (Hr g n) M (BR w,i,HU s q)=some (.inr (BR w,HU s q))
 |k,i,0,_,_,h,_=>by omega
 |0,i,M+1,hi,hk,h,_=>qd (qc (zd (show ¬i<=10 by omega)) rfl)
 |k+1,i,M+1,hi,hk,h,hn=>by
  have w1:IntKind.i64.wrap (i+1)=i+1:=ql (by omega);rw [qm (v':=(BR w,i+1,HU s q)) (by
   refine qb (zD (show i<=10 by omega)) (qa (h1 i ⟨hi,by omega⟩) (qc (by rw [zanF];show (fnS i).toList≠(BR w).toList;rw [D7];exact hn i ⟨Int.le_refl _,by omega⟩) ?_));rw [qf,w1])]
  exact Yw w q h1 k (i+1) M (by omega) (by omega) (by omega) (λj hj=>hn j ⟨by omega,hj.2⟩)
theorem RJ {g:G_spec_l3Rd_row} {n:Nat} {s:List UInt8} (w:List UInt8) (q:PS) (res:Int->Int×PS) (h1:∀i,1<=i/\i<=10->HE n i=some (fnS i))
  (h2:Dn n ⟨#[40]⟩ (BR s) (pos s q.1) q.2.1 q.2.2.length (q.2.2.map qo)=some ((sIs [40] q).1,HU s (sIs [40] q).2)):
  ∀(k:Nat) (i:Int) (M:Nat),1<=i->i+k=11->k+1<=M->(∀op,LE w i k=some op->(sIs [40] q).1=true->g.spec_l3Rd_call op (BR s) (pos s (sIs [40] q).2.1) (sIs [40] q).2.2.1 (sIs [40] q).2.2.2.length ((sIs [40] q).2.2.2.map qo)=some (G6 s (res op)))->
   zE (Hr g n) M (BR w,i,HU s q)=some (match LE w i k with
   |some op=>if (sIs [40] q).1=true then .inl (G6 s (res op)) else .inr (BR w,HU s (sIs [40] q).2)
   |none=> .inr (BR w,HU s q))
 |k,i,0,_,_,h,_=>by omega
 |0,i,M+1,hi,hk,h,_=>qd (qc (zd (show ¬i<=10 by omega)) rfl)
 |k+1,i,M+1,hi,hk,h,hc=>by
  have w1:IntKind.i64.wrap (i+1)=i+1:=ql (by omega);unfold LE at hc⊢;by_cases hq:(fnS i).toList=w
  ·rw [if_pos hq] at hc⊢;have hqb:((fnS i).toList==(BR w).toList)=true:=by rw [zanG,D7];exact hq
   simp only;cases hi2:(sIs [40] q).1 with
   |true=>
    rw [if_pos rfl];exact qd (qb (zD (show i<=10 by omega)) (qa (h1 i ⟨hi,by omega⟩) (qb hqb (qa h2 (qb hi2 (qa (hc i rfl hi2) rfl))))))
   |false=>
    rw [if_neg (by simp)];rw [qm (v':=(BR w,i+1,HU s (sIs [40] q).2)) (by
     refine qb (zD (show i<=10 by omega)) (qa (h1 i ⟨hi,by omega⟩) (qb hqb (qa h2 (qc hi2 ?_))));rw [qf,w1])]
    exact Yw w _ h1 k (i+1) M (by omega) (by omega) (by omega) (λj hj e=>by
     have:=pn (i:=i) (j:=j) ⟨hi,by omega⟩ ⟨by omega,hj.2⟩ (hq.trans e.symm);omega)
  ·rw [if_neg hq] at hc⊢;rw [qm (v':=(BR w,i+1,HU s q)) (by
    refine qb (zD (show i<=10 by omega)) (qa (h1 i ⟨hi,by omega⟩) (qc (by rw [zanF];show (fnS i).toList≠(BR w).toList;rw [D7];exact hq) ?_));rw [qf,w1])]
   exact RJ w q res h1 h2 k (i+1) M (by omega) (by omega) (by omega) hc
structure Go (k:Nat) (q q':PS):Prop where
 suf:q'.1<:+q.1
 sum:q'.2.2.length+q'.1.length+k<=q.2.2.length+q.1.length
 sm:(∀x∈q.2.2,Wa x)->∀x∈q'.2.2,Wa x
theorem Go.refl (q:PS):Go 0 q q:=⟨List.suffix_rfl,zK _,id⟩
theorem Go.trans {a b:Nat} {p q r:PS} (h:Go a p q) (h':Go b q r):Go (a+b) p r:=⟨h'.suf.trans h.suf,by have:=h.sum;have:=h'.sum;omega,λe=>h'.sm (h.sm e)⟩
theorem Go.tr0 {p q r:PS} (h:Go 0 p q) (h':Go 0 q r):Go 0 p r:=h.trans h'
theorem Go.add {p q:PS} {x:Nd} (h:Go 1 p q) (hx:Wa x):Go 0 p (JK x q).2:=by
 refine ⟨h.suf,?_,λe y hy=>?_⟩
 ·have:=h.sum;simp only [JK,zamO,List.length_singleton];omega
 ·simp only [JK,List.mem_append,zamQ] at hy;rcases hy with hy|rfl
  ·exact h.sm e y hy
  ·exact hx
theorem Go.weak {k:Nat} {p q:PS} (h:Go k p q):Go 0 p q:=⟨h.suf,by have:=h.sum;omega,h.sm⟩
theorem Go.of (q:PS) {r:List UInt8} (b:Bool) {k:Nat} (h:r<:+q.1) (hk:r.length+k<=q.1.length):Go k q (r,b,q.2.2):=⟨h,by simp only;omega,id⟩
theorem T2 (q:PS):Go 0 q (tb q.1,q.2):=⟨List.dropWhile_suffix _,by have:=Dj q.1;simp only;omega,id⟩
theorem Yx (q:PS):Go 0 q (wr (tb q.1),q.2):=⟨(List.dropWhile_suffix _).trans (List.dropWhile_suffix _),by have:=Dj q.1;have:=M1 (tb q.1);simp only;omega,id⟩
theorem iu (q:PS) (h:wd (tb q.1)≠ []):Go 1 q (wr (tb q.1),q.2):=⟨(List.dropWhile_suffix _).trans (List.dropWhile_suffix _),by
 have:=Dj q.1;have e:=congrArg List.length (wdr (tb q.1));have:=List.length_pos_iff.2 h;simp only [zamO] at e;simp only;omega,id⟩
theorem SB {w:List UInt8} {q:PS} (h:(sIs w q).1=true):w<+:tb q.1/\(sIs w q).2=((tb q.1).drop w.length,q.2)/\q.2.1=false:=by
 unfold sIs at h⊢;split at h
 ·cases h
 ·rename_i hb;rw [if_neg hb];split at h
  ·rename_i hp;rw [if_pos hp];exact ⟨List.isPrefixOf_iff_prefix.1 hp,rfl,by rw [aE];exact hb⟩
  ·cases h
theorem Yy {w:List UInt8} {q:PS} (h:(sIs w q).1=false):(sIs w q).2=(tb q.1,q.2):=by
 unfold sIs at h⊢;split at h
 ·rename_i hb;rw [if_pos hb]
 ·rename_i hb;rw [if_neg hb];split at h
  ·cases h
  ·rename_i hp;rw [if_neg hp]
theorem Q6 (w:List UInt8) (q:PS):Go 0 q (sIs w q).2:=by
 cases h:(sIs w q).1 with
 |true=>
  obtain ⟨_,h2,_⟩:=SB h;rw [h2];exact Go.tr0 (T2 q) ⟨List.drop_suffix _ _,by simp,id⟩
 |false=>rw [Yy h];exact T2 q
theorem KN {w:List UInt8} (hw:w≠ []) {q:PS} (h:(sIs w q).1=true):Go 1 q (sIs w q).2:=by
 obtain ⟨h1,h2,_⟩:=SB h;rw [h2];have l1:=h1.length_le;have l2:=List.length_pos_iff.2 hw;have:=Dj q.1;exact ⟨(List.drop_suffix _ _).trans (List.dropWhile_suffix _),by simp;omega,id⟩
theorem Xj {k:Nat} {p q:PS} (h:Go k p q):Go k p (S0 q):=⟨h.suf,h.sum,h.sm⟩
theorem iy:∀(t r:List UInt8),(tb r).length<=(tb (t++r)).length
 | [],r=>zK _
 |c::t,r=>by
  have ih:=iy t r;have:=Dj (t++r);by_cases hc:c=32
  ·rw [show tb (c::t++r)=tb (t++r) by simp [tb,hc]];exact ih
  ·rw [show tb (c::t++r)=c::(t++r) by simp [tb,hc]];simp only [zamM];omega
theorem Go.tb {k:Nat} {p q:PS} (h:Go k p q):(tb q.1).length<=(tb p.1).length:=by
 obtain ⟨t,ht⟩:=h.suf;rw [<-ht];exact iy t q.1
theorem cr {w:List UInt8} (hw:w≠ []) {q:PS} (h:(sIs w q).1=true):(tb (sIs w q).2.1).length<(tb q.1).length:=by
 obtain ⟨h1,h2,_⟩:=SB h;rw [h2];exact Ze hw h1
theorem ct (level:Int) (r:List UInt8):∀l:List Int,Iy level r l≠0->Iy level r l∈l/\(DJ (Iy level r l)).toList<+:r
 | [],h=>absurd rfl h
 |o::l,h=>by
  unfold Iy at h⊢;split at h
  ·rename_i hc;rw [if_pos hc];exact ⟨zamN ..,List.isPrefixOf_iff_prefix.1 hc.2⟩
  ·rename_i hc;rw [if_neg hc];have:=ct level r l h;exact ⟨zamR _ this.1,this.2⟩
theorem oo (level:Int) (q:PS):Go 0 q (sOp level q).2/\((sOp level q).1≠0->Go 1 q (sOp level q).2/\(tb (sOp level q).2.1).length<(tb q.1).length):=by
 unfold sOp;split
 ·exact ⟨T2 q,λh=>absurd rfl h⟩
 ·simp only;by_cases h:Iy level (tb q.1) Gg=0
  ·rw [if_pos h];exact ⟨T2 q,λe=>absurd h e⟩
  ·rw [if_neg h];obtain ⟨h1,h2⟩:=ct level (tb q.1) Gg h;have ne:=(Zg _ h1).1;have l1:=h2.length_le;have l2:=List.length_pos_iff.2 ne;rw [Dz] at l1 l2;have l3:=Dj q.1;have g:Go 1 q ((tb q.1).drop (DJ (Iy level (tb q.1) Gg)).size,q.2):=⟨(List.drop_suffix _ _).trans (List.dropWhile_suffix _),by simp;omega,id⟩;have t:=Ze ne h2;rw [Dz] at t;exact ⟨g.weak,λ_=>⟨g,t⟩⟩
theorem VM:∀(k:Nat) (acc r:List UInt8) {w t:List UInt8},r.length<=k->F4 acc r=some (w,t)->t<:+r
 |k,acc,[],w,t,hk,h=>by simp [F4] at h
 |0,acc,c::r,w,t,hk,h=>by simp at hk
 |k+1,acc,c::r,w,t,hk,h=>by
  simp only [zamM] at hk;by_cases hc:c=34
  ·subst hc;by_cases hq:r.head?=some 34
   ·obtain ⟨u,rfl⟩:=RH hq;rw [mr] at h;simp only [zamM] at hk;have:=VM k _ u (by omega) h;exact this.trans ((List.suffix_cons 34 u).trans (List.suffix_cons 34 _))
   ·rw [mu acc r hq] at h;cases h;exact List.suffix_cons 34 _
  ·rw [mw acc r hc] at h;exact (VM k _ r (by omega) h).trans (List.suffix_cons c _)
def Ks:SJ->PS->Prop
 | .call _ kids,q=>q.2.1=true\/kids.length+q.1.length<=1500
 |_,_=>True
theorem PI {k op:Int} {kids:List Int} (h:kids.length<=2000):Wa (ndK k op kids):=⟨h,by simp [ndK,em];decide⟩
theorem GA {k:Nat} {p q:PS} (h:Go k p q):q.1.length<=p.1.length:=h.suf.length_le
theorem KZ (H:RdOK):∀(f:Nat) (j:SJ) (q:PS),q.1.length<=1000->Ks j q->Go 0 q (sP f j q).2
 |0,j,q,_,_=>Go.refl q
 |f+1,.row level,q,hr,_=>by
  unfold sP;split
  ·exact Go.refl q
  ·split
   ·exact KZ H f .one q hr trivial
   ·have a:=KZ H f (.row (level+1)) q hr trivial;exact a.tr0 (KZ H f (.rl level _) _ (zS (GA a) hr) trivial)
 |f+1,.rl level a,q,hr,_=>by
  unfold sP;split
  ·exact Go.refl q
  ·simp only;have o:=oo level q;split
   ·exact o.1
   ·rename_i h0;have o1:=(o.2 h0).1;have b:=KZ H f (.row (level+1)) (sOp level q).2 (zS (GA o1) hr) trivial;have c:=Go.add (x:=ndK 5 (sOp level q).1 [a,(sP f (.row (level+1)) (sOp level q).2).1]) (o1.trans b) (PI (by simp));exact c.tr0 (KZ H f (.rl level _) _ (zS (GA c) hr) trivial)
 |f+1,.one,q,hr,_=>by
  unfold sP;split
  ·rename_i h;have a:=KN (by simp) h;have b:=KZ H f (.row 5) (sIs [45] q).2 (zS (GA a) hr) trivial;exact Go.add (a.trans b) (PI (by simp))
  ·have a:=Q6 [45] q;split
   ·rename_i h;have c:=a.tr0 (KN (by simp) h).weak;have b:=KZ H f (.row 1) (sIs [40] (sIs [45] q).2).2 (zS (GA c) hr) trivial;have d:=(c.tr0 b).tr0 (Q6 [41] _);simp only;split
    ·exact d
    ·exact Xj d
   ·simp only;have t:=T2 q;split
    ·rename_i h;have c:=KN (by simp) h;obtain ⟨_,e,_⟩:=SB h;split
     ·exact ⟨List.nil_suffix,by simp,id⟩
     ·rename_i w u hq;have d:=VM _ _ _ (zK _) hq;have d2:=d.length_le;have dz:=M3 _ _ _ (zK _) hq;have g:=t.trans c;have l:=GA g;have sg:=g.sum;have eq:(sIs [34] (tb q.1,q.2)).2.2=q.2:=by rw [e]
      rw [eq] at sg;simp only [zanD] at dz;exact Go.add (q:=(u,q.2)) ⟨d.trans g.suf,by simp only;omega,id⟩ ⟨by simp [kd,nd1],by simp only [nd1,qv];omega⟩
    ·split
     ·rename_i h;have c:=KN (by simp) h;obtain ⟨_,e,_⟩:=SB h;have g:=t.trans c;have l:=GA g;have sg:=g.sum;have eq:(sIs [35] (tb q.1,q.2)).2.2=q.2:=by rw [e]
      rw [eq] at sg;split
      ·exact Go.add (q:=(_,q.2)) ⟨(List.drop_suffix _ _).trans g.suf,by simp;omega,id⟩ ⟨by simp [kd,nd1],by simp [nd1,em];decide⟩
      ·exact ⟨g.suf,by simp only;omega,id⟩
     ·have w:=Yx q;split
      ·split
       ·have c:=w.tr0 (Q6 [40] _);exact c.tr0 (KZ H f (.call _ []) _ (zS (GA c) hr) (.inr (by have:=GA c;simp only [zanD];omega)))
       ·exact Xj (w.tr0 (Q6 [40] _))
      ·split
       ·rename_i hv;exact Go.add (iu q hv.2) ⟨by simp [kd,nd1],Q4 hv.1 (H.v _ (ai _) hv.2 hv.1)⟩
       ·split
        ·rename_i hp;exact Go.add (iu q (λe=>by rw [e,H.p0] at hp;cases hp)) ⟨by simp [kd,ndC],by simp [ndC,em];decide⟩
        ·exact Xj w
 |f+1,.call op kids,q,hr,hk=>by
  unfold sP;split
  ·exact Go.refl q
  ·rename_i hb;have hk:kids.length+q.1.length<=1500:=hk.elim (λh=>absurd h hb) id;have a:=KZ H f .arg q hr trivial;simp only;split
   ·rename_i h;exact Go.add (a.trans (KN (by simp) h)) (PI (by simp;omega))
   ·have c:=a.tr0 (Q6 [41] _);split
    ·rename_i h;have d:=c.trans (KN (by simp) h);obtain ⟨e1,e2,_⟩:=SB h;have l:=e1.length_le;have l2:=GA c;have l3:=Dj (sIs [41] (sP f .arg q).2).2.1;simp only [zamM,zanD] at l;exact d.weak.tr0 (KZ H f (.call op _) _ (zS (GA d) hr) (.inr (by rw [e2];simp;omega)))
    ·have d:=Xj (c.tr0 (Q6 [44] _));exact d.tr0 (KZ H f (.call op _) _ (zS (GA d) hr) (.inl rfl))
 |f+1,.arg,q,hr,_=>by
  unfold sP;simp only;have w:=Yx q;split
  ·rename_i h;have c:=w.trans (KN (by simp) h.2);have d:=c.trans (Yx _);split
   ·exact Go.add d ⟨by simp [kd,ndA],by simp [ndA,em];decide⟩
   ·exact ⟨d.suf,by have:=d.sum;simp only at this⊢;omega,d.sm⟩
  ·have t:=T2 q;exact t.tr0 (KZ H f (.row 1) _ (zS (GA t) hr) trivial)
def As (f:Nat):SJ->PS->Prop
 | .row level,q=>((20*(tb q.1).length+10:Nat):Int)-level<=f/\1<=level/\level<=5
 | .rl level _,q=>20*(tb q.1).length+5<=f/\1<=level/\level<=4
 | .one,q=>20*(tb q.1).length+4<=f/\q.2.1=false
 | .call _ _,q=>(q.2.1=true/\1<=f)\/20*(tb q.1).length+12<=f
 | .arg,q=>20*(tb q.1).length+10<=f
def Iv (s:List UInt8) (q:PS):Prop:=q.1<:+s/\q.2.2.length+q.1.length<=2000
theorem Iv.go {s:List UInt8} {k:Nat} {q q':PS} (h:Iv s q) (g:Go k q q'):Iv s q':=⟨g.suf.trans h.1,by have:=g.sum;have:=h.2;omega⟩
def Ws (s:List UInt8):SJ->PS->Int×PS->Prop
 | .row level,q,r=>Ev (JN · level (BR s) (pos s q.1) q.2.1 q.2.2.length (q.2.2.map qo)) (G6 s r)
 | .rl level a,q,r=>∃x,(x= .inl (G6 s r)\/x= .inr (G6 s r))/\∃n0,∀n,n0<=n->∀M,n0<=M->zE (JV (qy n) n) M (level,a,HU s q)=some x
 | .one,q,r=>Ev (PW · (BR s) (pos s q.1) q.2.1 q.2.2.length (q.2.2.map qo)) (G6 s r)
 | .call op kids,q,r=>∃x,(x= .inl (G6 s r)\/(x= .inr (HU s r.2)/\r.1=0))/\∃n0,∀n,n0<=n->∀M,n0<=M->zE (I5 (qy n) n) M (op,kids.length,kids.map Eo,HU s q)=some x
 | .arg,q,r=>Ev (PX · (BR s) (pos s q.1) q.2.1 q.2.2.length (q.2.2.map qo)) (G6 s r)
theorem srp (r:List UInt8) (h:r.length<=1000):Ev (E2 · (BR (wd r))) (Ej (BR (wd r))):=Tn _ (by rw [qv];have:=Zd r;omega)
theorem srv (r:List UInt8) (h:r.length<=1000):Ev (Dw · (BR (wd r))) (qz (BR (wd r))):=NU _ (by rw [qv];have:=Zd r;omega)
theorem sh {r:List UInt8} (h:wd r≠ []):(tb (wr r)).length<r.length:=by
 have e:=congrArg List.length (wdr r);have:=List.length_pos_iff.2 h;have:=Dj (wr r);simp only [zamO] at e;omega
def Zh (n:Nat) (w:BA) (c:BA×Int×Bool×Nat×List (List PV)):Tr (Int×BA×Int×Bool×Nat×List (List PV)):=
 (.opt (E2 n w) λr=>(.ask (!r.2.2.2.2) (.done (0,c.1,c.2.1,true,c.2.2.2.1,c.2.2.2.2))
  (.opt (DX n 2 0 0 0 ⟨#[]⟩ r.1 r.2.1 r.2.2.1 r.2.2.2.1 0 0 false false [] c.1 c.2.1 c.2.2.1 c.2.2.2.1 c.2.2.2.2) λt=> .done (t.1,t.2.1,t.2.2.1,t.2.2.2.1,t.2.2.2.2.1,t.2.2.2.2.2))))
def pp (n:Nat) (w:BA) (c:BA×Int×Bool×Nat×List (List PV)):Tr (Int×BA×Int×Bool×Nat×List (List PV)):=
 (.opt (Dw n w) λr=>(.ask r.2.2.2
  (.ask (!(w.toList==(⟨#[]⟩:BA).toList))
   (.opt (DX n 1 0 r.1 r.2.1 r.2.2.1 0 0 false false 0 0 false false [] c.1 c.2.1 c.2.2.1 c.2.2.2.1 c.2.2.2.2) λt=> .done (t.1,t.2.1,t.2.2.1,t.2.2.2.1,t.2.2.2.2.1,t.2.2.2.2.2))
   (Zh n w c))
  (Zh n w c)))
def Xk (w:List UInt8) (q3:PS):Int×PS:=
 if (qz (BR w)).2.2.2=true/\w≠ [] then JK (nd1 ((qz (BR w)).1,(qz (BR w)).2.1,(qz (BR w)).2.2.1)) q3
 else if (Ej (BR w)).2.2.2.2=true then JK (ndC (Ej (BR w))) q3
 else (0,S0 q3)
theorem Yz (H:RdOK) {s:List UInt8} (r:List UInt8) (q:PS) (hr:r.length<=1000) (hn:q.2.2.length<=5000):∃n0,∀n,n0<=n->(pp n (BR (wd r)) (HU s q)).run=some (G6 s (Xk (wd r) q)):=by
 obtain ⟨n1,h1⟩:=srv r hr;obtain ⟨n2,h2⟩:=srp r hr;obtain ⟨n4,h4⟩:=Q5 (s:=s) (ndC (Ej (BR (wd r)))) q hn ⟨by simp [kd,ndC],by simp [ndC,em];decide⟩;have place:∃n0,∀n,n0<=n->(Zh n (BR (wd r)) (HU s q)).run=some (G6 s (if (Ej (BR (wd r))).2.2.2.2=true then JK (ndC (Ej (BR (wd r)))) q else (0,S0 q))):=by
  refine ⟨n2+n4,λn hn=>?_⟩;cases hp:(Ej (BR (wd r))).2.2.2.2 with
  |true=>rw [if_pos rfl];exact qa (h2 n (by omega)) (qc (Ep hp) (qa (h4 n (by omega)) rfl))
  |false=>rw [if_neg (by simp)];exact qa (h2 n (by omega)) (qb (HQ hp) rfl)
 obtain ⟨n5,h5⟩:=place;by_cases hv:(qz (BR (wd r))).2.2.2=true/\wd r≠ []
 ·obtain ⟨n3,h3⟩:=Q5 (s:=s) (nd1 ((qz (BR (wd r))).1,(qz (BR (wd r))).2.1,(qz (BR (wd r))).2.2.1)) q hn ⟨by simp [kd,nd1],Q4 hv.1 (H.v _ (ai _) hv.2 hv.1)⟩;refine ⟨n1+n3,λn hn=>?_⟩;unfold Xk;rw [if_pos hv];exact qa (h1 n (by omega)) (qb hv.1 (qb (HQ (by rw [zanF,D7,q7];exact hv.2)) (qa (h3 n (by omega)) rfl)))
 ·refine ⟨n1+n5,λn hn=>?_⟩;unfold Xk;rw [if_neg hv];refine qa (h1 n (by omega)) ?_;by_cases ho:(qz (BR (wd r))).2.2.2=true
  ·have e:wd r= []:=Classical.byContradiction λe=>hv ⟨ho,e⟩
   exact qb ho (qc (Ep (by rw [zanG,D7,q7];exact e)) (h5 n (by omega)))
  ·exact qc (by rw [aE];exact ho) (h5 n (by omega))
theorem Kq (H:RdOK) {s:List UInt8} (hs:s.length<=1000):∀(f:Nat) (j:SJ) (q:PS),As f j q->Iv s q->Ks j q->Ws s j q (sP f j q)
 |0,j,q,ha,_,_=>by cases j<;>simp [As] at ha<;>omega
 |f+1,.row level,q,ha,hi,_=>by
  obtain ⟨ha,hl1,hl5⟩:=ha;have hr:q.1.length<=1000:=zS (H6 hi.1) hs;unfold sP;by_cases hb:q.2.1=true
  ·rw [if_pos hb];refine ⟨1,λn hn=>?_⟩;obtain ⟨k,rfl,hm⟩:=up1 hn;exact qb hb rfl
  ·have hb:q.2.1=false:=by rw [aE];exact hb
   rw [if_neg (by rw [hb];simp)];by_cases h5:level=5
   ·rw [if_pos h5];obtain ⟨n1,h1⟩:=Kq H hs f .one q ⟨by omega,hb⟩ hi trivial;refine ⟨n1+1,λn hn=>?_⟩;obtain ⟨k,rfl,hm⟩:=up1 hn;exact qc hb (qb (zanG.2 h5) (qa (h1 k (by omega)) rfl))
   ·rw [if_neg h5];have g:=KZ H f (.row (level+1)) q hr trivial;have gl:=g.tb;obtain ⟨n1,h1⟩:=Kq H hs f (.row (level+1)) q ⟨by omega,by omega,by omega⟩ hi trivial;generalize sP f (.row (level+1)) q=Q at g gl h1⊢;obtain ⟨x,hx,n2,h2⟩:=Kq H hs f (.rl level Q.1) Q.2 ⟨by omega,by omega,by omega⟩ (hi.go g) trivial;refine ⟨n1+n2+1,λn hn=>?_⟩;obtain ⟨k,rfl,hm⟩:=up1 hn;have w1:IntKind.i64.wrap (level+1)=level+1:=ql (by omega);have h1:=h1 k (by omega);rw [<-w1] at h1;have h2:=h2 k (by omega) k (by omega);rcases hx with rfl|rfl
    ·exact qc hb (qc (zanF.2 h5) (qa h1 (qa h2 rfl)))
    ·exact qc hb (qc (zanF.2 h5) (qa h1 (qa h2 rfl)))
 |f+1,.rl level a,q,ha,hi,_=>by
  obtain ⟨ha,hl1,hl4⟩:=ha;have hr:q.1.length<=1000:=zS (H6 hi.1) hs;unfold sP;by_cases hb:q.2.1=true
  ·rw [if_pos hb];refine ⟨.inr (G6 s (a,q)),.inr rfl,1,λn hn M hM=>?_⟩;obtain ⟨M,rfl,hM⟩:=up1 hM;exact qd (qc (Ep hb) rfl)
  ·have hb:q.2.1=false:=by rw [aE];exact hb
   rw [if_neg (by rw [hb];simp)];simp only;obtain ⟨n1,h1⟩:=pm hs (level:=level) ⟨hl1,hl4⟩ q hb hi.1;have o:=oo level q;generalize sOp level q=O at h1 o⊢;by_cases h0:O.1=0
   ·rw [if_pos h0];refine ⟨.inl (G6 s (a,O.2)),.inl rfl,n1+1,λn hn M hM=>?_⟩;obtain ⟨M,rfl,hM⟩:=up1 hM;exact qd (qb (HQ hb) (qa (h1 n (by omega)) (qb (zanG.2 h0) rfl)))
   ·rw [if_neg h0];obtain ⟨o1,o2⟩:=o.2 h0;have b:=KZ H f (.row (level+1)) O.2 (zS (GA o1) hr) trivial;obtain ⟨n2,h2⟩:=Kq H hs f (.row (level+1)) O.2 ⟨by omega,by omega,by omega⟩ (hi.go o1) trivial;have ib:=(hi.go o1).go b;have tbb:=b.tb;have c:=Go.add (x:=ndK 5 O.1 [a,(sP f (.row (level+1)) O.2).1]) (o1.trans b) (PI (by simp));generalize sP f (.row (level+1)) O.2=Q at h2 b ib tbb c⊢;obtain ⟨n3,h3⟩:=Q5 (s:=s) (ndK 5 O.1 [a,Q.1]) Q.2 (by have:=ib.2;omega) (PI (by simp));have rest:(JK (ndK 5 O.1 [a,Q.1]) Q.2).2.1=Q.2.1:=rfl;generalize JK (ndK 5 O.1 [a,Q.1]) Q.2=C at h3 c rest⊢;obtain ⟨x,hx,n4,h4⟩:=Kq H hs f (.rl level C.1) C.2 ⟨by rw [rest];omega,hl1,hl4⟩ (hi.go c) trivial;refine ⟨x,hx,n1+n2+n3+n4+1,λn hn M hM=>?_⟩;obtain ⟨M,rfl,hM⟩:=up1 hM;have w1:IntKind.i64.wrap (level+1)=level+1:=ql (by omega);have h2:=h2 n (by omega);rw [<-w1] at h2;rw [qm (v':=(level,C.1,HU s C.2)) (by
     exact qb (HQ hb) (qa (h1 n (by omega)) (qc (zanF.2 h0) (qa h2 (qb rfl (qa (h3 n (by omega)) rfl))))))]
    exact h4 n (by omega) M (by omega)
 |f+1,.one,q,ha,hi,_=>by
  obtain ⟨ha,hb⟩:=ha;have hr:q.1.length<=1000:=zS (H6 hi.1) hs;unfold sP;obtain ⟨n1,h1⟩:=M4 hs [45] (by simp) q hi.1;cases c1:(sIs [45] q).1 with
  |true=>
   rw [if_pos rfl];have a:=KN (by simp) c1;have al:=cr (by simp) c1;have b:=KZ H f (.row 5) (sIs [45] q).2 (zS (GA a) hr) trivial;obtain ⟨n2,h2⟩:=Kq H hs f (.row 5) (sIs [45] q).2 ⟨by omega,by omega,by omega⟩ (hi.go a) trivial;have ib:=(hi.go a).go b;simp only;generalize sP f (.row 5) (sIs [45] q).2=Q at h2 ib⊢;obtain ⟨n3,h3⟩:=Q5 (s:=s) (ndK 4 0 [Q.1]) Q.2 (by have:=ib.2;omega) (PI (by simp));refine ⟨n1+n2+n3+1,λn hn=>?_⟩;obtain ⟨k,rfl,hm⟩:=up1 hn;exact qa (h1 k (by omega)) (qb c1 (qa (h2 k (by omega)) (qb rfl (qa (h3 k (by omega)) rfl))))
  |false=>
   rw [if_neg (by simp)];have a:=Q6 [45] q;obtain ⟨n2,h2⟩:=M4 hs [40] (by simp) (sIs [45] q).2 (hi.go a).1;cases c2:(sIs [40] (sIs [45] q).2).1 with
   |true=>
    rw [if_pos rfl];have b:=KN (by simp) c2;have al:=cr (by simp) c2;have atb:=a.tb;have g1:=a.trans b;have b2:=KZ H f (.row 1) (sIs [40] (sIs [45] q).2).2 (zS (GA g1) hr) trivial;obtain ⟨n3,h3⟩:=Kq H hs f (.row 1) (sIs [40] (sIs [45] q).2).2 ⟨by omega,by omega,by omega⟩ (hi.go g1) trivial;have ib:=(hi.go g1).go b2;simp only;generalize sP f (.row 1) (sIs [40] (sIs [45] q).2).2=Q at h3 ib⊢;obtain ⟨n4,h4⟩:=M4 hs [41] (by simp) Q.2 ib.1;refine ⟨n1+n2+n3+n4+1,λn hn=>?_⟩;obtain ⟨k,rfl,hm⟩:=up1 hn;refine qa (h1 k (by omega)) (qc c1 (qa (h2 k (by omega)) (qb c2 (qa (h3 k (by omega)) (qa (h4 k (by omega)) ?_)))));cases c3:(sIs [41] Q.2).1 with
    |true=>rw [if_pos rfl];exact qc rfl rfl
    |false=>rw [if_neg (by simp)];exact qb rfl rfl
   |false=>
    rw [if_neg (by simp)];have e2:(sIs [40] (sIs [45] q).2).2=(tb q.1,q.2):=by
     rw [Yy c2,Yy c1];simp only [G5]
    rw [e2] at h2;have t:=T2 q;have it:=hi.go t;obtain ⟨n3,h3⟩:=M4 hs [34] (by simp) (tb q.1,q.2) it.1;simp only;cases c3:(sIs [34] (tb q.1,q.2)).1 with
    |true=>
     rw [if_pos rfl];have b:=KN (by simp) c3;have ib:=it.go b;have eq2:(sIs [34] (tb q.1,q.2)).2.2=q.2:=by obtain ⟨_,e,_⟩:=SB c3;rw [e]
     obtain ⟨n4,h4⟩:=iq hs (sIs [34] (tb q.1,q.2)).2 ib.1 (by have:=ib.2;omega);refine ⟨n1+n2+n3+n4+1,λn hn=>?_⟩;obtain ⟨k,rfl,hm⟩:=up1 hn;refine qa (h1 k (by omega)) (qc c1 (qa (h2 k (by omega)) (qc c2 (qa (h3 k (by omega)) (qb c3 (qa (h4 k (by omega)) ?_))))));rw [qf,eq2]
     all_goals (cases F4 [] (sIs [34] (tb q.1,q.2)).2.1<;>rfl)
    |false=>
     rw [if_neg (by simp)];have e3:(sIs [34] (tb q.1,q.2)).2=(tb q.1,q.2):=by rw [Yy c3];simp only [G5]
     rw [e3] at h3;obtain ⟨n4,h4⟩:=M4 hs [35] (by simp) (tb q.1,q.2) it.1;cases c4:(sIs [35] (tb q.1,q.2)).1 with
     |true=>
      rw [if_pos rfl];have b:=KN (by simp) c4;have ib:=it.go b;have eq2:(sIs [35] (tb q.1,q.2)).2.2=q.2:=by obtain ⟨_,e,_⟩:=SB c4;rw [e]
      obtain ⟨n5,h5⟩:=ng hs (sIs [35] (tb q.1,q.2)).2.1 ib.1 q.2.1 q.2.2 (by have:=hi.2;omega);have h4:=λk hk=>h4 k hk
      refine ⟨n1+n2+n3+n4+n5+1,λn hn=>?_⟩;obtain ⟨k,rfl,hm⟩:=up1 hn;have h4:=h4 k (by omega);have h5:=h5 k (by omega) k (by omega);have e4:HU s (sIs [35] (tb q.1,q.2)).2=(BR s,pos s (sIs [35] (tb q.1,q.2)).2.1,q.2.1,q.2.2.length,q.2.2.map qo):=by unfold HU;rw [eq2]
      rw [e4] at h4;refine qa (h1 k (by omega)) (qc c1 (qa (h2 k (by omega)) (qc c2 (qa (h3 k (by omega)) (qc c3 (qa h4 (qb c4 (qa h5 ?_))))))));cases f7 (sIs [35] (tb q.1,q.2)).2.1 1 5<;>rfl
     |false=>
      rw [if_neg (by simp)];have e4:(sIs [35] (tb q.1,q.2)).2=(tb q.1,q.2):=by rw [Yy c4];simp only [G5]
      rw [e4] at h4;obtain ⟨n5,h5⟩:=Xh hs (tb q.1,q.2) it.1;have w:=Yx q;have iw:=hi.go w;have htl:=Dj q.1;obtain ⟨n6,h6⟩:=M4 hs [40] (by simp) (wr (tb q.1),q.2) iw.1;obtain ⟨n7,h7⟩:=nh;obtain ⟨n9,h9⟩:=Yz H (s:=s) (tb q.1) (wr (tb q.1),q.2) (by omega) (by have:=hi.2;simp only;omega);have gi:=Q6 [40] (wr (tb q.1),q.2);cases hf:LE (wd (tb q.1)) 1 10 with
      |none=>
       simp only;refine ⟨n1+n2+n3+n4+n5+n6+n7+n9+12+1,λn hn=>?_⟩;obtain ⟨k,rfl,hm⟩:=up1 hn;have lp:=RJ (g:=qy k) (s:=s) (wd (tb q.1)) (wr (tb q.1),q.2) (λ_=>(0,q)) (h7 k (by omega)) (h6 k (by omega)) 10 1 k (by omega) (by omega) (by omega) (λop h=>by rw [hf] at h;cases h);rw [hf] at lp;exact qa (h1 k (by omega)) (qc c1 (qa (h2 k (by omega)) (qc c2 (qa (h3 k (by omega)) (qc c3 (qa (h4 k (by omega)) (qc c4 (qa (h5 k (by omega)) (qa lp (h9 k (by omega)))))))))))
      |some op=>
       have wne:wd (tb q.1)≠ []:=λe=>by rw [e,H.f0] at hf;cases hf
       have wlt:=sh wne;simp only;cases c5:(sIs [40] (wr (tb q.1),q.2)).1 with
       |true=>
        rw [if_pos rfl];have il:=cr (by simp) c5;simp only at il;obtain ⟨x,hx,n8,h8⟩:=Kq H hs f (.call op []) (sIs [40] (wr (tb q.1),q.2)).2 (.inr (by omega)) (iw.go gi) (.inr (by have:=GA (w.tr0 gi);simp only [zanD];omega));have hcall:Ev (OH · op (BR s) (pos s (sIs [40] (wr (tb q.1),q.2)).2.1) (sIs [40] (wr (tb q.1),q.2)).2.2.1 (sIs [40] (wr (tb q.1),q.2)).2.2.2.length ((sIs [40] (wr (tb q.1),q.2)).2.2.2.map qo)) (G6 s (sP f (.call op []) (sIs [40] (wr (tb q.1),q.2)).2)):=by
         refine ⟨n8+1,λn hn=>?_⟩;obtain ⟨k,rfl,hm⟩:=up1 hn;have h8:=h8 k (by omega) k (by omega);rcases hx with rfl|⟨rfl,hz⟩
         ·exact qa h8 rfl
         ·refine qa h8 ?_;show some ((0:Int),HU s _)=some (_,HU s _);rw [hz]
        obtain ⟨n10,h10⟩:=hcall;refine ⟨n1+n2+n3+n4+n5+n6+n7+n10+12+1,λn hn=>?_⟩;obtain ⟨k,rfl,hm⟩:=up1 hn;have lp:=RJ (g:=qy k) (s:=s) (wd (tb q.1)) (wr (tb q.1),q.2) (λop=>sP f (.call op []) (sIs [40] (wr (tb q.1),q.2)).2) (h7 k (by omega)) (h6 k (by omega)) 10 1 k (by omega) (by omega) (by omega) (λop' h _=>by rw [hf] at h;cases h;exact h10 k (by omega));rw [hf] at lp;simp only at lp;rw [if_pos c5] at lp;exact qa (h1 k (by omega)) (qc c1 (qa (h2 k (by omega)) (qc c2 (qa (h3 k (by omega)) (qc c3 (qa (h4 k (by omega)) (qc c4 (qa (h5 k (by omega)) (qa lp rfl)))))))))
       |false=>
        rw [if_neg (by simp)];obtain ⟨v1,v2⟩:=H.f _ _ hf;obtain ⟨n9,h9⟩:=Yz H (s:=s) (tb q.1) (sIs [40] (wr (tb q.1),q.2)).2 (by omega) (by have:=(iw.go gi).2;omega);have er:Xk (wd (tb q.1)) (sIs [40] (wr (tb q.1),q.2)).2=(0,S0 (sIs [40] (wr (tb q.1),q.2)).2):=by
         unfold Xk;rw [if_neg (λh=>by rw [v1] at h;cases h.1),if_neg (by rw [v2];simp)]
        rw [er] at h9;refine ⟨n1+n2+n3+n4+n5+n6+n7+n9+12+1,λn hn=>?_⟩;obtain ⟨k,rfl,hm⟩:=up1 hn;have lp:=RJ (g:=qy k) (s:=s) (wd (tb q.1)) (wr (tb q.1),q.2) (λ_=>(0,q)) (h7 k (by omega)) (h6 k (by omega)) 10 1 k (by omega) (by omega) (by omega) (λop' h h'=>by rw [c5] at h';cases h');rw [hf] at lp;simp only at lp;rw [if_neg (by rw [c5];simp)] at lp;exact qa (h1 k (by omega)) (qc c1 (qa (h2 k (by omega)) (qc c2 (qa (h3 k (by omega)) (qc c3 (qa (h4 k (by omega)) (qc c4 (qa (h5 k (by omega)) (qa lp (h9 k (by omega)))))))))))
 |f+1,.call op kids,q,ha,hi,hk=>by
  have hr:q.1.length<=1000:=zS (H6 hi.1) hs;unfold sP;by_cases hb:q.2.1=true
  ·rw [if_pos hb];refine ⟨.inr (HU s q),.inr ⟨rfl,rfl⟩,1,λn hn M hM=>?_⟩;obtain ⟨M,rfl,hM⟩:=up1 hM;exact qd (qc (Ep hb) rfl)
  ·have hk:kids.length+q.1.length<=1500:=hk.elim (λh=>absurd h hb) id;have ha:20*(tb q.1).length+12<=f+1:=ha.elim (λh=>absurd h.1 hb) id;have hb:q.2.1=false:=by rw [aE];exact hb
   rw [if_neg (by rw [hb];simp)];simp only;have a:=KZ H f .arg q hr trivial;obtain ⟨n1,h1⟩:=Kq H hs f .arg q (by show 20*_+10<=f;omega) hi trivial;generalize sP f .arg q=A at a h1⊢;have ia:=hi.go a;have ta:=a.tb;have ra:=GA a;obtain ⟨n2,h2⟩:=M4 hs [41] (by simp) A.2 ia.1;have kl:decide (kids.length=(kids.map Eo).length/\0<1/\0<8/\(kids.length+([[(PV.i .i64 A.1)]]:List (List PV)).length)*8<=140737488355328/\([[(PV.i .i64 A.1)]]:List (List PV)).all (λe=>e.length==1)=true)=true:=zD ⟨by simp,by decide,by decide,by simp;omega,rfl⟩;have k1:(kids++ [A.1]).length=kids.length+1:=by simp
   have k2:(kids++ [A.1]).map Eo=kids.map Eo++ [[PV.i .i64 A.1]]:=by simp [Eo]
   cases c1:(sIs [41] A.2).1 with
   |true=>
    rw [if_pos rfl];have g:=a.trans (KN (by simp) c1);obtain ⟨n3,h3⟩:=Q5 (s:=s) (ndK 6 op (kids++ [A.1])) (sIs [41] A.2).2 (by have:=(hi.go g).2;omega) (PI (by simp;omega));refine ⟨.inl (G6 s (JK (ndK 6 op (kids++ [A.1])) (sIs [41] A.2).2)),.inl rfl,n1+n2+n3+1,λn hn M hM=>?_⟩;obtain ⟨M,rfl,hM⟩:=up1 hM;have h3:_=some _:=h3 n (by omega);simp only [ndK,kd] at h3;rw [k2] at h3;exact qd (qb (HQ hb) (qa (h1 n (by omega)) (qb rfl (qb kl (qa (h2 n (by omega)) (qb c1 (qb (zD (by simp)) (qa h3 rfl))))))))
   |false=>
    rw [if_neg (by simp)];have g:=a.tr0 (Q6 [41] A.2);have gt:=(Q6 [41] A.2).tb;have i2:=hi.go g;obtain ⟨n3,h3⟩:=M4 hs [44] (by simp) (sIs [41] A.2).2 i2.1;cases c2:(sIs [44] (sIs [41] A.2).2).1 with
    |true=>
     rw [if_pos rfl];have b:=KN (by simp) c2;have bl:=cr (by simp) c2;have bs:=GA (g.trans b);have b1:=b.sum;have eq3:(sIs [44] (sIs [41] A.2).2).2.2=(sIs [41] A.2).2.2:=by obtain ⟨_,e,_⟩:=SB c2;rw [e]
     rw [eq3] at b1;have g0:=GA g;obtain ⟨x,hx,n4,h4⟩:=Kq H hs f (.call op (kids++ [A.1])) (sIs [44] (sIs [41] A.2).2).2 (.inr (by omega)) (i2.go b) (.inr (by rw [k1];omega));refine ⟨x,hx,n1+n2+n3+n4+1,λn hn M hM=>?_⟩;obtain ⟨M,rfl,hM⟩:=up1 hM;have h4:=h4 n (by omega) M (by omega);rw [k1,k2] at h4;rw [qm (v':=(op,kids.length+1,kids.map Eo++ [[PV.i .i64 A.1]],HU s (sIs [44] (sIs [41] A.2).2).2)) (by
      exact qb (HQ hb) (qa (h1 n (by omega)) (qb rfl (qb kl (qa (h2 n (by omega)) (qc c1 (qa (h3 n (by omega)) (qc (Ep c2) rfl))))))))]
     exact h4
    |false=>
     rw [if_neg (by simp)];have b:=Q6 [44] (sIs [41] A.2).2;obtain ⟨x,hx,n4,h4⟩:=Kq H hs f (.call op (kids++ [A.1])) (S0 (sIs [44] (sIs [41] A.2).2).2) (.inl ⟨rfl,by omega⟩) (i2.go (Xj b)) (.inl rfl);refine ⟨x,hx,n1+n2+n3+n4+1,λn hn M hM=>?_⟩;obtain ⟨M,rfl,hM⟩:=up1 hM;have h4:=h4 n (by omega) M (by omega);rw [k1,k2] at h4;rw [qm (v':=(op,kids.length+1,kids.map Eo++ [[PV.i .i64 A.1]],HU s (S0 (sIs [44] (sIs [41] A.2).2).2))) (by
      exact qb (HQ hb) (qa (h1 n (by omega)) (qb rfl (qb kl (qa (h2 n (by omega)) (qc c1 (qa (h3 n (by omega)) (qb (HQ c2) rfl))))))))]
     exact h4
 |f+1,.arg,q,ha,hi,_=>by
  replace ha:20*(tb q.1).length+10<=f+1:=ha
  have hr:q.1.length<=1000:=zS (H6 hi.1) hs;have htl:=Dj q.1;unfold sP;simp only;have t:=T2 q;have it:=hi.go t;have w:=Yx q;have iw:=hi.go w;obtain ⟨n1,h1⟩:=Zf hs q hi.1;obtain ⟨n2,h2⟩:=Xh hs (tb q.1,q.2) it.1;obtain ⟨n3,h3⟩:=srp (tb q.1) (by omega);obtain ⟨n4,h4⟩:=M4 hs [58] (by simp) (wr (tb q.1),q.2) iw.1;have eq2:(sIs [58] (wr (tb q.1),q.2)).2.2=q.2:=by
   cases c:(sIs [58] (wr (tb q.1),q.2)).1 with
   |true=>obtain ⟨_,e,_⟩:=SB c;rw [e]
   |false=>rw [Yy c]
  by_cases hc:(Ej (BR (wd (tb q.1)))).2.2.2.2=true/\(sIs [58] (wr (tb q.1),q.2)).1=true
  ·rw [if_pos hc];have g:=w.trans (KN (by simp) hc.2);have ig:=hi.go g;have rg:=GA g;generalize sIs [58] (wr (tb q.1),q.2)=I at*
   have gt:=T2 I.2;have gw:=Yx I.2;have il:=Dj I.2.1;obtain ⟨n5,h5⟩:=Zf hs I.2 ig.1;obtain ⟨n6,h6⟩:=Xh hs (tb I.2.1,I.2.2) (ig.go gt).1;obtain ⟨n7,h7⟩:=srp (tb I.2.1) (by omega);cases hp:(Ej (BR (wd (tb I.2.1)))).2.2.2.2 with
   |true=>
    rw [if_pos rfl];obtain ⟨n8,h8⟩:=Q5 (s:=s) (ndA (Ej (BR (wd (tb q.1)))) (Ej (BR (wd (tb I.2.1))))) (wr (tb I.2.1),I.2.2) (by have:=(ig.go gw).2;simp only at this⊢;omega) ⟨by simp [kd,ndA],by simp [ndA,em];decide⟩;refine ⟨n1+n2+n3+n4+n5+n6+n7+n8+1,λn hn=>?_⟩;obtain ⟨k,rfl,hm⟩:=up1 hn;exact qa (h1 k (by omega)) (qa (h2 k (by omega)) (qa (h3 k (by omega)) (qb hc.1 (qa (h4 k (by omega)) (qb hc.2 (qa (h5 k (by omega)) (qa (h6 k (by omega)) (qa (h7 k (by omega)) (qc (Ep hp) (qa (h8 k (by omega)) rfl))))))))))
   |false=>
    rw [if_neg (by simp)];refine ⟨n1+n2+n3+n4+n5+n6+n7+1,λn hn=>?_⟩;obtain ⟨k,rfl,hm⟩:=up1 hn;exact qa (h1 k (by omega)) (qa (h2 k (by omega)) (qa (h3 k (by omega)) (qb hc.1 (qa (h4 k (by omega)) (qb hc.2 (qa (h5 k (by omega)) (qa (h6 k (by omega)) (qa (h7 k (by omega)) (qb (HQ hp) rfl)))))))))
  ·rw [if_neg hc];obtain ⟨n5,h5⟩:=Kq H hs f (.row 1) (tb q.1,q.2) ⟨by simp only [G5];omega,by omega,by omega⟩ it trivial;refine ⟨n1+n2+n3+n4+n5+1,λn hn=>?_⟩;obtain ⟨k,rfl,hm⟩:=up1 hn;cases hp:(Ej (BR (wd (tb q.1)))).2.2.2.2 with
   |true=>
    have ht:(sIs [58] (wr (tb q.1),q.2)).1=false:=by rw [aE];exact λe=>hc ⟨hp,e⟩
    have h4:=h4 k (by omega);have e4:HU s (sIs [58] (wr (tb q.1),q.2)).2=(BR s,pos s (sIs [58] (wr (tb q.1),q.2)).2.1,q.2.1,q.2.2.length,q.2.2.map qo):=by unfold HU;rw [eq2]
    rw [e4] at h4;exact qa (h1 k (by omega)) (qa (h2 k (by omega)) (qa (h3 k (by omega)) (qb hp (qa h4 (qc ht (qa (h5 k (by omega)) rfl))))))
   |false=>exact qa (h1 k (by omega)) (qa (h2 k (by omega)) (qa (h3 k (by omega)) (qc hp (qa (h5 k (by omega)) rfl))))
theorem ez {w:List UInt8} (h:w.all wch=true) (hn:w≠ []):(En (BR w)).1=1\/(En (BR w)).1=3:=by
 cases w with
 |nil=>exact absurd rfl hn
 |cons c t=>
  simp only [zanC,zL] at h;have h39:¬(c::t).head?=some 39:=by
   intro e;simp at e;rw [e] at h;exact absurd h.1 (by decide)
  have h35:¬(c::t).head?=some 35:=by
   intro e;simp at e;rw [e] at h;exact absurd h.1 (by decide)
  unfold En;rw [D7,if_neg h39];split
  ·exact .inr rfl
  ·split
   ·exact .inr rfl
   ·exact .inl rfl
theorem fa:RdOK where
 v:=λw h hn ho=>by
  have c:=ez h hn;unfold qz at ho⊢;split at ho
  ·rename_i hc;rw [if_pos hc];exact c
  ·cases ho
 v0:=by
  have:(qz (BR [])).1=0:=by
   have:(qz ⟨#[]⟩).1=0:=by decide+kernel
   exact this
  rw [this];decide
 p0:=by
  have:(Ej ⟨#[]⟩).2.2.2.2=false:=by decide+kernel
  exact this
 f:=λw op h=>by
  have t:∀a:Fin 10,(qz (fnS (((a.val:Nat):Int)+1))).2.2.2=false/\(Ej (fnS (((a.val:Nat):Int)+1))).2.2.2.2=false:=by decide+kernel
  have e:∀(k:Nat) (i:Int),1<=i->i+k<=11->LE w i k=some op->∃j:Int,1<=j/\j<=10/\(fnS j).toList=w:=by
   intro k
   induction k with
   |zero=>intro i _ _ h;cases h
   |succ k ih=>
    intro i h1 h2 h;unfold LE at h;split at h
    ·rename_i hq;exact ⟨i,h1,by omega,hq⟩
    ·exact ih (i+1) (by omega) (by omega) h
  obtain ⟨j,j1,j2,rfl⟩:=e 10 1 (by omega) (by omega) h;rw [KM];have:=t ⟨(j-1).toNat,by omega⟩;simp only at this
  rwa [show (((j-1).toNat:Nat):Int)+1=j by omega] at this
 f0:=by decide+kernel
 n:=λn hn=>by
  have c:n=1\/n=2\/n=3\/n=4\/n=5:=by omega
  rcases c with rfl|rfl|rfl|rfl|rfl
  ·exact ⟨[68,73,86,33],by decide+kernel⟩
  ·exact ⟨[84,89,80,69,33],by decide+kernel⟩
  ·exact ⟨[82,69,70,33],by decide+kernel⟩
  ·exact ⟨[79,86,69,82,33],by decide+kernel⟩
  ·exact ⟨[67,89,67,76,69,33],by decide+kernel⟩
def Ve (s:BA):PS:=(pP 4050 (.bin 1 0) (s.toList,false,[])).2
def Ed (s:BA):List Nd×Bool:=
 if FE s 200=true/\(Ve s).2.1=false/\tb (Ve s).1= []/\Ii (Ve s).2.2=true then ((Ve s).2.2,true) else ([],false)
theorem RL {s:BA} (h:FE s 200=true):s.toList.length<=200:=by
 unfold FE at h;simp only [zL,aC] at h;rw [Dz];omega
theorem aw {s:BA} (h:FE s 200=true):Gd (s.toList,false,[]):=⟨by have:=RL h;simp only;omega,by simp,λx hx=>by cases hx⟩
theorem MC {l:List Nd} (h:∀x∈l,Wa x):∀c∈l,(kd c).length<=140737488351232/\c.2.2.2.2.1.size<=140737488351232:=λc hc=>by
 have:=h c hc;exact ⟨by have:=this.1;omega,by have:=this.2;omega⟩
theorem L0 (s:BA) (hb:s.size<=140737488351232):Ev (Hy · s) ((Ed s).1.map qo,(Ed s).2):=by
 obtain ⟨n1,h1⟩:=Qs s 200 hb;by_cases hp:FE s 200=true
 ·have hl:=RL hp;have htb:=Dj s.toList;have hg:=aw hp;obtain ⟨n2,h2⟩:=Kp 4050 (.bin 1 0) (s.toList,false,[]) (by show 20*(tb s.toList).length+6<=4050;omega) ⟨by decide,by decide⟩ hg trivial;have g:=(KY 4050 (.bin 1 0) (s.toList,false,[]) hg trivial).1;have e0:(pP 4050 (.bin 1 0) (s.toList,false,[])).2=Ve s:=rfl;rw [e0] at g;generalize pP 4050 (.bin 1 0) (s.toList,false,[])=P at h2 e0;rw [KM] at h2;unfold Ed;rw [<-e0] at g⊢;obtain ⟨n3,h3⟩:=NX P.2.1 P.2.2.2.length P.2.2.1 (P.2.2.2.map qo);obtain ⟨n4,h4⟩:=NV P.2.2.2 (by have:=g.n;omega) (MC g.s);refine ⟨n1+n2+n3+n4+1,λn hn=>?_⟩;obtain ⟨k,rfl,hm⟩:=up1 hn;have h1:=h1 k (by omega);rw [hp] at h1;refine qa h1 (qc rfl (qa (h2 k (by omega)) (qa (h3 k (by omega)) ?_)));by_cases hbad:P.2.2.1=true
  ·rw [if_neg (λh=>by rw [hbad] at h;cases h.2.1)];exact qb hbad (qb rfl rfl)
  ·have hbad:P.2.2.1=false:=by rw [aE];exact hbad
   refine qc hbad ?_;by_cases hr:tb P.2.1= []
   ·refine qc (Ep (by rw [zanG,q7];show (BR (tb P.2.1)).toList= [];rw [D7];exact hr)) (qb (zD (by simp)) (qa (h4 k (by omega)) (qb (NQ _) ?_)));cases ho:Ii P.2.2.2 with
    |true=>
     rw [if_pos ⟨hp,hbad,hr,rfl⟩];exact qc rfl (qb (zD (by simp)) rfl)
    |false=>
     rw [if_neg (λh=>by cases h.2.2.2)];exact qb rfl (qb rfl rfl)
   ·rw [if_neg (λh=>hr h.2.2.1)];exact qb (HQ (by rw [zanF,q7];show (BR (tb P.2.1)).toList≠ [];rw [D7];exact hr)) (qb rfl rfl)
 ·refine ⟨n1+1,λn hn=>?_⟩;obtain ⟨k,rfl,hm⟩:=up1 hn;unfold Ed;rw [if_neg (λh=>hp h.1)];exact qa (h1 k (by omega)) (qb (HQ (by rw [aE];exact hp)) (qb rfl rfl))
theorem fb {l:List Nd} (h:∃x∈l,GN x=false):Ii l=false:=by
 obtain ⟨x,hx,hb⟩:=h;rw [aE];intro ho;unfold Ii at ho;simp only [zL] at ho;obtain ⟨i,hi⟩:=List.mem_iff_getElem?.1 hx;have hil:=(zamJ.1 hi).1;have:=(LB.1 ho.2.1 (i:Int) (by omega) (by omega)).1;unfold L6 at this;have e:ndi l (i:Int)=x:=by unfold ndi;simp [hi]
 rw [e,hb] at this;cases this
theorem L1 (s:BA) (hb:s.size<=140737488351232):Ev (Hs · s) ((Ed s).1.map qo,(Ed s).2):=by
 obtain ⟨n1,h1⟩:=Pp s hb;by_cases hp:FE s 200=true
 ·have hl:=RL hp;have hs:s.toList.length<=1000:=by omega
  have htb:=Dj s.toList;have hg:=aw hp;have gi:=(KY 4050 (.bin 1 0) (s.toList,false,[]) hg trivial).1;have sim:=(mq fa (tb s.toList).length).2.2.1 (s.toList,false,[]) (s.toList,false,[]) 0 4 4050 4050 (by omega) ⟨rfl,rfl,rfl,rfl⟩ rfl (by omega) (by omega) (by omega) (by omega);rw [show (5:Int)-((4:Nat):Int)=1 from rfl] at sim;have iv:Iv s.toList (s.toList,false,[]):=⟨List.suffix_rfl,by simp;omega⟩;obtain ⟨n2,h2⟩:=Kq fa hs 4050 (.row 1) (s.toList,false,[]) ⟨by simp only;omega,by omega,by omega⟩ iv trivial;have g:=KZ fa 4050 (.row 1) (s.toList,false,[]) hs trivial;have e0:(pP 4050 (.bin 1 0) (s.toList,false,[])).2=Ve s:=rfl;generalize pP 4050 (.bin 1 0) (s.toList,false,[])=P at sim e0 gi;generalize sP 4050 (.row 1) (s.toList,false,[])=Q at sim h2 g;unfold Ed;rw [<-e0];obtain ⟨n3,h3⟩:=Zf hs Q.2 (iv.go g).1;obtain ⟨n4,h4⟩:=KJ Q.2.2.2 (MC (g.sm (λx hx=>by cases hx)));have p0:pos s.toList s.toList=0:=by unfold pos;simp
  simp only [KM,p0] at h2 h3;have g2:=(au (iv.go g).1);refine ⟨n1+n2+n3+n4+1,λn hn=>?_⟩;obtain ⟨k,rfl,hm⟩:=up1 hn;have h1:=h1 k (by omega);rw [hp] at h1;have h2:=h2 k (by omega);have h3:=h3 k (by omega);have e1:G6 s.toList Q=(Q.1,s,pos s.toList Q.2.1,Q.2.2.1,Q.2.2.2.length,Q.2.2.2.map qo):=by unfold G6 HU;rw [KM]
  have e2:HU s.toList (tb Q.2.1,Q.2.2)=(s,pos s.toList (tb Q.2.1),Q.2.2.1,Q.2.2.2.length,Q.2.2.2.map qo):=by unfold HU;rw [KM]
  rw [e1] at h2;rw [e2] at h3;refine qa h1 (qc rfl (qa h2 (qa h3 ?_)));rcases sim with ⟨_,hk,_⟩|⟨hbad,hd⟩
  ·obtain ⟨k1,k2,k3,k4⟩:=hk;rw [k1,k3,k4];refine qc k2 ?_;by_cases hr:tb Q.2.1= []
   ·refine qc (zd (show ¬pos s.toList (tb Q.2.1)<(s.size:Int) by rw [hr];unfold pos;simp [Dz])) (qb (zD (by simp)) (qa (h4 k (by omega)) (qb (NQ _) ?_)));cases ho:Ii Q.2.2.2 with
    |true=>
     rw [if_pos ⟨hp,rfl,hr,rfl⟩];exact qc rfl (qb (zD (by simp)) rfl)
    |false=>
     rw [if_neg (λh=>by cases h.2.2.2)];exact qb rfl (qb rfl rfl)
   ·rw [if_neg (λh=>hr h.2.2.1)];have hlp:=List.length_pos_iff.2 hr;have hsl:=H6 g2;exact qb (zD (show pos s.toList (tb Q.2.1)<(s.size:Int) by rw [Dz] at hsl;unfold pos;rw [Dz];omega)) (qb rfl rfl)
  ·rw [if_neg (λh=>by
    rcases hd with hd|hd
    ·rw [hd] at h;cases h.2.1
    ·rw [fb hd] at h;cases h.2.2.2)]
   exact qb hbad (qb rfl rfl)
 ·refine ⟨n1+1,λn hn=>?_⟩;obtain ⟨k,rfl,hm⟩:=up1 hn;unfold Ed;rw [if_neg (λh=>hp h.1)];exact qa (h1 k (by omega)) (qb (HQ (by rw [aE];exact hp)) (qb rfl rfl))
theorem OY (s:BA):(Ed s).1.length<=60/\∀x∈(Ed s).1,Wa x:=by
 unfold Ed;split
 ·rename_i h;have g:=(KY 4050 (.bin 1 0) (s.toList,false,[]) (aw h.1) trivial).1;exact ⟨g.n,g.s⟩
 ·exact ⟨by simp,λx hx=>by cases hx⟩
theorem Xl:∀(l:List UInt8) (acc:Nat) {u:Nat},l.all EQ=true->Lib.parseUintM (2^64-1) acc l= .ok u->u=EU acc l
 | [],acc,u,_,h=>by simp only [Lib.parseUintM] at h;cases h;rfl
 |c::r,acc,u,hd,h=>by
  simp only [zanC,zL] at hd;have hc:=hd.1;simp only [EQ,zL,aC] at hc;unfold Lib.parseUintM at h;rw [Ix];rw [if_pos hc] at h;by_cases h1:1844674407370955162<=acc
  ·rw [if_pos h1] at h;cases h
  ·rw [if_neg h1] at h;by_cases h2:2^64-1<acc*10+(c.toNat-48)
   ·rw [if_pos h2] at h;cases h
   ·rw [if_neg h2] at h;exact Xl r _ hd.2 h
theorem ax {p:UInt8->Bool}:∀l:List UInt8,(l.dropWhile p= [])↔l.all p=true
 | []=>by simp
 |c::r=>by
  rw [List.dropWhile_cons,zanC];by_cases h:p c=true
  ·rw [if_pos h,h,Bool.true_and];exact ax r
  ·rw [if_neg h];simp [h]
theorem cu {p:UInt8->Bool}:∀(l:List UInt8) {a:UInt8} {r:List UInt8},l.dropWhile p=a::r->p a=false
 | [],a,r,h=>by simp at h
 |c::l,a,r,h=>by
  rw [List.dropWhile_cons] at h;by_cases hc:p c=true
  ·rw [if_pos hc] at h;exact cu l h
  ·rw [if_neg hc] at h;cases h;rw [aE];exact hc
theorem iz:∀i:Fin 256,((⟨#[48,49,50,51,52,53,54,55,56,57]⟩:BA).data.toList.contains (UInt8.ofNat i.val))=EQ (UInt8.ofNat i.val):=by decide+kernel
theorem m9 {p:UInt8->Bool} {t:List UInt8}:((t.reverse.dropWhile p).reverse.dropWhile p= [])↔t.all p=true:=by
 rw [ax]
 constructor
 ·intro h;cases hx:t.reverse.dropWhile p with
  |nil=>
   rw [ax] at hx;rw [zamK] at hx⊢;exact λx hx'=>hx x (by simpa using hx')
  |cons a r=>
   rw [zamK] at h;have h1:=h a (by rw [hx];simp);rw [cu _ hx] at h1;cases h1
 ·intro h;rw [zamK] at h⊢;intro x hx;rw [List.mem_reverse] at hx;exact h x (by simpa using (List.dropWhile_suffix p).subset hx)
def LH (s:List UInt8):List UInt8:=if s.head?=some 45 then s.tail else s
def N4 (s:List UInt8):Int:=if s.head?=some 45 then-((EU 0 (LH s):Nat):Int) else ((EU 0 (LH s):Nat):Int)
def T3 (s:List UInt8):Bool:=decide (LH s≠ [])&&(LH s).all EQ
def I1 (s:List UInt8):Bool:=T3 s&&okV 1 (N4 s) em
theorem ja (s:List UInt8):(LH s).length<=s.length:=by unfold LH;split<;>simp
theorem o7 (s:List UInt8) (h:s.length<=1000):Ev (LV · (BR s)) (T3 s):=by
 refine ⟨10,λn hn=>?_⟩;obtain ⟨k,rfl⟩:∃k,n=k+5:=⟨n-5,by omega⟩;have tp:Ig (k+4) (BR s) ⟨#[45]⟩=some (BR (LH s)):=by
  have hp:Dk (k+2) (BR s) ⟨#[45]⟩=some (List.isPrefixOf [45] s):=by
   have:=Fh (k+1) s [45];simp only [DG,GY,qk] at this;have e:∀o:Option Bool,(o.bind λx=>some x)=o:=λo=>by cases o<;>rfl
   rw [e] at this;exact this
  have inner:FT (k+3) (BR s) ⟨#[45]⟩=some (BR (LH s)):=by
   by_cases hh:s.head?=some 45
   ·rw [(IB 45 s).2 hh] at hp;obtain ⟨t,rfl⟩:=RH hh;unfold LH;rw [if_pos hh];refine qa hp (qb rfl (qb (zD ⟨by decide,by rw [qv];show (1:Int)<=_;simp;omega,Int.le_refl _⟩) ?_));rw [qf];show some ((BR (45::t)).extract 1 ((((BR (45::t)).size:Nat):Int)).toNat)=_;rw [Ko,qv];simp
   ·have e:List.isPrefixOf [45] s=false:=by rw [aE];exact λe=>hh ((IB 45 s).1 e)
    rw [e] at hp;unfold LH;rw [if_neg hh];exact qa hp (qc rfl rfl)
  exact qa inner rfl
 have tl:=ja s;unfold T3;generalize LH s=t at tp tl⊢;refine qa tp ?_;by_cases ht:t= []
 ·subst ht;refine qc (Ep (by rw [D7,q7];rfl)) ?_;rfl
 ·refine qb (HQ (by rw [zanF,D7,q7];exact ht)) ?_;have tr:Ml (k+4) (BR t) ⟨#[48,49,50,51,52,53,54,55,56,57]⟩=some (BR (((t.reverse.dropWhile EQ).reverse).dropWhile EQ)):=by
   show bN (BR t) ⟨#[48,49,50,51,52,53,54,55,56,57]⟩=_;unfold bN;rw [if_pos ⟨by rw [qv];omega,by decide,by decide+kernel⟩];unfold Lib.trimS Lib.trimLeftS Lib.trimRightS;have:(λc=>(⟨#[48,49,50,51,52,53,54,55,56,57]⟩:BA).data.toList.contains c)=EQ:=funext (aj iz);rw [this,<-zao (BR t),D7];rfl
  refine qa tr ?_;rw [qf]
  congr 1
  have dt:decide (t≠ [])=true:=zD ht;rw [dt,Bool.true_and,D7,q7];by_cases ha:t.all EQ=true
  ·rw [m9.2 ha,ha];rfl
  ·have hx:¬(t.reverse.dropWhile EQ).reverse.dropWhile EQ= []:=λe=>ha (m9.1 e)
   rw [zanF.2 hx,aE.2 ha]
theorem ni {n:Int}:okV 1 n em=true↔-1000000000000000<=n/\n<=1000000000000000:=by
 simp [okV,em,q7]
theorem VN {s:List UInt8} (h:T3 s=true):(∀n,Lib.parseIntB 64 s= .ok n->n=N4 s)/\(I1 s=true->Lib.parseIntB 64 s= .ok (N4 s)):=by
 have hd:=h;unfold T3 at hd;simp only [zL,aC] at hd;obtain ⟨h1,h2⟩:=hd;have p:(2:Nat)^(64-1)=9223372036854775808:=by decide
 have hne:s≠ []:=λe=>h1 (by rw [e];rfl)
 obtain ⟨c,r,rfl⟩:∃c r,s=c::r:=by
  cases s with
  |nil=>exact absurd rfl hne
  |cons c r=>exact ⟨c,r,rfl⟩
 have c45:(c.toNat=45)↔c=45:=⟨λe=>UInt8.toNat_inj.1 (show c.toNat=(45:UInt8).toNat from e),λe=>by rw [e];rfl⟩;have nt:LH (c::r)=if c.toNat=43\/c.toNat=45 then r else c::r:=by
  unfold LH;by_cases hc:c=45
  ·subst hc;simp
  ·have hc2:¬c.toNat=45:=λe=>hc (c45.1 e)
   have ht:LH (c::r)=c::r:=by unfold LH;rw [if_neg (by simpa using hc)]
   rw [ht] at h2;simp only [zanC,zL,EQ,aC] at h2;rw [if_neg (by simpa using hc),if_neg (by omega)]
 have nv:N4 (c::r)=if c.toNat=45 then-((EU 0 (LH (c::r)):Nat):Int) else ((EU 0 (LH (c::r)):Nat):Int):=by
  unfold N4;by_cases hc:c=45
  ·subst hc;rfl
  ·rw [if_neg (by simpa using hc),if_neg (λe=>hc (c45.1 e))]
 unfold Lib.parseIntB;simp only;rw [<-nt];unfold Lib.parseUintB;rw [if_neg h1]
 constructor
 ·intro n hn;rcases hq:Lib.parseUintM (2^64-1) 0 (LH (c::r)) with u|_|_
  rotate_left
  ·rw [hq] at hn;cases hn
  ·rw [hq] at hn;cases hn
  ·have hu:=Xl _ 0 h2 hq;rw [hq] at hn;simp only at hn;split at hn
   ·cases hn
   ·split at hn
    ·cases hn
    ·injection hn with hn;rw [nv,<-hu,<-hn]
 ·intro ho;unfold I1 at ho;simp only [zL] at ho;have hb:=ni.1 ho.2;have hv:EU 0 (LH (c::r))<=1000000000000000:=by
   rw [nv] at hb;split at hb<;>omega
  rw [VA _ 0 h2 (by omega)];simp only;rw [if_neg (by rw [p];omega),if_neg (by rw [p];omega),nv]
def szL:List UInt8->List UInt8
 | []=> []
 |c::t=>if t≠ []/\c=48 then szL t else c::t
theorem Wg:∀l:List UInt8,EU 0 (szL l)=EU 0 l
 | []=>rfl
 |c::t=>by
  unfold szL;split
  ·rename_i h;rw [Wg t,Ix,h.2];rfl
  ·rfl
theorem Zi:∀l:List UInt8,(szL l).all EQ=l.all EQ
 | []=>rfl
 |c::t=>by
  unfold szL;split
  ·rename_i h;rw [Zi t,zanC,h.2];simp [EQ]
  ·rfl
theorem oq:∀l:List UInt8,l≠ []->szL l≠ []
 | [],h=>absurd rfl h
 |c::t,_=>by
  unfold szL;split
  ·rename_i h;exact oq t h.1
  ·simp
theorem Zj:∀l:List UInt8,(szL l).head?=some 48->(szL l).length=1
 | [],h=>by cases h
 |c::t,h=>by
  unfold szL at h⊢;split at h
  ·rename_i hc;rw [if_pos hc];exact Zj t h
  ·rename_i hc;rw [if_neg hc];have h48:c=48:=by simpa using h
   have:t= []:=Classical.byContradiction λe=>hc ⟨e,h48⟩
   rw [this];rfl
theorem jb {l:List UInt8} (h:l≠ []):Lx (szL l)=l.all EQ:=by
 unfold Lx;rw [Zi];have h1:(szL l== [])=false:=zanF.2 (oq l h);rw [h1];by_cases e:(szL l).head?=some 48
 ·rw [Zj l e];simp
 ·rw [zanF.2 e];simp
theorem o8:∀(l:List UInt8) (acc:Nat),acc*10^l.length<=EU acc l
 | [],acc=>by rw [Mw];simp
 |c::r,acc=>by
  have:=o8 r (acc*10+(c.toNat-48));rw [Ix,zamM,Nat.pow_succ];refine zS ?_ this;rw [show acc*(10^r.length*10)=acc*10*10^r.length by rw [Nat.mul_comm (10^r.length) 10,Nat.mul_assoc]];exact cY _ (by omega)
theorem pq {l:List UInt8} (hd:l.all EQ=true) (h:16<(szL l).length):10000000000000000<=EU 0 l:=by
 rw [<-Wg];rw [<-Zi] at hd;have hh:=Zj l;cases hz:szL l with
 |nil=>rw [hz] at h;simp at h
 |cons c r=>
  rw [hz] at h hd hh;simp only [zamM] at h;have hc:¬c=48:=λe=>by
   have:=hh (by rw [e];rfl);simp only [zamM] at this;omega
  simp only [zanC,zL,EQ,aC] at hd;have hc2:¬c.toNat=48:=λe=>hc (UInt8.toNat_inj.1 (show c.toNat=(48:UInt8).toNat from e))
  rw [Ix];have a:=o8 r (0*10+(c.toNat-48));have p:10^16<=10^r.length:=Nat.pow_le_pow_right (by decide) (by omega);have p16:(10:Nat)^16=10000000000000000:=by decide
  have:1*10^r.length<=(0*10+(c.toNat-48))*10^r.length:=cY _ (by omega);omega
theorem T4 (n:Nat) (neg:Bool) (a b:Int) (e:BA):∀(l:List UInt8) (M:Nat),l.length<=1000->l.length+1<=M->zE (Fs n) M (BR l,neg,a,b,e)=some (BR (szL l),neg,a,b,e)
 |l,0,_,h=>by omega
 | [],M+1,_,_=>qd (qc (zd (show ¬((BR []).size:Int)>1 by rw [qv];decide)) rfl)
 |c::t,M+1,hl,h=>by
  simp only [zamM] at h hl;unfold szL;by_cases ht:t= []
  ·rw [if_neg (λh=>h.1 ht)];subst ht;exact qd (qc (zd (show ¬((BR [c]).size:Int)>1 by rw [qv];simp)) rfl)
  ·have hpos:=List.length_pos_iff.2 ht;have g0:decide (((BR (c::t)).size:Int)>1)=true:=zD (by rw [qv];simp only [zamM];omega);have g1:(BR (c::t)).toList[((0:Int)).toNat]?=some c:=by rw [D7];rfl
   by_cases hc:c=48
   ·rw [if_pos ⟨ht,hc⟩];subst hc;rw [qm (v':=(BR t,neg,a,b,e)) (by
     refine qb g0 (qb rfl (qa g1 (qb rfl (qb (zD ⟨by decide,by rw [qv];simp only [zamM];omega,Int.le_refl _⟩) ?_))));rw [qf];show some (Sum.inl ((BR (48::t)).extract 1 ((((BR (48::t)).size:Nat):Int)).toNat,neg,a,b,e))=_;rw [Ko,qv];simp)]
    exact T4 n neg a b e t M (by omega) (by omega)
   ·rw [if_neg (λh=>hc h.2)];refine qd (qb g0 (qb rfl (qa g1 (qc ?_ rfl))));rw [zanF];intro e;exact hc (UInt8.toNat_inj.1 (show c.toNat=48 by omega))
theorem pr {l:List UInt8} (h:l≠ []):l1I (szL l) 16=if (szL l).length<=16/\l.all EQ=true then (((EU 0 l:Nat):Int),true) else (0,false):=by
 unfold l1I;rw [jb h,Wg];by_cases hh:(szL l).length<=16/\l.all EQ=true
 ·rw [if_pos hh,if_pos ⟨by have:=hh.1;omega,hh.2⟩]
 ·rw [if_neg hh,if_neg (λe=>hh ⟨by have:=e.1;omega,e.2⟩)]
theorem o9 (neg:Bool) (t:List UInt8) (ht:t≠ []) (hl:t.length<=1000):∃r:Int×Int×BA×Bool,(r.2.2.2=(t.all EQ&&okV 1 (if neg=true then-((EU 0 t:Nat):Int) else ((EU 0 t:Nat):Int)) em))/\(r.2.2.2=true->r=(1,(if neg=true then-((EU 0 t:Nat):Int) else ((EU 0 t:Nat):Int)),em,true))/\
  ∃n0,∀n,n0<=n->∃v:BA×Bool×Int×Int×BA,zE (Fs n) n (BR t,neg,0,0,⟨#[]⟩)=some v/\
   (Tr.opt (El n v.1 16) λr221=>(.ask (v.2.1)
    (.ask (r221.2) (.opt (EA n 1 (IntKind.i64.wrap (0-r221.1)) ⟨#[]⟩) λr222=>(.done ((1:Int),(IntKind.i64.wrap (0-r221.1)),(⟨#[]⟩:BA),r222))) (.done ((1:Int),(IntKind.i64.wrap (0-r221.1)),(⟨#[]⟩:BA),false)))
    (.ask (r221.2) (.opt (EA n 1 r221.1 ⟨#[]⟩) λr223=>(.done ((1:Int),r221.1,(⟨#[]⟩:BA),r223))) (.done ((1:Int),r221.1,(⟨#[]⟩:BA),false))))).run=some r:=by
 have hi:=JJ (BR (szL t)) 16 (by decide);rw [D7,pr ht] at hi;obtain ⟨n1,h1⟩:=hi;by_cases hh:(szL t).length<=16/\t.all EQ=true
 ·have hv:EU 0 t<10^(0+(szL t).length):=by
   have:=ZS (szL t) 0 0 (by rw [Zi];exact hh.2) (by decide)
   rwa [Wg] at this
  have hp:10^(0+(szL t).length)<=10^16:=Nat.pow_le_pow_right (by decide) (by omega);have p16:(10:Nat)^16=10000000000000000:=by decide
  have w1:IntKind.i64.wrap (0-((EU 0 t:Nat):Int))= -((EU 0 t:Nat):Int):=by rw [ql (by omega)];omega
  cases neg with
  |true=>
   obtain ⟨n2,h2⟩:=Dm 1 (-((EU 0 t:Nat):Int)) em (by decide);refine ⟨(1,-((EU 0 t:Nat):Int),em,okV 1 (-((EU 0 t:Nat):Int)) em),by rw [hh.2];simp,λe=>?_,n1+n2+t.length+1,λn hn=>⟨_,T4 n true 0 0 _ t n hl (by omega),?_⟩⟩
   ·simp only at e;rw [e];rfl
   ·have h1:=h1 n (by omega);rw [if_pos hh] at h1;have h2:=h2 n (by omega);rw [<-w1] at h2;refine qa h1 (qb rfl (qb rfl (qa h2 ?_)));rw [qf,w1];rfl
  |false=>
   obtain ⟨n2,h2⟩:=Dm 1 ((EU 0 t:Nat):Int) em (by decide);refine ⟨(1,((EU 0 t:Nat):Int),em,okV 1 ((EU 0 t:Nat):Int) em),by rw [hh.2];simp,λe=>?_,n1+n2+t.length+1,λn hn=>⟨_,T4 n false 0 0 _ t n hl (by omega),?_⟩⟩
   ·simp only at e;rw [e];rfl
   ·have h1:=h1 n (by omega);rw [if_pos hh] at h1;exact qa h1 (qc rfl (qb rfl (qa (h2 n (by omega)) rfl)))
 ·have hno:(t.all EQ&&okV 1 (if neg=true then-((EU 0 t:Nat):Int) else ((EU 0 t:Nat):Int)) em)=false:=by
   rw [aE];intro e;simp only [zL] at e;have hb:=ni.1 e.2;have:16<(szL t).length:=by
    have:¬(szL t).length<=16:=λh=>hh ⟨h,e.1⟩
    omega
   have:=pq e.1 this;split at hb<;>omega
  cases neg with
  |true=>
   refine ⟨(1,IntKind.i64.wrap (0-0),em,false),hno.symm,(λe=>by cases e),n1+t.length+1,λn hn=>⟨_,T4 n true 0 0 _ t n hl (by omega),?_⟩⟩;have h1:=h1 n (by omega);rw [if_neg hh] at h1;exact qa h1 (qb rfl (qc rfl rfl))
  |false=>
   refine ⟨(1,0,em,false),hno.symm,(λe=>by cases e),n1+t.length+1,λn hn=>⟨_,T4 n false 0 0 _ t n hl (by omega),?_⟩⟩;have h1:=h1 n (by omega);rw [if_neg hh] at h1;exact qa h1 (qc rfl (qc rfl rfl))
theorem p7 (s:List UInt8) (hs:s≠ []) (hl:s.length<=1000):∃r:Int×Int×BA×Bool,r.2.2.2=I1 s/\(I1 s=true->r=(1,N4 s,em,true))/\Ev (LP · (BR s)) r:=by
 obtain ⟨c,t,rfl⟩:∃c t,s=c::t:=by
  cases s with
  |nil=>exact absurd rfl hs
  |cons c t=>exact ⟨c,t,rfl⟩
 simp only [zamM] at hl;have g0:decide (((BR (c::t)).size:Int)>0)=true:=zD (by rw [qv];simp only [zamM];omega);have g1:(BR (c::t)).toList[((0:Int)).toNat]?=some c:=by rw [D7];rfl
 by_cases hc:c=45
 ·subst hc;have ext:(BR (45::t)).extract ((1:Int)).toNat ((((BR (45::t)).size:Nat):Int)).toNat=BR t:=by rw [Ko,qv];simp
  have g2:decide (0<=(1:Int)/\(1:Int)<=((BR (45::t)).size:Int)/\((BR (45::t)).size:Int)<=((BR (45::t)).size:Int))=true:=zD ⟨by decide,by rw [qv];simp only [zamM];omega,Int.le_refl _⟩;have nt:LH (45::t)=t:=rfl;have nv:N4 (45::t)= -((EU 0 t:Nat):Int):=rfl;by_cases ht:t= []
  ·subst ht;refine ⟨(0,0,⟨#[]⟩,false),by decide+kernel,(λe=>by revert e;decide+kernel),1,λn hn=>?_⟩;obtain ⟨k,rfl,hm⟩:=up1 hn;exact qb g0 (qb rfl (qa g1 (qb rfl (qb g2 (qb (by rw [ext,D7,q7];rfl) rfl)))))
  ·obtain ⟨r,r1,r2,n0,h0⟩:=o9 true t ht (by omega);have e:I1 (45::t)=(t.all EQ&&okV 1 (-((EU 0 t:Nat):Int)) em):=by
    unfold I1 T3;rw [nt,nv,zD ht,Bool.true_and]
   rw [if_pos rfl] at r1 r2;refine ⟨r,by rw [e];exact r1,λh=>by rw [nv];exact r2 (by rw [r1,<-e];exact h),n0+1,λn hn=>?_⟩;obtain ⟨k,rfl,hm⟩:=up1 hn;obtain ⟨v,lp,fin⟩:=h0 k (by omega);rw [<-ext] at lp;exact qb g0 (qb rfl (qa g1 (qb rfl (qb g2 (qc (by rw [ext,zanF,D7,q7];exact ht) (qa lp fin))))))
 ·have c45:((c.toNat:Int)==45)=false:=by
   rw [zanF];intro e;exact hc (UInt8.toNat_inj.1 (show c.toNat=45 by omega))
  have hh:¬(c::t).head?=some 45:=by simpa using hc
  have nt:LH (c::t)=c::t:=by unfold LH;rw [if_neg hh]
  have nv:N4 (c::t)=((EU 0 (c::t):Nat):Int):=by unfold N4;rw [if_neg hh,nt]
  obtain ⟨r,r1,r2,n0,h0⟩:=o9 false (c::t) (by simp) (by simp only [zamM];omega);have e:I1 (c::t)=((c::t).all EQ&&okV 1 (((EU 0 (c::t):Nat):Int)) em):=by
   unfold I1 T3;rw [nt,nv,zD (by simp),Bool.true_and]
  rw [if_neg (by simp)] at r1 r2;refine ⟨r,by rw [e];exact r1,λh=>by rw [nv];exact r2 (by rw [r1,<-e];exact h),n0+1,λn hn=>?_⟩;obtain ⟨k,rfl,hm⟩:=up1 hn;obtain ⟨v,lp,fin⟩:=h0 k (by omega);rw [<-c45] at lp;exact qb g0 (qb rfl (qa g1 (qc c45 (qc (by rw [zanF,D7,q7];simp) (qa lp fin)))))
def FU (s:BA):BA×Bool:=
 if FE s 200=false then (⟨#[]⟩,false) else if s.toList= [] then (⟨#[]⟩,true) else
 if s.toList.head?=some 61 then (if (Ed (BR s.toList.tail)).2=true/\(FS (Ed (BR s.toList.tail)).1).toList≠ []/\(FS (Ed (BR s.toList.tail)).1).size<200 then (⟨#[61]⟩++FS (Ed (BR s.toList.tail)).1,true) else (⟨#[]⟩,false)) else
 if I1 s.toList=true then (JH (N4 s.toList),true) else
 if (qz s).2.2.2=true then (s,true) else
 if s.size=200 then (⟨#[]⟩,false) else (⟨#[39]⟩++s,true)
theorem ay (t:BA):Ev (Fq · ((Ed t).1.map qo)) (FS (Ed t).1):=Rs _ (by have:=(OY t).1;omega) (MC (OY t).2)
theorem az (t:BA):Ev (Fy · ((Ed t).1.map qo)) (FS (Ed t).1):=Rt _ (by have:=(OY t).1;omega) (MC (OY t).2)
theorem S1 (l:List Nd):(FS l).size<=200:=by
 unfold FS;split
 ·split
  ·decide
  ·omega
 ·decide
theorem KQ {s:BA} (h:s.toList≠ []):(s.toList==(⟨#[]⟩:BA).toList)=false:=by rw [q7];exact zanF.2 h
theorem Vf {s:BA} (h:s.toList= []):(s.toList==(⟨#[]⟩:BA).toList)=true:=by rw [q7];exact zanG.2 h
theorem Xm {s:BA} (h:(qz s).2.2.2=true):okV (qz s).1 (qz s).2.1 (qz s).2.2.1=true/\(Di (qz s).1 (qz s).2.1 (qz s).2.2.1)=s:=by
 unfold qz at h⊢;split at h
 ·rename_i hc;rw [if_pos hc];exact ⟨hc.1,IK hc.2⟩
 ·cases h
theorem si {s:BA} (h:FE s 200=true):okV 2 0 s=true:=by
 unfold okV;rw [if_pos rfl,h];rfl
theorem M5 {s:BA} (h:FE s 200=true):s.size<=200:=by have:=RL h;rw [Dz] at this;exact this
theorem jc (s:BA):(Di 2 0 s).size=s.size+1:=by
 have e:Di 2 0 s=⟨#[39]⟩++s:=rfl;rw [e,zu];show 1+s.size=_;omega
theorem fe {s:BA} (h:(qz s).2.2.2=true):(qz s).2.2.1.size<=1000:=by
 obtain ⟨h1,h2⟩:=Xm h;unfold okV at h1;split at h1
 ·simp only [zL] at h1;have:=M5 h1.2;omega
 ·simp only [zL,zanG] at h1;have:=congrArg List.length h1.1;rw [Dz] at this;simp only [zanD] at this;omega
theorem Pu (s:BA) (hb:s.size<=140737488355328):Ev (IY · s) (FU s):=by
 obtain ⟨n1,h1⟩:=OP s hb;unfold FU;cases hp:FE s 200 with
 |false=>
  rw [if_pos rfl];refine ⟨n1+1,λn hn=>?_⟩;obtain ⟨k,rfl,hm⟩:=up1 hn;exact qa (h1 k (by omega)) (qb (HQ hp) rfl)
 |true=>
  rw [if_neg (by simp)];have hsz:=M5 hp;by_cases h0:s.toList= []
  ·rw [if_pos h0];refine ⟨n1+1,λn hn=>?_⟩;obtain ⟨k,rfl,hm⟩:=up1 hn;exact qa (h1 k (by omega)) (qc (Ep hp) (qb (Vf h0) rfl))
  ·rw [if_neg h0];obtain ⟨c,t,hct⟩:∃c t,s.toList=c::t:=by
    cases h:s.toList with
    |nil=>exact absurd h h0
    |cons c t=>exact ⟨c,t,rfl⟩
   have g1:s.toList[((0:Int)).toNat]?=some c:=by rw [hct];rfl
   have hl:s.size=t.length+1:=by rw [<-Dz,hct];rfl
   by_cases h61:s.toList.head?=some 61
   ·rw [if_pos h61];have hc:c=61:=by rw [hct] at h61;simpa using h61
    subst hc;have ext:s.extract ((1:Int)).toNat (((s.size:Nat):Int)).toNat=BR s.toList.tail:=by
     conv=>lhs;rw [<-KM s]
     rw [Ko,qv,hct];simp
    obtain ⟨n2,h2⟩:=L1 (BR s.toList.tail) (by rw [qv,hct];simp;omega);obtain ⟨n3,h3⟩:=ay (BR s.toList.tail);rw [<-ext] at h2 h3⊢;have fz:=S1 (Ed (s.extract ((1:Int)).toNat (((s.size:Nat):Int)).toNat)).1;have w1:IntKind.i64.wrap (((FS (Ed (s.extract ((1:Int)).toNat (((s.size:Nat):Int)).toNat)).1).size:Int)+1)=((FS (Ed (s.extract ((1:Int)).toNat (((s.size:Nat):Int)).toNat)).1).size:Int)+1:=ql (by omega);refine ⟨n1+n2+n3+1,λn hn=>?_⟩;obtain ⟨k,rfl,hm⟩:=up1 hn;refine qa (h1 k (by omega)) (qc (Ep hp) (qc (KQ h0) (qb rfl (qa g1 (qb rfl (qb (zD ⟨by decide,by omega,Int.le_refl _⟩) (qa (h2 k (by omega)) (qa (h3 k (by omega)) ?_))))))));by_cases hr:(Ed (s.extract ((1:Int)).toNat (((s.size:Nat):Int)).toNat)).2=true
    ·refine qc (Ep hr) ?_;by_cases he:(FS (Ed (s.extract ((1:Int)).toNat (((s.size:Nat):Int)).toNat)).1).toList= []
     ·rw [if_neg (λh=>h.2.1 he)];exact qb (Vf he) rfl
     ·refine qc (KQ he) ?_;by_cases hz:(FS (Ed (s.extract ((1:Int)).toNat (((s.size:Nat):Int)).toNat)).1).size<200
      ·rw [if_pos ⟨hr,he,hz⟩];exact qc (zd (by rw [w1];omega)) (qb (zD (by show 1+(FS (Ed (s.extract ((1:Int)).toNat (((s.size:Nat):Int)).toNat)).1).size<=9223372036854775807;omega)) rfl)
      ·rw [if_neg (λh=>hz h.2.2)];exact qb (zD (by rw [w1];omega)) rfl
    ·rw [if_neg (λh=>hr h.1)];exact qb (HQ (by rw [aE];exact hr)) rfl
   ·rw [if_neg h61];have hc:((c.toNat:Int)==61)=false:=by
     rw [zanF];intro e;refine h61 ?_;rw [hct,show c=61 from UInt8.toNat_inj.1 (show c.toNat=61 by omega)];rfl
    obtain ⟨r,r1,r2,n2,h2⟩:=p7 s.toList h0 (by rw [Dz];omega);rw [KM] at h2;obtain ⟨n3,h3⟩:=NU s (by omega);cases hn:I1 s.toList with
    |true=>
     rw [if_pos rfl];have er:=r2 hn;subst er;have hok:okV 1 (N4 s.toList) em=true:=by unfold I1 at hn;simp only [zL] at hn;exact hn.2
     obtain ⟨n4,h4⟩:=IS 1 (N4 s.toList) em (by decide);rw [if_pos hok] at h4;refine ⟨n1+n2+n4+1,λn hn=>?_⟩;obtain ⟨k,rfl,hm⟩:=up1 hn;exact qa (h1 k (by omega)) (qc (Ep hp) (qc (KQ h0) (qb rfl (qa g1 (qc hc (qa (h2 k (by omega)) (qb rfl (qa (h4 k (by omega)) rfl))))))))
    |false=>
     rw [if_neg (by simp)];have rf:r.2.2.2=false:=by rw [r1];exact hn
     by_cases hv:(qz s).2.2.2=true
     ·rw [if_pos hv];obtain ⟨v1,v2⟩:=Xm hv;obtain ⟨n4,h4⟩:=IS (qz s).1 (qz s).2.1 (qz s).2.2.1 (by have:=fe hv;omega);rw [if_pos v1,v2] at h4;refine ⟨n1+n2+n3+n4+1,λn hn=>?_⟩;obtain ⟨k,rfl,hm⟩:=up1 hn;exact qa (h1 k (by omega)) (qc (Ep hp) (qc (KQ h0) (qb rfl (qa g1 (qc hc (qa (h2 k (by omega)) (qc rf (qa (h3 k (by omega)) (qc (Ep hv) (qa (h4 k (by omega)) (qc (zd (by omega)) rfl)))))))))))
     ·rw [if_neg hv];obtain ⟨n4,h4⟩:=IS 2 0 s (by omega);rw [if_pos (si hp)] at h4;have vz:=jc s;refine ⟨n1+n2+n3+n4+1,λn hn=>?_⟩;obtain ⟨k,rfl,hm⟩:=up1 hn;refine qa (h1 k (by omega)) (qc (Ep hp) (qc (KQ h0) (qb rfl (qa g1 (qc hc (qa (h2 k (by omega)) (qc rf (qa (h3 k (by omega)) (qb (HQ (by rw [aE];exact hv)) (qa (h4 k (by omega)) ?_))))))))));by_cases hz:s.size=200
      ·rw [if_pos hz];exact qb (zD (by omega)) rfl
      ·rw [if_neg hz];exact qc (zd (by omega)) rfl
theorem p8 (X:BA):Ev (LU · ((Ed X).1.map qo)) (⟨#[61]⟩++FS (Ed X).1,decide ((FS (Ed X).1).toList≠ [])&&decide ((FS (Ed X).1).size<200)):=by
 obtain ⟨n1,h1⟩:=az X;have fz:=S1 (Ed X).1;refine ⟨n1+1,λn hn=>?_⟩;obtain ⟨k,rfl,hm⟩:=up1 hn;refine qa (h1 k (by omega)) (qb (zD (by show 1+(FS (Ed X).1).size<=9223372036854775807;omega)) ?_);by_cases he:(FS (Ed X).1).toList= []
 ·refine qc (Ep (Vf he)) ?_;rw [qf,zd (λh=>h he),Bool.false_and]
 ·refine qb (HQ (KQ he)) ?_;rw [qf,zD he,Bool.true_and];have e:decide (((FS (Ed X).1).size:Int)<200)=decide ((FS (Ed X).1).size<200):=by rw [decide_eq_decide];omega
  exact congrArg (λb:Bool=>some ((⟨#[61]⟩:BA)++FS (Ed X).1,b)) e
theorem Wb (s:BA) (hb:s.size<=140737488355328):Ev (Mm · s) (FU s):=by
 obtain ⟨n1,h1⟩:=Pq s 200 hb;unfold FU;cases hp:FE s 200 with
 |false=>
  rw [if_pos rfl];have h0:s.toList≠ []:=λe=>by
   have:FE s 200=true:=by
    unfold FE;have hz:s.size=0:=by rw [<-Dz,e];rfl
    rw [e,hz];rfl
   rw [hp] at this;cases this
  refine ⟨n1+1,λn hn=>?_⟩;obtain ⟨k,rfl,hm⟩:=up1 hn;refine qa (h1 k (by omega)) (qb (HQ hp) ?_);rw [qf,KQ h0]
 |true=>
  rw [if_neg (by simp)];have hsz:=M5 hp;by_cases h0:s.toList= []
  ·rw [if_pos h0];refine ⟨n1+1,λn hn=>?_⟩;obtain ⟨k,rfl,hm⟩:=up1 hn;refine qa (h1 k (by omega)) (qc (Ep hp) (qb (Vf h0) ?_));rw [qf,Vf h0]
  ·rw [if_neg h0];obtain ⟨n2,h2⟩:=KH s 61;by_cases h61:s.toList.head?=some 61
   ·rw [if_pos h61];rw [if_pos h61] at h2;obtain ⟨n3,h3⟩:=L0 (BR s.toList.tail) (by rw [qv,List.length_tail,Dz];omega);obtain ⟨n4,h4⟩:=p8 (BR s.toList.tail)
    change ∀n,n2<=n->DY n s ⟨#[61]⟩=some (BR s.toList.tail,true) at h2
    generalize BR s.toList.tail=X at h2 h3 h4⊢;refine ⟨n1+n2+n3+n4+1,λn hn=>?_⟩;obtain ⟨k,rfl,hm⟩:=up1 hn;have h4:=h4 k (by omega);refine qa (h1 k (by omega)) (qc (Ep hp) (qc (KQ h0) (qa (h2 k (by omega)) (qb rfl (qa (h3 k (by omega)) (qa h4 ?_))))));by_cases hr:(Ed X).2=true
    ·refine qc (Ep hr) ?_;by_cases he:(FS (Ed X).1).toList≠ []/\(FS (Ed X).1).size<200
     ·rw [if_pos ⟨hr,he⟩];exact qc (Ep (by simp only;rw [zD he.1,zD he.2];rfl)) rfl
     ·rw [if_neg (λh=>he h.2)];exact qb (HQ (by simp only;rw [aE];intro e;simp only [zL,aC] at e;exact he e)) rfl
    ·rw [if_neg (λh=>hr h.1)];exact qb (HQ (by rw [aE];exact hr)) rfl
   ·rw [if_neg h61];rw [if_neg h61] at h2;obtain ⟨n3,h3⟩:=NT s (by omega);obtain ⟨n4,h4⟩:=o7 s.toList (by rw [Dz];omega);rw [KM] at h4;have fin:∀k,n3<=k->(Tr.opt (DW k s) λr=>(.ask (r.2.2.2) (.done (s,true)) (.ask (((s.size:Int)==(200:Int))) (.done ((⟨#[]⟩:BA),false)) (.ask (decide ((⟨#[39]⟩:BA).size+s.size<=9223372036854775807)) (.done (((⟨#[39]⟩:BA)++s),true)) .fail)))).run=some (if (qz s).2.2.2=true then (s,true) else if s.size=200 then ((⟨#[]⟩:BA),false) else (⟨#[39]⟩++s,true)):=λk hk=>by
     refine qa (h3 k hk) ?_;by_cases hv:(qz s).2.2.2=true
     ·rw [if_pos hv];exact qb hv rfl
     ·rw [if_neg hv];refine qc (by rw [aE];exact hv) ?_;by_cases hz:s.size=200
      ·rw [if_pos hz];exact qb (zanG.2 (by omega)) rfl
      ·rw [if_neg hz];exact qc (zanF.2 (by omega)) (qb (zD (by show 1+s.size<=9223372036854775807;omega)) rfl)
    have hpi:∀k,Ez (k+1) s 10 64=zX s 10 64:=λk=>rfl
    have hL:zX s 10 64=(match Lib.parseIntB 64 s.toList with
     | .ok v=>some (.inl v)
     | .range=>some (.inr (Lib.intSat 64 s.toList))
     |_=>some (.inr 0)):=by
     unfold zX;rw [if_pos ⟨rfl,rfl,by omega⟩,zao];cases Lib.parseIntB 64 s.data.toList<;>rfl
    rcases hq:Lib.parseIntB 64 s.toList with v|_|_
    rotate_left
    ·have hn:I1 s.toList=false:=by
      rw [aE];intro e;have hd:T3 s.toList=true:=by unfold I1 at e;simp only [zL] at e;exact e.1
      have:=(VN hd).2 e;rw [hq] at this;cases this
     rw [hn,if_neg (by simp)];rw [hq] at hL;refine ⟨n1+n2+n3+2,λn hn=>?_⟩;obtain ⟨k,rfl,hm⟩:=up1 hn;obtain ⟨k,rfl,hm⟩:=up1 (show n1+n2+n3+1<=k by omega);exact qa (h1 (k+1) (by omega)) (qc (Ep hp) (qc (KQ h0) (qa (h2 (k+1) (by omega)) (qc rfl (qa ((hpi k).trans hL) (qc rfl (fin (k+1) (by omega))))))))
    ·have hn:I1 s.toList=false:=by
      rw [aE];intro e;have hd:T3 s.toList=true:=by unfold I1 at e;simp only [zL] at e;exact e.1
      have:=(VN hd).2 e;rw [hq] at this;cases this
     rw [hn,if_neg (by simp)];rw [hq] at hL;refine ⟨n1+n2+n3+2,λn hn=>?_⟩;obtain ⟨k,rfl,hm⟩:=up1 hn;obtain ⟨k,rfl,hm⟩:=up1 (show n1+n2+n3+1<=k by omega);exact qa (h1 (k+1) (by omega)) (qc (Ep hp) (qc (KQ h0) (qa (h2 (k+1) (by omega)) (qc rfl (qa ((hpi k).trans hL) (qc rfl (fin (k+1) (by omega))))))))
    ·rw [hq] at hL;cases hd:T3 s.toList with
     |false=>
      have hn:I1 s.toList=false:=by unfold I1;rw [hd];rfl
      rw [hn,if_neg (by simp)];refine ⟨n1+n2+n3+n4+2,λn hn=>?_⟩;obtain ⟨k,rfl,hm⟩:=up1 hn;obtain ⟨k,rfl,hm⟩:=up1 (show n1+n2+n3+n4+1<=k by omega);have h4:=h4 (k+1) (by omega);rw [hd] at h4;exact qa (h1 (k+1) (by omega)) (qc (Ep hp) (qc (KQ h0) (qa (h2 (k+1) (by omega)) (qc rfl (qa ((hpi k).trans hL) (qb rfl (qa h4 (qc rfl (fin (k+1) (by omega))))))))))
     |true=>
      have hv:=(VN hd).1 v hq;subst hv;obtain ⟨n5,h5⟩:=Qt (N4 s.toList);obtain ⟨n6,h6⟩:=Li 1 (N4 s.toList) em (by decide);have ei:I1 s.toList=okV 1 (N4 s.toList) em:=by unfold I1;rw [hd,Bool.true_and]
      rw [ei];cases ho:okV 1 (N4 s.toList) em with
      |true=>
       rw [if_pos rfl];have hb2:=ni.1 ho;obtain ⟨n7,h7⟩:=Lj (N4 s.toList) (by omega);refine ⟨n1+n2+n3+n4+n5+n6+n7+2,λn hn=>?_⟩;obtain ⟨k,rfl,hm⟩:=up1 hn;obtain ⟨k,rfl,hm⟩:=up1 (show n1+n2+n3+n4+n5+n6+n7+1<=k by omega);have h4:=h4 (k+1) (by omega);rw [hd] at h4;exact qa (h1 (k+1) (by omega)) (qc (Ep hp) (qc (KQ h0) (qa (h2 (k+1) (by omega)) (qc rfl (qa ((hpi k).trans hL) (qb rfl (qa h4 (qb rfl (qa (h5 (k+1) (by omega)) (qa (h6 (k+1) (by omega)) (qb ho (qa (h7 (k+1) (by omega)) rfl))))))))))))
      |false=>
       rw [if_neg (by simp)];refine ⟨n1+n2+n3+n4+n5+n6+2,λn hn=>?_⟩;obtain ⟨k,rfl,hm⟩:=up1 hn;obtain ⟨k,rfl,hm⟩:=up1 (show n1+n2+n3+n4+n5+n6+1<=k by omega);have h4:=h4 (k+1) (by omega);rw [hd] at h4;exact qa (h1 (k+1) (by omega)) (qc (Ep hp) (qc (KQ h0) (qa (h2 (k+1) (by omega)) (qc rfl (qa ((hpi k).trans hL) (qb rfl (qa h4 (qb rfl (qa (h5 (k+1) (by omega)) (qa (h6 (k+1) (by omega)) (qc ho (fin (k+1) (by omega)))))))))))))
abbrev Cl:=Int×Int×BA
def qe (c:Cl):List PV:= [.i .i64 c.1,.i .i64 c.2.1,.s c.2.2]
def Ru (s:BA):Bool:=(FU s).2&&(decide (s.toList≠ [])&&((FU s).1.toList==s.toList))
def N5 (l:List Cl) (i:Nat) (c:Cl):Bool:=match i with
 |0=>true
 |j+1=>match l[j]? with
  |some p=>Jm p.1 p.2.1 c.1 c.2.1
  |none=>true
def N6 (l:List Cl):Nat->List Cl->Bool
 |_,[]=>true
 |i,c::r=>D8 c.1 c.2.1&&(Ru c.2.2&&N5 l i c)&&N6 l (i+1) r
def Er (l:List Cl):Bool:=N6 l 0 l&&decide ((l.length:Int)<=120)
theorem p9 (s:BA) (hb:s.size<=140737488355328):Ev (H9 · s) (Ru s):=by
 obtain ⟨n1,h1⟩:=Wb s hb;refine ⟨n1+1,λn hn=>?_⟩;obtain ⟨k,rfl,hm⟩:=up1 hn;refine qa (h1 k (by omega)) ?_;unfold Ru;by_cases h2:(FU s).2=true
 ·refine qb h2 ?_;rw [h2,Bool.true_and];by_cases h3:s.toList= []
  ·refine qc (Ep (Vf h3)) ?_;rw [qf,zd (λe=>e h3),Bool.false_and]
  ·refine qb (HQ (KQ h3)) ?_;rw [qf,zD h3,Bool.true_and]
 ·have h2:(FU s).2=false:=by rw [aE];exact h2
  refine qc h2 ?_;rw [qf,h2,Bool.false_and]
structure SrcAt (n:Nat) (c:Cl):Prop where
 r1:E1 n c.1 c.2.1=some (D8 c.1 c.2.1)
 r2:Ge n c.1 c.2.1=some (D8 c.1 c.2.1)
 i1:IY n c.2.2=some (FU c.2.2)
 i2:H9 n c.2.2=some (Ru c.2.2)
theorem jd (c:Cl) (hb:c.2.2.size<=140737488351232):∃n0,∀n,n0<=n->SrcAt n c:=by
 obtain ⟨n1,h1⟩:=Gj c.1 c.2.1;obtain ⟨n2,h2⟩:=IH c.1 c.2.1;obtain ⟨n3,h3⟩:=Pu c.2.2 (by omega);obtain ⟨n4,h4⟩:=p9 c.2.2 (by omega);exact ⟨n1+n2+n3+n4,λn hn=>⟨h1 n (by omega),h2 n (by omega),h3 n (by omega),h4 n (by omega)⟩⟩
theorem Zk:∀(l:List Cl),(∀c∈l,c.2.2.size<=140737488351232)->∃n0,∀n,n0<=n->∀c∈l,SrcAt n c
 | [],_=>⟨0,λn _ c hc=>by cases hc⟩
 |a::l,h=>by
  obtain ⟨n1,h1⟩:=jd a (h a (zamN ..));obtain ⟨n2,h2⟩:=Zk l λc hc=>h c (zamR _ hc)
  exact ⟨n1+n2,λn hn c hc=>by
   rcases zamT.1 hc with rfl|hc
   ·exact h1 n (by omega)
   ·exact h2 n (by omega) c hc⟩
theorem T5 (n:Nat) (l:List Cl) (hb:l.length<=140737488351232) (hs:∀c∈l,SrcAt n c) (ha:∀a b c d,Fc n a b c d=some (Jm a b c d)):
  ∀(m i M:Nat),l.length=i+m->m+1<=M->zE (J1 n) M (l.map qe,(i:Int))=some (if N6 l i (l.drop i)=true then .inr () else .inl false)
 |m,i,0,h1,h2=>by omega
 |0,i,M+1,h1,h2=>by
  rw [List.drop_eq_nil_of_le (by omega)];exact qd (qc (zd (show ¬((i:Int)<((l.map qe).length:Int)) by rw [zamV];omega)) rfl)
 |m+1,i,M+1,h1,h2=>by
  have hl:i<l.length:=by omega
  have hg:=zW hl;have hm:=List.getElem_mem hl;rw [IG hg];generalize l[i]=c at hg hm;have S:=hs c hm;have hw:IntKind.i64.wrap ((i:Int)+1)=((i+1:Nat):Int):=by rw [ql (by omega)];omega
  have g1:decide ((i:Int)<((l.map qe).length:Int))=true:=zD (by rw [zamV];omega);have g2:decide (0<=(i:Int)/\(i:Int)<((l.map qe).length:Int))=true:=zD ⟨by omega,by rw [zamV];omega⟩;have g3:(l.map qe)[((i:Int)).toNat]?=some (qe c):=by rw [bO,zamS,hg];rfl
  have k3:decide ((qe c).length=3)=true:=rfl;have cs:zk (qe c) 2=some c.2.2:=rfl;have c0:zC .i64 (qe c) 0=some c.1:=rfl;have c1:zC .i64 (qe c) 1=some c.2.1:=rfl;have ih:=T5 n l hb hs ha m (i+1) M (by omega) (by omega);unfold N6;by_cases hR:D8 c.1 c.2.1=true
  rotate_left
  ·have hR:D8 c.1 c.2.1=false:=by rw [aE];exact hR
   rw [hR,Bool.false_and,Bool.false_and,if_neg (by simp)];exact qd (qb g1 (qb g2 (qa g3 (qb k3 (qa cs (qa S.i1 (qb g2 (qa g3 (qb k3 (qa c0 (qa c1 (qa S.r1 (qb (HQ hR) rfl)))))))))))))
  rw [hR,Bool.true_and];by_cases hI:(FU c.2.2).2=true
  rotate_left
  ·have hI:(FU c.2.2).2=false:=by rw [aE];exact hI
   have e:Ru c.2.2=false:=by unfold Ru;rw [hI];rfl
   rw [e,Bool.false_and,Bool.false_and,if_neg (by simp)];exact qd (qb g1 (qb g2 (qa g3 (qb k3 (qa cs (qa S.i1 (qb g2 (qa g3 (qb k3 (qa c0 (qa c1 (qa S.r1 (qc (Ep hR) (qb (HQ hI) rfl))))))))))))))
  by_cases hE:c.2.2.toList= []
  ·have e:Ru c.2.2=false:=by unfold Ru;rw [zd (λh=>h hE),Bool.false_and,Bool.and_false]
   rw [e,Bool.false_and,Bool.false_and,if_neg (by simp)];exact qd (qb g1 (qb g2 (qa g3 (qb k3 (qa cs (qa S.i1 (qb g2 (qa g3 (qb k3 (qa c0 (qa c1 (qa S.r1 (qc (Ep hR) (qc (Ep hI) (qb g2 (qa g3 (qb k3 (qa cs (qb (Vf hE) rfl)))))))))))))))))))
  by_cases hQ:(FU c.2.2).1.toList=c.2.2.toList
  rotate_left
  ·have e:Ru c.2.2=false:=by unfold Ru;rw [zanF.2 hQ,Bool.and_false,Bool.and_false]
   rw [e,Bool.false_and,Bool.false_and,if_neg (by simp)];exact qd (qb g1 (qb g2 (qa g3 (qb k3 (qa cs (qa S.i1 (qb g2 (qa g3 (qb k3 (qa c0 (qa c1 (qa S.r1 (qc (Ep hR) (qc (Ep hI) (qb g2 (qa g3 (qb k3 (qa cs (qc (KQ hE) (qb g2 (qa g3 (qb k3 (qa cs (qb (HQ (zanF.2 hQ)) rfl))))))))))))))))))))))))
  have e:Ru c.2.2=true:=by unfold Ru;rw [hI,zD hE,zanG.2 hQ];rfl
  rw [e,Bool.true_and];cases i with
  |zero=>
   rw [show N5 l 0 c=true from rfl,Bool.true_and];rw [qm (v':=(l.map qe,((0+1:Nat):Int))) (by
    refine qb g1 (qb g2 (qa g3 (qb k3 (qa cs (qa S.i1 (qb g2 (qa g3 (qb k3 (qa c0 (qa c1 (qa S.r1 (qc (Ep hR) (qc (Ep hI) (qb g2 (qa g3 (qb k3 (qa cs (qc (KQ hE) (qb g2 (qa g3 (qb k3 (qa cs (qc (Ep (zanG.2 hQ)) (qc rfl ?_))))))))))))))))))))))));rw [qf,hw])]
   exact ih
  |succ j=>
   have hj:j<l.length:=by omega
   have hgj:=zW hj;generalize l[j]=p at hgj;have wj:IntKind.i64.wrap (((j+1:Nat):Int)-1)=(j:Int):=by rw [ql (by omega)];omega
   have a1:decide (((j+1:Nat):Int)>0)=true:=zD (by omega);have j2:decide (0<=IntKind.i64.wrap (((j+1:Nat):Int)-1)/\IntKind.i64.wrap (((j+1:Nat):Int)-1)<((l.map qe).length:Int))=true:=zD (by rw [wj,zamV];omega);have j3:(l.map qe)[(IntKind.i64.wrap (((j+1:Nat):Int)-1)).toNat]?=some (qe p):=by rw [wj,bO,zamS,hgj];rfl
   have p0:zC .i64 (qe p) 0=some p.1:=rfl;have p1:zC .i64 (qe p) 1=some p.2.1:=rfl;have h5:=ha p.1 p.2.1 c.1 c.2.1;have ep:N5 l (j+1) c=Jm p.1 p.2.1 c.1 c.2.1:=by unfold N5;simp only [hgj]
   rw [ep];by_cases hA:Jm p.1 p.2.1 c.1 c.2.1=true
   ·rw [hA,Bool.true_and];rw [qm (v':=(l.map qe,((j+1+1:Nat):Int))) (by
     refine qb g1 (qb g2 (qa g3 (qb k3 (qa cs (qa S.i1 (qb g2 (qa g3 (qb k3 (qa c0 (qa c1 (qa S.r1 (qc (Ep hR) (qc (Ep hI) (qb g2 (qa g3 (qb k3 (qa cs (qc (KQ hE) (qb g2 (qa g3 (qb k3 (qa cs (qc (Ep (zanG.2 hQ)) (qb a1 (qb j2 (qa j3 (qb rfl (qa p0 (qa p1 (qb g2 (qa g3 (qb k3 (qa c0 (qa c1 (qa h5 (qc (Ep hA) ?_))))))))))))))))))))))))))))))))))));rw [qf,hw])]
    exact ih
   ·have hA:Jm p.1 p.2.1 c.1 c.2.1=false:=by rw [aE];exact hA
    rw [hA,Bool.false_and,if_neg (by simp)];exact qd (qb g1 (qb g2 (qa g3 (qb k3 (qa cs (qa S.i1 (qb g2 (qa g3 (qb k3 (qa c0 (qa c1 (qa S.r1 (qc (Ep hR) (qc (Ep hI) (qb g2 (qa g3 (qb k3 (qa cs (qc (KQ hE) (qb g2 (qa g3 (qb k3 (qa cs (qc (Ep (zanG.2 hQ)) (qb a1 (qb j2 (qa j3 (qb rfl (qa p0 (qa p1 (qb g2 (qa g3 (qb k3 (qa c0 (qa c1 (qa h5 (qb (HQ hA) rfl)))))))))))))))))))))))))))))))))))))
theorem Ll (l:List Cl) (hb:l.length<=140737488351232) (hs:∀c∈l,c.2.2.size<=140737488351232):Ev (IZ · (l.map qe)) (Er l):=by
 obtain ⟨n1,h1⟩:=Zk l hs;refine ⟨n1+l.length+3,λn hn=>?_⟩;obtain ⟨m,rfl,hm⟩:=up1 hn;have ha:∀a b c d,Fc m a b c d=some (Jm a b c d):=λa b c d=>by
  obtain ⟨q,rfl⟩:∃q,m=q+1:=⟨m-1,by omega⟩;simp only [Fc,J0,qk];unfold Jm;by_cases h:b<d
  ·simp [h]
  ·by_cases h':b=d
   ·subst h';simp
   ·simp [h,h']
 have h:=T5 m l hb (h1 m (by omega)) ha l.length 0 m (by omega) (by omega);simp only [Int.natCast_zero,List.drop_zero] at h;unfold Er;by_cases h0:(l.length:Int)>120
 ·refine qb (zD (by rw [zamV];exact h0)) ?_;rw [qf,zd (by omega),Bool.and_false]
 ·refine qc (zd (by rw [zamV];exact h0)) (qa h ?_);rw [zD (show (l.length:Int)<=120 by omega),Bool.and_true];cases N6 l 0 l<;>rfl
theorem T6 (n:Nat) (l:List Cl) (hb:l.length<=140737488351232) (hs:∀c∈l,SrcAt n c) (ha:∀p∈l,∀c∈l,Ft n p.1 p.2.1 c.1 c.2.1=some (H4 [Su p.2.1 c.2.1,Su p.1 c.1])):
  ∀(m i M:Nat),l.length=i+m->m+1<=M->zE (KA n) M (l.map qe,l.map qe,(l.length:Int),(i:Int))=some (if N6 l i (l.drop i)=true then .inr (l.map qe) else .inl false)
 |m,i,0,h1,h2=>by omega
 |0,i,M+1,h1,h2=>by
  rw [List.drop_eq_nil_of_le (by omega)];exact qd (qc (zd (show ¬((i:Int)<(l.length:Int)) by omega)) rfl)
 |m+1,i,M+1,h1,h2=>by
  have hl:i<l.length:=by omega
  have hg:=zW hl;have hm:=List.getElem_mem hl;rw [IG hg];generalize l[i]=c at hg hm;have S:=hs c hm;have hw:IntKind.i64.wrap ((i:Int)+1)=((i+1:Nat):Int):=by rw [ql (by omega)];omega
  have g1:decide ((i:Int)<(l.length:Int))=true:=zD (by omega);have g2:decide (0<=(i:Int)/\(i:Int)<((l.map qe).length:Int))=true:=zD ⟨by omega,by rw [zamV];omega⟩;have g3:(l.map qe)[((i:Int)).toNat]?=some (qe c):=by rw [bO,zamS,hg];rfl
  have k3:decide ((qe c).length=3)=true:=rfl;have cs:zk (qe c) 2=some c.2.2:=rfl;have c0:zC .i64 (qe c) 0=some c.1:=rfl;have c1:zC .i64 (qe c) 1=some c.2.1:=rfl;have ih:=T6 n l hb hs ha m (i+1) M (by omega) (by omega);unfold N6;by_cases hR:D8 c.1 c.2.1=true
  rotate_left
  ·have hR:D8 c.1 c.2.1=false:=by rw [aE];exact hR
   rw [hR,Bool.false_and,Bool.false_and,if_neg (by simp)];exact qd (qb g1 (qb g2 (qa g3 (qb k3 (qa c0 (qa c1 (qa cs (qa S.r2 (qb (HQ hR) rfl)))))))))
  rw [hR,Bool.true_and];cases i with
  |zero=>
   rw [show N5 l 0 c=true from rfl,Bool.and_true];by_cases hS:Ru c.2.2=true
   ·rw [hS,Bool.true_and];rw [qm (v':=(l.map qe,l.map qe,(l.length:Int),((0+1:Nat):Int))) (by
     refine qb g1 (qb g2 (qa g3 (qb k3 (qa c0 (qa c1 (qa cs (qa S.r2 (qc (Ep hR) (qc rfl (qa S.i2 (qc (Ep hS) ?_)))))))))));rw [qf,hw])]
    exact ih
   ·have hS:Ru c.2.2=false:=by rw [aE];exact hS
    rw [hS,Bool.false_and,if_neg (by simp)];exact qd (qb g1 (qb g2 (qa g3 (qb k3 (qa c0 (qa c1 (qa cs (qa S.r2 (qc (Ep hR) (qc rfl (qa S.i2 (qb (HQ hS) rfl))))))))))))
  |succ j=>
   have hj:j<l.length:=by omega
   have hgj:=zW hj;have hmj:=List.getElem_mem hj;generalize l[j]=p at hgj hmj;have wj:IntKind.i64.wrap (((j+1:Nat):Int)-1)=(j:Int):=by rw [ql (by omega)];omega
   have a1:decide (((j+1:Nat):Int)>0)=true:=zD (by omega);have j2:decide (0<=IntKind.i64.wrap (((j+1:Nat):Int)-1)/\IntKind.i64.wrap (((j+1:Nat):Int)-1)<((l.map qe).length:Int))=true:=zD (by rw [wj,zamV];omega);have j3:(l.map qe)[(IntKind.i64.wrap (((j+1:Nat):Int)-1)).toNat]?=some (qe p):=by rw [wj,bO,zamS,hgj];rfl
   have p0:zC .i64 (qe p) 0=some p.1:=rfl;have p1:zC .i64 (qe p) 1=some p.2.1:=rfl;have h5:=ha p hmj c hm;have h6:=dm p.1 p.2.1 c.1 c.2.1;have ep:N5 l (j+1) c=Jm p.1 p.2.1 c.1 c.2.1:=by unfold N5;simp only [hgj]
   rw [ep];by_cases hA:Jm p.1 p.2.1 c.1 c.2.1=true
   ·rw [hA] at h6;rw [hA,Bool.and_true];by_cases hS:Ru c.2.2=true
    ·rw [hS,Bool.true_and];rw [qm (v':=(l.map qe,l.map qe,(l.length:Int),((j+1+1:Nat):Int))) (by
      refine qb g1 (qb g2 (qa g3 (qb k3 (qa c0 (qa c1 (qa cs (qa S.r2 (qc (Ep hR) (qb a1 (qb j2 (qa j3 (qb rfl (qa p0 (qa p1 (qa h5 (qc h6 (qa S.i2 (qc (Ep hS) ?_))))))))))))))))));rw [qf,hw])]
     exact ih
    ·have hS:Ru c.2.2=false:=by rw [aE];exact hS
     rw [hS,Bool.false_and,if_neg (by simp)];exact qd (qb g1 (qb g2 (qa g3 (qb k3 (qa c0 (qa c1 (qa cs (qa S.r2 (qc (Ep hR) (qb a1 (qb j2 (qa j3 (qb rfl (qa p0 (qa p1 (qa h5 (qc h6 (qa S.i2 (qb (HQ hS) rfl)))))))))))))))))))
   ·have hA:Jm p.1 p.2.1 c.1 c.2.1=false:=by rw [aE];exact hA
    rw [hA] at h6;rw [hA,Bool.and_false,Bool.false_and,if_neg (by simp)];exact qd (qb g1 (qb g2 (qa g3 (qb k3 (qa c0 (qa c1 (qa cs (qa S.r2 (qc (Ep hR) (qb a1 (qb j2 (qa j3 (qb rfl (qa p0 (qa p1 (qa h5 (qb h6 rfl)))))))))))))))))
theorem Pv (l:List Cl) (hb:l.length<=140737488351232) (hs:∀c∈l,c.2.2.size<=140737488351232):Ev (KC · (l.map qe)) (Er l):=by
 obtain ⟨n1,h1⟩:=Zk l hs;obtain ⟨n3,h3⟩:=Eu (F:=λ(pc:Cl×Cl) n=>Ft n pc.1.1 pc.1.2.1 pc.2.1 pc.2.2.1) (f:=λpc=>H4 [Su pc.1.2.1 pc.2.2.1,Su pc.1.1 pc.2.1]) (l.flatMap λp=>l.map λc=>(p,c)) λpc _=>Rq pc.1.1 pc.1.2.1 pc.2.1 pc.2.2.1
 refine ⟨n1+n3+l.length+3,λn hn=>?_⟩;obtain ⟨m,rfl,hm⟩:=up1 hn;have h:=T6 m l hb (h1 m (by omega)) (λp hp c hc=>h3 m (by omega) (p,c) (zamP.2 ⟨p,hp,List.mem_map.2 ⟨c,hc,rfl⟩⟩)) l.length 0 m (by omega) (by omega);simp only [Int.natCast_zero,List.drop_zero] at h;rw [show (l.length:Int)=((l.map qe).length:Int) by rw [zamV]] at h;unfold Er;refine qa h ?_;cases N6 l 0 l with
 |true=>
  rw [if_pos rfl,Bool.true_and];show some (decide (((l.map qe).length:Int)<=120))=_;rw [zamV]
 |false=>rfl
theorem T7 {r:List UInt8} (h:r.head?≠some 32):tb r=r:=by
 cases r with
 |nil=>rfl
 |cons c t=>
  have:¬c=32:=λe=>h (by rw [e];rfl)
  simp [tb,this]
theorem Zl {w r:List UInt8} (h:w.all wch=true) (h2:∀c,r.head?=some c->wch c=false):wd (w++r)=w/\wr (w++r)=r:=by
 unfold wd wr;rw [zamK] at h;rw [List.takeWhile_append_of_pos h,List.dropWhile_append_of_pos h];cases r with
 |nil=>simp
 |cons c r=>simp [h2 c rfl]
def Fo (r:List UInt8):Prop:=∀c,r.head?=some c->c∈([38,43,45,42,47,60,61,62,41,44]:List UInt8)
theorem je:Fo []:=λc h=>by cases h
theorem HR {c:UInt8} {r:List UInt8} (h:c∈([38,43,45,42,47,60,61,62,41,44]:List UInt8)):Fo (c::r):=λd hd=>by
 simp at hd;subst hd;exact h
theorem S2 {r:List UInt8} (h:Fo r):∀c,r.head?=some c->wch c=false:=λc hc=>by
 have:=h c hc
 revert this
 simp only [zamT,List.not_mem_nil,or_false];rintro (rfl|rfl|rfl|rfl|rfl|rfl|rfl|rfl|rfl|rfl)<;>decide
theorem cv {r:List UInt8} (h:Fo r) {d:UInt8} (hd:d∉([38,43,45,42,47,60,61,62,41,44]:List UInt8)):r.head?≠some d:=λe=>hd (h d e)
theorem cw {r:List UInt8} (h:Fo r):tb r=r:=T7 (cv h (by decide))
theorem Zm:∀(b acc r:List UInt8),r.head?≠some 34->F4 acc (ES b++34::r)=some (acc++b,r)
 | [],acc,r,h=>by simp only [ES,List.flatMap_nil,List.nil_append,List.append_nil];exact mu acc r h
 |c::b,acc,r,h=>by
  rw [Jh];by_cases hc:c=34
  ·subst hc;rw [if_pos rfl];show F4 acc (34::34::(ES b++34::r))=_;rw [mr,Zm b _ r h];simp
  ·rw [if_neg hc];show F4 acc (c::(ES b++34::r))=_;rw [mw _ _ hc,Zm b _ r h];simp
def Sta (r:List UInt8):Prop:=∃c,r.head?=some c/\(wch c=true\/c=45\/c=40\/c=34\/c=35)
theorem Zn {r:List UInt8} (h:Sta r) {d:UInt8} (h1:wch d=false) (h2:d≠45/\d≠40/\d≠34/\d≠35):r.head?≠some d:=λe=>by
 obtain ⟨c,hc,hw⟩:=h;rw [e] at hc;cases hc;rcases hw with hw|rfl|rfl|rfl|rfl
 ·rw [h1] at hw;cases hw
 ·exact h2.1 rfl
 ·exact h2.2.1 rfl
 ·exact h2.2.2.1 rfl
 ·exact h2.2.2.2 rfl
theorem ba {r:List UInt8} (h:Sta r):tb r=r:=T7 (Zn h (by decide) (by decide))
theorem PK {r:List UInt8} (h:Sta r) (x:List UInt8):Sta (r++x):=by
 obtain ⟨c,hc,hw⟩:=h;cases r with
 |nil=>cases hc
 |cons d t=>exact ⟨c,hc,hw⟩
theorem s7 {op:Int} (ho:1<=op/\op<=11) {x:List UInt8} (hx:Sta x):sgn ((DJ op).toList++x)=(DJ op).toList:=by
 have n61:x.head?≠some 61:=Zn hx (by decide) (by decide);have n62:x.head?≠some 62:=Zn hx (by decide) (by decide);have c:op=1\/op=2\/op=3\/op=4\/op=5\/op=6\/op=7\/op=8\/op=9\/op=10\/op=11:=by omega
 rcases c with rfl|rfl|rfl|rfl|rfl|rfl|rfl|rfl|rfl|rfl|rfl
 ·rw [sg1];exact (KL 43 x (by decide) (by decide)).trans (by decide)
 ·rw [sg2];exact (KL 45 x (by decide) (by decide)).trans (by decide)
 ·rw [sg3];exact (KL 42 x (by decide) (by decide)).trans (by decide)
 ·rw [sg4];exact (KL 47 x (by decide) (by decide)).trans (by decide)
 ·rw [sg5];exact (KL 38 x (by decide) (by decide)).trans (by decide)
 ·rw [sg6];exact (KL 61 x (by decide) (by decide)).trans (by decide)
 ·rw [sg7];exact (Q2 (62::x)).trans (by simp)
 ·rw [sg8];exact (Q2 x).trans (by rw [if_neg n62,if_neg n61])
 ·rw [sg9];exact (Q2 (61::x)).trans (by simp)
 ·rw [ag];exact (VF x).trans (by rw [if_neg n61])
 ·rw [ah];exact (VF (61::x)).trans (by simp)
theorem Y0 {op:Int} (ho:1<=op/\op<=11) {r:List UInt8} (h:sgn r=(DJ op).toList):EE r=op:=by
 unfold EE;rw [h];have c:op=1\/op=2\/op=3\/op=4\/op=5\/op=6\/op=7\/op=8\/op=9\/op=10\/op=11:=by omega
 rcases c with rfl|rfl|rfl|rfl|rfl|rfl|rfl|rfl|rfl|rfl|rfl<;>decide+kernel
theorem Zo {op:Int} (ho:1<=op/\op<=11) (x:List UInt8):Fo ((DJ op).toList++x):=by
 have c:op=1\/op=2\/op=3\/op=4\/op=5\/op=6\/op=7\/op=8\/op=9\/op=10\/op=11:=by omega
 rcases c with rfl|rfl|rfl|rfl|rfl|rfl|rfl|rfl|rfl|rfl|rfl
 ·rw [sg1];exact HR (by decide)
 ·rw [sg2];exact HR (by decide)
 ·rw [sg3];exact HR (by decide)
 ·rw [sg4];exact HR (by decide)
 ·rw [sg5];exact HR (by decide)
 ·rw [sg6];exact HR (by decide)
 ·rw [sg7];exact HR (by decide)
 ·rw [sg8];exact HR (by decide)
 ·rw [sg9];exact HR (by decide)
 ·rw [ag];exact HR (by decide)
 ·rw [ah];exact HR (by decide)
theorem jf {op:Int} (ho:1<=op/\op<=11):1<=(DJ op).toList.length:=by
 have c:op=1\/op=2\/op=3\/op=4\/op=5\/op=6\/op=7\/op=8\/op=9\/op=10\/op=11:=by omega
 rcases c with rfl|rfl|rfl|rfl|rfl|rfl|rfl|rfl|rfl|rfl|rfl<;>decide+kernel
theorem Zp (x:List UInt8):EE (41::x)=0:=by
 unfold EE;rw [KL 41 x (by decide) (by decide)]
 decide
theorem nj (x:List UInt8):EE (44::x)=0:=by
 unfold EE;rw [KL 44 x (by decide) (by decide)]
 decide
theorem s8:EE []=0:=by decide
theorem Zq {c:UInt8} (hc:c∈([45,40,41,44,58]:List UInt8)) {p:PS} (h:(tb p.1).head?≠some c):qq [c] p=(false,tb p.1,p.2):=by
 unfold qq;rw [if_neg];intro e;exact h ((IB c _).1 ((cg hc _).1 e))
theorem Q7 {c:UInt8} (hc:c∈([45,40,41,44,58]:List UInt8)) {r:List UInt8} (h32:c≠32) (b:Bool) (l:List Nd):qq [c] (c::r,b,l)=(true,r,b,l):=by
 have t:tb (c::r)=c::r:=T7 (by simpa using h32);unfold qq;simp only [t];rw [if_pos ((cg hc _).2 ((IB c _).2 rfl))];rfl
theorem pt {n:Int} (hn:1<=n/\n<=5) (r:List UInt8):NW ((qt n).toList++r) 1 5=some n:=by
 have t1:(qt 1).toList= [35,68,73,86,33]:=by rw [zao];rfl
 have t2:(qt 2).toList= [35,84,89,80,69,33]:=by rw [zao];rfl
 have t3:(qt 3).toList= [35,82,69,70,33]:=by rw [zao];rfl
 have t4:(qt 4).toList= [35,79,86,69,82,33]:=by rw [zao];rfl
 have t5:(qt 5).toList= [35,67,89,67,76,69,33]:=by rw [zao];rfl
 have a2:(1:Int)+1=2:=rfl;have a3:(2:Int)+1=3:=rfl;have a4:(3:Int)+1=4:=rfl;have a5:(4:Int)+1=5:=rfl;simp only [NW,a2,a3,a4,a5];have c:n=1\/n=2\/n=3\/n=4\/n=5:=by omega
 rcases c with rfl|rfl|rfl|rfl|rfl<;>simp [t1,t2,t3,t4,t5,List.isPrefixOf]
theorem KR (a b:BA):(a++b).toList=a.toList++b.toList:=by rw [zao,H5,zao,zao]
theorem T8 {a b:Int} {f g:Bool} (h:zP a b f g=true):a=0/\b=0/\f=false/\g=false:=by
 unfold zP at h;simp only [zL,aC,Bool.not_eq_true'] at h;exact ⟨h.1,h.2.1,h.2.2.1,h.2.2.2⟩
theorem s9 {k x:Int} {s:BA} (h:zV k x s=true):k=0/\x=0/\s=em:=by
 unfold zV at h;simp only [zL,aC,zanG] at h;exact ⟨h.1,h.2.1,IK (h.2.2.trans q7.symm)⟩
theorem bc {l:List Int} (h:decide (l.length=0)=true):l= []:=List.length_eq_zero_iff.1 (of_decide_eq_true h)
theorem jg {c:Nd} (h:GN c=true) (k:c.1=1):c=nd1 (c.2.2.1,c.2.2.2.1,c.2.2.2.2.1)/\okV c.2.2.1 c.2.2.2.1 c.2.2.2.2.1=true/\c.2.2.1≠0/\(c.2.2.1=1->0<=c.2.2.2.1):=by
 obtain ⟨k0,op,vk,vx,vs,a,b,fc,fr,a2,b2,fc2,fr2,ks⟩:=c;simp only at k;subst k;unfold GN at h;simp only [if_true,zL,aC,kd,Bool.not_eq_true',decide_eq_false_iff_not,Bool.or_eq_true] at h;obtain ⟨h1,h2,h3,h4,h5,h6,h7⟩:=h;obtain ⟨rfl,rfl,rfl,rfl⟩:=T8 h2;obtain ⟨rfl,rfl,rfl,rfl⟩:=T8 h3;have:=bc h4;subst this;subst h1;refine ⟨rfl,h5,h6,λe=>?_⟩;rcases h7 with h7|h7
 ·exact absurd e h7
 ·exact h7
theorem jh {c:Nd} (h:GN c=true) (k:c.1=2):c=ndC (c.2.2.2.2.2.1,c.2.2.2.2.2.2.1,c.2.2.2.2.2.2.2.1,c.2.2.2.2.2.2.2.2.1,true)/\D8 c.2.2.2.2.2.1 c.2.2.2.2.2.2.1=true:=by
 obtain ⟨k0,op,vk,vx,vs,a,b,fc,fr,a2,b2,fc2,fr2,ks⟩:=c;simp only at k;subst k;unfold GN at h;rw [if_neg (by simp),if_pos rfl] at h;simp only [zL,aC,kd] at h;obtain ⟨h1,h2,h3,h4,h5⟩:=h;obtain ⟨rfl,rfl,rfl⟩:=s9 h2;obtain ⟨rfl,rfl,rfl,rfl⟩:=T8 h3;have:=bc h4;subst this;subst h1;exact ⟨rfl,h5⟩
theorem bd {c:Nd} (h:GN c=true) (k:c.1=3):c=ndA (c.2.2.2.2.2.1,c.2.2.2.2.2.2.1,c.2.2.2.2.2.2.2.1,c.2.2.2.2.2.2.2.2.1,true) (c.2.2.2.2.2.2.2.2.2.1,c.2.2.2.2.2.2.2.2.2.2.1,c.2.2.2.2.2.2.2.2.2.2.2.1,c.2.2.2.2.2.2.2.2.2.2.2.2.1,true)/\Jg c.2.2.2.2.2.1 c.2.2.2.2.2.2.1 c.2.2.2.2.2.2.2.2.2.1 c.2.2.2.2.2.2.2.2.2.2.1=true:=by
 obtain ⟨k0,op,vk,vx,vs,a,b,fc,fr,a2,b2,fc2,fr2,ks⟩:=c;simp only at k;subst k;unfold GN at h;rw [if_neg (by simp),if_neg (by simp),if_pos rfl] at h;simp only [zL,aC,kd] at h;obtain ⟨h1,h2,h4,h5⟩:=h;obtain ⟨rfl,rfl,rfl⟩:=s9 h2;have:=bc h4;subst this;subst h1;exact ⟨rfl,h5⟩
theorem ji {c:Nd} (h:GN c=true) (k:c.1=4):∃x,c=ndK 4 0 [x]:=by
 obtain ⟨k0,op,vk,vx,vs,a,b,fc,fr,a2,b2,fc2,fr2,ks⟩:=c;simp only at k;subst k;unfold GN at h;rw [if_neg (by simp),if_neg (by simp),if_neg (by simp),if_pos rfl] at h;simp only [zL,aC,kd] at h;obtain ⟨h1,h2,h3,h4,h5⟩:=h;obtain ⟨rfl,rfl,rfl⟩:=s9 h2;obtain ⟨rfl,rfl,rfl,rfl⟩:=T8 h3;obtain ⟨rfl,rfl,rfl,rfl⟩:=T8 h4;obtain ⟨x,rfl⟩:=List.length_eq_one_iff.1 (of_decide_eq_true h5);subst h1;exact ⟨x,rfl⟩
theorem jj {c:Nd} (h:GN c=true) (k:c.1=5):∃x y,c=ndK 5 c.2.1 [x,y]/\1<=c.2.1/\c.2.1<=11:=by
 obtain ⟨k0,op,vk,vx,vs,a,b,fc,fr,a2,b2,fc2,fr2,ks⟩:=c;simp only at k;subst k;unfold GN at h;rw [if_neg (by simp),if_neg (by simp),if_neg (by simp),if_neg (by simp),if_pos rfl] at h;simp only [zL,aC,kd] at h;obtain ⟨h1,h2,h3,h4,h5⟩:=h;obtain ⟨rfl,rfl,rfl⟩:=s9 h2;obtain ⟨rfl,rfl,rfl,rfl⟩:=T8 h3;obtain ⟨rfl,rfl,rfl,rfl⟩:=T8 h4;obtain ⟨x,y,rfl⟩:∃x y,ks= [x,y]:=by
  match ks,of_decide_eq_true h5 with
  | [x,y],_=>exact ⟨x,y,rfl⟩
 exact ⟨x,y,rfl,h1⟩
theorem jk {c:Nd} (h:GN c=true) (k:c.1=6):c=ndK 6 c.2.1 (kd c)/\Ly c.2.1 ((kd c).length:Int)=true:=by
 obtain ⟨k0,op,vk,vx,vs,a,b,fc,fr,a2,b2,fc2,fr2,ks⟩:=c;simp only at k;subst k;unfold GN at h;rw [if_neg (by simp),if_neg (by simp),if_neg (by simp),if_neg (by simp),if_neg (by simp),if_pos rfl] at h;simp only [zL,kd] at h;obtain ⟨h1,h2,h3,h4⟩:=h;obtain ⟨rfl,rfl,rfl⟩:=s9 h2;obtain ⟨rfl,rfl,rfl,rfl⟩:=T8 h3;obtain ⟨rfl,rfl,rfl,rfl⟩:=T8 h4;exact ⟨rfl,h1⟩
theorem Y1 {c r:Int} {fc fr:Bool} (h:D8 c r=true):(EF c r fc fr).toList=(if fc=true then [36] else [])++((Fl c).data.toList++((if fr=true then [36] else [])++Lib.itoa r)):=by
 rw [zao];simp [EF,h,JH]
theorem pu {c:UInt8} (h:Jr c=true):wch c=true:=by
 simp only [Jr,zL,aC] at h;unfold wch;simp only [Bool.or_eq_true,zL,aC];exact .inl h
theorem T9 {c:UInt8} (h:EQ c=true):wch c=true:=by
 simp only [EQ,zL,aC] at h;unfold wch;simp only [Bool.or_eq_true,zL,aC];exact .inr (.inl h)
theorem Q8 {x:Int} (h:0<=x):(Lib.itoa x).all EQ=true/\Lib.itoa x≠ []:=by
 unfold Lib.itoa;rw [if_neg (by omega)];obtain ⟨h1,_,h3,_,_⟩:=Hm x.toNat;exact ⟨h1,h3⟩
theorem KS {p q:UInt8->Bool} {l:List UInt8} (h:∀c,p c=true->q c=true) (hl:l.all p=true):l.all q=true:=by
 rw [zamK] at hl⊢;exact λx hx=>h x (hl x hx)
theorem Kr {c r:Int} {fc fr:Bool} (h:D8 c r=true):(EF c r fc fr).toList.all wch=true/\(EF c r fc fr).toList≠ []:=by
 obtain ⟨hc,hr⟩:=KF h;obtain ⟨u1,u2,u3⟩:=ZX hc;rw [Y1 h];obtain ⟨d1,d2⟩:=Q8 (x:=r) (by omega);refine ⟨?_,by simp [u3]⟩;simp only [List.all_append,zL];refine ⟨?_,KS (λ_=>pu) u1,?_,KS (λ_=>T9) d1⟩
 ·split<;>decide
 ·split<;>decide
theorem ff {c r:Int} {fc fr:Bool} (h:D8 c r=true):¬((qz (EF c r fc fr)).2.2.2=true/\((qz (EF c r fc fr)).1=1\/(qz (EF c r fc fr)).1=3)):=by
 rintro ⟨ho,hk⟩;obtain ⟨hc,hr⟩:=KF h;obtain ⟨u1,u2,u3⟩:=ZX hc;obtain ⟨d1,d2⟩:=Q8 (x:=r) (by omega);obtain ⟨v1,v2⟩:=Xm ho;have e:=congrArg ByteArray.toList v2;rw [Y1 h] at e;generalize qz (EF c r fc fr)=v at*
 obtain ⟨a,t,hat⟩:∃a t,(Fl c).data.toList=a::t:=by
  cases hq:(Fl c).data.toList with
  |nil=>exact absurd hq u3
  |cons a t=>exact ⟨a,t,rfl⟩
 obtain ⟨d,t',hdt⟩:∃d t',Lib.itoa r=d::t':=by
  cases hq:Lib.itoa r with
  |nil=>exact absurd hq d2
  |cons a t=>exact ⟨a,t,rfl⟩
 have ma:a∈(Di v.1 v.2.1 v.2.2.1).toList:=by rw [e,hat];simp
 have md:d∈(Di v.1 v.2.1 v.2.2.1).toList:=by rw [e,hdt];simp
 have ua:Jr a=true:=by rw [hat,zanC,zL] at u1;exact u1.1
 have dd:EQ d=true:=by rw [hdt,zanC,zL] at d1;exact d1.1
 simp only [Jr,zL,aC] at ua;simp only [EQ,zL,aC] at dd;rcases hk with hk|hk
 ·rw [hk] at ma;have ht:(Di 1 v.2.1 v.2.2.1).toList=Lib.itoa v.2.1:=by rw [zao];simp [Di,JH]
  rw [ht] at ma;unfold Lib.itoa at ma;split at ma
  ·rcases zamT.1 ma with rfl|ma
   ·exact absurd ua.1 (by decide)
   ·have:=(Hm v.2.1.natAbs).1;rw [zamK] at this;have:=this a ma;simp only [EQ,zL,aC] at this;omega
  ·have:=(Hm v.2.1.toNat).1;rw [zamK] at this;have:=this a ma;simp only [EQ,zL,aC] at this;omega
 ·rw [hk] at md v1;have hs:=Nx v1 (by decide);rw [hs] at v1 md;have hr:=Yd v1;have c01:v.2.1=0\/v.2.1=1:=by omega
  rcases c01 with e0|e0
  ·rw [e0] at md;have ht:(Di 3 0 em).toList= [70,65,76,83,69]:=by rw [zao];rfl
   rw [ht] at md;simp only [zamT,List.not_mem_nil,or_false] at md;rcases md with rfl|rfl|rfl|rfl|rfl<;>exact absurd dd (by decide)
  ·rw [e0] at md;have ht:(Di 3 1 em).toList= [84,82,85,69]:=by rw [zao];rfl
   rw [ht] at md;simp only [zamT,List.not_mem_nil,or_false] at md;rcases md with rfl|rfl|rfl|rfl<;>exact absurd dd (by decide)
theorem KT {l:List Nd} (hl:l.length<=60) {i:Int} (hi:0<=i/\i<l.length) (r:List UInt8) {x:Nd} (hx:ndi l i=x):Hn x (r,false,l.take i.toNat)=(i,r,false,l.take (i.toNat+1)):=by
 have hlen:(l.take i.toNat).length=i.toNat:=by rw [List.length_take];omega
 unfold Hn;rw [if_neg]
 ·simp only [hlen];have hg:=HN (l:=l) (i:=i) ⟨hi.1,hi.2⟩;rw [hx] at hg;rw [List.take_add_one,hg];refine Prod.ext (by simp only;omega) rfl
 ·simp only [hlen];rintro (h|h)
  ·cases h
  ·omega
theorem cx {f:Nat} {deep:Int} {x:List UInt8} {l:List Nd} (hd:deep<=400) (h32:x.head?≠some 32) (h45:x.head?≠some 45):pP (f+1) (.un deep) (x,false,l)=pP f (.at deep) (x,false,l):=by
 have t:=T7 h32;have tk:=Zq (c:=45) (by decide) (p:=(x,false,l)) (by simp only;rw [t];exact h45);simp only [t] at tk
 conv=>lhs;unfold pP
 rw [if_neg (λh=>h.elim (by omega) (by simp)),tk];simp
theorem nk {f:Nat} {deep:Int} {w r:List UInt8} {l:List Nd} (hw:w.all wch=true) (hn:w≠ []) (hr:∀c,r.head?=some c->wch c=false):pP (f+1) (.at deep) (w++r,false,l)=T0 f deep w (r,false,l):=by
 obtain ⟨c,t,rfl⟩:∃c t,w=c::t:=by
  cases w with
  |nil=>exact absurd rfl hn
  |cons c t=>exact ⟨c,t,rfl⟩
 have wc:wch c=true:=by rw [zanC,zL] at hw;exact hw.1
 have ne:∀d:UInt8,wch d=false->((c::t)++r).head?≠some d:=λd hd e=>by
  have:c=d:=by simpa using e
  rw [this,hd] at wc;cases wc
 have tt:tb ((c::t)++r)=(c::t)++r:=T7 (ne 32 (by decide));have tk:=Zq (c:=40) (by decide) (p:=((c::t)++r,false,l)) (by simp only;rw [tt];exact ne 40 (by decide));obtain ⟨e1,e2⟩:=Zl hw hr
 conv=>lhs;unfold pP
 simp only [tt,tk,e1,e2];rw [if_neg (ne 34 (by decide)),if_neg (ne 35 (by decide))];simp only;rw [if_neg (λh=>by cases h.2)];rfl
theorem Wh {f:Nat} {deep:Int} {w r:List UInt8} {l:List Nd} (hd:deep<=400) (hw:w.all wch=true) (hn:w≠ []) (hr:∀c,r.head?=some c->wch c=false):pP (f+2) (.un deep) (w++r,false,l)=T0 f deep w (r,false,l):=by
 have hs:Sta (w++r):=by
  cases w with
  |nil=>exact absurd rfl hn
  |cons c t=>
   rw [zanC,zL] at hw;exact ⟨c,rfl,.inl hw.1⟩
 have h45:(w++r).head?≠some 45:=by
  cases w with
  |nil=>exact absurd rfl hn
  |cons c t=>
   rw [zanC,zL] at hw;intro e;have:c=45:=by simpa using e
   rw [this] at hw;exact absurd hw.1 (by decide)
 rw [cx hd (Zn hs (by decide) (by decide)) h45,nk hw hn hr]
theorem Xn {x:Int} (h:0<=x/\x<=1):(Di 3 x em).toList.all wch=true/\(Di 3 x em).toList≠ []:=by
 have c01:x=0\/x=1:=by omega
 rcases c01 with rfl|rfl
 ·have ht:(Di 3 0 em).toList= [70,65,76,83,69]:=by rw [zao];rfl
  rw [ht];exact ⟨by decide,by decide⟩
 ·have ht:(Di 3 1 em).toList= [84,82,85,69]:=by rw [zao];rfl
  rw [ht];exact ⟨by decide,by decide⟩
theorem pv {l:List Nd} (hl:l.length<=60) {i:Int} (hi:0<=i/\i<l.length) {k x:Int} {s:BA} (hx:ndi l i=nd1 (k,x,s)) (hv:okV k x s=true) (h0:k≠0) (h1:k=1->0<=x) {f:Nat} {deep:Int} {r:List UInt8} (hd:deep<=400) (hr:Fo r):
  pP (f+2) (.un deep) ((if k=2 then Ij s else Di k x s).toList++r,false,l.take i.toNat)=(i,r,false,l.take (i.toNat+1)):=by
 have kc:=bu hv;rcases kc with rfl|rfl|rfl|rfl|rfl
 ·exact absurd rfl h0
 ·rw [if_neg (by decide)];have hs:=Nx hv (by decide);subst hs;have ht:(Di 1 x em).toList=Lib.itoa x:=by rw [zao];simp [Di,JH]
  have rb:=OS hv;obtain ⟨d1,d2⟩:=Q8 (h1 rfl);have e:BR (Lib.itoa x)=Di 1 x em:=by rw [<-ht,KM]
  rw [ht,Wh hd (KS (λ_=>T9) d1) d2 (S2 hr)];unfold T0;rw [e,rb,if_pos ⟨rfl,.inl rfl⟩];exact KT hl hi r hx
 ·rw [if_pos rfl];obtain ⟨rfl,_,_⟩:=Tg hv;have ht:(Ij s).toList=34::ES s.toList++ [34]:=by unfold Ij;exact Eh _
  rw [ht];have e:(34::ES s.toList++ [34])++r=34::(ES s.toList++34::r):=by simp
  rw [e,cx hd (by simp) (by simp)];have tt:tb (34::(ES s.toList++34::r))=34::(ES s.toList++34::r):=T7 (by simp);have q:=Zm s.toList [] r (cv hr (by decide))
  conv=>lhs;unfold pP
  simp only [tt];rw [if_pos (show (34::(ES s.toList++34::r)).head?=some 34 from rfl),List.tail_cons,q];simp only [List.nil_append,KM];exact KT hl hi r hx
 ·rw [if_neg (by decide)];have hs:=Nx hv (by decide);subst hs;have rb:=OS hv;obtain ⟨d1,d2⟩:=Xn (Yd hv);rw [Wh hd d1 d2 (S2 hr)];unfold T0;rw [KM,rb,if_pos ⟨rfl,.inr rfl⟩];exact KT hl hi r hx
 ·rw [if_neg (by decide)];have hs:=Nx hv (by decide);subst hs;have hn:=Ye hv;have hx2:Di 4 x em=qt x:=rfl;rw [hx2];obtain ⟨t,ht⟩:=fa.n x hn;have hh:((qt x).toList++r).head?=some 35:=by rw [ht];rfl
  rw [cx hd (by rw [hh];decide) (by rw [hh];decide)];have tt:tb ((qt x).toList++r)=(qt x).toList++r:=T7 (by rw [hh];decide);have ea:=pt hn r;have ed:((qt x).toList++r).drop (qt x).size=r:=by rw [<-Dz];exact List.drop_left
  conv=>lhs;unfold pP
  simp only [tt];rw [if_neg (by rw [hh];decide),if_pos hh,ea];simp only [ed];exact KT hl hi r hx
theorem nq {l:List Nd} (hl:l.length<=60) {i:Int} (hi:0<=i/\i<l.length) {c w:Int} {fc fr:Bool} (hx:ndi l i=ndC (c,w,fc,fr,true)) (ho:D8 c w=true) {f:Nat} {deep:Int} {r:List UInt8} (hd:deep<=400) (hr:Fo r):
  pP (f+2) (.un deep) ((EF c w fc fr).toList++r,false,l.take i.toNat)=(i,r,false,l.take (i.toNat+1)):=by
 obtain ⟨d1,d2⟩:=Kr (fc:=fc) (fr:=fr) ho;rw [Wh hd d1 d2 (S2 hr)];unfold T0;rw [KM,if_neg (ff ho),Sy ho,if_pos rfl];exact KT hl hi r hx
def lo (l:List Nd) (i:Int):Int:=F3 (qj l) (i.toNat+1) i
def Vg (l:List Nd):Int->List Int->Int->Prop
 |s,[],e=>s=e
 |s,k::r,e=>lo l k=s/\Vg l (k+1) r e
theorem Xo {l:List Nd}:∀{ks:List Int} {s m k e:Int},Vg l s ks m->lo l k=m->k+1=e->Vg l s (ks++ [k]) e
 | [],s,m,k,e,h,h1,h2=>by
  have h:s=m:=h;subst h;exact ⟨h1,h2⟩
 |a::ks,s,m,k,e,h,h1,h2=>⟨h.1,Xo h.2 h1 h2⟩
theorem t6 {l:List Nd} {F:Int->Int}:∀(ks:List Int) {e s:Int},(∀k∈ks,0<=k->F k=lo l k)->goT F ks (e-1)=s->0<=s->Vg l s ks.reverse e
 | [],e,s,_,h,_=>by
  have h:e-1+1=s:=h;show s=e;omega
 |k::r,e,s,hF,h,h0=>by
  unfold goT at h;split at h
  ·omega
  ·rename_i hc;split at h
   ·omega
   ·have hk:k=e-1:=Classical.byContradiction λh=>hc (.inr h)
    have h1:0<=k:=by omega
    have e1:=hF k (zamN ..) h1;rw [<-hk,e1] at h;rw [List.reverse_cons];exact Xo (t6 r (λk hk=>hF k (zamR _ hk)) h h0) rfl (by omega)
theorem Xp {l:List Nd} (h:Fine l) {i:Int} (hi:0<=i/\i<l.length) (h0:0<=lo l i):Vg l (lo l i) (qj l i) i:=by
 have:=t6 (l:=l) (F:=F3 (qj l) i.toNat) (qj l i).reverse (e:=i) (s:=lo l i) (λk hk hk0=>by
  have hin:=(h.own i hi.1 hi.2).2 k (by simpa using hk);exact d8 (qj l) _ _ _ (by omega) (by omega) hk0) (by
  unfold lo;rw [F3]) h0
 rwa [List.reverse_reverse] at this
def tx (l:List Nd) (g:Nat) (i t:Int):List UInt8:=(DK l g i t).toList
def L2 (l:List Nd) (g:Nat):List Int->List UInt8
 | []=> []
 | [k]=>tx l g k 1
 |k::r=>tx l g k 1++44::L2 l g r
theorem S3 (l:List Nd) (g:Nat) (k k2:Int) (r:List Int):L2 l g (k::k2::r)=tx l g k 1++44::L2 l g (k2::r):=rfl
theorem cy (l:List Nd) (g:Nat):∀ks:List Int,(Q0 (ks.map λk=>DK l g k 1)).toList=L2 l g ks
 | []=>by unfold Q0;exact Eh _
 | [k]=>by
  unfold Q0;rw [Eh];simp [Lib.join,L2,tx,zao]
 |k::k2::r=>by
  have ih:=cy l g (k2::r);unfold Q0 at ih⊢;rw [Eh] at ih⊢;simp only [zanE] at ih⊢;rw [S3,<-ih];simp [Lib.join,tx,zao]
theorem sj {l:List Nd} {g:Nat} {i t:Int} (h:(ndi l i).1=1):tx l (g+1) i t=(if (ndi l i).2.2.1=2 then Ij (ndi l i).2.2.2.2.1 else Di (ndi l i).2.2.1 (ndi l i).2.2.2.1 (ndi l i).2.2.2.2.1).toList:=by
 unfold tx
 conv=>lhs;unfold DK
 rw [if_pos h]
theorem sq {l:List Nd} {g:Nat} {i t:Int} (h:(ndi l i).1=2):tx l (g+1) i t=(EF (ndi l i).2.2.2.2.2.1 (ndi l i).2.2.2.2.2.2.1 (ndi l i).2.2.2.2.2.2.2.1 (ndi l i).2.2.2.2.2.2.2.2.1).toList:=by
 unfold tx
 conv=>lhs;unfold DK
 rw [if_neg (by rw [h];decide),if_pos h]
theorem sr {l:List Nd} {g:Nat} {i t:Int} (h:(ndi l i).1=3):tx l (g+1) i t=(EF (ndi l i).2.2.2.2.2.1 (ndi l i).2.2.2.2.2.2.1 (ndi l i).2.2.2.2.2.2.2.1 (ndi l i).2.2.2.2.2.2.2.2.1).toList++58::(EF (ndi l i).2.2.2.2.2.2.2.2.2.1 (ndi l i).2.2.2.2.2.2.2.2.2.2.1 (ndi l i).2.2.2.2.2.2.2.2.2.2.2.1 (ndi l i).2.2.2.2.2.2.2.2.2.2.2.2.1).toList:=by
 unfold tx
 conv=>lhs;unfold DK
 rw [if_neg (by rw [h];decide),if_neg (by rw [h];decide),if_pos h,KR,KR];simp [zao]
theorem ss {l:List Nd} {g:Nat} {i t:Int} {k:Int} (h:ndi l i=ndK 4 0 [k]):tx l (g+1) i t=45::tx l g k 5:=by
 unfold tx
 conv=>lhs;unfold DK
 rw [h,show (ndK 4 0 [k]).1=4 from rfl,if_neg (by decide),if_neg (by decide),if_neg (by decide),if_pos rfl,KR];simp [zao,kid,kd,ndK]
theorem su {l:List Nd} {g:Nat} {i t:Int} {op k0 k1:Int} (h:ndi l i=ndK 5 op [k0,k1]):tx l (g+1) i t=if lvl op<t then 40::(tx l g k0 (lvl op)++((DJ op).toList++tx l g k1 (lvl op+1)))++ [41] else tx l g k0 (lvl op)++((DJ op).toList++tx l g k1 (lvl op+1)):=by
 unfold tx
 conv=>lhs;unfold DK
 rw [h,show (ndK 5 op [k0,k1]).1=5 from rfl,if_neg (by decide),if_neg (by decide),if_neg (by decide),if_neg (by decide),if_pos rfl];have e0:kid (ndK 5 op [k0,k1]) 0=k0:=rfl;have e1:kid (ndK 5 op [k0,k1]) 1=k1:=rfl;have e2:(ndK 5 op [k0,k1]).2.1=op:=rfl;rw [e0,e1,e2];unfold par;by_cases hl:lvl op<t
 ·rw [if_pos (zD hl),if_pos hl,KR,KR,KR,KR];simp [zao]
 ·rw [if_neg (by simpa using hl),if_neg hl,KR,KR,List.append_assoc]
theorem sv {l:List Nd} {g:Nat} {i t:Int} {op:Int} {ks:List Int} (h:ndi l i=ndK 6 op ks):tx l (g+1) i t=(fnS op).toList++40::(L2 l g ks++ [41]):=by
 unfold tx
 conv=>lhs;unfold DK
 have e:qj l i=ks:=by unfold qj;rw [h];rfl
 rw [e,h,show (ndK 6 op ks).1=6 from rfl,if_neg (by decide),if_neg (by decide),if_neg (by decide),if_neg (by decide),if_neg (by decide),KR,KR,KR,cy];have e2:(ndK 6 op ks).2.1=op:=rfl;rw [e2];simp [zao]
structure RT (l:List Nd) (g:Nat) (i:Int):Prop where
 s:∀t,Sta (tx l g i t)
 c:∀(t:Int) (r:List UInt8),Fo r->∀d:UInt8,(d=58\/d=32)->(wr (tx l g i t++r)).head?≠some d
 u:∀(r:List UInt8) (deep:Int) (f:Nat),Fo r->0<=deep->deep+g<=400->20*(tx l g i 5++r).length+4<=f->pP f (.un deep) (tx l g i 5++r,false,l.take (lo l i).toNat)=(i,r,false,l.take (i.toNat+1))
 b:∀(t t':Int) (r:List UInt8) (deep:Int) (f:Nat),1<=t->t<=t'->t'<=5->Fo r->(EE r=0\/lvl (EE r)<=t')->0<=deep->deep+g<=400->20*(tx l g i t'++r).length+6<=f->
  ∃f2,20*r.length+5<=f2/\pP f (.bin t deep) (tx l g i t'++r,false,l.take (lo l i).toNat)=pP f2 (.loop t deep i) (r,false,l.take (i.toNat+1))
theorem jl (op:Int):1<=lvl op/\lvl op<=4:=Zb
theorem Xq {l:List Nd} {g:Nat} {i:Int} (u:∀(r:List UInt8) (deep:Int) (f:Nat),Fo r->0<=deep->deep+g<=400->20*(tx l g i 5++r).length+4<=f->pP f (.un deep) (tx l g i 5++r,false,l.take (lo l i).toNat)=(i,r,false,l.take (i.toNat+1)))
  {t t':Int} (e:tx l g i t'=tx l g i 5) {r:List UInt8} {deep:Int} {f:Nat} (hr:Fo r) (h0:0<=deep) (hd:deep+g<=400) (hf:20*(tx l g i t'++r).length+6<=f):
  ∃f2,20*r.length+5<=f2/\pP f (.bin t deep) (tx l g i t'++r,false,l.take (lo l i).toNat)=pP f2 (.loop t deep i) (r,false,l.take (i.toNat+1)):=by
 obtain ⟨f,rfl⟩:∃f',f=f'+1:=⟨f-1,by omega⟩;rw [e] at hf⊢;refine ⟨f,by simp only [zamO] at hf;omega,?_⟩
 conv=>lhs;unfold pP
 rw [u r deep f hr h0 hd (by omega)]
theorem UA {f:Nat} {t deep a:Int} {r:List UInt8} {l:List Nd} (hr:Fo r) (h:EE r=0\/lvl (EE r)<t) (hf:1<=f):pP f (.loop t deep a) (r,false,l)=(a,r,false,l):=by
 obtain ⟨f,rfl⟩:∃f',f=f'+1:=⟨f-1,by omega⟩;unfold pP;simp only [cw hr];rw [if_neg (by simp),if_pos h]
theorem nr {l:List Nd} (hl:l.length<=60) {g:Nat} {i k0 k1 op:Int} (hi:0<=i/\i<l.length) (hx:ndi l i=ndK 5 op [k0,k1]) (ho:1<=op/\op<=11) (R:RT l g k1) (h1:lo l k1=k0+1) (h2:k1+1=i) (hk0:0<=k0) (hk1:0<=k1)
  {t:Int} {r:List UInt8} {deep:Int} {f:Nat} (ht:t<=lvl op) (hr:Fo r) (hop:EE r=0\/lvl (EE r)<=lvl op) (h0:0<=deep) (hd:deep+g<=400) (hf:20*((DJ op).toList++(tx l g k1 (lvl op+1)++r)).length+5<=f):
  ∃f2,20*r.length+5<=f2/\pP f (.loop t deep k0) ((DJ op).toList++(tx l g k1 (lvl op+1)++r),false,l.take (k0.toNat+1))=pP f2 (.loop t deep i) (r,false,l.take (i.toNat+1)):=by
 obtain ⟨f,rfl⟩:∃f',f=f'+1:=⟨f-1,by omega⟩;have lv:=jl op;have hs:=PK (R.s (lvl op+1)) r;have sg:=s7 ho hs;have oa:=Y0 ho sg;have tt:=cw (Zo ho (tx l g k1 (lvl op+1)++r));have sl:=jf ho;simp only [zamO] at hf;obtain ⟨f2,q1,q2⟩:=R.b (lvl op+1) (lvl op+1) r deep f (by omega) (Int.le_refl _) (by omega) hr (by rcases hop with h|h;exact .inl h;exact .inr (by omega)) h0 hd (by simp only [zamO];omega);rw [UA hr (by rcases hop with h|h;exact .inl h;exact .inr (by omega)) (by omega)] at q2;refine ⟨f,by omega,?_⟩
 conv=>lhs;unfold pP
 simp only [tt,oa,sg];rw [if_neg (by simp),if_neg (by omega)];have ed:((DJ op).toList++(tx l g k1 (lvl op+1)++r)).drop (DJ op).toList.length=tx l g k1 (lvl op+1)++r:=List.drop_left;have el:(lo l k1).toNat=k0.toNat+1:=by omega
 rw [ed,<-el,q2];have e2:k1.toNat+1=i.toNat:=by omega
 rw [e2,KT hl hi r hx]
theorem sw {c:UInt8} {x:List UInt8} (h:wch c=false):wr (c::x)=c::x:=by unfold wr;rw [List.dropWhile_cons,if_neg (by rw [h];simp)]
theorem RN {w:List UInt8} (hw:w.all wch=true) (hn:w≠ []):Sta w/\∀r,(∀c,r.head?=some c->wch c=false)->∀d:UInt8,r.head?≠some d->(wr (w++r)).head?≠some d:=by
 refine ⟨?_,λr h1 d h2=>by rw [(Zl hw h1).2];exact h2⟩;cases w with
 |nil=>exact absurd rfl hn
 |cons c t=>
  rw [zanC,zL] at hw;exact ⟨c,rfl,.inl hw.1⟩
theorem Wi {c:UInt8} {w:List UInt8} (hc:c=45\/c=40\/c=34\/c=35):Sta (c::w)/\∀r:List UInt8,∀d:UInt8,(d=58\/d=32)->(wr ((c::w)++r)).head?≠some d:=by
 refine ⟨⟨c,rfl,.inr hc⟩,λr d hd=>?_⟩;have:wch c=false:=by rcases hc with rfl|rfl|rfl|rfl<;>decide
 rw [List.cons_append,sw this];simp only [List.head?_cons];intro e;have e:c=d:=by simpa using e
 subst e;rcases hc with rfl|rfl|rfl|rfl<;>exact absurd hd (by decide)
theorem jm {r:List UInt8} (h:Fo r) {d:UInt8} (hd:d=58\/d=32):r.head?≠some d:=by
 rcases hd with rfl|rfl
 ·exact cv h (by decide)
 ·exact cv h (by decide)
theorem py {k x:Int} {s:BA} (hv:okV k x s=true) (h0:k≠0) (h1:k=1->0<=x):Sta (if k=2 then Ij s else Di k x s).toList/\∀r,Fo r->∀d:UInt8,(d=58\/d=32)->(wr ((if k=2 then Ij s else Di k x s).toList++r)).head?≠some d:=by
 rcases bu hv with rfl|rfl|rfl|rfl|rfl
 ·exact absurd rfl h0
 ·rw [if_neg (by decide)];have ht:(Di 1 x s).toList=Lib.itoa x:=by rw [zao];simp [Di,JH]
  obtain ⟨d1,d2⟩:=Q8 (h1 rfl);rw [ht];have:=RN (KS (λ_=>T9) d1) d2;exact ⟨this.1,λr hr d hd=>this.2 r (S2 hr) d (jm hr hd)⟩
 ·rw [if_pos rfl];have ht:(Ij s).toList=34::(ES s.toList++ [34]):=by unfold Ij;rw [Eh];simp
  rw [ht];have:=Wi (c:=34) (w:=ES s.toList++ [34]) (.inr (.inr (.inl rfl)));exact ⟨this.1,λr _ d hd=>this.2 r d hd⟩
 ·rw [if_neg (by decide)];have hs:=Nx hv (by decide);subst hs;obtain ⟨d1,d2⟩:=Xn (Yd hv);have:=RN d1 d2;exact ⟨this.1,λr hr d hd=>this.2 r (S2 hr) d (jm hr hd)⟩
 ·rw [if_neg (by decide)];have hx2:Di 4 x s=qt x:=rfl;obtain ⟨t,ht⟩:=fa.n x (Ye hv);rw [hx2,ht];have:=Wi (c:=35) (w:=t) (.inr (.inr (.inr rfl)));exact ⟨this.1,λr _ d hd=>this.2 r d hd⟩
theorem ot {op:Int} (h:1<=op/\op<=10):LE (fnS op).toList 1 10=some op/\(fnS op).toList.all wch=true/\(fnS op).toList≠ []:=by
 have t:∀a:Fin 10,LE (fnS (((a.val:Nat):Int)+1)).toList 1 10=some (((a.val:Nat):Int)+1)/\(fnS (((a.val:Nat):Int)+1)).toList.all wch=true/\(fnS (((a.val:Nat):Int)+1)).toList≠ []:=by decide+kernel
 have:=t ⟨(op-1).toNat,by omega⟩;simp only at this
 rwa [show (((op-1).toNat:Nat):Int)+1=op by omega] at this
def cz (l:List Nd) (g:Nat) (k:Int):Prop:=(0<=k/\k<l.length)/\(RT l g k\/((ndi l k).1=3/\GN (ndi l k)=true/\lo l k=k/\∃g',g=g'+1))
theorem t7 {l:List Nd} (hl:l.length<=60) {g:Nat} {k:Int} (A:cz l g k) {x:List UInt8} (hx:Fo x) (ho:EE x=0) {deep:Int} {f:Nat} (h0:0<=deep) (hd:deep+1+g<=400) (hf:20*(tx l g k 1++x).length+6<=f):
  Ik (Et (tx l g k 1++x,false,l.take (lo l k).toNat)) (λp=>pP f (.bin 1 (deep+1)) p)=(k,x,false,l.take (k.toNat+1)):=by
 obtain ⟨hi,A⟩:=A;rcases A with R|⟨h3,hb,hlo,g',rfl⟩
 ·have tt:=ba (PK (R.s 1) x);have none:Et (tx l g k 1++x,false,l.take (lo l k).toNat)=(none,tx l g k 1++x,false,l.take (lo l k).toNat):=by
   unfold Et;simp only [tt];rw [if_neg];rintro ⟨_,h2⟩;have tk:=R.c 1 x hx 58 (.inl rfl);unfold qq at h2;split at h2
   ·rename_i hs;have hh:=(IB 58 _).1 ((cg (by decide) _).1 hs);by_cases hb:(wr (tx l g k 1++x)).head?=some 32
    ·exact absurd hb (R.c 1 x hx 32 (.inr rfl))
    ·rw [T7 hb] at hh;exact tk hh
   ·cases h2
  rw [none];unfold Ik;simp only;obtain ⟨f2,q1,q2⟩:=R.b 1 1 x (deep+1) f (by omega) (by omega) (by omega) hx (.inl ho) (by omega) (by omega) hf;rw [q2];exact UA hx (.inl ho) (by omega)
 ·obtain ⟨e,ha⟩:=bd hb h3;obtain ⟨a1,a2,a3,a4,_⟩:=Yc ha;have e3:=sr (g:=g') (t:=1) h3;generalize hc:ndi l k=c at*
  have r1:D8 c.2.2.2.2.2.1 c.2.2.2.2.2.2.1=true:=by unfold D8;simp;omega
  have r2:D8 c.2.2.2.2.2.2.2.2.2.1 c.2.2.2.2.2.2.2.2.2.2.1=true:=by unfold D8;simp;omega
  obtain ⟨d1,d2⟩:=Kr (fc:=c.2.2.2.2.2.2.2.1) (fr:=c.2.2.2.2.2.2.2.2.1) r1;obtain ⟨d3,d4⟩:=Kr (fc:=c.2.2.2.2.2.2.2.2.2.2.2.1) (fr:=c.2.2.2.2.2.2.2.2.2.2.2.2.1) r2;have b1:=Sy (fc:=c.2.2.2.2.2.2.2.1) (fr:=c.2.2.2.2.2.2.2.2.1) r1;have b2:=Sy (fc:=c.2.2.2.2.2.2.2.2.2.2.2.1) (fr:=c.2.2.2.2.2.2.2.2.2.2.2.2.1) r2;rw [e3,hlo];generalize hw1:(EF c.2.2.2.2.2.1 c.2.2.2.2.2.2.1 c.2.2.2.2.2.2.2.1 c.2.2.2.2.2.2.2.2.1).toList=w1 at*
  generalize hw2:(EF c.2.2.2.2.2.2.2.2.2.1 c.2.2.2.2.2.2.2.2.2.2.1 c.2.2.2.2.2.2.2.2.2.2.2.1 c.2.2.2.2.2.2.2.2.2.2.2.2.1).toList=w2 at*
  have p1:Ej (BR w1)=(c.2.2.2.2.2.1,c.2.2.2.2.2.2.1,c.2.2.2.2.2.2.2.1,c.2.2.2.2.2.2.2.2.1,true):=by rw [<-hw1,KM];exact b1
  have p2:Ej (BR w2)=(c.2.2.2.2.2.2.2.2.2.1,c.2.2.2.2.2.2.2.2.2.2.1,c.2.2.2.2.2.2.2.2.2.2.2.1,c.2.2.2.2.2.2.2.2.2.2.2.2.1,true):=by rw [<-hw2,KM];exact b2
  have ea:(w1++58::w2)++x=w1++(58::(w2++x)):=by simp
  rw [ea];have t1:tb (w1++(58::(w2++x)))=w1++(58::(w2++x)):=ba (PK (RN d1 d2).1 _);obtain ⟨q1,q2⟩:=Zl (r:=58::(w2++x)) d1 (λd hd=>by simp at hd;subst hd;decide);have t2:tb (w2++x)=w2++x:=ba (PK (RN d3 d4).1 _);obtain ⟨q3,q4⟩:=Zl (r:=x) d3 (S2 hx);have ar:Et (w1++(58::(w2++x)),false,l.take k.toNat)=(some c,x,false,l.take k.toNat):=by
   unfold Et;simp only [t1,q1,q2];rw [Q7 (by decide) (by decide)];simp only [t2,q3,q4,p1,p2];rw [if_pos (by simp),<-e];rfl
  rw [ar];unfold Ik;simp only;exact KT hl hi x hc
theorem Xr {c:UInt8} (hc:c∈([45,40,41,44,58]:List UInt8)) (h32:c≠32) (r:List UInt8) (l:List Nd):Gb [c] (c::r,false,l)=(r,false,l):=by
 unfold Gb;rw [if_neg (by simp),Q7 hc h32,if_pos rfl]
theorem Y2 {l:List Nd} (hl:l.length<=60) {g:Nat} {op:Int} {deep:Int} (h0:0<=deep) (hd:deep+1+g<=400):∀(ks:List Int),ks≠ []->(∀k∈ks,cz l g k)->∀(pre:List Int) (m e:Int) (r:List UInt8) (f:Nat),Vg l m ks e->0<=m->20*(L2 l g ks++41::r).length+8<=f->
  pP f (.args op deep pre) (L2 l g ks++41::r,false,l.take m.toNat)=Hn (ndK 6 op (pre++ks)) (r,false,l.take e.toNat)
 | [],h,_,_,_,_,_,_,_,_,_=>absurd rfl h
 | [k],_,hA,pre,m,e,r,f,hc,hm,hf=>by
  obtain ⟨f,rfl⟩:∃f',f=f'+1:=⟨f-1,by omega⟩;obtain ⟨c1,c2⟩:=hc;have c2:k+1=e:=c2;have hk:=(hA k (zamN ..)).1;have ar:=t7 hl (hA k (zamN ..)) (x:=41::r) (HR (by decide)) (Zp r) h0 hd (f:=f) (by have:L2 l g [k]=tx l g k 1:=rfl;rw [this] at hf;omega);rw [c1] at ar;have ek:k.toNat+1=e.toNat:=by omega
  rw [ek] at ar;show pP (f+1) (.args op deep pre) (tx l g k 1++41::r,false,l.take m.toNat)=_
  conv=>lhs;unfold pP
  rw [if_neg (by simp),ar];simp only;have tk:=Zq (c:=44) (by decide) (p:=(41::r,false,l.take e.toNat)) (by simp only;rw [cw (HR (by decide))];simp);rw [tk,if_neg (by simp)];simp only [cw (r:=41::r) (HR (by decide))];rw [Xr (by decide) (by decide)]
 |k::k2::ks,_,hA,pre,m,e,r,f,hc,hm,hf=>by
  obtain ⟨f,rfl⟩:∃f',f=f'+1:=⟨f-1,by omega⟩;obtain ⟨c1,c2⟩:=hc;have hk:=(hA k (zamN ..)).1;have ej:L2 l g (k::k2::ks)++41::r=tx l g k 1++(44::(L2 l g (k2::ks)++41::r)):=by rw [S3];simp
  rw [ej] at hf⊢;have ar:=t7 hl (hA k (zamN ..)) (x:=44::(L2 l g (k2::ks)++41::r)) (HR (by decide)) (nj _) h0 hd (f:=f) (by omega);rw [c1] at ar
  conv=>lhs;unfold pP
  rw [if_neg (by simp),ar];simp only;rw [Q7 (by decide) (by decide),if_pos rfl];have hlen:20*(L2 l g (k2::ks)++41::r).length+8<=f:=by
   rw [zamO,zamM] at hf;omega
  have ek:k.toNat+1=(k+1).toNat:=by omega
  have ih:=Y2 (op:=op) hl h0 hd (k2::ks) (by simp) (λq hq=>hA q (zamR _ hq)) (pre++ [k]) (k+1) e r f c2 (by omega) hlen;rw [ek];rw [List.append_assoc] at ih;exact ih
theorem nu {l:List Nd} (hl:l.length<=60) {g:Nat} {i op:Int} {ks:List Int} (hi:0<=i/\i<l.length) (hx:ndi l i=ndK 6 op ks) (ho:1<=op/\op<=10) (hn:ks≠ []) (hA:∀k∈ks,cz l g k) (hc:Vg l (lo l i) ks i) (h0:0<=lo l i):RT l (g+1) i:=by
 obtain ⟨w1,w2,w3⟩:=ot ho;have e:=λt=>sv (g:=g) (t:=t) hx
 have ws:=RN w2 w3;have u:∀(r:List UInt8) (deep:Int) (f:Nat),Fo r->0<=deep->deep+(g+1:Nat)<=400->20*(tx l (g+1) i 5++r).length+4<=f->pP f (.un deep) (tx l (g+1) i 5++r,false,l.take (lo l i).toNat)=(i,r,false,l.take (i.toNat+1)):=λr deep f hr hd hd2 hf=>by
  have ee:tx l (g+1) i 5++r=(fnS op).toList++(40::(L2 l g ks++41::r)):=by rw [e];simp
  rw [ee] at hf⊢;have wl:=List.length_pos_iff.2 w3;simp only [zamO,zamM] at hf;obtain ⟨f,rfl⟩:∃f',f=f'+4:=⟨f-4,by omega⟩;rw [Wh (f:=f+2) (by omega) w2 w3 (λd hd=>by simp at hd;subst hd;decide)];unfold T0;obtain ⟨v1,v2⟩:=fa.f _ _ w1;rw [if_neg (λh=>by rw [v1] at h;cases h.1),if_neg (by rw [v2];simp),w1];simp only
  conv=>lhs;unfold pP
  rw [Xr (by decide) (by decide),Y2 hl hd (by omega) ks hn hA [] (lo l i) i r (f+1) hc h0 (by simp only [zamO,zamM];omega)];exact KT hl hi r hx
 refine ⟨λt=>by rw [e];exact PK ws.1 _,λt r hr d hd=>?_,u,λt t' r deep f h1 h2 h3 hr _ hd hd2 hf=>Xq u (by rw [e,e]) hr hd hd2 hf⟩;have ee:tx l (g+1) i t++r=(fnS op).toList++(40::(L2 l g ks++41::r)):=by rw [e];simp
 rw [ee];refine ws.2 _ (λd hd=>by simp at hd;subst hd;decide) d (λe=>?_);simp at e;rcases hd with rfl|rfl
 ·exact absurd e (by decide)
 ·exact absurd e (by decide)
theorem pz {l:List Nd} (hl:l.length<=60) {g:Nat} {i k:Int} (hi:0<=i/\i<l.length) (hx:ndi l i=ndK 4 0 [k]) (R:RT l g k) (h1:lo l k=lo l i) (h2:k+1=i) (hk:0<=k):RT l (g+1) i:=by
 have e:=λt=>ss (g:=g) (t:=t) hx
 have hs:=λx=>Wi (c:=45) (w:=x) (.inl rfl)
 have u:∀(r:List UInt8) (deep:Int) (f:Nat),Fo r->0<=deep->deep+(g+1:Nat)<=400->20*(tx l (g+1) i 5++r).length+4<=f->pP f (.un deep) (tx l (g+1) i 5++r,false,l.take (lo l i).toNat)=(i,r,false,l.take (i.toNat+1)):=λr deep f hr hd hd2 hf=>by
  rw [e,List.cons_append] at hf⊢;simp only [zamM] at hf;obtain ⟨f,rfl⟩:∃f',f=f'+1:=⟨f-1,by omega⟩;have ih:=R.u r (deep+1) f hr (by omega) (by omega) (by omega);rw [h1] at ih
  conv=>lhs;unfold pP
  rw [if_neg (λh=>h.elim (by omega) (by simp)),Q7 (by decide) (by decide),if_pos rfl];simp only;rw [ih];have ek:k.toNat+1=i.toNat:=by omega
  rw [ek];exact KT hl hi r hx
 exact ⟨λt=>by rw [e];exact (hs _).1,λt r _ d hd=>by rw [e];exact (hs _).2 r d hd,u,λt t' r deep f h1 h2 h3 hr _ hd hd2 hf=>Xq u (by rw [e,e]) hr hd hd2 hf⟩
theorem re {l:List Nd} (hl:l.length<=60) {g:Nat} {i k0 k1 op:Int} (hi:0<=i/\i<l.length) (hx:ndi l i=ndK 5 op [k0,k1]) (ho:1<=op/\op<=11) (R0:RT l g k0) (R1:RT l g k1) (h0:lo l k0=lo l i) (h1:lo l k1=k0+1) (h2:k1+1=i) (hk0:0<=k0) (hk1:0<=k1):RT l (g+1) i:=by
 have e:=λt=>su (g:=g) (t:=t) hx
 have lv:=jl op;have e5:tx l (g+1) i 5=40::(tx l g k0 (lvl op)++((DJ op).toList++tx l g k1 (lvl op+1)))++ [41]:=by rw [e,if_pos (by omega)]
 have c0:∀(t t':Int) (r:List UInt8) (deep:Int) (f:Nat),1<=t->t<=t'->t'<=lvl op->Fo r->(EE r=0\/lvl (EE r)<=lvl op)->0<=deep->deep+g<=400->20*((tx l g k0 (lvl op)++((DJ op).toList++tx l g k1 (lvl op+1)))++r).length+6<=f->
   ∃f2,20*r.length+5<=f2/\pP f (.bin t deep) ((tx l g k0 (lvl op)++((DJ op).toList++tx l g k1 (lvl op+1)))++r,false,l.take (lo l i).toNat)=pP f2 (.loop t deep i) (r,false,l.take (i.toNat+1)):=λt t' r deep f a1 a2 a3 hr hop hd hd2 hf=>by
  have ee:(tx l g k0 (lvl op)++((DJ op).toList++tx l g k1 (lvl op+1)))++r=tx l g k0 (lvl op)++((DJ op).toList++(tx l g k1 (lvl op+1)++r)):=by simp
  rw [ee] at hf⊢;have sg:=s7 ho (PK (R1.s (lvl op+1)) r);have oa:=Y0 ho sg;obtain ⟨f2,q1,q2⟩:=R0.b t (lvl op) ((DJ op).toList++(tx l g k1 (lvl op+1)++r)) deep f a1 (by omega) (by omega) (Zo ho _) (.inr (by rw [oa];omega)) hd hd2 hf;obtain ⟨f3,q3,q4⟩:=nr hl hi hx ho R1 h1 h2 hk0 hk1 (t:=t) (deep:=deep) (f:=f2) (by omega) hr hop hd hd2 q1;rw [h0] at q2;exact ⟨f3,q3,q2.trans q4⟩
 have u:∀(r:List UInt8) (deep:Int) (f:Nat),Fo r->0<=deep->deep+(g+1:Nat)<=400->20*(tx l (g+1) i 5++r).length+4<=f->pP f (.un deep) (tx l (g+1) i 5++r,false,l.take (lo l i).toNat)=(i,r,false,l.take (i.toNat+1)):=λr deep f hr hd hd2 hf=>by
  have ee:tx l (g+1) i 5++r=40::((tx l g k0 (lvl op)++((DJ op).toList++tx l g k1 (lvl op+1)))++41::r):=by rw [e5];simp
  rw [ee] at hf⊢;simp only [zamM] at hf;obtain ⟨f,rfl⟩:∃f',f=f'+2:=⟨f-2,by omega⟩;obtain ⟨f2,q1,q2⟩:=c0 1 1 (41::r) (deep+1) f (by omega) (by omega) (by omega) (HR (by decide)) (.inl (Zp r)) (by omega) (by omega) (by omega);rw [UA (HR (by decide)) (.inl (Zp r)) (by omega)] at q2;generalize (tx l g k0 (lvl op)++((DJ op).toList++tx l g k1 (lvl op+1)))++41::r=x at q2⊢;rw [cx (by omega) (by simp) (by simp)];have tt:tb (40::x)=40::x:=T7 (by simp)
  conv=>lhs;unfold pP
  simp only [tt];rw [if_neg (show ¬(40::x).head?=some 34 by simp),if_neg (show ¬(40::x).head?=some 35 by simp)];simp only;rw [Q7 (by decide) (by decide),if_pos ⟨by simp,rfl⟩,q2];simp only;rw [Xr (by decide) (by decide)]
 refine ⟨λt=>?_,λt r hr d hd=>?_,u,λt t' r deep f a1 a2 a3 hr hop hd hd2 hf=>?_⟩
 ·rw [e];split
  ·exact ⟨40,rfl,.inr (.inr (.inl rfl))⟩
  ·exact PK (R0.s (lvl op)) _
 ·rw [e];split
  ·exact (Wi (c:=40) (w:=(tx l g k0 (lvl op)++((DJ op).toList++tx l g k1 (lvl op+1)))++ [41]) (.inr (.inl rfl))).2 r d hd
  ·have ee:(tx l g k0 (lvl op)++((DJ op).toList++tx l g k1 (lvl op+1)))++r=tx l g k0 (lvl op)++((DJ op).toList++(tx l g k1 (lvl op+1)++r)):=by simp
   rw [ee];exact R0.c (lvl op) _ (Zo ho _) d hd
 ·by_cases hp:lvl op<t'
  ·exact Xq u (by rw [e,e,if_pos hp,if_pos (by omega)]) hr hd hd2 hf
  ·rw [e,if_neg hp] at hf⊢;exact c0 t t' r deep f a1 a2 (by omega) hr (by rcases hop with h|h;exact .inl h;exact .inr (by omega)) hd (by omega) hf
theorem Xs {l:List Nd} (h:Fine l):∀(g:Nat) (i:Int),(0<=i/\i<l.length)->Es (qj l) (i.toNat+1) i<=g->E7 l i=false->0<=lo l i->RT l g i
 |0,i,hi,hd,_,_=>by
  have:=OU (qj l) (i.toNat+1) i hi.1 (by omega);omega
 |g+1,i,hi,hd,ha,h0=>by
  have hb:GN (ndi l i)=true:=(h.own i hi.1 hi.2).1;have hch:=Xp h hi h0;have kidok:=λk hk=>h.kid hi hd (k:=k) hk
  have kin:=(h.own i hi.1 hi.2).2;rcases LC hb with ⟨k1,_⟩|k2|k3|⟨k4,_⟩|⟨k5,_⟩|k6
  ·obtain ⟨e,v1,v2,v3⟩:=jg hb k1;have et:=λt=>sj (g:=g) (t:=t) k1
   have kz:qj l i= []:=by unfold qj;rw [e];rfl
   rw [kz] at hch;have hlo:lo l i=i:=hch;have sc:=py v1 v2 v3;have u:∀(r:List UInt8) (deep:Int) (f:Nat),Fo r->0<=deep->deep+(g+1:Nat)<=400->20*(tx l (g+1) i 5++r).length+4<=f->pP f (.un deep) (tx l (g+1) i 5++r,false,l.take (lo l i).toNat)=(i,r,false,l.take (i.toNat+1)):=λr deep f hr hd1 hd2 hf=>by
    obtain ⟨f,rfl⟩:∃f',f=f'+2:=⟨f-2,by omega⟩;rw [et,hlo];exact pv h.len hi e v1 v2 v3 (by omega) hr
   exact ⟨λt=>by rw [et];exact sc.1,λt r hr d hd=>by rw [et];exact sc.2 r hr d hd,u,λt t' r deep f _ _ _ hr _ hd1 hd2 hf=>Xq u (by rw [et,et]) hr hd1 hd2 hf⟩
  ·obtain ⟨e,v1⟩:=jh hb k2;have et:=λt=>sq (g:=g) (t:=t) k2
   have kz:qj l i= []:=by unfold qj;rw [e];rfl
   rw [kz] at hch;have hlo:lo l i=i:=hch;obtain ⟨d1,d2⟩:=Kr (fc:=(ndi l i).2.2.2.2.2.2.2.1) (fr:=(ndi l i).2.2.2.2.2.2.2.2.1) v1;have sc:=RN d1 d2;have u:∀(r:List UInt8) (deep:Int) (f:Nat),Fo r->0<=deep->deep+(g+1:Nat)<=400->20*(tx l (g+1) i 5++r).length+4<=f->pP f (.un deep) (tx l (g+1) i 5++r,false,l.take (lo l i).toNat)=(i,r,false,l.take (i.toNat+1)):=λr deep f hr hd1 hd2 hf=>by
    obtain ⟨f,rfl⟩:∃f',f=f'+2:=⟨f-2,by omega⟩;rw [et,hlo];exact nq h.len hi e v1 (by omega) hr
   exact ⟨λt=>by rw [et];exact sc.1,λt r hr d hd=>by rw [et];exact sc.2 r (S2 hr) d (jm hr hd),u,λt t' r deep f _ _ _ hr _ hd1 hd2 hf=>Xq u (by rw [et,et]) hr hd1 hd2 hf⟩
  ·unfold E7 at ha;rw [decide_eq_false_iff_not] at ha;exact absurd k3 ha
  ·obtain ⟨k,e⟩:=ji hb k4;have kz:qj l i= [k]:=by unfold qj;rw [e];rfl
   rw [kz] at hch;obtain ⟨c1,c2⟩:=hch;have c2:k+1=i:=c2;have hk:k∈qj l i:=by rw [kz];exact zamN ..
   obtain ⟨q1,q2⟩:=kidok k hk;have na:E7 l k=false:=by
    rw [aE];intro hh;exact (kin k hk).2.2 ⟨hh,by unfold GL;rw [e];rfl⟩
   exact pz h.len hi e (Xs h g k q1 q2 na (by omega)) c1 c2 q1.1
  ·obtain ⟨k0,k1,e,o1,o2⟩:=jj hb k5;have kz:qj l i= [k0,k1]:=by unfold qj;rw [e];rfl
   rw [kz] at hch;obtain ⟨c1,c2,c3⟩:=hch;have c3:k1+1=i:=c3;have hk0:k0∈qj l i:=by rw [kz];simp
   have hk1:k1∈qj l i:=by rw [kz];simp
   obtain ⟨q1,q2⟩:=kidok k0 hk0;obtain ⟨q3,q4⟩:=kidok k1 hk1;have nc:GL l i=false:=by unfold GL;rw [e];rfl
   have na0:E7 l k0=false:=by
    rw [aE];intro hh;exact (kin k0 hk0).2.2 ⟨hh,nc⟩
   have na1:E7 l k1=false:=by
    rw [aE];intro hh;exact (kin k1 hk1).2.2 ⟨hh,nc⟩
   exact re h.len hi e ⟨o1,o2⟩ (Xs h g k0 q1 q2 na0 (by omega)) (Xs h g k1 q3 q4 na1 (by omega)) c1 c2 c3 q1.1 q3.1
  ·have k6:(ndi l i).1=6:=by
    first
    |exact k6
    |exact k6.1
   obtain ⟨e,hargs⟩:=jk hb k6;have kz:qj l i=kd (ndi l i):=rfl;rw [kz] at hch;have ops:1<=(ndi l i).2.1/\(ndi l i).2.1<=10/\kd (ndi l i)≠ []:=by
    unfold Ly at hargs;split at hargs
    ·have:=of_decide_eq_true hargs;refine ⟨by omega,by omega,λe0=>?_⟩;rw [e0] at this;simp at this
    ·split at hargs
     ·have:=of_decide_eq_true hargs;refine ⟨by omega,by omega,λe0=>?_⟩;rw [e0] at this;simp at this
     ·split at hargs
      ·have:=of_decide_eq_true hargs;refine ⟨by omega,by omega,λe0=>?_⟩;rw [e0] at this;simp at this
      ·cases hargs
   have args:∀(ks:List Int),(∀k∈ks,k∈qj l i)->∀m,0<=m->Vg l m ks i->∀k∈ks,cz l g k:=by
    intro ks
    induction ks with
    |nil=>intro _ m _ _ k hk;cases hk
    |cons a ks ih=>
     intro hsub m hm hc k hk;obtain ⟨c1,c2⟩:=hc;obtain ⟨q1,q2⟩:=kidok a (hsub a (zamN ..));rcases zamT.1 hk with rfl|hk
     ·refine ⟨q1,?_⟩;by_cases har:E7 l k=true
      ·right
       have h3:(ndi l k).1=3:=by unfold E7 at har;exact of_decide_eq_true har
       have hbk:GN (ndi l k)=true:=(h.own k q1.1 q1.2).1;have hch2:=Xp h q1 (by omega);have kz2:qj l k= []:=by unfold qj;rw [(bd hbk h3).1];rfl
       rw [kz2] at hch2;have gp:=OU (qj l) (k.toNat+1) k q1.1 (by omega);exact ⟨h3,hbk,hch2,g-1,by omega⟩
      ·left
       exact Xs h g k q1 q2 (by rw [aE];exact har) (by omega)
     ·exact ih (λk hk=>hsub k (zamR _ hk)) (a+1) (by omega) c2 k hk
   exact nu h.len hi e ⟨ops.1,ops.2.1⟩ ops.2.2 (args _ (λk hk=>hk) _ h0 hch) hch h0
theorem PL {c:UInt8} (h:wch c=true):okc c=true:=by
 unfold wch at h;simp only [Bool.or_eq_true,zL,aC,zanG] at h;unfold okc;rw [aC];rcases h with h|h|h
 ·omega
 ·omega
 ·subst h;decide
theorem Y3:∀s:List UInt8,s.all okc=true->(ES s).all okc=true
 | [],_=>rfl
 |c::s,h=>by
  rw [zanC,zL] at h;rw [Jh,List.all_append,zL];refine ⟨?_,Y3 s h.2⟩;split
  ·decide
  ·simp [h.1]
theorem t8 {op:Int} (ho:1<=op/\op<=11):(DJ op).toList.all okc=true:=by
 have c:op=1\/op=2\/op=3\/op=4\/op=5\/op=6\/op=7\/op=8\/op=9\/op=10\/op=11:=by omega
 rcases c with rfl|rfl|rfl|rfl|rfl|rfl|rfl|rfl|rfl|rfl|rfl<;>decide+kernel
theorem jn {n:Int} (hn:1<=n/\n<=5):(qt n).toList.all okc=true:=by
 have c:n=1\/n=2\/n=3\/n=4\/n=5:=by omega
 rcases c with rfl|rfl|rfl|rfl|rfl<;>decide+kernel
theorem nw {k x:Int} {s:BA} (hv:okV k x s=true) (h0:k≠0) (h1:k=1->0<=x):(if k=2 then Ij s else Di k x s).toList.all okc=true:=by
 rcases bu hv with rfl|rfl|rfl|rfl|rfl
 ·exact absurd rfl h0
 ·rw [if_neg (by decide)];have ht:(Di 1 x s).toList=Lib.itoa x:=by rw [zao];simp [Di,JH]
  rw [ht];exact KS (λ_ h=>PL (T9 h)) (Q8 (h1 rfl)).1
 ·rw [if_pos rfl];have ht:(Ij s).toList=34::(ES s.toList++ [34]):=by unfold Ij;rw [Eh];simp
  obtain ⟨_,_,a⟩:=Tg hv;rw [ht,zanC,List.all_append,Y3 _ a]
  decide
 ·rw [if_neg (by decide)];have hs:=Nx hv (by decide);subst hs;exact KS (λ_=>PL) (Xn (Yd hv)).1
 ·rw [if_neg (by decide)];exact jn (Ye hv)
theorem t9 {l:List Nd} {g:Nat}:∀ks:List Int,(∀k∈ks,(tx l g k 1).all okc=true)->(L2 l g ks).all okc=true
 | [],_=>rfl
 | [k],h=>h k (zamN ..)
 |k::k2::ks,h=>by
  rw [S3,List.all_append,zanC,h k (zamN ..),t9 (k2::ks) (λq hq=>h q (zamR _ hq))]
  decide
theorem u0 {l:List Nd} (h:Fine l):∀(g:Nat) (i t:Int),(0<=i/\i<l.length)->(tx l g i t).all okc=true
 |0,i,t,_=>by unfold tx DK;rw [q7];rfl
 |g+1,i,t,hi=>by
  have hb:GN (ndi l i)=true:=(h.own i hi.1 hi.2).1;have kin:=λk hk=>(h.own i hi.1 hi.2).2 k hk
  have ih:=λk t (hk:k∈qj l i)=>u0 h g k t (by have:=kin k hk;omega)
  rcases LC hb with ⟨k1,_⟩|k2|k3|⟨k4,_⟩|⟨k5,_⟩|k6
  ·obtain ⟨e,v1,v2,v3⟩:=jg hb k1;rw [sj k1];exact nw v1 v2 v3
  ·rw [sq k2];exact KS (λ_=>PL) (Kr (jh hb k2).2).1
  ·obtain ⟨e,ha⟩:=bd hb k3;obtain ⟨a1,a2,a3,a4,_⟩:=Yc ha;rw [sr k3];generalize ndi l i=c at*
   have r1:D8 c.2.2.2.2.2.1 c.2.2.2.2.2.2.1=true:=by unfold D8;simp;omega
   have r2:D8 c.2.2.2.2.2.2.2.2.2.1 c.2.2.2.2.2.2.2.2.2.2.1=true:=by unfold D8;simp;omega
   rw [List.all_append,zanC,KS (λ_=>PL) (Kr r1).1,KS (λ_=>PL) (Kr r2).1]
   decide
  ·obtain ⟨k,e⟩:=ji hb k4;have kz:qj l i= [k]:=by unfold qj;rw [e];rfl
   rw [ss e,zanC,ih k 5 (by rw [kz];simp)]
   decide
  ·obtain ⟨k0,k1,e,o1,o2⟩:=jj hb k5;have kz:qj l i= [k0,k1]:=by unfold qj;rw [e];rfl
   have i0:=λt=>ih k0 t (by rw [kz];simp)
   have i1:=λt=>ih k1 t (by rw [kz];simp)
   rw [su e];split
   ·rw [List.cons_append,zanC,List.all_append,List.all_append,List.all_append,i0,i1,t8 ⟨o1,o2⟩]
    decide
   ·rw [List.all_append,List.all_append,i0,i1,t8 ⟨o1,o2⟩]
    decide
  ·have k6:(ndi l i).1=6:=by
    first
    |exact k6
    |exact k6.1
   obtain ⟨e,hargs⟩:=jk hb k6;have ops:1<=(ndi l i).2.1/\(ndi l i).2.1<=10:=by
    unfold Ly at hargs;split at hargs
    ·omega
    ·split at hargs
     ·omega
     ·split at hargs
      ·omega
      ·cases hargs
   rw [sv e,List.all_append,zanC,List.all_append,KS (λ_=>PL) (ot ops).2.1,t9 (kd (ndi l i)) (λk hk=>ih k 1 hk)]
   decide
theorem fg {l:List Nd} (hf:Ii l=true) (hk:∀c∈l,(kd c).length<=140737488351232/\c.2.2.2.2.1.size<=140737488351232) (hs:(FS l).toList≠ []):Ed (FS l)=(l,true):=by
 obtain ⟨q1,q2,q3⟩:=Za hf hk;have hform:=hf;unfold Ii at hf;simp only [zL,aC,Bool.not_eq_true'] at hf;obtain ⟨h1,_,h3,h4,_⟩:=hf;have en:((l.length:Int)-1).toNat+1=l.length:=by omega
 have hlo:lo l ((l.length:Int)-1)=0:=by unfold lo;rw [en];exact h3
 have R:=Xs q1 12 ((l.length:Int)-1) q2 q3 h4 (by omega);have hsz:=S1 l;have et:(FS l).toList=tx l 12 ((l.length:Int)-1) 1:=by
  unfold FS at hs⊢;rw [if_pos hform] at hs⊢;split at hs
  ·exact absurd q7 hs
  ·rename_i hc;rw [if_neg hc];rfl
 have hlen:(tx l 12 ((l.length:Int)-1) 1).length<=200:=by rw [<-et,Dz];exact hsz
 have hp:FE (FS l) 200=true:=by
  unfold FE;rw [et,u0 q1 12 _ 1 q2,Bool.true_and,aC];omega
 obtain ⟨f2,b1,b2⟩:=R.b 1 1 [] 0 4050 (by omega) (by omega) (by omega) je (.inl s8) (by omega) (by omega) (by rw [List.append_nil];omega);rw [UA je (.inl s8) (by simp at b1;omega),List.append_nil,hlo,en,List.take_length] at b2;have hR:Ve (FS l)=([],false,l):=by
  unfold Ve;rw [et];have:l.take (0:Int).toNat= []:=rfl;rw [this] at b2;rw [b2]
 unfold Ed;rw [hR,if_pos ⟨hp,rfl,rfl,hform⟩]
theorem Xt {s:BA} (h:(Ed s).2=true):Ii (Ed s).1=true:=by
 unfold Ed at h⊢;split at h
 ·rename_i hc;rw [if_pos hc];exact hc.2.2.2
 ·cases h
def Dwx {β:Type} (Q:β->Prop) (R:Nat->Tr β):Prop:=∃x,Q x/\Ev (λn=>(R n).run) x
theorem qx {α β:Type} {Q:β->Prop} {F:Nat->Option α} {r:α} {K:Nat->α->Tr β} (h:Ev F r) (hk:Dwx Q λn=>K n r):Dwx Q λn=> .opt (F n) (K n):=by
 obtain ⟨x,q,n1,h1⟩:=hk;obtain ⟨n0,h0⟩:=h;exact ⟨x,q,n0+n1,λn hn=>qa (h0 n (by omega)) (h1 n (by omega))⟩
theorem D4 {β:Type} {Q:β->Prop} {b:Bool} {t e:Nat->Tr β} (h:b=true) (hk:Dwx Q t):Dwx Q λn=> .ask b (t n) (e n):=by
 obtain ⟨x,q,n1,h1⟩:=hk;exact ⟨x,q,n1,λn hn=>qb h (h1 n hn)⟩
theorem ER {β:Type} {Q:β->Prop} {b:Bool} {t e:Nat->Tr β} (h:b=false) (hk:Dwx Q e):Dwx Q λn=> .ask b (t n) (e n):=by
 obtain ⟨x,q,n1,h1⟩:=hk;exact ⟨x,q,n1,λn hn=>qc h (h1 n hn)⟩
theorem G2 {α β:Type} {Q:β->Prop} {o:Option α} {r:α} {K:Nat->α->Tr β} (h:o=some r) (hk:Dwx Q λn=>K n r):Dwx Q λn=> .opt o (K n):=by
 obtain ⟨x,q,n1,h1⟩:=hk;exact ⟨x,q,n1,λn hn=>qa h (h1 n hn)⟩
theorem qw {β:Type} {Q:β->Prop} {x:β} (h:Q x):Dwx Q λ_=> .done x:=⟨x,h,0,λ_ _=>rfl⟩
theorem FG {β:Type} {Q:β->Prop} {F:Nat->Option β} {R:Nat->Tr β} (h:Dwx Q R) (hF:∀n,F (n+1)=(R n).run):∃x,Q x/\Ev F x:=by
 obtain ⟨x,q,n1,h1⟩:=h;refine ⟨x,q,n1+1,λn hn=>?_⟩;obtain ⟨m,rfl,hm⟩:=up1 hn;rw [hF];exact h1 m hm
theorem Ho {β:Type} {F:Nat->Option β} {x:β} (h:∃y,y=x/\Ev F y):Ev F x:=by
 obtain ⟨y,rfl,h⟩:=h;exact h
theorem F1 {x y:BA} {a b:Nat} (hx:x.size<=a) (hy:y.size<=b):(x++y).size<=a+b:=by rw [zu];omega
theorem fit {x y:BA} {a b:Nat} (hx:x.size<=a) (hy:y.size<=b) (h:a+b<=9000000000000000000):decide (x.size+y.size<=9223372036854775807)=true:=zD (by omega)
abbrev Drn (l:List (List PV)) {α:Type} (P:α->Prop) (x:α×List (List PV)×Int):Prop:=x.2.1=l/\(0<=x.2.2/\x.2.2<=l.length)/\P x.1
def da (n:Nat) (l:List (List PV)) (p:Int):Tr (BA×List (List PV)×Int):= .opt (D1 n l p) λr11=> .opt (DR n (5:Int) r11.2.2.1 r11.2.2.2) λr13=> .opt (DR n (5:Int) r13.2.1 r13.2.2) λr14=> .opt (DN n r11.1 r11.2.1 r13.1 r14.1) λr30=> .done (r30,r14.2.1,r14.2.2)
theorem Xu {l:List (List PV)} {p:Int} (hl:O8 l) (hp:0<=p/\p<=l.length):Dwx (Drn l λt:BA=>t.size<=1000) λn=>da n l p:=by
 obtain ⟨a,b,p1,h1,h2⟩:=U7 hl hp;obtain ⟨fc,p2,h3,h4⟩:=O9 5 (by decide) hl h1;obtain ⟨fr,p3,h5,h6⟩:=O9 5 (by decide) hl h3;refine qx (IR h2) (qx (IR h4) (qx (IR h6) (qx (GM a b fc fr) (qw ⟨rfl,h5,?_⟩))));have:=Jn a b fc fr;dsimp only;omega
def sx (n:Nat) (l:List (List PV)) (p:Int):Tr (BA×List (List PV)×Int):= .opt (qi n (7:Int) l p) λr8=> .ask (r8.1==(0:Int)) (da n r8.2.1 r8.2.2) (.ask (r8.1==(1:Int)) (da n r8.2.1 r8.2.2) (.ask (r8.1==(2:Int)) (da n r8.2.1 r8.2.2) (.ask (r8.1==(3:Int))
 (.opt (qi n (6:Int) r8.2.1 r8.2.2) λr39=>(.ask (decide (6=([[(.s (⟨#[34,97,34]⟩:BA))],[(.s (⟨#[34,34]⟩:BA))],[(.s (⟨#[84,82,85,69]⟩:BA))],[(.s (⟨#[70,65,76,83,69]⟩:BA))],[(.s (⟨#[35,82,69,70,33]⟩:BA))],[(.s (⟨#[34,113,34,34,34]⟩:BA))]]:List (List PV)).length/\0<=r39.1/\r39.1<((6:Nat):Int))) (.opt (([[(.s (⟨#[34,97,34]⟩:BA))],[(.s (⟨#[34,34]⟩:BA))],[(.s (⟨#[84,82,85,69]⟩:BA))],[(.s (⟨#[70,65,76,83,69]⟩:BA))],[(.s (⟨#[35,82,69,70,33]⟩:BA))],[(.s (⟨#[34,113,34,34,34]⟩:BA))]]:List (List PV))[(r39.1).toNat]?) λe40=>(.opt (zk e40 0) λy41=>(.done (y41,r39.2.1,r39.2.2)))) .fail))
 (.opt (qi n (12:Int) r8.2.1 r8.2.2) λr42=>(.opt (Du n r42.1) λr43=>(.done (r43,r42.2.1,r42.2.2)))))))
theorem u4 {l:List (List PV)} {p:Int} (hl:O8 l) (hp:0<=p/\p<=l.length):Dwx (Drn l λt:BA=>t.size<=1000) λn=>sx n l p:=by
 obtain ⟨a,p1,h1,ha,h2⟩:=GJ 7 (by decide) hl hp;refine qx (IR h2) ?_;have c:a=0\/a=1\/a=2\/a=3\/¬(a=0\/a=1\/a=2\/a=3):=by omega
 rcases c with rfl|rfl|rfl|rfl|c
 ·exact D4 rfl (Xu hl h1)
 ·exact ER rfl (D4 rfl (Xu hl h1))
 ·exact ER rfl (ER rfl (D4 rfl (Xu hl h1)))
 ·refine ER rfl (ER rfl (ER rfl (D4 rfl ?_)));obtain ⟨b,p2,h3,hb,h4⟩:=GJ 6 (by decide) hl h1;refine qx (IR h4) ?_;have c:b=0\/b=1\/b=2\/b=3\/b=4\/b=5:=by omega
  rcases c with rfl|rfl|rfl|rfl|rfl|rfl<;>exact D4 rfl (G2 rfl (G2 rfl (qw ⟨rfl,h3,by dsimp only;decide⟩)))
 ·refine ER (zanF.2 (by dsimp only;omega)) (ER (zanF.2 (by dsimp only;omega)) (ER (zanF.2 (by dsimp only;omega)) (ER (zanF.2 (by dsimp only;omega)) ?_)));obtain ⟨b,p2,h3,hb,h4⟩:=GJ 12 (by decide) hl h1;refine qx (IR h4) (qx (Kz b (by omega)) (qw ⟨rfl,h3,?_⟩));have:=OQ (x:=b) (by omega);dsimp only;omega
theorem u5 {l:List (List PV)} (hl:O8 l):∀(d:Nat),d<=9->∀{p:Int},(0<=p/\p<=l.length)->∃(t:BA) (p':Int),(0<=p'/\p'<=l.length)/\t.size<=1000*4^d/\Ev (λn=>D2 n (d:Int) l p) (t,l,p')
 |0,_,p,hp=>by
  obtain ⟨⟨t,l',p'⟩,⟨rfl,h1,h2⟩,h3⟩:=FG (F:=λn=>D2 n ((0:Nat):Int) l p) (R:=λn=>HB (D2 n) n ((0:Nat):Int) l p) (D4 rfl (u4 hl hp)) λn=>rfl
  exact ⟨t,p',h1,by simpa using h2,h3⟩
 |d+1,hd,p,hp=>by
  have ih:=fun {p:Int} (hp:0<=p/\p<=l.length)=>u5 hl d (by omega) (p:=p) hp
  have hb:1000<=1000*4^d:=Nat.le_mul_of_pos_right _ (Nat.pow_pos (by decide));have hb9:1000*4^d<=300000000:=by
   have:4^d<=4^9:=Nat.pow_le_pow_right (by decide) (by omega);have e:4^9=262144:=by decide
   omega
  have he:1000*4^(d+1)=4*(1000*4^d):=by rw [Nat.pow_succ];omega
  rw [he];generalize 1000*4^d=B at ih hb hb9;have hw:IntKind.i64.wrap (((d+1:Nat):Int)-(1:Int))=(d:Int):=by rw [ql (by omega)];omega
  have key:Dwx (Drn l λt:BA=>t.size<=4*B) λn=>HB (D2 n) n ((d+1:Nat):Int) l p:=by
   unfold HB IV;rw [hw];refine ER (zanF.2 (by omega)) ?_;obtain ⟨o,p1,h1,h2⟩:=O9 3 (by decide) hl hp;refine qx (IR h2) ?_;cases o with
   |true=>
    obtain ⟨⟨t,l',p'⟩,⟨rfl,g1,g2⟩,g3⟩:=u4 hl h1;refine D4 rfl ⟨(t,l',p'),⟨rfl,g1,?_⟩,g3⟩;dsimp only at g2⊢;omega
   |false=>
    refine ER rfl ?_;obtain ⟨a,p2,h3,ha,h4⟩:=GJ 8 (by decide) hl h1;refine qx (IR h4) ?_;have one:(⟨#[45]⟩:BA).size<=9/\(⟨#[40]⟩:BA).size<=9/\(⟨#[41]⟩:BA).size<=9/\(⟨#[44]⟩:BA).size<=9/\(⟨#[58]⟩:BA).size<=9/\(⟨#[73,70,40]⟩:BA).size<=9:=by decide
    obtain ⟨o1,o2,o3,o4,o5,o6⟩:=one;have areaG:∀{K:Nat->Int×List (List PV)×Int->Int->Int->Int->Int->Tr (BA×List (List PV)×Int)},(∀(u:BA) (a b c d q:Int),u.size<=9->True)->True:=λ_=>trivial
    have c:a=0\/a=1\/(a=2\/a=3)\/a=4\/a=5\/¬(a=0\/a=1\/a=2\/a=3\/a=4\/a=5):=by omega
    rcases c with rfl|rfl|c|rfl|rfl|c
    ·refine D4 rfl ?_;obtain ⟨t,p3,g1,g2,g3⟩:=ih h3;exact qx g3 (D4 (fit o1 g2 (by omega)) (qw ⟨rfl,g1,zS (F1 o1 g2) (by omega)⟩))
    ·refine ER rfl (D4 rfl ?_);obtain ⟨t,p3,g1,g2,g3⟩:=ih h3;exact qx g3 (D4 (fit o2 g2 (by omega)) (D4 (fit (F1 o2 g2) o3 (by omega)) (qw ⟨rfl,g1,zS (F1 (F1 o2 g2) o3) (by omega)⟩)))
    ·obtain ⟨a1,a2,a3,a4,p3,g1,g2⟩:=lw hl h3;obtain ⟨b,p4,g3,hb',g4⟩:=GJ 6 (by decide) hl g1;have z1:=Jn a1 a2 false false;have z2:=Jn a3 a4 false false;obtain ⟨t,p5,g5,g6,g7⟩:=ih g3;have fin:∀(u:BA),u.size<=9->Dwx (Drn l λt:BA=>t.size<=4*B) λn=>(.ask (decide (u.size+(⟨#[40]⟩:BA).size<=9223372036854775807)) (.opt (DN n a1 a2 false false) λr83=>(.ask (decide ((u++(⟨#[40]⟩:BA)).size+r83.size<=9223372036854775807)) (.ask (decide (((u++(⟨#[40]⟩:BA))++r83).size+(⟨#[58]⟩:BA).size<=9223372036854775807)) (.opt (DN n a3 a4 false false) λr84=>(.ask (decide ((((u++(⟨#[40]⟩:BA))++r83)++(⟨#[58]⟩:BA)).size+r84.size<=9223372036854775807)) (.ask (decide (((((u++(⟨#[40]⟩:BA))++r83)++(⟨#[58]⟩:BA))++r84).size+(⟨#[44]⟩:BA).size<=9223372036854775807)) (.opt (D2 n (d:Int) l p4) λr85=>(.ask (decide ((((((u++(⟨#[40]⟩:BA))++r83)++(⟨#[58]⟩:BA))++r84)++(⟨#[44]⟩:BA)).size+r85.1.size<=9223372036854775807)) (.ask (decide (((((((u++(⟨#[40]⟩:BA))++r83)++(⟨#[58]⟩:BA))++r84)++(⟨#[44]⟩:BA))++r85.1).size+(⟨#[41]⟩:BA).size<=9223372036854775807)) (.done ((((((((u++(⟨#[40]⟩:BA))++r83)++(⟨#[58]⟩:BA))++r84)++(⟨#[44]⟩:BA))++r85.1)++(⟨#[41]⟩:BA)),r85.2.1,r85.2.2)) .fail) .fail)) .fail) .fail)) .fail) .fail)) .fail:Tr (BA×List (List PV)×Int)):=λu hu=>by
      have s1:=F1 hu o2;have s2:=F1 s1 z1;have s3:=F1 s2 o5;have s4:=F1 s3 z2;have s5:=F1 s4 o4;have s6:=F1 s5 g6;exact D4 (fit hu o2 (by omega)) (qx (GM a1 a2 false false) (D4 (fit s1 z1 (by omega)) (D4 (fit s2 o5 (by omega)) (qx (GM a3 a4 false false) (D4 (fit s3 z2 (by omega)) (D4 (fit s4 o4 (by omega)) (qx g7 (D4 (fit s5 g6 (by omega)) (D4 (fit s6 o3 (by omega)) (qw ⟨rfl,g5,zS (F1 s6 o3) (by omega)⟩))))))))))
     have cb:b=0\/b=1\/b=2\/b=3\/b=4\/b=5:=by omega
     rcases c with rfl|rfl
     ·refine ER rfl (ER rfl (D4 rfl (qx (IR g2) (qx (IR g4) ?_))));rcases cb with rfl|rfl|rfl|rfl|rfl|rfl<;>exact D4 rfl (G2 rfl (G2 rfl (fin _ (by decide))))
     ·refine ER rfl (ER rfl (ER rfl (D4 rfl (qx (IR g2) (qx (IR g4) ?_)))));rcases cb with rfl|rfl|rfl|rfl|rfl|rfl<;>exact D4 rfl (G2 rfl (G2 rfl (fin _ (by decide))))
    ·refine ER rfl (ER rfl (ER rfl (ER rfl (D4 rfl ?_))));obtain ⟨t1,p3,g1,g2,g3⟩:=ih h3;obtain ⟨t2,p4,g4,g5,g6⟩:=ih g1;obtain ⟨t3,p5,g7,g8,g9⟩:=ih g4;have s1:=F1 o6 g2;have s2:=F1 s1 o4;have s3:=F1 s2 g5;have s4:=F1 s3 o4;have s5:=F1 s4 g8;exact qx g3 (D4 (fit o6 g2 (by omega)) (D4 (fit s1 o4 (by omega)) (qx g6 (D4 (fit s2 g5 (by omega)) (D4 (fit s3 o4 (by omega)) (qx g9 (D4 (fit s4 g8 (by omega)) (D4 (fit s5 o3 (by omega)) (qw ⟨rfl,g7,zS (F1 s5 o3) (by omega)⟩)))))))))
    ·refine ER rfl (ER rfl (ER rfl (ER rfl (ER rfl (D4 rfl ?_)))));obtain ⟨b,p3,g1,hb',g2⟩:=GJ 3 (by decide) hl h3;obtain ⟨t,p4,g4,g5,g6⟩:=ih g1;refine qx (IR g2) ?_;have cb:b=0\/b=1\/b=2:=by omega
     rcases cb with rfl|rfl|rfl<;>exact D4 rfl (G2 rfl (G2 rfl (D4 (fit (a:=9) (by decide) o2 (by omega)) (qx g6 (D4 (fit (F1 (a:=9) (by decide) o2) g5 (by omega)) (D4 (fit (F1 (F1 (a:=9) (by decide) o2) g5) o3 (by omega)) (qw ⟨rfl,g4,zS (F1 (F1 (F1 (a:=9) (by decide) o2) g5) o3) (by omega)⟩)))))))
    ·have ne:∀{x:Int},a≠x->(a==x)=false:=λh=>zanF.2 h
     refine ER (ne (by omega)) (ER (ne (by omega)) (ER (ne (by omega)) (ER (ne (by omega)) (ER (ne (by omega)) (ER (ne (by omega)) ?_)))));obtain ⟨t1,p3,g1,g2,g3⟩:=ih h3;obtain ⟨b,p4,g4,hb',g5⟩:=GJ 11 (by decide) hl g1;obtain ⟨t2,p5,g7,g8,g9⟩:=ih g4;have w1:IntKind.i64.wrap ((1:Int)+b)=1+b:=ql (by omega);have z:=PE (op:=1+b) (by omega);refine qx g3 (qx (IR g5) ?_);dsimp only;rw [w1];exact qx (Mz (1+b) (by omega)) (D4 (fit g2 z (by omega)) (qx g9 (D4 (fit (F1 g2 z) g8 (by omega)) (qw ⟨rfl,g7,zS (F1 (F1 g2 z) g8) (by omega)⟩))))
  obtain ⟨⟨t,l',p'⟩,⟨rfl,h1,h2⟩,h3⟩:=FG (F:=λn=>D2 n ((d+1:Nat):Int) l p) key λn=>rfl
  exact ⟨t,p',h1,h2,h3⟩
theorem jo (x:Int):T3 (Lib.itoa x)=true/\N4 (Lib.itoa x)=x:=by
 unfold Lib.itoa;split
 ·rename_i hx;obtain ⟨h1,h2,h3,_,_⟩:=Hm x.natAbs;have e:LH (45::Lib.decDigits x.natAbs)=Lib.decDigits x.natAbs:=rfl;refine ⟨by unfold T3;rw [e,h1];simpa using h3,?_⟩;unfold N4;rw [e,h2];simp only [List.head?_cons,if_true];omega
 ·rename_i hx;obtain ⟨h1,h2,h3,_,_⟩:=Hm x.toNat;obtain ⟨c,r,hcr,hd⟩:=OR x.toNat;have e:(Lib.decDigits x.toNat).head?≠some 45:=by
   rw [hcr];intro h;cases h
   revert hd
   decide
  have e2:LH (Lib.decDigits x.toNat)=Lib.decDigits x.toNat:=by unfold LH;rw [if_neg e]
  refine ⟨by unfold T3;rw [e2,h1];simpa using h3,?_⟩;unfold N4;rw [if_neg e,e2,h2];omega
theorem jp (x:Int):(Lib.itoa x).all okc=true:=by
 have hd:∀u,(Lib.decDigits u).all okc=true:=λu=>KS (λc hc=>PL (T9 hc)) (Hm u).1
 unfold Lib.itoa;split
 ·rw [zanC,hd];decide
 ·exact hd _
theorem nx (s:BA):BR s.toList=s:=IK (by rw [zao];rfl)
theorem Xv {s:BA} (h:s.toList.all okc=true) (h2:s.size<=200):FE s 200=true:=by
 unfold FE;rw [h,Bool.true_and,aC];omega
theorem u6 {s o:BA} (h:FU s=(o,true)):FU o=(o,true)/\(o.toList= []↔s.toList= [])/\(o.toList.head?≠some 61->(qz o).2.2.2=true)/\(o.toList.head?=some 61->∃l,Ed (BR o.toList.tail)=(l,true)/\o=⟨#[61]⟩++FS l):=by
 have h0:=h;unfold FU at h;split at h
 ·cases h
 rename_i hp;have hp:FE s 200=true:=by simpa using hp
 split at h
 ·rename_i hs;cases h;refine ⟨?_,⟨λ_=>hs,λ_=>q7⟩,λ_=>?_,λe=>by rw [q7] at e;cases e⟩
  ·unfold FU;rw [if_neg (by decide+kernel),if_pos q7]
  ·have:=OS (k:=0) (x:=0) (s:=em) (by decide+kernel);have e:Di 0 0 em=⟨#[]⟩:=rfl;rw [e] at this;rw [this]
 rename_i hs;split at h
 ·rename_i hh;split at h
  ·rename_i hc;obtain ⟨c1,c2,c3⟩:=hc;cases h;generalize hl:(Ed (BR s.toList.tail)).1=l at c2 c3;have hf:Ii l=true:=by rw [<-hl];exact Xt c1
   have hb:=MC (l:=l) (by rw [<-hl];exact (OY _).2);have hr:=fg hf hb c2;have hpl:FE (FS l) 200=true:=by
    have h2:(Ed (FS l)).2=true:=by rw [hr]
    unfold Ed at h2;split at h2
    ·rename_i h3;exact h3.1
    ·cases h2
   have e61:(⟨#[61]⟩:BA).toList= [61]:=by decide+kernel
   have ht:(⟨#[61]⟩++FS l:BA).toList=61::(FS l).toList:=by rw [KR,e61];rfl
   have hsz:(⟨#[61]⟩++FS l:BA).size<=200:=by
    rw [zu];show 1+_<=200;omega
   have ho:FE (⟨#[61]⟩++FS l) 200=true:=Xv (by
    rw [ht,zanC];unfold FE at hpl;simp only [zL] at hpl;rw [hpl.1]
    decide) hsz
   have htl:BR (⟨#[61]⟩++FS l:BA).toList.tail=FS l:=by rw [ht];exact nx _
   refine ⟨?_,⟨λe=>(by rw [ht] at e;cases e),λe=>absurd e hs⟩,λe=>absurd (by rw [ht];rfl) e,λ_=>⟨l,by rw [htl];exact hr,rfl⟩⟩;unfold FU;rw [if_neg (by rw [ho];simp),if_neg (by rw [ht];simp),if_pos (by rw [ht];rfl),htl,hr,if_pos ⟨rfl,c2,c3⟩]
  ·cases h
 rename_i hh;split at h
 ·rename_i hn;have hn2:=hn;unfold I1 at hn2;simp only [zL] at hn2;obtain ⟨hd,hv⟩:=hn2;cases h;generalize N4 s.toList=x at hv;have ht:(JH x).toList=Lib.itoa x:=by rw [zao];rfl
  obtain ⟨g1,g2⟩:=jo x;have hz:=OQ (x:=x) (by have:=ni.1 hv;omega);have hrd:=OS hv;have e:Di 1 x em=JH x:=rfl;rw [e] at hrd;have hne:Lib.itoa x≠ []:=λe=>by
   rw [e] at g1;cases g1
  have h61:(Lib.itoa x).head?≠some 61:=λe=>by
   unfold Lib.itoa at e;split at e
   ·cases e
   ·obtain ⟨c,r,hcr,hd⟩:=OR x.toNat;rw [hcr] at e;cases e
    revert hd
    decide
  refine ⟨?_,⟨λe=>absurd (ht▸e) hne,λe=>absurd e hs⟩,λ_=>by rw [hrd],λe=>absurd (ht▸e) h61⟩;unfold FU;rw [if_neg (by rw [Xv (by rw [ht];exact jp x) (by omega)];simp),ht,if_neg hne,if_neg h61,if_pos (by unfold I1;rw [g1,g2,hv];rfl),g2]
 rename_i hn;split at h
 ·rename_i hv;cases h;exact ⟨h0,Iff.rfl,λ_=>hv,λe=>absurd e hh⟩
 rename_i hv;split at h
 ·cases h
 rename_i h200;cases h;have hz:=M5 hp;have hrd:=OS (si hp);have e:Di 2 0 s=⟨#[39]⟩++s:=rfl;rw [e] at hrd;have e39:(⟨#[39]⟩:BA).toList= [39]:=by decide+kernel
 have ht:(⟨#[39]⟩++s:BA).toList=39::s.toList:=by rw [KR,e39];rfl
 have ho:FE (⟨#[39]⟩++s) 200=true:=Xv (by
  rw [ht,zanC];unfold FE at hp;simp only [zL] at hp;rw [hp.1]
  decide) (by
   rw [zu];show 1+s.size<=200;omega)
 refine ⟨?_,⟨λe=>(by rw [ht] at e;cases e),λe=>absurd e hs⟩,λ_=>(by rw [hrd]),λe=>(by rw [ht] at e;cases e)⟩;unfold FU;rw [if_neg (by rw [ho];simp),if_neg (by rw [ht];simp),if_neg (by rw [ht];simp),if_neg (by rw [ht];unfold I1 T3 LH;simp [EQ]),hrd,if_pos rfl]
theorem Zr {l:List (List PV)} (hl:O8 l) (d:Nat) (hd:d<=2) {p:Int} (hp:0<=p/\p<=l.length):Dwx (Drn l λt:BA=>t.size<=20000) λn=>(.opt (D2 n (d:Int) l p) λr107=>(.ask (decide ((⟨#[61]⟩:BA).size+r107.1.size<=9223372036854775807)) (.done (((⟨#[61]⟩:BA)++r107.1),r107.2.1,r107.2.2)) .fail:Tr (BA×List (List PV)×Int))):=by
 obtain ⟨t,p1,h1,h2,h3⟩:=u5 hl d (by omega) hp;have hb:t.size<=16000:=by
  have:4^d<=4^2:=Nat.pow_le_pow_right (by decide) hd;have e:4^2=16:=by decide
  omega
 have o1:(⟨#[61]⟩:BA).size<=9:=by decide
 exact qx h3 (D4 (fit o1 hb (by omega)) (qw ⟨rfl,h1,zS (F1 o1 hb) (by omega)⟩))
theorem u7 {l:List (List PV)} (hl:O8 l) {p:Int} (hp:0<=p/\p<=l.length):∃(t:BA) (p':Int),(0<=p'/\p'<=l.length)/\t.size<=20000/\Ev (λn=>HD n l p) (t,l,p'):=by
 have key:Dwx (Drn l λt:BA=>t.size<=20000) λn=>Ju n l p:=by
  obtain ⟨a,p1,h1,ha,h2⟩:=GJ 8 (by decide) hl hp;refine qx (IR h2) ?_;have dec:Dwx (Drn l λt:BA=>t.size<=20000) λn=>(.opt (qi n (20:Int) l p1) λr110=>(.opt (Du n r110.1) λr111=>(.done (r111,r110.2.1,r110.2.2))):Tr (BA×List (List PV)×Int)):=by
   obtain ⟨b,p2,h3,hb,h4⟩:=GJ 20 (by decide) hl h1;refine qx (IR h4) (qx (Kz b (by omega)) (qw ⟨rfl,h3,?_⟩));have:=OQ (x:=b) (by omega);dsimp only;omega
  have c:a=0\/a=1\/a=2\/a=3\/a=4\/a=5\/a=6\/a=7:=by omega
  rcases c with rfl|rfl|rfl|rfl|rfl|rfl|rfl|rfl
  ·exact D4 rfl (Zr hl 2 (by decide) h1)
  ·exact ER rfl (D4 rfl (Zr hl 2 (by decide) h1))
  ·exact ER rfl (ER rfl (D4 rfl (Zr hl 2 (by decide) h1)))
  ·exact ER rfl (ER rfl (ER rfl (D4 rfl dec)))
  ·exact ER rfl (ER rfl (ER rfl (ER rfl (D4 rfl dec))))
  ·refine ER rfl (ER rfl (ER rfl (ER rfl (ER rfl (D4 rfl ?_)))));obtain ⟨b,p2,h3,hb,h4⟩:=GJ 8 (by decide) hl h1;refine qx (IR h4) ?_;have c:b=0\/b=1\/b=2\/b=3\/b=4\/b=5\/b=6\/b=7:=by omega
   rcases c with rfl|rfl|rfl|rfl|rfl|rfl|rfl|rfl<;>exact D4 rfl (G2 rfl (G2 rfl (qw ⟨rfl,h3,by dsimp only;decide⟩)))
  ·exact ER rfl (ER rfl (ER rfl (ER rfl (ER rfl (ER rfl (D4 rfl (qw ⟨rfl,h1,by dsimp only;decide⟩)))))))
  ·exact ER rfl (ER rfl (ER rfl (ER rfl (ER rfl (ER rfl (ER rfl (Zr hl 1 (by decide) h1)))))))
 obtain ⟨⟨t,l',p'⟩,⟨rfl,h1,h2⟩,h3⟩:=FG (F:=λn=>HD n l p) key λn=>rfl
 exact ⟨t,p',h1,h2,h3⟩
def I2 {α R:Type} (f:Nat->α->Option R):Nat->List α->Option R
 |_,[]=>none
 |i,a::r=>match f i a with
  |some x=>some x
  |none=>I2 f (i+1) r
theorem S4 {V R α:Type} {B:V->Tr (V⊕R)} (st:Nat->V) (l:List α) (f:Nat->α->Option R) (z:R) (hs:∀i a,l[i]?=some a->(B (st i)).run=some (match f i a with|some r=> .inr r|none=> .inl (st (i+1))))
  (he:(B (st l.length)).run=some (.inr z)):∀(M:Nat),l.length+1<=M->zE B M (st 0)=some ((I2 f 0 l).getD z):=by
 have key:∀(r:List α) (i M:Nat),l.drop i=r->i+r.length=l.length->r.length+1<=M->zE B M (st i)=some ((I2 f i r).getD z):=by
  intro r
  induction r with
  |nil=>
   intro i M h1 h2 h3;obtain ⟨M,rfl⟩:∃q,M=q+1:=⟨M-1,by omega⟩;have e:i=l.length:=by simpa using h2
   subst e;rw [qd he];rfl
  |cons a r ih=>
   intro i M h1 h2 h3;obtain ⟨M,rfl⟩:∃q,M=q+1:=⟨M-1,by omega⟩;have hg:l[i]?=some a:=by rw [<-List.head?_drop,h1];rfl
   have hd:l.drop (i+1)=r:=by rw [<-List.tail_drop,h1];rfl
   have h4:=hs i a hg;simp only [zamM] at h2 h3;unfold I2;cases hf:f i a with
   |some x=>rw [hf] at h4;rw [qd h4];rfl
   |none=>rw [hf] at h4;rw [qm h4];exact ih (i+1) M hd (by omega) (by omega)
 exact λM h=>key l 0 M rfl (by omega) h
theorem KU {i:Nat} {k:Int} {l:List (List PV)} {e:List PV} (hk:k=(i:Int)) (h:l[i]?=some e):decide (0<=k/\k<l.length)=true/\l[k.toNat]?=some e:=by
 subst hk;have:=(zamJ.1 h).1;exact ⟨zD (by omega),by rw [bO];exact h⟩
def OZ (l:List Cl) (c r:Int):BA:=((l.find? λe=>e.1==c&&e.2.1==r).map (·.2.2)).getD ⟨#[]⟩
theorem Xw {R:Type} (c r:Int) (g:BA->R):∀(l:List Cl) (i:Nat),I2 (λ_ (e:Cl)=>if (e.1==c&&e.2.1==r)=true then some (g e.2.2) else none) i l=(l.find? λe=>e.1==c&&e.2.1==r).map λe=>g e.2.2
 | [],i=>rfl
 |a::l,i=>by
  unfold I2;rw [List.find?_cons];cases a.1==c&&a.2.1==r with
  |true=>rfl
  |false=>exact Xw c r g l (i+1)
theorem VO (l:List Cl) (c r:Int) (hb:l.length<=140737488351232):Ev (Lg · (l.map qe) c r) (OZ l c r):=by
 refine ⟨l.length+3,λn hn=>?_⟩;obtain ⟨m,rfl,hm⟩:=up1 hn;have h:=S4 (B:=Jf m) (λi=>(l.map qe,((l.map qe).length:Int),(i:Int),c,r)) l (λ_ e=>if (e.1==c&&e.2.1==r)=true then some (.inl e.2.2) else none) (.inr ())
  (λi e he=>by
   have hi:=(zamJ.1 he).1;have hg:(l.map qe)[i]?=some (qe e):=by rw [zamS,he];rfl
   obtain ⟨a1,a2⟩:=KU rfl hg;refine qb (zD (by simpa using hi)) (qb a1 (qa a2 (qb rfl (qa rfl (qa rfl (qa rfl ?_))))));rw [Bool.and_true];cases hc:e.1==c&&e.2.1==r with
   |true=>exact qb rfl rfl
   |false=>
    refine qc rfl ?_;dsimp only;rw [ql (by omega)];rfl)
  (qc (zd (by simp)) rfl) m (by omega)
 refine qa h ?_;rw [Xw];unfold OZ;cases l.find? λe=>e.1==c&&e.2.1==r<;>rfl
theorem Zs (l:List Cl) (c r:Int) (hb:l.length<=140737488351232):Ev (Qn · (l.map qe) c r) (OZ l c r):=by
 refine ⟨l.length+3,λn hn=>?_⟩;obtain ⟨m,rfl,hm⟩:=up1 hn;have h:=S4 (B:=Mn m) (λi=>(l.map qe,(i:Int),c,r)) l (λ_ e=>if (e.1==c&&e.2.1==r)=true then some (.inl e.2.2) else none) (.inr ())
  (λi e he=>by
   have hi:=(zamJ.1 he).1;have hg:(l.map qe)[i]?=some (qe e):=by rw [zamS,he];rfl
   obtain ⟨a1,a2⟩:=KU rfl hg;refine qb (zD (by simpa using hi)) (qb a1 (qa a2 (qb rfl (qa rfl (qa rfl ?_)))));rw [Bool.and_true];cases hc:e.1==c&&e.2.1==r with
   |true=>exact qb rfl (qb a1 (qa a2 (qb rfl (qa rfl rfl))))
   |false=>
    refine qc rfl ?_;dsimp only;rw [ql (by omega)];rfl)
  (qc (zd (by simp)) rfl) m (by omega)
 refine qa h ?_;rw [Xw];unfold OZ;cases l.find? λe=>e.1==c&&e.2.1==r<;>rfl
abbrev Sm:=Int×Int×Int×BA×Int
def rh (s:BA):Bool:=(FU s).2&&((FU s).1.toList==s.toList)
theorem nb {a b:Int} (h:¬a=b):(a==b)=false:=zanF.2 h
theorem Xx {α β γ:Type} {Q:α->Prop} {x:γ} {K:Nat->β->Tr α} {L:Nat->γ->Tr α} (h:Dwx Q λn=>L n x):Dwx Q λn=> .alt (Sum.inr x) (K n) (L n):=h
theorem Zt {α β γ:Type} {Q:α->Prop} {x:β} {K:Nat->β->Tr α} {L:Nat->γ->Tr α} (h:Dwx Q λn=>K n x):Dwx Q λn=> .alt (Sum.inl x) (K n) (L n):=h
theorem Hp {α R:Type}:∀(l:List α) (i:Nat),I2 (λ(_:Nat) (_:α)=>(none:Option R)) i l=none
 | [],i=>rfl
 |a::l,i=>Hp l (i+1)
def plB (c:Nd):Bool:=if c.1=2 then D8 c.2.2.2.2.2.1 c.2.2.2.2.2.2.1 else if c.1=3 then Jg c.2.2.2.2.2.1 c.2.2.2.2.2.2.1 c.2.2.2.2.2.2.2.2.2.1 c.2.2.2.2.2.2.2.2.2.2.1 else true
structure PlaceCh (f:Nd->Nd):Prop where
 k:∀c,(f c).1=c.1
 n:∀c,GN c=true->c.1=2\/c.1=3->GN (f c)=plB (f c)
 kd:∀c,kd (f c)=kd c
def Js (c:Nd):Bool:=decide (c.1=2\/c.1=3)
def N7 (c:Nd):List PV:=if c.1=2 then [.i .i64 c.2.2.2.2.2.1,.i .i64 c.2.2.2.2.2.2.1,.i .i64 c.2.2.2.2.2.1,.i .i64 c.2.2.2.2.2.2.1] else [.i .i64 c.2.2.2.2.2.1,.i .i64 c.2.2.2.2.2.2.1,.i .i64 c.2.2.2.2.2.2.2.2.2.1,.i .i64 c.2.2.2.2.2.2.2.2.2.2.1]
theorem LI {α:Type} {P:α->Bool} {l:List α} {i:Nat} {a:α} (h:l[i]?=some a):(l.take (i+1)).filter P=(l.take i).filter P++(if P a=true then [a] else []):=by
 rw [List.take_add_one,h,List.filter_append];simp only [Option.toList_some,List.filter_cons,List.filter_nil]
theorem Wj {m:Nat} {acc:List (List PV)} {e:List PV} (hm:m=acc.length) (hb:m<=1000) (he:e.length=4):decide (m=acc.length/\0<4/\0<32/\(m+ [e].length)*32<=140737488355328/\ [e].all (λe=>e.length==4)=true)=true:=zD ⟨hm,by decide,by decide,by simp;omega,by simp [he]⟩
theorem Pw (l:List Nd) (hl:l.length<=1000):Ev (Ih · (l.map qo)) ((l.filter Js).map N7):=by
 obtain ⟨n1,h1⟩:=Eu (F:=λ(c:Nd) n=>FA n c.1 c.2.1 c.2.2.1 c.2.2.2.1 c.2.2.2.2.1 c.2.2.2.2.2.1 c.2.2.2.2.2.2.1 c.2.2.2.2.2.2.2.1 c.2.2.2.2.2.2.2.2.1 c.2.2.2.2.2.2.2.2.2.1 c.2.2.2.2.2.2.2.2.2.2.1 c.2.2.2.2.2.2.2.2.2.2.2.1 c.2.2.2.2.2.2.2.2.2.2.2.2.1 ((kd c).map Eo)) (f:=λc=>if c.1=2 then (c.2.2.2.2.2.1,c.2.2.2.2.2.2.1,c.2.2.2.2.2.1,c.2.2.2.2.2.2.1) else (c.2.2.2.2.2.1,c.2.2.2.2.2.2.1,c.2.2.2.2.2.2.2.2.2.1,c.2.2.2.2.2.2.2.2.2.2.1)) l λc _=>by
  refine Ho (FG (R:=λn=>IN n c.1 c.2.1 c.2.2.1 c.2.2.2.1 c.2.2.2.2.1 c.2.2.2.2.2.1 c.2.2.2.2.2.2.1 c.2.2.2.2.2.2.2.1 c.2.2.2.2.2.2.2.2.1 c.2.2.2.2.2.2.2.2.2.1 c.2.2.2.2.2.2.2.2.2.2.1 c.2.2.2.2.2.2.2.2.2.2.2.1 c.2.2.2.2.2.2.2.2.2.2.2.2.1 ((kd c).map Eo)) ?_ λn=>rfl);by_cases h2:c.1=2
  ·rw [if_pos h2];exact D4 (zanG.2 h2) (qw rfl)
  ·rw [if_neg h2];exact ER (zanF.2 h2) (qw rfl)
 refine ⟨n1+l.length+3,λn hn=>?_⟩;obtain ⟨m,rfl,hm⟩:=up1 hn;have h:=S4 (B:=KD m) (λi=>(((l.take i).filter Js).length,l.map qo,((l.map qo).length:Int),(i:Int),((l.take i).filter Js).map N7)) l (λ_ _=>none) ((l.filter Js).length,(l.filter Js).map N7)
  (λi c he=>by
   have hi:=(zamJ.1 he).1;have hg:(l.map qo)[i]?=some (qo c):=by rw [zamS,he];rfl
   obtain ⟨a1,a2⟩:=KU rfl hg;have h1:=h1 m (by omega) c (zi he);have hle:((l.take i).filter Js).length<=1000:=zS (List.length_filter_le _ _) (by simp;omega);have w:IntKind.i64.wrap ((i:Int)+1)=((i+1:Nat):Int):=by rw [ql (by omega)];omega
   have ea:((l.take i).filter Js).length=(((l.take i).filter Js).map N7).length:=by simp
   have fin:Js c=true->∀(e:List PV),e=N7 c->(some (Sum.inl (((l.take i).filter Js).length+1,l.map qo,((l.map qo).length:Int),IntKind.i64.wrap ((i:Int)+1),((l.take i).filter Js).map N7++ [e])):Option ((Nat×List (List PV)×Int×Int×List (List PV))⊕(Nat×List (List PV))))=some (.inl (((l.take (i+1)).filter Js).length,l.map qo,((l.map qo).length:Int),((i+1:Nat):Int),((l.take (i+1)).filter Js).map N7)):=λhp e he2=>by
    rw [w,LI he,if_pos hp,he2,zamO,List.map_append];rfl
   refine qb (zD (by simpa using hi)) (qb a1 (qa a2 (qb rfl ?_)))
   iterate 14 refine qa rfl ?_
   by_cases k2:c.1=2
   ·rw [if_pos k2] at h1;exact qb (zanG.2 k2) (qa h1 (qb rfl (qb (Wj ea hle rfl) (fin (zD (.inl k2)) _ (by unfold N7;rw [if_pos k2])))))
   ·rw [if_neg k2] at h1;refine qc (zanF.2 k2) ?_;by_cases k3:c.1=3
    ·exact qb (zanG.2 k3) (qa h1 (qb rfl (qb (Wj ea hle rfl) (fin (zD (.inr k3)) _ (by unfold N7;rw [if_neg k2])))))
    ·refine qc (zanF.2 k3) ?_;show some _=some _;rw [w,LI he,if_neg (by simp [Js,k2,k3]),List.append_nil])
  (qc (zd (by simp)) (by rw [List.take_length];rfl)) m (by omega)
 rw [Hp] at h;exact qa h (qb (zD (by simp)) rfl)
def fnL (s:BA):List Nd×Bool:=if s.toList.head?=some 61 then Ed (BR s.toList.tail) else ([],false)
theorem jq {s:BA} (h:(Ed s).2=false):(Ed s).1= []:=by
 unfold Ed at h⊢;split at h
 ·cases h
 ·rename_i hc;rw [if_neg hc]
theorem Xy (s:BA):(fnL s).1.length<=60/\∀x∈(fnL s).1,Wa x:=by
 unfold fnL;split
 ·exact OY _
 ·exact ⟨Nat.zero_le _,λx hx=>by cases hx⟩
theorem jr {s:BA} (h:(fnL s).2=true):Ii (fnL s).1=true:=by
 unfold fnL at h⊢;split at h
 ·rename_i hc;rw [if_pos hc];exact Xt h
 ·cases h
theorem js {s:BA} (h:(fnL s).2=false):(fnL s).1= []:=by
 unfold fnL at h⊢;split at h
 ·rename_i hc;rw [if_pos hc];exact jq h
 ·rename_i hc;rw [if_neg hc]
theorem NZ (s:BA) (hb:s.size<=140737488351232):Ev (Hl · s) ((fnL s).1.map qo,(fnL s).2):=by
 refine Ho (FG (R:=λn=>Kg n s) (qx (KH s 61) ?_) λn=>rfl);unfold fnL;by_cases h:s.toList.head?=some 61
 ·rw [if_pos h,if_pos h];have ht:(BR s.toList.tail).size<=140737488351232:=by
   have:=Dz s;rw [qv];simp;omega
  exact ER rfl (qx (L0 (BR s.toList.tail) ht) (qw rfl))
 ·rw [if_neg h,if_neg h];exact D4 rfl (D4 rfl (qw rfl))
theorem UB (s:BA) (hb:s.size<=140737488351232):Ev (Ki · s) ((fnL s).1.map qo,(fnL s).2):=by
 refine Ho (FG (R:=λn=>Kh n s) ?_ λn=>rfl);unfold fnL;by_cases h0:s.toList= []
 ·rw [if_neg (by rw [h0];simp)];exact D4 (Vf h0) (D4 rfl (qw rfl))
 ·obtain ⟨c,t,hct⟩:∃c t,s.toList=c::t:=by
   cases h:s.toList with
   |nil=>exact absurd h h0
   |cons c t=>exact ⟨c,t,rfl⟩
  have hl:s.size=t.length+1:=by rw [<-Dz,hct];rfl
  refine ER (KQ h0) (D4 rfl (G2 (r:=c) (by rw [hct];rfl) ?_));by_cases h61:c=61
  ·subst h61;have ext:s.extract ((1:Int)).toNat (((s.size:Nat):Int)).toNat=BR s.toList.tail:=by
    conv=>lhs;rw [<-KM s]
    rw [Ko,qv,hct];simp
   rw [if_pos (by rw [hct];rfl)];refine ER rfl (D4 (zD ⟨by decide,by omega,Int.le_refl _⟩) ?_);rw [ext];exact qx (L1 (BR s.toList.tail) (by rw [qv,hct];simp;omega)) (qw rfl)
  ·rw [if_neg (by rw [hct];simpa using h61)];exact D4 (bne_iff_ne.2 λe=>h61 (UInt8.toNat_inj.1 (show c.toNat=61 by omega))) (D4 rfl (qw rfl))
abbrev Ar:=Int×Int×Int×Int
def Gc (a:Ar):List PV:= [.i .i64 a.1,.i .i64 a.2.1,.i .i64 a.2.2.1,.i .i64 a.2.2.2]
def arT (c:Nd):Ar:=if c.1=2 then (c.2.2.2.2.2.1,c.2.2.2.2.2.2.1,c.2.2.2.2.2.1,c.2.2.2.2.2.2.1) else (c.2.2.2.2.2.1,c.2.2.2.2.2.2.1,c.2.2.2.2.2.2.2.2.2.1,c.2.2.2.2.2.2.2.2.2.2.1)
theorem ny (c:Nd):N7 c=Gc (arT c):=by
 unfold N7 arT;split<;>rfl
def arL (s:BA):List Ar:=((fnL s).1.filter Js).map arT
theorem Xz (s:BA):((fnL s).1.filter Js).map N7=(arL s).map Gc:=by
 unfold arL;rw [List.map_map];exact List.map_congr_left λc _=>ny c
theorem Zu (s:BA):(arL s).length<=60:=by
 unfold arL;rw [zamV];exact zS (List.length_filter_le _ _) (Xy s).1
def iaB (x y:Int) (a:Ar):Bool:=decide (a.1<=x/\x<=a.2.2.1)&&decide (a.2.1<=y/\y<=a.2.2.2)
theorem ri {s:BA} (h:(fnL s).2=false):arL s= []:=by
 unfold arL;rw [js h];rfl
theorem YV (l:List Nd) (hl:l.length<=1000) (hs:∀c∈l,Wa c) (hf:Ii l=true):Ev (Mo · (l.map qo)) ((l.filter Js).map N7):=by
 obtain ⟨n1,h1⟩:=KJ l (MC hs);refine ⟨n1+l.length+3,λn hn=>?_⟩;obtain ⟨m,rfl,hm⟩:=up1 hn;have h:=S4 (B:=KE m) (λi=>(l.map qo,((l.take i).filter Js).length,(i:Int),((l.take i).filter Js).map N7)) l (λ_ _=>none) ((l.filter Js).length,(l.filter Js).map N7)
  (λi c he=>by
   have hi:=(zamJ.1 he).1;have hg:(l.map qo)[i]?=some (qo c):=by rw [zamS,he];rfl
   obtain ⟨a1,a2⟩:=KU rfl hg;have hle:((l.take i).filter Js).length<=1000:=zS (List.length_filter_le _ _) (by simp;omega);have w:IntKind.i64.wrap ((i:Int)+1)=((i+1:Nat):Int):=by rw [ql (by omega)];omega
   have ea:((l.take i).filter Js).length=(((l.take i).filter Js).map N7).length:=by simp
   have fin:Js c=true->∀(e:List PV),e=N7 c->(some (Sum.inl (l.map qo,((l.take i).filter Js).length+1,IntKind.i64.wrap ((i:Int)+1),((l.take i).filter Js).map N7++ [e])):Option ((List (List PV)×Nat×Int×List (List PV))⊕(Nat×List (List PV))))=some (.inl (l.map qo,((l.take (i+1)).filter Js).length,((i+1:Nat):Int),((l.take (i+1)).filter Js).map N7)):=λhp e he2=>by
    rw [w,LI he,if_pos hp,he2,zamO,List.map_append];rfl
   refine qb (zD (by simpa using hi)) (qb a1 (qa a2 (qb rfl (qa rfl ?_))));by_cases k2:c.1=2
   ·exact qb (zanG.2 k2) (qb a1 (qa a2 (qb rfl (qa rfl (qa rfl (qb a1 (qa a2 (qb rfl (qa rfl (qa rfl (qb rfl (qb (Wj ea hle rfl) (fin (zD (.inl k2)) _ (by unfold N7;rw [if_pos k2]))))))))))))))
   ·refine qc (zanF.2 k2) ?_;by_cases k3:c.1=3
    ·exact qb (zanG.2 k3) (qb a1 (qa a2 (qb rfl (qa rfl (qa rfl (qb a1 (qa a2 (qb rfl (qa rfl (qa rfl (qb rfl (qb (Wj ea hle rfl) (fin (zD (.inr k3)) _ (by unfold N7;rw [if_neg k2]))))))))))))))
    ·refine qc (zanF.2 k3) ?_;show some _=some _;rw [w,LI he,if_neg (by simp [Js,k2,k3]),List.append_nil])
  (qc (zd (by simp)) (by rw [List.take_length];rfl)) m (by omega)
 rw [Hp] at h;have h1:=h1 m (by omega);rw [hf] at h1;exact qa h1 (qc rfl (qa h (qb (zD (by simp)) rfl)))
theorem Wc (s:BA) (hb:s.size<=140737488351232):Ev (Mq · s) ((arL s).map Gc):=by
 refine Ho (FG (R:=λn=>Mp n s) (qx (UB s hb) ?_) λn=>rfl);rw [<-Xz];dsimp only;cases h:(fnL s).2 with
 |false=>rw [js h];exact D4 rfl (D4 rfl (qw rfl))
 |true=>exact ER rfl (qx (YV _ (by have:=(Xy s).1;omega) (Xy s).2 (jr h)) (qw rfl))
theorem VP (x y:Int) (a:Ar):Ev (JP · x y a.1 a.2.1 a.2.2.1 a.2.2.2) (iaB x y a):=by
 refine Ho (FG (R:=λn=>Lb n x y a.1 a.2.1 a.2.2.1 a.2.2.2) (qx (F9 x a.1 a.2.2.1) ?_) λn=>rfl);unfold iaB;by_cases h:a.1<=x/\x<=a.2.2.1
 ·rw [zD h];exact D4 rfl (qx (F9 y a.2.1 a.2.2.2) (qw rfl))
 ·rw [zd h];exact ER rfl (qw rfl)
theorem fh (x y:Int) (a:Ar):Ev (Ky · a.1 a.2.1 a.2.2.1 a.2.2.2 x y) (iaB x y a):=by
 refine Ho (FG (R:=λn=>Nw n a.1 a.2.1 a.2.2.1 a.2.2.2 x y) (G2 rfl (G2 rfl (qx (Ho (x:=iaB x y a) (FG (F:=λn=>LX n a.1 a.2.1 a.2.2.1 a.2.2.2 x y) (Q:=λz=>z=iaB x y a) (R:=λn=>LW n a.1 a.2.1 a.2.2.1 a.2.2.2 x y) (qx (Dt x a.1 a.2.2.1) ?_) λn=>rfl)) (qw rfl)))) λn=>rfl);unfold iaB;by_cases h:a.1<=x/\x<=a.2.2.1
 ·rw [zD h];exact D4 rfl (qx (Dt y a.2.1 a.2.2.2) (qw rfl))
 ·rw [zd h];exact ER rfl (qw rfl)
theorem db {α R:Type} (p:α->Bool) (g:Int->R):∀(l:List α) (i:Nat),(l.any p=true/\∃k:Nat,I2 (λi a=>if p a=true then some (g (i:Int)) else none) i l=some (g (k:Int)))\/(l.any p=false/\I2 (λi a=>if p a=true then some (g (i:Int)) else none) i l=none)
 | [],i=> .inr ⟨rfl,rfl⟩
 |a::l,i=>by
  unfold I2;rw [List.any_cons];cases p a with
  |true=>exact .inl ⟨rfl,i,rfl⟩
  |false=>exact db p g l (i+1)
theorem UC (l:List Ar) (hl:l.length<=1000) (x y:Int):Ev (Jl · (l.map Gc) x y) (l.any (iaB x y)):=by
 have ix:∃k:Int,decide (k≥0)=l.any (iaB x y)/\Ev (Dr · (l.map Gc) x y) k:=by
  obtain ⟨n1,h1⟩:=Eu (F:=λ(a:Ar) n=>Ky n a.1 a.2.1 a.2.2.1 a.2.2.2 x y) (f:=λa=>iaB x y a) l λa _=>fh x y a
  have h:∀m,n1+l.length+3<=m->zE (q8 m) m (l.map Gc,x,y,((l.map Gc).length:Int),0)=some ((I2 (λi a=>if iaB x y a=true then some (Sum.inl (β:=Unit) (i:Int)) else none) 0 l).getD (.inr ())):=λm hm=>by
   have h:=S4 (B:=q8 m) (λi=>(l.map Gc,x,y,((l.map Gc).length:Int),(i:Int))) l (λi a=>if iaB x y a=true then some (Sum.inl (β:=Unit) (i:Int)) else none) (.inr ())
    (λi c he=>by
     have hi:=(zamJ.1 he).1;have hg:(l.map Gc)[i]?=some (Gc c):=by rw [zamS,he];rfl
     obtain ⟨a1,a2⟩:=KU rfl hg;have h1:=h1 m (by omega) c (zi he);have w:IntKind.i64.wrap ((i:Int)+1)=((i+1:Nat):Int):=by rw [ql (by omega)];omega
     refine qb (zD (by simpa using hi)) (qb a1 (qa a2 (qb rfl (qa rfl (qa rfl (qa rfl (qa rfl (qa h1 ?_))))))));cases iaB x y c with
     |true=>exact qb rfl rfl
     |false=>
      refine qc rfl ?_;dsimp only;rw [w];rfl)
    (qc (zd (by simp)) rfl) m (by omega)
   exact h
  rcases db (iaB x y) (λk=>(Sum.inl k:Int⊕Unit)) l 0 with ⟨e1,k,e2⟩|⟨e1,e2⟩
  ·refine ⟨(k:Int),by rw [e1];exact zD (by omega),Ho (FG (R:=λn=>DI n (l.map Gc) x y) (qx ⟨_,h⟩ ?_) λn=>rfl)⟩;rw [e2];exact Zt (qw rfl)
  ·refine ⟨-1,by rw [e1];rfl,Ho (FG (R:=λn=>DI n (l.map Gc) x y) (qx ⟨_,h⟩ ?_) λn=>rfl)⟩;rw [e2];exact Xx (qw rfl)
 obtain ⟨k,e,hk⟩:=ix;refine Ho (FG (R:=λn=>Qk n (l.map Gc) x y) (qx (Ho (FG (F:=λn=>Dh n (l.map Gc) x y) (Q:=λz=>z=l.any (iaB x y)) (R:=λn=>Df n (l.map Gc) x y) (qx hk (qw e)) λn=>rfl)) (qw rfl)) λn=>rfl)
def P9 (r:Int×Int):List PV:= [.i .i64 r.1,.i .i64 r.2]
def clR (c:Cl):Int×Int:=(c.1,c.2.1)
def HS (ar:List Ar) (l:List Cl):List (Int×Int):=(l.filter λc=>ar.any (iaB c.1 c.2.1)).map clR
theorem dc {m:Nat} {acc:List (List PV)} {e:List PV} (hm:m=acc.length) (hb:m<=1000) (he:e.length=2):decide (m=acc.length/\0<2/\0<16/\(m+ [e].length)*16<=140737488355328/\ [e].all (λe=>e.length==2)=true)=true:=zD ⟨hm,by decide,by decide,by simp;omega,by simp [he]⟩
theorem VQ (ar:List Ar) (l:List Cl):(HS ar l).length<=l.length:=by
 unfold HS;rw [zamV];exact List.length_filter_le _ _
theorem S5 {ar:List Ar} {l:List Cl} {i:Nat} {c:Cl} (h:l[i]?=some c):HS ar (l.take (i+1))=HS ar (l.take i)++(if ar.any (iaB c.1 c.2.1)=true then [clR c] else []):=by
 unfold HS;rw [LI h,List.map_append];split<;>rfl
theorem Y4 {l:List Cl} {c r:Int} (hs:∀c∈l,c.2.2.size<=140737488351232):(OZ l c r).size<=140737488351232:=by
 unfold OZ;cases h:l.find? λe=>e.1==c&&e.2.1==r with
 |none=>show (⟨#[]⟩:BA).size<=_;decide
 |some e=>exact hs e (List.mem_of_find?_eq_some h)
theorem YW (ar:List Ar) (ha:ar.length<=1000) (l:List Cl) (hl:l.length<=120):∃n0,∀m,n0<=m->zE (H3 m) m (ar.map Gc,0,l.map qe,((l.map qe).length:Int),0,[])=some ((HS ar l).length,(HS ar l).map P9):=by
 obtain ⟨n1,h1⟩:=Eu (F:=λ(c:Cl) n=>Jl n (ar.map Gc) c.1 c.2.1) (f:=λc=>ar.any (iaB c.1 c.2.1)) l λc _=>UC ar ha c.1 c.2.1
 refine ⟨n1+l.length+3,λm hm=>?_⟩;have h:=S4 (B:=H3 m) (λi=>(ar.map Gc,(HS ar (l.take i)).length,l.map qe,((l.map qe).length:Int),(i:Int),(HS ar (l.take i)).map P9)) l (λ_ _=>none) ((HS ar l).length,(HS ar l).map P9)
  (λi c he=>by
   have hi:=(zamJ.1 he).1;have hg:(l.map qe)[i]?=some (qe c):=by rw [zamS,he];rfl
   obtain ⟨a1,a2⟩:=KU rfl hg;have h1:=h1 m (by omega) c (zi he);have hle:(HS ar (l.take i)).length<=1000:=zS (VQ _ _) (by simp;omega);have ea:(HS ar (l.take i)).length=((HS ar (l.take i)).map P9).length:=by simp
   have w:IntKind.i64.wrap ((i:Int)+1)=((i+1:Nat):Int):=by rw [ql (by omega)];omega
   refine qb (zD (by simpa using hi)) (qb a1 (qa a2 (qb rfl (qa rfl (qa rfl (qa rfl (qa h1 ?_)))))));dsimp only;rw [S5 he,w];cases ar.any (iaB c.1 c.2.1) with
   |true=>
    refine qb rfl (qb rfl (qb (dc ea hle rfl) ?_));simp [Tr.run,P9,clR]
   |false=>
    refine qc rfl ?_;simp [Tr.run])
  (qc (zd (by simp)) (by rw [List.take_length];rfl)) m (by omega)
 rw [Hp] at h;exact h
def G7 (l:List Cl) (x y:Int):List (Int×Int):=HS (arL (OZ l x y)) l
theorem Px (l:List Cl) (x y:Int) (hb:l.length<=140737488351232) (hs:∀c∈l,c.2.2.size<=140737488351232):Ev (GH · (l.map qe) x y) (if Er l=true then ((G7 l x y).length,(G7 l x y).map P9) else (0,[])):=by
 refine Ho (FG (R:=λn=>Mt n (l.map qe) x y) (qx (Pv l hb hs) ?_) λn=>rfl);cases hB:Er l with
 |false=>exact D4 rfl (qw rfl)
 |true=>
  have h120:l.length<=120:=by
   unfold Er at hB;simp only [zL,aC] at hB;omega
  refine ER rfl (qx (VO l x y hb) (qx (NZ _ (Y4 hs)) ?_));dsimp only;unfold G7;cases h:(fnL (OZ l x y)).2 with
  |false=>
   rw [ri h];have e:HS [] l= []:=by unfold HS;simp
   rw [e];exact D4 rfl (qw rfl)
  |true=>
   have hA:=Pw (fnL (OZ l x y)).1 (by have:=(Xy (OZ l x y)).1;omega);rw [Xz] at hA;exact ER rfl (qx hA (qx (YW _ (by have:=Zu (OZ l x y);omega) l h120) (qw rfl)))
theorem ju {α:Type} {p:α->Bool} {l:List α} {i:Nat} {a:α} (h:l[i]?=some a):(l.take (i+1)).any p=((l.take i).any p||p a):=by
 rw [List.take_add_one,h,List.any_append];simp
theorem YX (ar:List Ar) (ha:ar.length<=1000) (l:List Cl) (hl:l.length<=120):∃n0,∀m,n0<=m->zE (IQ m) m (l.map qe,0,ar.map Gc,0,[])=some ((HS ar l).length,(HS ar l).map P9):=by
 obtain ⟨n1,h1⟩:=Eu (F:=λ(q:Cl×Ar) n=>JP n q.1.1 q.1.2.1 q.2.1 q.2.2.1 q.2.2.2.1 q.2.2.2.2) (f:=λq=>iaB q.1.1 q.1.2.1 q.2) (l.flatMap λc=>ar.map λa=>(c,a)) λq _=>VP q.1.1 q.1.2.1 q.2
 refine ⟨n1+l.length+ar.length+5,λm hm=>?_⟩;have inner:∀(i:Nat) (c:Cl) (k:Nat) (acc:List (List PV)),l[i]?=some c->zE (HW m) m (l.map qe,k,ar.map Gc,(i:Int),false,0,acc)=some (l.map qe,k,ar.map Gc,(i:Int),ar.any (iaB c.1 c.2.1),acc):=λi c k acc he=>by
  have hg:(l.map qe)[i]?=some (qe c):=by rw [zamS,he];rfl
  obtain ⟨a1,a2⟩:=KU rfl hg;have h:=S4 (B:=HW m) (λj=>(l.map qe,k,ar.map Gc,(i:Int),(ar.take j).any (iaB c.1 c.2.1),(j:Int),acc)) ar (λ_ _=>none) (l.map qe,k,ar.map Gc,(i:Int),ar.any (iaB c.1 c.2.1),acc)
   (λj a hj=>by
    have hji:=(zamJ.1 hj).1;have hga:(ar.map Gc)[j]?=some (Gc a):=by rw [zamS,hj];rfl
    obtain ⟨b1,b2⟩:=KU rfl hga;have w:IntKind.i64.wrap ((j:Int)+1)=((j+1:Nat):Int):=by rw [ql (by omega)];omega
    have h1:=h1 m (by omega) (c,a) (zamP.2 ⟨c,zi he,List.mem_map.2 ⟨a,zi hj,rfl⟩⟩);refine qb (zD (by simpa using hji)) ?_;dsimp only;rw [ju hj,w];cases (ar.take j).any (iaB c.1 c.2.1) with
    |true=>exact qb rfl rfl
    |false=>
     refine qc rfl (qb a1 (qa a2 (qb rfl (qa rfl (qa rfl (qb b1 (qa b2 (qb rfl (qa rfl (qa rfl (qa rfl (qa rfl (qa h1 ?_)))))))))))));rw [Bool.false_or];rfl)
   (qc (zd (by simp)) (by rw [List.take_length];rfl)) m (by omega)
  rw [Hp] at h;exact h
 have h:=S4 (B:=IQ m) (λi=>(l.map qe,(HS ar (l.take i)).length,ar.map Gc,(i:Int),(HS ar (l.take i)).map P9)) l (λ_ _=>none) ((HS ar l).length,(HS ar l).map P9)
  (λi c he=>by
   have hi:=(zamJ.1 he).1;have hg:(l.map qe)[i]?=some (qe c):=by rw [zamS,he];rfl
   obtain ⟨a1,a2⟩:=KU rfl hg;have hle:(HS ar (l.take i)).length<=1000:=zS (VQ _ _) (by simp;omega);have ea:(HS ar (l.take i)).length=((HS ar (l.take i)).map P9).length:=by simp
   have w:IntKind.i64.wrap ((i:Int)+1)=((i+1:Nat):Int):=by rw [ql (by omega)];omega
   refine qb (zD (by simpa using hi)) (qa (inner i c _ _ he) ?_);dsimp only;rw [S5 he,w];cases ar.any (iaB c.1 c.2.1) with
   |true=>
    refine qb rfl (qb a1 (qa a2 (qb rfl (qa rfl (qa rfl (qb rfl (qb (dc ea hle rfl) ?_)))))));simp [Tr.run,P9,clR]
   |false=>
    refine qc rfl ?_;simp [Tr.run])
  (qc (zd (by simp)) (by rw [List.take_length];rfl)) m (by omega)
 rw [Hp] at h;exact h
theorem Lm (l:List Cl) (x y:Int) (hl:l.length<=120) (hs:∀c∈l,c.2.2.size<=140737488351232):Ev (GG · (l.map qe) x y) ((G7 l x y).length,(G7 l x y).map P9):=
 Ho (FG (R:=λn=>Mr n (l.map qe) x y) (qx (Zs l x y (by omega)) (qx (Wc _ (Y4 hs)) (qx (YX _ (by have:=Zu (OZ l x y);omega) l hl) (qw rfl)))) λn=>rfl)
abbrev Vs:=Int×List Int×List Cl
abbrev Br:=BA×Int
theorem X0 {α:Type} {enc:α->List PV} {l:List α} {i:Nat} {a:α} (h:l[i]?=some a):(l.map enc)[i]?=some (enc a):=by rw [zamS,h];rfl
def de {α:Type} (p:α->Bool) (l:List α):Int:=(I2 (λi a=>if p a=true then some (i:Int) else none) 0 l).getD (-1)
theorem u9 {α:Type} (p:α->Bool):∀(l:List α) (i:Nat),I2 (λi a=>if p a=true then some (Sum.inl (β:=Unit) (i:Int)) else none) i l=(I2 (λi a=>if p a=true then some (i:Int) else none) i l).map Sum.inl
 | [],i=>rfl
 |a::l,i=>by
  unfold I2;cases p a with
  |true=>rfl
  |false=>exact u9 p l (i+1)
theorem nz {α:Type} (p:α->Bool) {l:List α} {K1:Nat->Int->Tr Int} {K2:Nat->Unit->Tr Int} {F:Nat->Option (Int⊕Unit)} (hF:Ev F ((I2 (λi a=>if p a=true then some (Sum.inl (β:=Unit) (i:Int)) else none) 0 l).getD (.inr ()))) (h1:∀n r,K1 n r= .done r) (h2:∀n r,K2 n r= .done (-1)):Dwx (λy=>y=de p l) λn=> .opt (F n) λr=> .alt r (K1 n) (K2 n):=by
 refine qx hF ?_;rw [u9];unfold de;cases I2 (λi a=>if p a=true then some (i:Int) else none) 0 l with
 |some k=>exact Zt (by simp only [h1];exact qw rfl)
 |none=>exact Xx (by simp only [h2];exact qw rfl)
theorem v4 {α:Type} (p:α->Bool):∀(l:List α) (i:Nat),(I2 (λi a=>if p a=true then some (i:Int) else none) i l=none/\l.find? p=none)\/∃(k:Nat) (a:α),I2 (λi a=>if p a=true then some (i:Int) else none) i l=some ((i+k:Nat):Int)/\l.find? p=some a/\l[k]?=some a
 | [],i=> .inl ⟨rfl,rfl⟩
 |a::l,i=>by
  unfold I2;rw [List.find?_cons];cases p a with
  |true=>exact .inr ⟨0,a,rfl,rfl,rfl⟩
  |false=>
   rcases v4 p l (i+1) with h|⟨k,b,h1,h2,h3⟩
   ·exact .inl h
   ·exact .inr ⟨k+1,b,by rw [show i+(k+1)=i+1+k by omega];exact h1,h2,by simpa using h3⟩
inductive Rch (sc:Nat->List Nat) (a:Nat):Nat->Prop
 |one {j:Nat}:j∈sc a->Rch sc a j
 |more {i j:Nat}:Rch sc a i->j∈sc i->Rch sc a j
def ET (Q:List Nat):List Nat->List Nat
 | []=>Q
 |x::M=>ET (if Q.contains x=true then Q else Q++ [x]) M
theorem F2 {x:Nat}:∀(M Q:List Nat),x∈ET Q M↔x∈Q\/x∈M
 | [],Q=>by simp [ET]
 |y::M,Q=>by
  unfold ET;rw [F2 M];by_cases h:Q.contains y=true
  ·rw [if_pos h];have hy:y∈Q:=by simpa using h
   rw [zamT]
   constructor
   ·rintro (h|h)
    ·exact .inl h
    ·exact .inr (.inr h)
   ·rintro (h|rfl|h)
    ·exact .inl h
    ·exact .inl hy
    ·exact .inr h
  ·rw [if_neg h,List.mem_append,zamQ,zamT,or_assoc]
theorem KV:∀(M Q:List Nat),Q.Nodup->(ET Q M).Nodup
 | [],Q,h=>h
 |y::M,Q,h=>by
  unfold ET;refine KV M _ ?_;by_cases hy:Q.contains y=true
  ·rw [if_pos hy];exact h
  ·rw [if_neg hy];have hy':y∉Q:=by simpa using hy
   rw [List.nodup_append];refine ⟨h,by simp,λa ha b hb=>?_⟩;rw [zamQ] at hb;subst hb;rintro rfl;exact hy' ha
theorem PM:∀(M Q:List Nat) (k:Nat),k<Q.length->(ET Q M)[k]?=Q[k]?
 | [],Q,k,h=>rfl
 |y::M,Q,k,h=>by
  unfold ET;by_cases hy:Q.contains y=true
  ·rw [if_pos hy];exact PM M Q k h
  ·rw [if_neg hy,PM M _ k (by simp;omega),zanA h]
theorem S6:∀(M Q:List Nat),Q.length<=(ET Q M).length
 | [],Q=>zK _
 |y::M,Q=>by
  unfold ET;refine zS ?_ (S6 M _);split
  ·exact zK _
  ·simp
theorem VR:∀(n:Nat) (l:List Nat),l.Nodup->(∀x∈l,x<n)->l.length<=n
 |0,l,_,h=>by
  cases l with
  |nil=>simp
  |cons a l=>exact absurd (h a (zamN ..)) (Nat.not_lt_zero a)
 |n+1,l,hd,h=>by
  by_cases hn:n∈l
  ·have h1:=VR n (l.erase n) (hd.erase n) λx hx=>by
    have h2:=(hd.mem_erase_iff).1 hx;have:=h x h2.2;omega
   rw [List.length_erase_of_mem hn] at h1;omega
  ·have:=VR n l hd λx hx=>by
    have h2:=h x hx;have h3:x≠n:=λe=>hn (e▸hx)
    omega
   omega
structure QI (sc:Nat->List Nat) (a n:Nat) (Q:List Nat) (k:Nat):Prop where
 nd:Q.Nodup
 lt:∀x∈Q,x<n
 rc:∀x∈Q,Rch sc a x
 st:∀j∈sc a,j∈Q
 dn:∀i q,i<k->Q[i]?=some q->q≠a/\∀j∈sc q,j∈Q
theorem QI.len {sc:Nat->List Nat} {a n:Nat} {Q:List Nat} {k:Nat} (h:QI sc a n Q k):Q.length<=n:=VR n Q h.nd h.lt
theorem QI.all {sc:Nat->List Nat} {a n:Nat} {Q:List Nat} (h:QI sc a n Q Q.length):¬Rch sc a a:=by
 have key:∀x,Rch sc a x->x∈Q:=λx hx=>by
  induction hx with
  |one h1=>exact h.st _ h1
  |more h1 h2 ih=>
   obtain ⟨i,hi,e⟩:=List.mem_iff_getElem.1 ih;exact (h.dn i _ hi (by rw [zW hi,e])).2 _ h2
 intro hr;obtain ⟨i,hi,e⟩:=List.mem_iff_getElem.1 (key a hr);exact (h.dn i _ hi (by rw [zW hi,e])).1 rfl
theorem QI.next {sc:Nat->List Nat} {a n:Nat} {Q:List Nat} {k q:Nat} (h:QI sc a n Q k) (hq:Q[k]?=some q) (hne:q≠a) (hs:∀j∈sc q,j<n):QI sc a n (ET Q (sc q)) (k+1):=by
 have hk:=(zamJ.1 hq).1;have hm:=zi hq;refine ⟨KV _ _ h.nd,λx hx=>?_,λx hx=>?_,λj hj=>(F2 _ _).2 (.inl (h.st j hj)),λi r hi hr=>?_⟩
 ·rcases (F2 _ _).1 hx with hx|hx
  ·exact h.lt x hx
  ·exact hs x hx
 ·rcases (F2 _ _).1 hx with hx|hx
  ·exact h.rc x hx
  ·exact .more (h.rc q hm) hx
 ·rw [PM _ _ i (by omega)] at hr;by_cases e:i=k
  ·subst e;rw [hq] at hr;cases hr;exact ⟨hne,λj hj=>(F2 _ _).2 (.inr hj)⟩
  ·obtain ⟨h1,h2⟩:=h.dn i r (by omega) hr;exact ⟨h1,λj hj=>(F2 _ _).2 (.inl (h2 j hj))⟩
theorem QI.start {sc:Nat->List Nat} {a n:Nat} (hd:(sc a).Nodup) (hs:∀j∈sc a,j<n):QI sc a n (sc a) 0:=⟨hd,hs,λx hx=> .one hx,λj hj=>hj,λi q hi=>absurd hi (Nat.not_lt_zero i)⟩
structure MI (sc:Nat->List Nat) (a n:Nat) (met:List Bool) (Q:List Nat) (k:Nat):Prop where
 ln:met.length=n
 kl:k<=Q.length
 lt:∀x∈Q,x<n
 rc:∀x∈Q,Rch sc a x
 st:∀j∈sc a,j∈Q
 mt:∀i,met[i]?=some true->∀j∈sc i,j∈Q
 dn:∀i q,i<k->Q[i]?=some q->q≠a/\met[q]?=some true
theorem MI.all {sc:Nat->List Nat} {a n:Nat} {met:List Bool} {Q:List Nat} (h:MI sc a n met Q Q.length):¬Rch sc a a:=by
 have key:∀x,Rch sc a x->x∈Q:=λx hx=>by
  induction hx with
  |one h1=>exact h.st _ h1
  |more h1 h2 ih=>
   obtain ⟨i,hi,e⟩:=List.mem_iff_getElem.1 ih;exact h.mt _ (h.dn i _ hi (by rw [zW hi,e])).2 _ h2
 intro hr;obtain ⟨i,hi,e⟩:=List.mem_iff_getElem.1 (key a hr);exact (h.dn i _ hi (by rw [zW hi,e])).1 rfl
theorem MI.old {sc:Nat->List Nat} {a n:Nat} {met:List Bool} {Q:List Nat} {k q:Nat} (h:MI sc a n met Q k) (hq:Q[k]?=some q) (hne:q≠a) (hm:met[q]?=some true):MI sc a n met Q (k+1):=by
 have hk:=(zamJ.1 hq).1;refine ⟨h.ln,hk,h.lt,h.rc,h.st,h.mt,λi r hi hr=>?_⟩;by_cases e:i=k
 ·subst e;rw [hq] at hr;cases hr;exact ⟨hne,hm⟩
 ·exact h.dn i r (by omega) hr
theorem MI.new {sc:Nat->List Nat} {a n:Nat} {met:List Bool} {Q:List Nat} {k q:Nat} (h:MI sc a n met Q k) (hq:Q[k]?=some q) (hne:q≠a) (hs:∀j∈sc q,j<n):MI sc a n (met.set q true) (Q++sc q) (k+1):=by
 have hk:=(zamJ.1 hq).1;have hm:=zi hq;have hl:q<met.length:=by rw [h.ln];exact h.lt q hm
 refine ⟨by rw [List.length_set];exact h.ln,by simp;omega,λx hx=>?_,λx hx=>?_,λj hj=>zamU _ (h.st j hj),λi hi j hj=>?_,λi r hi hr=>?_⟩
 ·rcases List.mem_append.1 hx with hx|hx
  ·exact h.lt x hx
  ·exact hs x hx
 ·rcases List.mem_append.1 hx with hx|hx
  ·exact h.rc x hx
  ·exact .more (h.rc q hm) hx
 ·by_cases e:i=q
  ·subst e;exact zamZ _ hj
  ·rw [List.getElem?_set_ne (by omega)] at hi;exact zamU _ (h.mt i hi j hj)
 ·have hset:∀r,met[r]?=some true->(met.set q true)[r]?=some true:=λr hr=>by
   by_cases e:q=r
   ·subst e;exact List.getElem?_set_self hl
   ·rw [List.getElem?_set_ne e];exact hr
  rw [zanA (by omega)] at hr;by_cases e:i=k
  ·subst e;rw [hq] at hr;cases hr;exact ⟨hne,List.getElem?_set_self hl⟩
  ·obtain ⟨h1,h2⟩:=h.dn i r (by omega) hr;exact ⟨h1,hset r h2⟩
def unm (sc:Nat->List Nat):Nat->List Bool->Nat
 |_,[]=>0
 |i,b::r=>(if b=true then 0 else (sc i).length)+unm sc (i+1) r
theorem df {sc:Nat->List Nat}:∀(met:List Bool) (i q:Nat),met[q]?=some false->unm sc i (met.set q true)+(sc (i+q)).length=unm sc i met
 | [],i,q,h=>by simp at h
 |b::r,i,0,h=>by
  simp only [List.getElem?_cons_zero,zR] at h;subst h;simp [unm];omega
 |b::r,i,q+1,h=>by
  have:=df (sc:=sc) r (i+1) q (by simpa using h);simp only [List.set_cons_succ,unm];rw [show i+1+q=i+(q+1) by omega] at this;omega
theorem MI.start {sc:Nat->List Nat} {a n:Nat} (hs:∀j∈sc a,j<n):MI sc a n (List.replicate n false) (sc a) 0:=⟨by simp,Nat.zero_le _,hs,λx hx=> .one hx,λj hj=>hj,λi hi=>by
 obtain ⟨h1,h2⟩:=zamJ.1 hi;simp at h2,λi q hi=>absurd hi (Nat.not_lt_zero i)⟩
def L9 (k:Nat):List PV:=Eo (k:Int)
def ob (ar:List Ar) (l:List Cl) (k:Nat):Bool:=match l[k]? with
 |some c=>ar.any (iaB c.1 c.2.1)
 |none=>false
def IU (ar:List Ar) (l:List Cl) (i:Nat):List Nat:=(List.range i).filter (ob ar l)
theorem X1 {ar:List Ar} {l:List Cl} {i:Nat} {c:Cl} (h:l[i]?=some c):IU ar l (i+1)=IU ar l i++(if ar.any (iaB c.1 c.2.1)=true then [i] else []):=by
 unfold IU;rw [List.range_succ,List.filter_append];have e:ob ar l i=ar.any (iaB c.1 c.2.1):=by unfold ob;simp only [h]
 congr 1
 rw [List.filter_cons,e];rfl
theorem Oa (ar:List Ar) (l:List Cl) (i:Nat):(IU ar l i).length<=i:=by
 unfold IU;have:=List.length_filter_le (ob ar l) (List.range i)
 rwa [List.length_range] at this
theorem LJ {ar:List Ar} {l:List Cl} {i j:Nat} (h:j∈IU ar l i):j<i:=by
 unfold IU at h;exact List.mem_range.1 (List.mem_filter.1 h).1
theorem v6 (ar:List Ar) (l:List Cl) (i:Nat):(IU ar l i).Nodup:=List.Pairwise.filter _ List.nodup_range
def DU (l:List Cl) (k:Nat):Int×Int:=((l[k]?).map clR).getD (0,0)
def v7 (l:List Cl) (k:Nat):BA:=((l[k]?).map λc=>c.2.2).getD ⟨#[]⟩
def scL (l:List Cl) (k:Nat):List Nat:=IU (arL (v7 l k)) l l.length
theorem dh (ar:List Ar) (l:List Cl):∀i,i<=l.length->HS ar (l.take i)=(IU ar l i).map (DU l)
 |0,_=>rfl
 |i+1,h=>by
  have hg:=zW (l:=l) (i:=i) (by omega);rw [S5 hg,X1 hg,List.map_append,dh ar l i (by omega)]
  congr 1
  split
  ·show [clR l[i]]= [DU l i];unfold DU;rw [hg];rfl
  ·rfl
theorem Zv {m:Nat} {acc:List (List PV)} {e:List PV} {z:Nat} (hz:0<z/\z<=24) (hm:m=acc.length) (hb:m<=1000) (he:e.length=1):decide (m=acc.length/\0<1/\0<z/\(m+ [e].length)*z<=140737488355328/\ [e].all (λe=>e.length==1)=true)=true:=
 zD ⟨hm,by decide,hz.1,by
  have:(m+ [e].length)*z<=1001*24:=Nat.mul_le_mul (by simp;omega) hz.2;omega,by simp [he]⟩
theorem jv (ar:List Ar) (ha:ar.length<=1000) (l:List Cl) (hl:l.length<=120):∃n0,∀m,n0<=m->∀(f F L:List (List PV)) (i:Int) (a b:Nat),zE (FR m) m (l.map qe,f,ar.map Gc,0,l.map qe,(l.length:Int),i,l.map qe,(l.length:Int),0,l.map qe,a,b,[],F,L)=
  some (l.map qe,f,(IU ar l l.length).length,l.map qe,(l.length:Int),i,l.map qe,a,b,(IU ar l l.length).map L9,F,L):=by
 obtain ⟨n1,h1⟩:=Eu (F:=λ(c:Cl) n=>Jl n (ar.map Gc) c.1 c.2.1) (f:=λc=>ar.any (iaB c.1 c.2.1)) l λc _=>UC ar ha c.1 c.2.1
 refine ⟨n1+l.length+3,λm hm f F L i0 a b=>?_⟩;have h:=S4 (B:=FR m) (λk=>(l.map qe,f,ar.map Gc,(IU ar l k).length,l.map qe,(l.length:Int),i0,l.map qe,(l.length:Int),(k:Int),l.map qe,a,b,(IU ar l k).map L9,F,L)) l (λ_ _=>none)
  (l.map qe,f,(IU ar l l.length).length,l.map qe,(l.length:Int),i0,l.map qe,a,b,(IU ar l l.length).map L9,F,L)
  (λi c he=>by
   have hi:=(zamJ.1 he).1;have hg:(l.map qe)[i]?=some (qe c):=by rw [zamS,he];rfl
   obtain ⟨a1,a2⟩:=KU rfl hg;have h1:=h1 m (by omega) c (zi he);have hle:(IU ar l i).length<=1000:=zS (Oa _ _ _) (by omega);have ea:(IU ar l i).length=((IU ar l i).map L9).length:=by simp
   have w:IntKind.i64.wrap ((i:Int)+1)=((i+1:Nat):Int):=by rw [ql (by omega)];omega
   refine qb (zD (by dsimp only;omega)) (qb a1 (qa a2 (qb rfl (qa rfl (qa rfl (qa rfl (qa h1 ?_)))))));dsimp only;rw [X1 he,w];cases ar.any (iaB c.1 c.2.1) with
   |true=>
    refine qb rfl (qb rfl (qb (Zv (by decide) ea hle rfl) ?_));simp [Tr.run,L9,Eo]
   |false=>
    refine qc rfl ?_;simp [Tr.run])
  (qc (zd (by simp)) rfl) m (by omega)
 rw [Hp] at h;exact h
def v8 (c:Cl):List PV:= [.ls ((fnL c.2.2).1.map qo)]
def Q9 (l:List Cl) (k:Nat):List PV:= [.ls ((scL l k).map L9)]
theorem v9 (l:List Cl) (hl:l.length<=120) (hs:∀c∈l,c.2.2.size<=140737488351232):Ev (LY · (l.map qe)) (l.map qe,l.map v8,(List.range l.length).map (Q9 l)):=by
 obtain ⟨n1,h1⟩:=Eu (F:=λ(c:Cl) n=>Hl n c.2.2) (f:=λc=>((fnL c.2.2).1.map qo,(fnL c.2.2).2)) l λc hc=>NZ c.2.2 (hs c hc)
 obtain ⟨n2,h2⟩:=Eu (F:=λ(c:Cl) n=>Ih n ((fnL c.2.2).1.map qo)) (f:=λc=>(arL c.2.2).map Gc) l λc hc=>by
  have:=Pw (fnL c.2.2).1 (by have:=(Xy c.2.2).1;omega)
  rwa [Xz] at this
 have hG:∃n0,∀m,n0<=m->∀c∈l,∀(f F L:List (List PV)) (i:Int) (a b:Nat),zE (FR m) m (l.map qe,f,(arL c.2.2).map Gc,0,l.map qe,(l.length:Int),i,l.map qe,(l.length:Int),0,l.map qe,a,b,[],F,L)=
   some (l.map qe,f,(IU (arL c.2.2) l l.length).length,l.map qe,(l.length:Int),i,l.map qe,a,b,(IU (arL c.2.2) l l.length).map L9,F,L):=by
  have key:∀r:List Cl,∃n0,∀m,n0<=m->∀c∈r,∀(f F L:List (List PV)) (i:Int) (a b:Nat),zE (FR m) m (l.map qe,f,(arL c.2.2).map Gc,0,l.map qe,(l.length:Int),i,l.map qe,(l.length:Int),0,l.map qe,a,b,[],F,L)=
    some (l.map qe,f,(IU (arL c.2.2) l l.length).length,l.map qe,(l.length:Int),i,l.map qe,a,b,(IU (arL c.2.2) l l.length).map L9,F,L):=λr=>by
   induction r with
   |nil=>exact ⟨0,λm _ c hc=>by cases hc⟩
   |cons c r ih=>
    obtain ⟨n3,h3⟩:=ih;obtain ⟨n4,h4⟩:=jv (arL c.2.2) (by have:=Zu c.2.2;omega) l hl;refine ⟨n3+n4,λm hm d hd=>?_⟩;rcases zamT.1 hd with rfl|hd
    ·exact h4 m (by omega)
    ·exact h3 m (by omega) d hd
  exact key l
 obtain ⟨n3,h3⟩:=hG;refine ⟨n1+n2+n3+l.length+4,λn hn=>?_⟩;obtain ⟨m,rfl,hm⟩:=up1 hn;have eL:((l.map qe).length:Int)=(l.length:Int):=by rw [zamV]
 have h:=S4 (B:=Jc m) (λi=>(l.map qe,l.map qe,(l.length:Int),(i:Int),l.map qe,i,i,(l.take i).map v8,(List.range i).map (Q9 l))) l (λ_ _=>none) (l.map qe,l.length,l.length,l.map v8,(List.range l.length).map (Q9 l))
  (λi c he=>by
   have hi:=(zamJ.1 he).1;have hg:(l.map qe)[i]?=some (qe c):=by rw [zamS,he];rfl
   obtain ⟨a1,a2⟩:=KU rfl hg;have hmem:=zi he;have h1:=h1 m (by omega) c hmem;have h2:=h2 m (by omega) c hmem;have h3:=h3 m (by omega) c hmem ((fnL c.2.2).1.map qo) ((l.take i).map v8) ((List.range i).map (Q9 l)) (i:Int) i i;have w:IntKind.i64.wrap ((i:Int)+1)=((i+1:Nat):Int):=by rw [ql (by omega)];omega
   have e1:(l.take (i+1)).map v8=(l.take i).map v8++ [v8 c]:=by rw [List.take_add_one,he,List.map_append];rfl
   have e2:(List.range (i+1)).map (Q9 l)=(List.range i).map (Q9 l)++ [Q9 l i]:=by rw [List.range_succ,List.map_append];rfl
   have e3:IU (arL c.2.2) l l.length=scL l i:=by unfold scL v7;rw [he];rfl
   rw [e3] at h3;refine qb (zD (by dsimp only;omega)) (qb a1 (qa a2 (qb rfl (qa rfl (qa rfl (qa rfl (qa h1 (qa h2 ?_))))))));dsimp only;rw [eL];refine qa h3 ?_;dsimp only;refine qb rfl (qb (Zv (by decide) (by simp;omega) (by omega) rfl) (qb (zD (by simp)) (qb rfl (qb (Zv (by decide) (by simp) (by omega) rfl) ?_))));rw [qf,w,e1,e2];rfl)
  (qc (zd (by simp)) (by rw [List.take_length];rfl)) m (by omega)
 rw [Hp] at h;rw [<-eL] at h;exact qa h (qb (zD (by simp)) (qb (zD (by simp)) rfl))
theorem VS {a b c d:Int}:Jm a b c d=true↔b<d\/(b=d/\a<c):=by
 unfold Jm;simp [Bool.or_eq_true,zL]
theorem di {l:List Cl}:∀(r:List Cl) (i:Nat),N6 l i r=true->l.drop i=r->∀j,i<=j->∀c,l[j]?=some c->N5 l j c=true
 | [],i,h,hd,j,hj,c,hc=>by
  have h1:=(zamJ.1 hc).1;have h2:=congrArg List.length hd;simp at h2;omega
 |a::r,i,h,hd,j,hj,c,hc=>by
  unfold N6 at h;simp only [zL] at h;have hg:l[i]?=some a:=by rw [<-List.head?_drop,hd];rfl
  have hd':l.drop (i+1)=r:=by rw [<-List.tail_drop,hd];rfl
  by_cases e:j=i
  ·subst e;rw [hg] at hc;cases hc;exact h.1.2.2
  ·exact di r (i+1) h.2 hd' j (by omega) c hc
theorem w6 {l:List Cl} (h:Er l=true):∀(d i:Nat) (p c:Cl),l[i]?=some p->l[i+d+1]?=some c->Jm p.1 p.2.1 c.1 c.2.1=true:=by
 unfold Er at h;rw [zL] at h;have hp:=di l 0 h.1 rfl;intro d
 induction d with
 |zero=>
  intro i p c h1 h2;have h3:=hp (i+1) (Nat.zero_le _) c h2;unfold N5 at h3;simp only [h1] at h3;exact h3
 |succ d ih=>
  intro i p c h1 h2;have hl:=(zamJ.1 h2).1;have hg:=zW (l:=l) (i:=i+d+1) (by omega);have h3:=ih i p _ h1 hg;have h4:=hp (i+d+1+1) (Nat.zero_le _) c (by rw [show i+d+1+1=i+(d+1)+1 by omega];exact h2);unfold N5 at h4;simp only [hg] at h4;rw [VS] at h3 h4⊢;omega
theorem dj {l:List Cl} (h:Er l=true) {i j:Nat} {p c:Cl} (hi:l[i]?=some p) (hj:l[j]?=some c) (he:clR p=clR c):i=j:=by
 have e1:(clR p).1=(clR c).1:=congrArg Prod.fst he;have e2:(clR p).2=(clR c).2:=congrArg Prod.snd he;have e1:p.1=c.1:=e1;have e2:p.2.1=c.2.1:=e2;rcases Nat.lt_trichotomy i j with hlt|rfl|hlt
 ·have:=w6 h (j-i-1) i p c hi (by rw [show i+(j-i-1)+1=j by omega];exact hj);rw [VS] at this;omega
 ·rfl
 ·have:=w6 h (i-j-1) j c p hj (by rw [show j+(i-j-1)+1=i by omega];exact hi);rw [VS] at this;omega
theorem Jj {l:List Cl} {k:Nat} {c:Cl} (h:l[k]?=some c):DU l k=clR c:=by unfold DU;rw [h];rfl
theorem Ob {l:List Cl} (h:Er l=true) {i j:Nat} (hi:i<l.length) (hj:j<l.length) (he:DU l i=DU l j):i=j:=by
 have h1:=zW hi;have h2:=zW hj;rw [Jj h1,Jj h2] at he;exact dj h h1 h2 he
theorem oc {l:List Cl} (h:Er l=true) {k:Nat} {c:Cl} (hk:l[k]?=some c):OZ l c.1 c.2.1=c.2.2:=by
 unfold OZ;cases hf:l.find? λe=>e.1==c.1&&e.2.1==c.2.1 with
 |none=>
  have:=List.find?_eq_none.1 hf c (zi hk);simp at this
 |some e=>
  have h1:=List.find?_some hf;simp only [zL,zanG] at h1;obtain ⟨i,hi,e1⟩:=List.mem_iff_getElem.1 (List.mem_of_find?_eq_some hf);have hg:l[i]?=some e:=by rw [zW hi,e1]
  have:=dj h hg hk (Prod.ext h1.1 h1.2);subst this;rw [hg] at hk;cases hk;rfl
theorem X2 {l:List Cl} (h:Er l=true) {k:Nat} (hk:k<l.length):G7 l (DU l k).1 (DU l k).2=(scL l k).map (DU l):=by
 have hg:=zW hk;have e:=dh (arL (v7 l k)) l l.length (zK _);rw [List.take_length] at e;unfold G7;rw [Jj hg,show OZ l (clR l[k]).1 (clR l[k]).2=v7 l k from (oc h hg).trans (by unfold v7;rw [hg];rfl)];exact e
def w7 (b:Bool):List PV:= [.b b]
theorem jy {Q:List Nat} {k q:Nat} (h:Q[k]?=some q):(Q.map L9)[k]?=some (L9 q):=by rw [zamS,h];rfl
theorem Y5 (n:Nat) (l:List Cl) (hl:l.length<=120) (a:Nat) (G:List (List PV)):∀(d k:Nat) (met:List Bool) (Q:List Nat) (M:Nat),MI (scL l) a l.length met Q k->Q.length+unm (scL l) 0 met<=20000->Q.length+unm (scL l) 0 met=k+d->d+1<=M->
  ∃b:Bool,(b=true↔Rch (scL l) a a)/\zE (H2 n) M ((a:Int),l.length,Q.length,(k:Int),l.map qe,G,(List.range l.length).map (Q9 l),met.map w7,Q.map L9)=some (if b=true then .inl true else .inr ()):=by
 intro d
 induction d with
 |zero=>
  intro k met Q M hI hB hD hM;obtain ⟨M,rfl⟩:∃q,M=q+1:=⟨M-1,by omega⟩;have hk:k=Q.length:=by have:=hI.kl;omega
  subst hk;exact ⟨false,⟨λh=>(by cases h),λh=>absurd h hI.all⟩,qd (qc (zd (by simp)) rfl)⟩
 |succ d ih=>
  intro k met Q M hI hB hD hM;obtain ⟨M,rfl⟩:∃q,M=q+1:=⟨M-1,by omega⟩;by_cases hk:k=Q.length
  ·subst hk;exact ⟨false,⟨λh=>(by cases h),λh=>absurd h hI.all⟩,qd (qc (zd (by simp)) rfl)⟩
  have hkl:k<Q.length:=by have:=hI.kl;omega
  have hg:=zW hkl;generalize Q[k]=q at hg;have hq:=hI.lt q (zi hg);have hr:=hI.rc q (zi hg);have w:IntKind.i64.wrap ((k:Int)+1)=((k+1:Nat):Int):=by rw [ql (by omega)];omega
  have c1:decide ((k:Int)<((Q.length:Nat):Int))=true:=zD (by omega);have c2:decide (Q.length=(Q.map L9).length/\0<=(k:Int)/\(k:Int)<((Q.length:Nat):Int))=true:=zD ⟨by simp,by omega,by omega⟩;have c3:(Q.map L9)[((k:Int)).toNat]?=some (L9 q):=by rw [bO];exact jy hg
  by_cases hqa:q=a
  ·subst hqa;exact ⟨true,⟨λ_=>hr,λ_=>rfl⟩,qd (qb c1 (qb c2 (qa c3 (qa rfl (qb (beq_self_eq_true _) rfl)))))⟩
  have hml:q<met.length:=by rw [hI.ln];exact hq
  have hmg:=zW hml;generalize met[q]=b at hmg;have c4:((q:Int)==(a:Int))=false:=zanF.2 (by omega);have c5:decide (l.length=(met.map w7).length/\0<=(q:Int)/\(q:Int)<((l.length:Nat):Int))=true:=zD ⟨by rw [zamV,hI.ln],by omega,by omega⟩;have c6:(met.map w7)[((q:Int)).toNat]?=some (w7 b):=by rw [bO,zamS,hmg];rfl
  cases b with
  |true=>
   obtain ⟨b,h1,h2⟩:=ih (k+1) met Q M (hI.old hg hqa hmg) hB (by omega) (by omega);refine ⟨b,h1,?_⟩;rw [qm (v':=((a:Int),l.length,Q.length,((k+1:Nat):Int),l.map qe,G,(List.range l.length).map (Q9 l),met.map w7,Q.map L9)) (by
    refine qb c1 (qb c2 (qa c3 (qa rfl (qc c4 (qb c5 (qa c6 (qa rfl (qc rfl ?_))))))));rw [qf,<-w])]
   exact h2
  |false=>
   have hu:=df (sc:=scL l) met 0 q hmg;rw [Nat.zero_add] at hu;have hsl:(scL l q).length<=120:=zS (Oa _ _ _) hl;have hrow:((List.range l.length).map (Q9 l))[((q:Int)).toNat]?=some (Q9 l q):=by
    rw [bO,zamS,List.getElem?_range hq];rfl
   have c7:decide (0<=(q:Int)/\(q:Int)<(((List.range l.length).map (Q9 l)).length:Int))=true:=zD ⟨by omega,by simp;omega⟩;have c8:decide (Q.length=(Q.map L9).length/\0<1/\0<8/\(Q.length+((scL l q).map L9).length)*8<=140737488355328/\((scL l q).map L9).all (λe=>e.length==1)=true)=true:=zD ⟨by simp,by decide,by decide,by rw [zamV];omega,by simp [L9,Eo]⟩;have s1:(Q++scL l q).length=Q.length+(scL l q).length:=zamO;obtain ⟨b,h1,h2⟩:=ih (k+1) (met.set q true) (Q++scL l q) M (hI.new hg hqa λj hj=>LJ hj) (by omega) (by omega) (by omega);refine ⟨b,h1,?_⟩;rw [qm (v':=((a:Int),l.length,(Q++scL l q).length,((k+1:Nat):Int),l.map qe,G,(List.range l.length).map (Q9 l),(met.set q true).map w7,(Q++scL l q).map L9)) (by
    refine qb c1 (qb c2 (qa c3 (qa rfl (qc c4 (qb c5 (qa c6 (qa rfl (qb rfl (qb c5 (qa c6 (qb rfl (qb c7 (qa hrow (qb rfl (qa rfl (qb c8 ?_))))))))))))))));rw [qf,<-w,s1,List.map_set,List.map_append,zamV,bO];rfl)]
   exact h2
theorem jz {sc:Nat->List Nat} (h:∀i,(sc i).length<=120):∀(met:List Bool) (i:Nat),unm sc i met<=120*met.length
 | [],i=>Nat.zero_le _
 |b::r,i=>by
  have h1:=jz h r (i+1);have h2:=h i;simp only [unm,zamM];split<;>omega
theorem bf (Q:List Nat) (hb:Q.length<=1000000):Ev (H1 · (Q.map L9)) (Q.length,Q.map L9):=by
 refine Ho (FG (R:=λn=>H0 n (Q.map L9)) (D4 (zD ⟨rfl,by decide,by decide,by simp;omega,by simp [L9,Eo]⟩) (D4 ?_ (qw (by simp)))) λn=>rfl);cases Q with
 |nil=>rfl
 |cons a r=>rfl
theorem fi (l:List Cl) (hl:l.length<=120) (a:Nat) (ha:a<l.length) (G:List (List PV)):∃b:Bool,(b=true↔Rch (scL l) a a)/\Ev (JF · (l.map qe) G ((List.range l.length).map (Q9 l)) (a:Int)) b:=by
 have hsl:∀i,(scL l i).length<=120:=λi=>zS (Oa _ _ _) hl
 have hI:MI (scL l) a l.length (List.replicate l.length false) (scL l a) 0:=MI.start λj hj=>LJ hj
 have hu:=jz hsl (List.replicate l.length false) 0;rw [List.length_replicate] at hu;have hs:=hsl a;obtain ⟨b,h1,_⟩:=Y5 0 l hl a G ((scL l a).length+unm (scL l) 0 (List.replicate l.length false)) 0 _ _ ((scL l a).length+unm (scL l) 0 (List.replicate l.length false)+1) hI (by omega) (by omega) (zK _);refine ⟨b,h1,Ho (FG (R:=λn=>JE n (l.map qe) G ((List.range l.length).map (Q9 l)) (a:Int)) ?_ λn=>rfl)⟩;have hrow:((List.range l.length).map (Q9 l))[((a:Int)).toNat]?=some (Q9 l a):=by
  rw [bO,zamS,List.getElem?_range ha];rfl
 refine D4 (zD (by rw [zamV];omega)) (D4 (zD ⟨by omega,by simp;omega⟩) (G2 hrow (D4 rfl (G2 rfl (qx (bf (scL l a) (by omega)) ?_)))));refine qx (r:=if b=true then Sum.inl true else Sum.inr ()) ⟨(scL l a).length+unm (scL l) 0 (List.replicate l.length false)+1,λm hm=>?_⟩ ?_
 ·obtain ⟨b',h1',h2'⟩:=Y5 m l hl a G ((scL l a).length+unm (scL l) 0 (List.replicate l.length false)) 0 _ _ m hI (by omega) (by omega) hm;have e:b'=b:=Bool.eq_iff_iff.2 (h1'.trans h1.symm);subst e;have e1:(((l.map qe).length:Int)).toNat=l.length:=by simp
  have e2:jZ [(.b false)] l.length=(List.replicate l.length false).map w7:=by simp [jZ,w7]
  dsimp only;rw [e1,e2];exact h2'
 ·cases b with
  |true=>exact Zt (qw rfl)
  |false=>exact Xx (qw rfl)
def atP (x y:Int) (c:Cl):Bool:=(c.1==x)&&((c.2.1==y)&&true)
theorem w8 (l:List Cl) (hl:l.length<=140737488351232) (x y:Int):Ev (Da · (l.map qe) x y) (de (atP x y) l):=by
 refine Ho (FG (R:=λn=>DZ n (l.map qe) x y) (nz (atP x y) (l:=l) ⟨l.length+2,λm hm=>?_⟩ (λ_ _=>rfl) λ_ _=>rfl) λn=>rfl);obtain ⟨q,rfl⟩:∃q,m=q+1:=⟨m-1,by omega⟩;have h:=S4 (B:=DV (q+1)) (λi=>(l.map qe,x,y,((l.map qe).length:Int),(i:Int))) l (λi c=>if atP x y c=true then some (Sum.inl (β:=Unit) (i:Int)) else none) (.inr ())
  (λi c he=>by
   have hi:=(zamJ.1 he).1;obtain ⟨a1,a2⟩:=KU rfl (X0 (enc:=qe) he);have w:IntKind.i64.wrap ((i:Int)+1)=((i+1:Nat):Int):=by rw [ql (by omega)];omega
   refine qb (zD (by simpa using hi)) (qb a1 (qa a2 (qb rfl (qa rfl (qa rfl (qa rfl (qa (rfl:_=some (atP x y c)) ?_)))))));by_cases hc:atP x y c=true
   ·rw [if_pos hc];exact qb hc rfl
   ·rw [if_neg hc];refine qc (aE.2 hc) ?_;dsimp only;rw [w];rfl)
  (qc (zd (by simp)) rfl) (q+1) (by omega)
 exact h
def InC (l:List Cl) (x y:Int):Prop:=Er l=true/\∃a,a<l.length/\DU l a=(x,y)/\Rch (scL l) a a
theorem I0 {l:List Cl} (h:Er l=true):l.length<=120:=by
 unfold Er at h;simp only [zL,aC] at h;omega
theorem VT (l:List Cl) (x y:Int) (hb:l.length<=140737488351232) (hs:∀c∈l,c.2.2.size<=140737488351232):∃b:Bool,(b=true↔InC l x y)/\Ev (La · (l.map qe) x y) b:=by
 have hS:=Pv l hb hs;cases h:Er l with
 |false=>
  rw [h] at hS;exact ⟨false,⟨λe=>(by cases e),λe=>(by rw [e.1] at h;cases h)⟩,Ho (FG (R:=λn=>IA n (l.map qe) x y) (qx hS (D4 rfl (qw rfl))) λn=>rfl)⟩
 |true=>
  rw [h] at hS;have hl:=I0 h;have hX:=w8 l hb x y;unfold de at hX;rcases v4 (atP x y) l 0 with ⟨e1,e2⟩|⟨k,c,e1,e2,e3⟩
  ·rw [e1] at hX;refine ⟨false,⟨λe=>(by cases e),λ⟨_,a,ha,hr,_⟩=>?_⟩,Ho (FG (R:=λn=>IA n (l.map qe) x y) (qx hS (ER rfl (qx hX (ER rfl (qw rfl))))) λn=>rfl)⟩;have hg:=zW ha;rw [Jj hg] at hr;have:=List.find?_eq_none.1 e2 _ (List.getElem_mem ha);have r1:l[a].1=x:=congrArg Prod.fst hr;have r2:l[a].2.1=y:=congrArg Prod.snd hr;simp [atP,r1,r2] at this
  ·rw [e1,Nat.zero_add] at hX;have hk:=(zamJ.1 e3).1;have hp:=List.find?_some e2;simp only [atP,zL,zanG,and_true] at hp;have hr:DU l k=(x,y):=(Jj e3).trans (Prod.ext hp.1 hp.2);obtain ⟨b,h1,h2⟩:=fi l hl k hk (l.map v8);refine ⟨b,h1.trans ⟨λe=>⟨h,k,hk,hr,e⟩,λ⟨_,a,ha,hra,e⟩=>?_⟩,Ho (FG (R:=λn=>IA n (l.map qe) x y) (qx hS (ER rfl (qx hX (D4 (zD (show (k:Int)≥0 by omega)) (qx (v9 l hl hs) (qx h2 (qw rfl))))))) λn=>rfl)⟩;have:a=k:=Ob h ha hk (hra.trans hr.symm);subst this;exact e
def Gt (l:List Cl) (k:Nat):List PV:=P9 (DU l k)
theorem kh (l:List Cl) (Q:List Nat) (hQ:Q.length<=100000) (r:Int×Int):∀n,Q.length+3<=n->O7 n (Q.map (Gt l)) r.1 r.2=some (Q.any λq=>DU l q==r):=by
 intro n hn;obtain ⟨m,rfl,hm⟩:=up1 hn;have h:=S4 (B:=Lc m) (λi=>(Q.map (Gt l),(i:Int),r.1,r.2)) Q (λ_ q=>if (DU l q==r)=true then some (.inl true) else none) (.inr ())
  (λi q he=>by
   have hi:=(zamJ.1 he).1;obtain ⟨a1,a2⟩:=KU rfl (X0 (enc:=Gt l) he);have w:IntKind.i64.wrap ((i:Int)+1)=((i+1:Nat):Int):=by rw [ql (by omega)];omega
   have e:(DU l q==r)=((DU l q).1==r.1&&((DU l q).2==r.2&&true)):=by rw [Bool.and_true];rfl
   refine qb (zD (by simpa using hi)) (qb a1 (qa a2 (qb rfl (qa rfl (qa rfl ?_)))));by_cases hc:(DU l q==r)=true
   ·rw [if_pos hc];exact qb (e▸hc) rfl
   ·rw [if_neg hc];refine qc (e▸aE.2 hc) ?_;dsimp only;rw [w];rfl)
  (qc (zd (by simp)) rfl) m (by omega)
 refine qa h ?_;have key:∀(R:List Nat) (i:Nat),(I2 (λ_ q=>if (DU l q==r)=true then some (Sum.inl (β:=Unit) true) else none) i R).getD (.inr ())=if (R.any λq=>DU l q==r)=true then .inl true else .inr ():=λR=>by
  induction R with
  |nil=>exact λi=>rfl
  |cons a R ih=>
   intro i;unfold I2;rw [List.any_cons];cases DU l a==r with
   |true=>rfl
   |false=>exact ih (i+1)
 rw [key];cases Q.any λq=>DU l q==r<;>rfl
theorem RA:∀(M Q:List Nat) (x:Nat),ET Q (M++ [x])=if (ET Q M).contains x=true then ET Q M else ET Q M++ [x]
 | [],Q,x=>rfl
 |y::M,Q,x=>RA M _ x
theorem bg {l:List Cl} (h:Er l=true) {Q:List Nat} (hQ:∀q∈Q,q<l.length) {j:Nat} (hj:j<l.length):(Q.any λq=>DU l q==DU l j)=Q.contains j:=by
 rw [Bool.eq_iff_iff,List.any_eq_true,List.contains_iff_mem]
 constructor
 ·rintro ⟨q,h1,h2⟩;rw [<-Ob h (hQ q h1) hj (zanG.1 h2)];exact h1
 ·exact λhm=>⟨j,hm,beq_self_eq_true _⟩
theorem dk {m:Nat} {acc:List (List PV)} {e:List PV} (hm:m=acc.length) (hb:m<=100000) (he:e.length=2):decide (m=acc.length/\0<2/\0<16/\(m+ [e].length)*16<=140737488355328/\ [e].all (λe=>e.length==2)=true)=true:=zD ⟨hm,by decide,by decide,by simp;omega,by simp [he]⟩
theorem tn (n:Nat) (l:List Cl) (h:Er l=true) (x y k:Int) (Q M:List Nat) (hQ:Q.Nodup/\∀q∈Q,q<l.length) (hM:∀q∈M,q<l.length) (hM2:M.length<=120) (hn:130<=n):
  zE (HX n) n (l.map qe,Q.length,k,M.length,0,x,y,Q.map (Gt l),M.map (Gt l))=some (l.map qe,(ET Q M).length,k,x,y,(ET Q M).map (Gt l)):=by
 have hl:=I0 h;have hlt:∀i,∀q∈ET Q (M.take i),q<l.length:=λi q hq=>by
  rcases (F2 _ _).1 hq with hq|hq
  ·exact hQ.2 q hq
  ·exact hM q (List.mem_of_mem_take hq)
 have h:=S4 (B:=HX n) (λi=>(l.map qe,(ET Q (M.take i)).length,k,M.length,(i:Int),x,y,(ET Q (M.take i)).map (Gt l),M.map (Gt l))) M (λ_ _=>none) (l.map qe,(ET Q M).length,k,x,y,(ET Q M).map (Gt l))
  (λi j he=>by
   have hi:=(zamJ.1 he).1;have hj:=hM j (zi he);have hg:(M.map (Gt l))[((i:Int)).toNat]?=some (Gt l j):=by rw [bO];exact X0 he
   have a1:decide (M.length=(M.map (Gt l)).length/\0<=(i:Int)/\(i:Int)<((M.length:Nat):Int))=true:=zD ⟨by simp,by omega,by omega⟩;have w:IntKind.i64.wrap ((i:Int)+1)=((i+1:Nat):Int):=by rw [ql (by omega)];omega
   have hlen:(ET Q (M.take i)).length<=120:=zS (VR l.length _ (KV _ _ hQ.1) (hlt i)) hl;have hh:=kh l (ET Q (M.take i)) (by omega) (DU l j) n (by omega);rw [bg h (hlt i) hj] at hh;have et:M.take (i+1)=M.take i++ [j]:=by rw [List.take_add_one,he];rfl
   refine qb (zD (by dsimp only;omega)) (qb a1 (qa hg (qa rfl (qa rfl (qb (zD (by simp)) (qa hh (qb (NQ _) ?_)))))));dsimp only;rw [et,RA,w];cases (ET Q (M.take i)).contains j with
   |true=>
    refine qc rfl ?_;rw [qf,if_pos rfl]
   |false=>
    refine qb rfl (qb a1 (qa hg (qa rfl (qa rfl (qb rfl (qb (dk (by simp) (by omega) rfl) ?_))))));rw [qf,if_neg (by simp),zamO,List.map_append];rfl)
  (qc (zd (by simp)) (by rw [List.take_length];rfl)) n (by omega)
 rw [Hp] at h;exact h
theorem Y6 (l:List Cl) (h:Er l=true) (a:Nat) (ha:a<l.length) (n:Nat) (hn:130<=n) (hL:∀q,q<l.length->GG n (l.map qe) (DU l q).1 (DU l q).2=some ((scL l q).length,(scL l q).map (Gt l))):∀(d k:Nat) (Q:List Nat) (M:Nat),QI (scL l) a l.length Q k->k<=Q.length->l.length=k+d->d+1<=M->
  ∃b:Bool,(b=true↔Rch (scL l) a a)/\zE (Je n) M (l.map qe,Q.length,(k:Int),(DU l a).1,(DU l a).2,Q.map (Gt l))=some (if b=true then .inl true else .inr ()):=by
 have hl:=I0 h;intro d
 induction d with
 |zero=>
  intro k Q M hI hkl hD hM;obtain ⟨M,rfl⟩:∃q,M=q+1:=⟨M-1,by omega⟩;have:=hI.len;have hk:k=Q.length:=by omega
  subst hk;exact ⟨false,⟨λh=>(by cases h),λh=>absurd h hI.all⟩,qd (qc (zd (by simp)) rfl)⟩
 |succ d ih=>
  intro k Q M hI hkl hD hM;obtain ⟨M,rfl⟩:∃q,M=q+1:=⟨M-1,by omega⟩;by_cases hk:k=Q.length
  ·subst hk;exact ⟨false,⟨λh=>(by cases h),λh=>absurd h hI.all⟩,qd (qc (zd (by simp)) rfl)⟩
  have hkl:k<Q.length:=by omega
  have hg:=zW hkl;generalize Q[k]=q at hg;have hq:=hI.lt q (zi hg);have hr:=hI.rc q (zi hg);have w:IntKind.i64.wrap ((k:Int)+1)=((k+1:Nat):Int):=by rw [ql (by omega)];omega
  have c1:decide ((k:Int)<((Q.length:Nat):Int))=true:=zD (by omega);have c2:decide (Q.length=(Q.map (Gt l)).length/\0<=(k:Int)/\(k:Int)<((Q.length:Nat):Int))=true:=zD ⟨by simp,by omega,by omega⟩;have c3:(Q.map (Gt l))[((k:Int)).toNat]?=some (Gt l q):=by rw [bO];exact X0 hg
  by_cases hqa:q=a
  ·subst hqa;exact ⟨true,⟨λ_=>hr,λ_=>rfl⟩,qd (qb c1 (qb c2 (qa c3 (qa rfl (qa rfl (qb (by simp) rfl))))))⟩
  have c4:(((DU l q).1==(DU l a).1)&&(((DU l q).2==(DU l a).2)&&true))=false:=by
   rw [aE];intro e;simp only [zL,zanG,and_true] at e;exact hqa (Ob h hq ha (Prod.ext e.1 e.2))
  have hA:=tn n l h (DU l a).1 (DU l a).2 (k:Int) Q (scL l q) ⟨hI.nd,hI.lt⟩ (λj hj=>LJ hj) (zS (Oa _ _ _) hl) hn;have hN:=hI.next hg hqa λj hj=>LJ hj
  obtain ⟨b,h1,h2⟩:=ih (k+1) (ET Q (scL l q)) M hN (by have:=S6 (scL l q) Q;omega) (by omega) (by omega);refine ⟨b,h1,?_⟩;rw [qm (v':=(l.map qe,(ET Q (scL l q)).length,((k+1:Nat):Int),(DU l a).1,(DU l a).2,(ET Q (scL l q)).map (Gt l))) (by
   refine qb c1 (qb c2 (qa c3 (qa rfl (qa rfl (qc c4 (qb c2 (qa c3 (qa rfl (qa rfl (qa (hL q hq) (qa hA ?_)))))))))));rw [qf,<-w])]
  exact h2
theorem ki:arL ⟨#[]⟩= []:=by
 unfold arL fnL;rw [q7,if_neg (by simp)];rfl
theorem X3 (l:List Cl) (h:Er l=true) (x y:Int) (hs:∀c∈l,c.2.2.size<=140737488351232):∃b:Bool,(b=true↔InC l x y)/\Ev (Ld · (l.map qe) x y) b:=by
 have hl:=I0 h;by_cases hx:∃a,a<l.length/\DU l a=(x,y)
 ·obtain ⟨a,ha,hr⟩:=hx;obtain ⟨n1,h1⟩:=Eu (F:=λ(q:Nat) n=>GG n (l.map qe) (DU l q).1 (DU l q).2) (f:=λq=>((scL l q).length,(scL l q).map (Gt l))) (List.range l.length) λq hq=>by
   have hq:=List.mem_range.1 hq;have:=Lm l (DU l q).1 (DU l q).2 hl hs;rw [X2 h hq,zamV,List.map_map] at this;exact this
  have hI:QI (scL l) a l.length (scL l a) 0:=QI.start (v6 _ _ _) λj hj=>LJ hj
  have hL:∀n,n1<=n->∀q,q<l.length->GG n (l.map qe) (DU l q).1 (DU l q).2=some ((scL l q).length,(scL l q).map (Gt l)):=λn hn q hq=>h1 n hn q (List.mem_range.2 hq)
  obtain ⟨b,e1,_⟩:=Y6 l h a ha (n1+130) (by omega) (hL _ (by omega)) l.length 0 _ (l.length+1) hI (Nat.zero_le _) (by omega) (zK _);have ex:(DU l a).1=x:=congrArg Prod.fst hr;have ey:(DU l a).2=y:=congrArg Prod.snd hr;refine ⟨b,e1.trans ⟨λe=>⟨h,a,ha,hr,e⟩,λ⟨_,a',ha',hr',e⟩=>?_⟩,Ho (FG (R:=λn=>JQ n (l.map qe) x y) (qx (r:=((scL l a).length,(scL l a).map (Gt l))) ⟨n1,λn hn=>by rw [<-ex,<-ey];exact hL n hn a ha⟩ (qx (r:=if b=true then Sum.inl true else Sum.inr ()) ⟨n1+131,λm hm=>?_⟩ ?_)) λn=>rfl)⟩
  ·have:a'=a:=Ob h ha' ha (hr'.trans hr.symm);subst this;exact e
  ·obtain ⟨b',e1',e2'⟩:=Y6 l h a ha m (by omega) (hL _ (by omega)) l.length 0 _ m hI (Nat.zero_le _) (by omega) (by omega);have:b'=b:=Bool.eq_iff_iff.2 (e1'.trans e1.symm);subst this;rw [ex,ey] at e2';exact e2'
  ·cases b with
   |true=>exact Zt (qw rfl)
   |false=>exact Xx (qw rfl)
 ·have hL:=Lm l x y hl hs;have e0:G7 l x y= []:=by
   unfold G7;have e1:OZ l x y=⟨#[]⟩:=by
    unfold OZ;cases hf:l.find? λe=>e.1==x&&e.2.1==y with
    |none=>rfl
    |some e=>
     have h1:=List.find?_some hf;simp only [zL,zanG] at h1;obtain ⟨i,hi,e1⟩:=List.mem_iff_getElem.1 (List.mem_of_find?_eq_some hf);exact absurd ⟨i,hi,(Jj (zW hi)).trans (by rw [e1];exact Prod.ext h1.1 h1.2)⟩ hx
   rw [e1,ki];unfold HS;simp
  rw [e0] at hL;refine ⟨false,⟨λe=>(by cases e),λ⟨_,a,ha,hr,_⟩=>absurd ⟨a,ha,hr⟩ hx⟩,Ho (FG (R:=λn=>JQ n (l.map qe) x y) (qx hL (qx (r:= .inr ()) ⟨1,λm hm=>?_⟩ ?_)) λn=>rfl)⟩
  ·obtain ⟨M,rfl⟩:∃q,m=q+1:=⟨m-1,by omega⟩;exact qd (qc rfl rfl)
  ·exact Xx (qw rfl)
theorem VU (l:List Cl) (x y:Int) (hb:l.length<=140737488351232) (hs:∀c∈l,c.2.2.size<=140737488351232):∃b:Bool,(b=true↔InC l x y)/\Ev (Lf · (l.map qe) x y) b:=by
 have hS:=Ll l hb hs;cases h:Er l with
 |false=>
  rw [h] at hS;exact ⟨false,⟨λe=>(by cases e),λe=>(by rw [e.1] at h;cases h)⟩,Ho (FG (R:=λn=>JR n (l.map qe) x y) (qx hS (ER rfl (qw rfl))) λn=>rfl)⟩
 |true=>
  rw [h] at hS;obtain ⟨b,h1,h2⟩:=X3 l h x y hs;exact ⟨b,h1,Ho (FG (R:=λn=>JR n (l.map qe) x y) (qx hS (D4 rfl (qx h2 (qw rfl)))) λn=>rfl)⟩
inductive Tch (bs:Nat->Prop) (sc:Nat->List Nat):Nat->Prop
 |zero {i:Nat}:bs i->Tch bs sc i
 |lean {i k:Nat}:k∈sc i->Tch bs sc k->Tch bs sc i
structure TI (bs:Nat->Prop) (sc:Nat->List Nat) (n:Nat) (o:List Bool):Prop where
 ln:o.length=n
 ok:∀i,o[i]?=some true->Tch bs sc i
 st:∀i,i<n->bs i->o[i]?=some true
theorem TI.set {bs:Nat->Prop} {sc:Nat->List Nat} {n:Nat} {o:List Bool} (h:TI bs sc n o) {i k:Nat} (hk:k∈sc i) (ho:o[k]?=some true):TI bs sc n (o.set i true):=by
 refine ⟨by rw [List.length_set];exact h.ln,λj hj=>?_,λj hj hb=>?_⟩
 ·by_cases e:i=j
  ·subst e;exact .lean hk (h.ok k ho)
  ·rw [List.getElem?_set_ne e] at hj;exact h.ok j hj
 ·by_cases e:i=j
  ·subst e;exact List.getElem?_set_self (by rw [h.ln];exact hj)
  ·rw [List.getElem?_set_ne e];exact h.st j hj hb
theorem TI.all {bs:Nat->Prop} {sc:Nat->List Nat} {n:Nat} {o:List Bool} (h:TI bs sc n o) (hn:∀i,∀k∈sc i,k<n) (hc:∀i,i<n->∀k∈sc i,o[k]?=some true->o[i]?=some true) {i:Nat} (hi:i<n):o[i]?=some true↔Tch bs sc i:=by
 refine ⟨h.ok i,λht=>?_⟩
 induction ht with
 |zero hb=>exact h.st _ hi hb
 |lean hk _ ih=>exact hc _ hi _ hk (ih (hn _ _ hk))
structure SI (hr b2:Nat->Bool) (sc:Nat->List Nat) (n:Nat) (A:List Nat):Prop where
 nd:A.Nodup
 lt:∀a∈A,a<n
 ok:∀a∈A,Tch (λi=>hr i=true\/b2 i=true) sc a
theorem SI.add {hr b2:Nat->Bool} {sc:Nat->List Nat} {n:Nat} {A:List Nat} {i:Nat} (h:SI hr b2 sc n A) (hi:i<n) (h1:¬(hr i||A.contains i)=true) (h2:(b2 i||A.any λk=>(sc i).contains k)=true):SI hr b2 sc n (A++ [i]):=by
 have hn:i∉A:=λhi=>h1 (by rw [Bool.or_eq_true];exact .inr (by simpa using hi))
 refine ⟨?_,λa ha=>?_,λa ha=>?_⟩
 ·rw [List.nodup_append];refine ⟨h.nd,by simp,λa ha b hb=>?_⟩;rw [zamQ] at hb;subst hb;rintro rfl;exact hn ha
 ·rcases List.mem_append.1 ha with ha|ha
  ·exact h.lt a ha
  ·rw [zamQ] at ha;omega
 ·rcases List.mem_append.1 ha with ha|ha
  ·exact h.ok a ha
  ·rw [zamQ] at ha;subst ha;rcases Bool.or_eq_true_iff.1 h2 with hb|hb
   ·exact .zero (.inr hb)
   ·obtain ⟨k,hk,hc⟩:=List.any_eq_true.1 hb;exact .lean (by simpa using hc) (h.ok k hk)
theorem SI.all {hr b2:Nat->Bool} {sc:Nat->List Nat} {n:Nat} {A:List Nat} (h:SI hr b2 sc n A) (hn:∀i,∀k∈sc i,k<n) (hb:∀i,∀k∈sc i,hr k=true->b2 i=true)
  (hc:∀i,i<n->(b2 i||A.any λk=>(sc i).contains k)=true->(hr i||A.contains i)=true) {i:Nat} (hi:i<n):(hr i||A.contains i)=true↔Tch (λi=>hr i=true\/b2 i=true) sc i:=by
 constructor
 ·intro h1;rcases Bool.or_eq_true_iff.1 h1 with h1|h1
  ·exact .zero (.inl h1)
  ·exact h.ok i (by simpa using h1)
 ·intro ht
  induction ht with
  |zero hq=>
   rcases hq with hq|hq
   ·rw [hq];rfl
   ·exact hc _ hi (by rw [hq];rfl)
  | @lean i k hk _ ih=>
   refine hc i hi ?_;rw [Bool.or_eq_true];rcases Bool.or_eq_true_iff.1 (ih (hn _ _ hk)) with h1|h1
   ·exact .inl (hb i k hk h1)
   ·exact .inr (List.any_eq_true.2 ⟨k,by simpa using h1,by simpa using hk⟩)
theorem fj {s:BA} (h:rh s=true):s.size<=200:=by
 unfold rh at h;rw [zL] at h;have h1:=h.1;unfold FU at h1;split at h1
 ·cases h1
 ·rename_i hp;exact M5 (by cases hq:FE s 200 with|true=>rfl|false=>exact absurd hq hp)
structure StOk (n:Nat) (c:Sm):Prop where
 k:c.1=1\/c.1=2\/c.1=3\/c.1=4\/c.1=5
 s:c.2.2.2.1.size<=200
 m:c.1=3\/c.1=4->1<=c.2.2.2.2/\c.2.2.2.2<=n
def Sml (x:Int):Prop:=1<=x/\x<=1000000000
theorem Sml.dec {x:Int} (h:Sml x):(JH x).size<=20:=OQ (by unfold Sml at h;omega)
structure VerT (v:Vs):Prop where
 id:Sml v.1
 up:∀u∈v.2.1,Sml u
 un:v.2.1.length<=2
 cn:v.2.2.length<=120
 cs:∀c∈v.2.2,c.2.2.size<=200
structure BrT (b:Br):Prop where
 id:Sml b.2
 nm:b.1.size<=12
structure MA (A:List (List PV)) (e:List PV) (len i:Nat) (ks D:List (List PV)):Prop where
 maL:A.length=len
 maG:A[i]?=some e
 maN:e.length=14
 maK:e[13]?=some (.ls ks)
 maD:A.drop (i+1)=D
 maT:i<len
theorem MA.next {A:List (List PV)} {e:List PV} {len i:Nat} {ks D:List (List PV)} (h:MA A e len i ks D) {o:Nat} {x:PV} (ho:o<13):MA (A.set ((i:Nat):Int).toNat (zc e o [x])) (zc e o [x]) len i ks D:=by
 have hl:i<A.length:=by rw [h.maL];exact h.maT
 have hs:o+ [x].length<=e.length:=by rw [h.maN];simp;omega
 rw [bO];refine ⟨by rw [List.length_set];exact h.maL,List.getElem?_set_self hl,by rw [zq _ _ _ hs];exact h.maN,?_,?_,h.maT⟩
 ·rw [zw _ _ _ hs,if_neg (by simp;omega)];exact h.maK
 ·rw [List.drop_set_of_lt (by omega)];exact h.maD
structure RtS (c:Sm):Prop where
 k:c.1=1\/c.1=2\/c.1=3\/c.1=4\/c.1=5
 s:(10:UInt8)∉c.2.2.2.1.toList
 p:c.1=1\/c.1=2->D8 c.2.1 c.2.2.1=true/\c.2.2.2.2=0
 z:¬(c.1=1\/c.1=2)->c.2.1=0/\c.2.2.1=0
 m:c.1=3\/c.1=4->1<=c.2.2.2.2/\c.2.2.2.2<=30
 q:c.1=5->c.2.2.2.2=0
def b3 (x:Int):Bool:=Int.tmod x 3==0
structure MB (A:List (List PV)) (e:List PV) (i:Nat) (P D:List (List PV)):Prop where
 mbA:A=P++e::D
 mbP:P.length=i
theorem MB.next {A:List (List PV)} {e e':List PV} {i:Nat} {P D:List (List PV)} (h:MB A e i P D):MB (A.set ((i:Nat):Int).toNat e') e' i P D:=by
 rw [bO];refine ⟨?_,h.mbP⟩;rw [h.mbA,List.set_append_right (h:=by have:=h.mbP;omega),h.mbP,Nat.sub_self];rfl
theorem od {s o:BA} (h:FU s=(o,true)):o.size<=200/\(s.toList≠ []->1<=o.size):=by
 obtain ⟨h1,h2,_⟩:=u6 h;refine ⟨fj (by unfold rh;rw [h1];simp),λhs=>?_⟩;have:o.toList≠ []:=λe=>hs (h2.1 e)
 have h3:o.toList.length≠0:=λe=>this (bJ e)
 have h4:=Dz o;omega
def w9 (x y:Int) (s:BA) (st:List Cl×Bool) (c:Cl):List Cl×Bool:=
 if st.2=false/\Jm c.1 c.2.1 x y=false then ((if c.1=x/\c.2.1=y then st.1++ [(x,y,s)] else (st.1++ [(x,y,s)])++ [c]),true)
 else ((if c.1=x/\c.2.1=y then st.1 else st.1++ [c]),st.2)
def N8 (l:List Cl) (x y:Int) (s:BA):List Cl×Bool:=l.foldl (w9 x y s) ([],s.toList==(⟨#[]⟩:BA).toList)
def y5 (l:List Cl) (x y:Int) (s:BA):List Cl:=if (N8 l x y s).2=true then (N8 l x y s).1 else (N8 l x y s).1++ [(x,y,s)]
theorem Y7 {l:List Cl} {x y:Int} {s:BA} {i:Nat} {c:Cl} (h:l[i]?=some c):N8 (l.take (i+1)) x y s=w9 x y s (N8 (l.take i) x y s) c:=by
 unfold N8;rw [List.take_add_one,h,List.foldl_append];rfl
theorem kj (x y:Int) (s:BA) (st:List Cl×Bool) (c:Cl):(w9 x y s st c).1.length<=st.1.length+2:=by
 unfold w9;split
 ·split<;>simp
 ·split<;>simp
theorem X4 (l:List Cl) (x y:Int) (s:BA):∀i,i<=l.length->(N8 (l.take i) x y s).1.length<=2*i
 |0,_=>by simp [N8]
 |i+1,h=>by
  have h1:=X4 l x y s i (by omega);have hg:=zW (show i<l.length by omega);rw [Y7 hg];have:=kj x y s (N8 (l.take i) x y s) l[i];omega
theorem km {x y:Int} {s:BA} {st:List Cl×Bool} {c e:Cl} (h:e∈(w9 x y s st c).1):e∈st.1\/e=c\/e=(x,y,s):=by
 unfold w9 at h;split at h
 ·split at h
  ·rcases List.mem_append.1 h with h|h
   ·exact .inl h
   ·exact .inr (.inr (zamQ.1 h))
  ·rcases List.mem_append.1 h with h|h
   ·rcases List.mem_append.1 h with h|h
    ·exact .inl h
    ·exact .inr (.inr (zamQ.1 h))
   ·exact .inr (.inl (zamQ.1 h))
 ·split at h
  ·exact .inl h
  ·rcases List.mem_append.1 h with h|h
   ·exact .inl h
   ·exact .inr (.inl (zamQ.1 h))
theorem Y8 {x y:Int} {s:BA}:∀(l:List Cl) (st:List Cl×Bool) (e:Cl),e∈(l.foldl (w9 x y s) st).1->e∈st.1\/e∈l\/e=(x,y,s)
 | [],st,e,h=> .inl h
 |c::l,st,e,h=>by
  rcases Y8 l _ e h with h|h|h
  ·rcases km h with h|h|h
   ·exact .inl h
   ·exact .inr (.inl (h▸zamN ..))
   ·exact .inr (.inr h)
  ·exact .inr (.inl (zamR _ h))
  ·exact .inr (.inr h)
theorem kr {l:List Cl} {x y:Int} {s:BA} {e:Cl} (h:e∈y5 l x y s):e∈l\/e=(x,y,s):=by
 have key:e∈(N8 l x y s).1->e∈l\/e=(x,y,s):=λh=>by
  rcases Y8 l _ e h with h|h
  ·cases h
  ·exact h
 unfold y5 at h;split at h
 ·exact key h
 ·rcases List.mem_append.1 h with h|h
  ·exact key h
  ·exact .inr (zamQ.1 h)
theorem UD {m:Nat} {acc:List (List PV)} {e:List PV} (hm:m=acc.length) (hb:m<=1000) (he:e.length=3):decide (m=acc.length/\0<3/\0<32/\(m+ [e].length)*32<=140737488355328/\ [e].all (λe=>e.length==3)=true)=true:=zD ⟨hm,by decide,by decide,by simp;omega,by simp [he]⟩
theorem YY (l:List Cl) (hl:l.length<=120) (x y:Int) (s:BA):Ev (Oi · (l.map qe) x y s) ((y5 l x y s).length,(y5 l x y s).map qe):=by
 obtain ⟨n1,h1⟩:=Eu (F:=λ(c:Cl) n=>Fc n c.1 c.2.1 x y) (f:=λc=>Jm c.1 c.2.1 x y) l λc _=>WW ..
 have loop:Ev (λn=>zE (JO n) n (l.map qe,s,(0:Nat),(s.toList==(⟨#[]⟩:BA).toList),(0:Int),x,y,([]:List (List PV)))) (s,(N8 l x y s).1.length,(N8 l x y s).2,x,y,(N8 l x y s).1.map qe):=by
  refine ⟨n1+l.length+3,λm hm=>?_⟩;have h:=S4 (B:=JO m) (λi=>(l.map qe,s,(N8 (l.take i) x y s).1.length,(N8 (l.take i) x y s).2,(i:Int),x,y,(N8 (l.take i) x y s).1.map qe)) l (λ_ _=>none) (s,(N8 l x y s).1.length,(N8 l x y s).2,x,y,(N8 l x y s).1.map qe)
   (λi c he=>by
    have hi:=(zamJ.1 he).1;have hmem:=zi he;have hg:(l.map qe)[i]?=some (qe c):=by rw [zamS,he];rfl
    obtain ⟨a1,a2⟩:=KU rfl hg;have h1:=h1 m (by omega) c hmem;have hlen:=X4 l x y s i (by omega);have w:IntKind.i64.wrap ((i:Int)+1)=((i+1:Nat):Int):=by rw [ql (by omega)];omega
    have a0:decide ((i:Int)<((l.map qe).length:Int))=true:=zD (by simpa using hi);rw [Y7 he];generalize N8 (l.take i) x y s=st at hlen⊢;obtain ⟨o,d⟩:=st;dsimp only at hlen⊢;have hk1:decide (o.length=(o.map qe).length/\0<3/\0<32/\(o.length+([[(.i .i64 x),(.i .i64 y),(.s s)]]:List (List PV)).length)*32<=140737488355328/\([[(.i .i64 x),(.i .i64 y),(.s s)]]:List (List PV)).all (λe=>e.length==3)=true)=true:=UD (by simp) (by omega) rfl;have hk2:decide (o.length=(o.map qe).length/\0<3/\0<32/\(o.length+([qe c]:List (List PV)).length)*32<=140737488355328/\([qe c]:List (List PV)).all (λe=>e.length==3)=true)=true:=UD (by simp) (by omega) rfl;have hk3:decide (o.length+1=(o.map qe++ [qe (x,y,s)]).length/\0<3/\0<32/\(o.length+1+([qe c]:List (List PV)).length)*32<=140737488355328/\([qe c]:List (List PV)).all (λe=>e.length==3)=true)=true:=UD (by simp) (by omega) rfl;have q1T:c.1=x/\c.2.1=y->(!((c.1==x)&&((c.2.1==y)&&true)))=false:=λq=>by rw [zanG.2 q.1,zanG.2 q.2];rfl
    have q0T:¬(c.1=x/\c.2.1=y)->(!((c.1==x)&&((c.2.1==y)&&true)))=true:=λq=>by
     rw [Bool.not_eq_true',aE];intro e;simp only [zL,zanG,and_true] at e;exact q e
    unfold w9;dsimp only;cases d with
    |true=>
     rw [if_neg (λh=>by cases h.1)];refine qb a0 (qc rfl (qb a1 (qa a2 (qb rfl (qa rfl (qa rfl ?_))))));by_cases q:c.1=x/\c.2.1=y
     ·rw [if_pos q];exact qc (q1T q) (by rw [<-w];rfl)
     ·rw [if_neg q];refine qb (q0T q) (qb a1 (qa a2 (qb rfl (qa rfl (qa rfl (qa rfl (qb rfl (qb hk2 ?_))))))));rw [<-w,zamO,List.map_append];rfl
    |false=>
     cases ha:Jm c.1 c.2.1 x y with
     |true=>
      rw [ha] at h1;rw [if_neg (λh=>by cases h.2)];refine qb a0 (qb rfl (qb a1 (qa a2 (qb rfl (qa rfl (qa rfl (qa h1 (qc rfl (qb a1 (qa a2 (qb rfl (qa rfl (qa rfl ?_)))))))))))));by_cases q:c.1=x/\c.2.1=y
      ·rw [if_pos q];exact qc (q1T q) (by rw [<-w];rfl)
      ·rw [if_neg q];refine qb (q0T q) (qb a1 (qa a2 (qb rfl (qa rfl (qa rfl (qa rfl (qb rfl (qb hk2 ?_))))))));rw [<-w,zamO,List.map_append];rfl
     |false=>
      rw [ha] at h1;rw [if_pos ⟨rfl,rfl⟩];refine qb a0 (qb rfl (qb a1 (qa a2 (qb rfl (qa rfl (qa rfl (qa h1 (qb rfl (qb rfl (qb hk1 (qb a1 (qa a2 (qb rfl (qa rfl (qa rfl ?_)))))))))))))));by_cases q:c.1=x/\c.2.1=y
      ·rw [if_pos q];refine qc (q1T q) ?_;rw [<-w,zamO,List.map_append];rfl
      ·rw [if_neg q];refine qb (q0T q) (qb a1 (qa a2 (qb rfl (qa rfl (qa rfl (qa rfl (qb rfl (qb hk3 ?_))))))));rw [<-w,zamO,List.map_append,zamO,List.map_append];rfl)
   (qc (zd (by simp)) (by rw [List.take_length];rfl)) m (by omega)
  rw [Hp] at h;exact h
 refine Ho (FG (R:=λn=>Oh n (l.map qe) x y s) (qx loop ?_) λn=>rfl);have hlen:=X4 l x y s l.length (zK _);rw [List.take_length] at hlen;unfold y5;cases hd:(N8 l x y s).2 with
 |true=>
  rw [if_pos rfl];exact ER rfl (qw rfl)
 |false=>
  rw [if_neg (by decide)];refine D4 rfl (D4 rfl (D4 (UD (by simp) (by dsimp only;omega) rfl) (qw ?_)));rw [zamO,List.map_append];rfl
def X5 (l:List Cl) (x y:Int) (t:BA):List Cl×Bool:=if (Er l=true/\D8 x y=true)/\(FU t).2=true/\(y5 l x y (FU t).1).length<=120 then (y5 l x y (FU t).1,true) else ([],false)
theorem YZ (l:List Cl) (x y:Int) (t:BA) (hb:l.length<=140737488351232) (hs:∀c∈l,c.2.2.size<=140737488351232) (ht:t.size<=140737488351232):Ev (Ol · (l.map qe) x y t) ((X5 l x y t).1.length,(X5 l x y t).2,(X5 l x y t).1.map qe):=by
 refine Ho (FG (R:=λn=>Oj n (l.map qe) x y t) (qx (Pu t (by omega)) (qx (Ll l hb hs) ?_)) λn=>rfl);unfold X5;cases hB:Er l with
 |false=>rw [if_neg (λh=>by cases h.1.1)];exact D4 rfl (qw rfl)
 |true=>
  refine ER rfl (qx (Gj x y) ?_);cases hR:D8 x y with
  |false=>rw [if_neg (λh=>by cases h.1.2)];exact D4 rfl (qw rfl)
  |true=>
   refine ER rfl ?_;cases hI:(FU t).2 with
   |false=>rw [if_neg (λh=>by cases h.2.1)];exact D4 rfl (qw rfl)
   |true=>
    refine ER rfl (qx (YY l (I0 hB) x y (FU t).1) ?_);by_cases hl:(y5 l x y (FU t).1).length<=120
    ·rw [if_pos ⟨⟨rfl,rfl⟩,rfl,hl⟩];exact ER (zd (by dsimp only;omega)) (qw rfl)
    ·rw [if_neg (λh=>hl h.2.2)];exact D4 (zD (by dsimp only;omega)) (qw rfl)
theorem y6 (m sz ty:Nat) (b:Bool) (l:List Cl):aZ (⟨(.tup [(false,[(.own 0 0 0 m)]),(false,[(.p (.b b))])]),[],[⟨0,sz,ty,(.row (l.map qe))⟩]⟩:Res)=true:=by
 simp [aZ,AV.cvs,uS,qT,qe,CV.flat]
theorem X6 {l:List (List PV)} (hl:O8 l):∀(j:Nat) (out:List Cl) (p:Int),j<=1000->(out.length<=120/\∀c∈out,c.2.2.size<=200)->(0<=p/\p<=l.length)->∃(o':List Cl) (p':Int),(0<=p'/\p'<=l.length)/\(o'.length<=120/\∀c∈o',c.2.2.size<=200)/\∃n0,∀n,n0<=n->∀M,j+1<=M->zE (HH n) M (out.length,(j:Int),out.map qe,l,p)=some (o'.length,o'.map qe,l,p')
 |0,out,p,h5,hs,hp=>⟨out,p,hp,hs,0,λn _ M hM=>by
  obtain ⟨M,rfl⟩:∃q,M=q+1:=⟨M-1,by omega⟩;exact qd (qc (zd (by simp)) rfl)⟩
 |j+1,out,p,h5,hs,hp=>by
  obtain ⟨x,y,p1,g1,g2⟩:=U7 hl hp;obtain ⟨t,p2,g3,g4,n2,g5⟩:=u7 hl g1;obtain ⟨n3,he⟩:=YZ out x y t (by omega) (λc hc=>by have:=hs.2 c hc;omega) (by omega);have w:IntKind.i64.wrap (((j+1:Nat):Int)-1)=(j:Int):=by rw [ql (by omega)];omega
  by_cases hq:(X5 out x y t).2=true
  ·have hs1:(X5 out x y t).1.length<=120/\∀c∈(X5 out x y t).1,c.2.2.size<=200:=by
    unfold X5 at hq⊢;split
    ·rename_i hc;refine ⟨hc.2.2,λc hcm=>?_⟩;rcases kr hcm with h|h
     ·exact hs.2 c h
     ·subst h;exact (od (s:=t) (o:=(FU t).1) (by rw [<-hc.2.1])).1
    ·exact ⟨Nat.zero_le _,λc hc=>by cases hc⟩
   obtain ⟨o',p',q1,q2,n4,q3⟩:=X6 hl j (X5 out x y t).1 p2 (by omega) hs1 g3;refine ⟨o',p',q1,q2,n2+n3+n4+3,λn hn M hM=>?_⟩;obtain ⟨M,rfl⟩:∃q,M=q+1:=⟨M-1,by omega⟩;rw [qm (v':=((X5 out x y t).1.length,(j:Int),(X5 out x y t).1.map qe,l,p2)) (by
    refine qb (zD (by dsimp only;omega)) (qa (g2 n (by omega)) (qa (g5 n (by omega)) (qb (zD (by simp)) (qa (he n (by omega)) (qb (y6 _ _ _ _ _) (qb hq ?_))))));rw [<-w];rfl),q3 n (by omega) M (by omega)]
  ·obtain ⟨o',p',q1,q2,n4,q3⟩:=X6 hl j out p2 (by omega) hs g3;refine ⟨o',p',q1,q2,n2+n3+n4+3,λn hn M hM=>?_⟩;obtain ⟨M,rfl⟩:∃q,M=q+1:=⟨M-1,by omega⟩;rw [qm (v':=(out.length,(j:Int),out.map qe,l,p2)) (by
    refine qb (zD (by dsimp only;omega)) (qa (g2 n (by omega)) (qa (g5 n (by omega)) (qb (zD (by simp)) (qa (he n (by omega)) (qb (y6 _ _ _ _ _) (qc (by simpa using hq) ?_))))));rw [<-w];rfl),q3 n (by omega) M (by omega)]
theorem kt {l:List (List PV)} (hl:O8 l) (k:Nat) (hk:1<=k/\k<=100) {p:Int} (hp:0<=p/\p<=l.length):∃(o:List Cl) (p':Int),(0<=p'/\p'<=l.length)/\(o.length<=121/\∀c∈o,c.2.2.size<=20000)/\Ev (λn=>IM n (k:Int) l p) (o.map qe,l,p'):=by
 have key:Dwx (λr:List (List PV)×List (List PV)×Int=>∃(o:List Cl) (p':Int),(0<=p'/\p'<=l.length)/\(o.length<=121/\∀c∈o,c.2.2.size<=20000)/\r=(o.map qe,l,p')) λn=>J2 n (k:Int) l p:=by
  have wk:IntKind.i64.wrap ((k:Int)+1)=(k:Int)+1:=ql (by omega);obtain ⟨j,p2,h3,hj,h4⟩:=GJ ((k:Int)+1) (by omega) hl hp;rw [<-wk] at h4;obtain ⟨j,rfl⟩:∃q:Nat,j=(q:Int):=⟨j.toNat,by omega⟩;obtain ⟨o,p3,h5,⟨h6,h7⟩,n0,h8⟩:=X6 hl j [] p2 (by omega) ⟨by simp,λc hc=>by cases hc⟩ h3;have h8:Ev (λn=>zE (HH n) n ((0:Nat),(j:Int),([]:List (List PV)),l,p2)) (o.length,o.map qe,l,p3):=⟨n0+j+1,λn hn=>h8 n (by omega) n (by omega)⟩;obtain ⟨t,p4,g1,g2⟩:=O9 40 (by decide) hl h5;refine qx (IR h4) (qx h8 (qx (IR g2) ?_));cases t with
  |false=>exact ER rfl (D4 (zD (by simp)) (qw ⟨o,p4,g1,⟨by omega,λc hc=>by have:=h7 c hc;omega⟩,rfl⟩))
  |true=>
   obtain ⟨a,b,p5,g3,g4⟩:=U7 hl g1;obtain ⟨t,p6,g5,g6,g7⟩:=u7 hl g3;have e2:o.map qe++ [qe (a,b,t)]=(o++ [(a,b,t)]).map qe:=by simp
   refine D4 rfl (qx (IR g4) (qx g7 (D4 rfl (D4 (UD (by simp) (by omega) rfl) (D4 (zD (by simp)) (qw ⟨_,p6,g5,⟨?_,?_⟩,congrArg (λx=>(x,l,p6)) e2⟩))))))
   ·simp;omega
   ·intro x hx;rcases List.mem_append.1 hx with h|h
    ·have:=h7 x h;omega
    ·rw [zamQ.1 h];exact g6
 obtain ⟨r,⟨o,p',h1,h2,rfl⟩,h3⟩:=FG (F:=λn=>IM n (k:Int) l p) key λn=>rfl
 exact ⟨o,p',h1,h2,h3⟩
theorem Wd {l:List (List PV)} (hl:O8 l):∃(o:List Cl) (x y:Int),(o.length<=121/\∀c∈o,c.2.2.size<=20000)/\Ev (HV · l) (o.map qe,x,y):=by
 obtain ⟨o,p1,h1,h2,h3⟩:=kt hl 10 (by decide) (p:=0) (by omega);have h2a:=h2.1;have last:∀{p:Int},(0<=p/\p<=l.length)->Dwx (λr:List (List PV)×Int×Int=>∃(x y:Int),r=(o.map qe,x,y)) λn=>(.opt (D1 n l p) λr22=>(.done (o.map qe,r22.1,r22.2.1)):Tr (List (List PV)×Int×Int)):=λhp=>by
  obtain ⟨a,b,p5,g3,g4⟩:=U7 hl hp;exact qx (IR g4) (qw ⟨a,b,rfl⟩)
 have key:Dwx (λr:List (List PV)×Int×Int=>∃(x y:Int),r=(o.map qe,x,y)) λn=>I6 n l:=by
  refine qx (IR (ll l)) (qx h3 ?_);by_cases h0:0<o.length
  ·obtain ⟨t,p4,g1,g2⟩:=O9 4 (by decide) hl h1;refine D4 (zD (by simp;omega)) (qx (IR g2) ?_);cases t with
   |true=>exact ER rfl (last g1)
   |false=>
    obtain ⟨i,p5,g3,hi,g4⟩:=dw ((o.map qe).length:Int) (by simp;omega) hl g1;obtain ⟨i,rfl⟩:∃q:Nat,i=(q:Int):=⟨i.toNat,by omega⟩;have hio:i<o.length:=by have:=hi.2;simp at this;omega
    have hg:(o.map qe)[((i:Nat):Int).toNat]?=some (qe o[i]):=by rw [bO,zamS,zW hio];rfl
    exact D4 rfl (qx (IR g4) (D4 (zD ⟨hi.1,hi.2⟩) (G2 hg (D4 rfl (G2 rfl (G2 rfl (qw ⟨_,_,rfl⟩)))))))
  ·exact ER (zd (by dsimp only;rw [zamV];omega)) (last h1)
 obtain ⟨r,⟨x,y,rfl⟩,hr⟩:=FG (F:=λn=>HV n l) key λn=>rfl
 exact ⟨o,x,y,h2,hr⟩
theorem Zw (l:List Cl) (Q:List Nat) (hQ:Q.length<=100000) (r:Int×Int):∀n,Q.length+3<=n->IF n (Q.map (Gt l)) r.1 r.2=some (Q.any λq=>DU l q==r):=by
 intro n hn;obtain ⟨m,rfl,hm⟩:=up1 hn;have key:∀(R:List Nat) (i M:Nat),Q.drop i=R->i+R.length=Q.length->R.length+1<=M->zE (Kk m) M (Q.map (Gt l),(i:Int),r.1,r.2)=some (if (R.any λq=>DU l q==r)=true then .inl true else .inr ()):=by
  intro R
  induction R with
  |nil=>
   intro i M h1 h2 h3;obtain ⟨M,rfl⟩:∃q,M=q+1:=⟨M-1,by omega⟩;simp only [zanD,Nat.add_zero] at h2;exact qd (qc (zd (by simp;omega)) rfl)
  |cons q R ih=>
   intro i M h1 h2 h3;obtain ⟨M,rfl⟩:∃q,M=q+1:=⟨M-1,by omega⟩;simp only [zamM] at h2 h3;have hi:i<Q.length:=by omega
   have hq:Q[i]?=some q:=by
    have:=congrArg (λx=>x[0]?) h1;simpa using this
   have hd:Q.drop (i+1)=R:=by rw [<-List.drop_drop,h1];rfl
   have w:IntKind.i64.wrap ((i:Int)+1)=((i+1:Nat):Int):=by rw [ql (by omega)];omega
   have hg:(Q.map (Gt l))[((i:Nat):Int).toNat]?=some (Gt l q):=by rw [bO];exact X0 hq
   have a1:decide ((i:Int)<((Q.map (Gt l)).length:Int))=true:=zD (by simpa using hi);have a2:decide (0<=(i:Int)/\(i:Int)<((Q.map (Gt l)).length:Int))=true:=zD ⟨by omega,by simpa using hi⟩;have hb:(((DU l q).1==r.1)&&(((DU l q).2==r.2)&&true))=(DU l q==r):=by
    rw [Bool.and_true];rfl
   cases he:(DU l q==r) with
   |true=>
    rw [he] at hb;rw [List.any_cons,he,Bool.true_or,if_pos rfl];exact qd (qb a1 (qb a2 (qa hg (qb rfl (qa rfl (qa rfl (qb hb rfl)))))))
   |false=>
    rw [he] at hb;rw [List.any_cons,he,Bool.false_or,<-ih (i+1) M hd (by omega) (by omega)];exact qm (qb a1 (qb a2 (qa hg (qb rfl (qa rfl (qa rfl (qc hb (by rw [<-w];rfl))))))))
 have h:=key Q 0 m rfl (by omega) (by omega);refine qa h ?_;cases Q.any λq=>DU l q==r<;>rfl
theorem UE (l:List Cl) (x y:Int) (hb:l.length<=140737488351232) (hs:∀c∈l,c.2.2.size<=140737488351232):Ev (Mv · (l.map qe) x y) ((if Er l=true then G7 l x y else []).map P9):=by
 refine Ho (FG (R:=λn=>Mu n (l.map qe) x y) (qx (Ll l hb hs) ?_) λn=>rfl);cases hB:Er l with
 |false=>exact D4 rfl (D4 rfl (qw rfl))
 |true=>exact ER rfl (qx (Lm l x y (I0 hB) hs) (D4 (zD (by simp)) (qw rfl)))
structure QJ (sc:Nat->List Nat) (a n:Nat) (Q:List Nat) (k:Nat):Prop where
 jnd:Q.Nodup
 jlt:∀x∈Q,x<n
 jrc:∀x∈Q,Rch sc a x
 jst:∀j∈sc a,j∈Q
 jdn:∀i q,i<k->Q[i]?=some q->∀j∈sc q,j∈Q
theorem QJ.len {sc:Nat->List Nat} {a n:Nat} {Q:List Nat} {k:Nat} (h:QJ sc a n Q k):Q.length<=n:=VR n Q h.jnd h.jlt
theorem QJ.all {sc:Nat->List Nat} {a n:Nat} {Q:List Nat} (h:QJ sc a n Q Q.length):a∈Q↔Rch sc a a:=by
 have key:∀x,Rch sc a x->x∈Q:=λx hx=>by
  induction hx with
  |one h1=>exact h.jst _ h1
  |more h1 h2 ih=>
   obtain ⟨i,hi,e⟩:=List.mem_iff_getElem.1 ih;exact h.jdn i _ hi (by rw [zW hi,e]) _ h2
 exact ⟨h.jrc a,key a⟩
theorem QJ.next {sc:Nat->List Nat} {a n:Nat} {Q:List Nat} {k q:Nat} (h:QJ sc a n Q k) (hq:Q[k]?=some q) (hs:∀j∈sc q,j<n):QJ sc a n (ET Q (sc q)) (k+1):=by
 have hk:=(zamJ.1 hq).1;have hm:=zi hq;refine ⟨KV _ _ h.jnd,λx hx=>?_,λx hx=>?_,λj hj=>(F2 _ _).2 (.inl (h.jst j hj)),λi r hi hr=>?_⟩
 ·rcases (F2 _ _).1 hx with hx|hx
  ·exact h.jlt x hx
  ·exact hs x hx
 ·rcases (F2 _ _).1 hx with hx|hx
  ·exact h.jrc x hx
  ·exact .more (h.jrc q hm) hx
 ·rw [PM _ _ i (by omega)] at hr;by_cases e:i=k
  ·subst e;rw [hq] at hr;cases hr;exact λj hj=>(F2 _ _).2 (.inr hj)
  ·exact λj hj=>(F2 _ _).2 (.inl (h.jdn i r (by omega) hr j hj))
theorem QJ.start {sc:Nat->List Nat} {a n:Nat} (hd:(sc a).Nodup) (hs:∀j∈sc a,j<n):QJ sc a n (sc a) 0:=⟨hd,hs,λx hx=> .one hx,λj hj=>hj,λi q hi=>absurd hi (Nat.not_lt_zero i)⟩
theorem adl (n:Nat) (l:List Cl) (h:Er l=true) (b:Bool) (x y k:Int) (Q M:List Nat) (hQ:Q.Nodup/\∀q∈Q,q<l.length) (hM:∀q∈M,q<l.length) (hM2:M.length<=120) (hn:130<=n):
  zE (G1 n) n (l.map qe,b,Q.length,k,M.length,0,x,y,Q.map (Gt l),M.map (Gt l))=some (l.map qe,b,(ET Q M).length,k,x,y,(ET Q M).map (Gt l)):=by
 have hl:=I0 h;have hlt:∀i,∀q∈ET Q (M.take i),q<l.length:=λi q hq=>by
  rcases (F2 _ _).1 hq with hq|hq
  ·exact hQ.2 q hq
  ·exact hM q (List.mem_of_mem_take hq)
 have h:=S4 (B:=G1 n) (λi=>(l.map qe,b,(ET Q (M.take i)).length,k,M.length,(i:Int),x,y,(ET Q (M.take i)).map (Gt l),M.map (Gt l))) M (λ_ _=>none) (l.map qe,b,(ET Q M).length,k,x,y,(ET Q M).map (Gt l))
  (λi j he=>by
   have hi:=(zamJ.1 he).1;have hj:=hM j (zi he);have hg:(M.map (Gt l))[((i:Int)).toNat]?=some (Gt l j):=by rw [bO];exact X0 he
   have a1:decide (M.length=(M.map (Gt l)).length/\0<=(i:Int)/\(i:Int)<((M.length:Nat):Int))=true:=zD ⟨by simp,by omega,by omega⟩;have w:IntKind.i64.wrap ((i:Int)+1)=((i+1:Nat):Int):=by rw [ql (by omega)];omega
   have hlen:(ET Q (M.take i)).length<=120:=zS (VR l.length _ (KV _ _ hQ.1) (hlt i)) hl;have hh:=Zw l (ET Q (M.take i)) (by omega) (DU l j) n (by omega);rw [bg h (hlt i) hj] at hh;have et:M.take (i+1)=M.take i++ [j]:=by rw [List.take_add_one,he];rfl
   refine qb (zD (by dsimp only;omega)) (qb a1 (qa hg (qa rfl (qa rfl (qb (zD (by simp)) (qa hh (qb (NQ _) ?_)))))));dsimp only;rw [et,RA,w];cases (ET Q (M.take i)).contains j with
   |true=>
    refine qc rfl ?_;rw [qf,if_pos rfl]
   |false=>
    refine qb rfl (qb a1 (qa hg (qa rfl (qa rfl (qb rfl (qb (dk (by simp) (by omega) rfl) ?_))))));rw [qf,if_neg (by simp),zamO,List.map_append];rfl)
  (qc (zd (by simp)) (by rw [List.take_length];rfl)) n (by omega)
 rw [Hp] at h;exact h
theorem tu (l:List Cl) (h:Er l=true) (a:Nat) (b:Bool) (n:Nat) (hn:130<=n) (hL:∀q,q<l.length->GH n (l.map qe) (DU l q).1 (DU l q).2=some ((scL l q).length,(scL l q).map (Gt l))):∀(d k:Nat) (Q:List Nat) (M:Nat),QJ (scL l) a l.length Q k->k<=Q.length->l.length=k+d->d+1<=M->
  ∃R:List Nat,QJ (scL l) a l.length R R.length/\zE (GI n) M (l.map qe,b,Q.length,(k:Int),(DU l a).1,(DU l a).2,Q.map (Gt l))=some (b,R.length,(DU l a).1,(DU l a).2,R.map (Gt l)):=by
 have hl:=I0 h;intro d
 induction d with
 |zero=>
  intro k Q M hI hkl hD hM;obtain ⟨M,rfl⟩:∃q,M=q+1:=⟨M-1,by omega⟩;have:=hI.len;have hk:k=Q.length:=by omega
  subst hk;exact ⟨Q,hI,qd (qc (zd (by simp)) rfl)⟩
 |succ d ih=>
  intro k Q M hI hkl hD hM;obtain ⟨M,rfl⟩:∃q,M=q+1:=⟨M-1,by omega⟩;by_cases hk:k=Q.length
  ·subst hk;exact ⟨Q,hI,qd (qc (zd (by simp)) rfl)⟩
  have hkl:k<Q.length:=by omega
  have hg:=zW hkl;generalize Q[k]=q at hg;have hq:=hI.jlt q (zi hg);have w:IntKind.i64.wrap ((k:Int)+1)=((k+1:Nat):Int):=by rw [ql (by omega)];omega
  have c1:decide ((k:Int)<((Q.length:Nat):Int))=true:=zD (by omega);have c2:decide (Q.length=(Q.map (Gt l)).length/\0<=(k:Int)/\(k:Int)<((Q.length:Nat):Int))=true:=zD ⟨by simp,by omega,by omega⟩;have c3:(Q.map (Gt l))[((k:Int)).toNat]?=some (Gt l q):=by rw [bO];exact X0 hg
  have hA:=adl n l h b (DU l a).1 (DU l a).2 (k:Int) Q (scL l q) ⟨hI.jnd,hI.jlt⟩ (λj hj=>LJ hj) (zS (Oa _ _ _) hl) hn;have hN:=hI.next hg λj hj=>LJ hj
  obtain ⟨R,h1,h2⟩:=ih (k+1) (ET Q (scL l q)) M hN (by have:=S6 (scL l q) Q;omega) (by omega) (by omega);refine ⟨R,h1,?_⟩;rw [qm (v':=(l.map qe,b,(ET Q (scL l q)).length,((k+1:Nat):Int),(DU l a).1,(DU l a).2,(ET Q (scL l q)).map (Gt l))) (by
   refine qb c1 (qb c2 (qa c3 (qa rfl (qa rfl (qa (hL q hq) (qa hA ?_))))));rw [qf,<-w])]
  exact h2
theorem ku {l:List Cl} {x y:Int} (hx:¬∃a,a<l.length/\DU l a=(x,y)):G7 l x y= []:=by
 unfold G7;have e1:OZ l x y=⟨#[]⟩:=by
  unfold OZ;cases hf:l.find? λe=>e.1==x&&e.2.1==y with
  |none=>rfl
  |some e=>
   have h1:=List.find?_some hf;simp only [zL,zanG] at h1;obtain ⟨i,hi,e1⟩:=List.mem_iff_getElem.1 (List.mem_of_find?_eq_some hf);exact absurd ⟨i,hi,(Jj (zW hi)).trans (by rw [e1];exact Prod.ext h1.1 h1.2)⟩ hx
 rw [e1,ki];unfold HS;simp
theorem law (rows:List (List PV)) (w:rows.length*1<=140737488351232/\∀r∈rows,okR [.i .u8] r):Ev (OO · rows) true:=by
 refine Ho (FG (R:=λn=>Kl n rows) (qx (Z4 rows) ?_) λn=>rfl);by_cases h:(rows.length:Int)>1048576
 ·exact D4 (zD h) (qw rfl)
 refine ER (zd h) ?_;have hrd:=lj w.2 h;obtain ⟨l,x,y,⟨hlen,hsz⟩,hd⟩:=Wd hrd;have hb:l.length<=140737488351232:=by omega
 have hs:∀c∈l,c.2.2.size<=140737488351232:=λc hc=>by have:=hsz c hc;omega
 obtain ⟨b,e1,h1⟩:=VU l x y hb hs;obtain ⟨b',e2,h2⟩:=VT l x y hb hs;have:b=b':=(Bool.eq_iff_iff.2 (e2.trans e1.symm)).symm;subst this;have hLi:=Px l x y hb hs;have hLs:=UE l x y hb hs;have hLe:(if Er l=true then ((G7 l x y).length,(G7 l x y).map P9) else (0,[]))=((if Er l=true then G7 l x y else []).length,(if Er l=true then G7 l x y else []).map P9):=by split<;>rfl
 rw [hLe] at hLi;have hsame:=U6 (if Er l=true then G7 l x y else []) (by
  split
  ·have:=VQ (arL (OZ l x y)) l;unfold G7;omega
  ·exact Nat.zero_le _)
 refine qx hd (qx h2 (qx h1 (ER (by simp) (qx hLi (qx hLs (D4 (zD (by simp)) (qx hsame (D4 (NQ _) (ER rfl (qx hLi ?_))))))))));have none:(if Er l=true then G7 l x y else [])= []->b=false->Dwx (λy:Bool=>y=true) λn=>(.opt (zE (GI n) n (l.map qe,b,(if Er l=true then G7 l x y else []).length,(0:Int),x,y,(if Er l=true then G7 l x y else []).map P9)) λr188=>(.ask (decide (r188.2.1=r188.2.2.2.2.length)) (.opt (IF n r188.2.2.2.2 r188.2.2.1 r188.2.2.2.1) λr189=>(.ask (aZ (⟨(.c (.p (.b r189))),[],[]⟩:Res)) (.done (r189==r188.1)) .fail)) .fail):Tr Bool):=λe0 eb=>by
  rw [e0,eb];refine qx (r:=(false,0,x,y,[])) ⟨1,λm hm=>?_⟩ (D4 rfl (qx (r:=false) ⟨3,λn hn=>Zw l [] (by simp) (x,y) n hn⟩ (D4 (NQ _) (qw rfl))));obtain ⟨M,rfl⟩:∃q,m=q+1:=⟨m-1,by omega⟩;exact qd (qc rfl rfl)
 cases hB:Er l with
 |false=>
  rw [hB] at none;refine none rfl ?_;rw [aE];intro e;have:=(e1.1 e).1;rw [hB] at this;cases this
 |true=>
  rw [hB] at none;by_cases hx:∃a,a<l.length/\DU l a=(x,y)
  ·obtain ⟨a,ha,hr⟩:=hx;have hl:=I0 hB;obtain ⟨n1,hL1⟩:=Eu (F:=λ(q:Nat) n=>GH n (l.map qe) (DU l q).1 (DU l q).2) (f:=λq=>((scL l q).length,(scL l q).map (Gt l))) (List.range l.length) λq hq=>by
    have hq:=List.mem_range.1 hq;have:=Px l (DU l q).1 (DU l q).2 hb hs;rw [if_pos hB,X2 hB hq,zamV,List.map_map] at this;exact this
   have hL:∀n,n1<=n->∀q,q<l.length->GH n (l.map qe) (DU l q).1 (DU l q).2=some ((scL l q).length,(scL l q).map (Gt l)):=λn hn q hq=>hL1 n hn q (List.mem_range.2 hq)
   have ex:(DU l a).1=x:=congrArg Prod.fst hr;have ey:(DU l a).2=y:=congrArg Prod.snd hr;have hI:QJ (scL l) a l.length (scL l a) 0:=QJ.start (v6 _ _ _) λj hj=>LJ hj
   have e0:G7 l x y=(scL l a).map (DU l):=by rw [<-ex,<-ey];exact X2 hB ha
   have em:((scL l a).map (DU l)).map P9=(scL l a).map (Gt l):=by rw [List.map_map];rfl
   rw [if_pos rfl,e0,em,zamV];refine ?_;have fin:∀n,n1+140+l.length<=n->((.opt (zE (GI n) n (l.map qe,b,(scL l a).length,(0:Int),x,y,(scL l a).map (Gt l))) λr188=>(.ask (decide (r188.2.1=r188.2.2.2.2.length)) (.opt (IF n r188.2.2.2.2 r188.2.2.1 r188.2.2.2.1) λr189=>(.ask (aZ (⟨(.c (.p (.b r189))),[],[]⟩:Res)) (.done (r189==r188.1)) .fail)) .fail)):Tr Bool).run=some true:=λn hn=>by
    obtain ⟨R,q1,q2⟩:=tu l hB a b n (by omega) (hL n (by omega)) l.length 0 (scL l a) n hI (Nat.zero_le _) (by omega) (by omega);rw [ex,ey] at q2;have hRl:=q1.len;have hh:=Zw l R (by omega) (x,y) n (by omega);refine qa q2 (qb (zD (by simp)) (qa hh (qb (NQ _) ?_)));rw [<-hr,bg hB q1.jlt ha];have hc:R.contains a=b:=by
     rw [Bool.eq_iff_iff,List.contains_iff_mem,q1.all,e1];refine ⟨λhr'=>⟨hB,a,ha,hr,hr'⟩,λ⟨_,a',ha',hr',hc⟩=>?_⟩;have:a'=a:=Ob hB ha' ha (hr'.trans hr.symm);subst this;exact hc
    rw [hc];show some _=some _;simp
   exact ⟨true,rfl,_,fin⟩
  ·refine none ?_ ?_
   ·rw [if_pos rfl];exact ku hx
   ·rw [aE];intro e;obtain ⟨_,a,ha,hr,_⟩:=e1.1 e;exact hx ⟨a,ha,hr⟩
end Go.Proofs.YtilkdjfhbahhdabGreatDoor.KFnCircles

