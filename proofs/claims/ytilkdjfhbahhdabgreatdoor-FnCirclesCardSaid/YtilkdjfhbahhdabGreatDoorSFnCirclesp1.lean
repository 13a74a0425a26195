import Derived.Test.YtilkdjfhbahhdabGreatDoorTFnCircles
import Derived.Test.YtilkdjfhbahhdabGreatDoorE32
import Derived.Lib.Strings
namespace Go.Proofs.YtilkdjfhbahhdabGreatDoor.KFnCircles
open Go.Eng
set_option linter.unusedVariables false
set_option linter.unusedSimpArgs false
abbrev zao:= @Go.Lib.toList_data
def Ev {R:Type} (F:Nat->Option R) (r:R):Prop:=∃n0,∀n,n0<=n->F n=some r
theorem Dz (s:BA):s.toList.length=s.size:=by rw [zao];rfl
theorem q7:(ByteArray.mk #[]).toList= []:=by decide+kernel
theorem ql {x:Int} (h: -9223372036854775808<=x/\x<=9223372036854775807):IntKind.i64.wrap x=x:=by
 unfold IntKind.wrap;have e1:(2:Int)^(64-1)=9223372036854775808:=by decide
 have e2:(2:Int)^64=18446744073709551616:=by decide
 simp only [IntKind.signed,IntKind.bits,Bool.true_and,aC,e1,e2];split<;>omega
theorem U5 (x:Int): -9223372036854775808<=IntKind.i64.wrap x/\IntKind.i64.wrap x<=9223372036854775807:=by
 unfold IntKind.wrap;have e1:(2:Int)^(64-1)=9223372036854775808:=by decide
 have e2:(2:Int)^64=18446744073709551616:=by decide
 simp only [IntKind.signed,IntKind.bits,Bool.true_and,aC,e1,e2];split<;>omega
theorem Ya {s:BA} {i:Nat} (h:i<s.size):∃c,s.toList[i]?=some c:=⟨_,zW (by rw [Dz];exact h)⟩
theorem IG {α:Type} {s:List α} {i:Nat} {c:α} (h:s[i]?=some c):s.drop i=c::s.drop (i+1):=by
 obtain ⟨h1,rfl⟩:=zamJ.1 h;exact List.drop_eq_getElem_cons h1
theorem qm {V R:Type} {B:V->Tr (V⊕R)} {m:Nat} {v v':V} (h:(B v).run=some (.inl v')):zE B (m+1) v=zE B m v':=by simp only [zE,h]
theorem qd {V R:Type} {B:V->Tr (V⊕R)} {m:Nat} {v:V} {r:R} (h:(B v).run=some (.inr r)):zE B (m+1) v=some r:=by simp only [zE,h]
theorem up1 {n n0:Nat} (h:n0+1<=n):∃m,n=m+1/\n0<=m:=⟨n-1,by omega,by omega⟩
theorem qf {α:Type} (x:α):(Tr.done x).run=some x:=rfl
theorem fy {α:Type}:(Tr.fail:Tr α).run=none:=rfl
theorem kv {α:Type} (b:Bool) (t f:Tr α):(Tr.ask b t f).run=if b=true then t.run else f.run:=by cases b<;>rfl
theorem kw {α β:Type} (o:Option β) (k:β->Tr α):(Tr.opt o k).run=o.bind λx=>(k x).run:=by cases o<;>rfl
theorem lf {α β γ:Type} (x:β) (k:β->Tr α) (l:γ->Tr α):(Tr.alt (.inl x) k l).run=(k x).run:=rfl
theorem lg {α β γ:Type} (x:γ) (k:β->Tr α) (l:γ->Tr α):(Tr.alt (.inr x) k l).run=(l x).run:=rfl
theorem Eu {α R:Type} {F:α->Nat->Option R} {f:α->R}:∀(l:List α),(∀c∈l,Ev (F c) (f c))->∃n0,∀n,n0<=n->∀c∈l,F c n=some (f c)
 | [],_=>⟨0,λn _ c hc=>by cases hc⟩
 |a::l,h=>by
  obtain ⟨n1,h1⟩:=h a (zamN ..);obtain ⟨n2,h2⟩:=Eu l λc hc=>h c (zamR _ hc)
  exact ⟨n1+n2,λn hn c hc=>by
   rcases zamT.1 hc with rfl|hc
   ·exact h1 n (by omega)
   ·exact h2 n (by omega) c hc⟩
theorem bj {R:Type} {B:List (List PV)×List (List PV)×Int->Tr ((List (List PV)×List (List PV)×Int)⊕R)} {rows:List (List PV)} {r:R}
  (hs:∀(i:Nat) (e:List PV),rows[i]?=some e->(B (rows,rows,(i:Int))).run=some (.inl (rows,rows,((i+1:Nat):Int)))) (he:(B (rows,rows,(rows.length:Int))).run=some (.inr r)):
  ∀(m i M:Nat),rows.length=i+m->m+1<=M->zE B M (rows,rows,(i:Int))=some r
 |m,i,0,h1,h2=>by omega
 |0,i,M+1,h1,h2=>by
  have hi:i=rows.length:=by omega
  subst hi;rw [qd he]
 |m+1,i,M+1,h1,h2=>by
  have hg:=zW (l:=rows) (i:=i) (by omega);rw [qm (hs i _ hg)];exact bj hs he m (i+1) M (by omega) (by omega)
theorem qa {α β:Type} {o:Option β} {x:β} {k:β->Tr α} {y:Option α} (h:o=some x) (h2:(k x).run=y):(Tr.opt o k).run=y:=by rw [h];exact h2
theorem qb {α:Type} {b:Bool} {t f:Tr α} {y:Option α} (h:b=true) (h2:t.run=y):(Tr.ask b t f).run=y:=by rw [h];exact h2
theorem qc {α:Type} {b:Bool} {t f:Tr α} {y:Option α} (h:b=false) (h2:f.run=y):(Tr.ask b t f).run=y:=by rw [h];exact h2
theorem NQ (b:Bool):aZ (⟨(.c (.p (.b b))),[],[]⟩:Res)=true:=rfl
theorem lh (x:Int):aZ (⟨(.c (.p (.i .i64 x))),[],[]⟩:Res)=true:=rfl
theorem li (x:BA):aZ (⟨(.c (.p (.s x))),[],[]⟩:Res)=true:=rfl
abbrev qk:=And.intro @qf (And.intro @fy (And.intro @kv (And.intro @kw (And.intro @lf (And.intro @lg (And.intro @aA.{0,0} (And.intro @NQ (And.intro @lh (@li)))))))))
theorem F9 (x lo hi:Int):Ev (FM · x lo hi) (decide (lo<=x/\x<=hi)):=by
 refine ⟨1,λn hn=>?_⟩;obtain ⟨m,rfl,hm⟩:=up1 hn;simp only [FM,M8,qk];by_cases h:x≥lo<;>simp [h]
theorem Dt (x lo hi:Int):Ev (D5 · x lo hi) (decide (lo<=x/\x<=hi)):=by
 refine ⟨1,λn hn=>?_⟩;obtain ⟨m,rfl,hm⟩:=up1 hn;simp only [D5,No,qk];by_cases h:x≥lo<;>simp [h]
def okc (c:UInt8):Bool:=decide (32<=c.toNat/\c.toNat<=126)
def FE (s:BA) (most:Int):Bool:=s.toList.all okc&&decide ((s.size:Int)<=most)
def okV (k n:Int) (s:BA):Bool:=
 if k=2 then decide (n=0)&&FE s 200 else (s.toList== [])&&(if k=0 then decide (n=0) else if k=1 then decide (-1000000000000000<=n/\n<=1000000000000000) else if k=3 then decide (0<=n/\n<=1) else if k=4 then decide (1<=n/\n<=5) else false)
theorem Tf (n:Nat) (s:BA) (hb:s.size<=140737488355328):∀(m i M:Nat),s.size=i+m->m+1<=M->
  zE (FY n) M (s,(i:Int))=some (if (s.toList.drop i).all okc then .inr s else .inl false)
 |m,i,0,h1,h2=>by omega
 |0,i,M+1,h1,h2=>by
  rw [qd (r:= .inr s) (by simp [FY,qk,show ¬((i:Int)<s.size) by omega])];rw [List.drop_eq_nil_of_le (by rw [Dz];omega)];rfl
 |m+1,i,M+1,h1,h2=>by
  obtain ⟨c,hc⟩:=Ya (s:=s) (i:=i) (by omega);have hi:(i:Int)<s.size:=by omega
  rw [IG hc];by_cases c1:(c.toNat:Int)<32
  ·rw [qd (r:= .inl false) (by simp [FY,qk,hi,hc,c1])];have:okc c=false:=by simp [okc];omega
   simp [this]
  ·by_cases c2:(c.toNat:Int)>126
   ·rw [qd (r:= .inl false) (by simp [FY,qk,hi,hc,c1,c2])];have:okc c=false:=by simp [okc];omega
    simp [this]
   ·have hw:IntKind.i64.wrap ((i:Int)+1)=((i+1:Nat):Int):=by rw [ql (by omega)];omega
    rw [qm (v':=(s,((i+1:Nat):Int))) (by simp [FY,qk,hi,hc,c1,c2,hw])];rw [Tf n s hb m (i+1) M (by omega) (by omega)];have:okc c=true:=by simp [okc];omega
    simp [this]
theorem OP (s:BA) (hb:s.size<=140737488355328):Ev (Gn · s) (FE s 200):=by
 refine ⟨s.size+2,λn hn=>?_⟩;obtain ⟨m,rfl,hm⟩:=up1 hn;have h:=Tf m s hb s.size 0 m (by omega) (by omega);simp only [Gn,MF,qk];simp only [Int.natCast_zero,List.drop_zero] at h;rw [h];cases hc:s.toList.all okc<;>simp [qk,FE,hc]
theorem Pp (s:BA) (hb:s.size<=140737488351232):Ev (Gn · s) (FE s 200):=OP s (by omega)
theorem VX (n:Nat) (s:BA) (y:Int) (hb:s.size<=140737488355328):∀(m i M:Nat),s.size=i+m->m+1<=M->
  zE (Fu n) M (s,y,(s.size:Int),(i:Int))=some (if (s.toList.drop i).all okc then .inr (s,y) else .inl false)
 |m,i,0,h1,h2=>by omega
 |0,i,M+1,h1,h2=>by
  rw [qd (r:= .inr (s,y)) (by simp [Fu,qk,show ¬((i:Int)<s.size) by omega])];rw [List.drop_eq_nil_of_le (by rw [Dz];omega)];rfl
 |m+1,i,M+1,h1,h2=>by
  obtain ⟨c,hc⟩:=Ya (s:=s) (i:=i) (by omega);have hi:(i:Int)<s.size:=by omega
  rw [IG hc];by_cases c1:(c.toNat:Int)<32
  ·rw [qd (r:= .inl false) (by simp [Fu,qk,hi,hc,c1])];have:okc c=false:=by simp [okc];omega
   simp [this]
  ·by_cases c2:(c.toNat:Int)>126
   ·rw [qd (r:= .inl false) (by simp [Fu,qk,hi,hc,c1,c2])];have:okc c=false:=by simp [okc];omega
    simp [this]
   ·have hw:IntKind.i64.wrap ((i:Int)+1)=((i+1:Nat):Int):=by rw [ql (by omega)];omega
    rw [qm (v':=(s,y,(s.size:Int),((i+1:Nat):Int))) (by simp [Fu,qk,hi,hc,c1,c2,hw])];rw [VX n s y hb m (i+1) M (by omega) (by omega)];have:okc c=true:=by simp [okc];omega
    simp [this]
theorem Pq (s:BA) (y:Int) (hb:s.size<=140737488355328):Ev (HT · s y) (FE s y):=by
 refine ⟨s.size+2,λn hn=>?_⟩;obtain ⟨m,rfl,hm⟩:=up1 hn;have h:=VX m s y hb s.size 0 m (by omega) (by omega);simp only [HT,Np,qk];simp only [Int.natCast_zero,List.drop_zero] at h;rw [h];cases hc:s.toList.all okc<;>simp [qk,FE,hc]
theorem Qs (s:BA) (y:Int) (hb:s.size<=140737488351232):Ev (HT · s y) (FE s y):=Pq s y (by omega)
theorem Dm (k x:Int) (s:BA) (hb:s.size<=140737488351232):Ev (EA · k x s) (okV k x s):=by
 obtain ⟨n1,h1⟩:=F9 x (-1000000000000000) 1000000000000000;obtain ⟨n2,h2⟩:=F9 x 0 1;obtain ⟨n3,h3⟩:=F9 x 1 5;obtain ⟨n4,h4⟩:=Pp s hb;refine ⟨n1+n2+n3+n4+1,λn hn=>?_⟩;obtain ⟨m,rfl,hm⟩:=up1 hn;have h1:=h1 m (by omega);dsimp only at h1;have h2:=h2 m (by omega);dsimp only at h2;have h3:=h3 m (by omega);dsimp only at h3;have h4:=h4 m (by omega);dsimp only at h4;simp only [EA,MH,IL,qk,h1,h2,h3,h4];simp only [okV,q7];by_cases k2:k=2
 ·subst k2;by_cases x0:x=0<;>simp [x0]
 ·by_cases k0:k=0
  ·subst k0;by_cases x0:x=0<;>simp [x0]
  ·by_cases k1:k=1
   ·subst k1;by_cases hx: -1000000000000000<=x/\x<=1000000000000000<;>simp [hx]
   ·by_cases k3:k=3
    ·subst k3;by_cases hx:0<=x/\x<=1<;>simp [hx]
    ·by_cases k4:k=4
     ·subst k4;by_cases hx:1<=x/\x<=5<;>simp [hx]
     ·simp [k0,k1,k2,k3,k4]
theorem Li (k x:Int) (s:BA) (hb:s.size<=140737488351232):Ev (FC · k x s) (okV k x s):=by
 obtain ⟨n1,h1⟩:=Dt x (-1000000000000000) 1000000000000000;obtain ⟨n2,h2⟩:=Dt x 0 1;obtain ⟨n3,h3⟩:=Dt x 1 5;obtain ⟨n4,h4⟩:=Qs s 200 hb;refine ⟨n1+n2+n3+n4+1,λn hn=>?_⟩;obtain ⟨m,rfl,hm⟩:=up1 hn;have h1:=h1 m (by omega);dsimp only at h1;have h2:=h2 m (by omega);dsimp only at h2;have h3:=h3 m (by omega);dsimp only at h3;have h4:=h4 m (by omega);dsimp only at h4;simp only [FC,Ma,qk,h1,h2,h3,h4];simp only [okV,q7];by_cases k2:k=2
 ·subst k2;by_cases x0:x=0<;>simp [x0]
 ·by_cases he:s.toList= []
  ·by_cases k0:k=0
   ·subst k0;by_cases x0:x=0<;>simp [x0,he]
   ·by_cases k1:k=1
    ·subst k1;simp [he]
    ·by_cases k3:k=3
     ·subst k3;simp [he]
     ·by_cases k4:k=4
      ·subst k4;simp [he]
      ·simp [k0,k1,k2,k3,k4,he]
  ·simp [k2,he]
abbrev V3:=Int×Int×BA
def em:BA:=⟨#[]⟩
theorem WV (x:Int):Ev (Hd · x) (4,x,em):=by
 refine ⟨1,λn hn=>?_⟩;obtain ⟨m,rfl,hm⟩:=up1 hn;simp only [Hd,MK,qk];rfl
theorem R5 (x:Int):Ev (F6 · x) (4,x,em):=by
 refine ⟨1,λn hn=>?_⟩;obtain ⟨m,rfl,hm⟩:=up1 hn;simp only [F6,Ot,qk];rfl
theorem Qt (x:Int):Ev (IE · x) (1,x,em):=by
 refine ⟨1,λn hn=>?_⟩;obtain ⟨m,rfl,hm⟩:=up1 hn;simp only [IE,Nr,qk];rfl
def D8 (c r:Int):Bool:=decide (1<=c/\c<=52)&&decide (1<=r/\r<=99)
def Jg (a b c d:Int):Bool:=D8 a b&&D8 c d&&decide (a<=c)&&decide (b<=d)
theorem Gj (c r:Int):Ev (E1 · c r) (D8 c r):=by
 obtain ⟨n1,h1⟩:=F9 c 1 52;obtain ⟨n2,h2⟩:=F9 r 1 99;refine ⟨n1+n2+1,λn hn=>?_⟩;obtain ⟨m,rfl,hm⟩:=up1 hn;have h1:=h1 m (by omega);dsimp only at h1;have h2:=h2 m (by omega);dsimp only at h2;simp only [E1,Od,qk,h1,h2];unfold D8;cases decide (1<=c/\c<=52)<;>simp
theorem IH (c r:Int):Ev (Ge · c r) (D8 c r):=by
 obtain ⟨n1,h1⟩:=Dt c 1 52;obtain ⟨n2,h2⟩:=Dt r 1 99;refine ⟨n1+n2+1,λn hn=>?_⟩;obtain ⟨m,rfl,hm⟩:=up1 hn;have h1:=h1 m (by omega);dsimp only at h1;have h2:=h2 m (by omega);dsimp only at h2;simp only [Ge,Om,qk,h1,h2];unfold D8;cases decide (1<=c/\c<=52)<;>simp
theorem XT (a b c d:Int):Ev (Ku · a b c d) (Jg a b c d):=by
 obtain ⟨n1,h1⟩:=Gj a b;obtain ⟨n2,h2⟩:=Gj c d;refine ⟨n1+n2+1,λn hn=>?_⟩;obtain ⟨m,rfl,hm⟩:=up1 hn;have h1:=h1 m (by omega);dsimp only at h1;have h2:=h2 m (by omega);dsimp only at h2;simp only [Ku,Nc,qk,h1,h2];unfold Jg;cases D8 a b<;>cases D8 c d<;>by_cases h:a<=c<;>simp [h]
theorem Qu (a b c d:Int):Ev (JG · a b c d) (Jg a b c d):=by
 obtain ⟨n1,h1⟩:=IH a b;obtain ⟨n2,h2⟩:=IH c d;refine ⟨n1+n2+1,λn hn=>?_⟩;obtain ⟨m,rfl,hm⟩:=up1 hn;have h1:=h1 m (by omega);dsimp only at h1;have h2:=h2 m (by omega);dsimp only at h2;simp only [JG,Nv,qk,h1,h2];unfold Jg;cases D8 a b<;>cases D8 c d<;>by_cases h:a<=c<;>simp [h]
def Su (x y:Int):Int:=if x<y then-1 else if x>y then 1 else 0
def td (x y:BA):Int:=if Op.bytesLess x.toList y.toList=true then-1 else if x.toList=y.toList then 0 else 1
def H4:List Int->Int
 | []=>0
 |x::r=>if x≠0 then x else H4 r
theorem XU (x:Int):Ev (HI · x) false:=by
 refine ⟨1,λn hn=>?_⟩;obtain ⟨m,rfl,hm⟩:=up1 hn;simp only [HI,J3,qk];simp
theorem Z3 (x y:Int):Ev (GX · x y) (Su x y):=by
 obtain ⟨n1,h1⟩:=XU x;obtain ⟨n2,h2⟩:=XU y;refine ⟨n1+n2+1,λn hn=>?_⟩;obtain ⟨m,rfl,hm⟩:=up1 hn;have h1:=h1 m (by omega);dsimp only at h1;have h2:=h2 m (by omega);dsimp only at h2;simp only [GX,I7,qk,h1,h2];unfold Su;by_cases h:x<y
 ·simp [h]
 ·by_cases h':x>y
  ·have h'':y<x:=h';simp [h,h'']
  ·have h'':¬y<x:=h';simp [h,h'']
theorem bk (n:Nat) (l:List Int) (hb:l.length<=1000):∀(m i M:Nat),l.length=i+m->m+1<=M->
  zE (G8 n) M (0,l.map (λx=> [PV.i .i64 x]),(l.length:Int),(i:Int))=some (if H4 (l.drop i)≠0 then .inl (H4 (l.drop i)) else .inr 0)
 |m,i,0,h1,h2=>by omega
 |0,i,M+1,h1,h2=>by
  rw [qd (r:= .inr 0) (by simp [G8,qk,show ¬((i:Int)<l.length) by omega])];rw [List.drop_eq_nil_of_le (by omega)];rfl
 |m+1,i,M+1,h1,h2=>by
  have hl:i<l.length:=by omega
  have hg:=zW hl;have hi:(i:Int)<l.length:=by omega
  rw [IG hg];generalize l[i]=c at hg;by_cases hc:c=0
  ·subst hc;have hw:IntKind.i64.wrap ((i:Int)+1)=((i+1:Nat):Int):=by rw [ql (by omega)];omega
   rw [qm (v':=(0,l.map (λx=> [PV.i .i64 x]),(l.length:Int),((i+1:Nat):Int))) (by simp [G8,qk,hi,hg,zC,hw])];rw [bk n l hb m (i+1) M (by omega) (by omega)];simp [H4]
  ·rw [qd (r:= .inl c) (by simp [G8,qk,hi,hg,zC,hc])];simp [H4,hc]
theorem dl (l:List Int) (hb:l.length<=1000):Ev (L4 · (l.map (λx=> [PV.i .i64 x]))) (H4 l):=by
 refine ⟨l.length+2,λn hn=>?_⟩;obtain ⟨m,rfl,hm⟩:=up1 hn;have h:=bk m l hb l.length 0 m (by omega) (by omega);simp only [L4,On,qk];simp only [Int.natCast_zero,List.drop_zero] at h;simp only [zamV];rw [h];by_cases hc:H4 l=0<;>simp [qk,hc]
def tf (k x:Int) (s:BA) (k' x':Int) (s':BA):Int:=H4 [Su k k',Su x x',td s s']
theorem R6 (b:Bool):Ev (J7 · b) (3,if b=true then 1 else 0,em):=by
 refine ⟨1,λn hn=>?_⟩;obtain ⟨m,rfl,hm⟩:=up1 hn;simp only [J7,Ou,qk];cases b<;>rfl
def rj (op o:Int):Bool:=if op=6 then o==0 else if op=7 then o !=0 else if op=8 then decide (o<0) else if op=9 then decide (o<=0) else if op=10 then decide (o>0) else decide (o≥0)
def sy (op k x:Int) (s:BA) (k' x':Int) (s':BA):Int×Int×BA:=
 if okV k x s=true/\okV k' x' s'=true/\6<=op/\op<=11 then
  (if k=4 then (k,x,s) else if k'=4 then (k',x',s') else (3,if rj op (tf (if k=0 then k' else k) x s (if k'=0 then k else k') x' s')=true then 1 else 0,em))
 else (4,2,em)
def Jm (a b c d:Int):Bool:=decide (b<d\/(b=d/\a<c))
theorem WW (a b c d:Int):Ev (Fc · a b c d) (Jm a b c d):=by
 refine ⟨1,λn hn=>?_⟩;obtain ⟨m,rfl,hm⟩:=up1 hn;simp only [Fc,J0,qk];unfold Jm;by_cases h:b<d
 ·simp [h]
 ·by_cases h':b=d
  ·subst h';simp
  ·simp [h,h']
theorem Rq (a b c d:Int):Ev (Ft · a b c d) (H4 [Su b d,Su a c]):=by
 obtain ⟨n1,h1⟩:=Z3 b d;obtain ⟨n2,h2⟩:=Z3 a c;obtain ⟨n3,h3⟩:=dl [Su b d,Su a c] (by simp);refine ⟨n1+n2+n3+1,λn hn=>?_⟩;obtain ⟨m,rfl,hm⟩:=up1 hn;have h1:=h1 m (by omega);dsimp only at h1;have h2:=h2 m (by omega);dsimp only at h2;have h3:=h3 m (by omega);dsimp only at h3;simp only [Ft,JX,qk,h1,h2,h3];simp only [zanE,List.map_nil] at h3;simp [h3]
theorem dm (a b c d:Int):decide (H4 [Su b d,Su a c]≥0)=!(Jm a b c d):=by
 unfold H4 H4 H4 Su Jm;by_cases h1:b<d
 ·simp [h1]
 ·by_cases h2:b>d
  ·have:¬b=d:=by omega
   simp [h1,h2,this]
  ·have:b=d:=by omega
   subst this;by_cases h3:a<c
   ·simp [h3]
   ·by_cases h4:a>c<;>simp [h3,h4]
theorem IR {R:Type} {F:Nat->Option R} {r:R} {k:Nat} (h:∀n,k<=n->F n=some r):Ev F r:=⟨k,h⟩
theorem wf8 {x:Int} (h:(Lit.int .u8 x).wf=true):0<=x/\x<=255:=by
 simp only [Lit.wf,zL,aC] at h;have h1:IntKind.u8.min=0:=by decide
 have h2:IntKind.u8.max=255:=by decide
 omega
theorem rk {x:Int} (h:0<=x/\x<=18446744073709551615):IntKind.u64.wrap x=x:=by
 unfold IntKind.wrap;have e2:(2:Int)^64=18446744073709551616:=by decide
 simp only [IntKind.signed,IntKind.bits,Bool.false_and,cZ,if_false,e2];omega
def O8 (l:List (List PV)):Prop:=l.length<=1048576/\∀e∈l,∃b:Int,e= [.i .u8 b]/\0<=b/\b<=255
theorem lj {l:List (List PV)} (w:∀r∈l,okR [.i .u8] r) (h:¬(l.length:Int)>1048576):O8 l:=by
 refine ⟨by omega,λe he=>?_⟩;obtain ⟨x,r,rfl,h1,h2⟩:=sZ (w e he);obtain ⟨n,rfl,h3⟩:=C6 h1;obtain rfl:=wJ h2;exact ⟨n,rfl,wf8 h3⟩
theorem Z4 (l:List (List PV)):Ev (Oc · l) (decide ((l.length:Int)>1048576)):=by
 refine ⟨1,λn hn=>?_⟩;obtain ⟨m,rfl,hm⟩:=up1 hn;simp only [Oc,SC,qk]
theorem ll (l:List (List PV)):∀n,1<=n->Kt n l=some (l,0):=λn hn=>by
 obtain ⟨m,rfl,_⟩:=up1 hn;simp [Kt,Na,qk]
theorem ZP {l:List (List PV)} {p:Int} (hl:O8 l) (hp:0<=p/\p<=l.length):∃(a p':Int),(0<=p'/\p'<=l.length)/\(0<=a/\a<=255)/\∀n,1<=n->FL n l p=some (a,l,p'):=by
 have h1:=hl.1;by_cases h:p≥l.length
 ·refine ⟨0,p,hp,by decide,λn hn=>?_⟩;obtain ⟨m,rfl,_⟩:=up1 hn;simp [FL,Io,qk,h]
 ·have hlt:p.toNat<l.length:=by omega
  obtain ⟨b,hb,b0,b1⟩:=hl.2 _ (List.getElem_mem hlt);have hg:l[p.toNat]?=some [.i .u8 b]:=by rw [zW hlt,hb]
  refine ⟨b,p+1,by omega,⟨b0,b1⟩,λn hn=>?_⟩;obtain ⟨m,rfl,_⟩:=up1 hn;have w1:IntKind.i64.wrap (p+1)=p+1:=ql (by omega);have w2:IntKind.i64.wrap p=p:=ql (by omega);have w3:IntKind.i64.wrap b=b:=ql (by omega);have hp2:p<l.length:=by omega
  simp [FL,Io,qk,h,w1,w2,w3,hp.1,hp2,hg,hb,zC]
theorem GJ {l:List (List PV)} {p:Int} (k:Int) (hk:1<k/\k<=1000000) (hl:O8 l) (hp:0<=p/\p<=l.length):∃(a p':Int),(0<=p'/\p'<=l.length)/\(0<=a/\a<k)/\∀n,2<=n->qi n k l p=some (a,l,p'):=by
 obtain ⟨a,p',h1,h2,h3⟩:=ZP hl hp;have k1:¬k<=1:=by omega
 have k3:¬k=0:=by omega
 by_cases k2:k<=256
 ·have e:Int.tmod a k=a%k:=Int.tmod_eq_emod_of_nonneg h2.1;refine ⟨a%k,p',h1,⟨Int.emod_nonneg a (by omega),Int.emod_lt_of_pos a (by omega)⟩,λn hn=>?_⟩;obtain ⟨m,rfl,hm⟩:=up1 hn;have h3:=h3 m (by omega);simp [qi,G9,qk,h3,k1,k2,k3,e]
 ·obtain ⟨b,p2,g1,g2,g3⟩:=ZP hl h1;have w1:IntKind.i64.wrap (a*256)=a*256:=ql (by omega);have w2:IntKind.i64.wrap (a*256+b)=a*256+b:=ql (by omega);have e:Int.tmod (a*256+b) k=(a*256+b)%k:=Int.tmod_eq_emod_of_nonneg (by omega);refine ⟨(a*256+b)%k,p2,g1,⟨Int.emod_nonneg _ (by omega),Int.emod_lt_of_pos _ (by omega)⟩,λn hn=>?_⟩;obtain ⟨m,rfl,hm⟩:=up1 hn;have h3:=h3 m (by omega);have g3:=g3 m (by omega);simp [qi,G9,qk,h3,g3,k1,k2,k3,e,w1,w2]
theorem O9 {l:List (List PV)} {p:Int} (k:Int) (hk:1<k/\k<=1000000) (hl:O8 l) (hp:0<=p/\p<=l.length):∃(b:Bool) (p':Int),(0<=p'/\p'<=l.length)/\∀n,3<=n->DR n k l p=some (b,l,p'):=by
 obtain ⟨a,p',h1,h2,h3⟩:=GJ k hk hl hp;refine ⟨a==IntKind.i64.wrap (k-1),p',h1,λn hn=>?_⟩;obtain ⟨m,rfl,hm⟩:=up1 hn;have h3:=h3 m (by omega);simp [DR,Ka,qk,h3]
theorem Yb {l:List (List PV)} (hl:O8 l):∀(m:Nat) (i:Nat) (v p:Int),i+m=8->(0<=p/\p<=l.length)->∃(r p':Int),(0<=p'/\p'<=l.length)/\∀n M,1<=n->m+1<=M->zE (GT n) M (v,(i:Int),l,p)=some (r,l,p')
 |0,i,v,p,h,hp=>by
  refine ⟨v,p,hp,λn M hn hM=>?_⟩;obtain ⟨M,rfl⟩:∃q,M=q+1:=⟨M-1,by omega⟩;have hi:¬(i:Int)<8:=by omega
  rw [qd (r:=(v,l,p)) (by simp [GT,qk,hi])]
 |m+1,i,v,p,h,hp=>by
  obtain ⟨a,p1,h1,h2,h3⟩:=ZP hl hp;obtain ⟨r,p2,h4,h5⟩:=Yb hl m (i+1) (IntKind.u64.wrap ((BitVec.ofInt IntKind.u64.bits (IntKind.u64.wrap (v*(2:Int)^(8:Nat)))|||BitVec.ofInt IntKind.u64.bits (IntKind.u64.wrap a)).toNat:Int)) p1 (by omega) h1;refine ⟨r,p2,h4,λn M hn hM=>?_⟩;obtain ⟨M,rfl⟩:∃q,M=q+1:=⟨M-1,by omega⟩;have hi:(i:Int)<8:=by omega
  have w1:IntKind.i64.wrap ((i:Int)+1)=((i+1:Nat):Int):=by rw [ql (by omega)];omega
  have h3:=h3 n hn;rw [qm (v':=(IntKind.u64.wrap ((BitVec.ofInt IntKind.u64.bits (IntKind.u64.wrap (v*(2:Int)^(8:Nat)))|||BitVec.ofInt IntKind.u64.bits (IntKind.u64.wrap a)).toNat:Int),((i+1:Nat):Int),l,p1)) (by
   simp only [GT,qk,h3,w1];rw [if_pos (by simpa using hi)])]
  exact h5 n M hn (by omega)
theorem lm {l:List (List PV)} {p:Int} (hl:O8 l) (hp:0<=p/\p<=l.length):∃(r p':Int),(0<=p'/\p'<=l.length)/\∀n,10<=n->Is n l p=some (r,l,p'):=by
 obtain ⟨r,p',h1,h2⟩:=Yb hl 8 0 0 p rfl hp;refine ⟨r,p',h1,λn hn=>?_⟩;obtain ⟨m,rfl,hm⟩:=up1 hn;have h2:=h2 m m (by omega) (by omega);simp only [Int.natCast_zero] at h2;simp only [Is,Kb,qk,h2]
theorem lu {l:List (List PV)} {p:Int} (lo hi:Int) (hk: -1000<=lo/\lo<=hi/\hi<=1000) (hl:O8 l) (hp:0<=p/\p<=l.length):∃(x p':Int),(0<=p'/\p'<=l.length)/\(-9223372036854775808<=x/\x<=9223372036854775807)/\∀n,11<=n->Gk n lo hi l p=some (x,l,p'):=by
 obtain ⟨a,p1,h1,h2,h3⟩:=GJ 8 (by decide) hl hp;by_cases a0:a=0
 ·refine ⟨lo,p1,h1,by omega,λn hn=>?_⟩;obtain ⟨m,rfl,hm⟩:=up1 hn;have h3:=h3 m (by omega);simp [Gk,Hb,qk,h3,a0]
 ·by_cases a1:a=1
  ·refine ⟨hi,p1,h1,by omega,λn hn=>?_⟩;obtain ⟨m,rfl,hm⟩:=up1 hn;have h3:=h3 m (by omega);simp [Gk,Hb,qk,h3,a1]
  ·obtain ⟨r,p2,h4,h5⟩:=lm hl h1;refine ⟨_,p2,h4,U5 (lo+IntKind.i64.wrap (Int.tmod (Int.fdiv r ((2:Int)^(1:Nat))) (IntKind.u64.wrap (IntKind.i64.wrap (IntKind.i64.wrap (hi-lo)+1))))),λn hn=>?_⟩;obtain ⟨m,rfl,hm⟩:=up1 hn;have h3:=h3 m (by omega);have h5:=h5 m (by omega);have c1:¬hi<lo:=by omega
   have w1:IntKind.i64.wrap (hi-lo)=hi-lo:=ql (by omega);have w2:IntKind.i64.wrap (hi-lo+1)=hi-lo+1:=ql (by omega);have w3:IntKind.u64.wrap (hi-lo+1)=hi-lo+1:=rk (by omega);have w4:¬hi-lo+1=0:=by omega
   simp only [Gk,Hb,qk,h3,h5,w1,w2,w3];simp [a0,a1,c1,w4]
theorem ou {l:List (List PV)} {p:Int} (lo hi:Int) (hk: -1000<=lo/\lo<=hi/\hi<=1000) (hl:O8 l) (hp:0<=p/\p<=l.length):∃(x p':Int),(0<=p'/\p'<=l.length)/\(-9223372036854775808<=x/\x<=9223372036854775807)/\∀n,12<=n->Fi n lo hi l p=some (x,l,p'):=by
 obtain ⟨b,p1,h1,h2⟩:=O9 24 (by decide) hl hp;cases b with
 |true=>
  obtain ⟨a,p2,h3,h4,h5⟩:=GJ 4 (by decide) hl h1;have c:a=0\/a=1\/a=2\/a=3:=by omega
  rcases c with rfl|rfl|rfl|rfl
  ·refine ⟨IntKind.i64.wrap (lo-1),p2,h3,U5 _,λn hn=>?_⟩;obtain ⟨m,rfl,hm⟩:=up1 hn;have h2:=h2 m (by omega);have h5:=h5 m (by omega);simp [Fi,GO,qk,h2,h5,zC]
  ·refine ⟨IntKind.i64.wrap (hi+1),p2,h3,U5 _,λn hn=>?_⟩;obtain ⟨m,rfl,hm⟩:=up1 hn;have h2:=h2 m (by omega);have h5:=h5 m (by omega);simp [Fi,GO,qk,h2,h5,zC]
  ·refine ⟨-9223372036854775808,p2,h3,by decide,λn hn=>?_⟩;obtain ⟨m,rfl,hm⟩:=up1 hn;have h2:=h2 m (by omega);have h5:=h5 m (by omega);simp [Fi,GO,qk,h2,h5,zC]
  ·refine ⟨9223372036854775807,p2,h3,by decide,λn hn=>?_⟩;obtain ⟨m,rfl,hm⟩:=up1 hn;have h2:=h2 m (by omega);have h5:=h5 m (by omega);simp [Fi,GO,qk,h2,h5,zC]
 |false=>
  obtain ⟨x,p2,h3,h4,h5⟩:=lu lo hi hk hl h1;refine ⟨x,p2,h3,h4,λn hn=>?_⟩;obtain ⟨m,rfl,hm⟩:=up1 hn;have h2:=h2 m (by omega);have h5:=h5 m (by omega);simp [Fi,GO,qk,h2,h5]
def bm (x:Int×Int):List PV:= [.i .i64 x.1,.i .i64 x.2]
theorem Yc {a b c d:Int} (h:Jg a b c d=true):(1<=a/\a<=52)/\(1<=b/\b<=99)/\(1<=c/\c<=52)/\(1<=d/\d<=99)/\a<=c/\b<=d:=by
 simp only [Jg,D8,zL,aC] at h;obtain ⟨⟨⟨⟨h1,h2⟩,h3,h4⟩,h5⟩,h6⟩:=h;exact ⟨h1,h2,h3,h4,h5,h6⟩
theorem U6 (l:List (Int×Int)) (hb:l.length<=140737488351232):Ev (JS · (l.map bm) (l.map bm)) true:=by
 refine ⟨l.length+5,λn hn=>?_⟩;obtain ⟨m,rfl,hm⟩:=up1 hn;simp only [JS,Lh,qk];have h:=bj (B:=Gs m) (rows:=l.map bm) (r:= .inr ())
  (λi e he=>by
   rw [zamS,zF] at he;obtain ⟨c,hc,rfl⟩:=he;have hi:i<l.length:=(zamJ.1 hc).1;have hi':(i:Int)<l.length:=by omega
   have hw:IntKind.i64.wrap ((i:Int)+1)=(i:Int)+1:=ql (by omega);simp [Gs,qk,hi',hc,bm,zC,hw])
  (by simp [Gs,qk]) l.length 0 m (by simp) (by omega)
 simp only [Int.natCast_zero] at h;simp [h,qk]
theorem U7 {l:List (List PV)} {p:Int} (hl:O8 l) (hp:0<=p/\p<=l.length):∃(a b p':Int),(0<=p'/\p'<=l.length)/\∀n,3<=n->D1 n l p=some (a,b,l,p'):=by
 obtain ⟨a,p1,h1,h2,h3⟩:=GJ 3 (by decide) hl hp;obtain ⟨b,p2,h4,h5,h6⟩:=GJ 4 (by decide) hl h1;refine ⟨IntKind.i64.wrap (1+a),IntKind.i64.wrap (1+b),p2,h4,λn hn=>?_⟩;obtain ⟨m,rfl,hm⟩:=up1 hn;have h3:=h3 m (by omega);have h6:=h6 m (by omega);simp [D1,LL,qk,h3,h6]
theorem lw {l:List (List PV)} {p:Int} (hl:O8 l) (hp:0<=p/\p<=l.length):∃(a b c d p':Int),(0<=p'/\p'<=l.length)/\∀n,13<=n->Gl n l p=some (a,b,c,d,l,p'):=by
 obtain ⟨a,b,p1,h1,h2⟩:=U7 hl hp;obtain ⟨c,d,p2,h3,h4⟩:=U7 hl h1;obtain ⟨o,p3,h5,h6⟩:=O9 20 (by decide) hl h3;cases o with
 |true=>
  obtain ⟨x,p4,h7,_,h8⟩:=ou 1 99 (by decide) hl h5;refine ⟨(if c<a then c else a),(if d<b then d else b),(if c>a then c else a),x,p4,h7,λn hn=>?_⟩;obtain ⟨m,rfl,hm⟩:=up1 hn;have h2:=h2 m (by omega);have h4:=h4 m (by omega);have h6:=h6 m (by omega);have h8:=h8 m (by omega);simp [Gl,It,qk,h2,h4,h6,h8]
 |false=>
  refine ⟨(if c<a then c else a),(if d<b then d else b),(if c>a then c else a),(if d>b then d else b),p3,h5,λn hn=>?_⟩;obtain ⟨m,rfl,hm⟩:=up1 hn;have h2:=h2 m (by omega);have h4:=h4 m (by omega);have h6:=h6 m (by omega);simp [Gl,It,qk,h2,h4,h6]
def JH (x:Int):BA:=⟨(Lib.itoa x).toArray⟩
theorem H5 (a b:BA):(a++b).data.toList=a.data.toList++b.data.toList:=by
 rw [ByteArray.data_append,Array.toList_append]
theorem NR {a b:BA} (h:a.data.toList=b.data.toList):a=b:=by
 cases a;cases b
 congr 1
 exact Array.toList_inj.1 h
theorem IK {a b:BA} (h:a.toList=b.toList):a=b:=NR (by rw [<-zao,<-zao];exact h)
theorem HY (a:BA):a.size=a.data.toList.length:=by rw [Array.length_toList];rfl
theorem u8w {q:Nat} (h:q<10):IntKind.u8.wrap (IntKind.i64.wrap (48+(q:Int)))=((48+q:Nat):Int):=by
 rw [ql (by omega)];unfold IntKind.wrap;have e2:(2:Int)^8=256:=by decide
 simp only [IntKind.signed,IntKind.bits,Bool.false_and,cZ,if_false,e2];omega
theorem ol:∀(k v:Nat),1<=v->v<10^k->Lib.nDigits v<=k:=by
 intro k
 induction k with
 |zero=>intro v hv hv';simp at hv';omega
 |succ k ih=>
  intro v hv hv';by_cases h10:v<10
  ·rw [Lib.nDigits_small h10];omega
  ·rw [Lib.nDigits_big h10];have:=ih (v/10) (by omega) (by rw [Nat.pow_succ] at hv';omega);omega
theorem RB (u:Nat) (h:u<=1000000000000000000):(Lib.decDigits u).length<=19:=by
 have p:(10:Nat)^19=10000000000000000000:=by decide
 rw [Lib.decDigits_length];rcases Nat.lt_or_ge u 1 with h6|h6
 ·have:u=0:=by omega
  subst this;rw [Lib.nDigits_small (by decide)]
  decide
 ·exact ol 19 u h6 (by omega)
def qt (x:Int):BA:=if x=1 then ⟨#[35,68,73,86,33]⟩ else if x=2 then ⟨#[35,84,89,80,69,33]⟩ else if x=3 then ⟨#[35,82,69,70,33]⟩ else if x=4 then ⟨#[35,79,86,69,82,33]⟩ else if x=5 then ⟨#[35,67,89,67,76,69,33]⟩ else ⟨#[]⟩
theorem lt6 {x:Int} (h:0<=x/\x<=5):x=0\/x=1\/x=2\/x=3\/x=4\/x=5:=by omega
def Z5 (x:Int):BA:=if x=1 then ⟨#[84,82,85,69]⟩ else ⟨#[70,65,76,83,69]⟩
theorem bn {x:Int} {s:BA} (h:okV 1 x s=true): -1000000000000000<=x/\x<=1000000000000000:=by
 simp [okV] at h;exact h.2
theorem Tg {x:Int} {s:BA} (h:okV 2 x s=true):x=0/\(s.size:Int)<=200/\s.toList.all okc=true:=by
 simp only [okV,FE,if_true,zL,aC] at h;exact ⟨h.1,h.2.2,h.2.1⟩
theorem Yd {x:Int} {s:BA} (h:okV 3 x s=true):0<=x/\x<=1:=by
 simp [okV] at h;exact h.2
theorem Ye {x:Int} {s:BA} (h:okV 4 x s=true):1<=x/\x<=5:=by
 simp [okV] at h;exact h.2
def Di (k x:Int) (s:BA):BA:=if k=1 then JH x else if k=2 then ⟨#[39]⟩++s else if k=3 then Z5 x else if k=4 then qt x else ⟨#[]⟩
theorem OQ {x:Int} (h: -1000000000000000000<=x/\x<=1000000000000000000):(JH x).size<=20:=by
 rw [HY];show (Lib.itoa x).length<=20;unfold Lib.itoa;split
 ·have:=RB x.natAbs (by omega);simp;omega
 ·have:=RB x.toNat (by omega);omega
theorem y8 {k x:Int} {s:BA} (h:okV k x s=true):(Di k x s).size<=300:=by
 unfold Di;split
 ·rename_i k1;subst k1;have:=bn h;have:=OQ (x:=x) (by omega);omega
 ·split
  ·rename_i k2;subst k2;have:=Tg h;rw [zu];show 1+s.size<=300;omega
  ·split
   ·unfold Z5;split<;>decide
   ·split
    ·unfold qt
     repeat' split
     all_goals decide
    ·decide
def Fl (x:Int):BA:=if x<1\/x>52 then ⟨#[]⟩ else if x<=26 then ⟨#[UInt8.ofNat (64+x.toNat)]⟩ else ⟨#[65,UInt8.ofNat (65+(x.toNat-1)%26)]⟩
theorem U8 (x:Int):(Fl x).size<=2:=by
 unfold Fl;split
 ·decide
 ·split
  ·exact (show (1:Nat)<=2 by decide)
  ·exact (show (2:Nat)<=2 by decide)
theorem ZQ {q:Int} (h:0<=q/\q<256):IntKind.u8.wrap q=q:=by
 unfold IntKind.wrap;have e2:(2:Int)^8=256:=by decide
 simp only [IntKind.signed,IntKind.bits,Bool.false_and,cZ,if_false,e2];omega
def EF (c r:Int) (fc fr:Bool):BA:=if D8 c r=true then ⟨((if fc=true then [36] else [])++(Fl c).data.toList++(if fr=true then [36] else [])++(JH r).data.toList).toArray⟩ else ⟨#[]⟩
theorem Sv {x:Int} (h:1<=x/\x<=99):(JH x).size<=20:=by
 rw [HY];show (Lib.itoa x).length<=20;unfold Lib.itoa;rw [if_neg (by omega)];have:=RB x.toNat (by omega);omega
theorem KF {c r:Int} (h:D8 c r=true):(1<=c/\c<=52)/\(1<=r/\r<=99):=by
 simpa [D8] using h
def EQ (c:UInt8):Bool:=decide (48<=c.toNat)&&decide (c.toNat<=57)
def EU (acc:Nat) (l:List UInt8):Nat:=l.foldl (λa c=>a*10+(c.toNat-48)) acc
theorem Mw (acc:Nat):EU acc []=acc:=rfl
theorem Ix (acc:Nat) (c:UInt8) (r:List UInt8):EU acc (c::r)=EU (acc*10+(c.toNat-48)) r:=by simp only [EU,List.foldl_cons]
theorem Z6 (l:List UInt8) (acc:Nat) (c:UInt8):EU acc (l++ [c])=EU acc l*10+(c.toNat-48):=by
 simp only [EU,List.foldl_append,List.foldl_cons,List.foldl_nil]
theorem bp:∀(l:List UInt8) (acc:Nat),acc<=EU acc l
 | [],acc=>by rw [Mw];exact zK _
 |c::r,acc=>by
  have h:=bp r (acc*10+(c.toNat-48));have h2:acc<=acc*10+(c.toNat-48):=by omega
  rw [Ix];exact zS h2 h
theorem ZR {d:Nat} (h:d<10):(UInt8.ofNat (48+d)).toNat=48+d:=by
 rw [UInt8.toNat_ofNat'];omega
theorem Z7 {d:Nat} (h:d<10):EQ (UInt8.ofNat (48+d))=true:=by
 unfold EQ;rw [ZR h];simp;omega
theorem Hm:∀u:Nat,(Lib.decDigits u).all EQ=true/\EU 0 (Lib.decDigits u)=u/\Lib.decDigits u≠ []/\(10<=u->(Lib.decDigits u).head?≠some 48)/\(1<=u->(Lib.decDigits u).head?≠some 48):=by
 intro u
 induction u using Nat.strongRecOn with
 |_ u ih=>
  by_cases h:u<10
  ·rw [Lib.decDigits,dif_pos h];have h1:∀k,1<=k->k<10->UInt8.ofNat (48+k)≠48:=λk hk hk' e=>by
    have:=congrArg UInt8.toNat e;rw [ZR hk'] at this;have h2:(48:UInt8).toNat=48:=rfl;omega
   refine ⟨by simp only [zanC,List.all_nil,Z7 h,Bool.and_true],by rw [Ix,Mw,ZR h];omega,by simp,λ_=>by omega,λhu=>?_⟩;simp only [List.head?_cons,ne_eq,zR];exact h1 u hu h
  ·obtain ⟨i1,i2,i3,i4,i5⟩:=ih (u/10) (by omega);rw [Lib.decDigits,dif_neg h];have hd:u%10<10:=by omega
   have hh:(Lib.decDigits (u/10)++ [UInt8.ofNat (48+u%10)]).head?=(Lib.decDigits (u/10)).head?:=by
    cases hq:Lib.decDigits (u/10) with
    |nil=>exact absurd hq i3
    |cons a b=>rfl
   refine ⟨by simp only [List.all_append,i1,zanC,List.all_nil,Z7 hd,Bool.and_true],by rw [Z6,i2,ZR hd];omega,by simp,λ_=>?_,λ_=>?_⟩
   ·rw [hh];exact i5 (by omega)
   ·rw [hh];exact i5 (by omega)
def Lx (l:List UInt8):Bool:=!(l== [])&&l.all EQ&&(!(l.head?==some 48)||l.length==1)
theorem Yf (u:Nat):Lx (Lib.decDigits u)=true:=by
 obtain ⟨h1,h2,h3,h4,h5⟩:=Hm u;simp only [Lx,h1,Bool.and_true,zL,Bool.not_eq_true',zanF,Bool.or_eq_true];refine ⟨h3,?_⟩;by_cases hu:u<10
 ·right;rw [Lib.decDigits,dif_pos hu];rfl
 ·left;exact h4 (by omega)
theorem U9:∀(n:Nat) (l:List UInt8),l.length=n->Lx l=true->Lib.decDigits (EU 0 l)=l
 |0,l,hn,h=>by
  have:=bJ hn;subst this;simp [Lx] at h
 |n+1,l,hn,h=>by
  simp only [Lx,zL,Bool.not_eq_true',zanF,Bool.or_eq_true,zanG] at h;obtain ⟨⟨h1,h2⟩,h3⟩:=h;obtain ⟨ini,c,rfl⟩:∃ini c,l=ini++ [c]:=⟨l.dropLast,l.getLast h1,(List.dropLast_concat_getLast h1).symm⟩;simp only [List.all_append,zL,zanC,List.all_nil,Bool.and_true] at h2;obtain ⟨h2,hc⟩:=h2;simp only [EQ,zL,aC] at hc;have ec:UInt8.ofNat (48+(c.toNat-48))=c:=by
   have:48+(c.toNat-48)=c.toNat:=by omega
   rw [this];simp
  rw [Z6];cases ini with
  |nil=>
   rw [Mw,Nat.zero_mul,Nat.zero_add,List.nil_append,Lib.decDigits,dif_pos (by omega),ec]
  |cons a b=>
   have hl:(a::b).length=n:=by simp at hn⊢;omega
   have h48:¬a=48:=by
    rcases h3 with h3|h3
    ·simpa using h3
    ·simp at h3
   have hcn:Lx (a::b)=true:=by
    simp only [Lx,h2,Bool.and_true,zL,Bool.not_eq_true',zanF,Bool.or_eq_true];exact ⟨by simp,.inl (by simpa using h48)⟩
   have ih:=U9 n (a::b) hl hcn;have hp:1<=EU 0 (a::b):=by
    rcases Nat.eq_zero_or_pos (EU 0 (a::b)) with h0|h0
    ·rw [h0,Lib.decDigits,dif_pos (by decide)] at ih;have:a=48:=by
      have:=congrArg List.head? ih;simpa using this.symm
     exact absurd this h48
    ·exact h0
   rw [Lib.decDigits,dif_neg (by omega)];have e1:(EU 0 (a::b)*10+(c.toNat-48))/10=EU 0 (a::b):=by omega
   have e2:(EU 0 (a::b)*10+(c.toNat-48))%10=c.toNat-48:=by omega
   rw [e1,e2,ih,ec]
def l1I (l:List UInt8) (most:Int):Int×Bool:=if (l.length:Int)<=most/\Lx l=true then ((EU 0 l:Int),true) else (0,false)
theorem ZS:∀(l:List UInt8) (acc k:Nat),l.all EQ=true->acc<10^k->EU acc l<10^(k+l.length)
 | [],acc,k,_,h=>by rw [Mw];simpa using h
 |c::r,acc,k,hd,h=>by
  simp only [zanC,zL] at hd;have hc:=hd.1;simp only [EQ,zL,aC] at hc;have:=ZS r (acc*10+(c.toNat-48)) (k+1) hd.2 (by rw [Nat.pow_succ];omega);rw [Ix,zamM,show k+(r.length+1)=k+1+r.length by omega];exact this
theorem VA:∀(l:List UInt8) (acc:Nat),l.all EQ=true->EU acc l<=1000000000000000000->Lib.parseUintM (2^64-1) acc l= .ok (EU acc l)
 | [],acc,_,_=>by simp only [Lib.parseUintM,Mw]
 |c::r,acc,hd,h=>by
  simp only [zanC,zL] at hd;have hc:=hd.1;simp only [EQ,zL,aC] at hc;rw [Ix] at h⊢;have g1:=bp r (acc*10+(c.toNat-48));have p:(2:Nat)^64-1=18446744073709551615:=by decide
  simp only [Lib.parseUintM];rw [if_pos hc,if_neg (by omega),if_neg (by rw [p];omega)];exact VA r _ hd.2 h
theorem Yg {u:Nat} (h:u<=1000000000000000000):Lib.parseUintB 64 (Lib.decDigits u)= .ok u:=by
 obtain ⟨h1,h2,h3,_,_⟩:=Hm u;unfold Lib.parseUintB;rw [if_neg h3,VA _ 0 h1 (by rw [h2];exact h),h2]
theorem OR (u:Nat):∃c r,Lib.decDigits u=c::r/\EQ c=true:=by
 obtain ⟨h1,_,h3,_,_⟩:=Hm u;cases hq:Lib.decDigits u with
 |nil=>exact absurd hq h3
 |cons c r=>
  rw [hq] at h1;simp only [zanC,zL] at h1;exact ⟨c,r,rfl,h1.1⟩
theorem y9 {x:Int} (h: -1000000000000000<=x/\x<=1000000000000000):Lib.parseIntB 64 (Lib.itoa x)= .ok x:=by
 have p:(2:Nat)^(64-1)=9223372036854775808:=by decide
 by_cases hx:x<0
 ·have e:Lib.itoa x=45::Lib.decDigits x.natAbs:=by unfold Lib.itoa;rw [if_pos hx]
  have c45:(45:UInt8).toNat=45:=rfl;rw [e];simp only [Lib.parseIntB,c45,or_true,if_true,Yg (u:=x.natAbs) (by omega),p];rw [if_neg (by simp),if_neg (by omega)]
  congr 1
  omega
 ·have e:Lib.itoa x=Lib.decDigits x.toNat:=by unfold Lib.itoa;rw [if_neg hx]
  obtain ⟨c,r,hcr,hd⟩:=OR x.toNat;simp only [EQ,zL,aC] at hd;rw [e,hcr];simp only [Lib.parseIntB];rw [if_neg (by omega),<-hcr,Yg (u:=x.toNat) (by omega)];simp only [p];rw [if_neg (by omega),if_neg (by omega),if_neg (by omega)]
  congr 1
  omega
def ZT (l:List UInt8):Option Int:=if l.head?=some 45 then (if (l1I (l.drop 1) 16).2=true/\(l1I (l.drop 1) 16).1≠0 then some (-(l1I (l.drop 1) 16).1) else none) else (if (l1I l 16).2=true then some (l1I l 16).1 else none)
theorem XV {l:List UInt8} (h:(l1I l 16).2=true):l.length<=16/\Lx l=true/\(l1I l 16).1=(EU 0 l:Int)/\Lib.decDigits (EU 0 l)=l:=by
 unfold l1I at h⊢;split at h
 ·rename_i hc;rw [if_pos hc];exact ⟨by omega,hc.2,rfl,U9 _ l rfl hc.2⟩
 ·cases h
theorem bq {u:Nat} (h:u<=1000000000000000):l1I (Lib.decDigits u) 16=((u:Int),true):=by
 obtain ⟨h1,h2,h3,_,_⟩:=Hm u;have hl:(Lib.decDigits u).length<=16:=by
  rw [Lib.decDigits_length];have:Lib.nDigits 1000000000000000=16:=Lib.nDigits_unique 15 _ (by decide) (by decide);rcases Nat.lt_or_ge 16 (Lib.nDigits u) with h4|h4
  ·have h5:u<10^16:=by
    have:(10:Nat)^16=10000000000000000:=by decide
    omega
   exfalso;rcases Nat.lt_or_ge u 1 with h6|h6
   ·have:u=0:=by omega
    subst this;rw [Lib.nDigits_small (by decide)] at h4;omega
   ·have key:∀(k v:Nat),1<=v->v<10^k->Lib.nDigits v<=k:=by
     intro k
     induction k with
     |zero=>intro v hv hv';simp at hv';omega
     |succ k ih=>
      intro v hv hv';by_cases h10:v<10
      ·rw [Lib.nDigits_small h10];omega
      ·rw [Lib.nDigits_big h10];have:=ih (v/10) (by omega) (by rw [Nat.pow_succ] at hv';omega);omega
    have:=key 16 u h6 h5;omega
  ·exact h4
 unfold l1I;rw [if_pos ⟨by omega,Yf u⟩,h2]
theorem dp {l:List UInt8} {x:Int} (h:ZT l=some x):l=Lib.itoa x:=by
 unfold ZT at h;split at h
 ·rename_i h45;split at h
  ·rename_i hc;cases h;obtain ⟨a1,a2,a3,a4⟩:=XV hc.1;have hne:=hc.2;rw [a3] at hne⊢;unfold Lib.itoa;rw [if_pos (by omega)];have:(-(EU 0 (l.drop 1):Int)).natAbs=EU 0 (l.drop 1):=by omega
   rw [this,a4];cases l with
   |nil=>cases h45
   |cons c r=>simp at h45;simp [h45]
  ·cases h
 ·split at h
  ·rename_i hc;cases h;obtain ⟨a1,a2,a3,a4⟩:=XV hc;rw [a3];unfold Lib.itoa;rw [if_neg (by omega),bO,a4]
  ·cases h
theorem dq {x:Int} (h: -1000000000000000<=x/\x<=1000000000000000):ZT (Lib.itoa x)=some x:=by
 unfold ZT;by_cases hx:x<0
 ·have e:Lib.itoa x=45::Lib.decDigits x.natAbs:=by unfold Lib.itoa;rw [if_pos hx]
  have e2:=bq (u:=x.natAbs) (by omega);rw [e,List.head?_cons,if_pos rfl,List.drop_succ_cons,List.drop_zero,e2,if_pos ⟨rfl,by show ((x.natAbs:Nat):Int)≠0;omega⟩]
  congr 1
  show-((x.natAbs:Nat):Int)=x;omega
 ·have e:Lib.itoa x=Lib.decDigits x.toNat:=by unfold Lib.itoa;rw [if_neg hx]
  have e2:=bq (u:=x.toNat) (by omega);obtain ⟨c,r,hcr,hd⟩:=OR x.toNat;have h45:¬(Lib.decDigits x.toNat).head?=some 45:=by
   rw [hcr];simp only [List.head?_cons,zR];intro hc;subst hc;simp [EQ] at hd
  rw [e,if_neg h45,e2,if_pos rfl]
  congr 1
  show ((x.toNat:Nat):Int)=x;omega
def F0 (s:BA):Int:=match zX s 10 64 with
 |some (.inl v)=>v
 |some (.inr v)=>v
 |none=>0
theorem Qv {s:BA} {x:Int} (hs:s.toList=Lib.itoa x) (h: -1000000000000000<=x/\x<=1000000000000000):F0 s=x:=by
 have hd:s.data.toList=Lib.itoa x:=by rw [<-zao];exact hs
 have hsz:s.size<=281474976710656:=by
  rw [<-Dz,hs];unfold Lib.itoa;split
  ·have:=RB x.natAbs (by omega);simp;omega
  ·have:=RB x.toNat (by omega);omega
 unfold F0 zX;rw [if_pos ⟨rfl,rfl,hsz⟩,hd,y9 h]
def JI (s:BA):Int:=if (qt 5).toList=s.toList then 5 else if (qt 4).toList=s.toList then 4 else if (qt 3).toList=s.toList then 3 else if (qt 2).toList=s.toList then 2 else if (qt 1).toList=s.toList then 1 else 0
theorem lx (s:BA):0<=JI s/\JI s<=5:=by
 unfold JI
 repeat' split
 all_goals decide
theorem ly {s:BA} (h:¬JI s=0):qt (JI s)=s:=by
 unfold JI at h⊢;by_cases h5:(qt 5).toList=s.toList
 ·rw [if_pos h5];exact IK h5
 rw [if_neg h5] at h⊢;by_cases h4:(qt 4).toList=s.toList
 ·rw [if_pos h4];exact IK h4
 rw [if_neg h4] at h⊢;by_cases h3:(qt 3).toList=s.toList
 ·rw [if_pos h3];exact IK h3
 rw [if_neg h3] at h⊢;by_cases h2:(qt 2).toList=s.toList
 ·rw [if_pos h2];exact IK h2
 rw [if_neg h2] at h⊢;by_cases h1:(qt 1).toList=s.toList
 ·rw [if_pos h1];exact IK h1
 rw [if_neg h1] at h;exact absurd rfl h
theorem tg {i:Int} (h:1<=i/\i<=5):i=1\/i=2\/i=3\/i=4\/i=5:=by omega
def En (s:BA):V3:=
 if s.toList.head?=some 39 then (2,0,⟨s.toList.tail.toArray⟩) else
 if s.toList= [70,65,76,83,69] then (3,0,em) else if s.toList= [84,82,85,69] then (3,1,em) else
 if s.toList.head?=some 35 then (if JI s=0 then (0,0,em) else (4,JI s,em)) else
 if s.toList= [] then (0,0,em) else (1,F0 s,em)
def qz (s:BA):Int×Int×BA×Bool:=if okV (En s).1 (En s).2.1 (En s).2.2=true/\(Di (En s).1 (En s).2.1 (En s).2.2).toList=s.toList then ((En s).1,(En s).2.1,(En s).2.2,true) else (0,0,⟨#[]⟩,false)
theorem lz (c:UInt8) (k:Nat) (hk:k<256):((c.toNat:Int)==(k:Int))=(some c==some (UInt8.ofNat k)):=by
 by_cases e:c=UInt8.ofNat k
 ·subst e;have:(UInt8.ofNat k).toNat=k:=by rw [UInt8.toNat_ofNat'];omega
  simp [this]
 ·have h1:¬(c.toNat:Int)=(k:Int):=λh=>e (by
   have:c.toNat=k:=by omega
   rw [<-this];simp)
  have h2:¬some c=some (UInt8.ofNat k):=λh=>e (by simpa using h)
  rw [zanF.2 h1,zanF.2 h2]
theorem Eh (l:List UInt8):(⟨l.toArray⟩:BA).toList=l:=by rw [zao]
theorem XW (n:Nat):∀(f u:Nat) (s:BA),u<10^(f+1)->u<=9223372036854775807->s.size+f<=1000->∃(q:Nat) (t:BA),q<10/\t.size<=s.size+f/\UInt8.ofNat (48+q)::t.data.toList=Lib.decDigits u++s.data.toList/\∀M,f+1<=M->zE (H7 n) M ((u:Int),s)=some ((q:Int),t)
 |f,u,s,h1,h2,h3=>by
  by_cases h:u<10
  ·refine ⟨u,s,h,by omega,by rw [Lib.decDigits,dif_pos h];rfl,λM hM=>?_⟩;obtain ⟨M,rfl⟩:∃k,M=k+1:=⟨M-1,by omega⟩;have hc:¬(u:Int)≥10:=by omega
   rw [qd (r:=((u:Int),s)) (by simp [H7,qk,hc])]
  ·cases f with
   |zero=>simp at h1;omega
   |succ f=>
    have e1:Int.tmod (u:Int) 10=((u%10:Nat):Int):=by rw [Int.tmod_eq_emod_of_nonneg (by omega)];omega
    have e2:IntKind.i64.wrap (Int.tdiv (u:Int) 10)=((u/10:Nat):Int):=by
     rw [Int.tdiv_eq_ediv_of_nonneg (by omega),ql (by omega)];omega
    have e3:=u8w (q:=u%10) (by omega);have h4:u/10<10^(f+1):=by
     have:10^(f+1+1)=10^(f+1)*10:=Nat.pow_succ 10 (f+1);omega
    let d:BA:=⟨#[UInt8.ofNat (48+u%10)]⟩
    have hd:d.size=1:=rfl;have hs:(d++s).size=s.size+1:=by rw [zu];omega
    obtain ⟨q,t,g1,g2,g3,g4⟩:=XW n f (u/10) (d++s) h4 (by omega) (by omega);refine ⟨q,t,g1,by omega,?_,λM hM=>?_⟩
    ·rw [g3,H5,Lib.decDigits.eq_1 u,dif_neg h];simp [d]
    ·obtain ⟨M,rfl⟩:∃k,M=k+1:=⟨M-1,by omega⟩;have hc:(u:Int)≥10:=by omega
     have hz:d.size+s.size<=9223372036854775807:=by omega
     rw [qm (v':=(((u/10:Nat):Int),d++s)) (by
      simp only [H7,qk,e1,e2,e3,bytesOf,zamW,bO];rw [if_pos (by simpa using hc),if_pos (by simp),if_pos (zD hz)])]
     exact g4 M (by omega)
theorem Ti (u:Nat) (h:u<=1000000000000000000):∀n,25<=n->Du n (u:Int)=some (JH u):=by
 intro n hn;obtain ⟨m,rfl,hm⟩:=up1 hn;have p:(10:Nat)^(18+1)=10000000000000000000:=by decide
 obtain ⟨q,t,g1,g2,g3,g4⟩:=XW m 18 u ⟨#[]⟩ (by omega) (by omega) (by show 0+18<=1000;decide);have g4:=g4 m (by omega);have e3:=u8w g1;have hc:¬(u:Int)<0:=by omega
 have hz:(⟨#[UInt8.ofNat (48+q)]⟩:BA).size+t.size<=9223372036854775807:=by
  have g2:t.size<=0+18:=g2;show 1+t.size<=_;omega
 simp only [Du,L3,qk,g4,e3,bytesOf,zamW,bO];rw [if_neg (by simp),if_pos (by simp),if_pos (zD hz)]
 congr 1
 apply NR;rw [H5];have e:Lib.itoa (u:Int)=Lib.decDigits u:=by unfold Lib.itoa;rw [if_neg hc];simp
 show UInt8.ofNat (48+q)::t.data.toList=Lib.itoa (u:Int);rw [g3,e];simp
theorem Kz (x:Int) (h: -1000000000000000000<=x/\x<=1000000000000000000):Ev (Du · x) (JH x):=by
 by_cases hx:x<0
 ·refine ⟨30,λn hn=>?_⟩;obtain ⟨m,rfl,hm⟩:=up1 hn;have e1:IntKind.i64.wrap (0-x)=((x.natAbs:Nat):Int):=by rw [ql (by omega)];omega
  have g:=Ti x.natAbs (by omega) m (by omega);have hl:=RB x.natAbs (by omega);have e0:Lib.itoa ((x.natAbs:Nat):Int)=Lib.decDigits x.natAbs:=by unfold Lib.itoa;rw [if_neg (by omega)];simp
  have hz:(⟨#[45]⟩:BA).size+(JH ((x.natAbs:Nat):Int)).size<=9223372036854775807:=by
   have:(JH ((x.natAbs:Nat):Int)).size=(Lib.decDigits x.natAbs).length:=by rw [HY];simp [JH,e0]
   show 1+_<=_;omega
  simp only [Du,L3,qk,e1,g];rw [if_pos (by simpa using hx),if_pos (zD hz)]
  congr 1
  apply NR;rw [H5];have e:Lib.itoa x=45::Lib.decDigits x.natAbs:=by unfold Lib.itoa;rw [if_pos hx]
  show 45::(Lib.itoa ((x.natAbs:Nat):Int))=Lib.itoa x;rw [e,e0]
 ·obtain ⟨u,rfl⟩:∃u:Nat,x=u:=⟨x.toNat,by omega⟩;exact ⟨25,Ti u (by omega)⟩
theorem ZU (x:Int) (h: -9223372036854775808<=x/\x<=9223372036854775807):Ev (I9 · x 10) (JH x):=by
 refine ⟨1,λn hn=>?_⟩;obtain ⟨m,rfl,hm⟩:=up1 hn;show aD x 10=_;unfold aD;rw [if_pos ⟨rfl,h⟩];rfl
theorem Lj (x:Int) (h: -9223372036854775808<=x/\x<=9223372036854775807):Ev (Fe · x) (JH x):=by
 obtain ⟨n1,h1⟩:=ZU x h;refine ⟨n1+1,λn hn=>?_⟩;obtain ⟨m,rfl,hm⟩:=up1 hn;have h1:=h1 m (by omega);dsimp only at h1;simp only [Fe,Mb,qk,h1]
theorem Mx (x:Int) (h:0<=x/\x<=5):Ev (FV · x) (qt x):=by
 refine ⟨1,λn hn=>?_⟩;obtain ⟨m,rfl,hm⟩:=up1 hn;simp only [FV,Ng,qk];rcases lt6 h with rfl|rfl|rfl|rfl|rfl|rfl<;>simp [zk,qt]
theorem KG (x:Int) (h:0<=x/\x<=5):Ev (EW · x) (qt x):=by
 refine ⟨1,λn hn=>?_⟩;obtain ⟨m,rfl,hm⟩:=up1 hn;simp only [EW,Ke,qk];rcases lt6 h with rfl|rfl|rfl|rfl|rfl|rfl<;>simp [zk,qt]
theorem XX (x:Int):Ev (Kw · x) (Z5 x):=by
 refine ⟨1,λn hn=>?_⟩;obtain ⟨m,rfl,hm⟩:=up1 hn;simp only [Kw,Nm,qk];by_cases h:x=1<;>simp [Z5,h]
theorem IS (k x:Int) (s:BA) (hb:s.size<=140737488351232):Ev (D9 · k x s) (if okV k x s=true then Di k x s else ⟨#[]⟩):=by
 cases ho:okV k x s with
 |false=>
  obtain ⟨n1,h1⟩:=Dm k x s hb;refine ⟨n1+1,λn hn=>?_⟩;obtain ⟨m,rfl,hm⟩:=up1 hn;have h1:=h1 m (by omega);dsimp only at h1;simp only [D9,FO,qk,h1];simp [ho]
 |true=>
  by_cases k1:k=1
  ·subst k1;have:=bn ho;obtain ⟨n1,h1⟩:=Dm 1 x s hb;obtain ⟨n2,h2⟩:=Kz x (by omega);refine ⟨n1+n2+1,λn hn=>?_⟩;obtain ⟨m,rfl,hm⟩:=up1 hn;have h1:=h1 m (by omega);dsimp only at h1;have h2:=h2 m (by omega);dsimp only at h2;simp only [D9,FO,qk,h1,h2];simp [ho,Di]
  ·by_cases k2:k=2
   ·subst k2;have:=Tg ho;have hz:(⟨#[39]⟩:BA).size+s.size<=9223372036854775807:=by show 1+s.size<=_;omega
    obtain ⟨n1,h1⟩:=Dm 2 x s hb;refine ⟨n1+1,λn hn=>?_⟩;obtain ⟨m,rfl,hm⟩:=up1 hn;have h1:=h1 m (by omega);dsimp only at h1;simp only [D9,FO,qk,h1];simp [ho,Di,hz]
   ·by_cases k3:k=3
    ·subst k3;obtain ⟨n1,h1⟩:=Dm 3 x s hb;obtain ⟨n2,h2⟩:=XX x;refine ⟨n1+n2+1,λn hn=>?_⟩;obtain ⟨m,rfl,hm⟩:=up1 hn;have h1:=h1 m (by omega);dsimp only at h1;have h2:=h2 m (by omega);dsimp only at h2;simp only [D9,FO,qk,h1,h2];simp [ho,Di]
    ·by_cases k4:k=4
     ·subst k4;have:=Ye ho;obtain ⟨n1,h1⟩:=Dm 4 x s hb;obtain ⟨n2,h2⟩:=Mx x (by omega);refine ⟨n1+n2+1,λn hn=>?_⟩;obtain ⟨m,rfl,hm⟩:=up1 hn;have h1:=h1 m (by omega);dsimp only at h1;have h2:=h2 m (by omega);dsimp only at h2;simp only [D9,FO,qk,h1,h2];simp [ho,Di]
     ·obtain ⟨n1,h1⟩:=Dm k x s hb;refine ⟨n1+1,λn hn=>?_⟩;obtain ⟨m,rfl,hm⟩:=up1 hn;have h1:=h1 m (by omega);dsimp only at h1;simp only [D9,FO,qk,h1];simp [ho,Di,k1,k2,k3,k4]
theorem NS (k x:Int) (s:BA) (ho:okV k x s=true):Ev (Dy · k x s) (Di k x s):=by
 by_cases k1:k=1
 ·subst k1;have:=bn ho;obtain ⟨n1,h1⟩:=Lj x (by omega);refine ⟨n1+1,λn hn=>?_⟩;obtain ⟨m,rfl,hm⟩:=up1 hn;have h1:=h1 m (by omega);dsimp only at h1;simp only [Dy,Fw,qk,h1];simp [Di]
 ·by_cases k2:k=2
  ·subst k2;have:=Tg ho;have hz:(⟨#[39]⟩:BA).size+s.size<=9223372036854775807:=by show 1+s.size<=_;omega
   refine ⟨1,λn hn=>?_⟩;obtain ⟨m,rfl,hm⟩:=up1 hn;simp only [Dy,Fw,qk];simp [Di,hz]
  ·by_cases k3:k=3
   ·subst k3;have:=Yd ho;refine ⟨1,λn hn=>?_⟩;obtain ⟨m,rfl,hm⟩:=up1 hn;simp only [Dy,Fw,qk];have c:x=0\/x=1:=by omega
    rcases c with rfl|rfl<;>simp [zk,Di,Z5]
   ·by_cases k4:k=4
    ·subst k4;have:=Ye ho;obtain ⟨n1,h1⟩:=KG x (by omega);refine ⟨n1+1,λn hn=>?_⟩;obtain ⟨m,rfl,hm⟩:=up1 hn;have h1:=h1 m (by omega);dsimp only at h1;simp only [Dy,Fw,qk,h1];simp [Di]
    ·refine ⟨1,λn hn=>?_⟩;obtain ⟨m,rfl,hm⟩:=up1 hn;simp only [Dy,Fw,qk];simp [Di,k1,k2,k3,k4]
theorem Pr (x:Int):Ev (GC · x) (Fl x):=by
 by_cases h:1<=x/\x<=52
 ·by_cases h26:x<=26
  ·have w1:IntKind.i64.wrap (65+x)=65+x:=ql (by omega);have w2:IntKind.i64.wrap (65+x-1)=65+x-1:=ql (by omega);have w3:IntKind.u8.wrap (65+x-1)=65+x-1:=ZQ (by omega);have e:(65+x-1).toNat=64+x.toNat:=by omega
   obtain ⟨n1,h1⟩:=Dt x 1 52;refine ⟨n1+1,λn hn=>?_⟩;obtain ⟨m,rfl,hm⟩:=up1 hn;have h1:=h1 m (by omega);dsimp only at h1;simp only [GC,Ic,qk,h1];simp only [w1,w2,w3,bytesOf,zamW,e];simp [h,h26,Fl,show ¬x<1 by omega,show ¬52<x by omega]
  ·have w1:IntKind.i64.wrap (x-1)=x-1:=ql (by omega);have e1:Int.tdiv (x-1) 26=1:=by rw [Int.tdiv_eq_ediv_of_nonneg (by omega)];omega
   have e2:Int.tmod (x-1) 26=(((x.toNat-1)%26:Nat):Int):=by rw [Int.tmod_eq_emod_of_nonneg (by omega)];omega
   have w2:IntKind.u8.wrap (IntKind.i64.wrap (IntKind.i64.wrap (65+IntKind.i64.wrap 1)-1))=65:=by decide
   have w3:IntKind.i64.wrap (65+(((x.toNat-1)%26:Nat):Int))=65+(((x.toNat-1)%26:Nat):Int):=ql (by omega);have w4:IntKind.u8.wrap (65+(((x.toNat-1)%26:Nat):Int))=65+(((x.toNat-1)%26:Nat):Int):=ZQ (by omega);have e3:(65+(((x.toNat-1)%26:Nat):Int)).toNat=65+(x.toNat-1)%26:=by omega
   obtain ⟨n1,h1⟩:=Dt x 1 52;refine ⟨n1+1,λn hn=>?_⟩;obtain ⟨m,rfl,hm⟩:=up1 hn;have h1:=h1 m (by omega);dsimp only at h1;simp only [GC,Ic,qk,h1];simp only [w1,e1,e2,w2,w3,w4,e3,bytesOf,zamW];simp [h,h26,Fl,show ¬x<1 by omega,show ¬52<x by omega]
 ·have hx:x<1\/x>52:=by omega
  obtain ⟨n1,h1⟩:=Dt x 1 52;refine ⟨n1+1,λn hn=>?_⟩;obtain ⟨m,rfl,hm⟩:=up1 hn;have h1:=h1 m (by omega);dsimp only at h1;simp only [GC,Ic,qk,h1];simp [h,Fl,hx]
theorem Yh (n x:Nat) (s:BA) (h:1<=x/\x<=1000) (hs:s.size<=100):(FX n ((x:Int),s)).run=some (.inl ((((x-1)/26:Nat):Int),(⟨#[UInt8.ofNat (65+(x-1)%26)]⟩:BA)++s)):=by
 have w1:IntKind.i64.wrap ((x:Int)-1)=((x-1:Nat):Int):=by rw [ql (by omega)];omega
 have e1:Int.tdiv ((x-1:Nat):Int) 26=(((x-1)/26:Nat):Int):=by rw [Int.tdiv_eq_ediv_of_nonneg (by omega)];omega
 have e2:Int.tmod ((x-1:Nat):Int) 26=(((x-1)%26:Nat):Int):=by rw [Int.tmod_eq_emod_of_nonneg (by omega)];omega
 have w2:IntKind.i64.wrap (((x-1)/26:Nat):Int)=(((x-1)/26:Nat):Int):=ql (by omega);have w3:IntKind.i64.wrap (65+(((x-1)%26:Nat):Int))=65+(((x-1)%26:Nat):Int):=ql (by omega);have w4:IntKind.u8.wrap (65+(((x-1)%26:Nat):Int))=65+(((x-1)%26:Nat):Int):=ZQ (by omega);have e3:(65+(((x-1)%26:Nat):Int)).toNat=65+(x-1)%26:=by omega
 have hz:(⟨#[UInt8.ofNat (65+(x-1)%26)]⟩:BA).size+s.size<=9223372036854775807:=by show 1+s.size<=_;omega
 have hc:(x:Int)>0:=by omega
 simp only [FX,qk,w1,e1,e2,w2,w3,w4,e3,bytesOf,zamW];rw [if_pos (zD hc),if_pos (by simp),if_pos (zD hz)]
theorem Z8 (n:Nat) (s:BA):(FX n (((0:Nat):Int),s)).run=some (.inr s):=by
 simp [FX,qk]
theorem Ps (x:Int):Ev (Ha · x) (Fl x):=by
 by_cases h:1<=x/\x<=52
 ·obtain ⟨n1,h1⟩:=F9 x 1 52;refine ⟨n1+10,λn hn=>?_⟩;obtain ⟨m,rfl,hm⟩:=up1 hn;have h1:=h1 m (by omega);dsimp only at h1;obtain ⟨u,rfl⟩:∃u:Nat,x=u:=⟨x.toNat,by omega⟩;obtain ⟨M,hM⟩:∃M,m=M+3:=⟨m-3,by omega⟩;have key:zE (FX m) m ((u:Int),(⟨#[]⟩:BA))=some (Fl u):=by
   rw [hM,qm (Yh _ u ⟨#[]⟩ (by omega) (by decide))];by_cases h26:u<=26
   ·have e:(u-1)/26=0:=by omega
    have e2:65+(u-1)%26=64+u:=by omega
    rw [e,qd (Z8 _ _),e2]
    congr 1
    apply NR;rw [H5];simp [Fl,show ¬(u:Int)<1 by omega,show ¬(52:Int)<u by omega,show (u:Int)<=26 by omega]
   ·have e:(u-1)/26=1:=by omega
    have e4:(⟨#[UInt8.ofNat (65+(u-1)%26)]⟩++(⟨#[]⟩:BA)).size<=100:=by rw [zu];show 1+0<=100;decide
    rw [e,qm (Yh _ 1 _ (by decide) e4)];have e3:(1-1)/26=0:=by decide
    rw [e3,qd (Z8 _ _)]
    congr 1
    apply NR;rw [H5,H5];simp [Fl,show ¬(u:Int)<1 by omega,show ¬(52:Int)<u by omega,show ¬(u:Int)<=26 by omega]
  simp only [Ha,Jt,qk,h1,key];simp [h]
 ·have hx:x<1\/x>52:=by omega
  obtain ⟨n1,h1⟩:=F9 x 1 52;refine ⟨n1+1,λn hn=>?_⟩;obtain ⟨m,rfl,hm⟩:=up1 hn;have h1:=h1 m (by omega);dsimp only at h1;simp only [Ha,Jt,qk,h1];simp [h,Fl,hx]
theorem GM (c r:Int) (fc fr:Bool):Ev (DN · c r fc fr) (EF c r fc fr):=by
 cases ho:D8 c r with
 |false=>
  obtain ⟨n1,h1⟩:=Gj c r;refine ⟨n1+1,λn hn=>?_⟩;obtain ⟨m,rfl,hm⟩:=up1 hn;have h1:=h1 m (by omega);dsimp only at h1;simp only [DN,Ir,qk,h1];simp [ho,EF]
 |true=>
  have h:=KF ho;have s1:=U8 c;have s2:=Sv h.2;have d1:(⟨#[36]⟩:BA).size=1:=rfl;have z1:(⟨#[36]⟩:BA).size+(Fl c).size<=9223372036854775807:=by omega
  have z2:((⟨#[36]⟩:BA)++Fl c).size+(⟨#[36]⟩:BA).size<=9223372036854775807:=by rw [zu];omega
  have z3:(((⟨#[36]⟩:BA)++Fl c)++(⟨#[36]⟩:BA)).size+(JH r).size<=9223372036854775807:=by rw [zu,zu];omega
  have z4:((⟨#[36]⟩:BA)++Fl c).size+(JH r).size<=9223372036854775807:=by rw [zu];omega
  have z5:(Fl c).size+(⟨#[36]⟩:BA).size<=9223372036854775807:=by omega
  have z6:(Fl c++(⟨#[36]⟩:BA)).size+(JH r).size<=9223372036854775807:=by rw [zu];omega
  have z7:(Fl c).size+(JH r).size<=9223372036854775807:=by omega
  obtain ⟨n1,h1⟩:=Gj c r;obtain ⟨n2,h2⟩:=Ps c;obtain ⟨n3,h3⟩:=Kz r (by omega);refine ⟨n1+n2+n3+1,λn hn=>?_⟩;obtain ⟨m,rfl,hm⟩:=up1 hn;have h1:=h1 m (by omega);dsimp only at h1;have h2:=h2 m (by omega);dsimp only at h2;have h3:=h3 m (by omega);dsimp only at h3;simp only [DN,Ir,qk,h1,h2,h3];simp only [ho,zD z1,zD z2,zD z3,zD z4,zD z5,zD z6,zD z7,if_true,Bool.not_true,cZ,if_false];cases fc<;>cases fr<;>simp only [if_true,if_false,cZ,zR]<;>apply NR<;>simp [EF,ho,H5]
theorem IT (c r:Int) (fc fr:Bool):Ev (FQ · c r fc fr) (EF c r fc fr):=by
 cases ho:D8 c r with
 |false=>
  obtain ⟨n1,h1⟩:=IH c r;refine ⟨n1+1,λn hn=>?_⟩;obtain ⟨m,rfl,hm⟩:=up1 hn;have h1:=h1 m (by omega);dsimp only at h1;simp only [FQ,Iu,qk,h1];simp [ho,EF]
 |true=>
  have h:=KF ho;have s1:=U8 c;have s2:=Sv h.2;have d1:(⟨#[36]⟩:BA).size=1:=rfl;have d0:(⟨#[]⟩:BA).size=0:=rfl;have z1:(⟨#[36]⟩:BA).size+(Fl c).size<=9223372036854775807:=by omega
  have z2:((⟨#[36]⟩:BA)++Fl c).size+(⟨#[36]⟩:BA).size<=9223372036854775807:=by rw [zu];omega
  have z3:(((⟨#[36]⟩:BA)++Fl c)++(⟨#[36]⟩:BA)).size+(JH r).size<=9223372036854775807:=by rw [zu,zu];omega
  have z4:((⟨#[36]⟩:BA)++Fl c).size+(JH r).size<=9223372036854775807:=by rw [zu];omega
  have y1:(⟨#[]⟩:BA).size+(Fl c).size<=9223372036854775807:=by omega
  have y2:((⟨#[]⟩:BA)++Fl c).size+(⟨#[36]⟩:BA).size<=9223372036854775807:=by rw [zu];omega
  have y3:(((⟨#[]⟩:BA)++Fl c)++(⟨#[36]⟩:BA)).size+(JH r).size<=9223372036854775807:=by rw [zu,zu];omega
  have y4:((⟨#[]⟩:BA)++Fl c).size+(JH r).size<=9223372036854775807:=by rw [zu];omega
  obtain ⟨n1,h1⟩:=IH c r;obtain ⟨n2,h2⟩:=Pr c;obtain ⟨n3,h3⟩:=Lj r (by omega);refine ⟨n1+n2+n3+1,λn hn=>?_⟩;obtain ⟨m,rfl,hm⟩:=up1 hn;have h1:=h1 m (by omega);dsimp only at h1;have h2:=h2 m (by omega);dsimp only at h2;have h3:=h3 m (by omega);dsimp only at h3;simp only [FQ,Iu,qk,h1,h2,h3];simp only [ho,zD z1,zD z2,zD z3,zD z4,zD y1,zD y2,zD y3,zD y4,if_true,Bool.not_true,cZ,if_false];cases fc<;>cases fr<;>simp only [if_true,if_false,cZ,zR]<;>apply NR<;>simp [EF,ho,H5]
theorem XY (n:Nat) (s:BA):∀(r pre:List UInt8) (acc M:Nat),s.toList=pre++r->acc<10^pre.length->pre.length+r.length<=17->r.length+1<=M->
  zE (GQ n) M (s,(acc:Int),(pre.length:Int))=some (if r.all EQ=true then .inr ((EU acc r:Nat):Int) else .inl (0,false))
 |r,pre,acc,0,h1,h2,h3,h4=>by omega
 | [],pre,acc,M+1,h1,h2,h3,h4=>by
  have hs:s.size=pre.length:=by rw [<-Dz,h1];simp
  rw [qd (r:= .inr (acc:Int)) (by simp [GQ,qk,hs])];simp [Mw]
 |c::r,pre,acc,M+1,h1,h2,h3,h4=>by
  have hs:s.size=pre.length+(r.length+1):=by rw [<-Dz,h1];simp
  have hi:(pre.length:Int)<s.size:=by omega
  have hg:s.toList[pre.length]?=some c:=by rw [h1];simp
  simp only [zamM] at h3 h4;by_cases c1:(c.toNat:Int)<48
  ·rw [qd (r:= .inl (0,false)) (by simp [GQ,qk,hi,hg,c1])];have:EQ c=false:=by simp [EQ];omega
   simp [this]
  ·by_cases c2:(c.toNat:Int)>57
   ·rw [qd (r:= .inl (0,false)) (by simp [GQ,qk,hi,hg,c1,c2])];have:EQ c=false:=by simp [EQ];omega
    simp [this]
   ·have hc:EQ c=true:=by simp [EQ];omega
    have hp:10^pre.length<=10^16:=Nat.pow_le_pow_right (by decide) (by omega);have p16:(10:Nat)^16=10000000000000000:=by decide
    have w1:IntKind.i64.wrap ((acc:Int)*10)=(acc:Int)*10:=ql (by omega);have w2:IntKind.u8.wrap ((c.toNat:Int)-48)=((c.toNat-48:Nat):Int):=by rw [ZQ (by omega)];omega
    have w3:IntKind.i64.wrap ((c.toNat-48:Nat):Int)=((c.toNat-48:Nat):Int):=ql (by omega);have w4:IntKind.i64.wrap ((acc:Int)*10+((c.toNat-48:Nat):Int))=((acc*10+(c.toNat-48):Nat):Int):=by rw [ql (by omega)];omega
    have w5:IntKind.i64.wrap ((pre.length:Int)+1)=(pre.length:Int)+1:=ql (by omega);have e0:((pre++ [c]).length:Int)=(pre.length:Int)+1:=by simp
    rw [qm (v':=(s,((acc*10+(c.toNat-48):Nat):Int),((pre++ [c]).length:Int))) (by
     rw [e0];simp [GQ,qk,hi,hg,c1,c2,w1,w2,w3,w4,w5])]
    rw [XY n s r (pre++ [c]) (acc*10+(c.toNat-48)) M (by rw [h1];simp) (by rw [zamO,List.length_singleton,Nat.pow_succ];omega) (by simp;omega) (by omega)];simp [hc,Ix]
theorem JJ (s:BA) (most:Int) (hm:most<=16):Ev (El · s most) (l1I s.toList most):=by
 have hsz:s.size=s.toList.length:=(Dz s).symm;by_cases h0:s.toList= []
 ·have hz:s.size=0:=by rw [hsz,h0];rfl
  refine ⟨1,λn hn=>?_⟩;obtain ⟨m,rfl,hm⟩:=up1 hn;simp only [El,Jv,H8,qk];simp [hz,h0,l1I,Lx]
 ·obtain ⟨c,r,hcr⟩:∃c r,s.toList=c::r:=by
   cases hq:s.toList with
   |nil=>exact absurd hq h0
   |cons a b=>exact ⟨a,b,rfl⟩
  have hl:s.size=r.length+1:=by rw [hsz,hcr];rfl
  have z1:¬(s.size:Int)<1:=by omega
  by_cases h1:(s.size:Int)>most
  ·refine ⟨1,λn hn=>?_⟩;obtain ⟨m,rfl,hm⟩:=up1 hn;simp only [El,Jv,H8,qk];have:¬((s.toList.length:Int)<=most):=by rw [<-hsz];omega
   simp [z1,h1,l1I,this]
  ·have hle:(s.toList.length:Int)<=most:=by rw [<-hsz];omega
   refine ⟨30,λn hn=>?_⟩;obtain ⟨m,rfl,hm'⟩:=up1 hn;have hg:s.toList[0]?=some c:=by rw [hcr];rfl
   have lp:=XY m s s.toList [] 0 m rfl (by decide) (by simp;omega) (by omega);simp only [zanD,Int.natCast_zero] at lp;have c48:((c.toNat:Int)==48)=(c==48):=by
    by_cases e:c=48
    ·subst e;rfl
    ·have:¬(c.toNat:Int)=48:=λh=>e (UInt8.toNat_inj.1 (by show c.toNat=48;omega))
     rw [zanF.2 this,zanF.2 e]
   simp only [El,Jv,H8,qk,lp,Int.toNat_zero,hg,c48];rw [if_neg (by simpa using z1),if_neg (by simpa using h1),if_pos (by simp)];have ne:(s.toList== [])=false:=by simpa using h0
   have hd:s.toList.head?=some c:=by rw [hcr];rfl
   by_cases hc:c=48
   ·subst hc;by_cases h2:(s.size:Int)>1
    ·have:¬s.toList.length=1:=by omega
     simp [h2,l1I,Lx,hd,this]
    ·have:s.toList.length=1:=by omega
     cases hall:s.toList.all EQ<;>simp [h2,l1I,Lx,hd,this,hall,ne,hle,qk]
     ·omega
   ·have:(some c==some 48)=false:=by simpa using hc
    cases hall:s.toList.all EQ<;>simp [hc,l1I,Lx,hd,this,hall,ne,hle,qk]
theorem VY (s:BA) (h:s.size<=281474976710656):Ev (Ez · s 10 64) (.inl (F0 s))\/Ev (Ez · s 10 64) (.inr (F0 s)):=by
 have key:∃r,zX s 10 64=some r:=by
  unfold zX;rw [if_pos ⟨rfl,rfl,h⟩];split<;>exact ⟨_,rfl⟩
 obtain ⟨r,hr⟩:=key;have e:Ev (Ez · s 10 64) r:=⟨1,λn hn=>by
  obtain ⟨m,rfl,hm⟩:=up1 hn;exact hr⟩
 rcases r with v|v
 ·exact .inl (by unfold F0;rw [hr];exact e)
 ·exact .inr (by unfold F0;rw [hr];exact e)
theorem KH (s:BA) (c:UInt8):Ev (DY · s ⟨#[c]⟩) (if s.toList.head?=some c then (⟨s.toList.tail.toArray⟩,true) else (s,false)):=by
 refine ⟨1,λn hn=>?_⟩;obtain ⟨m,rfl,hm⟩:=up1 hn;show zt s ⟨#[c]⟩=_;unfold zt Lib.trimPrefix Lib.hasPrefix;rw [<-zao s];have es:(⟨s.toList.toArray⟩:BA)=s:=NR (by rw [<-zao s]);generalize s.toList=l at*
 cases l with
 |nil=>simp [es]
 |cons a r=>
  by_cases h:a=c
  ·subst h;simp
  ·have:¬c=a:=λe=>h e.symm
   simp [h,this,es,List.isPrefixOf]
theorem ZV (s:BA) (c:UInt8):Ev (DG · s ⟨#[c]⟩) (s.toList.head?==some c):=by
 refine ⟨2,λn hn=>?_⟩;obtain ⟨m,rfl,hm⟩:=up1 hn;obtain ⟨m,rfl,hm⟩:=up1 hm;have z:(⟨#[c]⟩:BA).size=1:=rfl;have tc:(⟨#[c]⟩:BA).toList= [c]:=by rw [zao]
 have hsz:s.size=s.toList.length:=(Dz s).symm;simp only [DG,GY,Dk,Em,qk,z,tc];cases hq:s.toList with
 |nil=>
  have:s.size=0:=by rw [hsz,hq];rfl
  simp [this]
 |cons a r=>
  have h1:(1:Int)<=s.size:=by rw [hsz,hq];simp;omega
  have e:(s.extract 0 1).toList= [a]:=by
   rw [zao,ByteArray.data_extract,Array.toList_extract];rw [zao] at hq;simp [hq]
  have h2:1<=s.size:=by omega
  simp [h1,h2,e]
theorem ZW (n:Nat) (s:BA) (a b:Int) (c:BA) (i:Int) (v:V3) (hi:1<=i/\i<=5) (h1:EW n i=some (qt i)) (h2:F6 n i=some (4,i,em)):
  (FB n (s,i,a,b,c,v.1,v.2.1,v.2.2)).run=some (.inl (s,i+1,a,b,c,if (qt i).toList=s.toList then (4,i,em) else v)):=by
 have w1:IntKind.i64.wrap (i+1)=i+1:=ql (by omega);simp only [FB,qk,h1,h2,w1];rw [if_pos (zD hi.2)];by_cases h:(qt i).toList=s.toList<;>simp [h]
def Sw (s:BA):Nat->Int->V3->V3
 |0,_,v=>v
 |k+1,i,v=>Sw s k (i+1) (if (qt i).toList=s.toList then (4,i,em) else v)
theorem gb (s:BA):Sw s 5 1 (0,0,em)=if JI s=0 then (0,0,em) else (4,JI s,em):=by
 have a2:(1:Int)+1=2:=by decide
 have a3:(2:Int)+1=3:=by decide
 have a4:(3:Int)+1=4:=by decide
 have a5:(4:Int)+1=5:=by decide
 simp only [Sw,JI,a2,a3,a4,a5];by_cases h5:(qt 5).toList=s.toList
 ·simp [h5]
 by_cases h4:(qt 4).toList=s.toList
 ·simp [h5,h4]
 by_cases h3:(qt 3).toList=s.toList
 ·simp [h5,h4,h3]
 by_cases h2:(qt 2).toList=s.toList
 ·simp [h5,h4,h3,h2]
 by_cases h1:(qt 1).toList=s.toList<;>simp [h5,h4,h3,h2,h1]
theorem Tj (n:Nat) (s:BA) (a b:Int) (c:BA) (h1:∀i,0<=i/\i<=5->EW n i=some (qt i)) (h2:∀i,1<=i/\i<=5->F6 n i=some (4,i,em)):
  ∀(k:Nat) (i:Int) (v:V3) (M:Nat),i+k=6->1<=i->k+1<=M->zE (FB n) M (s,i,a,b,c,v.1,v.2.1,v.2.2)=some (s,a,b,c,(Sw s k i v).1,(Sw s k i v).2.1,(Sw s k i v).2.2)
 |k,i,v,0,e,h,hM=>by omega
 |0,i,v,M+1,e,h,hM=>by
  have hi:¬i<=5:=by omega
  rw [qd (r:=(s,a,b,c,v.1,v.2.1,v.2.2)) (by simp [FB,qk,hi])];rfl
 |k+1,i,v,M+1,e,h,hM=>by
  rw [qm (ZW n s a b c i v (by omega) (h1 i (by omega)) (h2 i (by omega)))];exact Tj n s a b c h1 h2 k (i+1) _ M (by omega) (by omega) (by omega)
theorem Yi:okV 0 0 em=true:=by simp [okV,em,q7]
theorem VZ:Di 0 0 em=⟨#[]⟩:=rfl
theorem L5 {R:Type} {F:Nat->Int->Option R} {f:Int->R} {lo:Int} (h0:0<=lo) (h:∀i,lo<=i/\i<=5->Ev (F · i) (f i)):∃n0,∀n,n0<=n->∀i,lo<=i/\i<=5->F n i=some (f i):=by
 obtain ⟨n0,h1⟩:=Eu (F:=λi n=>if lo<=i/\i<=5 then F n i else some (f i)) (f:=f) [0,1,2,3,4,5] (λi _=>by
  by_cases hi:lo<=i/\i<=5
  ·obtain ⟨n0,h1⟩:=h i hi;exact ⟨n0,λn hn=>by simp only [if_pos hi];exact h1 n hn⟩
  ·exact ⟨0,λn _=>by simp only [if_neg hi]⟩)
 refine ⟨n0,λn hn i hi=>?_⟩;have:=h1 n hn i (by
  have c:i=0\/i=1\/i=2\/i=3\/i=4\/i=5:=by omega
  rcases c with rfl|rfl|rfl|rfl|rfl|rfl<;>simp)
 simp only [if_pos hi] at this;exact this
theorem NT (s:BA) (hb:s.size<=1048576):Ev (DW · s) (qz s):=by
 have te:(⟨#[]⟩:BA).toList= []:=q7;have tF:(⟨#[70,65,76,83,69]⟩:BA).toList= [70,65,76,83,69]:=by rw [zao]
 have tT:(⟨#[84,82,85,69]⟩:BA).toList= [84,82,85,69]:=by rw [zao]
 have fin:∀k x (t:BA),En s=(k,x,t)->t.size<=140737488351232->∃n0,∀n,n0<=n->FC n k x t=some (okV k x t)/\(okV k x t=true->Dy n k x t=some (Di k x t)):=λk x t _ ht=>by
  obtain ⟨n1,h1⟩:=Li k x t ht;by_cases ho:okV k x t=true
  ·obtain ⟨n2,h2⟩:=NS k x t ho;exact ⟨n1+n2,λn hn=>⟨h1 n (by omega),λ_=>h2 n (by omega)⟩⟩
  ·exact ⟨n1,λn hn=>⟨h1 n hn,λh=>absurd h ho⟩⟩
 have rd:∀k x (t:BA),En s=(k,x,t)->qz s=if okV k x t=true/\(Di k x t).toList=s.toList then (k,x,t,true) else (0,0,⟨#[]⟩,false):=λk x t h=>by unfold qz;rw [h]
 by_cases h39:s.toList.head?=some 39
 ·have hc:En s=(2,0,⟨s.toList.tail.toArray⟩):=by unfold En;rw [if_pos h39]
  have hsz:(⟨s.toList.tail.toArray⟩:BA).size<=140737488351232:=by rw [HY];simp only [List.length_tail];rw [Dz];omega
  obtain ⟨n0,hf⟩:=fin _ _ _ hc hsz;rw [rd _ _ _ hc];obtain ⟨n1,h1⟩:=KH s 39;refine ⟨n0+n1+1,λn hn=>?_⟩;obtain ⟨m,rfl,hm⟩:=up1 hn;have h1:=h1 m (by omega);obtain ⟨g1,g2⟩:=hf m (by omega);dsimp only at h1;simp only [DW,FP,D6,qk,h1,if_pos h39,g1];cases ho:okV 2 0 (⟨s.toList.tail.toArray⟩:BA) with
  |false=>simp
  |true=>
   simp only [g2 ho];by_cases e:(Di 2 0 (⟨s.toList.tail.toArray⟩:BA)).toList=s.toList<;>simp [e]
 ·have cut:=KH s 39;rw [if_neg h39] at cut;by_cases hF:s.toList= [70,65,76,83,69]
  ·have hc:En s=(3,0,em):=by unfold En;rw [if_neg h39,if_pos hF]
   have hT:¬s.toList= [84,82,85,69]:=by rw [hF];decide
   obtain ⟨n0,hf⟩:=fin _ _ _ hc (by decide);rw [rd _ _ _ hc];obtain ⟨n1,h1⟩:=cut;obtain ⟨n2,h2⟩:=R6 false;refine ⟨n0+n1+n2+1,λn hn=>?_⟩;obtain ⟨m,rfl,hm⟩:=up1 hn;have h1:=h1 m (by omega);have h2:=h2 m (by omega);obtain ⟨g1,g2⟩:=hf m (by omega);dsimp only at h1 h2;simp only [cZ,if_false] at h2;have bT:(s.toList== [84,82,85,69])=false:=by simpa using hT
   have bF:(s.toList== [70,65,76,83,69])=true:=by simpa using hF
   simp only [DW,FP,D6,qk,h1,tF,tT,bT,bF,h2,g1];cases ho:okV 3 0 em with
   |false=>simp
   |true=>
    simp only [g2 ho];by_cases e:(Di 3 0 em).toList=s.toList<;>simp [e]
  ·by_cases hT:s.toList= [84,82,85,69]
   ·have hc:En s=(3,1,em):=by unfold En;rw [if_neg h39,if_neg hF,if_pos hT]
    obtain ⟨n0,hf⟩:=fin _ _ _ hc (by decide);rw [rd _ _ _ hc];obtain ⟨n1,h1⟩:=cut;obtain ⟨n2,h2⟩:=R6 true;refine ⟨n0+n1+n2+1,λn hn=>?_⟩;obtain ⟨m,rfl,hm⟩:=up1 hn;have h1:=h1 m (by omega);have h2:=h2 m (by omega);obtain ⟨g1,g2⟩:=hf m (by omega);dsimp only at h1 h2;simp only [if_true] at h2;have bT:(s.toList== [84,82,85,69])=true:=by simpa using hT
    have bF:(s.toList== [70,65,76,83,69])=false:=by simpa using hF
    simp only [DW,FP,D6,qk,h1,tF,tT,bT,bF,h2,g1];cases ho:okV 3 1 em with
    |false=>simp
    |true=>
     simp only [g2 ho];by_cases e:(Di 3 1 em).toList=s.toList<;>simp [e]
   ·have bT:(s.toList== [84,82,85,69])=false:=by simpa using hT
    have bF:(s.toList== [70,65,76,83,69])=false:=by simpa using hF
    have pre:=ZV s 35;by_cases h35:s.toList.head?=some 35
    ·have hc:En s=(if JI s=0 then (0,0,em) else (4,JI s,em)):=by unfold En;rw [if_neg h39,if_neg hF,if_neg hT,if_pos h35]
     have main:∀k x (t:BA),En s=(k,x,t)->Sw s 5 1 (0,0,em)=(k,x,t)->t.size<=140737488351232->Ev (DW · s) (qz s):=λk x t hc hu ht=>by
      obtain ⟨n0,hf⟩:=fin _ _ _ hc ht;rw [rd _ _ _ hc];obtain ⟨n1,h1⟩:=cut;obtain ⟨n2,h2⟩:=pre;obtain ⟨n3,h3⟩:=L5 (F:=EW) (f:=qt) (lo:=0) (by decide) KG;obtain ⟨n4,h4⟩:=L5 (F:=F6) (f:=λi=>(4,i,em)) (lo:=1) (by decide) (λi _=>R5 i);refine ⟨n0+n1+n2+n3+n4+10,λn hn=>?_⟩;obtain ⟨m,rfl,hm⟩:=up1 hn;have h1:=h1 m (by omega);have h2:=h2 m (by omega);have lp:=Tj m s 0 0 ⟨#[]⟩ (h3 m (by omega)) (h4 m (by omega)) 5 1 (0,0,em) m (by decide) (by decide) (by omega);rw [hu] at lp;obtain ⟨g1,g2⟩:=hf m (by omega);dsimp only [em] at h1 h2 lp g1 g2;have b35:(s.toList.head?==some 35)=true:=by simpa using h35
      simp only [DW,FP,D6,qk,h1,tF,tT,bT,bF,h2,b35,lp,g1];cases ho:okV k x t with
      |false=>simp
      |true=>
       simp only [g2 ho];by_cases e:(Di k x t).toList=s.toList<;>simp [e]
     by_cases hz:JI s=0
     ·rw [if_pos hz] at hc;exact main _ _ _ hc (by rw [gb,if_pos hz]) (show (0:Nat)<=140737488351232 by decide)
     ·rw [if_neg hz] at hc;exact main _ _ _ hc (by rw [gb,if_neg hz]) (show (0:Nat)<=140737488351232 by decide)
    ·have b35:(s.toList.head?==some 35)=false:=by simpa using h35
     by_cases h0:s.toList= []
     ·have hc:En s=(0,0,em):=by unfold En;rw [if_neg h39,if_neg hF,if_neg hT,if_neg h35,if_pos h0]
      obtain ⟨n0,hf⟩:=fin _ _ _ hc (by decide);rw [rd _ _ _ hc];obtain ⟨n1,h1⟩:=cut;obtain ⟨n2,h2⟩:=pre;refine ⟨n0+n1+n2+1,λn hn=>?_⟩;obtain ⟨m,rfl,hm⟩:=up1 hn;have h1:=h1 m (by omega);have h2:=h2 m (by omega);obtain ⟨g1,g2⟩:=hf m (by omega);dsimp only [em] at h1 h2 g1 g2;have b0:(!(s.toList== []))=false:=by simpa using h0
      simp only [DW,FP,D6,qk,h1,tF,tT,bT,bF,h2,b35,te,b0,g1];have ho:=Yi;dsimp only [em] at ho;simp only [g2 ho,ho];by_cases e:(Di 0 0 (⟨#[]⟩:BA)).toList=s.toList<;>simp [em,ho,e]
     ·have hc:En s=(1,F0 s,em):=by unfold En;rw [if_neg h39,if_neg hF,if_neg hT,if_neg h35,if_neg h0]
      obtain ⟨n0,hf⟩:=fin _ _ _ hc (by decide);rw [rd _ _ _ hc];obtain ⟨n1,h1⟩:=cut;obtain ⟨n2,h2⟩:=pre;obtain ⟨n4,h4⟩:=Qt (F0 s);have b0:(!(s.toList== []))=true:=by simpa using h0
      rcases VY s (by omega) with ⟨n3,h3⟩|⟨n3,h3⟩
      all_goals
       refine ⟨n0+n1+n2+n3+n4+1,λn hn=>?_⟩;obtain ⟨m,rfl,hm⟩:=up1 hn;have h1:=h1 m (by omega);have h2:=h2 m (by omega);have h3:=h3 m (by omega);have h4:=h4 m (by omega);obtain ⟨g1,g2⟩:=hf m (by omega);dsimp only at h1 h2 h3 h4;simp only [DW,FP,D6,qk,h1,tF,tT,bT,bF,h2,b35,te,b0,h3,h4,g1];cases ho:okV 1 (F0 s) em with
       |false=>simp
       |true=>
        simp only [g2 ho];by_cases e:(Di 1 (F0 s) em).toList=s.toList<;>simp [e]
theorem Tk (n:Nat) (s:BA) (a b:Int) (c:BA) (h1:∀i,0<=i/\i<=5->FV n i=some (qt i)):
  ∀(k:Nat) (i x:Int) (M:Nat),i+k=6->1<=i->k+1<=M->(Sw s k i (4,x,em)).1=4/\(Sw s k i (4,x,em)).2.2=em/\zE (FZ n) M (s,i,a,b,c,4,x,⟨#[]⟩)=some (a,b,c,4,(Sw s k i (4,x,em)).2.1,⟨#[]⟩)
 |k,i,x,0,e,h,hM=>by omega
 |0,i,x,M+1,e,h,hM=>by
  have hi:¬i<=5:=by omega
  refine ⟨rfl,rfl,?_⟩;rw [qd (r:=(a,b,c,4,x,⟨#[]⟩)) (by simp [FZ,qk,hi])];rfl
 |k+1,i,x,M+1,e,h,hM=>by
  have hi:i<=5:=by omega
  have g:=h1 i (by omega);have w1:IntKind.i64.wrap (i+1)=i+1:=ql (by omega);have hu:Sw s (k+1) i (4,x,em)=Sw s k (i+1) (4,if (qt i).toList=s.toList then i else x,em):=by
   simp only [Sw];split<;>rfl
  rw [hu,qm (v':=(s,i+1,a,b,c,4,(if (qt i).toList=s.toList then i else x),⟨#[]⟩)) (by
   simp only [FZ,qk,g,w1];rw [if_pos (zD hi)];by_cases hq:(qt i).toList=s.toList<;>simp [hq])]
  exact Tk n s a b c h1 k (i+1) _ M (by omega) (by omega) (by omega)
theorem mb (s:BA):Sw s 5 1 (4,0,em)=(4,JI s,em):=by
 have a2:(1:Int)+1=2:=by decide
 have a3:(2:Int)+1=3:=by decide
 have a4:(3:Int)+1=4:=by decide
 have a5:(4:Int)+1=5:=by decide
 simp only [Sw,JI,a2,a3,a4,a5];by_cases h5:(qt 5).toList=s.toList
 ·simp [h5]
 by_cases h4:(qt 4).toList=s.toList
 ·simp [h5,h4]
 by_cases h3:(qt 3).toList=s.toList
 ·simp [h5,h4,h3]
 by_cases h2:(qt 2).toList=s.toList
 ·simp [h5,h4,h3,h2]
 by_cases h1:(qt 1).toList=s.toList<;>simp [h5,h4,h3,h2,h1]
theorem rn (s:BA):(s.extract (1:Int).toNat ((s.size:Int)).toNat).toList=s.toList.tail:=by
 have e1:(1:Int).toNat=1:=rfl;rw [bO,e1,zao,ByteArray.data_extract,Array.toList_extract,zao];have hl:s.data.toList.length=s.size:=by rw [<-HY]
 show (s.data.toList.drop 1).take (s.size-1)=s.data.toList.tail;rw [List.take_of_length_le (by rw [List.length_drop,hl];exact zK _),List.drop_one]
theorem gh {s:BA} {c:UInt8} {r:List UInt8} (h:s.toList=c::r):s.toList[((0:Int)).toNat]?=some c:=by rw [h];rfl
theorem br {x:Int}:okV 1 x em=decide (-1000000000000000<=x/\x<=1000000000000000):=by
 simp [okV,em,q7]
theorem dr {s:BA} (h39:¬s.toList.head?=some 39) (hF:¬s.toList= [70,65,76,83,69]) (hT:¬s.toList= [84,82,85,69]) (h35:¬s.toList.head?=some 35) (h0:¬s.toList= []):
  qz s=match ZT s.toList with
   |some x=>if okV 1 x em=true then (1,x,em,true) else (0,0,⟨#[]⟩,false)
   |none=>(0,0,⟨#[]⟩,false):=by
 have hc:En s=(1,F0 s,em):=by unfold En;rw [if_neg h39,if_neg hF,if_neg hT,if_neg h35,if_neg h0]
 have rd:qz s=if okV 1 (F0 s) em=true/\(Di 1 (F0 s) em).toList=s.toList then (1,F0 s,em,true) else (0,0,⟨#[]⟩,false):=by unfold qz;rw [hc]
 have tx:∀x,(Di 1 x em).toList=Lib.itoa x:=λx=>by
  rw [zao];simp [Di,JH]
 have back:okV 1 (F0 s) em=true/\(Di 1 (F0 s) em).toList=s.toList->ZT s.toList=some (F0 s):=λ⟨a,b⟩=>by
  rw [tx] at b;rw [br] at a;rw [<-b];exact dq (by simpa using a)
 rw [rd];cases hn:ZT s.toList with
 |none=>
  rw [if_neg (λh=>by rw [back h] at hn;cases hn)]
 |some x=>
  by_cases hx:okV 1 x em=true
  ·have hi:=dp hn;have hr: -1000000000000000<=x/\x<=1000000000000000:=by rw [br] at hx;simpa using hx
   have hp:=Qv hi hr;dsimp only;rw [hp,if_pos ⟨hx,by rw [tx,hi]⟩,if_pos hx]
  ·dsimp only;rw [if_neg hx,if_neg (λh=>by
    have:=back h;rw [hn] at this;cases this;exact hx h.1)]
theorem du (s:BA) {c:UInt8} {r:List UInt8} (hcr:s.toList=c::r):ZT s.toList=if c=45 then (if (l1I s.toList.tail 16).2=true/\(l1I s.toList.tail 16).1≠0 then some (-(l1I s.toList.tail 16).1) else none) else (if (l1I s.toList 16).2=true then some (l1I s.toList 16).1 else none):=by
 unfold ZT;rw [hcr];simp only [List.head?_cons,zR,List.drop_one]
theorem NU (s:BA) (hb:s.size<=1048576):Ev (Dw · s) (qz s):=by
 have te:(⟨#[]⟩:BA).toList= []:=q7;have tF:(⟨#[70,65,76,83,69]⟩:BA).toList= [70,65,76,83,69]:=by rw [zao]
 have tT:(⟨#[84,82,85,69]⟩:BA).toList= [84,82,85,69]:=by rw [zao]
 have hsz:s.size=s.toList.length:=(Dz s).symm;by_cases h0:s.toList= []
 ·have hv:qz s=(0,0,⟨#[]⟩,true):=by
   have hc:En s=(0,0,em):=by unfold En;rw [h0];simp
   unfold qz;rw [hc,if_pos ⟨Yi,by rw [VZ,h0];exact te⟩];rfl
  rw [hv];refine ⟨1,λn hn=>?_⟩;obtain ⟨m,rfl,hm⟩:=up1 hn;simp only [Dw,E3,Do,Dp,Dq,qk];simp [h0,te]
 ·obtain ⟨c,r,hcr⟩:∃c r,s.toList=c::r:=by
   cases hq:s.toList with
   |nil=>exact absurd hq h0
   |cons a b=>exact ⟨a,b,rfl⟩
  have hg:=gh hcr;have hd:s.toList.head?=some c:=by rw [hcr];rfl
  have b0:(s.toList== [])=false:=by simpa using h0
  have s1:(1:Int)<=(s.size:Int):=by rw [hsz,hcr];simp;omega
  have k39:=lz c 39 (by decide);have k35:=lz c 35 (by decide);have k45:=lz c 45 (by decide);have u39:UInt8.ofNat 39=39:=rfl;have u35:UInt8.ofNat 35=35:=rfl;have u45:UInt8.ofNat 45=45:=rfl;rw [u39] at k39;rw [u35] at k35;rw [u45] at k45;have q39:((39:Nat):Int)=39:=rfl;have q35:((35:Nat):Int)=35:=rfl;have q45:((45:Nat):Int)=45:=rfl;rw [q39] at k39;rw [q35] at k35;rw [q45] at k45;by_cases h39:c=39
  ·have hx:(⟨s.toList.tail.toArray⟩:BA)=s.extract (1:Int).toNat ((s.size:Int)).toNat:=IK (by rw [rn];rw [zao]);have hc:En s=(2,0,s.extract (1:Int).toNat ((s.size:Int)).toNat):=by unfold En;rw [if_pos (by rw [hd,h39]),hx]
   have hz:(s.extract (1:Int).toNat ((s.size:Int)).toNat).size<=140737488351232:=by rw [<-hx,HY];simp only [List.length_tail];rw [Dz];omega
   have hvt:(Di 2 0 (s.extract (1:Int).toNat ((s.size:Int)).toNat)).toList=s.toList:=by
    rw [<-hx,zao];show ((⟨#[39]⟩:BA)++_).data.toList=_;rw [H5,hcr,h39];rfl
   have hv:qz s=if okV 2 0 (s.extract (1:Int).toNat ((s.size:Int)).toNat)=true then (2,0,s.extract (1:Int).toNat ((s.size:Int)).toNat,true) else (0,0,⟨#[]⟩,false):=by
    unfold qz;rw [hc];simp only [hvt,and_true]
   rw [hv];have e39:(some c==some 39)=true:=by rw [h39];rfl
   obtain ⟨n1,h1⟩:=Dm 2 0 (s.extract (1:Int).toNat ((s.size:Int)).toNat) hz;refine ⟨n1+1,λn hn=>?_⟩;obtain ⟨m,rfl,hm⟩:=up1 hn;have h1:=h1 m (by omega);dsimp only at h1;simp only [Dw,E3,Do,Dp,Dq,qk,h1];simp only [qk,te,b0,hg,k39,e39];cases ho:okV 2 0 (s.extract (1:Int).toNat ((s.size:Int)).toNat)<;>simp [s1]
  ·have n39:¬s.toList.head?=some 39:=by rw [hd];simpa using h39
   have e39:(some c==some 39)=false:=by simpa using h39
   by_cases hT:s.toList= [84,82,85,69]
   ·have hF:¬s.toList= [70,65,76,83,69]:=by rw [hT];decide
    have hc:En s=(3,1,em):=by unfold En;rw [if_neg n39,if_neg hF,if_pos hT]
    have ho:okV 3 1 em=true:=by simp [okV,em,q7]
    have hv:qz s=(3,1,⟨#[]⟩,true):=by
     unfold qz;rw [hc,if_pos ⟨ho,by rw [hT];exact tT⟩];rfl
    rw [hv];have bT:(s.toList== [84,82,85,69])=true:=by simpa using hT
    obtain ⟨n1,h1⟩:=Dm 3 1 ⟨#[]⟩ (by decide);refine ⟨n1+1,λn hn=>?_⟩;obtain ⟨m,rfl,hm⟩:=up1 hn;have h1:=h1 m (by omega);dsimp only at h1;simp only [Dw,E3,Do,Dp,Dq,qk,h1];dsimp only [em] at ho;simp only [qk,te,b0,hg,k39,e39,tT,bT,ho];simp
   ·have bT:(s.toList== [84,82,85,69])=false:=by simpa using hT
    by_cases hF:s.toList= [70,65,76,83,69]
    ·have hc:En s=(3,0,em):=by unfold En;rw [if_neg n39,if_pos hF]
     have ho:okV 3 0 em=true:=by simp [okV,em,q7]
     have hv:qz s=(3,0,⟨#[]⟩,true):=by
      unfold qz;rw [hc,if_pos ⟨ho,by rw [hF];exact tF⟩];rfl
     rw [hv];have bF:(s.toList== [70,65,76,83,69])=true:=by simpa using hF
     obtain ⟨n1,h1⟩:=Dm 3 0 ⟨#[]⟩ (by decide);refine ⟨n1+1,λn hn=>?_⟩;obtain ⟨m,rfl,hm⟩:=up1 hn;have h1:=h1 m (by omega);dsimp only at h1;simp only [Dw,E3,Do,Dp,Dq,qk,h1];dsimp only [em] at ho;simp only [qk,te,b0,hg,k39,e39,tT,bT,tF,bF,ho];simp
    ·have bF:(s.toList== [70,65,76,83,69])=false:=by simpa using hF
     by_cases h35:c=35
     ·have n35:s.toList.head?=some 35:=by rw [hd,h35]
      have e35:(some c==some 35)=true:=by rw [h35];rfl
      have hc:En s=(if JI s=0 then (0,0,em) else (4,JI s,em)):=by unfold En;rw [if_neg n39,if_neg hF,if_neg hT,if_pos n35]
      have hin:=lx s;have ho:okV 4 (JI s) (⟨#[]⟩:BA)=!(JI s==0):=by
       by_cases hz:JI s=0
       ·simp [okV,q7,hz]
       ·have hr:1<=JI s/\JI s<=5:=by omega
        simp [okV,q7,hr,hz]
      have hv:qz s=if JI s=0 then (0,0,⟨#[]⟩,false) else (4,JI s,⟨#[]⟩,true):=by
       unfold qz;rw [hc];by_cases hz:JI s=0
       ·simp only [if_pos hz];rw [if_neg (λh=>h0 (by rw [<-h.2,VZ];exact te))]
       ·simp only [if_neg hz];have ho':okV 4 (JI s) em=true:=by show okV 4 (JI s) ⟨#[]⟩=true;rw [ho];simpa using hz
        rw [if_pos ⟨ho',by show (qt (JI s)).toList=s.toList;rw [ly hz]⟩];rfl
      rw [hv];obtain ⟨n1,h1⟩:=Dm 4 (JI s) ⟨#[]⟩ (by decide);obtain ⟨n3,h3⟩:=L5 (F:=FV) (f:=qt) (lo:=0) (by decide) Mx;refine ⟨n1+n3+10,λn hn=>?_⟩;obtain ⟨m,rfl,hm⟩:=up1 hn;have h1:=h1 m (by omega);dsimp only at h1;obtain ⟨_,_,lp⟩:=Tk m s 0 0 ⟨#[]⟩ (h3 m (by omega)) 5 1 0 m (by decide) (by decide) (by omega);rw [mb] at lp;simp only [Dw,E3,Do,Dp,Dq,qk,te,b0,hg,k39,e39,tT,bT,tF,bF,k35,e35,lp,h1,ho];by_cases hz:JI s=0<;>simp [hz]
     ·have n35:¬s.toList.head?=some 35:=by rw [hd];simpa using h35
      have e35:(some c==some 35)=false:=by simpa using h35
      rw [dr n39 hF hT n35 h0,du s hcr];dsimp only [em];by_cases h45:c=45
      ·have e45:(some c==some 45)=true:=by rw [h45];rfl
       have g16:∀{q:List UInt8},(l1I q 16).2=true->(0<=(l1I q 16).1/\(l1I q 16).1<=10000000000000000):=fun {q} hq=>by
        have p16:(10:Nat)^16=10000000000000000:=by decide
        obtain ⟨a1,a2,a3,a4⟩:=XV hq;rw [a3];simp only [Lx,zL] at a2;have:=ZS q 0 0 a2.1.2 (by decide);have h2:(10:Nat)^(0+q.length)<=10^16:=Nat.pow_le_pow_right (by decide) (by omega);omega
       have hl:=JJ (s.extract (1:Int).toNat ((s.size:Int)).toNat) 16 (by decide);rw [rn] at hl;have hrange:= @g16 s.toList.tail;generalize l1I s.toList.tail 16=q at*
       obtain ⟨x,ok⟩:=q;have w1:ok=true->IntKind.i64.wrap (0-x)= -x:=λh=>by
        have:=hrange h;dsimp only at this;rw [Int.zero_sub];exact ql (by omega)
       obtain ⟨n1,h1⟩:=hl;obtain ⟨n2,h2⟩:=Dm 1 (-x) ⟨#[]⟩ (by decide);refine ⟨n1+n2+1,λn hn=>?_⟩;obtain ⟨m,rfl,hm⟩:=up1 hn;have h1:=h1 m (by omega);dsimp only at h1;have h2:=h2 m (by omega);dsimp only at h2;simp only [Dw,E3,Do,Dp,Dq,qk,h1,h2];simp only [qk,te,b0,hg,k39,e39,tT,bT,tF,bF,k35,e35,k45,e45,h45,if_true];cases ok with
       |false=>simp [s1]
       |true=>
        simp only [qk,w1 rfl,h2];by_cases hx:x=0
        ·simp [s1,hx]
        ·cases ho:okV 1 (-x) (⟨#[]⟩:BA)<;>simp [s1,hx,ho]
      ·have e45:(some c==some 45)=false:=by simpa using h45
       have hl:=JJ s 16 (by decide);generalize l1I s.toList 16=q at*
       obtain ⟨x,ok⟩:=q;obtain ⟨n1,h1⟩:=hl;obtain ⟨n2,h2⟩:=Dm 1 x ⟨#[]⟩ (by decide);refine ⟨n1+n2+1,λn hn=>?_⟩;obtain ⟨m,rfl,hm⟩:=up1 hn;have h1:=h1 m (by omega);dsimp only at h1;have h2:=h2 m (by omega);dsimp only at h2;simp only [Dw,E3,Do,Dp,Dq,qk,h1,h2];simp only [qk,te,b0,hg,k39,e39,tT,bT,tF,bF,k35,e35,k45,e45,if_neg h45];cases ok with
       |false=>simp
       |true=>cases ho:okV 1 x (⟨#[]⟩:BA)<;>simp [ho]
theorem Nx {k x:Int} {s:BA} (h:okV k x s=true) (h2:¬k=2):s=em:=by
 unfold okV at h;rw [if_neg h2] at h;simp only [zL,zanG] at h;exact IK (by rw [h.1];exact q7.symm)
theorem bu {k x:Int} {s:BA} (h:okV k x s=true):k=0\/k=1\/k=2\/k=3\/k=4:=by
 by_cases k2:k=2
 ·omega
 ·unfold okV at h;rw [if_neg k2] at h;simp only [zL] at h;have h:=h.2;by_cases k0:k=0
  ·omega
  ·by_cases k1:k=1
   ·omega
   ·by_cases k3:k=3
    ·omega
    ·by_cases k4:k=4
     ·omega
     ·simp [k0,k1,k3,k4] at h
theorem OS {k x:Int} {s:BA} (h:okV k x s=true):qz (Di k x s)=(k,x,s,true):=by
 have key:En (Di k x s)=(k,x,s)->qz (Di k x s)=(k,x,s,true):=λhc=>by
  unfold qz;rw [hc,if_pos ⟨h,rfl⟩]
 apply key;rcases bu h with rfl|rfl|rfl|rfl|rfl
 ·have he:=Nx h (by decide);subst he;have hx:x=0:=by simpa [okV,em,q7] using h
  subst hx;have:(Di 0 0 em).toList= []:=q7;unfold En;rw [this];rfl
 ·have he:=Nx h (by decide);subst he;have hr:=bn h;have ht:(Di 1 x em).toList=Lib.itoa x:=by rw [zao];simp [Di,JH]
  have hp:=Qv ht hr;obtain ⟨c,r,hcr,hc⟩:∃c r,Lib.itoa x=c::r/\(c=45\/EQ c=true):=by
   unfold Lib.itoa;split
   ·exact ⟨45,_,rfl,.inl rfl⟩
   ·obtain ⟨c,r,h1,h2⟩:=OR x.toNat;exact ⟨c,r,h1,.inr h2⟩
  have hn:∀q:UInt8,EQ q=false->q≠45->c≠q:=λq h1 h2 e=>by
   subst e;rcases hc with hc|hc
   ·exact h2 hc
   ·rw [h1] at hc;cases hc
  have n39:=hn 39 (by decide) (by decide);have n35:=hn 35 (by decide) (by decide);have n70:=hn 70 (by decide) (by decide);have n84:=hn 84 (by decide) (by decide);unfold En;rw [hp,ht,hcr];simp [n39,n35,n70,n84]
 ·have h2:=Tg h;obtain ⟨rfl,_,_⟩:=h2;have ht:(Di 2 0 s).toList=39::s.toList:=by
   rw [zao];show ((⟨#[39]⟩:BA)++s).data.toList=_;rw [H5,zao];rfl
  have es:(⟨s.toList.toArray⟩:BA)=s:=IK (Eh _);unfold En;rw [ht];simp [es]
 ·have he:=Nx h (by decide);subst he;have hr:=Yd h;have c:x=0\/x=1:=by omega
  rcases c with rfl|rfl
  ·have ht:(Di 3 0 em).toList= [70,65,76,83,69]:=by rw [zao];rfl
   unfold En;rw [ht];rfl
  ·have ht:(Di 3 1 em).toList= [84,82,85,69]:=by rw [zao];rfl
   unfold En;rw [ht];rfl
 ·have he:=Nx h (by decide);subst he;have hr:=Ye h;have t1:(qt 1).toList= [35,68,73,86,33]:=by rw [zao];rfl
  have t2:(qt 2).toList= [35,84,89,80,69,33]:=by rw [zao];rfl
  have t3:(qt 3).toList= [35,82,69,70,33]:=by rw [zao];rfl
  have t4:(qt 4).toList= [35,79,86,69,82,33]:=by rw [zao];rfl
  have t5:(qt 5).toList= [35,67,89,67,76,69,33]:=by rw [zao];rfl
  have hx:Di 4 x em=qt x:=rfl;rw [hx];rcases tg hr with rfl|rfl|rfl|rfl|rfl
  all_goals
   unfold En JI;simp [t1,t2,t3,t4,t5]
def rcK (s:BA):Nat->Int->Int
 |0,_=>0
 |k+1,i=>if (Fl i).toList=s.toList then i else rcK s k (i+1)
def KI (s:BA):Int:=rcK s 52 1
theorem gk (s:BA):∀(k:Nat) (i:Int),1<=rcK s k i->(Fl (rcK s k i)).toList=s.toList
 |0,i,h=>by simp [rcK] at h
 |k+1,i,h=>by
  simp only [rcK] at h⊢;by_cases e:(Fl i).toList=s.toList
  ·rw [if_pos e];exact e
  ·rw [if_neg e] at h⊢;exact gk s k (i+1) h
def Jr (c:UInt8):Bool:=decide (65<=c.toNat)&&decide (c.toNat<=90)
def qp (l:List UInt8):List UInt8:=if l.head?=some 36 then l.tail else l
def qh (l:List UInt8):List UInt8:=l.takeWhile Jr
def q9 (l:List UInt8):List UInt8:=l.dropWhile Jr
def Ej (s:BA):Int×Int×Bool×Bool×Bool:=
 if (l1I (qp (q9 (qp s.toList))) 2).2=true/\D8 (KI ⟨(qh (qp s.toList)).toArray⟩) (l1I (qp (q9 (qp s.toList))) 2).1=true then
  (KI ⟨(qh (qp s.toList)).toArray⟩,(l1I (qp (q9 (qp s.toList))) 2).1,s.toList.head?==some 36,(q9 (qp s.toList)).head?==some 36,true) else (0,0,false,false,false)
theorem Sx {R:Type} {B:BA×Int->Tr ((BA×Int)⊕(Int⊕Unit))} {s:BA} (hs:∀i:Int,1<=i/\i<=52->(B (s,i)).run=some (if (Fl i).toList=s.toList then .inr (.inl i) else .inl (s,i+1))) (he:(B (s,53)).run=some (.inr (.inr ()))):
  ∀(k:Nat) (i:Int) (M:Nat),1<=i->i+k=53->k+1<=M->zE B M (s,i)=some (if rcK s k i=0 then .inr () else .inl (rcK s k i))
 |k,i,0,h1,h2,h3=>by omega
 |0,i,M+1,h1,h2,h3=>by
  have:i=53:=by omega
  subst this;rw [qd he];rfl
 |k+1,i,M+1,h1,h2,h3=>by
  have h:=hs i ⟨h1,by omega⟩;by_cases e:(Fl i).toList=s.toList
  ·rw [if_pos e] at h;rw [qd h];simp only [rcK,if_pos e];rw [if_neg (by omega)]
  ·rw [if_neg e] at h;rw [qm h];simp only [rcK,if_neg e];exact Sx (R:=R) hs he k (i+1) M (by omega) (by omega) (by omega)
theorem bv {F:Nat->Int->Option BA} (h:∀i,Ev (F · i) (Fl i)):∃n0,∀n,n0<=n->∀i,1<=i/\i<=52->F n i=some (Fl i):=by
 obtain ⟨n0,h1⟩:=Eu (F:=λ(i:Nat) n=>F n (i:Int)) (f:=λi=>Fl (i:Int)) (List.range 53) (λi _=>h i);refine ⟨n0,λn hn i hi=>?_⟩;have:=h1 n hn i.toNat (by rw [List.mem_range];omega)
 rwa [Int.toNat_of_nonneg (by omega)] at this
theorem WX (s:BA):Ev (IX · s) (KI s):=by
 obtain ⟨n0,h⟩:=bv Ps;refine ⟨n0+60,λn hn=>?_⟩;obtain ⟨m,rfl,hm⟩:=up1 hn;have hc:=h m (by omega);have lp:=Sx (R:=Unit) (B:=HF m) (s:=s) (λi hi=>by
  have g:=hc i hi;have w1:IntKind.i64.wrap (i+1)=i+1:=ql (by omega);simp only [HF,qk,g,w1];rw [if_pos (zD hi.2)];by_cases e:(Fl i).toList=s.toList<;>simp [e]) (by simp [HF,qk]) 52 1 m (by decide) (by decide) (by omega)
 simp only [IX,ML,qk,lp];show _=some (rcK s 52 1);by_cases e:rcK s 52 1=0
 ·rw [if_pos e,e];rfl
 ·rw [if_neg e];rfl
theorem WY (s:BA):Ev (J8 · s) (KI s):=by
 obtain ⟨n0,h⟩:=bv Pr;refine ⟨n0+60,λn hn=>?_⟩;obtain ⟨m,rfl,hm⟩:=up1 hn;have hc:=h m (by omega);have lp:=Sx (R:=Unit) (B:=HK m) (s:=s) (λi hi=>by
  have g:=hc i hi;have w1:IntKind.i64.wrap (i+1)=i+1:=ql (by omega);simp only [HK,qk,g,w1];rw [if_pos (zD hi.2)];by_cases e:(Fl i).toList=s.toList<;>simp [e]) (by simp [HK,qk]) 52 1 m (by decide) (by decide) (by omega)
 simp only [J8,Mc,qk,lp];show _=some (rcK s 52 1);by_cases e:rcK s 52 1=0
 ·rw [if_pos e,e];rfl
 ·rw [if_neg e];rfl
theorem GK (b:BA):b.size=b.toList.length:=(Dz b).symm
theorem Z9 (b:BA) (k:Nat):(b.extract 0 k).toList=b.toList.take k:=by
 rw [zao,ByteArray.data_extract,Array.toList_extract,zao];show (b.data.toList.drop 0).take (k-0)=_;simp
theorem LA (b:BA) (k:Nat):(b.extract k b.size).toList=b.toList.drop k:=by
 rw [zao,ByteArray.data_extract,Array.toList_extract,zao];have hl:b.data.toList.length=b.size:=by rw [<-HY]
 show (b.data.toList.drop k).take (b.size-k)=_;rw [List.take_of_length_le (by rw [List.length_drop,hl];exact zK _)]
theorem Tl (l:List UInt8):l.take (qh l).length=qh l:=by
 have h:=List.takeWhile_append_dropWhile (p:=Jr) (l:=l);have h2:(List.takeWhile Jr l++List.dropWhile Jr l).take (List.takeWhile Jr l).length=List.takeWhile Jr l:=List.take_left ..;rw [h] at h2;exact h2
theorem PC (l:List UInt8):l.drop (qh l).length=q9 l:=by
 have h:=List.takeWhile_append_dropWhile (p:=Jr) (l:=l);have h2:(List.takeWhile Jr l++List.dropWhile Jr l).drop (List.takeWhile Jr l).length=List.dropWhile Jr l:=List.drop_left ..;rw [h] at h2;exact h2
theorem Va (l:List UInt8):(qh l).length<=l.length:=by
 have h:=congrArg List.length (List.takeWhile_append_dropWhile (p:=Jr) (l:=l));rw [zamO] at h;unfold qh;omega
theorem Tm (n:Nat) (b:BA) (fc:Bool) (hb:b.size<=1048576):∀(r pre:List UInt8) (M:Nat),b.toList=pre++r->r.length+1<=M->
  zE (EV n) M (b,(pre.length:Int),0,0,false,false,0,0,fc,false)=some (b,((pre.length+(qh r).length:Nat):Int),0,0,false,false,0,0,fc,false)
 |r,pre,0,h1,h2=>by omega
 | [],pre,M+1,h1,h2=>by
  have hi:¬(pre.length:Int)<b.size:=by rw [GK,h1];simp
  rw [qd (r:=(b,(pre.length:Int),0,0,false,false,0,0,fc,false)) (by simp [EV,qk,hi])];simp [qh]
 |c::r,pre,M+1,h1,h2=>by
  have hl:b.size=pre.length+(r.length+1):=by rw [GK,h1];simp
  have hi:(pre.length:Int)<b.size:=by omega
  have hg:b.toList[pre.length]?=some c:=by rw [h1];simp
  have w1:IntKind.i64.wrap ((pre.length:Int)+1)=(pre.length:Int)+1:=ql (by omega);by_cases hc:Jr c=true
  ·have hc':65<=c.toNat/\c.toNat<=90:=by simpa [Jr] using hc
   have c1:(c.toNat:Int)≥65:=by omega
   have c2:(c.toNat:Int)<=90:=by omega
   have e0:((pre++ [c]).length:Int)=(pre.length:Int)+1:=by simp
   rw [qm (v':=(b,((pre++ [c]).length:Int),0,0,false,false,0,0,fc,false)) (by
    rw [e0];simp [EV,qk,hi,hg,c1,c2,w1])]
   rw [Tm n b fc hb r (pre++ [c]) M (by rw [h1];simp) (by simp at h2;omega)];simp [qh,hc];omega
  ·rw [qd (r:=(b,(pre.length:Int),0,0,false,false,0,0,fc,false)) (by
    by_cases c1:(c.toNat:Int)≥65
    ·have c2:¬(c.toNat:Int)<=90:=λh=>hc (by simp [Jr];omega)
     simp [EV,qk,hi,hg,c1,c2]
    ·simp [EV,qk,hi,hg,c1])]
   simp [qh,hc]
theorem Tn (s:BA) (hb:s.size<=1048576):Ev (E2 · s) (Ej s):=by
 have main:∀(b:BA) (fc:Bool),b.size<=1048576->b.toList=qp s.toList->fc=(s.toList.head?==some 36)->
   ∃n0,∀m,n0<=m->zE (EV m) m (b,0,0,0,false,false,0,0,fc,false)=some (b,((qh (qp s.toList)).length:Int),0,0,false,false,0,0,fc,false)/\
    IX m (b.extract 0 (qh (qp s.toList)).length)=some (KI ⟨(qh (qp s.toList)).toArray⟩)/\
    El m (b.extract (qh (qp s.toList)).length b.size) 2=some (l1I (q9 (qp s.toList)) 2)/\
    El m ((b.extract (qh (qp s.toList)).length b.size).extract 1 (b.extract (qh (qp s.toList)).length b.size).size) 2=some (l1I (q9 (qp s.toList)).tail 2):=λb fc hb hl _=>by
  have x1:b.extract 0 (qh (qp s.toList)).length=⟨(qh (qp s.toList)).toArray⟩:=IK (by rw [Z9,hl,Tl,Eh (qh (qp s.toList))]);have x2:(b.extract (qh (qp s.toList)).length b.size).toList=q9 (qp s.toList):=by rw [LA,hl,PC]
  have x3:((b.extract (qh (qp s.toList)).length b.size).extract 1 (b.extract (qh (qp s.toList)).length b.size).size).toList=(q9 (qp s.toList)).tail:=by rw [LA,x2,List.drop_one]
  obtain ⟨n1,h1⟩:=WX (b.extract 0 (qh (qp s.toList)).length);obtain ⟨n2,h2⟩:=JJ (b.extract (qh (qp s.toList)).length b.size) 2 (by decide);obtain ⟨n3,h3⟩:=JJ ((b.extract (qh (qp s.toList)).length b.size).extract 1 (b.extract (qh (qp s.toList)).length b.size).size) 2 (by decide);rw [x1] at h1;rw [x2] at h2;rw [x3] at h3;refine ⟨n1+n2+n3+b.size+2,λm hm=>⟨?_,by rw [x1];exact h1 m (by omega),h2 m (by omega),h3 m (by omega)⟩⟩;have:=Tm m b fc hb b.toList [] m rfl (by rw [<-GK];omega);simp only [zanD,Int.natCast_zero,Nat.zero_add] at this;rw [this,hl]
 have z:∀(b:BA),b.toList=qp s.toList->((qh (qp s.toList)).length:Int)<=b.size:=λb hl=>by
  have:=Va (qp s.toList);rw [<-hl] at this⊢;rw [GK];omega
 have k36:∀c:UInt8,((c.toNat:Int)==36)=(some c==some 36):=λc=>by
  have h:=lz c 36 (by decide);have u:UInt8.ofNat 36=36:=rfl;rw [u] at h;exact h
 unfold Ej;have part:∀(b:BA) (fc:Bool),b.size<=1048576->b.toList=qp s.toList->fc=(s.toList.head?==some 36)->
   ((fc=true/\b=s.extract 1 s.size/\∃c r,s.toList=c::r/\c=36)\/(fc=false/\b=s/\∀c r,s.toList=c::r->(some c==some (36:UInt8))=false))->
   Ev (E2 · s) (if (l1I (qp (q9 (qp s.toList))) 2).2=true/\D8 (KI ⟨(qh (qp s.toList)).toArray⟩) (l1I (qp (q9 (qp s.toList))) 2).1=true then
    (KI ⟨(qh (qp s.toList)).toArray⟩,(l1I (qp (q9 (qp s.toList))) 2).1,s.toList.head?==some 36,(q9 (qp s.toList)).head?==some 36,true) else (0,0,false,false,false)):=λb fc hb2 hl hfc hcase=>by
  obtain ⟨n0,hm0⟩:=main b fc hb2 hl hfc;have hz:=z b hl;obtain ⟨n2,h2⟩:=Gj (KI ⟨(qh (qp s.toList)).toArray⟩) (l1I (qp (q9 (qp s.toList))) 2).1;have x2:(b.extract (qh (qp s.toList)).length b.size).toList=q9 (qp s.toList):=by rw [LA,hl,PC]
  rw [<-hfc];refine ⟨n0+n2+1,λn hn=>?_⟩;obtain ⟨m,rfl,hm⟩:=up1 hn;obtain ⟨g1,g2,g3,g4⟩:=hm0 m (by omega);have h2:=h2 m (by omega);dsimp only at h2;have e1:(1:Int).toNat=1:=rfl;have e0:(0:Int).toNat=0:=rfl;have start:∀q,(Gm m s).run=q->E2 (m+1) s=q:=λq h=>h
  apply start;rcases hcase with ⟨rfl,rfl,c,r,hcr,rfl⟩|⟨rfl,rfl,hno⟩
  ·have hsz:(s.size:Int)>0:=by rw [GK,hcr];simp<;>omega
   have hs1:(1:Int)<=s.size:=by omega
   have hg:s.toList[0]?=some 36:=by rw [hcr];rfl
   have bs:(s.extract 1 s.size).size=s.size-1:=by rw [GK,LA,List.length_drop,<-GK]
   have zn:(qh (qp s.toList)).length<=s.size-1:=by rw [<-bs];omega
   have sn:0<s.size:=by omega
   have c36:((((36:UInt8)).toNat:Int)==36)=true:=rfl;simp only [Gm,GV,GW,qk,bO,e0,e1,hg,c36,g1,g2];cases hq:q9 (qp s.toList) with
   |nil=>
    have y0:((s.extract 1 s.size).extract (qh (qp s.toList)).length (s.extract 1 s.size).size).size=0:=by rw [GK,x2,hq];rfl
    have hoff:qp (q9 (qp s.toList))= []:=by rw [hq];rfl
    rw [hoff] at h2;rw [hq] at g3;simp only [y0,g3,h2,qk];have hoff':qp ([]:List UInt8)= []:=rfl;rw [hoff'];generalize l1I ([]:List UInt8) 2=q at*
    obtain ⟨x,ok⟩:=q;cases ok<;>cases hk:D8 (KI ⟨(qh (qp s.toList)).toArray⟩) x<;>simp [hz,hsz,hs1,zn,sn]
   |cons d w=>
    have y0:(((s.extract 1 s.size).extract (qh (qp s.toList)).length (s.extract 1 s.size).size).size:Int)>0:=by rw [GK,x2,hq];simp<;>omega
    have y1:(1:Int)<=((s.extract 1 s.size).extract (qh (qp s.toList)).length (s.extract 1 s.size).size).size:=by omega
    have ys:((s.extract 1 s.size).extract (qh (qp s.toList)).length (s.extract 1 s.size).size).size=(s.extract 1 s.size).size-(qh (qp s.toList)).length:=by rw [GK,LA,List.length_drop,<-GK]
    have yn:(qh (qp s.toList)).length<(s.size-1):=by rw [<-bs];omega
    have yn2:1<=(s.size-1)-(qh (qp s.toList)).length:=by omega
    have yn3:0<(s.size-1)-(qh (qp s.toList)).length:=by omega
    have yn4:(1:Int)<=(((s.size-1)-(qh (qp s.toList)).length:Nat):Int):=by omega
    have yg:((s.extract 1 s.size).extract (qh (qp s.toList)).length (s.extract 1 s.size).size).toList[0]?=some d:=by rw [x2,hq];rfl
    rw [hq] at g3 g4 h2;simp only [yg,k36 d,qk];by_cases hd:d=36
    ·have hoff:qp (d::w)=w:=by unfold qp;rw [if_pos (by rw [hd];rfl)];rfl
     rw [hoff] at h2⊢;have e36:(some d==some (36:UInt8))=true:=by rw [hd];rfl
     simp only [List.tail_cons] at g4;simp only [e36,g4,h2,List.head?_cons,qk];generalize l1I w 2=q at*
     obtain ⟨x,ok⟩:=q;cases ok<;>cases hk:D8 (KI ⟨(qh (qp s.toList)).toArray⟩) x<;>simp [hz,hsz,hs1,y0,y1,zn,sn,yn,yn2,yn3,yn4]
    ·have hoff:qp (d::w)=d::w:=by unfold qp;rw [if_neg (by simpa using hd)]
     rw [hoff] at h2⊢;have e36:(some d==some (36:UInt8))=false:=by simpa using hd
     simp only [e36,g3,h2,List.head?_cons,qk];generalize l1I (d::w) 2=q at*
     obtain ⟨x,ok⟩:=q;cases ok<;>cases hk:D8 (KI ⟨(qh (qp s.toList)).toArray⟩) x<;>simp [hz,hsz,hs1,y0,y1,zn,sn,yn,yn2,yn3,yn4]
  ·by_cases hs0:(b.size:Int)>0
   ·obtain ⟨c,r,hcr⟩:∃c r,b.toList=c::r:=by
     cases hq:b.toList with
     |nil=>rw [GK,hq] at hs0;simp at hs0
     |cons a l=>exact ⟨a,l,rfl⟩
    have hg:b.toList[0]?=some c:=by rw [hcr];rfl
    have hc:=hno c r hcr;have hsz:(b.size:Int)>0:=hs0;have hs1:(1:Int)<=b.size:=by omega
    have zn:(qh (qp b.toList)).length<=b.size:=by omega
    have sn:0<b.size:=by omega
    simp only [Gm,GV,GW,qk,bO,e0,e1,hg,k36 c,hc,g1,g2];cases hq:q9 (qp b.toList) with
    |nil=>
     have y0:(b.extract (qh (qp b.toList)).length b.size).size=0:=by rw [GK,x2,hq];rfl
     have hoff:qp (q9 (qp b.toList))= []:=by rw [hq];rfl
     rw [hoff] at h2;rw [hq] at g3;simp only [y0,g3,h2,qk];have hoff':qp ([]:List UInt8)= []:=rfl;rw [hoff'];generalize l1I ([]:List UInt8) 2=q at*
     obtain ⟨x,ok⟩:=q;cases ok<;>cases hk:D8 (KI ⟨(qh (qp b.toList)).toArray⟩) x<;>simp [hz,hsz,hs1,zn,sn]
    |cons d w=>
     have y0:((b.extract (qh (qp b.toList)).length b.size).size:Int)>0:=by rw [GK,x2,hq];simp<;>omega
     have y1:(1:Int)<=(b.extract (qh (qp b.toList)).length b.size).size:=by omega
     have ys:(b.extract (qh (qp b.toList)).length b.size).size=b.size-(qh (qp b.toList)).length:=by rw [GK,LA,List.length_drop,<-GK]
     have yn:(qh (qp b.toList)).length<b.size:=by omega
     have yn2:1<=b.size-(qh (qp b.toList)).length:=by omega
     have yn3:0<b.size-(qh (qp b.toList)).length:=by omega
     have yn4:(1:Int)<=((b.size-(qh (qp b.toList)).length:Nat):Int):=by omega
     have yg:(b.extract (qh (qp b.toList)).length b.size).toList[0]?=some d:=by rw [x2,hq];rfl
     rw [hq] at g3 g4 h2;simp only [yg,k36 d,qk];by_cases hd:d=36
     ·have hoff:qp (d::w)=w:=by unfold qp;rw [if_pos (by rw [hd];rfl)];rfl
      rw [hoff] at h2⊢;have e36:(some d==some (36:UInt8))=true:=by rw [hd];rfl
      simp only [List.tail_cons] at g4;simp only [e36,g4,h2,List.head?_cons,qk];generalize l1I w 2=q at*
      obtain ⟨x,ok⟩:=q;cases ok<;>cases hk:D8 (KI ⟨(qh (qp b.toList)).toArray⟩) x<;>simp [hz,hsz,hs1,y0,y1,zn,sn,yn,yn2,yn3,yn4]
     ·have hoff:qp (d::w)=d::w:=by unfold qp;rw [if_neg (by simpa using hd)]
      rw [hoff] at h2⊢;have e36:(some d==some (36:UInt8))=false:=by simpa using hd
      simp only [e36,g3,h2,List.head?_cons,qk];generalize l1I (d::w) 2=q at*
      obtain ⟨x,ok⟩:=q;cases ok<;>cases hk:D8 (KI ⟨(qh (qp b.toList)).toArray⟩) x<;>simp [hz,hsz,hs1,y0,y1,zn,sn,yn,yn2,yn3,yn4]
   ·have hsz:¬(b.size:Int)>0:=hs0;have hs1:True:=trivial;have zn:(qh (qp b.toList)).length<=b.size:=by omega
    have sn:b.size=0:=by omega
    have lb:b.toList= []:=bJ (by rw [<-GK];omega);have hb0:q9 (qp b.toList)= []:=by rw [lb];rfl
    have ln:qh (qp b.toList)= []:=by rw [lb];rfl
    simp only [Gm,GV,GW,qk,bO,e0,e1,g1,g2];cases hq:q9 (qp b.toList) with
    |nil=>
     have y0:(b.extract (qh (qp b.toList)).length b.size).size=0:=by rw [GK,x2,hq];rfl
     have hoff:qp (q9 (qp b.toList))= []:=by rw [hq];rfl
     rw [hoff] at h2;rw [hq] at g3;simp only [y0,g3,h2,qk];have hoff':qp ([]:List UInt8)= []:=rfl;rw [hoff'];generalize l1I ([]:List UInt8) 2=q at*
     obtain ⟨x,ok⟩:=q;cases ok<;>cases hk:D8 (KI ⟨(qh (qp b.toList)).toArray⟩) x<;>simp [hz,hsz,hs1,zn,sn,ln]
    |cons d w=>rw [hb0] at hq;cases hq
 by_cases h36:s.toList.head?=some 36
 ·have ho:qp s.toList=s.toList.tail:=by unfold qp;rw [if_pos h36]
  have ht:(s.extract 1 s.size).toList=s.toList.tail:=by rw [LA,List.drop_one]
  obtain ⟨c,r,hcr⟩:∃c r,s.toList=c::r:=by
   cases hq:s.toList with
   |nil=>rw [hq] at h36;cases h36
   |cons a l=>exact ⟨a,l,rfl⟩
  refine part (s.extract 1 s.size) true (by rw [GK,ht,List.length_tail,<-GK];omega) (by rw [ht,ho]) (by rw [h36];rfl) (.inl ⟨rfl,rfl,c,r,hcr,?_⟩);rw [hcr] at h36;simpa using h36
 ·have ho:qp s.toList=s.toList:=by unfold qp;rw [if_neg h36]
  refine part s false hb ho.symm (by symm;simpa using h36) (.inr ⟨rfl,rfl,λc r hcr=>?_⟩);rw [hcr] at h36;simpa using h36
def upS:BA:=⟨#[65,66,67,68,69,70,71,72,73,74,75,76,77,78,79,80,81,82,83,84,85,86,87,88,89,90]⟩
theorem ov:∀i:Fin 256,(upS.data.toList.contains (UInt8.ofNat i.val))=(decide (65<=i.val)&&decide (i.val<=90)):=by decide+kernel
theorem rq (c:UInt8):(upS.data.toList.contains c)=Jr c:=by
 have h:=ov ⟨c.toNat,UInt8.toNat_lt c⟩;have e:UInt8.ofNat c.toNat=c:=by simp
 simp only [e] at h;exact h
theorem gn:(upS.data.toList.all λb=>decide (b.toNat<128))=true:=by decide+kernel
theorem b8 (s:BA):Ev (FJ · s ⟨#[65,66,67,68,69,70,71,72,73,74,75,76,77,78,79,80,81,82,83,84,85,86,87,88,89,90]⟩) ⟨(q9 s.toList).toArray⟩:=by
 refine ⟨1,λn hn=>?_⟩;obtain ⟨m,rfl,hm⟩:=up1 hn;show zb s upS=_;unfold zb;rw [if_pos ⟨by decide,gn⟩];unfold Lib.trimLeftS q9;rw [zao];have:(λc=>upS.data.toList.contains c)=Jr:=funext rq;rw [this]
theorem b9 (s:BA):Ev (DY · s ⟨#[36]⟩) (⟨(qp s.toList).toArray⟩,s.toList.head?==some 36):=by
 have h:=KH s 36;have es:(⟨s.toList.toArray⟩:BA)=s:=IK (Eh s.toList);by_cases e:s.toList.head?=some 36
 ·rw [if_pos e] at h;have:(s.toList.head?==some 36)=true:=by simpa using e
  unfold qp;rw [if_pos e,this];exact h
 ·rw [if_neg e] at h;have:(s.toList.head?==some 36)=false:=by simpa using e
  unfold qp;rw [if_neg e,this,es];exact h
theorem bw {r:Int} (h:1<=r/\r<=99):l1I (Lib.itoa r) 2=(r,true):=by
 have e:Lib.itoa r=Lib.decDigits r.toNat:=by unfold Lib.itoa;rw [if_neg (by omega)]
 obtain ⟨h1,h2,h3,_,_⟩:=Hm r.toNat;have hl:(Lib.decDigits r.toNat).length<=2:=by
  rw [Lib.decDigits_length];exact ol 2 r.toNat (by omega) (by
   have:(10:Nat)^2=100:=by decide
   omega)
 rw [e];unfold l1I;rw [if_pos ⟨by omega,Yf _⟩,h2]
 congr 1
 omega
theorem rt {l:List UInt8} (h:(l1I l 2).2=true):(l1I l 2).1=(EU 0 l:Int)/\Lib.decDigits (EU 0 l)=l:=by
 unfold l1I at h⊢;split at h
 ·rename_i hc;rw [if_pos hc];exact ⟨rfl,U9 _ l rfl hc.2⟩
 ·cases h
theorem gr (s:BA):Ej s=if D8 (KI ⟨(qh (qp s.toList)).toArray⟩) (F0 ⟨(qp (q9 (qp s.toList))).toArray⟩)=true/\
  (EF (KI ⟨(qh (qp s.toList)).toArray⟩) (F0 ⟨(qp (q9 (qp s.toList))).toArray⟩) (s.toList.head?==some 36) ((q9 (qp s.toList)).head?==some 36)).toList=s.toList then
   (KI ⟨(qh (qp s.toList)).toArray⟩,F0 ⟨(qp (q9 (qp s.toList))).toArray⟩,s.toList.head?==some 36,(q9 (qp s.toList)).head?==some 36,true) else (0,0,false,false,false):=by
 have hoff:∀l:List UInt8,l=(if (l.head?==some 36)=true then [36] else [])++qp l:=λl=>by
  unfold qp;cases l with
  |nil=>rfl
  |cons c r=>
   by_cases e:c=36
   ·subst e;simp
   ·simp [e]
 have hsplit:qp s.toList=qh (qp s.toList)++q9 (qp s.toList):=(List.takeWhile_append_dropWhile (p:=Jr) (l:=qp s.toList)).symm;have hs:s.toList=(if (s.toList.head?==some 36)=true then [36] else [])++qh (qp s.toList)++(if ((q9 (qp s.toList)).head?==some 36)=true then [36] else [])++qp (q9 (qp s.toList)):=by
  conv=>lhs;rw [hoff s.toList,hsplit,hoff (q9 (qp s.toList))]
  simp only [List.append_assoc]
 unfold Ej;generalize hL:qh (qp s.toList)=L at*
 generalize hR:qp (q9 (qp s.toList))=R at*
 generalize (s.toList.head?==some 36)=fc at*
 generalize ((q9 (qp s.toList)).head?==some 36)=fr at*
 have col:∀r,D8 (KI ⟨L.toArray⟩) r=true->(Fl (KI ⟨L.toArray⟩)).data.toList=L:=λr h=>by
  have:=gk (⟨L.toArray⟩:BA) 52 1 (KF h).1.1;rw [Eh L,zao] at this;exact this
 have pl:∀r,D8 (KI ⟨L.toArray⟩) r=true->(EF (KI ⟨L.toArray⟩) r fc fr).toList=(if fc=true then [36] else [])++L++(if fr=true then [36] else [])++Lib.itoa r:=λr h=>by
  rw [zao];unfold EF;rw [if_pos h,col r h];simp [JH]
 have tR:(⟨R.toArray⟩:BA).toList=R:=Eh R;by_cases hA:(l1I R 2).2=true/\D8 (KI ⟨L.toArray⟩) (l1I R 2).1=true
 ·obtain ⟨a1,a2⟩:=rt hA.1;have hr:=(KF hA.2).2;have hi:R=Lib.itoa (l1I R 2).1:=by
   rw [a1];unfold Lib.itoa;rw [if_neg (by omega),bO,a2]
  have hp:F0 ⟨R.toArray⟩=(l1I R 2).1:=Qv (by rw [tR];exact hi) (by omega);rw [if_pos hA,hp,if_pos ⟨hA.2,by rw [pl _ hA.2,<-hi];exact hs.symm⟩]
 ·rw [if_neg hA,if_neg];rintro ⟨h1,h2⟩;rw [pl _ h1] at h2;have h3:R=Lib.itoa (F0 ⟨R.toArray⟩):=by
   rw [hs] at h2;exact (List.append_cancel_left h2).symm
  have h4:=bw (KF h1).2;rw [<-h3] at h4;exact hA (by rw [h4];exact ⟨rfl,h1⟩)
theorem To (s:BA) (hb:s.size<=1048576):Ev (EX · s) (Ej s):=by
 rw [gr];have hlen:=Va (qp s.toList);have lo:(qp s.toList).length<=s.size:=by
  unfold qp;rw [GK];split
  ·rw [List.length_tail];omega
  ·exact zK _
 have l2:(q9 (qp s.toList)).length+(qh (qp s.toList)).length=(qp s.toList).length:=by
  have h:=congrArg List.length (List.takeWhile_append_dropWhile (p:=Jr) (l:=qp s.toList));rw [zamO] at h;unfold q9 qh;omega
 have z1:(⟨(qp s.toList).toArray⟩:BA).size=(qp s.toList).length:=by rw [GK,Eh (qp s.toList)]
 have z2:(⟨(q9 (qp s.toList)).toArray⟩:BA).size=(q9 (qp s.toList)).length:=by rw [GK,Eh (q9 (qp s.toList))]
 have w1:IntKind.i64.wrap (((qp s.toList).length:Int)-(q9 (qp s.toList)).length)=((qh (qp s.toList)).length:Int):=by rw [ql (by omega)];omega
 have x1:(⟨(qp s.toList).toArray⟩:BA).extract 0 (qh (qp s.toList)).length=⟨(qh (qp s.toList)).toArray⟩:=IK (by rw [Z9,Eh (qp s.toList),Tl,Eh (qh (qp s.toList))]);have x2:(⟨(qp s.toList).toArray⟩:BA).extract (qh (qp s.toList)).length (qp s.toList).length=⟨(q9 (qp s.toList)).toArray⟩:=IK (by rw [<-z1,LA,Eh (qp s.toList),PC,Eh (q9 (qp s.toList))]);have lr:(⟨(qp (q9 (qp s.toList))).toArray⟩:BA).size<=281474976710656:=by
  rw [GK,Eh (qp (q9 (qp s.toList)))];have:(qp (q9 (qp s.toList))).length<=(q9 (qp s.toList)).length:=by
   generalize q9 (qp s.toList)=q;unfold qp;split
   ·rw [List.length_tail];omega
   ·exact zK _
  omega
 obtain ⟨n1,h1⟩:=b9 s;obtain ⟨n2,h2⟩:=b8 ⟨(qp s.toList).toArray⟩;rw [Eh (qp s.toList)] at h2;obtain ⟨n3,h3⟩:=WY ⟨(qh (qp s.toList)).toArray⟩;obtain ⟨n4,h4⟩:=b9 ⟨(q9 (qp s.toList)).toArray⟩;rw [Eh (q9 (qp s.toList))] at h4;generalize qp s.toList=A at*
 generalize q9 A=Bq at*
 generalize qh A=L at*
 generalize qp Bq=R at*
 generalize (s.toList.head?==some 36)=fc at*
 generalize (Bq.head?==some 36)=fr at*
 obtain ⟨n5,h5⟩:=IH (KI ⟨L.toArray⟩) (F0 ⟨R.toArray⟩);obtain ⟨n6,h6⟩:=IT (KI ⟨L.toArray⟩) (F0 ⟨R.toArray⟩) fc fr;have e0:(0:Int).toNat=0:=rfl;have c1:L.length<=A.length:=by omega
 rcases VY ⟨R.toArray⟩ lr with ⟨n7,h7⟩|⟨n7,h7⟩
 all_goals
  refine ⟨n1+n2+n3+n4+n5+n6+n7+1,λn hn=>?_⟩;obtain ⟨m,rfl,hm⟩:=up1 hn;have h1:=h1 m (by omega);have h2:=h2 m (by omega);have h3:=h3 m (by omega);have h4:=h4 m (by omega);have h5:=h5 m (by omega);have h6:=h6 m (by omega);have h7:=h7 m (by omega);dsimp only at h1 h2 h3 h4 h5 h6 h7;simp only [EX,Kf,JB,qk,h1,h2,z1,z2,w1,bO,e0,x1,x2,h3,h4,h5,h6,h7];cases hk:D8 (KI ⟨L.toArray⟩) (F0 ⟨R.toArray⟩) with
  |false=>simp [c1]
  |true=>by_cases e:(EF (KI ⟨L.toArray⟩) (F0 ⟨R.toArray⟩) fc fr).toList=s.toList<;>simp [c1,e]
theorem gu:∀i:Fin 52,KI (Fl ((i.val:Int)+1))=(i.val:Int)+1:=by decide+kernel
theorem dv {c:Int} (h:1<=c/\c<=52):KI (Fl c)=c:=by
 have:=gu ⟨(c-1).toNat,by omega⟩;have e:(((c-1).toNat:Nat):Int)+1=c:=by omega
 simpa only [e] using this
theorem gv:∀i:Fin 52,(Fl ((i.val:Int)+1)).data.toList.all Jr=true/\(Fl ((i.val:Int)+1)).data.toList.head?≠some 36/\(Fl ((i.val:Int)+1)).data.toList≠ []:=by decide+kernel
theorem ZX {c:Int} (h:1<=c/\c<=52):(Fl c).data.toList.all Jr=true/\(Fl c).data.toList.head?≠some 36/\(Fl c).data.toList≠ []:=by
 have:=gv ⟨(c-1).toNat,by omega⟩;have e:(((c-1).toNat:Nat):Int)+1=c:=by omega
 simpa only [e] using this
theorem d6 {l r:List UInt8} (h:l.all Jr=true) (h2:∀c,r.head?=some c->Jr c=false):qh (l++r)=l/\q9 (l++r)=r:=by
 unfold qh q9;rw [zamK] at h;rw [List.takeWhile_append_of_pos h,List.dropWhile_append_of_pos h];cases r with
 |nil=>simp
 |cons c r=>simp [h2 c rfl]
theorem d7 (l:List UInt8):qp (36::l)=l:=rfl
theorem gx {l:List UInt8} (h:l.head?≠some 36):qp l=l:=by unfold qp;rw [if_neg h]
theorem Sy {c r:Int} {fc fr:Bool} (h:D8 c r=true):Ej (EF c r fc fr)=(c,r,fc,fr,true):=by
 obtain ⟨hc,hr⟩:=KF h;obtain ⟨u1,u2,u3⟩:=ZX hc;have ht:(EF c r fc fr).toList=(if fc=true then [36] else [])++((Fl c).data.toList++((if fr=true then [36] else [])++Lib.itoa r)):=by
  rw [zao];simp [EF,h,JH]
 have hi:∃d w,Lib.itoa r=d::w/\EQ d=true:=by
  unfold Lib.itoa;rw [if_neg (by omega)];exact OR _
 obtain ⟨d,w,hdw,hd⟩:=hi;have hd1:Jr d=false:=by
  simp only [EQ,zL,aC] at hd;simp [Jr];omega
 have hd2:d≠36:=λe=>by rw [e] at hd;cases hd
 have e1:qp (EF c r fc fr).toList=(Fl c).data.toList++((if fr=true then [36] else [])++Lib.itoa r):=by
  rw [ht];cases fc with
  |true=>exact d7 _
  |false=>
   refine gx ?_;cases hq:(Fl c).data.toList with
   |nil=>exact absurd hq u3
   |cons a b=>rw [hq] at u2;simpa using u2
 have e2:=d6 (l:=(Fl c).data.toList) (r:=(if fr=true then [36] else [])++Lib.itoa r) u1 (λq hq=>by
  cases fr with
  |true=>simp at hq;rw [<-hq];decide
  |false=>simp [hdw] at hq;rw [<-hq];exact hd1)
 have e3:qp ((if fr=true then [36] else [])++Lib.itoa r)=Lib.itoa r:=by
  cases fr with
  |true=>exact d7 _
  |false=>exact gx (by simp [hdw,hd2])
 unfold Ej;rw [e1,e2.1,e2.2,e3,bw hr];have hm:(⟨((Fl c).data.toList).toArray⟩:BA)=Fl c:=by simp
 rw [hm,dv hc,if_pos ⟨rfl,h⟩];have q1:((EF c r fc fr).toList.head?==some 36)=fc:=by
  rw [ht];cases fc with
  |true=>rfl
  |false=>
   cases hq:(Fl c).data.toList with
   |nil=>exact absurd hq u3
   |cons a b=>rw [hq] at u2;simpa using u2
 have q2:(((if fr=true then [36] else [])++Lib.itoa r).head?==some (36:UInt8))=fr:=by
  cases fr with
  |true=>rfl
  |false=>simp [hdw,hd2]
 rw [q1,q2]
theorem dw {l:List (List PV)} {p:Int} (k:Int) (hk:1<=k/\k<=1000000) (hl:O8 l) (hp:0<=p/\p<=l.length):∃(a p':Int),(0<=p'/\p'<=l.length)/\(0<=a/\a<k)/\∀n,2<=n->qi n k l p=some (a,l,p'):=by
 by_cases h:k=1
 ·subst h;refine ⟨0,p,hp,by decide,λn hn=>?_⟩;obtain ⟨m,rfl,hm⟩:=up1 hn;simp [qi,G9,qk]
 ·exact GJ k (by omega) hl hp
theorem Jn (c r:Int) (fc fr:Bool):(EF c r fc fr).size<=30:=by
 unfold EF;split
 ·rename_i h;have h1:=U8 c;have h2:=Sv (KF h).2;rw [HY];cases fc<;>cases fr<;>simp<;>omega
 ·decide
abbrev Nd:=Int×Int×Int×Int×BA×Int×Int×Bool×Bool×Int×Int×Bool×Bool×List Int
def Eo (x:Int):List PV:= [.i .i64 x]
def qo (c:Nd):List PV:= [.i .i64 c.1,.i .i64 c.2.1,.i .i64 c.2.2.1,.i .i64 c.2.2.2.1,.s c.2.2.2.2.1,.i .i64 c.2.2.2.2.2.1,.i .i64 c.2.2.2.2.2.2.1,.b c.2.2.2.2.2.2.2.1,.b c.2.2.2.2.2.2.2.2.1,.i .i64 c.2.2.2.2.2.2.2.2.2.1,.i .i64 c.2.2.2.2.2.2.2.2.2.2.1,.b c.2.2.2.2.2.2.2.2.2.2.2.1,.b c.2.2.2.2.2.2.2.2.2.2.2.2.1,.ls ((c.2.2.2.2.2.2.2.2.2.2.2.2.2).map Eo)]
def kd (c:Nd):List Int:=c.2.2.2.2.2.2.2.2.2.2.2.2.2
def Ly (op n:Int):Bool:=if op=5 then decide (n=2\/n=3) else if 8<=op/\op<=10 then decide (n=1) else if 1<=op/\op<=7 then decide (1<=n/\n<=10) else false
theorem ten {op:Int} (h:1<=op/\op<=10):op=1\/op=2\/op=3\/op=4\/op=5\/op=6\/op=7\/op=8\/op=9\/op=10:=by omega
theorem XZ (op n:Int):Ev (Kv · op n) (Ly op n):=by
 refine ⟨1,λn hn=>?_⟩;obtain ⟨m,rfl,hm⟩:=up1 hn;simp only [Kv,Nf,qk];by_cases h:1<=op/\op<=10
 ·rcases ten h with rfl|rfl|rfl|rfl|rfl|rfl|rfl|rfl|rfl|rfl
  all_goals
   first
   |(by_cases h2:n=2<;>simp [Ly,h2];done)
   |(by_cases h1:n≥1<;>simp [Ly,h1];done)
   |(by_cases h1:n=1<;>simp [Ly,h1];done)
   |(by_cases h2:n=2<;>by_cases h3:n=3<;>simp [Ly,h2,h3];done)
   |(simp [Ly];done)
 ·have e1:¬op=1:=by omega
  have e2:¬op=2:=by omega
  have e3:¬op=3:=by omega
  have e4:¬op=4:=by omega
  have e5:¬op=5:=by omega
  have e6:¬op=6:=by omega
  have e7:¬op=7:=by omega
  have e8:¬op=8:=by omega
  have e9:¬op=9:=by omega
  have e10:¬op=10:=by omega
  have g1:¬(8<=op/\op<=10):=by omega
  have g2:¬(1<=op/\op<=7):=by omega
  simp [Ly,e1,e2,e3,e4,e5,e6,e7,e8,e9,e10,g1,g2]
def zV (k x:Int) (s:BA):Bool:=decide (k=0)&&(decide (x=0)&&(s.toList== []))
def zP (a b:Int) (f g:Bool):Bool:=decide (a=0)&&(decide (b=0)&&(!f&&!g))
def GN (c:Nd):Bool:=
 if c.1=1 then decide (c.2.1=0)&&(zP c.2.2.2.2.2.1 c.2.2.2.2.2.2.1 c.2.2.2.2.2.2.2.1 c.2.2.2.2.2.2.2.2.1&&(zP c.2.2.2.2.2.2.2.2.2.1 c.2.2.2.2.2.2.2.2.2.2.1 c.2.2.2.2.2.2.2.2.2.2.2.1 c.2.2.2.2.2.2.2.2.2.2.2.2.1&&(decide ((kd c).length=0)&&(okV c.2.2.1 c.2.2.2.1 c.2.2.2.2.1&&(!decide (c.2.2.1=0)&&(!decide (c.2.2.1=1)||decide (c.2.2.2.1≥0))))))) else
 if c.1=2 then decide (c.2.1=0)&&(zV c.2.2.1 c.2.2.2.1 c.2.2.2.2.1&&(zP c.2.2.2.2.2.2.2.2.2.1 c.2.2.2.2.2.2.2.2.2.2.1 c.2.2.2.2.2.2.2.2.2.2.2.1 c.2.2.2.2.2.2.2.2.2.2.2.2.1&&(decide ((kd c).length=0)&&D8 c.2.2.2.2.2.1 c.2.2.2.2.2.2.1))) else
 if c.1=3 then decide (c.2.1=0)&&(zV c.2.2.1 c.2.2.2.1 c.2.2.2.2.1&&(decide ((kd c).length=0)&&Jg c.2.2.2.2.2.1 c.2.2.2.2.2.2.1 c.2.2.2.2.2.2.2.2.2.1 c.2.2.2.2.2.2.2.2.2.2.1)) else
 if c.1=4 then decide (c.2.1=0)&&(zV c.2.2.1 c.2.2.2.1 c.2.2.2.2.1&&(zP c.2.2.2.2.2.1 c.2.2.2.2.2.2.1 c.2.2.2.2.2.2.2.1 c.2.2.2.2.2.2.2.2.1&&(zP c.2.2.2.2.2.2.2.2.2.1 c.2.2.2.2.2.2.2.2.2.2.1 c.2.2.2.2.2.2.2.2.2.2.2.1 c.2.2.2.2.2.2.2.2.2.2.2.2.1&&decide ((kd c).length=1)))) else
 if c.1=5 then decide (1<=c.2.1/\c.2.1<=11)&&(zV c.2.2.1 c.2.2.2.1 c.2.2.2.2.1&&(zP c.2.2.2.2.2.1 c.2.2.2.2.2.2.1 c.2.2.2.2.2.2.2.1 c.2.2.2.2.2.2.2.2.1&&(zP c.2.2.2.2.2.2.2.2.2.1 c.2.2.2.2.2.2.2.2.2.2.1 c.2.2.2.2.2.2.2.2.2.2.2.1 c.2.2.2.2.2.2.2.2.2.2.2.2.1&&decide ((kd c).length=2)))) else
 if c.1=6 then Ly c.2.1 ((kd c).length:Int)&&(zV c.2.2.1 c.2.2.2.1 c.2.2.2.2.1&&(zP c.2.2.2.2.2.1 c.2.2.2.2.2.2.1 c.2.2.2.2.2.2.2.1 c.2.2.2.2.2.2.2.2.1&&zP c.2.2.2.2.2.2.2.2.2.1 c.2.2.2.2.2.2.2.2.2.2.1 c.2.2.2.2.2.2.2.2.2.2.2.1 c.2.2.2.2.2.2.2.2.2.2.2.2.1)) else false
theorem ru (k x:Int) (s:BA):((k==(0:Int))&&((x==(0:Int))&&((s.toList==(⟨#[]⟩:BA).toList)&&true)))=zV k x s:=by
 rw [q7];unfold zV;by_cases h:k=0<;>by_cases h2:x=0<;>simp [h,h2]
theorem rv (k x:Int) (s:BA):(((0:Int)==k)&&(((0:Int)==x)&&(((⟨#[]⟩:BA).toList==s.toList)&&true)))=zV k x s:=by
 rw [<-ru]
 congr 1
 ·exact Bool.beq_comm
 ·congr 1
  ·exact Bool.beq_comm
  ·congr 1
   exact Bool.beq_comm
theorem rx (a b:Int) (f g:Bool):((a==(0:Int))&&((b==(0:Int))&&((f==false)&&((g==false)&&true))))=zP a b f g:=by
 unfold zP;by_cases h:a=0<;>by_cases h2:b=0<;>cases f<;>cases g<;>simp [h,h2]
theorem sa (a b:Int) (f g:Bool):(((0:Int)==a)&&(((0:Int)==b)&&((false==f)&&((false==g)&&true))))=zP a b f g:=by
 rw [<-rx]
 congr 1
 ·exact Bool.beq_comm
 ·congr 1
  ·exact Bool.beq_comm
  ·cases f<;>cases g<;>rfl
theorem OT (c:Nd) (hb:c.2.2.2.2.1.size<=140737488351232):Ev (GP · c.1 c.2.1 c.2.2.1 c.2.2.2.1 c.2.2.2.2.1 c.2.2.2.2.2.1 c.2.2.2.2.2.2.1 c.2.2.2.2.2.2.2.1 c.2.2.2.2.2.2.2.2.1 c.2.2.2.2.2.2.2.2.2.1 c.2.2.2.2.2.2.2.2.2.2.1 c.2.2.2.2.2.2.2.2.2.2.2.1 c.2.2.2.2.2.2.2.2.2.2.2.2.1 ((c.2.2.2.2.2.2.2.2.2.2.2.2.2).map Eo)) (GN c):=by
 obtain ⟨n1,h1⟩:=Dm c.2.2.1 c.2.2.2.1 c.2.2.2.2.1 hb;obtain ⟨n2,h2⟩:=Gj c.2.2.2.2.2.1 c.2.2.2.2.2.2.1;obtain ⟨n3,h3⟩:=XT c.2.2.2.2.2.1 c.2.2.2.2.2.2.1 c.2.2.2.2.2.2.2.2.2.1 c.2.2.2.2.2.2.2.2.2.2.1;obtain ⟨n4,h4⟩:=F9 c.2.1 1 11;obtain ⟨n5,h5⟩:=XZ c.2.1 (((c.2.2.2.2.2.2.2.2.2.2.2.2.2).map Eo).length:Int);refine ⟨n1+n2+n3+n4+n5+1,λn hn=>?_⟩;obtain ⟨m,rfl,hm⟩:=up1 hn;have h1:=h1 m (by omega);dsimp only at h1;have h2:=h2 m (by omega);dsimp only at h2;have h3:=h3 m (by omega);dsimp only at h3;have h4:=h4 m (by omega);dsimp only at h4;have h5:=h5 m (by omega);dsimp only at h5;simp only [GP,LN,JU,qk,h1,h2,h3,h4,h5];have hk:((c.2.2.2.2.2.2.2.2.2.2.2.2.2).map Eo).length=(kd c).length:=by rw [zamV];rfl
 simp only [ru,rx,hk];unfold GN;by_cases k1:c.1=1
 ·simp only [k1,if_true,beq_self_eq_true];cases zP c.2.2.2.2.2.1 c.2.2.2.2.2.2.1 c.2.2.2.2.2.2.2.1 c.2.2.2.2.2.2.2.2.1<;>cases zP c.2.2.2.2.2.2.2.2.2.1 c.2.2.2.2.2.2.2.2.2.2.1 c.2.2.2.2.2.2.2.2.2.2.2.1 c.2.2.2.2.2.2.2.2.2.2.2.2.1<;>cases okV c.2.2.1 c.2.2.2.1 c.2.2.2.2.1<;>by_cases h0:c.2.1=0<;>by_cases h1:(kd c).length=0<;>by_cases h2:c.2.2.1=0<;>by_cases h3:c.2.2.1=1<;>simp [h0,h1,h2,h3]
 by_cases k2:c.1=2
 ·simp only [k2];cases zV c.2.2.1 c.2.2.2.1 c.2.2.2.2.1<;>cases zP c.2.2.2.2.2.2.2.2.2.1 c.2.2.2.2.2.2.2.2.2.2.1 c.2.2.2.2.2.2.2.2.2.2.2.1 c.2.2.2.2.2.2.2.2.2.2.2.2.1<;>cases D8 c.2.2.2.2.2.1 c.2.2.2.2.2.2.1<;>by_cases h0:c.2.1=0<;>by_cases h1:(kd c).length=0<;>simp [h0,h1]
 by_cases k3:c.1=3
 ·simp only [k3];cases zV c.2.2.1 c.2.2.2.1 c.2.2.2.2.1<;>cases Jg c.2.2.2.2.2.1 c.2.2.2.2.2.2.1 c.2.2.2.2.2.2.2.2.2.1 c.2.2.2.2.2.2.2.2.2.2.1<;>by_cases h0:c.2.1=0<;>by_cases h1:(kd c).length=0<;>simp [h0,h1]
 by_cases k4:c.1=4
 ·simp only [k4];cases zV c.2.2.1 c.2.2.2.1 c.2.2.2.2.1<;>cases zP c.2.2.2.2.2.1 c.2.2.2.2.2.2.1 c.2.2.2.2.2.2.2.1 c.2.2.2.2.2.2.2.2.1<;>cases zP c.2.2.2.2.2.2.2.2.2.1 c.2.2.2.2.2.2.2.2.2.2.1 c.2.2.2.2.2.2.2.2.2.2.2.1 c.2.2.2.2.2.2.2.2.2.2.2.2.1<;>by_cases h0:c.2.1=0<;>by_cases h1:(kd c).length=1<;>simp [h0,h1]<;>omega
 by_cases k5:c.1=5
 ·simp only [k5];cases zV c.2.2.1 c.2.2.2.1 c.2.2.2.2.1<;>cases zP c.2.2.2.2.2.1 c.2.2.2.2.2.2.1 c.2.2.2.2.2.2.2.1 c.2.2.2.2.2.2.2.2.1<;>cases zP c.2.2.2.2.2.2.2.2.2.1 c.2.2.2.2.2.2.2.2.2.2.1 c.2.2.2.2.2.2.2.2.2.2.2.1 c.2.2.2.2.2.2.2.2.2.2.2.2.1<;>by_cases h0:1<=c.2.1/\c.2.1<=11<;>by_cases h1:(kd c).length=2<;>simp [h0,h1]<;>omega
 by_cases k6:c.1=6
 ·simp only [k6];cases zV c.2.2.1 c.2.2.2.1 c.2.2.2.2.1<;>cases zP c.2.2.2.2.2.1 c.2.2.2.2.2.2.1 c.2.2.2.2.2.2.2.1 c.2.2.2.2.2.2.2.2.1<;>cases zP c.2.2.2.2.2.2.2.2.2.1 c.2.2.2.2.2.2.2.2.2.2.1 c.2.2.2.2.2.2.2.2.2.2.2.1 c.2.2.2.2.2.2.2.2.2.2.2.2.1<;>cases Ly c.2.1 ((kd c).length:Int)<;>simp
 simp [k1,k2,k3,k4,k5,k6]
theorem Xa (c:Nd):Ev (E9 · c.1 c.2.1 c.2.2.1 c.2.2.2.1 c.2.2.2.2.1 c.2.2.2.2.2.1 c.2.2.2.2.2.2.1 c.2.2.2.2.2.2.2.1 c.2.2.2.2.2.2.2.2.1 c.2.2.2.2.2.2.2.2.2.1 c.2.2.2.2.2.2.2.2.2.2.1 c.2.2.2.2.2.2.2.2.2.2.2.1 c.2.2.2.2.2.2.2.2.2.2.2.2.1 ((c.2.2.2.2.2.2.2.2.2.2.2.2.2).map Eo)) (if c.1=4 then decide (c.2.1=0)&&decide ((kd c).length=1) else if c.1=5 then decide (1<=c.2.1/\c.2.1<=11)&&decide ((kd c).length=2) else if c.1=6 then Ly c.2.1 ((kd c).length:Int) else decide (c.2.1=0)&&decide ((kd c).length=0)):=by
 obtain ⟨n1,h1⟩:=Dt c.2.1 1 11;obtain ⟨n2,h2⟩:=Dt c.2.1 1 10;obtain ⟨n3,h3⟩:=Dt (((c.2.2.2.2.2.2.2.2.2.2.2.2.2).map Eo).length:Int) 2 3;obtain ⟨n4,h4⟩:=Dt (((c.2.2.2.2.2.2.2.2.2.2.2.2.2).map Eo).length:Int) 1 10;refine ⟨n1+n2+n3+n4+1,λn hn=>?_⟩;obtain ⟨m,rfl,hm⟩:=up1 hn;have h1:=h1 m (by omega);dsimp only at h1;have h2:=h2 m (by omega);dsimp only at h2;have h3:=h3 m (by omega);dsimp only at h3;have h4:=h4 m (by omega);dsimp only at h4;simp only [E9,JC,qk,h1,h2,h3,h4];have hk:((c.2.2.2.2.2.2.2.2.2.2.2.2.2).map Eo).length=(kd c).length:=by rw [zamV];rfl
 simp only [hk];by_cases k4:c.1=4
 ·simp only [k4];by_cases h0:c.2.1=0<;>by_cases h1:(kd c).length=1<;>simp [h0,h1]<;>omega
 by_cases k5:c.1=5
 ·simp only [k5];by_cases h0:1<=c.2.1/\c.2.1<=11<;>by_cases h1:(kd c).length=2<;>simp [h0,h1]<;>omega
 by_cases k6:c.1=6
 ·simp only [k6];unfold Ly;by_cases h:1<=c.2.1/\c.2.1<=10
  ·by_cases h5:c.2.1=5
   ·have:(2<=((kd c).length:Int)/\((kd c).length:Int)<=3)↔(((kd c).length:Int)=2\/((kd c).length:Int)=3):=by omega
    simp [h5,this]
   ·by_cases h8:c.2.1≥8
    ·have g:8<=c.2.1/\c.2.1<=10:=by omega
     by_cases h1:((kd c).length:Int)=1<;>simp [h,h5,h8,g,h1]
    ·have g:¬(8<=c.2.1/\c.2.1<=10):=by omega
     have g':1<=c.2.1/\c.2.1<=7:=by omega
     simp [h,h5,h8,g,g']
  ·have h5:¬c.2.1=5:=by omega
   have g:¬(8<=c.2.1/\c.2.1<=10):=by omega
   have g':¬(1<=c.2.1/\c.2.1<=7):=by omega
   simp [h,h5,g,g']
 by_cases h0:c.2.1=0<;>by_cases h1:(kd c).length=0<;>simp [k4,k5,k6,h0,h1]<;>omega
theorem VB (c:Nd):Ev (Ek · c.1 c.2.1 c.2.2.1 c.2.2.2.1 c.2.2.2.2.1 c.2.2.2.2.2.1 c.2.2.2.2.2.2.1 c.2.2.2.2.2.2.2.1 c.2.2.2.2.2.2.2.2.1 c.2.2.2.2.2.2.2.2.2.1 c.2.2.2.2.2.2.2.2.2.2.1 c.2.2.2.2.2.2.2.2.2.2.2.1 c.2.2.2.2.2.2.2.2.2.2.2.2.1 ((c.2.2.2.2.2.2.2.2.2.2.2.2.2).map Eo)) (if c.1=2 then Jg c.2.2.2.2.2.1 c.2.2.2.2.2.2.1 c.2.2.2.2.2.1 c.2.2.2.2.2.2.1 else if c.1=3 then Jg c.2.2.2.2.2.1 c.2.2.2.2.2.2.1 c.2.2.2.2.2.2.2.2.2.1 c.2.2.2.2.2.2.2.2.2.2.1 else true):=by
 have g:Ev (FA · c.1 c.2.1 c.2.2.1 c.2.2.2.1 c.2.2.2.2.1 c.2.2.2.2.2.1 c.2.2.2.2.2.2.1 c.2.2.2.2.2.2.2.1 c.2.2.2.2.2.2.2.2.1 c.2.2.2.2.2.2.2.2.2.1 c.2.2.2.2.2.2.2.2.2.2.1 c.2.2.2.2.2.2.2.2.2.2.2.1 c.2.2.2.2.2.2.2.2.2.2.2.2.1 ((c.2.2.2.2.2.2.2.2.2.2.2.2.2).map Eo)) (if c.1=2 then (c.2.2.2.2.2.1,c.2.2.2.2.2.2.1,c.2.2.2.2.2.1,c.2.2.2.2.2.2.1) else (c.2.2.2.2.2.1,c.2.2.2.2.2.2.1,c.2.2.2.2.2.2.2.2.2.1,c.2.2.2.2.2.2.2.2.2.2.1)):=by
  refine ⟨1,λn hn=>?_⟩;obtain ⟨m,rfl,hm⟩:=up1 hn;simp only [FA,IN,qk];by_cases k2:c.1=2<;>simp [k2]
 obtain ⟨n1,h1⟩:=g;obtain ⟨n2,h2⟩:=Qu c.2.2.2.2.2.1 c.2.2.2.2.2.2.1 c.2.2.2.2.2.1 c.2.2.2.2.2.2.1;obtain ⟨n3,h3⟩:=Qu c.2.2.2.2.2.1 c.2.2.2.2.2.2.1 c.2.2.2.2.2.2.2.2.2.1 c.2.2.2.2.2.2.2.2.2.2.1;refine ⟨n1+n2+n3+1,λn hn=>?_⟩;obtain ⟨m,rfl,hm⟩:=up1 hn;have h1:=h1 m (by omega);dsimp only at h1;have h2:=h2 m (by omega);dsimp only at h2;have h3:=h3 m (by omega);dsimp only at h3;simp only [Ek,II,qk,h1,h2,h3];by_cases k2:c.1=2
 ·simp [k2,h2]
 ·by_cases k3:c.1=3
  ·simp [k3,h3]
  ·simp [k2,k3]
theorem gy (a b:Int):Jg a b a b=D8 a b:=by
 unfold Jg;cases D8 a b<;>simp
theorem YT (c:Nd) (hb:c.2.2.2.2.1.size<=140737488351232):Ev (Hw · c.1 c.2.1 c.2.2.1 c.2.2.2.1 c.2.2.2.2.1 c.2.2.2.2.2.1 c.2.2.2.2.2.2.1 c.2.2.2.2.2.2.2.1 c.2.2.2.2.2.2.2.2.1 c.2.2.2.2.2.2.2.2.2.1 c.2.2.2.2.2.2.2.2.2.2.1 c.2.2.2.2.2.2.2.2.2.2.2.1 c.2.2.2.2.2.2.2.2.2.2.2.2.1 ((c.2.2.2.2.2.2.2.2.2.2.2.2.2).map Eo)) (GN c):=by
 obtain ⟨n1,g1⟩:=Li c.2.2.1 c.2.2.2.1 c.2.2.2.2.1 hb;obtain ⟨n2,g2⟩:=VB c;obtain ⟨n3,g3⟩:=Xa c;refine ⟨n1+n2+n3+1,λn hn=>?_⟩;obtain ⟨m,rfl,hm⟩:=up1 hn;have g1:=g1 m (by omega);have g2:=g2 m (by omega);have g3:=g3 m (by omega);dsimp only at g1 g2 g3;rw [gy] at g2;simp only [Hw,JZ,G0,IJ,qk,g1,g2,g3,rv,sa];simp only [beq_self_eq_true,Bool.and_true,Bool.true_and];unfold GN;by_cases k1:c.1=1
 ·have h5:(c.2.2.2.1≥0)=¬(c.2.2.2.1<0):=propext Int.not_lt.symm;simp only [k1,h5];cases zP c.2.2.2.2.2.1 c.2.2.2.2.2.2.1 c.2.2.2.2.2.2.2.1 c.2.2.2.2.2.2.2.2.1<;>cases zP c.2.2.2.2.2.2.2.2.2.1 c.2.2.2.2.2.2.2.2.2.2.1 c.2.2.2.2.2.2.2.2.2.2.2.1 c.2.2.2.2.2.2.2.2.2.2.2.2.1<;>cases okV c.2.2.1 c.2.2.2.1 c.2.2.2.2.1<;>by_cases h0:c.2.1=0<;>by_cases h1:(kd c).length=0<;>by_cases h2:c.2.2.1=0<;>by_cases h3:c.2.2.1=1<;>by_cases h4:c.2.2.2.1<0<;>simp [h0,h1,h2,h3,h4]<;>(try omega)
 by_cases k2:c.1=2
 ·simp only [k2];cases zV c.2.2.1 c.2.2.2.1 c.2.2.2.2.1<;>cases zP c.2.2.2.2.2.2.2.2.2.1 c.2.2.2.2.2.2.2.2.2.2.1 c.2.2.2.2.2.2.2.2.2.2.2.1 c.2.2.2.2.2.2.2.2.2.2.2.2.1<;>cases D8 c.2.2.2.2.2.1 c.2.2.2.2.2.2.1<;>by_cases h0:c.2.1=0<;>by_cases h1:(kd c).length=0<;>simp [h0,h1]
 by_cases k3:c.1=3
 ·simp only [k3];cases zV c.2.2.1 c.2.2.2.1 c.2.2.2.2.1<;>cases Jg c.2.2.2.2.2.1 c.2.2.2.2.2.2.1 c.2.2.2.2.2.2.2.2.2.1 c.2.2.2.2.2.2.2.2.2.2.1<;>by_cases h0:c.2.1=0<;>by_cases h1:(kd c).length=0<;>simp [h0,h1]
 by_cases k4:c.1=4
 ·simp only [k4];cases zV c.2.2.1 c.2.2.2.1 c.2.2.2.2.1<;>cases zP c.2.2.2.2.2.1 c.2.2.2.2.2.2.1 c.2.2.2.2.2.2.2.1 c.2.2.2.2.2.2.2.2.1<;>cases zP c.2.2.2.2.2.2.2.2.2.1 c.2.2.2.2.2.2.2.2.2.2.1 c.2.2.2.2.2.2.2.2.2.2.2.1 c.2.2.2.2.2.2.2.2.2.2.2.2.1<;>by_cases h0:c.2.1=0<;>by_cases h1:(kd c).length=1<;>simp [h0,h1]
 by_cases k5:c.1=5
 ·simp only [k5];cases zV c.2.2.1 c.2.2.2.1 c.2.2.2.2.1<;>cases zP c.2.2.2.2.2.1 c.2.2.2.2.2.2.1 c.2.2.2.2.2.2.2.1 c.2.2.2.2.2.2.2.2.1<;>cases zP c.2.2.2.2.2.2.2.2.2.1 c.2.2.2.2.2.2.2.2.2.2.1 c.2.2.2.2.2.2.2.2.2.2.2.1 c.2.2.2.2.2.2.2.2.2.2.2.2.1<;>by_cases h0:1<=c.2.1/\c.2.1<=11<;>by_cases h1:(kd c).length=2<;>simp [h0,h1]
 by_cases k6:c.1=6
 ·simp only [k6];cases zV c.2.2.1 c.2.2.2.1 c.2.2.2.2.1<;>cases zP c.2.2.2.2.2.1 c.2.2.2.2.2.2.1 c.2.2.2.2.2.2.2.1 c.2.2.2.2.2.2.2.2.1<;>cases zP c.2.2.2.2.2.2.2.2.2.1 c.2.2.2.2.2.2.2.2.2.2.1 c.2.2.2.2.2.2.2.2.2.2.2.1 c.2.2.2.2.2.2.2.2.2.2.2.2.1<;>cases Ly c.2.1 ((kd c).length:Int)<;>simp
 simp [k1,k2,k3,k4,k5,k6]
section
variable (own area call:Int->Bool) (kids:Int->List Int)
def goF (F:Int->Int) (n:Int):List Int->Int->Int
 | [],start=>start
 |k::r,start=>if k≠start-1\/k<0\/(area k=true/\call n=false) then-1 else if F k<0 then-1 else goF F n r (F k)
def HM:Nat->Int->Int
 |0,_=> -1
 |f+1,n=>if n<0\/own n=false then-1 else goF area call (HM f) n (kids n).reverse n
def goT (F:Int->Int):List Int->Int->Int
 | [],x=>x+1
 |k::r,x=>if x<0\/k≠x then-1 else if F x<0 then-1 else goT F r (F x-1)
def F3:Nat->Int->Int
 |0,_=> -1
 |f+1,n=>goT (F3 f) (kids n).reverse (n-1)
def Qw:List Int->Int
 | []=>0
 |x::r=>max x (Qw r)
def Es:Nat->Int->Int
 |0,_=>0
 |f+1,n=>Qw ((kids n).map λk=>Es f k)+1
def My (i:Int):Prop:=∀k∈kids i,0<=k/\k<=i-1/\¬(area k=true/\call i=false)
theorem Tp:∀(f:Nat) (n:Int),0<=n->F3 kids f n<=n
 |0,n,h=>by rw [F3];omega
 |f+1,n,h=>by
  have go:∀(l:List Int) (x:Int),x+1<=n->-1<=x->goT (F3 kids f) l x<=n:=by
   intro l
   induction l with
   |nil=>intro x h1 h2;rw [goT];omega
   |cons k r ih=>
    intro x h1 h2;rw [goT];split
    ·omega
    ·split
     ·omega
     ·have:=Tp f x (by omega);exact ih _ (by omega) (by omega)
  rw [F3];exact go _ _ (by omega) (by omega)
theorem d8:∀(f g:Nat) (n:Int),n<f->n<g->0<=n->F3 kids f n=F3 kids g n
 |0,g,n,h1,h2,h3=>by omega
 |f+1,0,n,h1,h2,h3=>by omega
 |f+1,g+1,n,h1,h2,h3=>by
  have go:∀(l:List Int) (x:Int),x<f->x<g->goT (F3 kids f) l x=goT (F3 kids g) l x:=by
   intro l
   induction l with
   |nil=>intro x _ _;rw [goT,goT]
   |cons k r ih=>
    intro x hx hy;rw [goT,goT];by_cases hc:x<0\/k≠x
    ·rw [if_pos hc,if_pos hc]
    ·rw [if_neg hc,if_neg hc,d8 f g x hx hy (by omega)];have hle:=Tp kids g x (by omega);split
     ·rfl
     ·exact ih _ (by omega) (by omega)
  rw [F3,F3];exact go _ _ (by omega) (by omega)
theorem bz {l:List Int} {b:Int} (h0:0<=b):Qw l<=b↔∀x∈l,x<=b:=by
 induction l with
 |nil=>simp [Qw,h0]
 |cons a r ih=>simp only [Qw,zamT,forall_eq_or_imp];rw [Int.max_le,ih]
theorem Xb {n b:Int} {f:Nat} (h0:1<=b):Es kids (f+1) n<=b↔∀k∈kids n,Es kids f k<=b-1:=by
 rw [Es]
 constructor
 ·intro h k hk;exact (bz (l:=(kids n).map λk=>Es kids f k) (by omega)).1 (by omega) _ (List.mem_map_of_mem (f:=λk=>Es kids f k) hk)
 ·intro h;have:=(bz (l:=(kids n).map λk=>Es kids f k) (b:=b-1) (by omega)).2 (by
   intro x hx;obtain ⟨k,hk,rfl⟩:=List.mem_map.1 hx;exact h k hk)
  omega
theorem Xc:∀(f g:Nat) (n:Int),n<f->n<g->(∀i,0<=i->i<=n->My area call kids i)->0<=n->Es kids f n=Es kids g n
 |0,g,n,h1,h2,_,h3=>by omega
 |f+1,0,n,h1,h2,_,h3=>by omega
 |f+1,g+1,n,h1,h2,hk,h3=>by
  rw [Es,Es]
  congr 2
  apply List.map_congr_left;intro k hm;have:=hk n h3 (by omega) k hm;exact Xc f g k (by omega) (by omega) (λi h0 h1=>hk i h0 (by omega)) (by omega)
theorem OU:∀(f:Nat) (n:Int),0<=n->n<f->1<=Es kids f n
 |0,n,h,h'=>by omega
 |f+1,n,h,h'=>by
  rw [Es];have:∀l:List Int,0<=Qw l:=by
   intro l
   induction l with
   |nil=>exact Int.le_refl 0
   |cons a r ih=>simp only [Qw];omega
  have:=this ((kids n).map λk=>Es kids f k);omega
theorem ZY:∀(f g:Nat) (n:Int),0<=n->n<g->0<=HM own area call kids f n->
  HM own area call kids f n<=n/\F3 kids g n=HM own area call kids f n/\(∀i,HM own area call kids f n<=i->i<=n->own i=true/\My area call kids i)/\(∀h:Nat,(∀i,0<=i->i<=n->My area call kids i)->n<h->Es kids h n<=f)
 |0,g,n,h0,h1,h2=>by rw [HM] at h2;omega
 |f+1,0,n,h0,h1,h2=>by omega
 |f+1,g+1,n,h0,h1,h2=>by
  rw [HM] at h2⊢;split at h2
  ·omega
  ·rename_i hc;rw [if_neg hc];have go:∀(l:List Int) (s:Int),0<=s->s<=n->0<=goF area call (HM own area call kids f) n l s->
     goF area call (HM own area call kids f) n l s<=s/\goT (F3 kids g) l (s-1)=goF area call (HM own area call kids f) n l s/\(∀i,goF area call (HM own area call kids f) n l s<=i->i<=s-1->own i=true/\My area call kids i)/\(∀k∈l,0<=k/\k<=n-1/\¬(area k=true/\call n=false))/\(∀h:Nat,(∀i,0<=i->i<=n->My area call kids i)->n<h->∀k∈l,Es kids h k<=f):=by
    intro l
    induction l with
    |nil=>
     intro s h3 h4 h5;rw [goF] at h5⊢;rw [goT];refine ⟨by omega,by omega,λi _ _=>by omega,λk hk=>(by cases hk),λh _ _ k hk=>(by cases hk)⟩
    |cons k r ih=>
     intro s h3 h4 h5;rw [goF] at h5⊢;split at h5
     ·omega
     ·rename_i hd;rw [if_neg hd];split at h5
      ·omega
      ·rename_i he;rw [if_neg he];have hk:k=s-1:=by omega
       subst hk;obtain ⟨a1,a2,a3,a4⟩:=ZY f g (s-1) (by omega) (by omega) (by omega);obtain ⟨b1,b2,b3,b4,b5⟩:=ih _ (by omega) (by omega) h5;refine ⟨by omega,?_,?_,?_,?_⟩
       ·rw [goT,if_neg (by omega),a2,if_neg he,b2]
       ·intro i i1 i2;by_cases hi:HM own area call kids f (s-1)<=i
        ·exact a3 i hi i2
        ·exact b3 i i1 (by omega)
       ·intro k hk;rcases zamT.1 hk with rfl|hk
        ·exact ⟨by omega,by omega,λh=>hd (.inr (.inr h))⟩
        ·exact b4 k hk
       ·intro h hx hy k hk;rcases zamT.1 hk with rfl|hk
        ·exact a4 h (λi i1 i2=>hx i i1 (by omega)) (by omega)
        ·exact b5 h hx hy k hk
   obtain ⟨c1,c2,c3,c4,c5⟩:=go _ n h0 (Int.le_refl n) h2;have hown:own n=true:=by cases ho:own n with
    |true=>rfl
    |false=>exact absurd (.inr ho) hc
   refine ⟨c1,by rw [F3];exact c2,?_,?_⟩
   ·intro i i1 i2;by_cases hi:i=n
    ·subst hi;exact ⟨hown,λk hk=>c4 k (List.mem_reverse.2 hk)⟩
    ·exact c3 i i1 (by omega)
   ·intro h hx hy;cases h with
    |zero=>omega
    |succ h=>
     refine (Xb kids (by omega)).2 λk hk=>?_
     have hin:=hx n h0 (Int.le_refl n) k hk;have e:Es kids h k=Es kids (n.toNat+1) k:=Xc area call kids _ _ _ (by omega) (by omega) (λi i1 i2=>hx i i1 (by omega)) (by omega);rw [e];have:=c5 (n.toNat+1) hx (by omega) k (List.mem_reverse.2 hk);omega
theorem ca:∀(f g h:Nat) (n:Int),0<=n->n<g->n<h->(∀i,0<=i->i<=n->own i=true/\My area call kids i)->0<=F3 kids g n->Es kids h n<=f->HM own area call kids f n=F3 kids g n
 |0,g,h,n,h0,h1,h1',h2,h3,h4=>by have:=OU kids h n h0 h1';omega
 |f+1,0,h,n,h0,h1,_,h2,h3,h4=>by omega
 |f+1,g+1,0,n,h0,h1,_,h2,h3,h4=>by omega
 |f+1,g+1,h+1,n,h0,h1,h1',h2,h3,h4=>by
  have hd:=(Xb kids (b:=((f+1:Nat):Int)) (by omega)).1 h4;have go:∀(l:List Int) (s:Int),(∀k∈l,k∈kids n)->0<=s->s<=n->0<=goT (F3 kids g) l (s-1)->goF area call (HM own area call kids f) n l s=goT (F3 kids g) l (s-1):=by
   intro l
   induction l with
   |nil=>intro s _ _ _ _;rw [goF,goT];omega
   |cons k r ih=>
    intro s hm h3 h4 h5;rw [goT] at h5⊢;rw [goF];split at h5
    ·omega
    ·rename_i hc;rw [if_neg hc];split at h5
     ·omega
     ·rename_i he;rw [if_neg he];have hk:k=s-1:=by omega
      have hin:=(h2 n h0 (Int.le_refl n)).2 k (hm k (zamN ..));have hdk:=hd k (hm k (zamN ..));subst hk;have e:=ca f g h (s-1) (by omega) (by omega) (by omega) (λi i1 i2=>h2 i i1 (by omega)) (by omega) (by omega);have hb:¬(s-1≠s-1\/s-1<0\/(area (s-1)=true/\call n=false)):=λhx=>by
       rcases hx with hx|hx|hx
       ·exact hx rfl
       ·omega
       ·exact hin.2.2 hx
      rw [if_neg hb,e,if_neg he];have hle:=Tp kids g (s-1) (by omega);exact ih _ (λk hk=>hm k (zamR _ hk)) (by omega) (by omega) h5
  rw [F3] at h3;have hn:¬(n<0\/own n=false):=λhx=>by
   rcases hx with hx|hx
   ·omega
   ·rw [(h2 n h0 (Int.le_refl n)).1] at hx;cases hx
  rw [HM,F3,if_neg hn];exact go _ n (λk hk=>List.mem_reverse.1 hk) h0 (Int.le_refl n) h3
end
theorem Fg (c:Nd):(qo c).length=14:=rfl
theorem FF (k:Int):(Eo k).length=1:=rfl
theorem Ee (k:Int):zC .i64 (Eo k) 0=some k:=rfl
theorem EG (c:Nd):zC .i64 (qo c) 0=some c.1:=rfl
theorem EH (c:Nd):zC .i64 (qo c) 1=some c.2.1:=rfl
theorem EI (c:Nd):zC .i64 (qo c) 2=some c.2.2.1:=rfl
theorem EJ (c:Nd):zC .i64 (qo c) 3=some c.2.2.2.1:=rfl
theorem EK (c:Nd):zk (qo c) 4=some c.2.2.2.2.1:=rfl
theorem EL (c:Nd):zC .i64 (qo c) 5=some c.2.2.2.2.2.1:=rfl
theorem EM (c:Nd):zC .i64 (qo c) 6=some c.2.2.2.2.2.2.1:=rfl
theorem EN (c:Nd):aR (qo c) 7=some c.2.2.2.2.2.2.2.1:=rfl
theorem EO (c:Nd):aR (qo c) 8=some c.2.2.2.2.2.2.2.2.1:=rfl
theorem EP (c:Nd):zC .i64 (qo c) 9=some c.2.2.2.2.2.2.2.2.2.1:=rfl
theorem Db (c:Nd):zC .i64 (qo c) 10=some c.2.2.2.2.2.2.2.2.2.2.1:=rfl
theorem Dc (c:Nd):aR (qo c) 11=some c.2.2.2.2.2.2.2.2.2.2.2.1:=rfl
theorem Dd (c:Nd):aR (qo c) 12=some c.2.2.2.2.2.2.2.2.2.2.2.2.1:=rfl
theorem De (c:Nd):bR (qo c) 13=some ((c.2.2.2.2.2.2.2.2.2.2.2.2.2).map Eo):=rfl
def nd0:Nd:=(0,0,0,0,⟨#[]⟩,0,0,false,false,0,0,false,false,[])
def ndi (l:List Nd) (i:Int):Nd:=l.getD i.toNat nd0
def qj (l:List Nd) (i:Int):List Int:=kd (ndi l i)
def L6 (l:List Nd) (i:Int):Bool:=GN (ndi l i)
def E7 (l:List Nd) (i:Int):Bool:=decide ((ndi l i).1=3)
def GL (l:List Nd) (i:Int):Bool:=decide ((ndi l i).1=6)
theorem HN {l:List Nd} {i:Int} (h:0<=i/\i<l.length):l[i.toNat]?=some (ndi l i):=by
 have:i.toNat<l.length:=by omega
 unfold ndi;rw [zW this,List.getD_eq_getElem?_getD,zW this];rfl
theorem PD {l:List Nd} {i:Int} (h:0<=i/\i<l.length):ndi l i∈l:=zi (HN h)
theorem d9 {α:Type} {l:List α} {j:Nat} {k:α} (h:l[j]?=some k):(l.take (j+1)).reverse=k::(l.take j).reverse:=by
 rw [List.take_add_one,h];simp
theorem f5 {R:Type} {F:Int->Nat->Option R} {f:Int->R} (x:Int) (h:∀y,0<=y->y<x->Ev (F y) (f y)):∃n0,∀n,n0<=n->∀y,0<=y->y<x->F y n=some (f y):=by
 obtain ⟨n0,h0⟩:=Eu (F:=F) (f:=f) ((List.range x.toNat).map λ(i:Nat)=>(i:Int)) (λc hc=>by
  obtain ⟨i,hi,rfl⟩:=List.mem_map.1 hc;have:=List.mem_range.1 hi;exact h _ (Int.natCast_nonneg i) (by omega))
 refine ⟨n0,λn hn y h1 h2=>h0 n hn y (List.mem_map.2 ⟨y.toNat,List.mem_range.2 (by omega),by omega⟩)⟩
theorem Yj (l:List Nd) (x1:Int) (f n:Nat) (hx:0<=x1/\x1<l.length) (hl:l.length<=140737488351232) (hk:(kd (ndi l x1)).length<=140737488351232)
  (hrec:∀y:Int,0<=y->y<x1->Ef n (l.map qo) y=some (F3 (qj l) f y)):
  ∀(j M:Nat) (s:Int),j<=(kd (ndi l x1)).length->j+1<=M->-1<=s->s<x1->
   (∃x,zE (E6 (Ef n) n) M (l.map qo,x1,s,(j:Int)-1)=some (.inr x)/\goT (F3 (qj l) f) ((qj l x1).take j).reverse s=x+1/\-1<=x/\x<x1)\/
   (zE (E6 (Ef n) n) M (l.map qo,x1,s,(j:Int)-1)=some (.inl (-1))/\goT (F3 (qj l) f) ((qj l x1).take j).reverse s= -1)
 |0,0,s,h1,h2,h3,h4=>by omega
 |0,M+1,s,h1,h2,h3,h4=>by
  refine .inl ⟨s,?_,by simp [goT],h3,h4⟩;rw [qd (r:= .inr s) (by simp [-getElem?_pos,E6,qk])]
 |j+1,0,s,h1,h2,h3,h4=>by omega
 |j+1,M+1,s,h1,h2,h3,h4=>by
  have hc:=HN hx;have hj:j<(kd (ndi l x1)).length:=by omega
  have hg:(qj l x1)[j]?=some (qj l x1)[j]:=zW hj;have ih:=Yj l x1 f n hx hl hk hrec j M;rw [d9 hg];generalize (qj l x1)[j]=k at hg;have hi:(((j+1:Nat):Int)-1)=(j:Int):=by omega
  rw [hi,goT];have hg':(ndi l x1).2.2.2.2.2.2.2.2.2.2.2.2.2[j]?=some k:=hg;have hj':j<(ndi l x1).2.2.2.2.2.2.2.2.2.2.2.2.2.length:=hj;by_cases hs:s<0
  ·refine .inr ⟨?_,by rw [if_pos (.inl hs)]⟩;rw [qd (r:= .inl (-1)) (by simp [-getElem?_pos,E6,qk,hs])]
  ·by_cases hks:k=s
   ·subst hks;have hr:=hrec k (by omega) h4;by_cases ht:F3 (qj l) f k<0
    ·refine .inr ⟨?_,by rw [if_neg (by omega),if_pos ht]⟩;rw [qd (r:= .inl (-1)) (by simp [-getElem?_pos,E6,qk,hs,hc,hx,Fg,FF,Ee,EG,EH,EI,EJ,EK,EL,EM,EN,EO,EP,Db,Dc,Dd,De,hg',hj',hr,ht])]
    ·have hle:=Tp (qj l) f k (by omega);have hw:IntKind.i64.wrap (F3 (qj l) f k-1)=F3 (qj l) f k-1:=ql (by omega);have hw2:IntKind.i64.wrap ((j:Int)-1)=(j:Int)-1:=ql (by omega);rw [if_neg (by omega),if_neg ht];rw [qm (v':=(l.map qo,x1,F3 (qj l) f k-1,(j:Int)-1)) (by simp [-getElem?_pos,E6,qk,hs,hc,hx,Fg,FF,Ee,EG,EH,EI,EJ,EK,EL,EM,EN,EO,EP,Db,Dc,Dd,De,hg',hj',hr,ht,hw,hw2])];exact ih _ (by omega) (by omega) (by omega) (by omega)
   ·refine .inr ⟨?_,by rw [if_pos (.inr hks)]⟩;rw [qd (r:= .inl (-1)) (by simp [-getElem?_pos,E6,qk,hs,hc,hx,Fg,FF,Ee,EG,EH,EI,EJ,EK,EL,EM,EN,EO,EP,Db,Dc,Dd,De,hg',hj',hks])]
theorem Qx (l:List Nd) (hl:l.length<=140737488351232) (hk:∀c∈l,(kd c).length<=140737488351232):∀(f:Nat) (x:Int),0<=x->x<l.length->x<f->Ev (Ef · (l.map qo) x) (F3 (qj l) f x)
 |0,x,h0,h1,h2=>by omega
 |f+1,x,h0,h1,h2=>by
  obtain ⟨n0,hn0⟩:=f5 (F:=λy n=>Ef n (l.map qo) y) (f:=λy=>F3 (qj l) f y) x (λy h3 h4=>Qx l hl hk f y h3 (by omega) (by omega));refine ⟨n0+(kd (ndi l x)).length+5,λn hn=>?_⟩;obtain ⟨m,rfl,hm⟩:=up1 hn;have hc:=HN (l:=l) (i:=x) ⟨h0,h1⟩;have hkx:=hk _ (PD (l:=l) ⟨h0,h1⟩);have hw:IntKind.i64.wrap (x-1)=x-1:=ql (by omega);have hw2:IntKind.i64.wrap (((kd (ndi l x)).length:Int)-1)=((kd (ndi l x)).length:Int)-1:=ql (by omega);have h:=Yj l x f m ⟨h0,h1⟩ hl hkx (hn0 m (by omega)) (kd (ndi l x)).length m (x-1) (zK _) (by omega) (by omega) (by omega);have e:(qj l x).take (kd (ndi l x)).length=qj l x:=List.take_length;rw [e] at h;rw [show F3 (qj l) (f+1) x=goT (F3 (qj l) f) (qj l x).reverse (x-1) from rfl];unfold kd at h hw2;dsimp only;simp only [Ef,Nj,qk];rcases h with ⟨y,g1,g2,g3,g4⟩|⟨g1,g2⟩
  ·have hw3:IntKind.i64.wrap (y+1)=y+1:=ql (by omega);rw [g2];simp [-getElem?_pos,qk,hc,h0,h1,Fg,FF,Ee,EG,EH,EI,EJ,EK,EL,EM,EN,EO,EP,Db,Dc,Dd,De,hw,hw2,g1,hw3]
  ·rw [g2];simp [-getElem?_pos,qk,hc,h0,h1,Fg,FF,Ee,EG,EH,EI,EJ,EK,EL,EM,EN,EO,EP,Db,Dc,Dd,De,hw,hw2,g1]
theorem VC (kids:Int->List Int):∀(f:Nat) (n:Int),0<=Es kids f n/\Es kids f n<=f
 |0,n=>by rw [Es];omega
 |f+1,n=>by
  have:∀l:List Int,0<=Qw (l.map λk=>Es kids f k)/\Qw (l.map λk=>Es kids f k)<=f:=by
   intro l
   induction l with
   |nil=>exact ⟨Int.le_refl 0,Int.natCast_nonneg f⟩
   |cons a r ih=>have:=VC kids f a;simp only [zanE,Qw];omega
  have:=this (kids n);rw [Es];omega
theorem Yk (l:List Nd) (x1:Int) (f n:Nat) (hx:0<=x1/\x1<l.length) (hf:f<=1000) (hk:(kd (ndi l x1)).length<=140737488351232)
  (hrec:∀k∈qj l x1,Eg n (l.map qo) k=some (Es (qj l) f k)):
  ∀(m i M:Nat) (a:Int),(kd (ndi l x1)).length=i+m->m+1<=M->0<=a->
   zE (Hf (Eg n) n) M (l.map qo,x1,a,(i:Int))=some (max a (Qw (((qj l x1).drop i).map λk=>Es (qj l) f k)))
 |m,i,0,a,h1,h2,h3=>by omega
 |0,i,M+1,a,h1,h2,h3=>by
  have hc:=HN hx;have hi:¬i<(ndi l x1).2.2.2.2.2.2.2.2.2.2.2.2.2.length:=by unfold kd at h1;omega
  rw [qd (r:=a) (by simp [-getElem?_pos,Hf,qk,hc,hx,Fg,FF,Ee,EG,EH,EI,EJ,EK,EL,EM,EN,EO,EP,Db,Dc,Dd,De,hi])];rw [List.drop_eq_nil_of_le (by unfold qj;omega)];simp only [List.map_nil,Qw]
  congr 1
  omega
 |m+1,i,M+1,a,h1,h2,h3=>by
  have hc:=HN hx;have hj:i<(kd (ndi l x1)).length:=by omega
  have hg:(qj l x1)[i]?=some (qj l x1)[i]:=zW hj;rw [IG hg];have hr:=hrec _ (zi hg);generalize (qj l x1)[i]=k at hg hr;have hg':(ndi l x1).2.2.2.2.2.2.2.2.2.2.2.2.2[i]?=some k:=hg;have hj':i<(ndi l x1).2.2.2.2.2.2.2.2.2.2.2.2.2.length:=hj;have hj'':(i:Int)<((ndi l x1).2.2.2.2.2.2.2.2.2.2.2.2.2.length:Int):=by omega
  have hw:IntKind.i64.wrap ((i:Int)+1)=((i+1:Nat):Int):=by rw [ql (by omega)];omega
  have hd:=VC (qj l) f k;rw [qm (v':=(l.map qo,x1,(if Es (qj l) f k>a then Es (qj l) f k else a),((i+1:Nat):Int))) (by simp [-getElem?_pos,Hf,qk,hc,hx,Fg,FF,Ee,EG,EH,EI,EJ,EK,EL,EM,EN,EO,EP,Db,Dc,Dd,De,hg',hj',hr,hw])];rw [Yk l x1 f n hx hf hk hrec m (i+1) M _ (by omega) (by omega) (by split<;>omega)];simp only [zanE,Qw]
  congr 1
  split<;>omega
theorem Qy (l:List Nd) (hl:l.length<=60) (hk:∀c∈l,(kd c).length<=140737488351232) (hin:∀i:Int,0<=i->i<l.length->My (E7 l) (GL l) (qj l) i):∀(f:Nat) (x:Int),f<=1000->0<=x->x<l.length->x<f->Ev (Eg · (l.map qo) x) (Es (qj l) f x)
 |0,x,hf,h0,h1,h2=>by omega
 |f+1,x,hf,h0,h1,h2=>by
  obtain ⟨n0,hn0⟩:=Eu (F:=λy n=>Eg n (l.map qo) y) (f:=λy=>Es (qj l) f y) (qj l x) (λy hy=>by
   have:=hin x h0 h1 y hy;exact Qy l hl hk hin f y (by omega) (by omega) (by omega) (by omega))
  refine ⟨n0+(kd (ndi l x)).length+5,λn hn=>?_⟩;obtain ⟨m,rfl,hm⟩:=up1 hn;have h:=Yk l x f m ⟨h0,h1⟩ (by omega) (hk _ (PD (l:=l) ⟨h0,h1⟩)) (hn0 m (by omega)) (kd (ndi l x)).length 0 m 0 (by omega) (by omega) (by omega);have hd:=VC (qj l) (f+1) x;have e:max 0 (Qw ((qj l x).map λk=>Es (qj l) f k))+1=Es (qj l) (f+1) x:=by
   rw [Es];have:∀q:List Int,0<=Qw q:=by
    intro q
    induction q with
    |nil=>exact Int.le_refl 0
    |cons a r ih=>simp only [Qw];omega
   have:=this ((qj l x).map λk=>Es (qj l) f k);omega
  rw [List.drop_zero] at h;simp only [Int.natCast_zero] at h;have hw:IntKind.i64.wrap (max 0 (Qw ((qj l x).map λk=>Es (qj l) f k))+1)=Es (qj l) (f+1) x:=by rw [e,ql (by omega)]
  simp only [Eg,Nl,qk,h,hw]
def inB (l:List Nd) (i:Int):Bool:=(qj l i).all λk=>decide (0<=k/\k<=i-1)&&!(E7 l k&&!GL l i)
theorem cd {l:List Nd} {i:Int}:inB l i=true↔My (E7 l) (GL l) (qj l) i:=by
 unfold inB My;rw [zamK];refine forall_congr' λk=>forall_congr' λhk=>?_
 cases E7 l k<;>cases GL l i<;>simp
theorem ZZ (l:List Nd) (x1:Int) (n:Nat) (hx:0<=x1/\x1<l.length) (hl:l.length<=60) (hk:(kd (ndi l x1)).length<=140737488351232):
  ∀(m i M:Nat),(kd (ndi l x1)).length=i+m->m+1<=M->
   zE (EZ (n+1)) M (l.map qo,x1,(i:Int))=some (if ((qj l x1).drop i).all (λk=>decide (0<=k/\k<=x1-1)&&!(E7 l k&&!GL l x1))=true then .inr (l.map qo,x1) else .inl false)
 |m,i,0,h1,h2=>by omega
 |0,i,M+1,h1,h2=>by
  have hc:=HN hx;have hi:¬i<(ndi l x1).2.2.2.2.2.2.2.2.2.2.2.2.2.length:=by unfold kd at h1;omega
  rw [qd (r:= .inr (l.map qo,x1)) (by simp [-getElem?_pos,EZ,qk,hc,hx,Fg,FF,Ee,EG,EH,EI,EJ,EK,EL,EM,EN,EO,EP,Db,Dc,Dd,De,hi])];rw [List.drop_eq_nil_of_le (by unfold qj;omega)];rfl
 |m+1,i,M+1,h1,h2=>by
  have hc:=HN hx;have hj:i<(kd (ndi l x1)).length:=by omega
  have hg:(qj l x1)[i]?=some (qj l x1)[i]:=zW hj;rw [IG hg];generalize (qj l x1)[i]=k at hg;have hg':(ndi l x1).2.2.2.2.2.2.2.2.2.2.2.2.2[i]?=some k:=hg;have hj':i<(ndi l x1).2.2.2.2.2.2.2.2.2.2.2.2.2.length:=hj;have hw:IntKind.i64.wrap ((i:Int)+1)=((i+1:Nat):Int):=by rw [ql (by omega)];omega
  have hw2:IntKind.i64.wrap (x1-1)=x1-1:=ql (by omega);have hin:FM (n+1) k 0 (x1-1)=some (decide (0<=k/\k<=x1-1)):=by
   simp only [FM,M8,qk];by_cases h:k≥0<;>simp [h]
  rw [zanC];by_cases hr:0<=k/\k<=x1-1
  ·have hck:=HN (l:=l) (i:=k) ⟨hr.1,by omega⟩;have hkl:k<(l.length:Int):=by omega
   by_cases ha:(ndi l k).1=3
   ·by_cases hcl:(ndi l x1).1=6
    ·rw [qm (v':=(l.map qo,x1,((i+1:Nat):Int))) (by simp [-getElem?_pos,EZ,qk,hc,hx,Fg,FF,Ee,EG,EH,EI,EJ,EK,EL,EM,EN,EO,EP,Db,Dc,Dd,De,hg',hj',hw,hw2,hin,hr,hck,hkl,ha,hcl])];rw [ZZ l x1 n hx hl hk m (i+1) M (by omega) (by omega)];simp [hr,E7,GL,ha,hcl]
    ·rw [qd (r:= .inl false) (by simp [-getElem?_pos,EZ,qk,hc,hx,Fg,FF,Ee,EG,EH,EI,EJ,EK,EL,EM,EN,EO,EP,Db,Dc,Dd,De,hg',hj',hw,hw2,hin,hr,hck,hkl,ha,hcl])];simp [hr,E7,GL,ha,hcl]
   ·rw [qm (v':=(l.map qo,x1,((i+1:Nat):Int))) (by simp [-getElem?_pos,EZ,qk,hc,hx,Fg,FF,Ee,EG,EH,EI,EJ,EK,EL,EM,EN,EO,EP,Db,Dc,Dd,De,hg',hj',hw,hw2,hin,hr,hck,hkl,ha])];rw [ZZ l x1 n hx hl hk m (i+1) M (by omega) (by omega)];simp [hr,E7,GL,ha]
  ·rw [qd (r:= .inl false) (by simp [-getElem?_pos,EZ,qk,hc,hx,Fg,FF,Ee,EG,EH,EI,EJ,EK,EL,EM,EN,EO,EP,Db,Dc,Dd,De,hg',hj',hw2,hin,hr])];simp [hr]
def K0 (l:List Nd) (i m:Nat):Bool:=(List.range' i m).all λ(i:Nat)=>L6 l (i:Int)&&inB l (i:Int)
theorem LB {l:List Nd}:K0 l 0 l.length=true↔∀i:Int,0<=i->i<l.length->L6 l i=true/\My (E7 l) (GL l) (qj l) i:=by
 unfold K0;rw [zamK]
 constructor
 ·intro h i h0 h1;have:=h i.toNat (by rw [List.mem_range'];exact ⟨i.toNat,by omega,by omega⟩);rw [show ((i.toNat:Nat):Int)=i by omega,zL,cd] at this;exact this
 ·intro h i hi;rw [List.mem_range'] at hi;obtain ⟨j,hj,rfl⟩:=hi;rw [zL,cd];exact h _ (by omega) (by omega)
theorem ce (l:List Nd) (n:Nat) (hl:l.length<=60) (hk:∀c∈l,(kd c).length<=140737488351232) (hn:∀c∈l,(kd c).length+2<=n)
  (hok:∀c∈l,GP n c.1 c.2.1 c.2.2.1 c.2.2.2.1 c.2.2.2.2.1 c.2.2.2.2.2.1 c.2.2.2.2.2.2.1 c.2.2.2.2.2.2.2.1 c.2.2.2.2.2.2.2.2.1 c.2.2.2.2.2.2.2.2.2.1 c.2.2.2.2.2.2.2.2.2.2.1 c.2.2.2.2.2.2.2.2.2.2.2.1 c.2.2.2.2.2.2.2.2.2.2.2.2.1 ((c.2.2.2.2.2.2.2.2.2.2.2.2.2).map Eo)=some (GN c)):
  ∀(m i M:Nat),l.length=i+m->m+1<=M->
   zE (E8 n) M (l.map qo,(i:Int))=some (if K0 l i m=true then .inr (l.map qo) else .inl false)
 |m,i,0,h1,h2=>by omega
 |0,i,M+1,h1,h2=>by
  have hi:¬(i:Int)<(l.length:Int):=by omega
  rw [qd (r:= .inr (l.map qo)) (by simp [-getElem?_pos,E8,qk,hi])];rfl
 |m+1,i,M+1,h1,h2=>by
  have hi:(i:Int)<(l.length:Int):=by omega
  have hx:0<=(i:Int)/\(i:Int)<l.length:=⟨by omega,hi⟩;have hc:=HN hx;have hm:=PD hx;have ho:=hok _ hm;have hw:IntKind.i64.wrap ((i:Int)+1)=((i+1:Nat):Int):=by rw [ql (by omega)];omega
  have hnn:=hn _ hm;obtain ⟨q,rfl⟩:∃q,n=q+1:=⟨n-1,by omega⟩;have hlp:=ZZ l i q hx hl (hk _ hm) (kd (ndi l i)).length 0 (q+1) (by omega) (by omega);rw [List.drop_zero,show ((qj l (i:Int)).all λk=>decide (0<=k/\k<=(i:Int)-1)&&!(E7 l k&&!GL l (i:Int)))=inB l i from rfl] at hlp;simp only [Int.natCast_zero] at hlp;have e:K0 l i (m+1)=(L6 l i&&inB l i&&K0 l (i+1) m):=by unfold K0;rw [List.range'_succ,zanC]
  rw [e];rw [bO] at hc;cases hnb:GN (ndi l i) with
  |false=>
   rw [hnb] at ho;rw [qd (r:= .inl false) (by simp [-getElem?_pos,E8,qk,hi,hc,Fg,FF,Ee,EG,EH,EI,EJ,EK,EL,EM,EN,EO,EP,Db,Dc,Dd,De,ho])];simp [L6,hnb]
  |true=>
   rw [hnb] at ho;cases hib:inB l i with
   |false=>
    rw [hib] at hlp;rw [qd (r:= .inl false) (by simp [-getElem?_pos,E8,qk,hi,hc,Fg,FF,Ee,EG,EH,EI,EJ,EK,EL,EM,EN,EO,EP,Db,Dc,Dd,De,ho,hlp])];simp
   |true=>
    rw [hib] at hlp;rw [qm (v':=(l.map qo,((i+1:Nat):Int))) (by simp [-getElem?_pos,E8,qk,hi,hc,Fg,FF,Ee,EG,EH,EI,EJ,EK,EL,EM,EN,EO,EP,Db,Dc,Dd,De,ho,hlp,hw])];rw [ce l (q+1) hl hk hn hok m (i+1) M (by omega) (by omega)];simp [L6,hnb]
def Ii (l:List Nd):Bool:=decide (1<=l.length/\l.length<=60)&&(K0 l 0 l.length&&(decide (F3 (qj l) l.length ((l.length:Int)-1)=0)&&(!E7 l ((l.length:Int)-1)&&decide (Es (qj l) l.length ((l.length:Int)-1)<=12))))
theorem KJ (l:List Nd) (hk:∀c∈l,(kd c).length<=140737488351232/\c.2.2.2.2.1.size<=140737488351232):Ev (FN · (l.map qo)) (Ii l):=by
 by_cases h1:1<=l.length
 ·by_cases h60:l.length<=60
  ·have hk1:∀c∈l,(kd c).length<=140737488351232:=λc hc=>(hk c hc).1
   obtain ⟨n1,g1⟩:=Eu (F:=λ(c:Nd) n=>GP n c.1 c.2.1 c.2.2.1 c.2.2.2.1 c.2.2.2.2.1 c.2.2.2.2.2.1 c.2.2.2.2.2.2.1 c.2.2.2.2.2.2.2.1 c.2.2.2.2.2.2.2.2.1 c.2.2.2.2.2.2.2.2.2.1 c.2.2.2.2.2.2.2.2.2.2.1 c.2.2.2.2.2.2.2.2.2.2.2.1 c.2.2.2.2.2.2.2.2.2.2.2.2.1 ((c.2.2.2.2.2.2.2.2.2.2.2.2.2).map Eo)) (f:=GN) l (λc hc=>OT c (hk c hc).2);obtain ⟨n2,g2⟩:=Eu (F:=λ(c:Nd) n=>if (kd c).length+2<=n then some () else none) (f:=λ_=>()) l (λc hc=>⟨(kd c).length+2,λn hn=>if_pos hn⟩);obtain ⟨n3,g3⟩:=Qx l (by omega) hk1 l.length ((l.length:Int)-1) (by omega) (by omega) (by omega);obtain ⟨n4,g4⟩:∃n0,K0 l 0 l.length=true->∀n,n0<=n->Eg n (l.map qo) ((l.length:Int)-1)=some (Es (qj l) l.length ((l.length:Int)-1)):=by
    by_cases ho:K0 l 0 l.length=true
    ·obtain ⟨n4,g4⟩:=Qy l h60 hk1 (λ(i:Int) h0 h1=>(LB.1 ho i h0 h1).2) l.length ((l.length:Int)-1) (by omega) (by omega) (by omega) (by omega);exact ⟨n4,λ_=>g4⟩
    ·exact ⟨0,λh=>absurd h ho⟩
   refine ⟨n1+n2+n3+n4+l.length+5,λn hn=>?_⟩;obtain ⟨m,rfl,hm⟩:=up1 hn;have hlp:=ce l m h60 hk1 (λc hc=>by
    have:=g2 m (by omega) c hc;split at this
    ·assumption
    ·cases this) (g1 m (by omega)) l.length 0 m (by omega) (by omega)
   have g3:=g3 m (by omega);dsimp only at g3;simp only [Int.natCast_zero] at hlp;have hw:IntKind.i64.wrap ((l.length:Int)-1)=(l.length:Int)-1:=ql (by omega);have hx:0<=(l.length:Int)-1/\(l.length:Int)-1<l.length:=by omega
   have hc:=HN hx;have a1:¬(l.length:Int)<1:=by omega
   have a2:¬(l.length:Int)>60:=by omega
   generalize hxe:(l.length:Int)-1=x at hw hx hc g3 g4⊢;simp only [FN,Hg,qk,zamV,aC,a1,a2,if_false,hlp];unfold Ii;rw [hxe];cases ho:K0 l 0 l.length with
   |false=>simp [qk]
   |true=>
    have g4:=g4 ho m (by omega);simp only [if_true,qk,zamV,hxe,hw,g3];by_cases ht:F3 (qj l) l.length x=0
    ·by_cases ha:(ndi l x).1=3
     ·simp [-getElem?_pos,qk,ht,hx,hc,Fg,FF,Ee,EG,EH,EI,EJ,EK,EL,EM,EN,EO,EP,Db,Dc,Dd,De,ha,E7]
     ·simp [-getElem?_pos,qk,ht,hx,hc,Fg,FF,Ee,EG,EH,EI,EJ,EK,EL,EM,EN,EO,EP,Db,Dc,Dd,De,ha,E7,g4,h1,h60]
    ·simp [-getElem?_pos,qk,ht]
  ·refine ⟨1,λn hn=>?_⟩;obtain ⟨m,rfl,hm⟩:=up1 (n0:=0) hn;have a1:¬(l.length:Int)<1:=by omega
   have a2:(l.length:Int)>60:=by omega
   simp [-getElem?_pos,FN,Hg,qk,a1,a2,Ii,h60]
 ·refine ⟨1,λn hn=>?_⟩;obtain ⟨m,rfl,hm⟩:=up1 (n0:=0) hn;have a1:(l.length:Int)<1:=by omega
  simp [-getElem?_pos,FN,Hg,qk,a1,Ii,h1]
theorem Yl (l:List Nd) (x1 d:Int) (f n:Nat) (hx:0<=x1/\x1<l.length) (hl:l.length<=140737488351232) (hd:0<=d/\d<=1000) (hk:(kd (ndi l x1)).length<=140737488351232)
  (hrec:∀y:Int,0<=y->y<x1->Ea n (l.map qo) y (d+1)=some (HM (L6 l) (E7 l) (GL l) (qj l) f y)):
  ∀(j M:Nat) (s:Int),j<=(kd (ndi l x1)).length->j+1<=M->0<=s->s<=x1->
   zE (EC (Ea n) n) M (l.map qo,x1,d,s,(j:Int)-1)=some (.inr (goF (E7 l) (GL l) (HM (L6 l) (E7 l) (GL l) (qj l) f) x1 ((qj l x1).take j).reverse s))\/
   (zE (EC (Ea n) n) M (l.map qo,x1,d,s,(j:Int)-1)=some (.inl (-1))/\goF (E7 l) (GL l) (HM (L6 l) (E7 l) (GL l) (qj l) f) x1 ((qj l x1).take j).reverse s= -1)
 |0,0,s,h1,h2,h3,h4=>by omega
 |0,M+1,s,h1,h2,h3,h4=>by
  refine .inl ?_;rw [qd (r:= .inr s) (by simp [-getElem?_pos,EC,qk])];simp [goF]
 |j+1,0,s,h1,h2,h3,h4=>by omega
 |j+1,M+1,s,h1,h2,h3,h4=>by
  have hc:=HN hx;have hj:j<(kd (ndi l x1)).length:=by omega
  have hg:(qj l x1)[j]?=some (qj l x1)[j]:=zW hj;have ih:=Yl l x1 d f n hx hl hd hk hrec j M;rw [d9 hg];generalize (qj l x1)[j]=k at hg;have hi:(((j+1:Nat):Int)-1)=(j:Int):=by omega
  rw [hi,goF];have hg':(ndi l x1).2.2.2.2.2.2.2.2.2.2.2.2.2[j]?=some k:=hg;have hj':j<(ndi l x1).2.2.2.2.2.2.2.2.2.2.2.2.2.length:=hj;have hws:IntKind.i64.wrap (s-1)=s-1:=ql (by omega);by_cases hks:k=s-1
  ·by_cases hk0:k<0
   ·refine .inr ⟨?_,by rw [if_pos (.inr (.inl hk0))]⟩;rw [qd (r:= .inl (-1)) (by simp [-getElem?_pos,EC,qk,hc,hx,Fg,FF,Ee,EG,EH,EI,EJ,EK,EL,EM,EN,EO,EP,Db,Dc,Dd,De,hg',hj',hks,hws,show s-1<0 by omega])]
   ·have hws':IntKind.i64.wrap (s-1)=k:=by rw [hws,hks]
    have hkx:0<=k/\k<l.length:=by omega
    have hck:=HN hkx;by_cases hac:E7 l k=true/\GL l x1=false
    ·have ha:(ndi l k).1=3:=by simpa [E7] using hac.1
     have hb:¬(ndi l x1).1=6:=by simpa [GL] using hac.2
     refine .inr ⟨?_,by rw [if_pos (.inr (.inr hac))]⟩;rw [qd (r:= .inl (-1)) (by simp [-getElem?_pos,EC,qk,hc,hx,Fg,FF,Ee,EG,EH,EI,EJ,EK,EL,EM,EN,EO,EP,Db,Dc,Dd,De,hg',hj',hws',hk0,hck,hkx,ha,hb])]
    ·have hr:=hrec k (by omega) (by omega);have hwd:IntKind.i64.wrap (d+1)=d+1:=ql (by omega);have hw2:IntKind.i64.wrap ((j:Int)-1)=(j:Int)-1:=ql (by omega);have hno:¬(k≠s-1\/k<0\/(E7 l k=true/\GL l x1=false)):=λh=>by
      rcases h with h|h|h
      ·exact h hks
      ·exact hk0 h
      ·exact hac h
     have hcase:¬(ndi l k).1=3\/((ndi l k).1=3/\(ndi l x1).1=6):=by
      by_cases ha:(ndi l k).1=3
      ·refine .inr ⟨ha,?_⟩;refine Decidable.byContradiction λhb=>hac ⟨by simp [E7,ha],by simp [GL,hb]⟩
      ·exact .inl ha
     rw [if_neg hno];by_cases ht:HM (L6 l) (E7 l) (GL l) (qj l) f k<0
     ·refine .inr ⟨?_,by rw [if_pos ht]⟩;rcases hcase with ha|⟨ha,hb⟩
      ·rw [qd (r:= .inl (-1)) (by simp [-getElem?_pos,EC,qk,hc,hx,Fg,FF,Ee,EG,EH,EI,EJ,EK,EL,EM,EN,EO,EP,Db,Dc,Dd,De,hg',hj',hws',hk0,hck,hkx,ha,hwd,hr,ht])]
      ·rw [qd (r:= .inl (-1)) (by simp [-getElem?_pos,EC,qk,hc,hx,Fg,FF,Ee,EG,EH,EI,EJ,EK,EL,EM,EN,EO,EP,Db,Dc,Dd,De,hg',hj',hws',hk0,hck,hkx,ha,hb,hwd,hr,ht])]
     ·rw [if_neg ht];have hb1:=(ZY (L6 l) (E7 l) (GL l) (qj l) f (k.toNat+1) k (by omega) (by omega) (by omega)).1;have hstep:zE (EC (Ea n) n) (M+1) (l.map qo,x1,d,s,(j:Int))=zE (EC (Ea n) n) M (l.map qo,x1,d,HM (L6 l) (E7 l) (GL l) (qj l) f k,(j:Int)-1):=by
       rcases hcase with ha|⟨ha,hb⟩
       ·rw [qm (v':=(l.map qo,x1,d,HM (L6 l) (E7 l) (GL l) (qj l) f k,(j:Int)-1)) (by simp [-getElem?_pos,EC,qk,hc,hx,Fg,FF,Ee,EG,EH,EI,EJ,EK,EL,EM,EN,EO,EP,Db,Dc,Dd,De,hg',hj',hws',hk0,hck,hkx,ha,hwd,hr,ht,hw2])]
       ·rw [qm (v':=(l.map qo,x1,d,HM (L6 l) (E7 l) (GL l) (qj l) f k,(j:Int)-1)) (by simp [-getElem?_pos,EC,qk,hc,hx,Fg,FF,Ee,EG,EH,EI,EJ,EK,EL,EM,EN,EO,EP,Db,Dc,Dd,De,hg',hj',hws',hk0,hck,hkx,ha,hb,hwd,hr,ht,hw2])]
      rw [hstep];exact ih _ (by omega) (by omega) (by omega) (by omega)
  ·refine .inr ⟨?_,by rw [if_pos (.inl hks)]⟩;rw [qd (r:= .inl (-1)) (by simp [-getElem?_pos,EC,qk,hc,hx,Fg,FF,Ee,EG,EH,EI,EJ,EK,EL,EM,EN,EO,EP,Db,Dc,Dd,De,hg',hj',hws,hks])]
theorem Tq (l:List Nd) (hl:l.length<=140737488351232) (hk:∀c∈l,(kd c).length<=140737488351232/\c.2.2.2.2.1.size<=140737488351232):∀(f:Nat) (x d:Int),x<l.length->d=12-f->0<=d->Ev (Ea · (l.map qo) x d) (HM (L6 l) (E7 l) (GL l) (qj l) f x)
 |0,x,d,h1,h2,h3=>by
  refine ⟨1,λn hn=>?_⟩;obtain ⟨m,rfl,hm⟩:=up1 (n0:=0) hn;have a:d≥12:=by omega
  by_cases h:x<0<;>simp [-getElem?_pos,Ea,K7,qk,h,a,HM]
 |f+1,x,d,h1,h2,h3=>by
  by_cases h0:x<0
  ·refine ⟨1,λn hn=>?_⟩;obtain ⟨m,rfl,hm⟩:=up1 (n0:=0) hn;simp [-getElem?_pos,Ea,K7,qk,h0,HM]
  ·have hx:0<=x/\x<l.length:=by omega
   have hc:=HN hx;have hm':=PD hx;obtain ⟨n0,hn0⟩:=f5 (F:=λy n=>Ea n (l.map qo) y (d+1)) (f:=λy=>HM (L6 l) (E7 l) (GL l) (qj l) f y) x (λy h3 h4=>Tq l hl hk f y (d+1) (by omega) (by omega) (by omega));obtain ⟨n1,g1⟩:=YT (ndi l x) (hk _ hm').2;refine ⟨n0+n1+(kd (ndi l x)).length+5,λn hn=>?_⟩;obtain ⟨m,rfl,hm⟩:=up1 hn;have g1:=g1 m (by omega);have h:=Yl l x d f m hx hl (by omega) (hk _ hm').1 (hn0 m (by omega)) (kd (ndi l x)).length m x (zK _) (by omega) (by omega) (by omega);have e:(qj l x).take (kd (ndi l x)).length=qj l x:=List.take_length;rw [e] at h;have hw2:IntKind.i64.wrap (((kd (ndi l x)).length:Int)-1)=((kd (ndi l x)).length:Int)-1:=by
    have:=(hk _ hm').1;exact ql (by omega)
   have a:¬d≥12:=by omega
   unfold kd at h hw2;dsimp only at g1⊢;simp only [Ea,K7,HM,qk];cases hnb:GN (ndi l x) with
   |false=>
    rw [hnb] at g1;simp [-getElem?_pos,qk,h0,a,hc,hx,Fg,FF,Ee,EG,EH,EI,EJ,EK,EL,EM,EN,EO,EP,Db,Dc,Dd,De,g1,L6,hnb]
   |true=>
    rw [hnb] at g1;rcases h with h|⟨h,h'⟩
    ·simp [-getElem?_pos,qk,h0,a,hc,hx,Fg,FF,Ee,EG,EH,EI,EJ,EK,EL,EM,EN,EO,EP,Db,Dc,Dd,De,g1,L6,hnb,hw2,h]
    ·simp only [h'];simp [-getElem?_pos,qk,h0,a,hc,hx,Fg,FF,Ee,EG,EH,EI,EJ,EK,EL,EM,EN,EO,EP,Db,Dc,Dd,De,g1,L6,hnb,hw2,h]
theorem gz {l:List Nd}:Ii l=(decide (1<=l.length/\l.length<=60)&&(!E7 l ((l.length:Int)-1)&&decide (HM (L6 l) (E7 l) (GL l) (qj l) 12 ((l.length:Int)-1)=0))):=by
 rw [Bool.eq_iff_iff];unfold Ii;simp only [zL,aC]
 constructor
 ·intro ⟨h1,h2,h3,h4,h5⟩;refine ⟨h1,h4,?_⟩;rw [ca (L6 l) (E7 l) (GL l) (qj l) 12 l.length l.length ((l.length:Int)-1) (by omega) (by omega) (by omega) (λi i0 i1=>LB.1 h2 i i0 (by omega)) (by omega) (by simpa using h5)];exact h3
 ·intro ⟨h1,h4,h5⟩;obtain ⟨b1,b2,b3,b4⟩:=ZY (L6 l) (E7 l) (GL l) (qj l) 12 l.length ((l.length:Int)-1) (by omega) (by omega) (by omega);rw [h5] at b2 b3;refine ⟨h1,LB.2 (λi i0 i1=>b3 i i0 (by omega)),b2,h4,?_⟩;have:=b4 l.length (λi i0 i1=>(b3 i i0 i1).2) (by omega);simpa using this
theorem NV (l:List Nd) (hl:l.length<=140737488351232) (hk:∀c∈l,(kd c).length<=140737488351232/\c.2.2.2.2.1.size<=140737488351232):Ev (Fx · (l.map qo)) (Ii l):=by
 rw [gz];by_cases h:1<=l.length/\l.length<=60
 ·obtain ⟨n1,g1⟩:=Tq l hl hk 12 ((l.length:Int)-1) 0 (by omega) (by omega) (by omega);obtain ⟨n2,g2⟩:=Dt (l.length:Int) 1 60;refine ⟨n1+n2+1,λn hn=>?_⟩;obtain ⟨m,rfl,hm⟩:=up1 hn;have g1:=g1 m (by omega);have g2:=g2 m (by omega);dsimp only at g1 g2⊢;have hw:IntKind.i64.wrap ((l.length:Int)-1)=(l.length:Int)-1:=ql (by omega);have hx:0<=(l.length:Int)-1/\(l.length:Int)-1<l.length:=by omega
  have hc:=HN hx;have h':(1:Int)<=l.length/\(l.length:Int)<=60:=by omega
  generalize hxe:(l.length:Int)-1=x at hw hx hc g1⊢;by_cases ha:(ndi l x).1=3
  ·simp [-getElem?_pos,Fx,Hk,qk,hxe,g2,h',hw,hx,hc,Fg,FF,Ee,EG,EH,EI,EJ,EK,EL,EM,EN,EO,EP,Db,Dc,Dd,De,ha,E7]
  ·by_cases hf:HM (L6 l) (E7 l) (GL l) (qj l) 12 x=0<;>simp [-getElem?_pos,Fx,Hk,qk,hxe,g1,g2,h,h',hw,hx,hc,Fg,FF,Ee,EG,EH,EI,EJ,EK,EL,EM,EN,EO,EP,Db,Dc,Dd,De,ha,E7,hf]
 ·obtain ⟨n2,g2⟩:=Dt (l.length:Int) 1 60;refine ⟨n2+1,λn hn=>?_⟩;obtain ⟨m,rfl,hm⟩:=up1 hn;have g2:=g2 m (by omega);dsimp only at g2⊢;have h':¬((1:Int)<=l.length/\(l.length:Int)<=60):=by omega
  simp [-getElem?_pos,Fx,Hk,qk,g2,h,h']
def ES (l:List UInt8):List UInt8:=l.flatMap λc=>if c=34 then [34,34] else [c]
def Ij (s:BA):BA:=⟨(34::ES s.toList++ [34]).toArray⟩
theorem Jh (c:UInt8) (l:List UInt8):ES (c::l)=(if c=34 then [34,34] else [c])++ES l:=by simp [ES]
theorem Ym (l r:List UInt8):ES (l++r)=ES l++ES r:=by simp [ES]
theorem OV:∀l:List UInt8,(ES l).length<=2*l.length
 | []=>by simp [ES]
 |c::l=>by
  have:=OV l;rw [Jh];by_cases h:c=34<;>simp [h]<;>omega
theorem R7:∀s:List UInt8,Lib.replaceK [34] [34,34] (Lib.count s [34]) s=ES s
 | []=>by
  rw [Lib.count_miss (by rfl)];rfl
 |b::l=>by
  have ih:=R7 l;by_cases hb:b=34
  ·subst hb;have h0:Lib.index (34::l) [34]=((0:Nat):Int):=by simp [Lib.index,List.isPrefixOf]
   rw [Lib.count_hit (by simp) h0,Nat.add_comm,Lib.replaceK_hit _ _ _ _ 0 h0];simp only [List.take_zero,List.nil_append,Nat.zero_add,List.length_singleton,List.drop_succ_cons,List.drop_zero];rw [ih,Jh,if_pos rfl]
  ·have hix:Lib.index (b::l) [34]=if Lib.index l [34]== -1 then-1 else Lib.index l [34]+1:=by
    have:((34:UInt8)==b)=false:=by simpa using λe=>hb e.symm
    simp [Lib.index,List.isPrefixOf,this]
   rw [Jh,if_neg hb];by_cases hm:Lib.index l [34]= -1
   ·rw [hm] at hix;rw [Lib.count_miss hm] at ih;rw [Lib.count_miss (by rw [hix];rfl)];rw [Lib.replaceK] at ih⊢;rw [<-ih];rfl
   ·have hge:=Lib.index_ge l [34];obtain ⟨i,hi⟩:∃i:Nat,Lib.index l [34]=i:=⟨(Lib.index l [34]).toNat,by omega⟩;have hix':Lib.index (b::l) [34]=((i+1:Nat):Int):=by
     rw [hix,if_neg (by simp [hm]),hi];omega
    rw [Lib.count_hit (by simp) hi,Nat.add_comm,Lib.replaceK_hit _ _ _ _ i hi] at ih;rw [Lib.count_hit (by simp) hix',Nat.add_comm,Lib.replaceK_hit _ _ _ _ (i+1) hix'];rw [<-ih];simp only [List.length_singleton,List.take_succ_cons,List.drop_succ_cons,List.cons_append,List.singleton_append,List.nil_append]
theorem VD (s:List UInt8):Lib.replaceAll s [34] [34,34]=ES s:=by
 have h1:(([34]:List UInt8)== [34,34])=false:=by decide
 have h2:Lib.replaceNum s [34] (-1)=Lib.count s [34]:=by unfold Lib.replaceNum;rw [if_pos (.inl (by decide))]
 unfold Lib.replaceAll Lib.replace;rw [h1,h2];exact R7 s
theorem pS {s:BA} {i:Nat} {c:UInt8} (h:s.toList[i]?=some c):s.extract i (i+1)=⟨#[c]⟩:=by
 apply NR;rw [zao] at h;rw [ByteArray.data_extract,Array.toList_extract];show (s.data.toList.drop i).take (i+1-i)=_;rw [IG h,Nat.add_sub_cancel_left];rfl
theorem aa (n:Nat) (s A:BA) (i:Nat) (c:UInt8) (hg:s.toList[i]?=some c) (hi:i<s.size) (hA:A.size<=10000) (hs:s.size<=1000):
  (Fa n (s,A,(i:Int))).run=some (.inl (s,if c=34 then (A++⟨#[34]⟩)++⟨#[c]⟩ else A++⟨#[c]⟩,((i+1:Nat):Int))):=by
 have hi':(i:Int)<s.size:=by omega
 have w1:IntKind.i64.wrap ((i:Int)+1)=((i+1:Nat):Int):=by rw [ql (by omega)];omega
 have hx:=pS hg;have d1:(⟨#[34]⟩:BA).size=1:=rfl;have d2:(⟨#[c]⟩:BA).size=1:=rfl;have y1:(0:Int)<=(i:Int)/\(i:Int)<=((i+1:Nat):Int)/\((i+1:Nat):Int)<=s.size:=by omega
 have y0:(0:Int)<=(i:Int):=by omega
 have z1:A.size+(⟨#[34]⟩:BA).size<=9223372036854775807:=by omega
 have z2:(A++(⟨#[34]⟩:BA)).size+(⟨#[c]⟩:BA).size<=9223372036854775807:=by rw [zu];omega
 have z3:A.size+(⟨#[c]⟩:BA).size<=9223372036854775807:=by omega
 by_cases hc:c=34
 ·have hb:((c.toNat:Int)==(34:Int))=true:=by rw [hc];rfl
  rw [if_pos hc];simp only [Fa,qk,zD hi',zD y0,bO,hg,hb,zD z1,w1,zD y1,hx,zD z2,if_true]
 ·have hb:((c.toNat:Int)==(34:Int))=false:=by
   have:c.toNat≠34:=λe=>hc (UInt8.toNat_inj.1 e)
   simp;omega
  simp only [Fa,qk,zD hi',zD y0,bO,hg,hb,w1,zD y1,hx,zD z3,if_true,hc,if_false,cZ]
theorem Xd (n:Nat) (s:BA) (hs:s.size<=1000):∀(r pre:List UInt8) (M:Nat),s.toList=pre++r->r.length+1<=M->
  zE (Fa n) M (s,⟨(34::ES pre).toArray⟩,(pre.length:Int))=some ⟨(34::ES s.toList).toArray⟩
 |r,pre,0,h1,h2=>by omega
 | [],pre,M+1,h1,h2=>by
  have hi:¬(pre.length:Int)<s.size:=by rw [GK,h1];simp
  rw [h1,List.append_nil];generalize (⟨(34::ES pre).toArray⟩:BA)=A;rw [qd (r:=A) (by simp [Fa,qk,hi])]
 |c::r,pre,M+1,h1,h2=>by
  have hl:s.size=pre.length+(r.length+1):=by rw [GK,h1];simp
  have hg:s.toList[pre.length]?=some c:=by rw [h1];simp
  have hq:=OV pre;have hA:(⟨(34::ES pre).toArray⟩:BA).size<=10000:=by
   rw [HY];simp;omega
  rw [qm (aa n s _ pre.length c hg (by omega) hA hs)];have e:(if c=34 then ((⟨(34::ES pre).toArray⟩:BA)++⟨#[34]⟩)++⟨#[c]⟩ else (⟨(34::ES pre).toArray⟩:BA)++⟨#[c]⟩)=⟨(34::ES (pre++ [c])).toArray⟩:=by
   apply NR;by_cases hc:c=34
   ·rw [if_pos hc,H5,H5,Ym,Jh,if_pos hc,hc];simp [ES]
   ·rw [if_neg hc,H5,Ym,Jh,if_neg hc];simp [ES]
  rw [e];have h:=Xd n s hs r (pre++ [c]) M (by rw [h1];simp) (by simp at h2;omega);rw [show ((pre++ [c]).length:Int)=((pre.length+1:Nat):Int) by simp] at h;exact h
theorem ac (s:BA):(Ij s).size<=2*s.size+2:=by
 have:=OV s.toList;rw [Dz] at this;rw [HY];simp [Ij];omega
theorem WZ (s:BA) (hs:s.size<=1000):Ev (Jz · s) (Ij s):=by
 refine ⟨s.size+5,λn hn=>?_⟩;obtain ⟨m,rfl,hm⟩:=up1 hn;have h:=Xd m s hs s.toList [] m rfl (by rw [Dz];omega);simp only [zanD,Int.natCast_zero] at h;have e0:(⟨(34::ES []).toArray⟩:BA)=⟨#[34]⟩:=rfl;rw [e0] at h;have hz:(⟨(34::ES s.toList).toArray⟩:BA).size+(⟨#[34]⟩:BA).size<=9223372036854775807:=by
  have:=OV s.toList;rw [Dz] at this;have d1:(⟨#[34]⟩:BA).size=1:=rfl;rw [HY,d1];simp;omega
 simp only [Jz,MR,qk,h,zD hz,if_true]
 congr 1
theorem YU (s:BA) (hs:s.size<=1000):Ev (If · s ⟨#[34]⟩ ⟨#[34,34]⟩) ⟨(ES s.toList).toArray⟩:=by
 refine ⟨1,λn hn=>?_⟩;obtain ⟨m,rfl,hm⟩:=up1 (n0:=0) hn;show zz s ⟨#[34]⟩ ⟨#[34,34]⟩=_;have hc:=Lib.countB_mul_le (⟨#[34]⟩:BA) (by decide) s.size s (zK _);have d1:(⟨#[34]⟩:BA).size=1:=rfl;have d2:(⟨#[34,34]⟩:BA).size=2:=rfl;unfold zz;rw [d1] at hc;rw [if_pos (by rw [d1,d2];omega)]
 congr 3
 rw [<-zao];exact VD _
def lvl (op:Int):Int:=if op≥6 then 1 else if op=5 then 2 else if op≥3 then 4 else 3
theorem ae (op:Int):1<=lvl op/\lvl op<=4:=by
 unfold lvl;split
 ·omega
 ·split
  ·omega
  ·split<;>omega
theorem Pt (op:Int):Ev (Gp · op) (lvl op):=by
 refine ⟨1,λn hn=>?_⟩;obtain ⟨m,rfl,hm⟩:=up1 hn;simp only [Gp,MM,qk];unfold lvl;by_cases h1:op≥6
 ·simp [h1]
 ·by_cases h2:op=5
  ·simp [h2]
  ·by_cases h3:op≥3<;>simp [h1,h2,h3]
theorem mc {op:Int} (h:1<=op/\op<=11):op=1\/op=2\/op=3\/op=4\/op=5\/op=6\/op=7\/op=8\/op=9\/op=10\/op=11:=by omega
theorem R8 (op:Int) (h:1<=op/\op<=11):Ev (Iw · op) (lvl op):=by
 refine ⟨1,λn hn=>?_⟩;obtain ⟨m,rfl,hm⟩:=up1 hn;simp only [Iw,Ox,qk];rcases mc h with rfl|rfl|rfl|rfl|rfl|rfl|rfl|rfl|rfl|rfl|rfl<;>rfl
def DJ (op:Int):BA:=if op=1 then ⟨#[43]⟩ else if op=2 then ⟨#[45]⟩ else if op=3 then ⟨#[42]⟩ else if op=4 then ⟨#[47]⟩ else if op=5 then ⟨#[38]⟩ else if op=6 then ⟨#[61]⟩ else if op=7 then ⟨#[60,62]⟩ else if op=8 then ⟨#[60]⟩ else if op=9 then ⟨#[60,61]⟩ else if op=10 then ⟨#[62]⟩ else ⟨#[62,61]⟩
def fnS (op:Int):BA:=if op=1 then ⟨#[83,85,77]⟩ else if op=2 then ⟨#[77,73,78]⟩ else if op=3 then ⟨#[77,65,88]⟩ else if op=4 then ⟨#[67,79,85,78,84]⟩ else if op=5 then ⟨#[73,70]⟩ else if op=6 then ⟨#[65,78,68]⟩ else if op=7 then ⟨#[79,82]⟩ else if op=8 then ⟨#[78,79,84]⟩ else if op=9 then ⟨#[65,66,83]⟩ else ⟨#[76,69,78]⟩
theorem PE {op:Int} (h:1<=op/\op<=11):(DJ op).size<=2:=by
 rcases mc h with rfl|rfl|rfl|rfl|rfl|rfl|rfl|rfl|rfl|rfl|rfl<;>decide
theorem Xe {op:Int} (h:1<=op/\op<=10):(fnS op).size<=5:=by
 rcases ten h with rfl|rfl|rfl|rfl|rfl|rfl|rfl|rfl|rfl|rfl<;>decide
theorem Mz (op:Int) (h:1<=op/\op<=11):Ev (Gh · op) (DJ op):=by
 refine ⟨1,λn hn=>?_⟩;obtain ⟨m,rfl,hm⟩:=up1 hn;simp only [Gh,Nb,qk];rcases mc h with rfl|rfl|rfl|rfl|rfl|rfl|rfl|rfl|rfl|rfl|rfl<;>rfl
theorem M0 (op:Int) (h:1<=op/\op<=11):Ev (FW · op) (DJ op):=by
 refine ⟨1,λn hn=>?_⟩;obtain ⟨m,rfl,hm⟩:=up1 hn;simp only [FW,Nt,qk];rcases mc h with rfl|rfl|rfl|rfl|rfl|rfl|rfl|rfl|rfl|rfl|rfl<;>rfl
theorem Ts (op:Int) (h:1<=op/\op<=10):Ev (HE · op) (fnS op):=by
 refine ⟨1,λn hn=>?_⟩;obtain ⟨m,rfl,hm⟩:=up1 hn;simp only [HE,QD,qk];rcases ten h with rfl|rfl|rfl|rfl|rfl|rfl|rfl|rfl|rfl|rfl<;>rfl
theorem Qz (op:Int) (h:1<=op/\op<=10):Ev (Gi · op) (fnS op):=by
 refine ⟨1,λn hn=>?_⟩;obtain ⟨m,rfl,hm⟩:=up1 hn;simp only [Gi,Ns,qk];rcases ten h with rfl|rfl|rfl|rfl|rfl|rfl|rfl|rfl|rfl|rfl<;>rfl
def Q0 (xs:List BA):BA:=⟨(Lib.join (xs.map (·.data.toList)) [44]).toArray⟩
def par (b:Bool) (s:BA):BA:=if b=true then ((⟨#[40]⟩:BA)++s)++⟨#[41]⟩ else s
def kid (c:Nd) (j:Nat):Int:=(kd c).getD j 0
def DK (l:List Nd):Nat->Int->Int->BA
 |0,_,_=>⟨#[]⟩
 |f+1,i,t=>
  if (ndi l i).1=1 then (if (ndi l i).2.2.1=2 then Ij (ndi l i).2.2.2.2.1 else Di (ndi l i).2.2.1 (ndi l i).2.2.2.1 (ndi l i).2.2.2.2.1)
  else if (ndi l i).1=2 then EF (ndi l i).2.2.2.2.2.1 (ndi l i).2.2.2.2.2.2.1 (ndi l i).2.2.2.2.2.2.2.1 (ndi l i).2.2.2.2.2.2.2.2.1
  else if (ndi l i).1=3 then (EF (ndi l i).2.2.2.2.2.1 (ndi l i).2.2.2.2.2.2.1 (ndi l i).2.2.2.2.2.2.2.1 (ndi l i).2.2.2.2.2.2.2.2.1++⟨#[58]⟩)++EF (ndi l i).2.2.2.2.2.2.2.2.2.1 (ndi l i).2.2.2.2.2.2.2.2.2.2.1 (ndi l i).2.2.2.2.2.2.2.2.2.2.2.1 (ndi l i).2.2.2.2.2.2.2.2.2.2.2.2.1
  else if (ndi l i).1=4 then (⟨#[45]⟩:BA)++DK l f (kid (ndi l i) 0) 5
  else if (ndi l i).1=5 then par (decide (lvl (ndi l i).2.1<t)) ((DK l f (kid (ndi l i) 0) (lvl (ndi l i).2.1)++DJ (ndi l i).2.1)++DK l f (kid (ndi l i) 1) (lvl (ndi l i).2.1+1))
  else ((fnS (ndi l i).2.1++⟨#[40]⟩)++Q0 ((qj l i).map λk=>DK l f k 1))++⟨#[41]⟩
theorem cf (l:List Nd) (f:Nat) (i:Int):DK l f i 0=DK l f i 1:=by
 cases f with
 |zero=>rfl
 |succ f=>
  have h:=ae (ndi l i).2.1;have e:decide (lvl (ndi l i).2.1<0)=decide (lvl (ndi l i).2.1<1):=by
   rw [zd (by omega),zd (by omega)]
  simp only [DK,e]
theorem LC {c:Nd} (h:GN c=true):(c.1=1/\okV c.2.2.1 c.2.2.2.1 c.2.2.2.2.1=true)\/c.1=2\/c.1=3\/(c.1=4/\(kd c).length=1)\/(c.1=5/\(1<=c.2.1/\c.2.1<=11)/\(kd c).length=2)\/(c.1=6/\(1<=c.2.1/\c.2.1<=10)/\(1<=(kd c).length/\(kd c).length<=10)):=by
 unfold GN at h;by_cases k1:c.1=1
 ·rw [if_pos k1] at h;simp only [zL] at h;exact .inl ⟨k1,h.2.2.2.2.1⟩
 rw [if_neg k1] at h;by_cases k2:c.1=2
 ·exact .inr (.inl k2)
 rw [if_neg k2] at h;by_cases k3:c.1=3
 ·exact .inr (.inr (.inl k3))
 rw [if_neg k3] at h;by_cases k4:c.1=4
 ·rw [if_pos k4] at h;simp only [zL,aC] at h;exact .inr (.inr (.inr (.inl ⟨k4,h.2.2.2.2⟩)))
 rw [if_neg k4] at h;by_cases k5:c.1=5
 ·rw [if_pos k5] at h;simp only [zL,aC] at h;exact .inr (.inr (.inr (.inr (.inl ⟨k5,h.1,h.2.2.2.2⟩))))
 rw [if_neg k5] at h;by_cases k6:c.1=6
 ·rw [if_pos k6] at h;simp only [zL] at h;have ha:=h.1;unfold Ly at ha;refine .inr (.inr (.inr (.inr (.inr ⟨k6,?_⟩))));by_cases h5:c.2.1=5
  ·rw [if_pos h5] at ha;have:=of_decide_eq_true ha;omega
  ·rw [if_neg h5] at ha;by_cases h8:8<=c.2.1/\c.2.1<=10
   ·rw [if_pos h8] at ha;have:=of_decide_eq_true ha;omega
   ·rw [if_neg h8] at ha;by_cases h1:1<=c.2.1/\c.2.1<=7
    ·rw [if_pos h1] at ha;have:=of_decide_eq_true ha;omega
    ·rw [if_neg h1] at ha;cases ha
 ·rw [if_neg k6] at h;cases h
def szB:Nat->Nat
 |0=>37
 |f+1=>11*szB f
theorem mf:∀f:Fin 13,szB f.val<=120000000000000:=by decide
theorem ic {f:Nat} (h:f<=12):szB f<=120000000000000:=mf ⟨f,by omega⟩
theorem ii:∀f:Nat,37<=szB f
 |0=>zK _
 |f+1=>by have:=ii f;simp only [szB];omega
theorem R9 (x:List UInt8) (r:List (List UInt8)) (sep:List UInt8):Lib.joinTail sep (x::r)=sep++x++Lib.joinTail sep r:=by simp [Lib.joinTail]
theorem Tt:∀(xs:List BA) (b:Nat),(∀x∈xs,x.size<=b)->(Lib.joinTail [44] (xs.map (·.data.toList))).length<=xs.length*(b+1)
 | [],b,h=>by simp [Lib.joinTail]
 |x::r,b,h=>by
  have ih:=Tt r b λy hy=>h y (zamR _ hy)
  have hx:=h x (zamN ..);rw [HY] at hx;rw [zanE,R9,zamO,zamO,List.length_singleton,zamM,Nat.add_mul];omega
theorem Sz {xs:List BA} {b:Nat} (h:∀x∈xs,x.size<=b):(Q0 xs).size<=xs.length*(b+1):=by
 rw [HY];show (Lib.join (xs.map (·.data.toList)) [44]).length<=_;cases xs with
 |nil=>simp [Lib.join_nil]
 |cons x r=>
  have h1:=Tt r b λy hy=>h y (zamR _ hy)
  have hx:=h x (zamN ..);rw [HY] at hx;rw [zanE,Lib.join_cons,zamO,zamM,Nat.add_mul];omega
structure Fine (l:List Nd):Prop where
 len:l.length<=60
 own:∀i:Int,0<=i->i<l.length->L6 l i=true/\My (E7 l) (GL l) (qj l) i
 sz:∀c∈l,(kd c).length<=140737488351232/\c.2.2.2.2.1.size<=140737488351232
theorem Fine.kid {l:List Nd} (h:Fine l) {f:Nat} {i k:Int} (hi:0<=i/\i<l.length) (hd:Es (qj l) (i.toNat+1) i<=(f+1:Nat)) (hk:k∈qj l i):(0<=k/\k<l.length)/\Es (qj l) (k.toNat+1) k<=f:=by
 have hin:=(h.own i hi.1 hi.2).2 k hk;have h1:=(Xb (qj l) (n:=i) (b:=((f+1:Nat):Int)) (f:=i.toNat) (by omega)).1 hd k hk;refine ⟨by omega,?_⟩;rw [Xc (E7 l) (GL l) (qj l) (k.toNat+1) i.toNat k (by omega) (by omega) (λj j0 j1=>(h.own j j0 (by omega)).2) (by omega)];omega
theorem VE {l:List Nd} (h:Fine l):∀(f:Nat) (i t:Int),f<=12->(0<=i/\i<l.length)->Es (qj l) (i.toNat+1) i<=f->(DK l f i t).size<=szB f
 |0,i,t,hf,hi,hd=>by show (⟨#[]⟩:BA).size<=_;exact Nat.zero_le _
 |f+1,i,t,hf,hi,hd=>by
  have ih:=λk hk t'=>VE h f k t' (by omega) (h.kid hi hd hk).1 (h.kid hi hd hk).2
  have hs:=ii f;have hp:∀a b c d,(EF a b c d).size<=30:=Jn;have hz:=(h.sz _ (PD hi)).2;have d1:(⟨#[58]⟩:BA).size=1:=rfl;have d2:(⟨#[45]⟩:BA).size=1:=rfl;have d3:(⟨#[40]⟩:BA).size=1:=rfl;have d4:(⟨#[41]⟩:BA).size=1:=rfl;have hk0:∀j,j<(kd (ndi l i)).length->kid (ndi l i) j∈qj l i:=λj hj=>by
   unfold kid;rw [List.getD_eq_getElem?_getD,zW hj];exact List.getElem_mem hj
  rw [szB,DK];rcases LC (h.own i hi.1 hi.2).1 with ⟨k,hv⟩|k|k|⟨k,hk⟩|⟨k,ho,hk⟩|⟨k,ho,hk⟩
  ·rw [if_pos k];by_cases k2:(ndi l i).2.2.1=2
   ·rw [if_pos k2];rw [k2] at hv;have:=(Tg hv).2.1;have:=ac (ndi l i).2.2.2.2.1;omega
   ·rw [if_neg k2];have:=y8 hv;omega
  ·rw [if_neg (by omega),if_pos k];have:=hp (ndi l i).2.2.2.2.2.1 (ndi l i).2.2.2.2.2.2.1 (ndi l i).2.2.2.2.2.2.2.1 (ndi l i).2.2.2.2.2.2.2.2.1;omega
  ·rw [if_neg (by omega),if_neg (by omega),if_pos k,zu,zu];have h1:=hp (ndi l i).2.2.2.2.2.1 (ndi l i).2.2.2.2.2.2.1 (ndi l i).2.2.2.2.2.2.2.1 (ndi l i).2.2.2.2.2.2.2.2.1;have h2:=hp (ndi l i).2.2.2.2.2.2.2.2.2.1 (ndi l i).2.2.2.2.2.2.2.2.2.2.1 (ndi l i).2.2.2.2.2.2.2.2.2.2.2.1 (ndi l i).2.2.2.2.2.2.2.2.2.2.2.2.1;omega
  ·rw [if_neg (by omega),if_neg (by omega),if_neg (by omega),if_pos k,zu];have:=ih _ (hk0 0 (by omega)) 5;omega
  ·rw [if_neg (by omega),if_neg (by omega),if_neg (by omega),if_neg (by omega),if_pos k];have h1:=ih _ (hk0 0 (by omega)) (lvl (ndi l i).2.1);have h2:=ih _ (hk0 1 (by omega)) (lvl (ndi l i).2.1+1);have h3:=PE ho;unfold par;split
   ·rw [zu,zu,zu,zu];omega
   ·rw [zu,zu];omega
  ·rw [if_neg (by omega),if_neg (by omega),if_neg (by omega),if_neg (by omega),if_neg (by omega)];rw [zu,zu,zu];have h1:=Xe ho;have h2:=Sz (xs:=(qj l i).map λk=>DK l f k 1) (b:=szB f) (λx hx=>by
    obtain ⟨k,hk,rfl⟩:=List.mem_map.1 hx;exact ih k hk 1)
   have h3:(qj l i).length<=10:=hk.2;have h4:(qj l i).length*(szB f+1)<=10*(szB f+1):=cY _ h3;rw [zamV] at h2;omega
abbrev R14:=Int×Int×Int×Int×BA×Int×Int×Bool×Bool×Int×Int×Bool×Bool×List (List PV)
theorem Xf (rec:List (List PV)->Int->Int->Option BA) (n:Nat) (rows:List (List PV)) (A t:BA) (R:R14) (i:Nat) (k:Int) (hg:R.2.2.2.2.2.2.2.2.2.2.2.2.2[i]?=some (Eo k)) (hr:rec rows k 0=some t) (hA:A.size<=2000000000000000) (ht:t.size<=120000000000000) (hi:i<=1000):
  (Fb rec n (rows,A,(i:Int),R)).run=some (.inl (rows,(if i=0 then A++t else (A++(⟨#[44]⟩:BA))++t),((i+1:Nat):Int),R)):=by
 obtain ⟨a0,a1,a2,a3,a4,a5,a6,a7,a8,a9,a10,a11,a12,a13⟩:=R;have hl:i<a13.length:=(zamJ.1 hg).1;have h1:(i:Int)<(a13.length:Int):=by omega
 have h2:0<=(i:Int)/\(i:Int)<(a13.length:Int):=by omega
 have w1:IntKind.i64.wrap ((i:Int)+1)=((i+1:Nat):Int):=by rw [ql (by omega)];omega
 have d1:(⟨#[44]⟩:BA).size=1:=rfl;have z1:A.size+(⟨#[44]⟩:BA).size<=9223372036854775807:=by omega
 have z2:(A++(⟨#[44]⟩:BA)).size+t.size<=9223372036854775807:=by rw [zu];omega
 have z3:A.size+t.size<=9223372036854775807:=by omega
 by_cases h0:i=0
 ·subst h0;simp only [Fb,qk,zD h1,Int.natCast_zero,gt_iff_lt,Int.lt_irrefl,decide_false,cZ,if_false,if_true] at*
  simp only [zD h1,zD h2,if_true,Int.toNat_zero,hg,aA,FF,Ee,decide_true,hr,zD z3,w1]
 ·have hp:(i:Int)>0:=by omega
  simp only [Fb,qk,zD h1,zD hp,if_true,zD z1,zD h2,bO,hg,FF,Ee,decide_true,hr,zD z2,w1,h0,if_false]
theorem Yn (l:List Nd) (f n:Nat) (R:R14) (b:Nat) (hb:b<=120000000000000) (ks:List Int) (hks:R.2.2.2.2.2.2.2.2.2.2.2.2.2=ks.map Eo) (hk10:ks.length<=10)
  (hr:∀k∈ks,DL n (l.map qo) k 0=some (DK l f k 1)/\(DK l f k 1).size<=b):
  ∀(r pre:List Int) (A:BA) (M:Nat),ks=pre++r->r.length+1<=M->A.size<=100+pre.length*(b+1)->
   zE (Fb (DL n) n) M (l.map qo,A,(pre.length:Int),R)=some ⟨(A.data.toList++(if pre.length=0 then Lib.join (r.map λk=>(DK l f k 1).data.toList) [44] else Lib.joinTail [44] (r.map λk=>(DK l f k 1).data.toList))).toArray⟩
 |r,pre,A,0,h1,h2,h3=>by omega
 | [],pre,A,M+1,h1,h2,h3=>by
  obtain ⟨a0,a1,a2,a3,a4,a5,a6,a7,a8,a9,a10,a11,a12,a13⟩:=R;simp only at hks;subst hks;have hi:¬(pre.length:Int)<((ks.map Eo).length:Int):=by rw [zamV,h1];simp
  rw [qd (r:=A) (by simp only [Fb,qk,zd hi,cZ,if_false])]
  congr 1
  apply NR;simp [Lib.joinTail,Lib.join_nil]
 |k::r,pre,A,M+1,h1,h2,h3=>by
  have hm:k∈ks:=by rw [h1];simp
  obtain ⟨g1,g2⟩:=hr k hm;have hpl:pre.length+(r.length+1)=ks.length:=by rw [h1];simp
  have hmul:pre.length*(b+1)<=10*(b+1):=cY _ (by omega);have hg:R.2.2.2.2.2.2.2.2.2.2.2.2.2[pre.length]?=some (Eo k):=by rw [hks,h1,zamS];simp
  rw [qm (Xf (DL n) n (l.map qo) A (DK l f k 1) R pre.length k hg g1 (by omega) (by omega) (by omega))];have h:=Yn l f n R b hb ks hks hk10 hr r (pre++ [k]) (if pre.length=0 then A++DK l f k 1 else (A++(⟨#[44]⟩:BA))++DK l f k 1) M (by rw [h1];simp) (by simp at h2;omega) (by
   have d1:(⟨#[44]⟩:BA).size=1:=rfl;rw [zamO,List.length_singleton,Nat.add_mul];split
   ·rw [zu];omega
   ·rw [zu,zu];omega)
  rw [show ((pre++ [k]).length:Int)=((pre.length+1:Nat):Int) by simp] at h;rw [h]
  congr 1
  apply NR;have e:(pre++ [k]).length≠0:=by simp
  simp only [if_neg e];by_cases h0:pre.length=0
  ·simp only [if_pos h0,H5,zanE,Lib.join_cons,List.append_assoc]
  ·simp only [if_neg h0,H5,zanE,R9,List.append_assoc,List.cons_append,List.nil_append]
set_option maxHeartbeats 4000000 in
theorem Rr {l:List Nd} (h:Fine l) (f:Nat) (i t:Int) (hf:f+1<=12) (hx:0<=i/\i<l.length) (hd:Es (qj l) (i.toNat+1) i<=(f+1:Nat)) (ih:∀k∈qj l i,∀t',Ev (DL · (l.map qo) k t') (DK l f k t')):Ev (DL · (l.map qo) i t) (DK l (f+1) i t):=by
  have ih:=λk hk t'=>ih k hk t'
  have isz:=λk hk t'=>VE h f k t' (by omega) (h.kid hx hd hk).1 (h.kid hx hd hk).2
  have hs:=ic (f:=f) (by omega);have hcr:(l.map qo)[i.toNat]?=some (qo (ndi l i)):=by rw [zamS,HN hx];rfl
  have hxb:0<=i/\i<((l.map qo).length:Int):=by rw [zamV];exact hx
  have hz:=(h.sz _ (PD hx)).2;have hp:∀a b c d,(EF a b c d).size<=30:=Jn;have d1:(⟨#[58]⟩:BA).size=1:=rfl;have d2:(⟨#[45]⟩:BA).size=1:=rfl;have d3:(⟨#[40]⟩:BA).size=1:=rfl;have d4:(⟨#[41]⟩:BA).size=1:=rfl;have hk0:∀j,j<(kd (ndi l i)).length->kid (ndi l i) j∈qj l i/\(List.map Eo (ndi l i).2.2.2.2.2.2.2.2.2.2.2.2.2)[j]?=some (Eo (kid (ndi l i) j)):=λj hj=>by
   unfold kid;rw [List.getD_eq_getElem?_getD,zW hj];refine ⟨List.getElem_mem hj,?_⟩;rw [zamS];show ((kd (ndi l i))[j]?).map Eo=_;rw [zW hj];rfl
  have hkl:(List.map Eo (ndi l i).2.2.2.2.2.2.2.2.2.2.2.2.2).length=(kd (ndi l i)).length:=by rw [zamV];rfl
  rcases LC (h.own i hx.1 hx.2).1 with ⟨k,hv⟩|k|k|⟨k,hk⟩|⟨k,ho,hk⟩|⟨k,ho,hk⟩
  ·by_cases k2:(ndi l i).2.2.1=2
   ·have hv2:okV 2 (ndi l i).2.2.2.1 (ndi l i).2.2.2.2.1=true:=by rw [<-k2];exact hv
    obtain ⟨n1,g1⟩:=WZ (ndi l i).2.2.2.2.1 (by have:=(Tg hv2).2.1;omega);refine ⟨n1+1,λn hn=>?_⟩;obtain ⟨m,rfl,hm⟩:=up1 hn;have g1:=g1 m (by omega);dsimp only at g1⊢;show (F5 (DL m) m (l.map qo) i t).run=_;refine qb (zD hxb) (qa hcr (qb rfl (qa (EG _) (qa (EH _) (qa (EI _) (qa (EJ _) (qa (EK _) (qa (EL _) (qa (EM _) (qa (EN _) (qa (EO _) (qa (EP _) (qa (Db _) (qa (Dc _) (qa (Dd _) (qa (De _) ?_))))))))))))))));refine qb (by rw [k];rfl) (qb (by rw [k2];rfl) (qa g1 ?_));rw [qf,DK,if_pos k,if_pos k2]
   ·obtain ⟨n1,g1⟩:=IS (ndi l i).2.2.1 (ndi l i).2.2.2.1 (ndi l i).2.2.2.2.1 hz;have kb:((ndi l i).2.2.1==(2:Int))=false:=by simpa using k2
    refine ⟨n1+1,λn hn=>?_⟩;obtain ⟨m,rfl,hm⟩:=up1 hn;have g1:=g1 m (by omega);rw [hv] at g1;dsimp only at g1⊢;simp only [if_true] at g1;show (F5 (DL m) m (l.map qo) i t).run=_;refine qb (zD hxb) (qa hcr (qb rfl (qa (EG _) (qa (EH _) (qa (EI _) (qa (EJ _) (qa (EK _) (qa (EL _) (qa (EM _) (qa (EN _) (qa (EO _) (qa (EP _) (qa (Db _) (qa (Dc _) (qa (Dd _) (qa (De _) ?_))))))))))))))));refine qb (by rw [k];rfl) (qc kb (qa g1 ?_));rw [qf,DK,if_pos k,if_neg k2]
  ·obtain ⟨n1,g1⟩:=GM (ndi l i).2.2.2.2.2.1 (ndi l i).2.2.2.2.2.2.1 (ndi l i).2.2.2.2.2.2.2.1 (ndi l i).2.2.2.2.2.2.2.2.1;refine ⟨n1+1,λn hn=>?_⟩;obtain ⟨m,rfl,hm⟩:=up1 hn;have g1:=g1 m (by omega);dsimp only at g1⊢;show (F5 (DL m) m (l.map qo) i t).run=_;refine qb (zD hxb) (qa hcr (qb rfl (qa (EG _) (qa (EH _) (qa (EI _) (qa (EJ _) (qa (EK _) (qa (EL _) (qa (EM _) (qa (EN _) (qa (EO _) (qa (EP _) (qa (Db _) (qa (Dc _) (qa (Dd _) (qa (De _) ?_))))))))))))))));refine qc (by rw [k];rfl) (qb (by rw [k];rfl) (qa g1 ?_));rw [qf,DK,if_neg (by omega),if_pos k]
  ·obtain ⟨n1,g1⟩:=GM (ndi l i).2.2.2.2.2.1 (ndi l i).2.2.2.2.2.2.1 (ndi l i).2.2.2.2.2.2.2.1 (ndi l i).2.2.2.2.2.2.2.2.1;obtain ⟨n2,g2⟩:=GM (ndi l i).2.2.2.2.2.2.2.2.2.1 (ndi l i).2.2.2.2.2.2.2.2.2.2.1 (ndi l i).2.2.2.2.2.2.2.2.2.2.2.1 (ndi l i).2.2.2.2.2.2.2.2.2.2.2.2.1;have h1:=hp (ndi l i).2.2.2.2.2.1 (ndi l i).2.2.2.2.2.2.1 (ndi l i).2.2.2.2.2.2.2.1 (ndi l i).2.2.2.2.2.2.2.2.1;have h2:=hp (ndi l i).2.2.2.2.2.2.2.2.2.1 (ndi l i).2.2.2.2.2.2.2.2.2.2.1 (ndi l i).2.2.2.2.2.2.2.2.2.2.2.1 (ndi l i).2.2.2.2.2.2.2.2.2.2.2.2.1;have z1:(EF (ndi l i).2.2.2.2.2.1 (ndi l i).2.2.2.2.2.2.1 (ndi l i).2.2.2.2.2.2.2.1 (ndi l i).2.2.2.2.2.2.2.2.1).size+(⟨#[58]⟩:BA).size<=9223372036854775807:=by omega
   have z2:(EF (ndi l i).2.2.2.2.2.1 (ndi l i).2.2.2.2.2.2.1 (ndi l i).2.2.2.2.2.2.2.1 (ndi l i).2.2.2.2.2.2.2.2.1++(⟨#[58]⟩:BA)).size+(EF (ndi l i).2.2.2.2.2.2.2.2.2.1 (ndi l i).2.2.2.2.2.2.2.2.2.2.1 (ndi l i).2.2.2.2.2.2.2.2.2.2.2.1 (ndi l i).2.2.2.2.2.2.2.2.2.2.2.2.1).size<=9223372036854775807:=by rw [zu];omega
   refine ⟨n1+n2+1,λn hn=>?_⟩;obtain ⟨m,rfl,hm⟩:=up1 hn;have g1:=g1 m (by omega);have g2:=g2 m (by omega);dsimp only at g1 g2⊢;show (F5 (DL m) m (l.map qo) i t).run=_;refine qb (zD hxb) (qa hcr (qb rfl (qa (EG _) (qa (EH _) (qa (EI _) (qa (EJ _) (qa (EK _) (qa (EL _) (qa (EM _) (qa (EN _) (qa (EO _) (qa (EP _) (qa (Db _) (qa (Dc _) (qa (Dd _) (qa (De _) ?_))))))))))))))));refine qc (by rw [k];rfl) (qc (by rw [k];rfl) (qb (by rw [k];rfl) (qa g1 (qb (zD z1) (qa g2 (qb (zD z2) ?_))))));rw [qf,DK,if_neg (by omega),if_neg (by omega),if_pos k]
  ·obtain ⟨m0,c0⟩:=hk0 0 (by omega);obtain ⟨n1,g1⟩:=ih _ m0 5;have h1:=isz _ m0 5;have z1:(⟨#[45]⟩:BA).size+(DK l f (kid (ndi l i) 0) 5).size<=9223372036854775807:=by omega
   have y1:(0:Int)<=(0:Int)/\(0:Int)<((List.map Eo (ndi l i).2.2.2.2.2.2.2.2.2.2.2.2.2).length:Int):=by rw [hkl];omega
   refine ⟨n1+1,λn hn=>?_⟩;obtain ⟨m,rfl,hm⟩:=up1 hn;have g1:=g1 m (by omega);dsimp only at g1⊢;have e0:((0:Int)).toNat=0:=rfl;show (F5 (DL m) m (l.map qo) i t).run=_;refine qb (zD hxb) (qa hcr (qb rfl (qa (EG _) (qa (EH _) (qa (EI _) (qa (EJ _) (qa (EK _) (qa (EL _) (qa (EM _) (qa (EN _) (qa (EO _) (qa (EP _) (qa (Db _) (qa (Dc _) (qa (Dd _) (qa (De _) ?_))))))))))))))));refine qc (by rw [k];rfl) (qc (by rw [k];rfl) (qc (by rw [k];rfl) (qb (by rw [k];rfl) (qb (zD y1) (qa c0 (qb rfl (qa (Ee _) (qa g1 (qb (zD z1) ?_)))))))));rw [qf,DK,if_neg (by omega),if_neg (by omega),if_neg (by omega),if_pos k]
  ·obtain ⟨m0,c0⟩:=hk0 0 (by omega);obtain ⟨m1,c1⟩:=hk0 1 (by omega);have hlv:=ae (ndi l i).2.1;obtain ⟨n1,g1⟩:=ih _ m0 (lvl (ndi l i).2.1);obtain ⟨n2,g2⟩:=ih _ m1 (lvl (ndi l i).2.1+1);obtain ⟨n3,g3⟩:=Pt (ndi l i).2.1;obtain ⟨n4,g4⟩:=Mz (ndi l i).2.1 ho;have h1:=isz _ m0 (lvl (ndi l i).2.1);have h2:=isz _ m1 (lvl (ndi l i).2.1+1);have h3:=PE ho;have hw:IntKind.i64.wrap (lvl (ndi l i).2.1+1)=lvl (ndi l i).2.1+1:=ql (by omega);have y1:(0:Int)<=(0:Int)/\(0:Int)<((List.map Eo (ndi l i).2.2.2.2.2.2.2.2.2.2.2.2.2).length:Int):=by rw [hkl];omega
   have y2:(0:Int)<=(1:Int)/\(1:Int)<((List.map Eo (ndi l i).2.2.2.2.2.2.2.2.2.2.2.2.2).length:Int):=by rw [hkl];omega
   refine ⟨n1+n2+n3+n4+1,λn hn=>?_⟩;obtain ⟨m,rfl,hm⟩:=up1 hn;have g1:=g1 m (by omega);have g2:=g2 m (by omega);have g3:=g3 m (by omega);have g4:=g4 m (by omega);dsimp only at g1 g2 g3 g4⊢;have e0:((0:Int)).toNat=0:=rfl;have e1:((1:Int)).toNat=1:=rfl;show (F5 (DL m) m (l.map qo) i t).run=_;refine qb (zD hxb) (qa hcr (qb rfl (qa (EG _) (qa (EH _) (qa (EI _) (qa (EJ _) (qa (EK _) (qa (EL _) (qa (EM _) (qa (EN _) (qa (EO _) (qa (EP _) (qa (Db _) (qa (Dc _) (qa (Dd _) (qa (De _) ?_))))))))))))))));have z1:(DK l f (kid (ndi l i) 0) (lvl (ndi l i).2.1)).size+(DJ (ndi l i).2.1).size<=9223372036854775807:=by omega
   have z2:(DK l f (kid (ndi l i) 0) (lvl (ndi l i).2.1)++DJ (ndi l i).2.1).size+(DK l f (kid (ndi l i) 1) (lvl (ndi l i).2.1+1)).size<=9223372036854775807:=by rw [zu];omega
   have z3:(⟨#[40]⟩:BA).size+((DK l f (kid (ndi l i) 0) (lvl (ndi l i).2.1)++DJ (ndi l i).2.1)++DK l f (kid (ndi l i) 1) (lvl (ndi l i).2.1+1)).size<=9223372036854775807:=by rw [zu,zu];omega
   have z4:((⟨#[40]⟩:BA)++((DK l f (kid (ndi l i) 0) (lvl (ndi l i).2.1)++DJ (ndi l i).2.1)++DK l f (kid (ndi l i) 1) (lvl (ndi l i).2.1+1))).size+(⟨#[41]⟩:BA).size<=9223372036854775807:=by rw [zu,zu,zu];omega
   have g2:DL m (l.map qo) (kid (ndi l i) 1) (IntKind.i64.wrap (lvl (ndi l i).2.1+1))=some (DK l f (kid (ndi l i) 1) (lvl (ndi l i).2.1+1)):=by rw [hw];exact g2
   refine qc (by rw [k];rfl) (qc (by rw [k];rfl) (qc (by rw [k];rfl) (qc (by rw [k];rfl) (qb (by rw [k];rfl) (qa g3 (qb (zD y1) (qa c0 (qb rfl (qa (Ee _) (qb (zD y2) (qa c1 (qb rfl (qa (Ee _) (qa g1 (qa g4 (qb (zD z1) (qa g2 (qb (zD z2) ?_))))))))))))))))));rw [DK,if_neg (by omega),if_neg (by omega),if_neg (by omega),if_neg (by omega),if_pos k];unfold par;by_cases ht:lvl (ndi l i).2.1<t
   ·refine qb (zD ht) (qb (zD z3) (qb (zD z4) ?_));rw [qf,if_pos (zD ht)]
   ·refine qc (zd ht) ?_;rw [qf,if_neg (by simpa using ht)]
  ·obtain ⟨n0,g0⟩:=Eu (F:=λk n=>DL n (l.map qo) k 0) (f:=λk=>DK l f k 1) (qj l i) (λk hk=>by
    have:=ih k hk 0;rw [cf] at this;exact this)
   obtain ⟨n1,g1⟩:=Ts (ndi l i).2.1 ho;have h1:=Xe ho;refine ⟨n0+n1+20,λn hn=>?_⟩;obtain ⟨m,rfl,hm⟩:=up1 hn;have g0:=g0 m (by omega);have g1:=g1 m (by omega);have hj:=Yn l f m ((ndi l i).1,(ndi l i).2.1,(ndi l i).2.2.1,(ndi l i).2.2.2.1,(ndi l i).2.2.2.2.1,(ndi l i).2.2.2.2.2.1,(ndi l i).2.2.2.2.2.2.1,(ndi l i).2.2.2.2.2.2.2.1,(ndi l i).2.2.2.2.2.2.2.2.1,(ndi l i).2.2.2.2.2.2.2.2.2.1,(ndi l i).2.2.2.2.2.2.2.2.2.2.1,(ndi l i).2.2.2.2.2.2.2.2.2.2.2.1,(ndi l i).2.2.2.2.2.2.2.2.2.2.2.2.1,(kd (ndi l i)).map Eo) (szB f) hs (kd (ndi l i)) rfl hk.2 (λk hk=>⟨g0 k hk,isz k hk 1⟩) (kd (ndi l i)) [] (fnS (ndi l i).2.1++(⟨#[40]⟩:BA)) m rfl (by omega) (by rw [zu];omega);simp only [zanD,Int.natCast_zero,if_true] at hj;have hjs:=Sz (xs:=(qj l i).map λk=>DK l f k 1) (b:=szB f) (λx hx=>by
    obtain ⟨k,hk,rfl⟩:=List.mem_map.1 hx;exact isz k hk 1)
   have h3:(qj l i).length<=10:=hk.2;have h4:(qj l i).length*(szB f+1)<=10*(szB f+1):=cY _ h3;rw [zamV] at hjs;have ej:(⟨((fnS (ndi l i).2.1++(⟨#[40]⟩:BA)).data.toList++Lib.join ((kd (ndi l i)).map λk=>(DK l f k 1).data.toList) [44]).toArray⟩:BA)=(fnS (ndi l i).2.1++(⟨#[40]⟩:BA))++Q0 ((qj l i).map λk=>DK l f k 1):=by
    apply NR;rw [H5];simp [Q0,qj,Function.comp_def]
   rw [ej] at hj;obtain ⟨J,hJ⟩:∃J,Q0 ((qj l i).map λk=>DK l f k 1)=J:=⟨_,rfl⟩;rw [hJ] at hj hjs;have z1:(fnS (ndi l i).2.1).size+(⟨#[40]⟩:BA).size<=9223372036854775807:=by omega
   have z2:((fnS (ndi l i).2.1++(⟨#[40]⟩:BA))++J).size+(⟨#[41]⟩:BA).size<=9223372036854775807:=by rw [zu,zu];omega
   unfold kd at hj;dsimp only at g1⊢;show (F5 (DL m) m (l.map qo) i t).run=_;refine qb (zD hxb) (qa hcr (qb rfl (qa (EG _) (qa (EH _) (qa (EI _) (qa (EJ _) (qa (EK _) (qa (EL _) (qa (EM _) (qa (EN _) (qa (EO _) (qa (EP _) (qa (Db _) (qa (Dc _) (qa (Dd _) (qa (De _) ?_))))))))))))))));refine qc (by rw [k];rfl) (qc (by rw [k];rfl) (qc (by rw [k];rfl) (qc (by rw [k];rfl) (qc (by rw [k];rfl) (qa g1 (qb (zD z1) (qa hj (qb (zD z2) ?_))))))));rw [qf,DK,if_neg (by omega),if_neg (by omega),if_neg (by omega),if_neg (by omega),if_neg (by omega),hJ]
theorem Q1 {l:List Nd} (h:Fine l):∀(f:Nat) (i t:Int),f<=12->(0<=i/\i<l.length)->Es (qj l) (i.toNat+1) i<=f->Ev (DL · (l.map qo) i t) (DK l f i t)
 |0,i,t,hf,hx,hd=>by
  have:=OU (qj l) (i.toNat+1) i hx.1 (by omega);omega
 |f+1,i,t,hf,hx,hd=>Rr h f i t hf hx hd λk hk t'=>Q1 h f k t' (by omega) (h.kid hx hd hk).1 (h.kid hx hd hk).2
theorem dx:∀f:Fin 12,szB f.val<=12000000000000:=by decide
theorem ij {f:Nat} (h:f<=11):szB f<=12000000000000:=dx ⟨f,by omega⟩
theorem f6:∀xs:List BA,eT (xs.map λx=> [PV.s x])=some xs
 | []=>rfl
 |x::r=>by simp only [zanE,eT,f6 r,zamW]
theorem Yo (rec:List (List PV)->Int->Int->Option BA) (n:Nat) (rows:List (List PV)) (T:Int->BA) (a0 a1 a2 a3:Int) (a4:BA) (a5 a6:Int) (a7 a8:Bool) (a9 a10:Int) (a11 a12:Bool) (a13:List (List PV)) (ks:List Int) (hk10:ks.length<=10)
  (hr:∀k∈ks,rec rows k 1=some (T k)):
  ∀(r pre:List Int) (M:Nat),ks=pre++r->r.length+1<=M->
   zE (Ff rec n) M (rows,pre.length,ks.map Eo,((ks.map Eo).length:Int),(pre.length:Int),a0,a1,a2,a3,a4,a5,a6,a7,a8,a9,a10,a11,a12,a13,pre.map λk=> [PV.s (T k)])=some (ks.length,a0,a1,a2,a3,a4,a5,a6,a7,a8,a9,a10,a11,a12,a13,ks.map λk=> [PV.s (T k)])
 |r,pre,0,h1,h2=>by omega
 | [],pre,M+1,h1,h2=>by
  have hi:¬(pre.length:Int)<((ks.map Eo).length:Int):=by rw [zamV,h1];simp
  have e:pre=ks:=by rw [h1];simp
  rw [qd (r:=(pre.length,a0,a1,a2,a3,a4,a5,a6,a7,a8,a9,a10,a11,a12,a13,pre.map λk=> [PV.s (T k)])) (by simp only [Ff,qk,zd hi,cZ,if_false])];rw [e]
 |k::r,pre,M+1,h1,h2=>by
  have hm:k∈ks:=by rw [h1];simp
  have g1:=hr k hm;have hpl:pre.length+(r.length+1)=ks.length:=by rw [h1];simp
  have hg:(ks.map Eo)[pre.length]?=some (Eo k):=by rw [h1,zamS];simp
  have hi:(pre.length:Int)<((ks.map Eo).length:Int):=by rw [zamV];omega
  have h3:0<=(pre.length:Int)/\(pre.length:Int)<((ks.map Eo).length:Int):=by omega
  have w1:IntKind.i64.wrap ((pre.length:Int)+1)=((pre.length+1:Nat):Int):=by rw [ql (by omega)];omega
  have hc:pre.length=(pre.map λk=> [PV.s (T k)]).length/\0<1/\0<16/\(pre.length+([[PV.s (T k)]]:List (List PV)).length)*16<=140737488355328/\([[PV.s (T k)]]:List (List PV)).all (λe=>e.length==1)=true:=by
   refine ⟨by simp,by decide,by decide,?_,rfl⟩;rw [List.length_singleton];omega
  have h1l:decide (1=([[PV.s (T k)]]:List (List PV)).length)=true:=rfl;rw [qm (v':=(rows,pre.length+1,ks.map Eo,((ks.map Eo).length:Int),((pre.length+1:Nat):Int),a0,a1,a2,a3,a4,a5,a6,a7,a8,a9,a10,a11,a12,a13,(pre.map λk=> [PV.s (T k)])++ [[PV.s (T k)]])) (by
   simp only [Ff,qk,zD hi,if_true,zD h3,bO,hg,FF,Ee,decide_true,g1,h1l,zD hc,w1])]
  have h:=Yo rec n rows T a0 a1 a2 a3 a4 a5 a6 a7 a8 a9 a10 a11 a12 a13 ks hk10 hr r (pre++ [k]) M (by rw [h1];simp) (by simp at h2;omega);simp only [List.map_append,zanE,List.map_nil,zamO,List.length_singleton] at h⊢;exact h
set_option maxHeartbeats 4000000 in
theorem Ny {l:List Nd} (h:Fine l) (f:Nat) (i t:Int) (hf:f+1<=12) (hx:0<=i/\i<l.length) (hd:Es (qj l) (i.toNat+1) i<=(f+1:Nat)) (ih:∀k∈qj l i,∀t',Ev (qu · (l.map qo) k t') (DK l f k t')):Ev (qu · (l.map qo) i t) (DK l (f+1) i t):=by
  have ih:=λk hk t'=>ih k hk t'
  have isz:=λk hk t'=>VE h f k t' (by omega) (h.kid hx hd hk).1 (h.kid hx hd hk).2
  have hs:=ic (f:=f) (by omega);have hcr:(l.map qo)[i.toNat]?=some (qo (ndi l i)):=by rw [zamS,HN hx];rfl
  have hxb:0<=i/\i<((l.map qo).length:Int):=by rw [zamV];exact hx
  have hz:=(h.sz _ (PD hx)).2;have hp:∀a b c d,(EF a b c d).size<=30:=Jn;have d1:(⟨#[58]⟩:BA).size=1:=rfl;have d2:(⟨#[45]⟩:BA).size=1:=rfl;have d3:(⟨#[40]⟩:BA).size=1:=rfl;have d4:(⟨#[41]⟩:BA).size=1:=rfl;have hk0:∀j,j<(kd (ndi l i)).length->kid (ndi l i) j∈qj l i/\(List.map Eo (ndi l i).2.2.2.2.2.2.2.2.2.2.2.2.2)[j]?=some (Eo (kid (ndi l i) j)):=λj hj=>by
   unfold kid;rw [List.getD_eq_getElem?_getD,zW hj];refine ⟨List.getElem_mem hj,?_⟩;rw [zamS];show ((kd (ndi l i))[j]?).map Eo=_;rw [zW hj];rfl
  have hkl:(List.map Eo (ndi l i).2.2.2.2.2.2.2.2.2.2.2.2.2).length=(kd (ndi l i)).length:=by rw [zamV];rfl
  rcases LC (h.own i hx.1 hx.2).1 with ⟨k,hv⟩|k|k|⟨k,hk⟩|⟨k,ho,hk⟩|⟨k,ho,hk⟩
  ·by_cases k2:(ndi l i).2.2.1=2
   ·have hv2:okV 2 (ndi l i).2.2.2.1 (ndi l i).2.2.2.2.1=true:=by rw [<-k2];exact hv
    have hq:=(Tg hv2).2.1;obtain ⟨n1,g1⟩:=YU (ndi l i).2.2.2.2.1 (by omega);have h1:=OV (ndi l i).2.2.2.2.1.toList;rw [Dz] at h1;have h2:(⟨(ES (ndi l i).2.2.2.2.1.toList).toArray⟩:BA).size=(ES (ndi l i).2.2.2.2.1.toList).length:=by rw [HY]
    have e:((⟨#[34]⟩:BA)++⟨(ES (ndi l i).2.2.2.2.1.toList).toArray⟩)++(⟨#[34]⟩:BA)=Ij (ndi l i).2.2.2.2.1:=by
     apply NR;rw [H5,H5];simp [Ij]
    have d5:(⟨#[34]⟩:BA).size=1:=rfl;refine ⟨n1+1,λn hn=>?_⟩;obtain ⟨m,rfl,hm⟩:=up1 hn;have g1:=g1 m (by omega);dsimp only at g1⊢;obtain ⟨q,hqe⟩:∃q,(⟨(ES (ndi l i).2.2.2.2.1.toList).toArray⟩:BA)=q:=⟨_,rfl⟩;rw [hqe] at g1 h2 e;have z1:(⟨#[34]⟩:BA).size+q.size<=9223372036854775807:=by omega
    have z2:((⟨#[34]⟩:BA)++q).size+(⟨#[34]⟩:BA).size<=9223372036854775807:=by rw [zu];omega
    show (Ec (qu m) m (l.map qo) i t).run=_;refine qb (zD hxb) (qa hcr (qb rfl (qa (EG _) (qa (EH _) (qa (EI _) (qa (EJ _) (qa (EK _) (qa (EL _) (qa (EM _) (qa (EN _) (qa (EO _) (qa (EP _) (qa (Db _) (qa (Dc _) (qa (Dd _) (qa (De _) ?_))))))))))))))));refine qb (by rw [k];rfl) (qb (by rw [k2];rfl) (qa g1 (qb (zD z1) (qb (zD z2) ?_))));rw [qf,DK,if_pos k,if_pos k2,e]
   ·obtain ⟨n1,g1⟩:=NS (ndi l i).2.2.1 (ndi l i).2.2.2.1 (ndi l i).2.2.2.2.1 hv;have kb:((ndi l i).2.2.1==(2:Int))=false:=by simpa using k2
    refine ⟨n1+1,λn hn=>?_⟩;obtain ⟨m,rfl,hm⟩:=up1 hn;have g1:=g1 m (by omega);dsimp only at g1⊢;show (Ec (qu m) m (l.map qo) i t).run=_;refine qb (zD hxb) (qa hcr (qb rfl (qa (EG _) (qa (EH _) (qa (EI _) (qa (EJ _) (qa (EK _) (qa (EL _) (qa (EM _) (qa (EN _) (qa (EO _) (qa (EP _) (qa (Db _) (qa (Dc _) (qa (Dd _) (qa (De _) ?_))))))))))))))));refine qb (by rw [k];rfl) (qc kb (qa g1 ?_));rw [qf,DK,if_pos k,if_neg k2]
  ·obtain ⟨n1,g1⟩:=IT (ndi l i).2.2.2.2.2.1 (ndi l i).2.2.2.2.2.2.1 (ndi l i).2.2.2.2.2.2.2.1 (ndi l i).2.2.2.2.2.2.2.2.1;refine ⟨n1+1,λn hn=>?_⟩;obtain ⟨m,rfl,hm⟩:=up1 hn;have g1:=g1 m (by omega);dsimp only at g1⊢;show (Ec (qu m) m (l.map qo) i t).run=_;refine qb (zD hxb) (qa hcr (qb rfl (qa (EG _) (qa (EH _) (qa (EI _) (qa (EJ _) (qa (EK _) (qa (EL _) (qa (EM _) (qa (EN _) (qa (EO _) (qa (EP _) (qa (Db _) (qa (Dc _) (qa (Dd _) (qa (De _) ?_))))))))))))))));refine qc (by rw [k];rfl) (qb (by rw [k];rfl) (qa g1 ?_));rw [qf,DK,if_neg (by omega),if_pos k]
  ·obtain ⟨n1,g1⟩:=IT (ndi l i).2.2.2.2.2.1 (ndi l i).2.2.2.2.2.2.1 (ndi l i).2.2.2.2.2.2.2.1 (ndi l i).2.2.2.2.2.2.2.2.1;obtain ⟨n2,g2⟩:=IT (ndi l i).2.2.2.2.2.2.2.2.2.1 (ndi l i).2.2.2.2.2.2.2.2.2.2.1 (ndi l i).2.2.2.2.2.2.2.2.2.2.2.1 (ndi l i).2.2.2.2.2.2.2.2.2.2.2.2.1;have h1:=hp (ndi l i).2.2.2.2.2.1 (ndi l i).2.2.2.2.2.2.1 (ndi l i).2.2.2.2.2.2.2.1 (ndi l i).2.2.2.2.2.2.2.2.1;have h2:=hp (ndi l i).2.2.2.2.2.2.2.2.2.1 (ndi l i).2.2.2.2.2.2.2.2.2.2.1 (ndi l i).2.2.2.2.2.2.2.2.2.2.2.1 (ndi l i).2.2.2.2.2.2.2.2.2.2.2.2.1;have z1:(EF (ndi l i).2.2.2.2.2.1 (ndi l i).2.2.2.2.2.2.1 (ndi l i).2.2.2.2.2.2.2.1 (ndi l i).2.2.2.2.2.2.2.2.1).size+(⟨#[58]⟩:BA).size<=9223372036854775807:=by omega
   have z2:(EF (ndi l i).2.2.2.2.2.1 (ndi l i).2.2.2.2.2.2.1 (ndi l i).2.2.2.2.2.2.2.1 (ndi l i).2.2.2.2.2.2.2.2.1++(⟨#[58]⟩:BA)).size+(EF (ndi l i).2.2.2.2.2.2.2.2.2.1 (ndi l i).2.2.2.2.2.2.2.2.2.2.1 (ndi l i).2.2.2.2.2.2.2.2.2.2.2.1 (ndi l i).2.2.2.2.2.2.2.2.2.2.2.2.1).size<=9223372036854775807:=by rw [zu];omega
   refine ⟨n1+n2+1,λn hn=>?_⟩;obtain ⟨m,rfl,hm⟩:=up1 hn;have g1:=g1 m (by omega);have g2:=g2 m (by omega);dsimp only at g1 g2⊢;show (Ec (qu m) m (l.map qo) i t).run=_;refine qb (zD hxb) (qa hcr (qb rfl (qa (EG _) (qa (EH _) (qa (EI _) (qa (EJ _) (qa (EK _) (qa (EL _) (qa (EM _) (qa (EN _) (qa (EO _) (qa (EP _) (qa (Db _) (qa (Dc _) (qa (Dd _) (qa (De _) ?_))))))))))))))));refine qc (by rw [k];rfl) (qc (by rw [k];rfl) (qb (by rw [k];rfl) (qa g1 (qb (zD z1) (qa g2 (qb (zD z2) ?_))))));rw [qf,DK,if_neg (by omega),if_neg (by omega),if_pos k]
  ·obtain ⟨m0,c0⟩:=hk0 0 (by omega);obtain ⟨n1,g1⟩:=ih _ m0 5;have h1:=isz _ m0 5;have z1:(⟨#[45]⟩:BA).size+(DK l f (kid (ndi l i) 0) 5).size<=9223372036854775807:=by omega
   have y1:(0:Int)<=(0:Int)/\(0:Int)<((List.map Eo (ndi l i).2.2.2.2.2.2.2.2.2.2.2.2.2).length:Int):=by rw [hkl];omega
   refine ⟨n1+1,λn hn=>?_⟩;obtain ⟨m,rfl,hm⟩:=up1 hn;have g1:=g1 m (by omega);dsimp only at g1⊢;have e0:((0:Int)).toNat=0:=rfl;show (Ec (qu m) m (l.map qo) i t).run=_;refine qb (zD hxb) (qa hcr (qb rfl (qa (EG _) (qa (EH _) (qa (EI _) (qa (EJ _) (qa (EK _) (qa (EL _) (qa (EM _) (qa (EN _) (qa (EO _) (qa (EP _) (qa (Db _) (qa (Dc _) (qa (Dd _) (qa (De _) ?_))))))))))))))));refine qc (by rw [k];rfl) (qc (by rw [k];rfl) (qc (by rw [k];rfl) (qb (by rw [k];rfl) (qb (zD y1) (qa c0 (qb rfl (qa (Ee _) (qa g1 (qb (zD z1) ?_)))))))));rw [qf,DK,if_neg (by omega),if_neg (by omega),if_neg (by omega),if_pos k]
  ·obtain ⟨m0,c0⟩:=hk0 0 (by omega);obtain ⟨m1,c1⟩:=hk0 1 (by omega);have hlv:=ae (ndi l i).2.1;obtain ⟨n1,g1⟩:=ih _ m0 (lvl (ndi l i).2.1);obtain ⟨n2,g2⟩:=ih _ m1 (lvl (ndi l i).2.1+1);obtain ⟨n3,g3⟩:=R8 (ndi l i).2.1 ho;obtain ⟨n4,g4⟩:=M0 (ndi l i).2.1 ho;have h1:=isz _ m0 (lvl (ndi l i).2.1);have h2:=isz _ m1 (lvl (ndi l i).2.1+1);have h3:=PE ho;have hw:IntKind.i64.wrap (lvl (ndi l i).2.1+1)=lvl (ndi l i).2.1+1:=ql (by omega);have y1:(0:Int)<=(0:Int)/\(0:Int)<((List.map Eo (ndi l i).2.2.2.2.2.2.2.2.2.2.2.2.2).length:Int):=by rw [hkl];omega
   have y2:(0:Int)<=(1:Int)/\(1:Int)<((List.map Eo (ndi l i).2.2.2.2.2.2.2.2.2.2.2.2.2).length:Int):=by rw [hkl];omega
   refine ⟨n1+n2+n3+n4+1,λn hn=>?_⟩;obtain ⟨m,rfl,hm⟩:=up1 hn;have g1:=g1 m (by omega);have g2:=g2 m (by omega);have g3:=g3 m (by omega);have g4:=g4 m (by omega);dsimp only at g1 g2 g3 g4⊢;have e0:((0:Int)).toNat=0:=rfl;have e1:((1:Int)).toNat=1:=rfl;show (Ec (qu m) m (l.map qo) i t).run=_;refine qb (zD hxb) (qa hcr (qb rfl (qa (EG _) (qa (EH _) (qa (EI _) (qa (EJ _) (qa (EK _) (qa (EL _) (qa (EM _) (qa (EN _) (qa (EO _) (qa (EP _) (qa (Db _) (qa (Dc _) (qa (Dd _) (qa (De _) ?_))))))))))))))));have z1:(DK l f (kid (ndi l i) 0) (lvl (ndi l i).2.1)).size+(DJ (ndi l i).2.1).size<=9223372036854775807:=by omega
   have z2:(DK l f (kid (ndi l i) 0) (lvl (ndi l i).2.1)++DJ (ndi l i).2.1).size+(DK l f (kid (ndi l i) 1) (lvl (ndi l i).2.1+1)).size<=9223372036854775807:=by rw [zu];omega
   have z3:(⟨#[40]⟩:BA).size+((DK l f (kid (ndi l i) 0) (lvl (ndi l i).2.1)++DJ (ndi l i).2.1)++DK l f (kid (ndi l i) 1) (lvl (ndi l i).2.1+1)).size<=9223372036854775807:=by rw [zu,zu];omega
   have z4:((⟨#[40]⟩:BA)++((DK l f (kid (ndi l i) 0) (lvl (ndi l i).2.1)++DJ (ndi l i).2.1)++DK l f (kid (ndi l i) 1) (lvl (ndi l i).2.1+1))).size+(⟨#[41]⟩:BA).size<=9223372036854775807:=by rw [zu,zu,zu];omega
   have g2:qu m (l.map qo) (kid (ndi l i) 1) (IntKind.i64.wrap (lvl (ndi l i).2.1+1))=some (DK l f (kid (ndi l i) 1) (lvl (ndi l i).2.1+1)):=by rw [hw];exact g2
   refine qc (by rw [k];rfl) (qc (by rw [k];rfl) (qc (by rw [k];rfl) (qc (by rw [k];rfl) (qb (by rw [k];rfl) (qa g3 (qb (zD y1) (qa c0 (qb rfl (qa (Ee _) (qb (zD y2) (qa c1 (qb rfl (qa (Ee _) (qa g1 (qa g4 (qb (zD z1) (qa g2 (qb (zD z2) ?_))))))))))))))))));rw [DK,if_neg (by omega),if_neg (by omega),if_neg (by omega),if_neg (by omega),if_pos k];unfold par;by_cases ht:lvl (ndi l i).2.1<t
   ·refine qb (zD ht) (qb (zD z3) (qb (zD z4) ?_));rw [qf,if_pos (zD ht)]
   ·refine qc (zd ht) ?_;rw [qf,if_neg (by simpa using ht)]
  ·obtain ⟨n0,g0⟩:=Eu (F:=λk n=>qu n (l.map qo) k 1) (f:=λk=>DK l f k 1) (qj l i) (λk hk=>ih k hk 1);obtain ⟨n1,g1⟩:=Qz (ndi l i).2.1 ho;have h1:=Xe ho;have hs11:=ij (f:=f) (by omega);have h3:(qj l i).length<=10:=hk.2;have hjs:=Sz (xs:=(qj l i).map λk=>DK l f k 1) (b:=szB f) (λx hx=>by
    obtain ⟨k,hk,rfl⟩:=List.mem_map.1 hx;exact isz k hk 1)
   have h4:(qj l i).length*(szB f+1)<=10*(szB f+1):=cY _ h3;rw [zamV] at hjs;have gj:∀n,1<=n->Mj n (((qj l i).map λk=>DK l f k 1).map λx=> [PV.s x]) ⟨#[44]⟩=some (Q0 ((qj l i).map λk=>DK l f k 1)):=λn hn=>by
    obtain ⟨m,rfl,_⟩:=up1 (n0:=0) hn;show cI _ _=_;unfold cI;rw [f6,aA,if_pos]
    ·rfl
    ·rw [HY] at hjs;refine ⟨by rw [zamV];omega,?_⟩;have:(Lib.join (((qj l i).map λk=>DK l f k 1).map (·.data.toList)) [44]).length<=(qj l i).length*(szB f+1):=hjs;show (Lib.join (((qj l i).map λk=>DK l f k 1).map (·.data.toList)) [44]).length<=_;omega
   refine ⟨n0+n1+20,λn hn=>?_⟩;obtain ⟨m,rfl,hm⟩:=up1 hn;have g0:=g0 m (by omega);have g1:=g1 m (by omega);have gj:=gj m (by omega);have hj:=Yo (qu m) m (l.map qo) (λk=>DK l f k 1) (ndi l i).1 (ndi l i).2.1 (ndi l i).2.2.1 (ndi l i).2.2.2.1 (ndi l i).2.2.2.2.1 (ndi l i).2.2.2.2.2.1 (ndi l i).2.2.2.2.2.2.1 (ndi l i).2.2.2.2.2.2.2.1 (ndi l i).2.2.2.2.2.2.2.2.1 (ndi l i).2.2.2.2.2.2.2.2.2.1 (ndi l i).2.2.2.2.2.2.2.2.2.2.1 (ndi l i).2.2.2.2.2.2.2.2.2.2.2.1 (ndi l i).2.2.2.2.2.2.2.2.2.2.2.2.1 ((kd (ndi l i)).map Eo) (kd (ndi l i)) hk.2 g0 (kd (ndi l i)) [] m rfl (by omega);simp only [zanD,Int.natCast_zero,List.map_nil,zamV] at hj;obtain ⟨J,hJ⟩:∃J,Q0 ((qj l i).map λk=>DK l f k 1)=J:=⟨_,rfl⟩;rw [hJ] at gj hjs;have z1:(fnS (ndi l i).2.1).size+(⟨#[40]⟩:BA).size<=9223372036854775807:=by omega
   have z2:(fnS (ndi l i).2.1++(⟨#[40]⟩:BA)).size+J.size<=9223372036854775807:=by rw [zu];omega
   have z3:((fnS (ndi l i).2.1++(⟨#[40]⟩:BA))++J).size+(⟨#[41]⟩:BA).size<=9223372036854775807:=by rw [zu,zu];omega
   unfold qj at gj;unfold kd at hj gj;dsimp only at g1⊢;rw [List.map_map] at gj;have hkl':(((ndi l i).2.2.2.2.2.2.2.2.2.2.2.2.2.map Eo).length:Int)=((ndi l i).2.2.2.2.2.2.2.2.2.2.2.2.2.length:Int):=by rw [zamV]
   have hll:decide ((ndi l i).2.2.2.2.2.2.2.2.2.2.2.2.2.length=(List.map ((λx=> [PV.s x])∘λk=>DK l f k 1) (ndi l i).2.2.2.2.2.2.2.2.2.2.2.2.2).length)=true:=by simp
   have hmm:(List.map (λk=> [PV.s (DK l f k 1)]) (ndi l i).2.2.2.2.2.2.2.2.2.2.2.2.2)=List.map ((λx=> [PV.s x])∘λk=>DK l f k 1) (ndi l i).2.2.2.2.2.2.2.2.2.2.2.2.2:=rfl;rw [hmm] at hj;rw [<-hkl'] at hj;show (Ec (qu m) m (l.map qo) i t).run=_;refine qb (zD hxb) (qa hcr (qb rfl (qa (EG _) (qa (EH _) (qa (EI _) (qa (EJ _) (qa (EK _) (qa (EL _) (qa (EM _) (qa (EN _) (qa (EO _) (qa (EP _) (qa (Db _) (qa (Dc _) (qa (Dd _) (qa (De _) ?_))))))))))))))));refine qc (by rw [k];rfl) (qc (by rw [k];rfl) (qc (by rw [k];rfl) (qc (by rw [k];rfl) (qc (by rw [k];rfl) (qa hj (qa g1 (qb (zD z1) (qb hll (qa gj (qb rfl (qb (zD z2) (qb (zD z3) ?_))))))))))));rw [qf,DK,if_neg (by omega),if_neg (by omega),if_neg (by omega),if_neg (by omega),if_neg (by omega),hJ]
theorem Lz {l:List Nd} (h:Fine l):∀(f:Nat) (i t:Int),f<=12->(0<=i/\i<l.length)->Es (qj l) (i.toNat+1) i<=f->Ev (qu · (l.map qo) i t) (DK l f i t)
 |0,i,t,hf,hx,hd=>by
  have:=OU (qj l) (i.toNat+1) i hx.1 (by omega);omega
 |f+1,i,t,hf,hx,hd=>Ny h f i t hf hx hd λk hk t'=>Lz h f k t' (by omega) (h.kid hx hd hk).1 (h.kid hx hd hk).2
def FS (l:List Nd):BA:=if Ii l=true then (if ((DK l 12 ((l.length:Int)-1) 1).size:Int)>200 then ⟨#[]⟩ else DK l 12 ((l.length:Int)-1) 1) else ⟨#[]⟩
theorem Za {l:List Nd} (h:Ii l=true) (hk:∀c∈l,(kd c).length<=140737488351232/\c.2.2.2.2.1.size<=140737488351232):Fine l/\(0<=(l.length:Int)-1/\(l.length:Int)-1<l.length)/\Es (qj l) (((l.length:Int)-1).toNat+1) ((l.length:Int)-1)<=(12:Nat):=by
 unfold Ii at h;simp only [zL,aC] at h;obtain ⟨h1,h2,h3,h4,h5⟩:=h;have e:((l.length:Int)-1).toNat+1=l.length:=by omega
 rw [e];exact ⟨⟨h1.2,LB.1 h2,hk⟩,by omega,h5⟩
theorem Rs (l:List Nd) (hl:l.length<=140737488351232) (hk:∀c∈l,(kd c).length<=140737488351232/\c.2.2.2.2.1.size<=140737488351232):Ev (Fq · (l.map qo)) (FS l):=by
 obtain ⟨n1,g1⟩:=KJ l hk;unfold FS;cases hf:Ii l with
 |false=>
  rw [hf] at g1;refine ⟨n1+1,λn hn=>?_⟩;obtain ⟨m,rfl,hm⟩:=up1 hn;have g1:=g1 m (by omega);dsimp only at g1⊢;simp [Fq,Ht,qk,g1]
 |true=>
  rw [hf] at g1;obtain ⟨q1,q2,q3⟩:=Za hf hk;obtain ⟨n2,g2⟩:=Q1 q1 12 ((l.length:Int)-1) 0 (by decide) q2 q3;rw [cf] at g2;have hw:IntKind.i64.wrap ((l.length:Int)-1)=(l.length:Int)-1:=ql (by omega);refine ⟨n1+n2+1,λn hn=>?_⟩;obtain ⟨m,rfl,hm⟩:=up1 hn;have g1:=g1 m (by omega);have g2:=g2 m (by omega);dsimp only at g1 g2⊢;generalize DK l 12 ((l.length:Int)-1) 1=t at*
  simp only [Fq,Ht,qk,g1,zamV,hw,g2];by_cases h2:(t.size:Int)>200<;>simp [h2]
theorem Rt (l:List Nd) (hl:l.length<=140737488351232) (hk:∀c∈l,(kd c).length<=140737488351232/\c.2.2.2.2.1.size<=140737488351232):Ev (Fy · (l.map qo)) (FS l):=by
 obtain ⟨n1,g1⟩:=NV l hl hk;unfold FS;cases hf:Ii l with
 |false=>
  rw [hf] at g1;refine ⟨n1+1,λn hn=>?_⟩;obtain ⟨m,rfl,hm⟩:=up1 hn;have g1:=g1 m (by omega);dsimp only at g1⊢;simp [Fy,Hz,qk,g1]
 |true=>
  rw [hf] at g1;obtain ⟨q1,q2,q3⟩:=Za hf hk;obtain ⟨n2,g2⟩:=Lz q1 12 ((l.length:Int)-1) 1 (by decide) q2 q3;have hw:IntKind.i64.wrap ((l.length:Int)-1)=(l.length:Int)-1:=ql (by omega);refine ⟨n1+n2+1,λn hn=>?_⟩;obtain ⟨m,rfl,hm⟩:=up1 hn;have g1:=g1 m (by omega);have g2:=g2 m (by omega);dsimp only at g1 g2⊢;generalize DK l 12 ((l.length:Int)-1) 1=t at*
  simp only [Fy,Hz,qk,g1,zamV,hw,g2];by_cases h2:(t.size:Int)>200<;>simp [h2]
abbrev PS:=List UInt8×Bool×List Nd
def tb (r:List UInt8):List UInt8:=r.dropWhile (· ==32)
def wch (c:UInt8):Bool:=(decide (65<=c.toNat)&&decide (c.toNat<=90))||((decide (48<=c.toNat)&&decide (c.toNat<=57))||c==36)
def wd (r:List UInt8):List UInt8:=r.takeWhile wch
def wr (r:List UInt8):List UInt8:=r.dropWhile wch
def BR (r:List UInt8):BA:=⟨r.toArray⟩
def Ji:List (List UInt8):= [[60,62],[60,61],[62,61],[60],[62],[61],[38],[43],[45],[42],[47],[40],[41],[44],[58]]
def sgn (r:List UInt8):List UInt8:=match Ji.find? (λw=>w.isPrefixOf r) with|some w=>w|none=> []
def nd1 (v:V3):Nd:=(1,0,v.1,v.2.1,v.2.2,0,0,false,false,0,0,false,false,[])
def ndK (k op:Int) (kids:List Int):Nd:=(k,op,0,0,em,0,0,false,false,0,0,false,false,kids)
def ndC (p:Int×Int×Bool×Bool×Bool):Nd:=(2,0,0,0,em,p.1,p.2.1,p.2.2.1,p.2.2.2.1,0,0,false,false,[])
def ndA (p q:Int×Int×Bool×Bool×Bool):Nd:=(3,0,0,0,em,p.1,p.2.1,p.2.2.1,p.2.2.2.1,q.1,q.2.1,q.2.2.1,q.2.2.2.1,[])
def F4:List UInt8->List UInt8->Option (List UInt8×List UInt8)
 |_,[]=>none
 |acc,c::t=>if c=34 then (match t with
   |d::t'=>if d=34 then F4 (acc++ [34]) t' else some (acc,t)
   | []=>some (acc,[])) else F4 (acc++ [c]) t
def NW (r:List UInt8):Int->Nat->Option Int
 |_,0=>none
 |n,k+1=>if (qt n).toList.isPrefixOf r=true then some n else NW r (n+1) k
def LE (w:List UInt8):Int->Nat->Option Int
 |_,0=>none
 |n,k+1=>if (fnS n).toList=w then some n else LE w (n+1) k
def EE (r:List UInt8):Int:=
 if sgn r= [43] then 1 else if sgn r= [45] then 2 else if sgn r= [42] then 3 else if sgn r= [47] then 4 else if sgn r= [38] then 5 else if sgn r= [61] then 6 else
 if sgn r= [60,62] then 7 else if sgn r= [60] then 8 else if sgn r= [60,61] then 9 else if sgn r= [62] then 10 else if sgn r= [62,61] then 11 else 0
def qq (w:List UInt8) (p:PS):Bool×PS:=if sgn (tb p.1)=w then (true,(tb p.1).drop w.length,p.2) else (false,tb p.1,p.2)
def Hn (x:Nd) (p:PS):Int×PS:=if p.2.1=true\/60<=p.2.2.length then ((p.2.2.length:Int)-1,p.1,true,p.2.2) else ((p.2.2.length:Int),p.1,false,p.2.2++ [x])
def af (p:PS):PS:=(p.1,true,p.2.2)
def Gb (w:List UInt8) (p:PS):PS:=if p.2.1=true then p else if (qq w p).1=true then (qq w p).2 else af (qq w p).2
def Et (p:PS):Option Nd×PS:=
 let w:=wd (tb p.1)
 let p1:PS:=(wr (tb p.1),p.2)
 if (Ej (BR w)).2.2.2.2=true/\(qq [58] p1).1=true then
  let p2:=(qq [58] p1).2
  let w2:=wd (tb p2.1)
  (some (ndA (Ej (BR w)) (Ej (BR w2))),wr (tb p2.1),p2.2.1||!(Ej (BR w2)).2.2.2.2,p2.2.2)
 else (none,p)
def Ik (o:Option Nd×PS) (g:PS->Int×PS):Int×PS:=match o.1 with
 |some x=>Hn x o.2
 |none=>g o.2
inductive PJ where
 |bin (least deep:Int)
 |loop (least deep a:Int)
 |un (deep:Int)
 |at (deep:Int)
 |call (op deep:Int)
 |args (op deep:Int) (kids:List Int)
def pP:Nat->PJ->PS->Int×PS
 |0,_,p=>(0,p)
 |f+1,.bin least deep,p=>pP f (.loop least deep (pP f (.un deep) p).1) (pP f (.un deep) p).2
 |f+1,.loop least deep a,p=>
  if p.2.1=true then (a,p) else
  if EE (tb p.1)=0\/lvl (EE (tb p.1))<least then (a,tb p.1,p.2) else
  let p1:PS:=((tb p.1).drop (sgn (tb p.1)).length,p.2)
  let q:=pP f (.bin (lvl (EE (tb p.1))+1) deep) p1
  let c:=Hn (ndK 5 (EE (tb p.1)) [a,q.1]) q.2
  pP f (.loop least deep c.1) c.2
 |f+1,.un deep,p=>
  if deep>400\/p.2.1=true then (-1,af p) else
  if (qq [45] p).1=true then
   let q:=pP f (.un (deep+1)) (qq [45] p).2
   Hn (ndK 4 0 [q.1]) q.2
  else pP f (.at deep) (qq [45] p).2
 |f+1,.at deep,p=>
  let r:=tb p.1
  if r.head?=some 34 then (match F4 [] r.tail with
   |none=>(-1,r,true,p.2.2)
   |some (s,t)=>Hn (nd1 (2,0,BR s)) (t,p.2))
  else match (if r.head?=some 35 then NW r 1 5 else none) with
  |some n=>Hn (nd1 (4,n,em)) (r.drop (qt n).size,p.2)
  |none=>
   if r.head?≠some 35/\(qq [40] p).1=true then
    let q:=pP f (.bin 1 (deep+1)) (qq [40] p).2
    (q.1,Gb [41] q.2)
   else
    let w:=wd r
    let p2:PS:=(wr r,p.2)
    if (qz (BR w)).2.2.2=true/\((qz (BR w)).1=1\/(qz (BR w)).1=3) then Hn (nd1 ((qz (BR w)).1,(qz (BR w)).2.1,(qz (BR w)).2.2.1)) p2
    else if (Ej (BR w)).2.2.2.2=true then Hn (ndC (Ej (BR w))) p2
    else match LE w 1 10 with
    |some op=>pP f (.call op deep) p2
    |none=>(-1,af p2)
 |f+1,.call op deep,p=>pP f (.args op deep []) (Gb [40] p)
 |f+1,.args op deep kids,p=>
  if p.2.1=true then Hn (ndK 6 op kids) p else
  let q:=Ik (Et p) (λp=>pP f (.bin 1 (deep+1)) p)
  if (qq [44] q.2).1=true then pP f (.args op deep (kids++ [q.1])) (qq [44] q.2).2
  else Hn (ndK 6 op (kids++ [q.1])) (Gb [41] (qq [44] q.2).2)
def sIs (w:List UInt8) (q:PS):Bool×PS:=if q.2.1=true then (false,tb q.1,q.2) else if w.isPrefixOf (tb q.1)=true then (true,(tb q.1).drop w.length,q.2) else (false,tb q.1,q.2)
def JK (x:Nd) (q:PS):Int×PS:=((q.2.2.length:Int),q.1,(if 60<q.2.2.length+1\/GN x=false then true else q.2.1),q.2.2++ [x])
def S0 (q:PS):PS:=(q.1,true,q.2.2)
def Gg:List Int:= [7,9,11,6,8,10,1,2,3,4,5]
def Iy (level:Int) (r:List UInt8):List Int->Int
 | []=>0
 |o::l=>if lvl o=level/\(DJ o).toList.isPrefixOf r=true then o else Iy level r l
def sOp (level:Int) (q:PS):Int×PS:=
 if q.2.1=true then (0,tb q.1,q.2) else
 (Iy level (tb q.1) Gg,(if Iy level (tb q.1) Gg=0 then tb q.1 else (tb q.1).drop (DJ (Iy level (tb q.1) Gg)).size),q.2)
def f7 (r:List UInt8):Int->Nat->Option Int
 |_,0=>none
 |n,k+1=>if (qt n).toList.tail.isPrefixOf r=true then some n else f7 r (n+1) k
inductive SJ where
 |row (level:Int)
 |rl (level a:Int)
 |one
 |call (op:Int) (kids:List Int)
 |arg
def sP:Nat->SJ->PS->Int×PS
 |0,_,q=>(0,q)
 |f+1,.row level,q=>
  if q.2.1=true then (0,q) else
  if level=5 then sP f .one q else
  sP f (.rl level (sP f (.row (level+1)) q).1) (sP f (.row (level+1)) q).2
 |f+1,.rl level a,q=>
  if q.2.1=true then (a,q) else
  let o:=sOp level q
  if o.1=0 then (a,o.2) else
  let b:=sP f (.row (level+1)) o.2
  let c:=JK (ndK 5 o.1 [a,b.1]) b.2
  sP f (.rl level c.1) c.2
 |f+1,.one,q=>
  if (sIs [45] q).1=true then
   let b:=sP f (.row 5) (sIs [45] q).2
   JK (ndK 4 0 [b.1]) b.2
  else if (sIs [40] (sIs [45] q).2).1=true then
   let b:=sP f (.row 1) (sIs [40] (sIs [45] q).2).2
   (b.1,if (sIs [41] b.2).1=true then (sIs [41] b.2).2 else S0 (sIs [41] b.2).2)
  else
   let q2:PS:=(tb q.1,q.2)
   if (sIs [34] q2).1=true then (match F4 [] (sIs [34] q2).2.1 with
    |none=>(0,[],true,q.2.2)
    |some (s,t)=>JK (nd1 (2,0,BR s)) (t,q.2))
   else if (sIs [35] q2).1=true then (match f7 (sIs [35] q2).2.1 1 5 with
    |some n=>JK (nd1 (4,n,em)) ((sIs [35] q2).2.1.drop ((qt n).size-1),q.2)
    |none=>(0,(sIs [35] q2).2.1,true,q.2.2))
   else
    let w:=wd (tb q.1)
    let q3:PS:=(wr (tb q.1),q.2)
    match LE w 1 10 with
    |some op=>if (sIs [40] q3).1=true then sP f (.call op []) (sIs [40] q3).2 else (0,S0 (sIs [40] q3).2)
    |none=>
     if (qz (BR w)).2.2.2=true/\w≠ [] then JK (nd1 ((qz (BR w)).1,(qz (BR w)).2.1,(qz (BR w)).2.2.1)) q3
     else if (Ej (BR w)).2.2.2.2=true then JK (ndC (Ej (BR w))) q3
     else (0,S0 q3)
 |f+1,.call op kids,q=>
  if q.2.1=true then (0,q) else
  let a:=sP f .arg q
  if (sIs [41] a.2).1=true then JK (ndK 6 op (kids++ [a.1])) (sIs [41] a.2).2
  else sP f (.call op (kids++ [a.1])) (if (sIs [44] (sIs [41] a.2).2).1=true then (sIs [44] (sIs [41] a.2).2).2 else S0 (sIs [44] (sIs [41] a.2).2).2)
 |f+1,.arg,q=>
  let w:=wd (tb q.1)
  let q1:PS:=(wr (tb q.1),q.2)
  if (Ej (BR w)).2.2.2.2=true/\(sIs [58] q1).1=true then
   let q2:=(sIs [58] q1).2
   let w2:=wd (tb q2.1)
   if (Ej (BR w2)).2.2.2.2=true then JK (ndA (Ej (BR w)) (Ej (BR w2))) (wr (tb q2.1),q2.2) else (0,wr (tb q2.1),true,q2.2.2)
  else sP f (.row 1) (tb q.1,q.2)
theorem G5:∀r:List UInt8,tb (tb r)=tb r
 | []=>rfl
 |c::r=>by
  unfold tb;by_cases h:(c==32)=true
  ·simp only [List.dropWhile_cons,h,if_true];exact G5 r
  ·simp [List.dropWhile_cons,h]
theorem Dj:∀r:List UInt8,(tb r).length<=r.length
 | []=>zK _
 |c::r=>by
  unfold tb;by_cases h:(c==32)=true
  ·simp only [List.dropWhile_cons,h,if_true];exact Nat.le_succ_of_le (Dj r)
  ·simp [List.dropWhile_cons,h]
theorem Yp {p:UInt8->Bool}:∀r:List UInt8,(r.dropWhile p).length<=r.length
 | []=>zK _
 |c::r=>by
  by_cases h:p c=true
  ·simp only [List.dropWhile_cons,h,if_true];exact Nat.le_succ_of_le (Yp r)
  ·simp [List.dropWhile_cons,h]
theorem M1 (r:List UInt8):(wr r).length<=r.length:=Yp r
theorem wdr (r:List UInt8):wd r++wr r=r:=List.takeWhile_append_dropWhile
theorem KL (c:UInt8) (t:List UInt8) (h1:c≠60) (h2:c≠62):sgn (c::t)=if c∈([61,38,43,45,42,47,40,41,44,58]:List UInt8) then [c] else []:=by
 have e1:(60==c)=false:=by simpa using λe=>h1 e.symm
 have e2:(62==c)=false:=by simpa using λe=>h2 e.symm
 by_cases h:c∈([61,38,43,45,42,47,40,41,44,58]:List UInt8)
 ·rw [if_pos h];simp only [zamT,List.not_mem_nil,or_false] at h;rcases h with rfl|rfl|rfl|rfl|rfl|rfl|rfl|rfl|rfl|rfl<;>rfl
 ·rw [if_neg h];simp only [zamT,List.not_mem_nil,or_false,not_or] at h;obtain ⟨a1,a2,a3,a4,a5,a6,a7,a8,a9,a10⟩:=h;have f:∀d:UInt8,c≠d->(d==c)=false:=λd hd=>by simpa using λe=>hd e.symm
  simp [sgn,Ji,List.find?,List.isPrefixOf,e1,e2,f _ a1,f _ a2,f _ a3,f _ a4,f _ a5,f _ a6,f _ a7,f _ a8,f _ a9,f _ a10]
theorem Q2 (t:List UInt8):sgn (60::t)=if t.head?=some 62 then [60,62] else if t.head?=some 61 then [60,61] else [60]:=by
 cases t with
 |nil=>rfl
 |cons d t=>
  by_cases h:d=62
  ·subst h;rfl
  ·by_cases h2:d=61
   ·subst h2;rfl
   ·have e1:(62==d)=false:=by simpa using λe=>h e.symm
    have e2:(61==d)=false:=by simpa using λe=>h2 e.symm
    simp [sgn,Ji,List.find?,List.isPrefixOf,e1,e2,h,h2]
theorem VF (t:List UInt8):sgn (62::t)=if t.head?=some 61 then [62,61] else [62]:=by
 cases t with
 |nil=>rfl
 |cons d t=>
  by_cases h2:d=61
  ·subst h2;rfl
  ·have e2:(61==d)=false:=by simpa using λe=>h2 e.symm
   simp [sgn,Ji,List.find?,List.isPrefixOf,e2,h2]
theorem cg {c:UInt8} (hc:c∈([45,40,41,44,58]:List UInt8)) (r:List UInt8):(sgn r= [c])↔([c].isPrefixOf r=true):=by
 cases r with
 |nil=>
  have:sgn []= []:=rfl;rw [this];simp [List.isPrefixOf]
 |cons d t=>
  have hcc:c≠60/\c≠62/\c∈([61,38,43,45,42,47,40,41,44,58]:List UInt8):=by
   simp only [zamT,List.not_mem_nil,or_false] at hc;rcases hc with rfl|rfl|rfl|rfl|rfl<;>decide
  have e:([c].isPrefixOf (d::t)=true)↔c=d:=by simp [List.isPrefixOf]
  rw [e];by_cases h1:d=60
  ·subst h1;rw [Q2]
   constructor
   ·intro h;split at h
    ·cases h
    ·split at h
     ·cases h
     ·simp only [List.cons.injEq,and_true] at h;exact absurd h.symm hcc.1
   ·intro h;exact absurd h hcc.1
  ·by_cases h2:d=62
   ·subst h2;rw [VF]
    constructor
    ·intro h;split at h
     ·cases h
     ·simp only [List.cons.injEq,and_true] at h;exact absurd h.symm hcc.2.1
    ·intro h;exact absurd h hcc.2.1
   ·rw [KL d t h1 h2]
    constructor
    ·intro h;split at h
     ·simp only [List.cons.injEq,and_true] at h;exact h.symm
     ·cases h
    ·intro h;subst h;rw [if_pos hcc.2.2]
theorem mg {c:UInt8} (hc:c∈([45,40,41,44,58]:List UInt8)) {p q:PS} (hb:q.2.1=false) (ht:tb p.1=tb q.1):(qq [c] p).1=(sIs [c] q).1/\(qq [c] p).2.1=(sIs [c] q).2.1/\(qq [c] p).2.2=p.2/\(sIs [c] q).2.2=q.2:=by
 have h:=cg hc (tb q.1);unfold qq sIs;rw [ht,hb];by_cases hs:sgn (tb q.1)= [c]
 ·rw [if_pos hs,if_neg (by simp),if_pos (h.1 hs)];exact ⟨rfl,rfl,rfl,rfl⟩
 ·rw [if_neg hs,if_neg (by simp),if_neg (λe=>hs (h.2 e))];exact ⟨rfl,rfl,rfl,rfl⟩
theorem Il {w:List UInt8} (hw:w≠ []) {p:PS} (h:(qq w p).1=true):(qq w p).2.1.length<(tb p.1).length:=by
 unfold qq at h⊢;by_cases hs:sgn (tb p.1)=w
 ·rw [if_pos hs];have hp:w.isPrefixOf (tb p.1)=true:=by
   unfold sgn at hs;split at hs
   ·rename_i x hx;subst hs;have:=List.find?_some hx;simpa using this
   ·exact absurd hs.symm hw
  obtain ⟨t,ht⟩:=List.isPrefixOf_iff_prefix.1 hp;have h0:0<w.length:=List.length_pos_iff.2 hw;have h1:=congrArg List.length ht;simp only [zamO] at h1;simp only [List.length_drop];omega
 ·rw [if_neg hs] at h;cases h
theorem PF (w:List UInt8) (p:PS):(qq w p).2.1.length<=(tb p.1).length:=by
 unfold qq;split
 ·simp
 ·exact zK _
theorem cj (r:List UInt8):(EE r=0)\/(1<=EE r/\EE r<=11/\sgn r=(DJ (EE r)).toList):=by
 unfold EE
 repeat' (split; · rename_i h;right;rw [h];exact ⟨by decide,by decide,by decide+kernel⟩)
 left;rfl
theorem sg1:(DJ 1).toList= [43]:=by decide+kernel
theorem sg2:(DJ 2).toList= [45]:=by decide+kernel
theorem sg3:(DJ 3).toList= [42]:=by decide+kernel
theorem sg4:(DJ 4).toList= [47]:=by decide+kernel
theorem sg5:(DJ 5).toList= [38]:=by decide+kernel
theorem sg6:(DJ 6).toList= [61]:=by decide+kernel
theorem sg7:(DJ 7).toList= [60,62]:=by decide+kernel
theorem sg8:(DJ 8).toList= [60]:=by decide+kernel
theorem sg9:(DJ 9).toList= [60,61]:=by decide+kernel
theorem ag:(DJ 10).toList= [62]:=by decide+kernel
theorem ah:(DJ 11).toList= [62,61]:=by decide+kernel
theorem Nz (r:List UInt8):Iy 1 r Gg=if [60,62].isPrefixOf r=true then 7 else if [60,61].isPrefixOf r=true then 9 else if [62,61].isPrefixOf r=true then 11 else if [61].isPrefixOf r=true then 6 else if [60].isPrefixOf r=true then 8 else if [62].isPrefixOf r=true then 10 else 0:=by
 simp [Iy,Gg,lvl,sg1,sg2,sg3,sg4,sg5,sg6,sg7,sg8,sg9,ag,ah]
theorem N1 (r:List UInt8):Iy 2 r Gg=if [38].isPrefixOf r=true then 5 else 0:=by
 simp [Iy,Gg,lvl,sg1,sg2,sg3,sg4,sg5,sg6,sg7,sg8,sg9,ag,ah]
theorem N2 (r:List UInt8):Iy 3 r Gg=if [43].isPrefixOf r=true then 1 else if [45].isPrefixOf r=true then 2 else 0:=by
 simp [Iy,Gg,lvl,sg1,sg2,sg3,sg4,sg5,sg6,sg7,sg8,sg9,ag,ah]
theorem N3 (r:List UInt8):Iy 4 r Gg=if [42].isPrefixOf r=true then 3 else if [47].isPrefixOf r=true then 4 else 0:=by
 simp [Iy,Gg,lvl,sg1,sg2,sg3,sg4,sg5,sg6,sg7,sg8,sg9,ag,ah]
theorem mh {m:Int} (hm:1<=m/\m<=4) (r:List UInt8):Iy m r Gg=if EE r≠0/\lvl (EE r)=m then EE r else 0:=by
 have hm:m=1\/m=2\/m=3\/m=4:=by omega
 cases r with
 |nil=>rcases hm with rfl|rfl|rfl|rfl<;>simp [Nz,N1,N2,N3,EE,sgn,Ji,List.find?,List.isPrefixOf]
 |cons c t=>
  have f:∀d:UInt8,c≠d->(d==c)=false:=λd hd=>by simpa using λe=>hd e.symm
  by_cases h1:c=60
  ·subst h1;cases t with
   |nil=>rcases hm with rfl|rfl|rfl|rfl<;>simp [Nz,N1,N2,N3,EE,Q2,List.isPrefixOf,lvl]
   |cons d t=>
    have g:∀e:UInt8,d≠e->(e==d)=false:=λe hd=>by simpa using λx=>hd x.symm
    by_cases hd:d=62
    ·subst hd;rcases hm with rfl|rfl|rfl|rfl<;>simp [Nz,N1,N2,N3,EE,Q2,List.isPrefixOf,lvl]
    ·by_cases hd2:d=61
     ·subst hd2;rcases hm with rfl|rfl|rfl|rfl<;>simp [Nz,N1,N2,N3,EE,Q2,List.isPrefixOf,lvl]
     ·rcases hm with rfl|rfl|rfl|rfl<;>simp [Nz,N1,N2,N3,EE,Q2,List.isPrefixOf,lvl,hd,hd2,g _ hd,g _ hd2]
  ·by_cases h2:c=62
   ·subst h2;cases t with
    |nil=>rcases hm with rfl|rfl|rfl|rfl<;>simp [Nz,N1,N2,N3,EE,VF,List.isPrefixOf,lvl]
    |cons d t=>
     have g:∀e:UInt8,d≠e->(e==d)=false:=λe hd=>by simpa using λx=>hd x.symm
     by_cases hd2:d=61
     ·subst hd2;rcases hm with rfl|rfl|rfl|rfl<;>simp [Nz,N1,N2,N3,EE,VF,List.isPrefixOf,lvl]
     ·rcases hm with rfl|rfl|rfl|rfl<;>simp [Nz,N1,N2,N3,EE,VF,List.isPrefixOf,lvl,hd2,g _ hd2]
   ·by_cases h:c∈([61,38,43,45,42,47,40,41,44,58]:List UInt8)
    ·have hs:sgn (c::t)= [c]:=by rw [KL c t h1 h2,if_pos h]
     simp only [zamT,List.not_mem_nil,or_false] at h;rcases h with rfl|rfl|rfl|rfl|rfl|rfl|rfl|rfl|rfl|rfl<;>rcases hm with rfl|rfl|rfl|rfl<;>
      simp [Nz,N1,N2,N3,EE,hs,List.isPrefixOf,lvl]
    ·have hs:sgn (c::t)= []:=by rw [KL c t h1 h2,if_neg h]
     simp only [zamT,List.not_mem_nil,or_false,not_or] at h;obtain ⟨a1,a2,a3,a4,a5,a6,a7,a8,a9,a10⟩:=h;rcases hm with rfl|rfl|rfl|rfl<;>
      simp [Nz,N1,N2,N3,EE,hs,List.isPrefixOf,f _ h1,f _ h2,f _ a1,f _ a2,f _ a3,f _ a4,f _ a5,f _ a6]
theorem Zb {op:Int}:1<=lvl op/\lvl op<=4:=by unfold lvl;split<;>(try split)<;>(try split)<;>omega
def Tu (p:PS):Prop:=p.2.1=true\/∃x∈p.2.2,GN x=false
theorem HO {x:Nd} {p:PS} (h:Tu p):Tu (Hn x p).2:=by
 unfold Hn;split
 ·exact .inl rfl
 ·rename_i hn;rcases h with h|⟨y,hy,hb⟩
  ·exact absurd (.inl h) hn
  ·exact .inr ⟨y,zamU _ hy,hb⟩
theorem Jo {w:List UInt8} {p:PS} (h:Tu p):Tu (qq w p).2:=by unfold qq;split<;>exact h
theorem LF (p:PS):Tu (af p):= .inl rfl
theorem OW {w:List UInt8} {p:PS} (h:Tu p):Tu (Gb w p):=by
 unfold Gb;split
 ·exact h
 ·split
  ·exact Jo h
  ·exact LF _
theorem Yq {p:PS} (h:Tu p):Tu (Et p).2:=by
 unfold Et;simp only;split
 ·rcases h with h|h
  ·left
   simp only [Bool.or_eq_true]
   left
   have:(qq [58] (wr (tb p.1),p.2)).2.2=p.2:=by unfold qq;split<;>rfl
   rw [this];exact h
  ·right
   have:(qq [58] (wr (tb p.1),p.2)).2.2=p.2:=by unfold qq;split<;>rfl
   simp only [this];exact h
 ·exact h
theorem HZ:∀(f:Nat) (j:PJ) (p:PS),Tu p->Tu (pP f j p).2
 |0,j,p,h=>h
 |f+1,.bin least deep,p,h=>by
  simp only [pP];exact HZ f _ _ (HZ f _ _ h)
 |f+1,.loop least deep a,p,h=>by
  simp only [pP];split
  ·exact h
  ·split
   ·exact h
   ·exact HZ f _ _ (HO (HZ f _ _ h))
 |f+1,.un deep,p,h=>by
  simp only [pP];split
  ·exact LF _
  ·split
   ·exact HO (HZ f _ _ (Jo h))
   ·exact HZ f _ _ (Jo h)
 |f+1,.at deep,p,h=>by
  simp only [pP];split
  ·split
   ·exact .inl rfl
   ·exact HO h
  ·split
   ·exact HO h
   ·split
    ·exact OW (HZ f _ _ (Jo h))
    ·split
     ·exact HO h
     ·split
      ·exact HO h
      ·split
       ·exact HZ f _ _ h
       ·exact LF _
 |f+1,.call op deep,p,h=>by
  simp only [pP];exact HZ f _ _ (OW h)
 |f+1,.args op deep kids,p,h=>by
  simp only [pP];have hq:Tu (Ik (Et p) (λp=>pP f (.bin 1 (deep+1)) p)).2:=by
   unfold Ik;split
   ·exact HO (Yq h)
   ·exact HZ f _ _ (Yq h)
  revert hq
  generalize Ik (Et p) (λp=>pP f (.bin 1 (deep+1)) p)=q;intro hq;split
  ·exact HO h
  ·split
   ·exact HZ f _ _ (Jo hq)
   ·exact HO (OW (Jo hq))
theorem E0 (x:Nd) (p:PS):(Hn x p).2.1=p.1:=by unfold Hn;split<;>rfl
theorem Iz (w:List UInt8) (p:PS):(tb (qq w p).2.1).length<=(tb p.1).length:=by
 unfold qq;split
 ·refine zS (Dj _) ?_;simp
 ·simp only;rw [G5];exact zK _
theorem RD (w:List UInt8) (p:PS):(tb (Gb w p).1).length<=(tb p.1).length:=by
 unfold Gb;split
 ·exact zK _
 ·split
  ·exact Iz w p
  ·exact Iz w p
theorem OX (p:PS):(tb (Et p).2.1).length<=(tb p.1).length:=by
 unfold Et;simp only;split
 ·simp only;refine zS (Dj _) (zS (M1 _) (zS (Iz [58] _) ?_));exact zS (Dj _) (M1 _)
 ·exact zK _
theorem RE:∀(acc r:List UInt8) {s t:List UInt8},F4 acc r=some (s,t)->t.length<r.length
 |acc,[],s,t,h=>by simp [F4] at h
 |acc,c::r,s,t,h=>by
  unfold F4 at h;by_cases hc:c=34
  ·rw [if_pos hc] at h
   match r,h with
   | [],h=>simp only [zR,zamL] at h;rw [<-h.2];simp
   |d::t',h=>
    simp only at h;by_cases hd:d=34
    ·rw [if_pos hd] at h;have:=RE _ t' h;simp only [zamM];omega
    ·rw [if_neg hd] at h;simp only [zR,zamL] at h;rw [<-h.2];simp
  ·rw [if_neg hc] at h;have:=RE _ r h;simp only [zamM];omega
theorem Im:∀(f:Nat) (j:PJ) (p:PS),(tb (pP f j p).2.1).length<=(tb p.1).length
 |0,j,p=>zK _
 |f+1,.bin least deep,p=>by
  simp only [pP];exact zS (Im f _ _) (Im f _ _)
 |f+1,.loop least deep a,p=>by
  simp only [pP];split
  ·exact zK _
  ·split
   ·simp only;rw [G5];exact zK _
   ·refine zS (Im f _ _) ?_;rw [E0];refine zS (Im f _ _) (zS (Dj _) ?_);simp
 |f+1,.un deep,p=>by
  simp only [pP];split
  ·exact zK _
  ·split
   ·rw [E0];exact zS (Im f _ _) (Iz _ _)
   ·exact zS (Im f _ _) (Iz _ _)
 |f+1,.at deep,p=>by
  simp only [pP];split
  ·split
   ·simp only;rw [G5];exact zK _
   ·rename_i s t hq;rw [E0];have:=RE _ _ hq;refine zS (Dj _) ?_;have h2:((tb p.1).tail).length<=(tb p.1).length:=by simp
    simp only;omega
  ·split
   ·rw [E0];refine zS (Dj _) ?_;simp
   ·split
    ·exact zS (RD _ _) (zS (Im f _ _) (Iz _ _))
    ·have hw:(tb (wr (tb p.1))).length<=(tb p.1).length:=zS (Dj _) (M1 _);split
     ·rw [E0];exact hw
     ·split
      ·rw [E0];exact hw
      ·split
       ·exact zS (Im f _ _) hw
       ·exact hw
 |f+1,.call op deep,p=>by
  simp only [pP];exact zS (Im f _ _) (RD _ _)
 |f+1,.args op deep kids,p=>by
  simp only [pP];have hq:(tb (Ik (Et p) (λp=>pP f (.bin 1 (deep+1)) p)).2.1).length<=(tb p.1).length:=by
   unfold Ik;split
   ·rw [E0];exact OX p
   ·exact zS (Im f _ _) (OX p)
  revert hq
  generalize Ik (Et p) (λp=>pP f (.bin 1 (deep+1)) p)=q;intro hq;split
  ·rw [E0];exact zK _
  ·split
   ·exact zS (Im f _ _) (zS (Iz _ _) hq)
   ·rw [E0];exact zS (RD _ _) (zS (Iz _ _) hq)
structure RdOK:Prop where
 v:∀w:List UInt8,w.all wch=true->w≠ []->(qz (BR w)).2.2.2=true->(qz (BR w)).1=1\/(qz (BR w)).1=3
 v0:¬((qz (BR [])).1=1\/(qz (BR [])).1=3)
 p0:(Ej (BR [])).2.2.2.2=false
 f:∀w op,LE w 1 10=some op->(qz (BR w)).2.2.2=false/\(Ej (BR w)).2.2.2.2=false
 f0:LE [] 1 10=none
 n:∀n:Int,1<=n/\n<=5->∃t,(qt n).toList=35::t
def Lk (p q:PS):Prop:=p.2.1=false/\q.2.1=false/\p.2.2=q.2.2/\tb p.1=tb q.1
def Sim (a b:Int×PS):Prop:=(a.1=b.1/\Lk a.2 b.2)\/(b.2.2.1=true/\Tu a.2)
def sb (least:Int) (p:PS):Prop:=EE (tb p.1)=0\/lvl (EE (tb p.1))<least
def SimP (least:Int) (a b:Int×PS):Prop:=(a.1=b.1/\Lk a.2 b.2/\sb least a.2)\/(b.2.2.1=true/\Tu a.2)
theorem SimP.sim {least:Int} {a b:Int×PS} (h:SimP least a b):Sim a b:=h.elim (λh=> .inl ⟨h.1,h.2.1⟩) .inr
theorem Tv {x:Nd} {q:PS} (h:q.2.1=true):(JK x q).2.2.1=true:=by
 unfold JK;simp only;split
 ·rfl
 ·exact h
theorem PG {w:List UInt8} {q:PS} (h:q.2.1=true):sIs w q=(false,tb q.1,q.2):=by unfold sIs;rw [if_pos h]
theorem VG:∀(g:Nat) (j:SJ) (q:PS),q.2.1=true->(sP g j q).2.2.1=true
 |0,j,q,h=>h
 |g+1,.row level,q,h=>by simp only [sP];rw [if_pos h];exact h
 |g+1,.rl level a,q,h=>by simp only [sP];rw [if_pos h];exact h
 |g+1,.one,q,h=>by
  simp only [sP];rw [PG (w:= [45]) h];simp only [cZ,if_false];rw [PG (w:= [40]) (q:=(tb q.1,q.2)) h];simp only [cZ,if_false];rw [PG (w:= [34]) (q:=(tb q.1,q.2)) h];simp only [cZ,if_false];rw [PG (w:= [35]) (q:=(tb q.1,q.2)) h];simp only [cZ,if_false];split
  ·rw [PG (w:= [40]) (q:=(wr (tb q.1),q.2)) h];simp [S0]
  ·split
   ·exact Tv h
   ·split
    ·exact Tv h
    ·rfl
 |g+1,.call op kids,q,h=>by simp only [sP];rw [if_pos h];exact h
 |g+1,.arg,q,h=>by
  simp only [sP];rw [PG (w:= [58]) (q:=(wr (tb q.1),q.2)) h];simp only [cZ,and_false,if_false];exact VG g _ _ h
theorem PH {x:Nd} {p q:PS} (h:Lk p q):Sim (Hn x p) (JK x q):=by
 obtain ⟨h1,h2,h3,h4⟩:=h;unfold Hn JK;rw [h1,h2,h3];by_cases hl:60<=q.2.2.length
 ·refine .inr ⟨?_,.inl ?_⟩
  ·simp only;rw [if_pos (.inl (by omega))]
  ·rw [if_pos (.inr hl)]
 ·rw [if_neg (by simp;omega)];by_cases hn:GN x=false
  ·exact .inr ⟨by simp only;rw [if_pos (.inr hn)],.inr ⟨x,by simp,hn⟩⟩
  ·refine .inl ⟨rfl,rfl,?_,rfl,h4⟩;simp only;rw [if_neg];intro e;rcases e with e|e
   ·omega
   ·exact hn e
theorem f8 {a b:Int×PS} (f:Int->Nd) (h:Sim a b):Sim (Hn (f a.1) a.2) (JK (f b.1) b.2):=by
 rcases h with ⟨h1,h2⟩|⟨h1,h2⟩
 ·rw [h1];exact PH h2
 ·exact .inr ⟨Tv h1,HO h2⟩
theorem RF {c:UInt8} (hc:c∈([45,40,41,44,58]:List UInt8)) {p q:PS} (h:Lk p q):(qq [c] p).1=(sIs [c] q).1/\Lk (qq [c] p).2 (sIs [c] q).2:=by
 obtain ⟨h1,h2,h3,h4⟩:=h;obtain ⟨e1,e2,e3,e4⟩:=mg hc h2 h4;refine ⟨e1,?_,?_,?_,?_⟩
 ·rw [e3];exact h1
 ·rw [e4];exact h2
 ·rw [e3,e4];exact h3
 ·rw [e2]
theorem f9 {c:UInt8} (hc:c∈([45,40,41,44,58]:List UInt8)) {a b:Int×PS} (h:Sim a b):Sim (a.1,Gb [c] a.2) (b.1,if (sIs [c] b.2).1=true then (sIs [c] b.2).2 else S0 (sIs [c] b.2).2):=by
 rcases h with ⟨h1,h2⟩|⟨h1,h2⟩
 ·obtain ⟨e1,e2⟩:=RF hc h2;unfold Gb;rw [if_neg (by rw [h2.1];simp),e1];by_cases ht:(sIs [c] b.2).1=true
  ·rw [if_pos ht,if_pos ht];exact .inl ⟨h1,e2⟩
  ·rw [if_neg ht,if_neg ht];exact .inr ⟨rfl,LF _⟩
 ·refine .inr ⟨?_,OW h2⟩;rw [PG h1];simp [S0]
def P8 (G:Nat) (least:Int):Nat->Int×PS->Int×PS->Prop
 |0,x,res=>res=x
 |m+1,x,res=>if ((m:Int)+1)<least then res=x else ∃g,G<=g/\P8 G least m (sP g (.rl ((m:Int)+1) x.1) x.2) res
theorem VH {G G':Nat} (h:G'<=G) {least:Int}:∀(m:Nat) {x res:Int×PS},P8 G least m x res->P8 G' least m x res
 |0,x,res,ht=>ht
 |m+1,x,res,ht=>by
  unfold P8 at ht⊢;split
  ·rename_i hc;rw [if_pos hc] at ht;exact ht
  ·rename_i hc;rw [if_neg hc] at ht;obtain ⟨g,h1,h2⟩:=ht;exact ⟨g,zS h h1,VH h m h2⟩
theorem Tw {G:Nat} {least:Int}:∀(m:Nat) {x res:Int×PS},x.2.2.1=true->P8 G least m x res->res.2.2.1=true
 |0,x,res,hb,ht=>by unfold P8 at ht;rw [ht];exact hb
 |m+1,x,res,hb,ht=>by
  unfold P8 at ht;split at ht
  ·rw [ht];exact hb
  ·obtain ⟨g,_,h2⟩:=ht;exact Tw m (VG g _ _ hb) h2
theorem Yr {G:Nat} {l:Nat} (hl0:1<=l) {g:Nat} (hg:G<=g):∀(m:Nat) {x y:Int×PS},l<=m->P8 G ((l:Int)+1) m x y->P8 G (l:Int) m x (sP g (.rl (l:Int) y.1) y.2)
 |0,x,y,hl,ht=>by omega
 |m+1,x,y,hl,ht=>by
  unfold P8 at ht⊢;rw [if_neg (by omega)];by_cases e:l=m+1
  ·subst e;rw [if_pos (by omega)] at ht;subst ht;refine ⟨g,hg,?_⟩;have key:∀{z:Int×PS},P8 G ((m+1:Nat):Int) m z z:=fun {z}=>by
    cases m with
    |zero=>rfl
    |succ k=>unfold P8;rw [if_pos (by omega)]
   exact key
  ·rw [if_neg (by omega)] at ht;obtain ⟨g',h1,h2⟩:=ht;exact ⟨g',h1,Yr hl0 hg m (by omega) h2⟩
theorem i6 {G:Nat} {q:PS} (hq:q.2.1=false):∀(k:Nat),k<=4->∀g,G+k<=g->∃g5,G<=g5/\P8 G (5-(k:Int)) 4 (sP g5 (.row 5) q) (sP g (.row (5-(k:Int))) q)
 |0,_,g,hg=>⟨g,hg,by
  unfold P8;rw [if_pos (by decide)];simp⟩
 |k+1,hk,0,hg=>by omega
 |k+1,hk,g+1,hg=>by
  obtain ⟨g5,h1,h2⟩:=i6 (G:=G) hq k (by omega) g (by omega);refine ⟨g5,h1,?_⟩;have e:(5-((k+1:Nat):Int))=((4-k:Nat):Int):=by omega
  have e1:(5-(k:Int))=((4-k:Nat):Int)+1:=by omega
  rw [e1] at h2;rw [e];have:=Yr (G:=G) (l:=4-k) (by omega) (g:=g) (by omega) 4 (by omega) h2;have e2:sP (g+1) (.row ((4-k:Nat):Int)) q=sP g (.rl ((4-k:Nat):Int) (sP g (.row (((4-k:Nat):Int)+1)) q).1) (sP g (.row (((4-k:Nat):Int)+1)) q).2:=by
   simp only [sP];rw [if_neg (by rw [hq];simp),if_neg (by omega)]
  rw [e2];exact this
theorem ik (H:RdOK) {r:List UInt8} (h:r.head?=some 35):∀(k:Nat) (n:Int),1<=n->n+k<=6->f7 r.tail n k=NW r n k
 |0,n,_,_=>rfl
 |k+1,n,h1,h2=>by
  obtain ⟨t,ht⟩:=H.n n ⟨h1,by omega⟩;cases r with
  |nil=>cases h
  |cons c r=>
   simp only [List.head?_cons,zR] at h;subst h;simp only [f7,NW,ht,List.tail_cons];have ih:=ik H (r:=35::r) rfl k (n+1) (by omega) (by omega);simp only [List.tail_cons] at ih;rw [ih];simp [List.isPrefixOf]
theorem i7 {r:List UInt8}:∀(k:Nat) (n:Int) {m:Int},NW r n k=some m->n<=m/\m<n+k
 |0,n,m,h=>by cases h
 |k+1,n,m,h=>by
  simp only [NW] at h;split at h
  ·simp only [zR] at h;omega
  ·have:=i7 k (n+1) h;omega
theorem IB (c:UInt8) (r:List UInt8):([c].isPrefixOf r=true)↔r.head?=some c:=by
 cases r with
 |nil=>simp [List.isPrefixOf]
 |cons d t=>simp [List.isPrefixOf];exact eq_comm
theorem Tx {c:UInt8} {q:PS} (hb:q.2.1=false):(sIs [c] q).1=true↔(tb q.1).head?=some c:=by
 unfold sIs;rw [if_neg (by rw [hb];simp)];split
 ·rename_i h;exact ⟨λ_=>(IB c _).1 h,λ_=>rfl⟩
 ·rename_i h;exact ⟨λe=>(by cases e),λe=>absurd ((IB c _).2 e) h⟩
theorem ai (r:List UInt8):(wd r).all wch=true:=by
 unfold wd
 induction r with
 |nil=>rfl
 |cons c r ih=>
  by_cases h:wch c=true
  ·simp only [List.takeWhile_cons,h,if_true,zanC,Bool.true_and];exact ih
  ·simp [List.takeWhile_cons,h]
def mi (N:Nat):Prop:=∀(p q:PS) (deep:Int) (f g:Nat),Lk p q->(tb p.1).length=N->0<=deep->deep+N<=400->20*N+4<=f->20*N+5<=g->Sim (pP f (.un deep) p) (sP g (.row 5) q)
def mj (N:Nat):Prop:=∀(m:Nat),m<=4->∀(p q:PS) (deep least a:Int) (f:Nat) (res:Int×PS),Lk p q->(tb p.1).length=N->1<=least->0<=deep->deep+N<=400->20*N+5<=f->
 (EE (tb p.1)=0\/lvl (EE (tb p.1))<=m)->P8 (20*N+5) least m (a,q) res->SimP least (pP f (.loop least deep a) p) res
def im (N:Nat):Prop:=∀(p q:PS) (deep:Int) (k f g:Nat),k<=4->Lk p q->(tb p.1).length=N->0<=deep->deep+N<=400->20*N+6<=f->20*N+10<=g->SimP (5-(k:Int)) (pP f (.bin (5-(k:Int)) deep) p) (sP g (.row (5-(k:Int))) q)
def ml (N:Nat):Prop:=∀(p q:PS) (deep op:Int) (kids:List Int) (f g:Nat),Lk p q->(tb p.1).length=N->0<=deep->deep+N+1<=400->20*N+8<=f->20*N+12<=g->Sim (pP f (.args op deep kids) p) (sP g (.call op kids) q)
theorem tm (N:Nat) (hB:∀M,M<N->im M) (hT:∀M,M<N->mj M):mj N:=by
 intro m
 induction m with
 |zero=>
  intro hm p q deep least a f res hl hN hle hd hdN hf hpk ht;have h0:EE (tb p.1)=0:=by
   rcases hpk with h|h
   ·exact h
   ·have:=(Zb (op:=EE (tb p.1))).1;omega
  cases f with
  |zero=>omega
  |succ f=>
   simp only [pP];rw [if_neg (by rw [hl.1];simp),if_pos (.inl h0)];unfold P8 at ht;subst ht;refine .inl ⟨rfl,⟨hl.1,hl.2.1,hl.2.2.1,?_⟩,.inl ?_⟩
   ·simp only;rw [G5];exact hl.2.2.2
   ·simp only;rw [G5];exact h0
 |succ m ih=>
  intro hm p q deep least a f res hl hN hle hd hdN hf hpk ht;unfold P8 at ht;by_cases hc:(m:Int)+1<least
  ·rw [if_pos hc] at ht;subst ht;cases f with
   |zero=>omega
   |succ f=>
    have hst:EE (tb p.1)=0\/lvl (EE (tb p.1))<least:=by
     rcases hpk with h|h
     ·exact .inl h
     ·right;push_cast at h;omega
    simp only [pP];rw [if_neg (by rw [hl.1];simp),if_pos hst];refine .inl ⟨rfl,⟨hl.1,hl.2.1,hl.2.2.1,?_⟩,?_⟩
    ·simp only;rw [G5];exact hl.2.2.2
    ·unfold sb;simp only;rw [G5];exact hst
  ·rw [if_neg hc] at ht;obtain ⟨g,hg,ht⟩:=ht;cases g with
   |zero=>omega
   |succ g=>
    have hin:=mh (m:=(m:Int)+1) (by omega) (tb q.1);have hpq:tb p.1=tb q.1:=hl.2.2.2;simp only [sP] at ht;rw [if_neg (by rw [hl.2.1];simp)] at ht;have ho:sOp ((m:Int)+1) q=(Iy ((m:Int)+1) (tb q.1) Gg,(if Iy ((m:Int)+1) (tb q.1) Gg=0 then tb q.1 else (tb q.1).drop (DJ (Iy ((m:Int)+1) (tb q.1) Gg)).size),q.2):=by
     unfold sOp;rw [if_neg (by rw [hl.2.1];simp)]
    by_cases hop:EE (tb q.1)≠0/\lvl (EE (tb q.1))=(m:Int)+1
    ·rw [if_pos hop] at hin;rw [hin,if_neg hop.1] at ho;rw [ho] at ht;simp only at ht;rw [if_neg hop.1] at ht;cases f with
     |zero=>omega
     |succ f=>
      simp only [pP];rw [if_neg (by rw [hl.1];simp),if_neg (by rw [hpq];exact λe=>e.elim (λe=>hop.1 e) (λe=>by have:=hop.2;omega))];rw [hpq];rcases cj (tb q.1) with h0|⟨_,_,hsg⟩
      ·exact absurd h0 hop.1
      have hsz:(sgn (tb q.1)).length=(DJ (EE (tb q.1))).size:=by rw [hsg,Dz]
      have hpos:0<(sgn (tb q.1)).length:=by
       cases hh:sgn (tb q.1) with
       |nil=>
        exfalso;apply hop.1;unfold EE;rw [hh];simp
       |cons c t=>simp
      have hdrop:(tb ((tb q.1).drop (sgn (tb q.1)).length)).length<N:=by
       have h1:=Dj ((tb q.1).drop (sgn (tb q.1)).length);have h2:(sgn (tb q.1)).length<=(tb q.1).length\/(tb q.1).length<(sgn (tb q.1)).length:=by omega
       rw [List.length_drop] at h1;have h3:(tb q.1).length=N:=by rw [<-hpq];exact hN
       have h4:0<N:=by
        rcases Nat.eq_zero_or_pos N with h|h
        ·exfalso;rw [h] at h3;have:tb q.1= []:=bJ h3;apply hop.1;rw [this];rfl
        ·exact h
       omega
      have hlk:Lk ((tb q.1).drop (sgn (tb q.1)).length,p.2) ((tb q.1).drop (DJ (EE (tb q.1))).size,q.2):=⟨hl.1,hl.2.1,hl.2.2.1,by simp only;rw [hsz]⟩;have hb:=hB _ hdrop ((tb q.1).drop (sgn (tb q.1)).length,p.2) ((tb q.1).drop (DJ (EE (tb q.1))).size,q.2) deep (3-m) f g (by omega) hlk rfl hd (by omega) (by omega) (by omega);have e5:(5-((3-m:Nat):Int))=(m:Int)+1+1:=by omega
      rw [e5] at hb;rw [hop.2];have hlenA:=Im f (.bin ((m:Int)+1+1) deep) ((tb q.1).drop (sgn (tb q.1)).length,p.2);generalize pP f (.bin ((m:Int)+1+1) deep) ((tb q.1).drop (sgn (tb q.1)).length,p.2)=A at hb hlenA⊢;generalize hBB:sP g (.row ((m:Int)+1+1)) ((tb q.1).drop (DJ (EE (tb q.1))).size,q.2)=B at hb ht;rcases hb with ⟨b1,b2,b3⟩|⟨b1,b2⟩
      ·rw [b1];have hs:=PH (x:=ndK 5 (EE (tb q.1)) [a,B.1]) b2;generalize hC:Hn (ndK 5 (EE (tb q.1)) [a,B.1]) A.2=C at hs⊢;generalize JK (ndK 5 (EE (tb q.1)) [a,B.1]) B.2=D at hs ht;rcases hs with ⟨c1,c2⟩|⟨c1,c2⟩
       ·have hrC:C.2.1=A.2.1:=by rw [<-hC];exact E0 _ _
        have hN3:(tb C.2.1).length<N:=by
         rw [hrC];exact Nat.lt_of_le_of_lt hlenA hdrop
        refine hT _ hN3 (m+1) hm C.2 D.2 deep least C.1 f res c2 rfl hle hd (by omega) (by omega) ?_ ?_
        ·rw [hrC];rcases b3 with h|h
         ·exact .inl h
         ·right;push_cast;omega
        ·rw [c1];unfold P8;rw [if_neg hc];exact ⟨g,by omega,VH (by omega) m ht⟩
       ·exact .inr ⟨Tw _ (VG g _ _ c1) ht,HZ f _ _ c2⟩
      ·exact .inr ⟨Tw _ (VG g _ _ (Tv b1)) ht,HZ f _ _ (HO b2)⟩
    ·rw [if_neg hop] at hin;rw [hin,if_pos rfl] at ho;rw [ho] at ht;simp only at ht;rw [if_pos trivial] at ht;refine ih (by omega) p (tb q.1,q.2) deep least a f res ⟨hl.1,hl.2.1,hl.2.2.1,by simp only;rw [G5];exact hpq⟩ hN hle hd hdN hf ?_ ht;rw [hpq];rw [hpq] at hpk;by_cases h0:EE (tb q.1)=0
     ·exact .inl h0
     ·right
      rcases hpk with h|h
      ·exact absurd h h0
      ·have:lvl (EE (tb q.1))≠(m:Int)+1:=λe=>hop ⟨h0,e⟩
       push_cast at h
       omega
theorem mn (N:Nat) (hA:mi N) (hT:∀M,M<=N->mj M):im N:=by
 intro p q deep k f g hk hl hN hd hdN hf hg;obtain ⟨g5,hg5,ht⟩:=i6 (G:=20*N+5) hl.2.1 k hk g (by omega);cases f with
 |zero=>omega
 |succ f=>
  simp only [pP];have ha:=hA p q deep f g5 hl hN hd hdN (by omega) hg5;have hlen:=Im f (.un deep) p;generalize pP f (.un deep) p=A at ha hlen⊢;generalize sP g5 (.row 5) q=B at ha ht;rcases ha with ⟨h1,h2⟩|⟨h1,h2⟩
  ·have hM:(tb A.2.1).length<=N:=by omega
   refine hT _ hM 4 (by omega) A.2 B.2 deep (5-(k:Int)) A.1 f _ h2 rfl (by omega) hd (by omega) (by omega) (.inr ?_) ?_
   ·have:=(Zb (op:=EE (tb A.2.1))).2;omega
   ·rw [h1];exact VH (by omega) 4 ht
  ·exact .inr ⟨Tw 4 h1 ht,HZ f _ _ h2⟩
theorem mo (H:RdOK) (N:Nat) (hB:im N) (hC:∀M,M<N->ml M):ml N:=by
 intro p q deep op kids f g hl hN hd hdN hf hg;cases f with
 |zero=>omega
 |succ f=>
 cases g with
 |zero=>omega
 |succ g=>
 cases g with
 |zero=>omega
 |succ g=>
 have hpq:=hl.2.2.2;have hpb:¬p.2.1=true:=by rw [hl.1];simp
 have hqb:¬q.2.1=true:=by rw [hl.2.1];simp
 have harg:Sim (Ik (Et p) (λp=>pP f (.bin 1 (deep+1)) p)) (sP (g+1) .arg q)/\(tb (Ik (Et p) (λp=>pP f (.bin 1 (deep+1)) p)).2.1).length<=N:=by
  refine ⟨?_,?_⟩
  ·have hw:Lk (wr (tb p.1),p.2) (wr (tb q.1),q.2):=⟨hl.1,hl.2.1,hl.2.2.1,by rw [hpq]⟩;obtain ⟨e1,e2⟩:=RF (c:=58) (by decide) hw;simp only [sP];unfold Ik Et;simp only;rw [hpq] at e1 e2⊢;by_cases hc:(Ej (BR (wd (tb q.1)))).2.2.2.2=true/\(qq [58] (wr (tb q.1),p.2)).1=true
   ·rw [if_pos hc,if_pos ⟨hc.1,e1▸hc.2⟩];simp only;rw [e2.2.2.2];by_cases h2:(Ej (BR (wd (tb (sIs [58] (wr (tb q.1),q.2)).2.1)))).2.2.2.2=true
    ·rw [if_pos h2,h2];simp only [Bool.not_true,Bool.or_false];exact PH ⟨e2.1,e2.2.1,e2.2.2.1,rfl⟩
    ·rw [if_neg h2];refine .inr ⟨rfl,HO (.inl ?_)⟩;simp only;have h2:(Ej (BR (wd (tb (sIs [58] (wr (tb q.1),q.2)).2.1)))).2.2.2.2=false:=by simpa using h2
     rw [h2];simp
   ·rw [if_neg hc,if_neg (λe=>hc ⟨e.1,e1.symm▸e.2⟩)];simp only;have:=hB p (tb q.1,q.2) (deep+1) 4 f g (by omega) ⟨hl.1,hl.2.1,hl.2.2.1,by simp only;rw [G5];exact hpq⟩ hN (by omega) (by omega) (by omega) (by omega);exact this.sim
  ·unfold Ik;split
   ·rw [E0];have:=OX p;omega
   ·have h1:=Im f (.bin 1 (deep+1)) (Et p).2;have h2:=OX p;exact zS h1 (by omega)
 obtain ⟨harg,hal⟩:=harg;simp only [pP];rw [if_neg hpb];have hs:sP (g+1+1) (.call op kids) q=(if (sIs [41] (sP (g+1) .arg q).2).1=true then JK (ndK 6 op (kids++ [(sP (g+1) .arg q).1])) (sIs [41] (sP (g+1) .arg q).2).2
  else sP (g+1) (.call op (kids++ [(sP (g+1) .arg q).1])) (if (sIs [44] (sIs [41] (sP (g+1) .arg q).2).2).1=true then (sIs [44] (sIs [41] (sP (g+1) .arg q).2).2).2 else S0 (sIs [44] (sIs [41] (sP (g+1) .arg q).2).2).2)):=by
  rw [sP];rw [if_neg hqb]
 rw [hs];generalize Ik (Et p) (λp=>pP f (.bin 1 (deep+1)) p)=Q at harg hal⊢;generalize sP (g+1) .arg q=A at harg⊢;rcases harg with ⟨h1,h2⟩|⟨h1,h2⟩
 ·have hb2:=h2.2.1;obtain ⟨c1,c2⟩:=RF (c:=44) (by decide) h2;have i41:=Tx (c:=41) hb2;have i44:=Tx (c:=44) hb2;by_cases hc:(qq [44] Q.2).1=true
  ·rw [if_pos hc];have hh:=i44.1 (c1▸hc);have n41:¬(sIs [41] A.2).1=true:=λe=>by rw [i41.1 e] at hh;cases hh
   rw [if_neg n41];have e41:(sIs [41] A.2).2=(tb A.2.1,A.2.2):=by
    unfold sIs at n41⊢;rw [if_neg (by rw [hb2];simp)] at n41⊢;split
    ·rename_i hx;rw [if_pos hx] at n41;exact absurd rfl n41
    ·rfl
   rw [e41];have e44:sIs [44] (tb A.2.1,A.2.2)=sIs [44] A.2:=by unfold sIs;simp only [G5]
   rw [e44,if_pos (c1▸hc),h1];have hlt:=Il (w:= [44]) (by simp) hc;have htb:=Dj (qq [44] Q.2).2.1;exact hC _ (by omega) (qq [44] Q.2).2 (sIs [44] A.2).2 deep op _ f (g+1) c2 rfl hd (by omega) (by omega) (by omega)
  ·rw [if_neg hc];have et:(qq [44] Q.2).2=(tb Q.2.1,Q.2.2):=by
    unfold qq at hc⊢;split
    ·rename_i hx;rw [if_pos hx] at hc;exact absurd rfl hc
    ·rfl
   rw [et];have hl2:Lk (tb Q.2.1,Q.2.2) A.2:=⟨h2.1,h2.2.1,h2.2.2.1,by simp only;rw [G5];exact h2.2.2.2⟩;have hm:=f9 (c:=41) (by decide) (a:=(A.1,(tb Q.2.1,Q.2.2))) (b:=(A.1,A.2)) (.inl ⟨rfl,hl2⟩);by_cases h41:(sIs [41] A.2).1=true
   ·rw [if_pos h41];simp only [h41,if_true] at hm;have:=f8 (λ_=>ndK 6 op (kids++ [A.1])) hm;rw [h1];exact this
   ·rw [if_neg h41];have e41:(sIs [41] A.2).2=(tb A.2.1,A.2.2):=by
     unfold sIs at h41⊢;rw [if_neg (by rw [hb2];simp)] at h41⊢;split
     ·rename_i hx;rw [if_pos hx] at h41;exact absurd rfl h41
     ·rfl
    have e44:sIs [44] (tb A.2.1,A.2.2)=sIs [44] A.2:=by unfold sIs;simp only [G5]
    rw [e41,e44,if_neg (c1▸hc)];refine .inr ⟨VG _ _ _ rfl,HO ?_⟩;simp only [if_neg h41] at hm;rcases hm with ⟨_,_,hb,_⟩|⟨_,hdm⟩
    ·simp [S0] at hb
    ·exact hdm
 ·have e41:sIs [41] A.2=(false,tb A.2.1,A.2.2):=PG h1;have e44:sIs [44] (tb A.2.1,A.2.2)=(false,tb (tb A.2.1),A.2.2):=PG h1;rw [e41];simp only [cZ,if_false];rw [e44];simp only [cZ,if_false];refine .inr ⟨VG _ _ _ rfl,?_⟩;split
  ·exact HZ f _ _ (Jo h2)
  ·exact HO (OW (Jo h2))
theorem i9 {c d:UInt8} (h:c≠d) {r:List UInt8} (hr:r.head?=some c):¬r.head?=some d:=by rw [hr];simpa using h
theorem mp (H:RdOK) (N:Nat) (hA:∀M,M<N->mi M) (hB:∀M,M<N->im M) (hC:∀M,M<N->ml M):mi N:=by
 intro p q deep f g hl hN hd hdN hf hg;cases f with
 |zero=>omega
 |succ f=>
 cases f with
 |zero=>omega
 |succ f=>
 cases g with
 |zero=>omega
 |succ g=>
 cases g with
 |zero=>omega
 |succ g=>
 have hpq:=hl.2.2.2;have hpb:¬p.2.1=true:=by rw [hl.1];simp
 have hqb:¬q.2.1=true:=by rw [hl.2.1];simp
 have hq0:=hl.2.1;have hs:sP (g+1+1) (.row 5) q=sP (g+1) .one q:=by
  rw [sP,if_neg hqb,if_pos rfl]
 rw [hs];obtain ⟨e1,e2⟩:=RF (c:=45) (by decide) hl;rw [pP];rw [if_neg (by intro e;rcases e with e|e;omega;exact hpb e)];by_cases hc:(qq [45] p).1=true
 ·rw [if_pos hc];simp only [sP];rw [if_pos (e1▸hc)];have hlt:=Il (w:= [45]) (by simp) hc;have htb:=Dj (qq [45] p).2.1;exact f8 (λk=>ndK 4 0 [k]) (hA _ (by omega) _ _ (deep+1) (f+1) g e2 rfl (by omega) (by omega) (by omega) (by omega))
 ·rw [if_neg hc];have hp':(qq [45] p).2=(tb p.1,p.2):=by
   unfold qq at hc⊢;split
   ·rename_i hx;rw [if_pos hx] at hc;exact absurd rfl hc
   ·rfl
  have hq':(sIs [45] q).2=(tb q.1,q.2):=by
   have hc:¬(sIs [45] q).1=true:=e1▸hc;unfold sIs at hc⊢;rw [if_neg hqb] at hc⊢;split
   ·rename_i hx;rw [if_pos hx] at hc;exact absurd rfl hc
   ·rfl
  rw [hp'];simp only [sP];rw [if_neg (e1▸hc),hq'];simp only [pP,G5];have hl2:Lk (tb p.1,p.2) (tb q.1,q.2):=⟨hl.1,hl.2.1,hl.2.2.1,by simp only [G5];exact hpq⟩;obtain ⟨f1,f2⟩:=RF (c:=40) (by decide) hl2;have i40:=Tx (c:=40) (q:=(tb q.1,q.2)) hq0;have i34:=Tx (c:=34) (q:=(tb q.1,q.2)) hq0;have i35:=Tx (c:=35) (q:=(tb q.1,q.2)) hq0;simp only [G5] at i40 i34 i35;rw [hpq] at hN f1 f2⊢;by_cases h34:(tb q.1).head?=some 34
  ·rw [if_pos h34,if_neg (λe=>i9 (by decide) h34 (i40.1 e)),if_pos (i34.2 h34)];have es:(sIs [34] (tb q.1,q.2)).2.1=(tb q.1).tail:=by
    have:=i34.2 h34;unfold sIs at this⊢;rw [if_neg hqb] at this⊢;simp only [G5] at this⊢;split
    ·simp
    ·rename_i hx;rw [if_neg hx] at this;cases this
   rw [es];cases hqr:F4 [] (tb q.1).tail with
   |none=>exact .inr ⟨rfl,.inl rfl⟩
   |some st=>
    obtain ⟨s,t⟩:=st;exact PH ⟨hl.1,hl.2.1,hl.2.2.1,rfl⟩
  ·rw [if_neg h34];by_cases h35:(tb q.1).head?=some 35
   ·rw [if_pos h35,if_neg (λe=>i9 (by decide) h35 (i40.1 e)),if_neg (λe=>h34 (i34.1 e)),if_pos (i35.2 h35)];have es:(sIs [35] (tb q.1,q.2)).2.1=(tb q.1).tail:=by
     have:=i35.2 h35;unfold sIs at this⊢;rw [if_neg hqb] at this⊢;simp only [G5] at this⊢;split
     ·simp
     ·rename_i hx;rw [if_neg hx] at this;cases this
    rw [es,ik H h35 5 1 (by omega) (by omega)];cases he:NW (tb q.1) 1 5 with
    |some n=>
     simp only;obtain ⟨t,ht⟩:=H.n n (by have:=i7 5 1 he;omega);have hsz:(qt n).size=t.length+1:=by rw [<-Dz,ht];rfl
     refine PH ⟨hl.1,hl.2.1,hl.2.2.1,?_⟩;simp only;rw [hsz];cases hr:tb q.1 with
     |nil=>rw [hr] at h35;cases h35
     |cons c r=>rfl
    |none=>
     simp only;rw [if_neg (λe=>e.1 h35)];have hw:wd (tb q.1)= []:=by
      cases hr:tb q.1 with
      |nil=>rw [hr] at h35;cases h35
      |cons c r=>
       rw [hr] at h35;simp only [List.head?_cons,zR] at h35;subst h35;rfl
     rw [hw,if_neg (λe=>H.v0 e.2),if_neg (by rw [H.p0];simp),H.f0];exact .inr ⟨rfl,LF _⟩
   ·rw [if_neg h35];simp only;by_cases h40:(qq [40] (tb q.1,p.2)).1=true
    ·rw [if_pos ⟨h35,h40⟩,if_pos (f1▸h40)];have hlt:=Il (w:= [40]) (by simp) h40;simp only [G5] at hlt;have htb:=Dj (qq [40] (tb q.1,p.2)).2.1;have hb:=(hB _ (by omega) _ _ (deep+1) 4 f g (by omega) f2 rfl (by omega) (by omega) (by omega) (by omega)).sim;have e5:(5-((4:Nat):Int))=1:=by omega
     rw [e5] at hb;exact f9 (by decide) hb
    ·have n40:¬(sIs [40] (tb q.1,q.2)).1=true:=f1▸h40;have n34:¬(sIs [34] (tb q.1,q.2)).1=true:=λe=>h34 (i34.1 e)
     have n35:¬(sIs [35] (tb q.1,q.2)).1=true:=λe=>h35 (i35.1 e)
     rw [if_neg (λe=>h40 e.2),if_neg n40,if_neg n34,if_neg n35];have hl3:Lk (wr (tb q.1),p.2) (wr (tb q.1),q.2):=⟨hl.1,hl.2.1,hl.2.2.1,rfl⟩;cases hfn:LE (wd (tb q.1)) 1 10 with
     |some op=>
      simp only;obtain ⟨z1,z2⟩:=H.f _ _ hfn;rw [if_neg (by rw [z1];simp),if_neg (by rw [z2];simp)];have hne:1<=(wd (tb q.1)).length:=by
       cases hw:wd (tb q.1) with
       |nil=>rw [hw,H.f0] at hfn;cases hfn
       |cons c t=>simp
      have hlen:(wr (tb q.1)).length+1<=N:=by
       have:=congrArg List.length (wdr (tb q.1));simp only [zamO] at this;omega
      obtain ⟨k1,k2⟩:=RF (c:=40) (by decide) hl3;cases f with
      |zero=>omega
      |succ f=>
       simp only [pP];by_cases ht:(sIs [40] (wr (tb q.1),q.2)).1=true
       ·rw [if_pos ht];have em:Gb [40] (wr (tb q.1),p.2)=(qq [40] (wr (tb q.1),p.2)).2:=by
         unfold Gb;rw [if_neg hpb,if_pos (k1▸ht)]
        rw [em];have hlt:=Il (w:= [40]) (by simp) (k1.symm▸ht);have h2:=Dj (wr (tb q.1));have h3:=Dj (qq [40] (wr (tb q.1),p.2)).2.1;simp only at hlt;exact hC _ (by omega) _ _ deep op [] f g k2 rfl hd (by omega) (by omega) (by omega)
       ·rw [if_neg ht];have em:Gb [40] (wr (tb q.1),p.2)=af (qq [40] (wr (tb q.1),p.2)).2:=by
         unfold Gb;rw [if_neg hpb,if_neg (k1▸ht)]
        rw [em];exact .inr ⟨rfl,HZ f _ _ (LF _)⟩
     |none=>
      simp only;by_cases hw0:wd (tb q.1)= []
      ·rw [hw0,if_neg (λe=>H.v0 e.2),if_neg (by rw [H.p0];simp),if_neg (λe=>e.2 rfl),if_neg (by rw [H.p0];simp)];exact .inr ⟨rfl,LF _⟩
      ·by_cases hv:(qz (BR (wd (tb q.1)))).2.2.2=true
       ·rw [if_pos ⟨hv,H.v _ (ai _) hw0 hv⟩,if_pos ⟨hv,hw0⟩];exact PH hl3
       ·have nv1:¬((qz (BR (wd (tb q.1)))).2.2.2=true/\((qz (BR (wd (tb q.1)))).1=1\/(qz (BR (wd (tb q.1)))).1=3)):=λe=>hv e.1
        have nv2:¬((qz (BR (wd (tb q.1)))).2.2.2=true/\wd (tb q.1)≠ []):=λe=>hv e.1
        rw [if_neg nv1,if_neg nv2];by_cases hp:(Ej (BR (wd (tb q.1)))).2.2.2.2=true
        ·rw [if_pos hp,if_pos hp];exact PH hl3
        ·rw [if_neg hp,if_neg hp];exact .inr ⟨rfl,LF _⟩
theorem mq (H:RdOK) (N:Nat):mi N/\mj N/\im N/\ml N:=by
 induction N using Nat.strongRecOn with
 |ind N ih=>
  have hA:=mp H N (λM h=>(ih M h).1) (λM h=>(ih M h).2.2.1) (λM h=>(ih M h).2.2.2);have hT:=tm N (λM h=>(ih M h).2.2.1) (λM h=>(ih M h).2.1);have hB:=mn N hA (λM h=>(Nat.lt_or_eq_of_le h).elim (λh=>(ih M h).2.1) (λh=>h▸hT));exact ⟨hA,hT,hB,mo H N hB (λM h=>(ih M h).2.2.2)⟩
theorem D7 (r:List UInt8):(BR r).toList=r:=Eh r
theorem qv (r:List UInt8):(BR r).size=r.length:=by rw [<-Dz,D7]
theorem KM (s:BA):BR s.toList=s:=IK (D7 _)
theorem Ko (r:List UInt8) (a b:Nat):(BR r).extract a b=BR ((r.take b).drop a):=by
 refine IK ?_;rw [D7,zao,ByteArray.data_extract,Array.toList_extract];simp [BR,List.extract_eq_take_drop,List.drop_take]
theorem VI (a b:List UInt8):BR a++BR b=BR (a++b):=by
 refine IK ?_;rw [D7,zao];simp [BR]
theorem ow:∀i:Fin 256,((⟨#[32]⟩:BA).data.toList.contains (UInt8.ofNat i.val))=(UInt8.ofNat i.val==32):=by decide+kernel
def wcS:BA:=⟨#[65,66,67,68,69,70,71,72,73,74,75,76,77,78,79,80,81,82,83,84,85,86,87,88,89,90,48,49,50,51,52,53,54,55,56,57,36]⟩
theorem ox:∀i:Fin 256,(wcS.data.toList.contains (UInt8.ofNat i.val))=wch (UInt8.ofNat i.val):=by decide+kernel
theorem aj {f g:UInt8->Bool} (h:∀i:Fin 256,f (UInt8.ofNat i.val)=g (UInt8.ofNat i.val)) (c:UInt8):f c=g c:=by
 have h:=h ⟨c.toNat,UInt8.toNat_lt c⟩;have e:UInt8.ofNat c.toNat=c:=by simp
 simp only [e] at h;exact h
theorem dy (r:List UInt8):Ev (FJ · (BR r) ⟨#[32]⟩) (BR (tb r)):=by
 refine ⟨1,λn hn=>?_⟩;obtain ⟨m,rfl,hm⟩:=up1 hn;show zb (BR r) ⟨#[32]⟩=_;unfold zb;rw [if_pos ⟨by decide,by decide+kernel⟩];unfold Lib.trimLeftS tb;have:(λc=>(⟨#[32]⟩:BA).data.toList.contains c)=(λc=>c==32):=funext (aj ow);rw [this];rfl
theorem ef (r:List UInt8):Ev (FJ · (BR r) ⟨#[65,66,67,68,69,70,71,72,73,74,75,76,77,78,79,80,81,82,83,84,85,86,87,88,89,90,48,49,50,51,52,53,54,55,56,57,36]⟩) (BR (wr r)):=by
 refine ⟨1,λn hn=>?_⟩;obtain ⟨m,rfl,hm⟩:=up1 hn;show zb (BR r) wcS=_;unfold zb;rw [if_pos ⟨by decide,by decide+kernel⟩];unfold Lib.trimLeftS wr;have:(λc=>wcS.data.toList.contains c)=wch:=funext (aj ox);rw [this];rfl
theorem NX (r:List UInt8) (m:Nat) (b:Bool) (rows:List (List PV)):Ev (Ey · (BR r) m b rows) (BR (tb r),m,b,rows):=by
 obtain ⟨n1,h1⟩:=dy r;refine ⟨n1+1,λn hn=>?_⟩;obtain ⟨m,rfl,hm⟩:=up1 hn;have h1:=h1 m (by omega);dsimp only at h1;simp only [Ey,Ia,qk,h1]
theorem Fh (m:Nat) (s w:List UInt8):DG (m+2) (BR s) (BR w)=some (w.isPrefixOf s):=by
 simp only [DG,GY,Dk,Em,qk,qv,Ko,D7];by_cases h:w.length<=s.length
 ·have h1:((s.length:Nat):Int)≥((w.length:Nat):Int):=by omega
  simp [h1,h,List.isPrefixOf_iff_prefix,List.prefix_iff_eq_take];by_cases e:w=s.take w.length
  ·simp [<-e,List.isPrefixOf_iff_prefix.2 (List.prefix_iff_eq_take.2 e)]
  ·have e2:¬s.take w.length=w:=λh=>e h.symm
   have e3:w.isPrefixOf s=false:=by
    rw [aE];intro hp;exact e (List.prefix_iff_eq_take.1 (List.isPrefixOf_iff_prefix.1 hp))
   simp [e2,e3]
 ·have h1:¬((s.length:Nat):Int)≥((w.length:Nat):Int):=by omega
  have e3:w.isPrefixOf s=false:=by
   rw [aE];intro hp;exact h (List.isPrefixOf_iff_prefix.1 hp).length_le
  simp [h1,e3]
theorem ak (s w:List UInt8):Ev (DG · (BR s) (BR w)) (w.isPrefixOf s):=by
 refine ⟨2,λn hn=>?_⟩;obtain ⟨m,rfl,hm⟩:=up1 hn;obtain ⟨m,rfl,hm⟩:=up1 hm;exact Fh m s w
def l4:List (List PV):=Ji.map λw=> [PV.s (BR w)]
theorem Ys {n:Nat} {r:List UInt8} (m:Nat) (b:Bool) (rows:List (List PV)) (h:∀w∈Ji,DG n (BR r) (BR w)=some (w.isPrefixOf r)):
  ∀(k i M:Nat),i+k=15->k+1<=M->zE (Gv n) M (15,15,(i:Int),l4,BR r,m,b,rows)=some (match (Ji.drop i).find? (λw=>w.isPrefixOf r) with|some w=> .inl (BR w,BR r,m,b,rows)|none=> .inr (BR r,m,b,rows))
 |k,i,0,h1,h2=>by omega
 |0,i,M+1,h1,h2=>by
  have hi:i=15:=by omega
  subst hi;rw [qd (r:= .inr (BR r,m,b,rows)) (by simp [Gv,qk])];rfl
 |k+1,i,M+1,h1,h2=>by
  have hi:i<Ji.length:=by simp [Ji];omega
  obtain ⟨w,hw⟩:∃w,Ji[i]?=some w:=⟨_,zW hi⟩;have hR:l4[i]?=some [PV.s (BR w)]:=by simp [l4,zamS,hw]
  have hl:l4.length=15:=rfl;have hc:zk [PV.s (BR w)] 0=some (BR w):=rfl;have hp:=h w (zi hw);have hd:Ji.drop i=w::Ji.drop (i+1):=IG hw;have w5:IntKind.i64.wrap ((i:Int)+1)=((i+1:Nat):Int):=by rw [ql (by omega)];omega
  rw [hd];simp only [List.find?_cons];cases hq:w.isPrefixOf r with
  |true=>
   rw [qd (r:= .inl (BR w,BR r,m,b,rows)) (by
    refine qb (by simp;omega) (qb (by simp [hl];omega) (qa hR (qa hc (qa (hp.trans (congrArg some hq)) (qb rfl rfl))))))]
  |false=>
   rw [qm (v':=(15,15,((i+1:Nat):Int),l4,BR r,m,b,rows)) (by
    refine qb (by simp;omega) (qb (by simp [hl];omega) (qa hR (qa hc (qa (hp.trans (congrArg some hq)) (qc rfl ?_)))));rw [w5];rfl)]
   exact Ys m b rows h k (i+1) M (by omega) (by omega)
theorem VJ (r:List UInt8) (m:Nat) (b:Bool) (rows:List (List PV)):Ev (Fv · (BR r) m b rows) (BR (sgn (tb r)),BR (tb r),m,b,rows):=by
 obtain ⟨n1,h1⟩:=NX r m b rows;obtain ⟨n2,h2⟩:=Eu (F:=λw n=>DG n (BR (tb r)) (BR w)) (f:=λw=>w.isPrefixOf (tb r)) Ji (λw _=>ak (tb r) w);refine ⟨n1+n2+30,λn hn=>?_⟩;obtain ⟨k,rfl,hm⟩:=up1 hn;have h1:=h1 k (by omega);have lp:=Ys m b rows (h2 k (by omega)) 15 0 k rfl (by omega);refine qa h1 (qa lp ?_);simp only [List.drop_zero];unfold sgn;cases hq:Ji.find? (λw=>w.isPrefixOf (tb r)) with
 |some w=>rfl
 |none=>rfl
theorem ck (r:List UInt8):sgn r<+:r:=by
 unfold sgn;split
 ·rename_i w hw;have:=List.find?_some hw;exact List.isPrefixOf_iff_prefix.1 (by simpa using this)
 ·exact List.nil_prefix
theorem Yt (w r:List UInt8) (m:Nat) (b:Bool) (rows:List (List PV)):Ev (DO · (BR w) (BR r) m b rows) (decide (sgn (tb r)=w),BR (if sgn (tb r)=w then (tb r).drop w.length else tb r),m,b,rows):=by
 obtain ⟨n1,h1⟩:=VJ r m b rows;refine ⟨n1+1,λn hn=>?_⟩;obtain ⟨k,rfl,hm⟩:=up1 hn;refine qa (h1 k (by omega)) ?_;by_cases h:sgn (tb r)=w
 ·have hp:=(ck (tb r)).length_le;rw [h] at hp;refine qc (by simp [D7,h]) (qb (by simp [qv];omega) ?_);rw [qf,qv,qv,Ko];simp [h]
 ·refine qb (by simp [D7,h]) ?_;rw [qf];simp [h]
theorem eh (r:List UInt8) (m:Nat) (b:Bool) (rows:List (List PV)) (hr:r.length<=1000):Ev (FK · (BR r) m b rows) (BR (wd (tb r)),BR (wr (tb r)),m,b,rows):=by
 obtain ⟨n1,h1⟩:=NX r m b rows;obtain ⟨n2,h2⟩:=ef (tb r);refine ⟨n1+n2+1,λn hn=>?_⟩;obtain ⟨k,rfl,hm⟩:=up1 hn;have hb:=Dj r;have hw:=M1 (tb r);have hsum:=congrArg List.length (wdr (tb r));simp only [zamO] at hsum;have e:IntKind.i64.wrap (((tb r).length:Int)-((wr (tb r)).length:Int))=((wd (tb r)).length:Int):=by rw [ql (by omega)];omega
 refine qa (h1 k (by omega)) (qa (h2 k (by omega)) ?_);simp only [qv,e];refine qb (by simp;omega) (qb (by simp;omega) ?_);rw [qf];have t1:(wd (tb r)++wr (tb r)).take (wd (tb r)).length=wd (tb r):=List.take_left ..;have t2:(wd (tb r)++wr (tb r)).drop (wd (tb r)).length=wr (tb r):=List.drop_left ..;rw [wdr] at t1 t2;simp [Ko,t1,t2]
def LG (p:PS):BA×Nat×Bool×List (List PV):=(BR p.1,p.2.2.length,p.2.1,p.2.2.map qo)
def M6 (r:Int×PS):Int×BA×Nat×Bool×List (List PV):=(r.1,BR r.2.1,r.2.2.2.length,r.2.2.1,r.2.2.2.map qo)
def Wa (c:Nd):Prop:=(kd c).length<=2000/\c.2.2.2.2.1.size<=2000
structure Gd (p:PS):Prop where
 r:p.1.length<=1000
 n:p.2.2.length<=60
 s:∀x∈p.2.2,Wa x
theorem VK (x:Nd) (p:PS) (h:p.2.2.length<=60):Ev (EB · x.1 x.2.1 x.2.2.1 x.2.2.2.1 x.2.2.2.2.1 x.2.2.2.2.2.1 x.2.2.2.2.2.2.1 x.2.2.2.2.2.2.2.1 x.2.2.2.2.2.2.2.2.1 x.2.2.2.2.2.2.2.2.2.1 x.2.2.2.2.2.2.2.2.2.2.1 x.2.2.2.2.2.2.2.2.2.2.2.1 x.2.2.2.2.2.2.2.2.2.2.2.2.1 ((kd x).map Eo) (BR p.1) p.2.2.length p.2.1 (p.2.2.map qo)) (M6 (Hn x p)):=by
 obtain ⟨r,b,l⟩:=p;refine ⟨1,λn hn=>?_⟩;obtain ⟨m,rfl,hm⟩:=up1 hn
 replace h:l.length<=60:=h
 show EB (m+1) _ _ _ _ _ _ _ _ _ _ _ _ _ _ (BR r) l.length b (l.map qo)=_;unfold Hn;have w1:IntKind.i64.wrap (((l.length:Nat):Int)-1)=(l.length:Int)-1:=ql (by omega);have w2:IntKind.i64.wrap ((((l.length+1):Nat):Int)-1)=(l.length:Int):=by rw [ql (by omega)];omega
 cases b with
 |true=>
  rw [if_pos (.inl rfl)];refine qb rfl (qc rfl ?_);rw [qf,w1];rfl
 |false=>
  by_cases h6:60<=l.length
  ·rw [if_pos (.inr h6)];have d:decide (((l.length:Nat):Int)≥60)=true:=zD (by omega);refine qc rfl (qc (by rw [d];rfl) ?_);rw [qf,w1,d];rfl
  ·have hn:¬(((r,false,l):PS).2.1=true\/60<=((r,false,l):PS).2.2.length):=by
    intro hh;rcases hh with hh|hh
    ·exact absurd hh (by simp)
    ·exact h6 hh
   rw [if_neg hn];have d:decide (((l.length:Nat):Int)≥60)=false:=zd (by omega);refine qc rfl (qb (by rw [d];rfl) (qb rfl (qb (zD ⟨by simp,by decide,by decide,by simp;omega,rfl⟩) ?_)));rw [qf,w2,d];simp only [M6,List.map_append,zamO];rfl
theorem Q3 (v:V3) (p:PS) (h:p.2.2.length<=60):Ev (Dv · v.1 v.2.1 v.2.2 (BR p.1) p.2.2.length p.2.1 (p.2.2.map qo)) (M6 (Hn (nd1 v) p)):=by
 obtain ⟨n1,h1⟩:=VK (nd1 v) p h;refine ⟨n1+1,λn hn=>?_⟩;obtain ⟨k,rfl,hm⟩:=up1 hn;exact qa (h1 k (by omega)) rfl
theorem M2 {x:Nd} {p:PS} (h:Gd p) (hx:Wa x):Gd (Hn x p).2:=by
 unfold Hn;split
 ·exact ⟨h.r,h.n,h.s⟩
 ·rename_i hh;refine ⟨h.r,?_,λy hy=>?_⟩
  ·have:¬60<=p.2.2.length:=λe=>hh (.inr e)
   simp;omega
  ·simp at hy;rcases hy with hy|rfl
   ·exact h.s _ hy
   ·exact hx
theorem HP {w:List UInt8} {p:PS} (h:Gd p):Gd (qq w p).2:=by
 have:=PF w p;have h2:=Dj p.1;have h3:=h.r;refine ⟨by omega,?_,?_⟩
 ·unfold qq;split<;>exact h.n
 ·unfold qq;split<;>exact h.s
theorem L8 (w:List UInt8) (p:PS):Ev (DO · (BR w) (BR p.1) p.2.2.length p.2.1 (p.2.2.map qo)) ((qq w p).1,LG (qq w p).2):=by
 obtain ⟨n1,h1⟩:=Yt w p.1 p.2.2.length p.2.1 (p.2.2.map qo);refine ⟨n1,λn hn=>?_⟩;have h1:=h1 n hn;unfold qq;by_cases h:sgn (tb p.1)=w
 ·simp only [h,if_true,decide_true] at h1;rw [if_pos h];exact h1
 ·simp only [h,if_false,decide_false] at h1;rw [if_neg h];exact h1
theorem Zc (p:PS) (h:p.1.length<=1000):Ev (FK · (BR p.1) p.2.2.length p.2.1 (p.2.2.map qo)) (BR (wd (tb p.1)),LG (wr (tb p.1),p.2)):=eh p.1 _ _ _ h
theorem Zd (r:List UInt8):(wd r).length<=r.length:=by
 have:=congrArg List.length (wdr r);simp only [zamO] at this;omega
theorem io (r:List UInt8) (h:r.length<=1000):Ev (EX · (BR (wd (tb r)))) (Ej (BR (wd (tb r)))):=To _ (by rw [qv];have:=Zd (tb r);have:=Dj r;omega)
theorem sd (r:List UInt8) (h:r.length<=1000):Ev (DW · (BR (wd (tb r)))) (qz (BR (wd (tb r)))):=NT _ (by rw [qv];have:=Zd (tb r);have:=Dj r;omega)
theorem l7 (c:UInt8) (t:List UInt8):Lib.cut (c::t) [34]=if c=34 then ([],t,true) else (c::(Lib.cut t [34]).1,(Lib.cut t [34]).2.1,(Lib.cut t [34]).2.2):=by
 by_cases h:c=34
 ·subst h;rw [if_pos rfl];simp [Lib.cut,Lib.index,List.isPrefixOf]
 ·rw [if_neg h];have h':¬34=c:=λe=>h e.symm
  have g:=Lib.index_ge t [34];unfold Lib.cut;by_cases e:Lib.index t [34]= -1
  ·have:Lib.index (c::t) [34]= -1:=by simp [Lib.index,List.isPrefixOf,h',e]
   simp [this,e]
  ·have:Lib.index (c::t) [34]=Lib.index t [34]+1:=by simp [Lib.index,List.isPrefixOf,h',e]
   have p:0<=Lib.index t [34]:=by omega
   have p1:0<=Lib.index t [34]+1:=by omega
   have q:(Lib.index t [34]+1).toNat=(Lib.index t [34]).toNat+1:=by omega
   simp [this,p,p1,q]
theorem mr (acc t:List UInt8):F4 acc (34::34::t)=F4 (acc++ [34]) t:=(F4.eq_def acc _).trans (by simp)
theorem mu (acc t:List UInt8) (h:t.head?≠some 34):F4 acc (34::t)=some (acc,t):=by
 refine (F4.eq_def acc _).trans ?_;cases t with
 |nil=>simp
 |cons d t=>
  have:¬d=34:=λe=>h (by rw [e];rfl)
  simp [this]
theorem mw (acc t:List UInt8) {c:UInt8} (h:¬c=34):F4 acc (c::t)=F4 (acc++ [c]) t:=(F4.eq_def acc _).trans (by simp only [if_neg h])
theorem up3 {n n0:Nat} (h:n0+3<=n):∃m,n=m+3/\n0<=m:=⟨n-3,by omega,by omega⟩
theorem Yu:∀(r acc:List UInt8),F4 acc r=if (Lib.cut r [34]).2.2=true then (if (Lib.cut r [34]).2.1.head?=some 34 then F4 (acc++(Lib.cut r [34]).1++ [34]) (Lib.cut r [34]).2.1.tail else some (acc++(Lib.cut r [34]).1,(Lib.cut r [34]).2.1)) else none
 | [],acc=>by simp [F4,Lib.cut,Lib.index]
 |c::t,acc=>by
  rw [l7];by_cases h:c=34
  ·subst h;rw [if_pos rfl];by_cases e:t.head?=some 34
   ·obtain ⟨u,rfl⟩:∃u,t=34::u:=by
     cases t with
     |nil=>cases e
     |cons d u=>simp at e;subst e;exact ⟨u,rfl⟩
    rw [mr];simp
   ·rw [mu acc t e];simp [e]
  ·simp only [if_neg h];rw [mw acc t h,Yu t (acc++ [c])];simp
theorem cm:∀r:List UInt8,(Lib.cut r [34]).1.length+(Lib.cut r [34]).2.1.length<=r.length/\((Lib.cut r [34]).2.2=true->(Lib.cut r [34]).2.1.length<r.length)
 | []=>by simp [Lib.cut,Lib.index]
 |c::t=>by
  rw [l7];have ih:=cm t;split
  ·simp
  ·simp only [zamM];exact ⟨by omega,λh=>by have:=ih.2 h;omega⟩
theorem M3:∀(k:Nat) (acc r:List UInt8) {s t:List UInt8},r.length<=k->F4 acc r=some (s,t)->s.length<=acc.length+r.length+1
 |k,acc,[],s,t,hk,h=>by simp [F4] at h
 |0,acc,c::r,s,t,hk,h=>by simp at hk
 |k+1,acc,c::r,s,t,hk,h=>by
  simp only [zamM] at hk;unfold F4 at h;split at h
  ·cases r with
   |nil=>
    simp at h;rw [<-h.1];simp;omega
   |cons d r'=>
    simp only at h;split at h
    ·have:=M3 k _ r' (by simp at hk;omega) h;simp at this⊢;omega
    ·simp at h;rw [<-h.1];simp;omega
  ·have:=M3 k _ r (by omega) h;simp at this⊢;omega
theorem pd (m:Nat) (r:List UInt8) (h:r.length<=1000):Nq (m+1) (BR r) ⟨#[34]⟩=some (BR (Lib.cut r [34]).1,BR (Lib.cut r [34]).2.1,(Lib.cut r [34]).2.2):=by
 show bY (BR r) ⟨#[34]⟩=_;unfold bY;rw [if_pos (by rw [qv];omega),<-zao (BR r),D7];rfl
theorem Vb (n:Nat) (orig:BA) (m:Nat) (b:Bool) (rows:List (List PV)):∀(k:Nat) (r acc:List UInt8) (M:Nat),r.length<=k->acc.length+r.length<=1000->k+1<=M->
  zE (Hi (n+2)) M (BR acc,BR r,orig,m,b,rows)=some (match F4 acc r with
   |none=> .inl (-1,orig,m,true,rows)
   |some (s,t)=> .inr (BR s,BR t,orig,m,b,rows))
 |k,r,acc,0,h1,h2,h3=>by omega
 |k,r,acc,M+1,h1,h2,h3=>by
  have hc:=pd (n+1) r (by omega);have hl:=cm r;have hp:=Fh n (Lib.cut r [34]).2.1 [34];rw [Yu];cases hf:(Lib.cut r [34]).2.2 with
  |false=>
   rw [if_neg (by simp)];refine (qd (r:= .inl (-1,orig,m,true,rows)) ?_).trans rfl;refine qa hc (qb (by simp [hf]) rfl)
  |true=>
   rw [if_pos rfl];have hlt:=hl.2 hf;by_cases hh:(Lib.cut r [34]).2.1.head?=some 34
   ·rw [if_pos hh];have hb:List.isPrefixOf [34] (Lib.cut r [34]).2.1=true:=(IB 34 _).2 hh;obtain ⟨u,hu⟩:∃u,(Lib.cut r [34]).2.1=34::u:=by
     cases e:(Lib.cut r [34]).2.1 with
     |nil=>rw [e] at hh;cases hh
     |cons c u=>rw [e] at hh;simp at hh;subst hh;exact ⟨u,rfl⟩
    rw [hb] at hp;rw [qm (v':=(BR (acc++(Lib.cut r [34]).1++ [34]),BR (Lib.cut r [34]).2.1.tail,orig,m,b,rows)) (by
     refine qa hc (qc (by simp [hf]) (qb (zD (by rw [qv,qv];omega)) (qa hp (qc rfl (qb (zD (by rw [VI,qv,zamO];show _+1<=9223372036854775807;omega)) (qb (zD ⟨by decide,by simp only [qv];rw [hu];simp;omega,by simp [qv]⟩) ?_))))));rw [qf];simp only [VI,qv,Ko];rw [hu];simp;exact (VI (acc++(Lib.cut r [34]).1) [34]).trans (by rw [List.append_assoc]))]
    rw [hu] at hl hlt⊢;simp only [zamM] at hl hlt;refine Vb n orig m b rows (k-1) _ _ M (by simp;omega) (by simp;omega) (by omega)
   ·rw [if_neg hh];have hb:List.isPrefixOf [34] (Lib.cut r [34]).2.1=false:=by
     rw [aE];intro e;exact hh ((IB 34 _).1 e)
    rw [hb] at hp;refine (qd (r:= .inr (BR (acc++(Lib.cut r [34]).1),BR (Lib.cut r [34]).2.1,orig,m,b,rows)) ?_).trans rfl;refine qa hc (qc (by simp [hf]) (qb (zD (by rw [qv,qv];omega)) (qa hp (qb rfl ?_))));rw [qf,VI]
theorem eu (t:List UInt8) (b:Bool) (l:List Nd) (h:t.length<=999) (hl:l.length<=60):Ev (Ib · (BR (34::t)) l.length b (l.map qo)) (M6 (match F4 [] t with
   |none=>(-1,34::t,true,l)
   |some (s,t')=>Hn (nd1 (2,0,BR s)) (t',b,l))):=by
 have lp:=λn M (hM:t.length+1<=M)=>Vb n (BR (34::t)) l.length b (l.map qo) t.length t [] M (zK _) (by simp;omega) hM
 cases hq:F4 [] t with
 |none=>
  refine ⟨t.length+1+3,λn hn=>?_⟩;obtain ⟨m,rfl,hm⟩:=up3 hn;have lp:=lp m (m+2) (by omega);rw [hq] at lp;refine qb (zD ⟨by decide,by rw [qv];simp;omega,Int.le_refl _⟩) ?_;have e:(BR (34::t)).extract ((1:Int)).toNat ((((BR (34::t)).size:Nat):Int)).toNat=BR t:=by rw [Ko,qv];simp
  rw [e];exact qa lp rfl
 |some st=>
  obtain ⟨s,t'⟩:=st;obtain ⟨n1,h1⟩:=Q3 (2,0,BR s) (t',b,l) hl;refine ⟨n1+t.length+1+3,λn hn=>?_⟩;obtain ⟨m,rfl,hm⟩:=up3 hn;have lp:=lp m (m+2) (by omega);rw [hq] at lp;refine qb (zD ⟨by decide,by rw [qv];simp;omega,Int.le_refl _⟩) ?_;have e:(BR (34::t)).extract ((1:Int)).toNat ((((BR (34::t)).size:Nat):Int)).toNat=BR t:=by rw [Ko,qv];simp
  rw [e];exact qa lp (qa (h1 (m+2) (by omega)) rfl)
theorem my (m:Nat) (r:List UInt8) (w:BA):DY (m+1) (BR r) w=some (BR (if w.toList.isPrefixOf r=true then r.drop w.size else r),w.toList.isPrefixOf r):=by
 show zt (BR r) w=_;unfold zt Lib.trimPrefix Lib.hasPrefix;rw [<-zao (BR r),<-zao w,D7,Dz];rfl
theorem l8 {n:Nat} (deep:Int) (r:List UInt8) (b:Bool) (l:List Nd)
  (h1:∀i,0<=i/\i<=5->EW n i=some (qt i)) (h2:∀i,1<=i/\i<=5->F6 n i=some (4,i,em))
  (h3:∀w,DY n (BR r) w=some (BR (if w.toList.isPrefixOf r=true then r.drop w.size else r),w.toList.isPrefixOf r))
  (h4:∀i,1<=i/\i<=5->Dv n 4 i em (BR (r.drop (qt i).size)) l.length b (l.map qo)=some (M6 (Hn (nd1 (4,i,em)) (r.drop (qt i).size,b,l)))):
  ∀(k:Nat) (i:Int) (M:Nat),1<=i->i+k=6->k+1<=M->zE (Gf n) M (deep,i,BR r,l.length,b,l.map qo)=some (match NW r i k with
   |some e=> .inl (M6 (Hn (nd1 (4,e,em)) (r.drop (qt e).size,b,l)))
   |none=> .inr (deep,BR r,l.length,b,l.map qo))
 |k,i,0,_,_,h=>by omega
 |0,i,M+1,hi,hk,h=>by
  rw [qd (r:= .inr (deep,BR r,l.length,b,l.map qo)) (by exact qc (zd (show ¬i<=5 by omega)) rfl)];rfl
 |k+1,i,M+1,hi,hk,h=>by
  have hi5:1<=i/\i<=5:=⟨hi,by omega⟩;have c:=h3 (qt i);cases hq:(qt i).toList.isPrefixOf r with
  |true=>
   rw [hq,if_pos rfl] at c;unfold NW;rw [if_pos hq];refine qd (qb (zD (show i<=5 by omega)) (qa (h1 i ⟨by omega,by omega⟩) (qa c (qb rfl (qa (h2 i hi5) (qa (h4 i hi5) rfl))))))
  |false=>
   rw [hq,if_neg (by simp)] at c;unfold NW;rw [if_neg (by rw [hq];simp)];have w1:IntKind.i64.wrap (i+1)=i+1:=ql (by omega);rw [qm (v':=(deep,i+1,BR r,l.length,b,l.map qo)) (by refine qb (zD (show i<=5 by omega)) (qa (h1 i ⟨by omega,by omega⟩) (qa c (qc rfl ?_)));rw [qf,w1])];exact l8 deep r b l h1 h2 h3 h4 k (i+1) M (by omega) (by omega) (by omega)
theorem pf (deep:Int) (r:List UInt8) (b:Bool) (l:List Nd) (hl:l.length<=60):∃n0,∀n,n0<=n->∀M,n0<=M->zE (Gf n) M (deep,1,BR r,l.length,b,l.map qo)=some (match NW r 1 5 with
   |some e=> .inl (M6 (Hn (nd1 (4,e,em)) (r.drop (qt e).size,b,l)))
   |none=> .inr (deep,BR r,l.length,b,l.map qo)):=by
 obtain ⟨n1,h1⟩:=L5 (F:=EW) (f:=qt) (lo:=0) (by decide) KG;obtain ⟨n2,h2⟩:=L5 (F:=F6) (f:=λi=>(4,i,em)) (lo:=1) (by decide) (λi _=>R5 i);obtain ⟨n4,h4⟩:=L5 (F:=λn i=>Dv n 4 i em (BR (r.drop (qt i).size)) l.length b (l.map qo)) (f:=λi=>M6 (Hn (nd1 (4,i,em)) (r.drop (qt i).size,b,l))) (lo:=1) (by decide) (λi _=>Q3 (4,i,em) (r.drop (qt i).size,b,l) hl);refine ⟨n1+n2+n4+7,λn hn M hM=>?_⟩;exact l8 deep r b l (h1 n (by omega)) (h2 n (by omega)) (λw=>by
  obtain ⟨m,rfl,_⟩:=up1 (show n1+1<=n by omega);exact my m r w) (h4 n (by omega)) 5 1 M (by omega) (by omega) (by omega)
theorem co {g:G_impl_reader_binary} {n:Nat} (deep:Int) (w:List UInt8) (p:PS) (res:Int->Int×PS) (h1:∀i,1<=i/\i<=10->Gi n i=some (fnS i)):
  ∀(k:Nat) (i:Int) (M:Nat),1<=i->i+k=11->k+1<=M->(∀op,LE w i k=some op->g.impl_reader_call op deep (BR p.1) p.2.2.length p.2.1 (p.2.2.map qo)=some (M6 (res op)))->
   zE (Eb g n) M (deep,BR w,i,BR p.1,p.2.2.length,p.2.1,p.2.2.map qo)=some (match LE w i k with
   |some op=> .inl (M6 (res op))
   |none=> .inr (LG p))
 |k,i,0,_,_,h,_=>by omega
 |0,i,M+1,hi,hk,h,_=>by
  rw [qd (r:= .inr (LG p)) (by exact qc (zd (show ¬i<=10 by omega)) rfl)];rfl
 |k+1,i,M+1,hi,hk,h,hc=>by
  unfold LE at hc⊢;by_cases hq:(fnS i).toList=w
  ·rw [if_pos hq] at hc⊢;refine qd (qb (zD (show i<=10 by omega)) (qa (h1 i ⟨hi,by omega⟩) (qb (by simp [D7,hq]) (qa (hc i rfl) rfl))))
  ·rw [if_neg hq] at hc⊢;have w1:IntKind.i64.wrap (i+1)=i+1:=ql (by omega);have hq':¬w=(fnS i).toList:=λe=>hq e.symm
   rw [qm (v':=(deep,BR w,i+1,BR p.1,p.2.2.length,p.2.1,p.2.2.map qo)) (by refine qb (zD (show i<=10 by omega)) (qa (h1 i ⟨hi,by omega⟩) (qc (by simp [D7,hq']) ?_));rw [qf,w1])];exact co deep w p res h1 k (i+1) M (by omega) (by omega) (by omega) hc
theorem pg:∃n0,∀n,n0<=n->∀i,1<=i/\i<=10->Gi n i=some (fnS i):=by
 obtain ⟨n1,h1⟩:=Eu (F:=λ(i:Nat) n=>Gi n ((i:Int)+1)) (f:=λi=>fnS ((i:Int)+1)) (List.range 10) (λi hi=>Qz _ (by have:=List.mem_range.1 hi;omega));refine ⟨n1,λn hn i hi=>?_⟩;have:=h1 n hn (i-1).toNat (List.mem_range.2 (by omega))
 rwa [show (((i-1).toNat:Nat):Int)+1=i by omega] at this
theorem pi:∃n0,∀n,n0<=n->∀i,1<=i/\i<=11->FW n i=some (DJ i):=by
 obtain ⟨n1,h1⟩:=Eu (F:=λ(i:Nat) n=>FW n ((i:Int)+1)) (f:=λi=>DJ ((i:Int)+1)) (List.range 11) (λi hi=>M0 _ (by have:=List.mem_range.1 hi;omega));refine ⟨n1,λn hn i hi=>?_⟩;have:=h1 n hn (i-1).toNat (List.mem_range.2 (by omega))
 rwa [show (((i-1).toNat:Nat):Int)+1=i by omega] at this
def opF (s:List UInt8):Int->Int->Nat->Int
 |op,_,0=>op
 |op,i,k+1=>opF s (if s=(DJ i).toList then i else op) (i+1) k
theorem pj (r:List UInt8):opF (sgn r) 0 1 11=EE r:=by
 unfold EE;generalize sgn r=s;by_cases h1:s= [43]; · subst h1;decide+kernel
 by_cases h2:s= [45]; · subst h2;decide+kernel
 by_cases h3:s= [42]; · subst h3;decide+kernel
 by_cases h4:s= [47]; · subst h4;decide+kernel
 by_cases h5:s= [38]; · subst h5;decide+kernel
 by_cases h6:s= [61]; · subst h6;decide+kernel
 by_cases h7:s= [60,62]; · subst h7;decide+kernel
 by_cases h8:s= [60]; · subst h8;decide+kernel
 by_cases h9:s= [60,61]; · subst h9;decide+kernel
 by_cases h10:s= [62]; · subst h10;decide+kernel
 by_cases h11:s= [62,61]; · subst h11;decide+kernel
 rw [if_neg h1,if_neg h2,if_neg h3,if_neg h4,if_neg h5,if_neg h6,if_neg h7,if_neg h8,if_neg h9,if_neg h10,if_neg h11];rw [<-sg1] at h1;rw [<-sg2] at h2;rw [<-sg3] at h3;rw [<-sg4] at h4;rw [<-sg5] at h5;rw [<-sg6] at h6;rw [<-sg7] at h7;rw [<-sg8] at h8;rw [<-sg9] at h9;rw [<-ag] at h10;rw [<-ah] at h11;simp only [opF,if_neg h1];simp only [show (1:Int)+1=2 from rfl,if_neg h2,show (2:Int)+1=3 from rfl,if_neg h3,show (3:Int)+1=4 from rfl,if_neg h4,show (4:Int)+1=5 from rfl,if_neg h5,show (5:Int)+1=6 from rfl,if_neg h6,show (6:Int)+1=7 from rfl,if_neg h7,show (7:Int)+1=8 from rfl,if_neg h8,show (8:Int)+1=9 from rfl,if_neg h9,show (9:Int)+1=10 from rfl,if_neg h10,show (10:Int)+1=11 from rfl,if_neg h11]
theorem l9 {n:Nat} (least deep a op i:Int) (r R:List UInt8) (m:Nat) (b:Bool) (rows:List (List PV)) (hi:1<=i/\i<=11)
  (h1:Fv n (BR r) m b rows=some (BR (sgn R),BR R,m,b,rows)) (h2:FW n i=some (DJ i)):
  (FD n (least,deep,a,op,i,BR r,m,b,rows)).run=some (.inl (least,deep,a,if sgn R=(DJ i).toList then i else op,i+1,BR R,m,b,rows)):=by
 have w1:IntKind.i64.wrap (i+1)=i+1:=ql (by omega);refine qb (zD (show i<=11 by omega)) (qa h1 (qa h2 ?_));by_cases hq:sgn R=(DJ i).toList
 ·rw [if_pos hq];exact qb (by simp [D7,hq]) (by rw [qf,w1])
 ·rw [if_neg hq];exact qc (by simp [D7,hq]) (by rw [qf,w1])
theorem m7 {n:Nat} (least deep a:Int) (R:List UInt8) (m:Nat) (b:Bool) (rows:List (List PV))
  (h1:Fv n (BR R) m b rows=some (BR (sgn R),BR R,m,b,rows)) (h2:∀i,1<=i/\i<=11->FW n i=some (DJ i)):
  ∀(k:Nat) (op i:Int) (M:Nat),1<=i->i+k=12->k+1<=M->zE (FD n) M (least,deep,a,op,i,BR R,m,b,rows)=some (least,deep,a,opF (sgn R) op i k,BR R,m,b,rows)
 |k,op,i,0,_,_,h=>by omega
 |0,op,i,M+1,hi,hk,h=>by
  rw [qd (r:=(least,deep,a,op,BR R,m,b,rows)) (by exact qc (zd (show ¬i<=11 by omega)) rfl)];rfl
 |k+1,op,i,M+1,hi,hk,h=>by
  rw [qm (l9 least deep a op i R R m b rows ⟨hi,by omega⟩ h1 (h2 i ⟨hi,by omega⟩))];exact m7 least deep a R m b rows h1 h2 k _ (i+1) M (by omega) (by omega) (by omega)
theorem mz (least deep a:Int) (r:List UInt8) (m:Nat) (b:Bool) (rows:List (List PV)):∃n0,∀n,n0<=n->∀M,n0<=M->zE (FD n) M (least,deep,a,0,1,BR r,m,b,rows)=some (least,deep,a,EE (tb r),BR (tb r),m,b,rows):=by
 obtain ⟨n1,h1⟩:=VJ r m b rows;obtain ⟨n2,h2⟩:=VJ (tb r) m b rows;obtain ⟨n3,h3⟩:=pi;refine ⟨n1+n2+n3+20,λn hn M hM=>?_⟩;obtain ⟨M,rfl,hM⟩:=up1 hM;have h2:=h2 n (by omega);rw [G5] at h2;rw [qm (l9 least deep a 0 1 r (tb r) m b rows (by omega) (h1 n (by omega)) (h3 n (by omega) 1 (by omega)))];rw [show (1:Int)+1=2 from rfl,m7 least deep a (tb r) m b rows h2 (h3 n (by omega)) 10 _ 2 M (by omega) (by omega) (by omega),<-pj];rfl
theorem cp {p:PS} (h:Gd p):Gd (Et p).2/\(Et p).2.1.length<=p.1.length/\∀x,(Et p).1=some x->Wa x:=by
 have h1:=Dj p.1;have h2:=M1 (tb p.1);have h0:=h.r;unfold Et;simp only;split
 ·have h3:=PF [58] (wr (tb p.1),p.2);have h4:=Dj (qq [58] (wr (tb p.1),p.2)).2.1;have h5:=M1 (tb (qq [58] (wr (tb p.1),p.2)).2.1);have h6:=Dj (wr (tb p.1));have e:(qq [58] (wr (tb p.1),p.2)).2.2.2=p.2.2:=by unfold qq;split<;>rfl
  simp only at h3;refine ⟨⟨by simp only;omega,by rw [e];exact h.n,by rw [e];exact h.s⟩,by simp only;omega,λx hx=>?_⟩;cases hx;exact ⟨by simp [kd,ndA],by simp [ndA,em];decide⟩
 ·exact ⟨h,zK _,λx hx=>by cases hx⟩
theorem nf (p:PS) (h:p.1.length<=1000):∃x:Nd,(∀y,(Et p).1=some y->x=y)/\Ev (Hu · (BR p.1) p.2.2.length p.2.1 (p.2.2.map qo)) (x.1,x.2.1,x.2.2.1,x.2.2.2.1,x.2.2.2.2.1,x.2.2.2.2.2.1,x.2.2.2.2.2.2.1,x.2.2.2.2.2.2.2.1,x.2.2.2.2.2.2.2.2.1,x.2.2.2.2.2.2.2.2.2.1,x.2.2.2.2.2.2.2.2.2.2.1,x.2.2.2.2.2.2.2.2.2.2.2.1,x.2.2.2.2.2.2.2.2.2.2.2.2.1,(kd x).map Eo,(Et p).1.isSome,LG (Et p).2):=by
 have l1:=Dj p.1;have l2:=M1 (tb p.1);have l3:=PF [58] (wr (tb p.1),p.2);have l6:=Dj (wr (tb p.1));simp only at l3;obtain ⟨n1,h1⟩:=Zc p h;obtain ⟨n2,h2⟩:=io p.1 h;obtain ⟨n3,h3⟩:=L8 [58] (wr (tb p.1),p.2);have hle:(qq [58] (wr (tb p.1),p.2)).2.1.length<=1000:=by omega
 obtain ⟨n4,h4⟩:=Zc (qq [58] (wr (tb p.1),p.2)).2 hle;obtain ⟨n5,h5⟩:=io (qq [58] (wr (tb p.1),p.2)).2.1 hle;have e:(qq [58] (wr (tb p.1),p.2)).2.2=p.2:=by unfold qq;split<;>rfl
 unfold Et;simp only;by_cases hc:(Ej (BR (wd (tb p.1)))).2.2.2.2=true/\(qq [58] (wr (tb p.1),p.2)).1=true
 ·rw [if_pos hc];refine ⟨_,λy hy=>by cases hy;rfl,n1+n2+n3+n4+n5+1,λn hn=>?_⟩;obtain ⟨k,rfl,hm⟩:=up1 hn;refine qa (h1 k (by omega)) (qa (h2 k (by omega)) (qb hc.1 (qa (h3 k (by omega)) (qc (by simp only;rw [hc.2];rfl) (qa (h4 k (by omega)) (qa (h5 k (by omega)) ?_))))));cases hb:(qq [58] (wr (tb p.1),p.2)).2.2.1 with
  |true=>
   refine qb hb ?_;rw [qf];rfl
  |false=>
   refine qc hb ?_;rw [qf];rfl
 ·rw [if_neg hc];refine ⟨(0,0,0,0,⟨#[]⟩,0,0,false,false,0,0,false,false,[]),λy hy=>(by cases hy),n1+n2+n3+1,λn hn=>?_⟩;obtain ⟨k,rfl,hm⟩:=up1 hn;cases hr:(Ej (BR (wd (tb p.1)))).2.2.2.2 with
  |false=>exact qa (h1 k (by omega)) (qa (h2 k (by omega)) (qc hr rfl))
  |true=>
   have ht:(qq [58] (wr (tb p.1),p.2)).1=false:=by
    rw [aE];exact λe=>hc ⟨hr,e⟩
   refine qa (h1 k (by omega)) (qa (h2 k (by omega)) (qb hr (qa (h3 k (by omega)) (qb (by simp only;rw [ht];rfl) ?_))));rw [qf];simp only [LG,e];rfl
theorem Q4 {s:BA} (h:(qz s).2.2.2=true) (hk:(qz s).1=1\/(qz s).1=3):(qz s).2.2.1.size<=2000:=by
 unfold qz at h hk⊢;split at h
 ·rename_i hc;rw [if_pos hc] at hk⊢;have h1:=hc.1;unfold okV at h1;have h2:¬(En s).1=2:=by
   simp only at hk;omega
  rw [if_neg h2] at h1;simp only [zL,zanG] at h1;have:=congrArg List.length h1.1;rw [Dz] at this;have h0:(En s).2.2.size=0:=this;show (En s).2.2.size<=2000;omega
 ·cases h
def Kj:PJ->PS->Prop
 | .args _ _ kids,p=>kids.length+p.1.length<=1500
 |_,_=>True
theorem RG {w:List UInt8} {p:PS} (h:Gd p):Gd (Gb w p)/\(Gb w p).1.length<=p.1.length:=by
 have h1:=PF w p;have h2:=Dj p.1;unfold Gb;split
 ·exact ⟨h,zK _⟩
 ·split
  ·exact ⟨HP h,by omega⟩
  ·exact ⟨⟨(HP h).r,(HP h).n,(HP h).s⟩,by show (qq w p).2.1.length<=_;omega⟩
theorem Ty {p:PS} {r:List UInt8} (h:Gd p) (hr:r.length<=p.1.length):Gd (r,p.2):=⟨by have:=h.r;simp only;omega,h.n,h.s⟩
theorem KY:∀(f:Nat) (j:PJ) (p:PS),Gd p->Kj j p->Gd (pP f j p).2/\(pP f j p).2.1.length<=p.1.length
 |0,j,p,h,_=>⟨h,zK _⟩
 |f+1,.bin least deep,p,h,_=>by
  unfold pP;have a:=KY f (.un deep) p h trivial;have b:=KY f (.loop least deep (pP f (.un deep) p).1) (pP f (.un deep) p).2 a.1 trivial;exact ⟨b.1,zS b.2 a.2⟩
 |f+1,.loop least deep a,p,h,_=>by
  have h1:=Dj p.1;unfold pP;split
  ·exact ⟨h,zK _⟩
  ·split
   ·exact ⟨Ty h h1,h1⟩
   ·have l1:((tb p.1).drop (sgn (tb p.1)).length).length<=p.1.length:=by simp;omega
    have b:=KY f (.bin (lvl (EE (tb p.1))+1) deep) ((tb p.1).drop (sgn (tb p.1)).length,p.2) (Ty h l1) trivial;simp only;have c:=M2 (x:=ndK 5 (EE (tb p.1)) [a,(pP f (.bin (lvl (EE (tb p.1))+1) deep) ((tb p.1).drop (sgn (tb p.1)).length,p.2)).1]) b.1 ⟨by simp [kd,ndK],by simp [ndK,em];decide⟩;have d:=KY f (.loop least deep (Hn (ndK 5 (EE (tb p.1)) [a,(pP f (.bin (lvl (EE (tb p.1))+1) deep) ((tb p.1).drop (sgn (tb p.1)).length,p.2)).1]) (pP f (.bin (lvl (EE (tb p.1))+1) deep) ((tb p.1).drop (sgn (tb p.1)).length,p.2)).2).1) _ c trivial;refine ⟨d.1,zS d.2 ?_⟩;rw [E0];exact zS b.2 l1
 |f+1,.un deep,p,h,_=>by
  have h1:=Dj p.1;have h2:=PF [45] p;unfold pP;split
  ·exact ⟨⟨h.r,h.n,h.s⟩,zK _⟩
  ·split
   ·simp only;have b:=KY f (.un (deep+1)) (qq [45] p).2 (HP h) trivial;refine ⟨M2 b.1 ⟨by simp [kd,ndK],by simp [ndK,em];decide⟩,?_⟩;rw [E0];exact zS b.2 (by omega)
   ·have b:=KY f (.at deep) (qq [45] p).2 (HP h) trivial;exact ⟨b.1,zS b.2 (by omega)⟩
 |f+1,.at deep,p,h,_=>by
  have h1:=Dj p.1;have h2:=PF [40] p;have h3:=M1 (tb p.1);have h4:=h.r;have g2:Gd (wr (tb p.1),p.2):=Ty h (by omega);unfold pP;simp only;split
  ·split
   ·exact ⟨⟨by simp only;omega,h.n,h.s⟩,h1⟩
   ·rename_i hh _ s t hq;have a:=RE _ _ hq;have b:=M3 _ _ _ (zK _) hq;simp only [List.length_tail,zanD] at a b;refine ⟨M2 (Ty h (by omega)) ⟨by simp [kd,nd1],by simp only [nd1,qv];omega⟩,?_⟩;rw [E0];simp only;omega
  ·split
   ·refine ⟨M2 (Ty h (by simp;omega)) ⟨by simp [kd,nd1],by simp [nd1,em];decide⟩,?_⟩;rw [E0];simp;omega
   ·split
    ·have b:=KY f (.bin 1 (deep+1)) (qq [40] p).2 (HP h) trivial;have c:=RG (w:= [41]) b.1;exact ⟨c.1,zS c.2 (zS b.2 (by omega))⟩
    ·split
     ·rename_i hv;refine ⟨M2 g2 ⟨by simp [kd,nd1],Q4 hv.1 hv.2⟩,?_⟩;rw [E0];simp only;omega
     ·split
      ·refine ⟨M2 g2 ⟨by simp [kd,ndC],by simp [ndC,em];decide⟩,?_⟩;rw [E0];simp only;omega
      ·split
       ·rename_i op _;have b:=KY f (.call op deep) (wr (tb p.1),p.2) g2 trivial;exact ⟨b.1,zS b.2 (by simp only;omega)⟩
       ·exact ⟨⟨g2.r,g2.n,g2.s⟩,by show (wr (tb p.1)).length<=_;omega⟩
 |f+1,.call op deep,p,h,_=>by
  unfold pP;have a:=RG (w:= [40]) h;have b:=KY f (.args op deep []) (Gb [40] p) a.1 (by have:=a.1.r;show 0+_<=_;omega);exact ⟨b.1,zS b.2 a.2⟩
 |f+1,.args op deep kids,p,h,hk=>by
  replace hk:kids.length+p.1.length<=1500:=hk
  unfold pP;split
  ·refine ⟨M2 h ⟨by simp [kd,ndK];omega,by simp [ndK,em];decide⟩,?_⟩;rw [E0];exact zK _
  ·simp only;have a:=cp h;have qg:Gd (Ik (Et p) (λp=>pP f (.bin 1 (deep+1)) p)).2/\(Ik (Et p) (λp=>pP f (.bin 1 (deep+1)) p)).2.1.length<=p.1.length:=by
    unfold Ik;split
    ·rename_i x hx;refine ⟨M2 a.1 (a.2.2 x hx),?_⟩;rw [E0];exact a.2.1
    ·have b:=KY f (.bin 1 (deep+1)) (Et p).2 a.1 trivial;exact ⟨b.1,zS b.2 a.2.1⟩
   generalize Ik (Et p) (λp=>pP f (.bin 1 (deep+1)) p)=q at qg⊢;have t0:=qg.2;have t1:=Dj q.2.1;have t2:=PF [44] q.2;split
   ·rename_i ht;have t3:=Il (by simp) ht;have b:=KY f (.args op deep (kids++ [q.1])) (qq [44] q.2).2 (HP qg.1) (by show (kids++ [q.1]).length+_<=_;simp;omega);exact ⟨b.1,zS b.2 (by omega)⟩
   ·have c:=RG (w:= [41]) (HP (w:= [44]) qg.1);refine ⟨M2 c.1 ⟨by simp [kd,ndK];omega,by simp [ndK,em];decide⟩,?_⟩;rw [E0];exact zS c.2 (by omega)
def Ad (f:Nat):PJ->PS->Prop
 | .bin _ _,p=>20*(tb p.1).length+6<=f
 | .loop _ _ _,p=>20*(tb p.1).length+5<=f
 | .un _,p=>20*(tb p.1).length+4<=f
 | .at _,p=>20*(tb p.1).length+3<=f/\p.2.1=false
 | .call _ _,p=>20*(tb p.1).length+9<=f
 | .args _ _ _,p=>20*(tb p.1).length+8<=f
def Jd:PJ->Prop
 | .bin _ d=>0<=d/\d<=401
 | .loop _ d _=>0<=d/\d<=401
 | .un d=>0<=d/\d<=401
 | .at d=>0<=d/\d<=400
 | .call _ d=>0<=d/\d<=400
 | .args _ d _=>0<=d/\d<=400
def Wk:PJ->PS->Int×PS->Prop
 | .bin least deep,p,r=>Ev (HL · least deep (BR p.1) p.2.2.length p.2.1 (p.2.2.map qo)) (M6 r)
 | .loop least deep a,p,r=>∃n0,∀n,n0<=n->∀M,n0<=M->zE (Hj (qn n) n) M (least,deep,a,LG p)=some (M6 r)
 | .un deep,p,r=>Ev (Lu · deep (BR p.1) p.2.2.length p.2.1 (p.2.2.map qo)) (M6 r)
 | .at deep,p,r=>Ev (Mf · deep (BR p.1) p.2.2.length p.2.1 (p.2.2.map qo)) (M6 r)
 | .call op deep,p,r=>Ev (Gr · op deep (BR p.1) p.2.2.length p.2.1 (p.2.2.map qo)) (M6 r)
 | .args op deep kids,p,r=>∃(ks:List Int) (p':PS),r=Hn (ndK 6 op ks) p'/\Gd p'/\ks.length<=1501/\∃n0,∀n,n0<=n->∀M,n0<=M->
   zE (Gz (qn n) n) M (op,deep,kids.length,kids.map Eo,LG p)=some (op,ks.length,ks.map Eo,LG p')
theorem Tz (w:List UInt8) {p:PS} (h:p.2.1=false):(BR (qq w p).2.1,(qq w p).2.2.2.length,!(qq w p).1,(qq w p).2.2.2.map qo)=LG (Gb w p):=by
 have e:(qq w p).2.2=p.2:=by unfold qq;split<;>rfl
 unfold Gb;rw [if_neg (by rw [h];simp)];cases hc:(qq w p).1 with
 |true=>rw [if_pos rfl];simp only [LG,e,h];rfl
 |false=>rw [if_neg (by simp)];rfl
theorem Ze {r w:List UInt8} (hw:w≠ []) (h:w<+:r):(tb (r.drop w.length)).length<r.length:=by
 have h1:=Dj (r.drop w.length);have h2:=h.length_le;have h3:0<w.length:=List.length_pos_iff.2 hw;simp only [List.length_drop] at h1;omega
theorem se {r:List UInt8} (h:EE r≠0):1<=EE r/\EE r<=11/\sgn r=(DJ (EE r)).toList/\sgn r≠ []:=by
 rcases cj r with e|⟨a,b,c⟩
 ·exact absurd e h
 ·refine ⟨a,b,c,λe=>h ?_⟩;unfold EE;rw [e];decide
def T0 (f:Nat) (deep:Int) (w:List UInt8) (p2:PS):Int×PS:=
 if (qz (BR w)).2.2.2=true/\((qz (BR w)).1=1\/(qz (BR w)).1=3) then Hn (nd1 ((qz (BR w)).1,(qz (BR w)).2.1,(qz (BR w)).2.2.1)) p2
 else if (Ej (BR w)).2.2.2.2=true then Hn (ndC (Ej (BR w))) p2
 else match LE w 1 10 with
 |some op=>pP f (.call op deep) p2
 |none=>(-1,af p2)
def am (g:G_impl_reader_binary) (n:Nat) (deep:Int) (w:BA) (c:BA×Nat×Bool×List (List PV)):Tr (Int×BA×Nat×Bool×List (List PV)):=
 (.opt (EX n w) λr=>(.ask r.2.2.2.2
  (.opt (EB n 2 0 0 0 ⟨#[]⟩ r.1 r.2.1 r.2.2.1 r.2.2.2.1 0 0 false false [] c.1 c.2.1 c.2.2.1 c.2.2.2) λs=> .done (s.1,s.2.1,s.2.2.1,s.2.2.2.1,s.2.2.2.2))
  (.opt (zE (Eb g n) n (deep,w,1,c.1,c.2.1,c.2.2.1,c.2.2.2)) λs=>(.alt s (λt=> .done (t.1,t.2.1,t.2.2.1,t.2.2.2.1,t.2.2.2.2)) (λt=> .done (-1,t.1,t.2.1,true,t.2.2.2))))))
def om (g:G_impl_reader_binary) (n:Nat) (deep:Int) (w:BA) (c:BA×Nat×Bool×List (List PV)):Tr (Int×BA×Nat×Bool×List (List PV)):=
 (.opt (DW n w) λr=>(.ask r.2.2.2
  (.ask (r.1==1) (.opt (Dv n r.1 r.2.1 r.2.2.1 c.1 c.2.1 c.2.2.1 c.2.2.2) λs=> .done (s.1,s.2.1,s.2.2.1,s.2.2.2.1,s.2.2.2.2))
   (.ask (r.1==3) (.opt (Dv n r.1 r.2.1 r.2.2.1 c.1 c.2.1 c.2.2.1 c.2.2.2) λs=> .done (s.1,s.2.1,s.2.2.1,s.2.2.2.1,s.2.2.2.2))
    (am g n deep w c)))
  (am g n deep w c)))
end Go.Proofs.YtilkdjfhbahhdabGreatDoor.KFnCircles

