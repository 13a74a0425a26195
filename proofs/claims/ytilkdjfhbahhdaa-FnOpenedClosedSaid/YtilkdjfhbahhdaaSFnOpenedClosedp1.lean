import Derived.Test.YtilkdjfhbahhdaaTFnOpenedClosed
import Derived.Test.YtilkdjfhbahhdaaE32
import Derived.Lib.Strings
import Derived.Test.YtilkdjfhbahhdaaE34
namespace Go.Proofs.Ytilkdjfhbahhdaa.KFnOpenedClosed
open Go.Eng
set_option linter.unusedVariables false
set_option linter.unusedSimpArgs false
abbrev zao:= @Go.Lib.toList_data
def Ev {R:Type} (F:Nat->Option R) (r:R):Prop:=∃n0,∀n,n0<=n->F n=some r
theorem Dk (s:BA):s.toList.length=s.size:=by rw [zao];rfl
theorem EM:(ByteArray.mk #[]).toList= []:=by decide+kernel
theorem qn {x:Int} (h: -9223372036854775808<=x/\x<=9223372036854775807):IntKind.i64.wrap x=x:=by
 unfold IntKind.wrap;have e1:(2:Int)^(64-1)=9223372036854775808:=by decide
 have e2:(2:Int)^64=18446744073709551616:=by decide
 simp only [IntKind.signed,IntKind.bits,Bool.true_and,aZ,e1,e2];split<;>omega
theorem MC (x:Int): -9223372036854775808<=IntKind.i64.wrap x/\IntKind.i64.wrap x<=9223372036854775807:=by
 unfold IntKind.wrap;have e1:(2:Int)^(64-1)=9223372036854775808:=by decide
 have e2:(2:Int)^64=18446744073709551616:=by decide
 simp only [IntKind.signed,IntKind.bits,Bool.true_and,aZ,e1,e2];split<;>omega
theorem OZ {s:BA} {i:Nat} (h:i<s.size):∃c,s.toList[i]?=some c:=⟨_,zc (by rw [Dk];exact h)⟩
theorem Ia {α:Type} {s:List α} {i:Nat} {c:α} (h:s[i]?=some c):s.drop i=c::s.drop (i+1):=by
 obtain ⟨h1,rfl⟩:=zamJ.1 h;exact List.drop_eq_getElem_cons h1
theorem qu {V R:Type} {B:V->Tr (V⊕R)} {m:Nat} {v v':V} (h:(B v).run=some (.inl v')):zL B (m+1) v=zL B m v':=by simp only [zL,h]
theorem qd {V R:Type} {B:V->Tr (V⊕R)} {m:Nat} {v:V} {r:R} (h:(B v).run=some (.inr r)):zL B (m+1) v=some r:=by simp only [zL,h]
theorem up1 {n n0:Nat} (h:n0+1<=n):∃m,n=m+1/\n0<=m:=⟨n-1,by omega,by omega⟩
theorem Da {α:Type} (x:α):(Tr.done x).run=some x:=rfl
theorem Qq {α:Type}:(Tr.fail:Tr α).run=none:=rfl
theorem RE {α:Type} (b:Bool) (t f:Tr α):(Tr.ask b t f).run=if b=true then t.run else f.run:=by cases b<;>rfl
theorem RF {α β:Type} (o:Option β) (k:β->Tr α):(Tr.opt o k).run=o.bind λx=>(k x).run:=by cases o<;>rfl
theorem RG {α β γ:Type} (x:β) (k:β->Tr α) (l:γ->Tr α):(Tr.alt (.inl x) k l).run=(k x).run:=rfl
theorem RH {α β γ:Type} (x:γ) (k:β->Tr α) (l:γ->Tr α):(Tr.alt (.inr x) k l).run=(l x).run:=rfl
theorem De {α R:Type} {F:α->Nat->Option R} {f:α->R}:∀(l:List α),(∀c∈l,Ev (F c) (f c))->∃n0,∀n,n0<=n->∀c∈l,F c n=some (f c)
 | [],_=>⟨0,λn _ c hc=>by cases hc⟩
 |a::l,h=>by
  obtain ⟨n1,h1⟩:=h a (zamN ..);obtain ⟨n2,h2⟩:=De l λc hc=>h c (zamR _ hc)
  exact ⟨n1+n2,λn hn c hc=>by
   rcases zamT.1 hc with rfl|hc
   ·exact h1 n (by omega)
   ·exact h2 n (by omega) c hc⟩
theorem PF {R:Type} {B:RW×RW×Int->Tr ((RW×RW×Int)⊕R)} {rows:RW} {r:R}
  (hs:∀(i:Nat) (e:List PV),rows[i]?=some e->(B (rows,rows,(i:Int))).run=some (.inl (rows,rows,((i+1:Nat):Int)))) (he:(B (rows,rows,(rows.length:Int))).run=some (.inr r)):
  ∀(m i M:Nat),rows.length=i+m->m+1<=M->zL B M (rows,rows,(i:Int))=some r
 |m,i,0,h1,h2=>by omega
 |0,i,M+1,h1,h2=>by
  have hi:i=rows.length:=by omega
  subst hi;rw [qd he]
 |m+1,i,M+1,h1,h2=>by
  have hg:=zc (l:=rows) (i:=i) (by omega);rw [qu (hs i _ hg)];exact PF hs he m (i+1) M (by omega) (by omega)
theorem qa {α β:Type} {o:Option β} {x:β} {k:β->Tr α} {y:Option α} (h:o=some x) (h2:(k x).run=y):(Tr.opt o k).run=y:=by rw [h];exact h2
theorem qb {α:Type} {b:Bool} {t f:Tr α} {y:Option α} (h:b=true) (h2:t.run=y):(Tr.ask b t f).run=y:=by rw [h];exact h2
theorem qh {α:Type} {b:Bool} {t f:Tr α} {y:Option α} (h:b=false) (h2:f.run=y):(Tr.ask b t f).run=y:=by rw [h];exact h2
theorem QL (b:Bool):aN (⟨(.c (.p (.b b))),[],[]⟩:Res)=true:=rfl
theorem RI (x:Int):aN (⟨(.c (.p (.i .i64 x))),[],[]⟩:Res)=true:=rfl
theorem RJ (x:BA):aN (⟨(.c (.p (.s x))),[],[]⟩:Res)=true:=rfl
abbrev qj:=And.intro @Da (And.intro @Qq (And.intro @RE (And.intro @RF (And.intro @RG (And.intro @RH (And.intro @zw.{0,0} (And.intro @QL (And.intro @RI (@RJ)))))))))
theorem Dl (x lo hi:Int):Ev (Cy · x lo hi) (decide (lo<=x/\x<=hi)):=by
 refine ⟨1,λn hn=>?_⟩;obtain ⟨m,rfl,hm⟩:=up1 hn;simp only [Cy,Hl,qj];by_cases h:x≥lo<;>simp [h]
theorem Cv (x lo hi:Int):Ev (Cp · x lo hi) (decide (lo<=x/\x<=hi)):=by
 refine ⟨1,λn hn=>?_⟩;obtain ⟨m,rfl,hm⟩:=up1 hn;simp only [Cp,H2,qj];by_cases h:x≥lo<;>simp [h]
def okc (c:UInt8):Bool:=decide (32<=c.toNat/\c.toNat<=126)
def HJ (s:BA) (most:Int):Bool:=s.toList.all okc&&decide ((s.size:Int)<=most)
def okV (k n:Int) (s:BA):Bool:=
 if k=2 then decide (n=0)&&HJ s 200 else (s.toList== [])&&(if k=0 then decide (n=0) else if k=1 then decide (-1000000000000000<=n/\n<=1000000000000000) else if k=3 then decide (0<=n/\n<=1) else if k=4 then decide (1<=n/\n<=5) else false)
theorem LH (n:Nat) (s:BA) (hb:s.size<=140737488355328):∀(m i M:Nat),s.size=i+m->m+1<=M->
  zL (Dh n) M (s,(i:Int))=some (if (s.toList.drop i).all okc then .inr s else .inl false)
 |m,i,0,h1,h2=>by omega
 |0,i,M+1,h1,h2=>by
  rw [qd (r:= .inr s) (by simp [Dh,qj,show ¬((i:Int)<s.size) by omega])];rw [List.drop_eq_nil_of_le (by rw [Dk];omega)];rfl
 |m+1,i,M+1,h1,h2=>by
  obtain ⟨c,hc⟩:=OZ (s:=s) (i:=i) (by omega);have hi:(i:Int)<s.size:=by omega
  rw [Ia hc];by_cases c1:(c.toNat:Int)<32
  ·rw [qd (r:= .inl false) (by simp [Dh,qj,hi,hc,c1])];have:okc c=false:=by simp [okc];omega
   simp [this]
  ·by_cases c2:(c.toNat:Int)>126
   ·rw [qd (r:= .inl false) (by simp [Dh,qj,hi,hc,c1,c2])];have:okc c=false:=by simp [okc];omega
    simp [this]
   ·have hw:IntKind.i64.wrap ((i:Int)+1)=((i+1:Nat):Int):=by rw [qn (by omega)];omega
    rw [qu (v':=(s,((i+1:Nat):Int))) (by simp [Dh,qj,hi,hc,c1,c2,hw])];rw [LH n s hb m (i+1) M (by omega) (by omega)];have:okc c=true:=by simp [okc];omega
    simp [this]
theorem MD (s:BA) (hb:s.size<=140737488355328):Ev (E1 · s) (HJ s 200):=by
 refine ⟨s.size+2,λn hn=>?_⟩;obtain ⟨m,rfl,hm⟩:=up1 hn;have h:=LH m s hb s.size 0 m (by omega) (by omega);simp only [E1,HQ,qj];simp only [Int.natCast_zero,List.drop_zero] at h;rw [h];cases hc:s.toList.all okc<;>simp [qj,HJ,hc]
theorem JF (s:BA) (hb:s.size<=140737488351232):Ev (E1 · s) (HJ s 200):=MD s (by omega)
theorem MS (n:Nat) (s:BA) (y:Int) (hb:s.size<=140737488355328):∀(m i M:Nat),s.size=i+m->m+1<=M->
  zL (D8 n) M (s,y,(s.size:Int),(i:Int))=some (if (s.toList.drop i).all okc then .inr (s,y) else .inl false)
 |m,i,0,h1,h2=>by omega
 |0,i,M+1,h1,h2=>by
  rw [qd (r:= .inr (s,y)) (by simp [D8,qj,show ¬((i:Int)<s.size) by omega])];rw [List.drop_eq_nil_of_le (by rw [Dk];omega)];rfl
 |m+1,i,M+1,h1,h2=>by
  obtain ⟨c,hc⟩:=OZ (s:=s) (i:=i) (by omega);have hi:(i:Int)<s.size:=by omega
  rw [Ia hc];by_cases c1:(c.toNat:Int)<32
  ·rw [qd (r:= .inl false) (by simp [D8,qj,hi,hc,c1])];have:okc c=false:=by simp [okc];omega
   simp [this]
  ·by_cases c2:(c.toNat:Int)>126
   ·rw [qd (r:= .inl false) (by simp [D8,qj,hi,hc,c1,c2])];have:okc c=false:=by simp [okc];omega
    simp [this]
   ·have hw:IntKind.i64.wrap ((i:Int)+1)=((i+1:Nat):Int):=by rw [qn (by omega)];omega
    rw [qu (v':=(s,y,(s.size:Int),((i+1:Nat):Int))) (by simp [D8,qj,hi,hc,c1,c2,hw])];rw [MS n s y hb m (i+1) M (by omega) (by omega)];have:okc c=true:=by simp [okc];omega
    simp [this]
theorem Mx (s:BA) (y:Int) (hb:s.size<=140737488355328):Ev (F3 · s y) (HJ s y):=by
 refine ⟨s.size+2,λn hn=>?_⟩;obtain ⟨m,rfl,hm⟩:=up1 hn;have h:=MS m s y hb s.size 0 m (by omega) (by omega);simp only [F3,H3,qj];simp only [Int.natCast_zero,List.drop_zero] at h;rw [h];cases hc:s.toList.all okc<;>simp [qj,HJ,hc]
theorem NY (s:BA) (y:Int) (hb:s.size<=140737488351232):Ev (F3 · s y) (HJ s y):=Mx s y (by omega)
theorem EN (k x:Int) (s:BA) (hb:s.size<=140737488351232):Ev (Di · k x s) (okV k x s):=by
 obtain ⟨n1,h1⟩:=Dl x (-1000000000000000) 1000000000000000;obtain ⟨n2,h2⟩:=Dl x 0 1;obtain ⟨n3,h3⟩:=Dl x 1 5;obtain ⟨n4,h4⟩:=JF s hb;refine ⟨n1+n2+n3+n4+1,λn hn=>?_⟩;obtain ⟨m,rfl,hm⟩:=up1 hn;have h1:=h1 m (by omega);dsimp only at h1;have h2:=h2 m (by omega);dsimp only at h2;have h3:=h3 m (by omega);dsimp only at h3;have h4:=h4 m (by omega);dsimp only at h4;simp only [Di,HS,FV,qj,h1,h2,h3,h4];simp only [okV,EM];by_cases k2:k=2
 ·subst k2;by_cases x0:x=0<;>simp [x0]
 ·by_cases k0:k=0
  ·subst k0;by_cases x0:x=0<;>simp [x0]
  ·by_cases k1:k=1
   ·subst k1;by_cases hx: -1000000000000000<=x/\x<=1000000000000000<;>simp [hx]
   ·by_cases k3:k=3
    ·subst k3;by_cases hx:0<=x/\x<=1<;>simp [hx]
    ·by_cases k4:k=4
     ·subst k4;by_cases hx:1<=x/\x<=5<;>simp [hx]
     ·simp [k0,k1,k2,k3,k4]
theorem My (k x:Int) (s:BA) (hb:s.size<=140737488351232):Ev (GR · k x s) (okV k x s):=by
 obtain ⟨n1,h1⟩:=Cv x (-1000000000000000) 1000000000000000;obtain ⟨n2,h2⟩:=Cv x 0 1;obtain ⟨n3,h3⟩:=Cv x 1 5;obtain ⟨n4,h4⟩:=NY s 200 hb;refine ⟨n1+n2+n3+n4+1,λn hn=>?_⟩;obtain ⟨m,rfl,hm⟩:=up1 hn;have h1:=h1 m (by omega);dsimp only at h1;have h2:=h2 m (by omega);dsimp only at h2;have h3:=h3 m (by omega);dsimp only at h3;have h4:=h4 m (by omega);dsimp only at h4;simp only [GR,Ha,qj,h1,h2,h3,h4];simp only [okV,EM];by_cases k2:k=2
 ·subst k2;by_cases x0:x=0<;>simp [x0]
 ·by_cases he:s.toList= []
  ·by_cases k0:k=0
   ·subst k0;by_cases x0:x=0<;>simp [x0,he]
   ·by_cases k1:k=1
    ·subst k1;simp [he]
    ·by_cases k3:k=3
     ·subst k3;simp [he]
     ·by_cases k4:k=4
      ·subst k4;simp [he]
      ·simp [k0,k1,k2,k3,k4,he]
  ·simp [k2,he]
abbrev V3:=Int×Int×BA
def em:BA:=⟨#[]⟩
theorem JG (x:Int):Ev (EZ · x) (4,x,em):=by
 refine ⟨1,λn hn=>?_⟩;obtain ⟨m,rfl,hm⟩:=up1 hn;simp only [EZ,HT,qj];rfl
theorem KW (x:Int):Ev (FI · x) (4,x,em):=by
 refine ⟨1,λn hn=>?_⟩;obtain ⟨m,rfl,hm⟩:=up1 hn;simp only [FI,Ir,qj];rfl
def D2 (c r:Int):Bool:=decide (1<=c/\c<=52)&&decide (1<=r/\r<=99)
def Fg (a b c d:Int):Bool:=D2 a b&&D2 c d&&decide (a<=c)&&decide (b<=d)
theorem FR (c r:Int):Ev (D9 · c r) (D2 c r):=by
 obtain ⟨n1,h1⟩:=Dl c 1 52;obtain ⟨n2,h2⟩:=Dl r 1 99;refine ⟨n1+n2+1,λn hn=>?_⟩;obtain ⟨m,rfl,hm⟩:=up1 hn;have h1:=h1 m (by omega);dsimp only at h1;have h2:=h2 m (by omega);dsimp only at h2;simp only [D9,Ik,qj,h1,h2];unfold D2;cases decide (1<=c/\c<=52)<;>simp
theorem KY (c r:Int):Ev (GT · c r) (D2 c r):=by
 obtain ⟨n1,h1⟩:=Cv c 1 52;obtain ⟨n2,h2⟩:=Cv r 1 99;refine ⟨n1+n2+1,λn hn=>?_⟩;obtain ⟨m,rfl,hm⟩:=up1 hn;have h1:=h1 m (by omega);dsimp only at h1;have h2:=h2 m (by omega);dsimp only at h2;simp only [GT,Io,qj,h1,h2];unfold D2;cases decide (1<=c/\c<=52)<;>simp
theorem NZ (a b c d:Int):Ev (Gy · a b c d) (Fg a b c d):=by
 obtain ⟨n1,h1⟩:=FR a b;obtain ⟨n2,h2⟩:=FR c d;refine ⟨n1+n2+1,λn hn=>?_⟩;obtain ⟨m,rfl,hm⟩:=up1 hn;have h1:=h1 m (by omega);dsimp only at h1;have h2:=h2 m (by omega);dsimp only at h2;simp only [Gy,Ht,qj,h1,h2];unfold Fg;cases D2 a b<;>cases D2 c d<;>by_cases h:a<=c<;>simp [h]
theorem GY (a b c d:Int):Ev (F4 · a b c d) (Fg a b c d):=by
 obtain ⟨n1,h1⟩:=KY a b;obtain ⟨n2,h2⟩:=KY c d;refine ⟨n1+n2+1,λn hn=>?_⟩;obtain ⟨m,rfl,hm⟩:=up1 hn;have h1:=h1 m (by omega);dsimp only at h1;have h2:=h2 m (by omega);dsimp only at h2;simp only [F4,H4,qj,h1,h2];unfold Fg;cases D2 a b<;>cases D2 c d<;>by_cases h:a<=c<;>simp [h]
def SB (x y:Int):Int:=if x<y then-1 else if x>y then 1 else 0
def Sd (x y:BA):Int:=if Op.bytesLess x.toList y.toList=true then-1 else if x.toList=y.toList then 0 else 1
def QM:List Int->Int
 | []=>0
 |x::r=>if x≠0 then x else QM r
def Se (k x:Int) (s:BA) (k' x':Int) (s':BA):Int:=QM [SB k k',SB x x',Sd s s']
def SC (op o:Int):Bool:=if op=6 then o==0 else if op=7 then o !=0 else if op=8 then decide (o<0) else if op=9 then decide (o<=0) else if op=10 then decide (o>0) else decide (o≥0)
def Sc (op k x:Int) (s:BA) (k' x':Int) (s':BA):Int×Int×BA:=
 if okV k x s=true/\okV k' x' s'=true/\6<=op/\op<=11 then
  (if k=4 then (k,x,s) else if k'=4 then (k',x',s') else (3,if SC op (Se (if k=0 then k' else k) x s (if k'=0 then k else k') x' s')=true then 1 else 0,em))
 else (4,2,em)
theorem Es {R:Type} {F:Nat->Option R} {r:R} {k:Nat} (h:∀n,k<=n->F n=some r):Ev F r:=⟨k,h⟩
theorem wf8 {x:Int} (h:(Lit.int .u8 x).wf=true):0<=x/\x<=255:=by
 simp only [Lit.wf,zY,aZ] at h;have h1:IntKind.u8.min=0:=by decide
 have h2:IntKind.u8.max=255:=by decide
 omega
theorem SD {x:Int} (h:0<=x/\x<=18446744073709551615):IntKind.u64.wrap x=x:=by
 unfold IntKind.wrap;have e2:(2:Int)^64=18446744073709551616:=by decide
 simp only [IntKind.signed,IntKind.bits,Bool.false_and,dD,if_false,e2];omega
def Jg (l:RW):Prop:=l.length<=1048576/\∀e∈l,∃b:Int,e= [.i .u8 b]/\0<=b/\b<=255
theorem RL {l:RW} (w:∀r∈l,okR [.i .u8] r) (h:¬(l.length:Int)>1048576):Jg l:=by
 refine ⟨by omega,λe he=>?_⟩;obtain ⟨x,r,rfl,h1,h2⟩:=rP (w e he);obtain ⟨n,rfl,h3⟩:=CZ h1;obtain rfl:=vA h2;exact ⟨n,rfl,wf8 h3⟩
theorem Pi (l:RW):Ev (Ij · l) (decide ((l.length:Int)>1048576)):=by
 refine ⟨1,λn hn=>?_⟩;obtain ⟨m,rfl,hm⟩:=up1 hn;simp only [Ij,Kd,qj]
theorem QN (l:RW):∀n,1<=n->Gv n l=some (l,0):=λn hn=>by
 obtain ⟨m,rfl,_⟩:=up1 hn;simp [Gv,Hr,qj]
theorem PG {l:RW} {p:Int} (hl:Jg l) (hp:0<=p/\p<=l.length):∃(a p':Int),(0<=p'/\p'<=l.length)/\(0<=a/\a<=255)/\∀n,1<=n->DW n l p=some (a,l,p'):=by
 have h1:=hl.1;by_cases h:p≥l.length
 ·refine ⟨0,p,hp,by decide,λn hn=>?_⟩;obtain ⟨m,rfl,_⟩:=up1 hn;simp [DW,Fi,qj,h]
 ·have hlt:p.toNat<l.length:=by omega
  obtain ⟨b,hb,b0,b1⟩:=hl.2 _ (List.getElem_mem hlt);have hg:l[p.toNat]?=some [.i .u8 b]:=by rw [zc hlt,hb]
  refine ⟨b,p+1,by omega,⟨b0,b1⟩,λn hn=>?_⟩;obtain ⟨m,rfl,_⟩:=up1 hn;have w1:IntKind.i64.wrap (p+1)=p+1:=qn (by omega);have w2:IntKind.i64.wrap p=p:=qn (by omega);have w3:IntKind.i64.wrap b=b:=qn (by omega);have hp2:p<l.length:=by omega
  simp [DW,Fi,qj,h,w1,w2,w3,hp.1,hp2,hg,hb,zF]
theorem EU {l:RW} {p:Int} (k:Int) (hk:1<k/\k<=1000000) (hl:Jg l) (hp:0<=p/\p<=l.length):∃(a p':Int),(0<=p'/\p'<=l.length)/\(0<=a/\a<k)/\∀n,2<=n->qc n k l p=some (a,l,p'):=by
 obtain ⟨a,p',h1,h2,h3⟩:=PG hl hp;have k1:¬k<=1:=by omega
 have k3:¬k=0:=by omega
 by_cases k2:k<=256
 ·have e:Int.tmod a k=a%k:=Int.tmod_eq_emod_of_nonneg h2.1;refine ⟨a%k,p',h1,⟨Int.emod_nonneg a (by omega),Int.emod_lt_of_pos a (by omega)⟩,λn hn=>?_⟩;obtain ⟨m,rfl,hm⟩:=up1 hn;have h3:=h3 m (by omega);simp [qc,Ef,qj,h3,k1,k2,k3,e]
 ·obtain ⟨b,p2,g1,g2,g3⟩:=PG hl h1;have w1:IntKind.i64.wrap (a*256)=a*256:=qn (by omega);have w2:IntKind.i64.wrap (a*256+b)=a*256+b:=qn (by omega);have e:Int.tmod (a*256+b) k=(a*256+b)%k:=Int.tmod_eq_emod_of_nonneg (by omega);refine ⟨(a*256+b)%k,p2,g1,⟨Int.emod_nonneg _ (by omega),Int.emod_lt_of_pos _ (by omega)⟩,λn hn=>?_⟩;obtain ⟨m,rfl,hm⟩:=up1 hn;have h3:=h3 m (by omega);have g3:=g3 m (by omega);simp [qc,Ef,qj,h3,g3,k1,k2,k3,e,w1,w2]
theorem G3 {l:RW} {p:Int} (k:Int) (hk:1<k/\k<=1000000) (hl:Jg l) (hp:0<=p/\p<=l.length):∃(b:Bool) (p':Int),(0<=p'/\p'<=l.length)/\∀n,3<=n->qo n k l p=some (b,l,p'):=by
 obtain ⟨a,p',h1,h2,h3⟩:=EU k hk hl hp;refine ⟨a==IntKind.i64.wrap (k-1),p',h1,λn hn=>?_⟩;obtain ⟨m,rfl,hm⟩:=up1 hn;have h3:=h3 m (by omega);simp [qo,Gk,qj,h3]
theorem Oa {l:RW} (hl:Jg l):∀(m:Nat) (i:Nat) (v p:Int),i+m=8->(0<=p/\p<=l.length)->∃(r p':Int),(0<=p'/\p'<=l.length)/\∀n M,1<=n->m+1<=M->zL (EQ n) M (v,(i:Int),l,p)=some (r,l,p')
 |0,i,v,p,h,hp=>by
  refine ⟨v,p,hp,λn M hn hM=>?_⟩;obtain ⟨M,rfl⟩:∃q,M=q+1:=⟨M-1,by omega⟩;have hi:¬(i:Int)<8:=by omega
  rw [qd (r:=(v,l,p)) (by simp [EQ,qj,hi])]
 |m+1,i,v,p,h,hp=>by
  obtain ⟨a,p1,h1,h2,h3⟩:=PG hl hp;obtain ⟨r,p2,h4,h5⟩:=Oa hl m (i+1) (IntKind.u64.wrap ((BitVec.ofInt IntKind.u64.bits (IntKind.u64.wrap (v*(2:Int)^(8:Nat)))|||BitVec.ofInt IntKind.u64.bits (IntKind.u64.wrap a)).toNat:Int)) p1 (by omega) h1;refine ⟨r,p2,h4,λn M hn hM=>?_⟩;obtain ⟨M,rfl⟩:∃q,M=q+1:=⟨M-1,by omega⟩;have hi:(i:Int)<8:=by omega
  have w1:IntKind.i64.wrap ((i:Int)+1)=((i+1:Nat):Int):=by rw [qn (by omega)];omega
  have h3:=h3 n hn;rw [qu (v':=(IntKind.u64.wrap ((BitVec.ofInt IntKind.u64.bits (IntKind.u64.wrap (v*(2:Int)^(8:Nat)))|||BitVec.ofInt IntKind.u64.bits (IntKind.u64.wrap a)).toNat:Int),((i+1:Nat):Int),l,p1)) (by
   simp only [EQ,qj,h3,w1];rw [if_pos (by simpa using hi)])]
  exact h5 n M hn (by omega)
theorem RN {l:RW} {p:Int} (hl:Jg l) (hp:0<=p/\p<=l.length):∃(r p':Int),(0<=p'/\p'<=l.length)/\∀n,10<=n->Fl n l p=some (r,l,p'):=by
 obtain ⟨r,p',h1,h2⟩:=Oa hl 8 0 0 p rfl hp;refine ⟨r,p',h1,λn hn=>?_⟩;obtain ⟨m,rfl,hm⟩:=up1 hn;have h2:=h2 m m (by omega) (by omega);simp only [Int.natCast_zero] at h2;simp only [Fl,Gl,qj,h2]
theorem RO {l:RW} {p:Int} (lo hi:Int) (hk: -1000<=lo/\lo<=hi/\hi<=1000) (hl:Jg l) (hp:0<=p/\p<=l.length):∃(x p':Int),(0<=p'/\p'<=l.length)/\(-9223372036854775808<=x/\x<=9223372036854775807)/\∀n,11<=n->EW n lo hi l p=some (x,l,p'):=by
 obtain ⟨a,p1,h1,h2,h3⟩:=EU 8 (by decide) hl hp;by_cases a0:a=0
 ·refine ⟨lo,p1,h1,by omega,λn hn=>?_⟩;obtain ⟨m,rfl,hm⟩:=up1 hn;have h3:=h3 m (by omega);simp [EW,E0,qj,h3,a0]
 ·by_cases a1:a=1
  ·refine ⟨hi,p1,h1,by omega,λn hn=>?_⟩;obtain ⟨m,rfl,hm⟩:=up1 hn;have h3:=h3 m (by omega);simp [EW,E0,qj,h3,a1]
  ·obtain ⟨r,p2,h4,h5⟩:=RN hl h1;refine ⟨_,p2,h4,MC (lo+IntKind.i64.wrap (Int.tmod (Int.fdiv r ((2:Int)^(1:Nat))) (IntKind.u64.wrap (IntKind.i64.wrap (IntKind.i64.wrap (hi-lo)+1))))),λn hn=>?_⟩;obtain ⟨m,rfl,hm⟩:=up1 hn;have h3:=h3 m (by omega);have h5:=h5 m (by omega);have c1:¬hi<lo:=by omega
   have w1:IntKind.i64.wrap (hi-lo)=hi-lo:=qn (by omega);have w2:IntKind.i64.wrap (hi-lo+1)=hi-lo+1:=qn (by omega);have w3:IntKind.u64.wrap (hi-lo+1)=hi-lo+1:=SD (by omega);have w4:¬hi-lo+1=0:=by omega
   simp only [EW,E0,qj,h3,h5,w1,w2,w3];simp [a0,a1,c1,w4]
theorem Kr {l:RW} {p:Int} (lo hi:Int) (hk: -1000<=lo/\lo<=hi/\hi<=1000) (hl:Jg l) (hp:0<=p/\p<=l.length):∃(x p':Int),(0<=p'/\p'<=l.length)/\(-9223372036854775808<=x/\x<=9223372036854775807)/\∀n,12<=n->Ch n lo hi l p=some (x,l,p'):=by
 obtain ⟨b,p1,h1,h2⟩:=G3 24 (by decide) hl hp;cases b with
 |true=>
  obtain ⟨a,p2,h3,h4,h5⟩:=EU 4 (by decide) hl h1;have c:a=0\/a=1\/a=2\/a=3:=by omega
  rcases c with rfl|rfl|rfl|rfl
  ·refine ⟨IntKind.i64.wrap (lo-1),p2,h3,MC _,λn hn=>?_⟩;obtain ⟨m,rfl,hm⟩:=up1 hn;have h2:=h2 m (by omega);have h5:=h5 m (by omega);simp [Ch,EK,qj,h2,h5,zF]
  ·refine ⟨IntKind.i64.wrap (hi+1),p2,h3,MC _,λn hn=>?_⟩;obtain ⟨m,rfl,hm⟩:=up1 hn;have h2:=h2 m (by omega);have h5:=h5 m (by omega);simp [Ch,EK,qj,h2,h5,zF]
  ·refine ⟨-9223372036854775808,p2,h3,by decide,λn hn=>?_⟩;obtain ⟨m,rfl,hm⟩:=up1 hn;have h2:=h2 m (by omega);have h5:=h5 m (by omega);simp [Ch,EK,qj,h2,h5,zF]
  ·refine ⟨9223372036854775807,p2,h3,by decide,λn hn=>?_⟩;obtain ⟨m,rfl,hm⟩:=up1 hn;have h2:=h2 m (by omega);have h5:=h5 m (by omega);simp [Ch,EK,qj,h2,h5,zF]
 |false=>
  obtain ⟨x,p2,h3,h4,h5⟩:=RO lo hi hk hl h1;refine ⟨x,p2,h3,h4,λn hn=>?_⟩;obtain ⟨m,rfl,hm⟩:=up1 hn;have h2:=h2 m (by omega);have h5:=h5 m (by omega);simp [Ch,EK,qj,h2,h5]
theorem PH {l:RW} {p:Int} (hl:Jg l) (hp:0<=p/\p<=l.length):∃(a b p':Int),(0<=p'/\p'<=l.length)/\∀n,3<=n->C6 n l p=some (a,b,l,p'):=by
 obtain ⟨a,p1,h1,h2,h3⟩:=EU 3 (by decide) hl hp;obtain ⟨b,p2,h4,h5,h6⟩:=EU 4 (by decide) hl h1;refine ⟨IntKind.i64.wrap (1+a),IntKind.i64.wrap (1+b),p2,h4,λn hn=>?_⟩;obtain ⟨m,rfl,hm⟩:=up1 hn;have h3:=h3 m (by omega);have h6:=h6 m (by omega);simp [C6,HD,qj,h3,h6]
theorem RP {l:RW} {p:Int} (hl:Jg l) (hp:0<=p/\p<=l.length):∃(a b c d p':Int),(0<=p'/\p'<=l.length)/\∀n,13<=n->EX n l p=some (a,b,c,d,l,p'):=by
 obtain ⟨a,b,p1,h1,h2⟩:=PH hl hp;obtain ⟨c,d,p2,h3,h4⟩:=PH hl h1;obtain ⟨o,p3,h5,h6⟩:=G3 20 (by decide) hl h3;cases o with
 |true=>
  obtain ⟨x,p4,h7,_,h8⟩:=Kr 1 99 (by decide) hl h5;refine ⟨(if c<a then c else a),(if d<b then d else b),(if c>a then c else a),x,p4,h7,λn hn=>?_⟩;obtain ⟨m,rfl,hm⟩:=up1 hn;have h2:=h2 m (by omega);have h4:=h4 m (by omega);have h6:=h6 m (by omega);have h8:=h8 m (by omega);simp [EX,Fq,qj,h2,h4,h6,h8]
 |false=>
  refine ⟨(if c<a then c else a),(if d<b then d else b),(if c>a then c else a),(if d>b then d else b),p3,h5,λn hn=>?_⟩;obtain ⟨m,rfl,hm⟩:=up1 hn;have h2:=h2 m (by omega);have h4:=h4 m (by omega);have h6:=h6 m (by omega);simp [EX,Fq,qj,h2,h4,h6]
def LI (x:Int):BA:=⟨(Lib.itoa x).toArray⟩
theorem Jh (a b:BA):(a++b).data.toList=a.data.toList++b.data.toList:=by
 rw [ByteArray.data_append,Array.toList_append]
theorem Ob {a b:BA} (h:a.data.toList=b.data.toList):a=b:=by
 cases a;cases b
 congr 1
 exact Array.toList_inj.1 h
theorem II {a b:BA} (h:a.toList=b.toList):a=b:=Ob (by rw [<-zao,<-zao];exact h)
theorem Iu (a:BA):a.size=a.data.toList.length:=by rw [Array.length_toList];rfl
theorem u8w {q:Nat} (h:q<10):IntKind.u8.wrap (IntKind.i64.wrap (48+(q:Int)))=((48+q:Nat):Int):=by
 rw [qn (by omega)];unfold IntKind.wrap;have e2:(2:Int)^8=256:=by decide
 simp only [IntKind.signed,IntKind.bits,Bool.false_and,dD,if_false,e2];omega
theorem SE:∀(k v:Nat),1<=v->v<10^k->Lib.nDigits v<=k:=by
 intro k
 induction k with
 |zero=>intro v hv hv';simp at hv';omega
 |succ k ih=>
  intro v hv hv';by_cases h10:v<10
  ·rw [Lib.nDigits_small h10];omega
  ·rw [Lib.nDigits_big h10];have:=ih (v/10) (by omega) (by rw [Nat.pow_succ] at hv';omega);omega
theorem Jy (u:Nat) (h:u<=1000000000000000000):(Lib.decDigits u).length<=19:=by
 have p:(10:Nat)^19=10000000000000000000:=by decide
 rw [Lib.decDigits_length];rcases Nat.lt_or_ge u 1 with h6|h6
 ·have:u=0:=by omega
  subst this;rw [Lib.nDigits_small (by decide)]
  decide
 ·exact SE 19 u h6 (by omega)
def qz (x:Int):BA:=if x=1 then ⟨#[35,68,73,86,33]⟩ else if x=2 then ⟨#[35,84,89,80,69,33]⟩ else if x=3 then ⟨#[35,82,69,70,33]⟩ else if x=4 then ⟨#[35,79,86,69,82,33]⟩ else if x=5 then ⟨#[35,67,89,67,76,69,33]⟩ else ⟨#[]⟩
theorem lt6 {x:Int} (h:0<=x/\x<=5):x=0\/x=1\/x=2\/x=3\/x=4\/x=5:=by omega
def SF (x:Int):BA:=if x=1 then ⟨#[84,82,85,69]⟩ else ⟨#[70,65,76,83,69]⟩
def MU (k x:Int) (s:BA):BA:=if k=1 then LI x else if k=2 then ⟨#[39]⟩++s else if k=3 then SF x else if k=4 then qz x else ⟨#[]⟩
theorem Qd {x:Int} (h: -1000000000000000000<=x/\x<=1000000000000000000):(LI x).size<=20:=by
 rw [Iu];show (Lib.itoa x).length<=20;unfold Lib.itoa;split
 ·have:=Jy x.natAbs (by omega);simp;omega
 ·have:=Jy x.toNat (by omega);omega
def Hj (x:Int):BA:=if x<1\/x>52 then ⟨#[]⟩ else if x<=26 then ⟨#[UInt8.ofNat (64+x.toNat)]⟩ else ⟨#[65,UInt8.ofNat (65+(x.toNat-1)%26)]⟩
theorem Oc (x:Int):(Hj x).size<=2:=by
 unfold Hj;split
 ·decide
 ·split
  ·exact (show (1:Nat)<=2 by decide)
  ·exact (show (2:Nat)<=2 by decide)
theorem Qr {q:Int} (h:0<=q/\q<256):IntKind.u8.wrap q=q:=by
 unfold IntKind.wrap;have e2:(2:Int)^8=256:=by decide
 simp only [IntKind.signed,IntKind.bits,Bool.false_and,dD,if_false,e2];omega
def Ji (c r:Int) (fc fr:Bool):BA:=if D2 c r=true then ⟨((if fc=true then [36] else [])++(Hj c).data.toList++(if fr=true then [36] else [])++(LI r).data.toList).toArray⟩ else ⟨#[]⟩
theorem Na {x:Int} (h:1<=x/\x<=99):(LI x).size<=20:=by
 rw [Iu];show (Lib.itoa x).length<=20;unfold Lib.itoa;rw [if_neg (by omega)];have:=Jy x.toNat (by omega);omega
theorem Pj {c r:Int} (h:D2 c r=true):(1<=c/\c<=52)/\(1<=r/\r<=99):=by
 simpa [D2] using h
def F5 (c:UInt8):Bool:=decide (48<=c.toNat)&&decide (c.toNat<=57)
def FZ (acc:Nat) (l:LBy):Nat:=l.foldl (λa c=>a*10+(c.toNat-48)) acc
theorem Ib (acc:Nat):FZ acc []=acc:=rfl
theorem Ic (acc:Nat) (c:UInt8) (r:LBy):FZ acc (c::r)=FZ (acc*10+(c.toNat-48)) r:=by simp only [FZ,List.foldl_cons]
theorem Pk (l:LBy) (acc:Nat) (c:UInt8):FZ acc (l++ [c])=FZ acc l*10+(c.toNat-48):=by
 simp only [FZ,List.foldl_append,List.foldl_cons,List.foldl_nil]
theorem QO:∀(l:LBy) (acc:Nat),acc<=FZ acc l
 | [],acc=>by rw [Ib];exact zI _
 |c::r,acc=>by
  have h:=QO r (acc*10+(c.toNat-48));have h2:acc<=acc*10+(c.toNat-48):=by omega
  rw [Ic];exact zX h2 h
theorem PI {d:Nat} (h:d<10):(UInt8.ofNat (48+d)).toNat=48+d:=by
 rw [UInt8.toNat_ofNat'];omega
theorem Pm {d:Nat} (h:d<10):F5 (UInt8.ofNat (48+d))=true:=by
 unfold F5;rw [PI h];simp;omega
theorem Jz:∀u:Nat,(Lib.decDigits u).all F5=true/\FZ 0 (Lib.decDigits u)=u/\Lib.decDigits u≠ []/\(10<=u->(Lib.decDigits u).head?≠some 48)/\(1<=u->(Lib.decDigits u).head?≠some 48):=by
 intro u
 induction u using Nat.strongRecOn with
 |_ u ih=>
  by_cases h:u<10
  ·rw [Lib.decDigits,dif_pos h];have h1:∀k,1<=k->k<10->UInt8.ofNat (48+k)≠48:=λk hk hk' e=>by
    have:=congrArg UInt8.toNat e;rw [PI hk'] at this;have h2:(48:UInt8).toNat=48:=rfl;omega
   refine ⟨by simp only [zanC,List.all_nil,Pm h,Bool.and_true],by rw [Ic,Ib,PI h];omega,by simp,λ_=>by omega,λhu=>?_⟩;simp only [List.head?_cons,ne_eq,zO];exact h1 u hu h
  ·obtain ⟨i1,i2,i3,i4,i5⟩:=ih (u/10) (by omega);rw [Lib.decDigits,dif_neg h];have hd:u%10<10:=by omega
   have hh:(Lib.decDigits (u/10)++ [UInt8.ofNat (48+u%10)]).head?=(Lib.decDigits (u/10)).head?:=by
    cases hq:Lib.decDigits (u/10) with
    |nil=>exact absurd hq i3
    |cons a b=>rfl
   refine ⟨by simp only [List.all_append,i1,zanC,List.all_nil,Pm hd,Bool.and_true],by rw [Pk,i2,PI hd];omega,by simp,λ_=>?_,λ_=>?_⟩
   ·rw [hh];exact i5 (by omega)
   ·rw [hh];exact i5 (by omega)
def Hp (l:LBy):Bool:=!(l== [])&&l.all F5&&(!(l.head?==some 48)||l.length==1)
theorem Qe (u:Nat):Hp (Lib.decDigits u)=true:=by
 obtain ⟨h1,h2,h3,h4,h5⟩:=Jz u;simp only [Hp,h1,Bool.and_true,zY,Bool.not_eq_true',zanF,Bool.or_eq_true];refine ⟨h3,?_⟩;by_cases hu:u<10
 ·right;rw [Lib.decDigits,dif_pos hu];rfl
 ·left;exact h4 (by omega)
theorem Od:∀(n:Nat) (l:LBy),l.length=n->Hp l=true->Lib.decDigits (FZ 0 l)=l
 |0,l,hn,h=>by
  have:=aU hn;subst this;simp [Hp] at h
 |n+1,l,hn,h=>by
  simp only [Hp,zY,Bool.not_eq_true',zanF,Bool.or_eq_true,zanG] at h;obtain ⟨⟨h1,h2⟩,h3⟩:=h;obtain ⟨ini,c,rfl⟩:∃ini c,l=ini++ [c]:=⟨l.dropLast,l.getLast h1,(List.dropLast_concat_getLast h1).symm⟩;simp only [List.all_append,zY,zanC,List.all_nil,Bool.and_true] at h2;obtain ⟨h2,hc⟩:=h2;simp only [F5,zY,aZ] at hc;have ec:UInt8.ofNat (48+(c.toNat-48))=c:=by
   have:48+(c.toNat-48)=c.toNat:=by omega
   rw [this];simp
  rw [Pk];cases ini with
  |nil=>
   rw [Ib,Nat.zero_mul,Nat.zero_add,List.nil_append,Lib.decDigits,dif_pos (by omega),ec]
  |cons a b=>
   have hl:(a::b).length=n:=by simp at hn⊢;omega
   have h48:¬a=48:=by
    rcases h3 with h3|h3
    ·simpa using h3
    ·simp at h3
   have hcn:Hp (a::b)=true:=by
    simp only [Hp,h2,Bool.and_true,zY,Bool.not_eq_true',zanF,Bool.or_eq_true];exact ⟨by simp,.inl (by simpa using h48)⟩
   have ih:=Od n (a::b) hl hcn;have hp:1<=FZ 0 (a::b):=by
    rcases Nat.eq_zero_or_pos (FZ 0 (a::b)) with h0|h0
    ·rw [h0,Lib.decDigits,dif_pos (by decide)] at ih;have:a=48:=by
      have:=congrArg List.head? ih;simpa using this.symm
     exact absurd this h48
    ·exact h0
   rw [Lib.decDigits,dif_neg (by omega)];have e1:(FZ 0 (a::b)*10+(c.toNat-48))/10=FZ 0 (a::b):=by omega
   have e2:(FZ 0 (a::b)*10+(c.toNat-48))%10=c.toNat-48:=by omega
   rw [e1,e2,ih,ec]
def l1I (l:LBy) (most:Int):Int×Bool:=if (l.length:Int)<=most/\Hp l=true then ((FZ 0 l:Int),true) else (0,false)
theorem QP:∀(l:LBy) (acc k:Nat),l.all F5=true->acc<10^k->FZ acc l<10^(k+l.length)
 | [],acc,k,_,h=>by rw [Ib];simpa using h
 |c::r,acc,k,hd,h=>by
  simp only [zanC,zY] at hd;have hc:=hd.1;simp only [F5,zY,aZ] at hc;have:=QP r (acc*10+(c.toNat-48)) (k+1) hd.2 (by rw [Nat.pow_succ];omega);rw [Ic,zamM,show k+(r.length+1)=k+1+r.length by omega];exact this
theorem Oe:∀(l:LBy) (acc:Nat),l.all F5=true->FZ acc l<=1000000000000000000->Lib.parseUintM (2^64-1) acc l= .ok (FZ acc l)
 | [],acc,_,_=>by simp only [Lib.parseUintM,Ib]
 |c::r,acc,hd,h=>by
  simp only [zanC,zY] at hd;have hc:=hd.1;simp only [F5,zY,aZ] at hc;rw [Ic] at h⊢;have g1:=QO r (acc*10+(c.toNat-48));have p:(2:Nat)^64-1=18446744073709551615:=by decide
  simp only [Lib.parseUintM];rw [if_pos hc,if_neg (by omega),if_neg (by rw [p];omega)];exact Oe r _ hd.2 h
theorem Og {u:Nat} (h:u<=1000000000000000000):Lib.parseUintB 64 (Lib.decDigits u)= .ok u:=by
 obtain ⟨h1,h2,h3,_,_⟩:=Jz u;unfold Lib.parseUintB;rw [if_neg h3,Oe _ 0 h1 (by rw [h2];exact h),h2]
theorem Pn (u:Nat):∃c r,Lib.decDigits u=c::r/\F5 c=true:=by
 obtain ⟨h1,_,h3,_,_⟩:=Jz u;cases hq:Lib.decDigits u with
 |nil=>exact absurd hq h3
 |cons c r=>
  rw [hq] at h1;simp only [zanC,zY] at h1;exact ⟨c,r,rfl,h1.1⟩
theorem QB {x:Int} (h: -1000000000000000<=x/\x<=1000000000000000):Lib.parseIntB 64 (Lib.itoa x)= .ok x:=by
 have p:(2:Nat)^(64-1)=9223372036854775808:=by decide
 by_cases hx:x<0
 ·have e:Lib.itoa x=45::Lib.decDigits x.natAbs:=by unfold Lib.itoa;rw [if_pos hx]
  have c45:(45:UInt8).toNat=45:=rfl;rw [e];simp only [Lib.parseIntB,c45,or_true,if_true,Og (u:=x.natAbs) (by omega),p];rw [if_neg (by simp),if_neg (by omega)]
  congr 1
  omega
 ·have e:Lib.itoa x=Lib.decDigits x.toNat:=by unfold Lib.itoa;rw [if_neg hx]
  obtain ⟨c,r,hcr,hd⟩:=Pn x.toNat;simp only [F5,zY,aZ] at hd;rw [e,hcr];simp only [Lib.parseIntB];rw [if_neg (by omega),<-hcr,Og (u:=x.toNat) (by omega)];simp only [p];rw [if_neg (by omega),if_neg (by omega),if_neg (by omega)]
  congr 1
  omega
def PK (l:LBy):Option Int:=if l.head?=some 45 then (if (l1I (l.drop 1) 16).2=true/\(l1I (l.drop 1) 16).1≠0 then some (-(l1I (l.drop 1) 16).1) else none) else (if (l1I l 16).2=true then some (l1I l 16).1 else none)
theorem Nb {l:LBy} (h:(l1I l 16).2=true):l.length<=16/\Hp l=true/\(l1I l 16).1=(FZ 0 l:Int)/\Lib.decDigits (FZ 0 l)=l:=by
 unfold l1I at h⊢;split at h
 ·rename_i hc;rw [if_pos hc];exact ⟨by omega,hc.2,rfl,Od _ l rfl hc.2⟩
 ·cases h
theorem QQ {u:Nat} (h:u<=1000000000000000):l1I (Lib.decDigits u) 16=((u:Int),true):=by
 obtain ⟨h1,h2,h3,_,_⟩:=Jz u;have hl:(Lib.decDigits u).length<=16:=by
  rw [Lib.decDigits_length];have:Lib.nDigits 1000000000000000=16:=Lib.nDigits_unique 15 _ (by decide) (by decide);rcases Nat.lt_or_ge 16 (Lib.nDigits u) with h4|h4
  ·have h5:u<10^16:=by
    have:(10:Nat)^16=10000000000000000:=by decide
    omega
   exfalso;rcases Nat.lt_or_ge u 1 with h6|h6
   ·have:u=0:=by omega
    subst this;rw [Lib.nDigits_small (by decide)] at h4;omega
   ·have key:∀(k v:Nat),1<=v->v<10^k->Lib.nDigits v<=k:=by
     intro k
     induction k with
     |zero=>intro v hv hv';simp at hv';omega
     |succ k ih=>
      intro v hv hv';by_cases h10:v<10
      ·rw [Lib.nDigits_small h10];omega
      ·rw [Lib.nDigits_big h10];have:=ih (v/10) (by omega) (by rw [Nat.pow_succ] at hv';omega);omega
    have:=key 16 u h6 h5;omega
  ·exact h4
 unfold l1I;rw [if_pos ⟨by omega,Qe u⟩,h2]
theorem Qf {l:LBy} {x:Int} (h:PK l=some x):l=Lib.itoa x:=by
 unfold PK at h;split at h
 ·rename_i h45;split at h
  ·rename_i hc;cases h;obtain ⟨a1,a2,a3,a4⟩:=Nb hc.1;have hne:=hc.2;rw [a3] at hne⊢;unfold Lib.itoa;rw [if_pos (by omega)];have:(-(FZ 0 (l.drop 1):Int)).natAbs=FZ 0 (l.drop 1):=by omega
   rw [this,a4];cases l with
   |nil=>cases h45
   |cons c r=>simp at h45;simp [h45]
  ·cases h
 ·split at h
  ·rename_i hc;cases h;obtain ⟨a1,a2,a3,a4⟩:=Nb hc;rw [a3];unfold Lib.itoa;rw [if_neg (by omega),gD,a4]
  ·cases h
theorem Qg {x:Int} (h: -1000000000000000<=x/\x<=1000000000000000):PK (Lib.itoa x)=some x:=by
 unfold PK;by_cases hx:x<0
 ·have e:Lib.itoa x=45::Lib.decDigits x.natAbs:=by unfold Lib.itoa;rw [if_pos hx]
  have e2:=QQ (u:=x.natAbs) (by omega);rw [e,List.head?_cons,if_pos rfl,List.drop_succ_cons,List.drop_zero,e2,if_pos ⟨rfl,by show ((x.natAbs:Nat):Int)≠0;omega⟩]
  congr 1
  show-((x.natAbs:Nat):Int)=x;omega
 ·have e:Lib.itoa x=Lib.decDigits x.toNat:=by unfold Lib.itoa;rw [if_neg hx]
  have e2:=QQ (u:=x.toNat) (by omega);obtain ⟨c,r,hcr,hd⟩:=Pn x.toNat;have h45:¬(Lib.decDigits x.toNat).head?=some 45:=by
   rw [hcr];simp only [List.head?_cons,zO];intro hc;subst hc;simp [F5] at hd
  rw [e,if_neg h45,e2,if_pos rfl]
  congr 1
  show ((x.toNat:Nat):Int)=x;omega
def IJ (s:BA):Int:=match cR s 10 64 with
 |some (.inl v)=>v
 |some (.inr v)=>v
 |none=>0
theorem Po {s:BA} {x:Int} (hs:s.toList=Lib.itoa x) (h: -1000000000000000<=x/\x<=1000000000000000):IJ s=x:=by
 have hd:s.data.toList=Lib.itoa x:=by rw [<-zao];exact hs
 have hsz:s.size<=281474976710656:=by
  rw [<-Dk,hs];unfold Lib.itoa;split
  ·have:=Jy x.natAbs (by omega);simp;omega
  ·have:=Jy x.toNat (by omega);omega
 unfold IJ cR;rw [if_pos ⟨rfl,rfl,hsz⟩,hd,QB h]
def HK (s:BA):Int:=if (qz 5).toList=s.toList then 5 else if (qz 4).toList=s.toList then 4 else if (qz 3).toList=s.toList then 3 else if (qz 2).toList=s.toList then 2 else if (qz 1).toList=s.toList then 1 else 0
theorem RQ (s:BA):0<=HK s/\HK s<=5:=by
 unfold HK
 repeat' split
 all_goals decide
theorem RR {s:BA} (h:¬HK s=0):qz (HK s)=s:=by
 unfold HK at h⊢;by_cases h5:(qz 5).toList=s.toList
 ·rw [if_pos h5];exact II h5
 rw [if_neg h5] at h⊢;by_cases h4:(qz 4).toList=s.toList
 ·rw [if_pos h4];exact II h4
 rw [if_neg h4] at h⊢;by_cases h3:(qz 3).toList=s.toList
 ·rw [if_pos h3];exact II h3
 rw [if_neg h3] at h⊢;by_cases h2:(qz 2).toList=s.toList
 ·rw [if_pos h2];exact II h2
 rw [if_neg h2] at h⊢;by_cases h1:(qz 1).toList=s.toList
 ·rw [if_pos h1];exact II h1
 rw [if_neg h1] at h;exact absurd rfl h
def E9 (s:BA):V3:=
 if s.toList.head?=some 39 then (2,0,⟨s.toList.tail.toArray⟩) else
 if s.toList= [70,65,76,83,69] then (3,0,em) else if s.toList= [84,82,85,69] then (3,1,em) else
 if s.toList.head?=some 35 then (if HK s=0 then (0,0,em) else (4,HK s,em)) else
 if s.toList= [] then (0,0,em) else (1,IJ s,em)
def Cr (s:BA):Int×Int×BA×Bool:=if okV (E9 s).1 (E9 s).2.1 (E9 s).2.2=true/\(MU (E9 s).1 (E9 s).2.1 (E9 s).2.2).toList=s.toList then ((E9 s).1,(E9 s).2.1,(E9 s).2.2,true) else (0,0,⟨#[]⟩,false)
theorem RS (c:UInt8) (k:Nat) (hk:k<256):((c.toNat:Int)==(k:Int))=(some c==some (UInt8.ofNat k)):=by
 by_cases e:c=UInt8.ofNat k
 ·subst e;have:(UInt8.ofNat k).toNat=k:=by rw [UInt8.toNat_ofNat'];omega
  simp [this]
 ·have h1:¬(c.toNat:Int)=(k:Int):=λh=>e (by
   have:c.toNat=k:=by omega
   rw [<-this];simp)
  have h2:¬some c=some (UInt8.ofNat k):=λh=>e (by simpa using h)
  rw [zanF.2 h1,zanF.2 h2]
theorem Oh (l:LBy):(⟨l.toArray⟩:BA).toList=l:=by rw [zao]
theorem Nc (n:Nat):∀(f u:Nat) (s:BA),u<10^(f+1)->u<=9223372036854775807->s.size+f<=1000->∃(q:Nat) (t:BA),q<10/\t.size<=s.size+f/\UInt8.ofNat (48+q)::t.data.toList=Lib.decDigits u++s.data.toList/\∀M,f+1<=M->zL (FL n) M ((u:Int),s)=some ((q:Int),t)
 |f,u,s,h1,h2,h3=>by
  by_cases h:u<10
  ·refine ⟨u,s,h,by omega,by rw [Lib.decDigits,dif_pos h];rfl,λM hM=>?_⟩;obtain ⟨M,rfl⟩:∃k,M=k+1:=⟨M-1,by omega⟩;have hc:¬(u:Int)≥10:=by omega
   rw [qd (r:=((u:Int),s)) (by simp [FL,qj,hc])]
  ·cases f with
   |zero=>simp at h1;omega
   |succ f=>
    have e1:Int.tmod (u:Int) 10=((u%10:Nat):Int):=by rw [Int.tmod_eq_emod_of_nonneg (by omega)];omega
    have e2:IntKind.i64.wrap (Int.tdiv (u:Int) 10)=((u/10:Nat):Int):=by
     rw [Int.tdiv_eq_ediv_of_nonneg (by omega),qn (by omega)];omega
    have e3:=u8w (q:=u%10) (by omega);have h4:u/10<10^(f+1):=by
     have:10^(f+1+1)=10^(f+1)*10:=Nat.pow_succ 10 (f+1);omega
    let d:BA:=⟨#[UInt8.ofNat (48+u%10)]⟩
    have hd:d.size=1:=rfl;have hs:(d++s).size=s.size+1:=by rw [pC];omega
    obtain ⟨q,t,g1,g2,g3,g4⟩:=Nc n f (u/10) (d++s) h4 (by omega) (by omega);refine ⟨q,t,g1,by omega,?_,λM hM=>?_⟩
    ·rw [g3,Jh,Lib.decDigits.eq_1 u,dif_neg h];simp [d]
    ·obtain ⟨M,rfl⟩:∃k,M=k+1:=⟨M-1,by omega⟩;have hc:(u:Int)≥10:=by omega
     have hz:d.size+s.size<=9223372036854775807:=by omega
     rw [qu (v':=(((u/10:Nat):Int),d++s)) (by
      simp only [FL,qj,e1,e2,e3,bytesOf,zamW,gD];rw [if_pos (by simpa using hc),if_pos (by simp),if_pos (zJ hz)])]
     exact g4 M (by omega)
theorem LJ (u:Nat) (h:u<=1000000000000000000):∀n,25<=n->Cu n (u:Int)=some (LI u):=by
 intro n hn;obtain ⟨m,rfl,hm⟩:=up1 hn;have p:(10:Nat)^(18+1)=10000000000000000000:=by decide
 obtain ⟨q,t,g1,g2,g3,g4⟩:=Nc m 18 u ⟨#[]⟩ (by omega) (by omega) (by show 0+18<=1000;decide);have g4:=g4 m (by omega);have e3:=u8w g1;have hc:¬(u:Int)<0:=by omega
 have hz:(⟨#[UInt8.ofNat (48+q)]⟩:BA).size+t.size<=9223372036854775807:=by
  have g2:t.size<=0+18:=g2;show 1+t.size<=_;omega
 simp only [Cu,HM,qj,g4,e3,bytesOf,zamW,gD];rw [if_neg (by simp),if_pos (by simp),if_pos (zJ hz)]
 congr 1
 apply Ob;rw [Jh];have e:Lib.itoa (u:Int)=Lib.decDigits u:=by unfold Lib.itoa;rw [if_neg hc];simp
 show UInt8.ofNat (48+q)::t.data.toList=Lib.itoa (u:Int);rw [g3,e];simp
theorem KZ (x:Int) (h: -1000000000000000000<=x/\x<=1000000000000000000):Ev (Cu · x) (LI x):=by
 by_cases hx:x<0
 ·refine ⟨30,λn hn=>?_⟩;obtain ⟨m,rfl,hm⟩:=up1 hn;have e1:IntKind.i64.wrap (0-x)=((x.natAbs:Nat):Int):=by rw [qn (by omega)];omega
  have g:=LJ x.natAbs (by omega) m (by omega);have hl:=Jy x.natAbs (by omega);have e0:Lib.itoa ((x.natAbs:Nat):Int)=Lib.decDigits x.natAbs:=by unfold Lib.itoa;rw [if_neg (by omega)];simp
  have hz:(⟨#[45]⟩:BA).size+(LI ((x.natAbs:Nat):Int)).size<=9223372036854775807:=by
   have:(LI ((x.natAbs:Nat):Int)).size=(Lib.decDigits x.natAbs).length:=by rw [Iu];simp [LI,e0]
   show 1+_<=_;omega
  simp only [Cu,HM,qj,e1,g];rw [if_pos (by simpa using hx),if_pos (zJ hz)]
  congr 1
  apply Ob;rw [Jh];have e:Lib.itoa x=45::Lib.decDigits x.natAbs:=by unfold Lib.itoa;rw [if_pos hx]
  show 45::(Lib.itoa ((x.natAbs:Nat):Int))=Lib.itoa x;rw [e,e0]
 ·obtain ⟨u,rfl⟩:∃u:Nat,x=u:=⟨x.toNat,by omega⟩;exact ⟨25,LJ u (by omega)⟩
theorem Jj (x:Int) (h:0<=x/\x<=5):Ev (EA · x) (qz x):=by
 refine ⟨1,λn hn=>?_⟩;obtain ⟨m,rfl,hm⟩:=up1 hn;simp only [EA,Hw,qj];rcases lt6 h with rfl|rfl|rfl|rfl|rfl|rfl<;>simp [aY,qz]
theorem Oi (n x:Nat) (s:BA) (h:1<=x/\x<=1000) (hs:s.size<=100):(Df n ((x:Int),s)).run=some (.inl ((((x-1)/26:Nat):Int),(⟨#[UInt8.ofNat (65+(x-1)%26)]⟩:BA)++s)):=by
 have w1:IntKind.i64.wrap ((x:Int)-1)=((x-1:Nat):Int):=by rw [qn (by omega)];omega
 have e1:Int.tdiv ((x-1:Nat):Int) 26=(((x-1)/26:Nat):Int):=by rw [Int.tdiv_eq_ediv_of_nonneg (by omega)];omega
 have e2:Int.tmod ((x-1:Nat):Int) 26=(((x-1)%26:Nat):Int):=by rw [Int.tmod_eq_emod_of_nonneg (by omega)];omega
 have w2:IntKind.i64.wrap (((x-1)/26:Nat):Int)=(((x-1)/26:Nat):Int):=qn (by omega);have w3:IntKind.i64.wrap (65+(((x-1)%26:Nat):Int))=65+(((x-1)%26:Nat):Int):=qn (by omega);have w4:IntKind.u8.wrap (65+(((x-1)%26:Nat):Int))=65+(((x-1)%26:Nat):Int):=Qr (by omega);have e3:(65+(((x-1)%26:Nat):Int)).toNat=65+(x-1)%26:=by omega
 have hz:(⟨#[UInt8.ofNat (65+(x-1)%26)]⟩:BA).size+s.size<=9223372036854775807:=by show 1+s.size<=_;omega
 have hc:(x:Int)>0:=by omega
 simp only [Df,qj,w1,e1,e2,w2,w3,w4,e3,bytesOf,zamW];rw [if_pos (zJ hc),if_pos (by simp),if_pos (zJ hz)]
theorem Pp (n:Nat) (s:BA):(Df n (((0:Nat):Int),s)).run=some (.inr s):=by
 simp [Df,qj]
theorem JH (x:Int):Ev (Ez · x) (Hj x):=by
 by_cases h:1<=x/\x<=52
 ·obtain ⟨n1,h1⟩:=Dl x 1 52;refine ⟨n1+10,λn hn=>?_⟩;obtain ⟨m,rfl,hm⟩:=up1 hn;have h1:=h1 m (by omega);dsimp only at h1;obtain ⟨u,rfl⟩:∃u:Nat,x=u:=⟨x.toNat,by omega⟩;obtain ⟨M,hM⟩:∃M,m=M+3:=⟨m-3,by omega⟩;have key:zL (Df m) m ((u:Int),(⟨#[]⟩:BA))=some (Hj u):=by
   rw [hM,qu (Oi _ u ⟨#[]⟩ (by omega) (by decide))];by_cases h26:u<=26
   ·have e:(u-1)/26=0:=by omega
    have e2:65+(u-1)%26=64+u:=by omega
    rw [e,qd (Pp _ _),e2]
    congr 1
    apply Ob;rw [Jh];simp [Hj,show ¬(u:Int)<1 by omega,show ¬(52:Int)<u by omega,show (u:Int)<=26 by omega]
   ·have e:(u-1)/26=1:=by omega
    have e4:(⟨#[UInt8.ofNat (65+(u-1)%26)]⟩++(⟨#[]⟩:BA)).size<=100:=by rw [pC];show 1+0<=100;decide
    rw [e,qu (Oi _ 1 _ (by decide) e4)];have e3:(1-1)/26=0:=by decide
    rw [e3,qd (Pp _ _)]
    congr 1
    apply Ob;rw [Jh,Jh];simp [Hj,show ¬(u:Int)<1 by omega,show ¬(52:Int)<u by omega,show ¬(u:Int)<=26 by omega]
  simp only [Ez,GL,qj,h1,key];simp [h]
 ·have hx:x<1\/x>52:=by omega
  obtain ⟨n1,h1⟩:=Dl x 1 52;refine ⟨n1+1,λn hn=>?_⟩;obtain ⟨m,rfl,hm⟩:=up1 hn;have h1:=h1 m (by omega);dsimp only at h1;simp only [Ez,GL,qj,h1];simp [h,Hj,hx]
theorem GZ (c r:Int) (fc fr:Bool):Ev (qx · c r fc fr) (Ji c r fc fr):=by
 cases ho:D2 c r with
 |false=>
  obtain ⟨n1,h1⟩:=FR c r;refine ⟨n1+1,λn hn=>?_⟩;obtain ⟨m,rfl,hm⟩:=up1 hn;have h1:=h1 m (by omega);dsimp only at h1;simp only [qx,Fj,qj,h1];simp [ho,Ji]
 |true=>
  have h:=Pj ho;have s1:=Oc c;have s2:=Na h.2;have d1:(⟨#[36]⟩:BA).size=1:=rfl;have z1:(⟨#[36]⟩:BA).size+(Hj c).size<=9223372036854775807:=by omega
  have z2:((⟨#[36]⟩:BA)++Hj c).size+(⟨#[36]⟩:BA).size<=9223372036854775807:=by rw [pC];omega
  have z3:(((⟨#[36]⟩:BA)++Hj c)++(⟨#[36]⟩:BA)).size+(LI r).size<=9223372036854775807:=by rw [pC,pC];omega
  have z4:((⟨#[36]⟩:BA)++Hj c).size+(LI r).size<=9223372036854775807:=by rw [pC];omega
  have z5:(Hj c).size+(⟨#[36]⟩:BA).size<=9223372036854775807:=by omega
  have z6:(Hj c++(⟨#[36]⟩:BA)).size+(LI r).size<=9223372036854775807:=by rw [pC];omega
  have z7:(Hj c).size+(LI r).size<=9223372036854775807:=by omega
  obtain ⟨n1,h1⟩:=FR c r;obtain ⟨n2,h2⟩:=JH c;obtain ⟨n3,h3⟩:=KZ r (by omega);refine ⟨n1+n2+n3+1,λn hn=>?_⟩;obtain ⟨m,rfl,hm⟩:=up1 hn;have h1:=h1 m (by omega);dsimp only at h1;have h2:=h2 m (by omega);dsimp only at h2;have h3:=h3 m (by omega);dsimp only at h3;simp only [qx,Fj,qj,h1,h2,h3];simp only [ho,zJ z1,zJ z2,zJ z3,zJ z4,zJ z5,zJ z6,zJ z7,if_true,Bool.not_true,dD,if_false];cases fc<;>cases fr<;>simp only [if_true,if_false,dD,zO]<;>apply Ob<;>simp [Ji,ho,Jh]
theorem Nf (n:Nat) (s:BA):∀(r pre:LBy) (acc M:Nat),s.toList=pre++r->acc<10^pre.length->pre.length+r.length<=17->r.length+1<=M->
  zL (EL n) M (s,(acc:Int),(pre.length:Int))=some (if r.all F5=true then .inr ((FZ acc r:Nat):Int) else .inl (0,false))
 |r,pre,acc,0,h1,h2,h3,h4=>by omega
 | [],pre,acc,M+1,h1,h2,h3,h4=>by
  have hs:s.size=pre.length:=by rw [<-Dk,h1];simp
  rw [qd (r:= .inr (acc:Int)) (by simp [EL,qj,hs])];simp [Ib]
 |c::r,pre,acc,M+1,h1,h2,h3,h4=>by
  have hs:s.size=pre.length+(r.length+1):=by rw [<-Dk,h1];simp
  have hi:(pre.length:Int)<s.size:=by omega
  have hg:s.toList[pre.length]?=some c:=by rw [h1];simp
  simp only [zamM] at h3 h4;by_cases c1:(c.toNat:Int)<48
  ·rw [qd (r:= .inl (0,false)) (by simp [EL,qj,hi,hg,c1])];have:F5 c=false:=by simp [F5];omega
   simp [this]
  ·by_cases c2:(c.toNat:Int)>57
   ·rw [qd (r:= .inl (0,false)) (by simp [EL,qj,hi,hg,c1,c2])];have:F5 c=false:=by simp [F5];omega
    simp [this]
   ·have hc:F5 c=true:=by simp [F5];omega
    have hp:10^pre.length<=10^16:=Nat.pow_le_pow_right (by decide) (by omega);have p16:(10:Nat)^16=10000000000000000:=by decide
    have w1:IntKind.i64.wrap ((acc:Int)*10)=(acc:Int)*10:=qn (by omega);have w2:IntKind.u8.wrap ((c.toNat:Int)-48)=((c.toNat-48:Nat):Int):=by rw [Qr (by omega)];omega
    have w3:IntKind.i64.wrap ((c.toNat-48:Nat):Int)=((c.toNat-48:Nat):Int):=qn (by omega);have w4:IntKind.i64.wrap ((acc:Int)*10+((c.toNat-48:Nat):Int))=((acc*10+(c.toNat-48):Nat):Int):=by rw [qn (by omega)];omega
    have w5:IntKind.i64.wrap ((pre.length:Int)+1)=(pre.length:Int)+1:=qn (by omega);have e0:((pre++ [c]).length:Int)=(pre.length:Int)+1:=by simp
    rw [qu (v':=(s,((acc*10+(c.toNat-48):Nat):Int),((pre++ [c]).length:Int))) (by
     rw [e0];simp [EL,qj,hi,hg,c1,c2,w1,w2,w3,w4,w5])]
    rw [Nf n s r (pre++ [c]) (acc*10+(c.toNat-48)) M (by rw [h1];simp) (by rw [zamO,List.length_singleton,Nat.pow_succ];omega) (by simp;omega) (by omega)];simp [hc,Ic]
theorem G4 (s:BA) (most:Int) (hm:most<=16):Ev (DN · s most) (l1I s.toList most):=by
 have hsz:s.size=s.toList.length:=(Dk s).symm;by_cases h0:s.toList= []
 ·have hz:s.size=0:=by rw [hsz,h0];rfl
  refine ⟨1,λn hn=>?_⟩;obtain ⟨m,rfl,hm⟩:=up1 hn;simp only [DN,GM,FM,qj];simp [hz,h0,l1I,Hp]
 ·obtain ⟨c,r,hcr⟩:∃c r,s.toList=c::r:=by
   cases hq:s.toList with
   |nil=>exact absurd hq h0
   |cons a b=>exact ⟨a,b,rfl⟩
  have hl:s.size=r.length+1:=by rw [hsz,hcr];rfl
  have z1:¬(s.size:Int)<1:=by omega
  by_cases h1:(s.size:Int)>most
  ·refine ⟨1,λn hn=>?_⟩;obtain ⟨m,rfl,hm⟩:=up1 hn;simp only [DN,GM,FM,qj];have:¬((s.toList.length:Int)<=most):=by rw [<-hsz];omega
   simp [z1,h1,l1I,this]
  ·have hle:(s.toList.length:Int)<=most:=by rw [<-hsz];omega
   refine ⟨30,λn hn=>?_⟩;obtain ⟨m,rfl,hm'⟩:=up1 hn;have hg:s.toList[0]?=some c:=by rw [hcr];rfl
   have lp:=Nf m s s.toList [] 0 m rfl (by decide) (by simp;omega) (by omega);simp only [zanD,Int.natCast_zero] at lp;have c48:((c.toNat:Int)==48)=(c==48):=by
    by_cases e:c=48
    ·subst e;rfl
    ·have:¬(c.toNat:Int)=48:=λh=>e (UInt8.toNat_inj.1 (by show c.toNat=48;omega))
     rw [zanF.2 this,zanF.2 e]
   simp only [DN,GM,FM,qj,lp,Int.toNat_zero,hg,c48];rw [if_neg (by simpa using z1),if_neg (by simpa using h1),if_pos (by simp)];have ne:(s.toList== [])=false:=by simpa using h0
   have hd:s.toList.head?=some c:=by rw [hcr];rfl
   by_cases hc:c=48
   ·subst hc;by_cases h2:(s.size:Int)>1
    ·have:¬s.toList.length=1:=by omega
     simp [h2,l1I,Hp,hd,this]
    ·have:s.toList.length=1:=by omega
     cases hall:s.toList.all F5<;>simp [h2,l1I,Hp,hd,this,hall,ne,hle,qj]
     ·omega
   ·have:(some c==some 48)=false:=by simpa using hc
    cases hall:s.toList.all F5<;>simp [hc,l1I,Hp,hd,this,hall,ne,hle,qj]
def PL (s:BA):Nat->Int->V3->V3
 |0,_,v=>v
 |k+1,i,v=>PL s k (i+1) (if (qz i).toList=s.toList then (4,i,em) else v)
theorem Qh:okV 0 0 em=true:=by simp [okV,em,EM]
theorem MV:MU 0 0 em=⟨#[]⟩:=rfl
theorem M3 {R:Type} {F:Nat->Int->Option R} {f:Int->R} {lo:Int} (h0:0<=lo) (h:∀i,lo<=i/\i<=5->Ev (F · i) (f i)):∃n0,∀n,n0<=n->∀i,lo<=i/\i<=5->F n i=some (f i):=by
 obtain ⟨n0,h1⟩:=De (F:=λi n=>if lo<=i/\i<=5 then F n i else some (f i)) (f:=f) [0,1,2,3,4,5] (λi _=>by
  by_cases hi:lo<=i/\i<=5
  ·obtain ⟨n0,h1⟩:=h i hi;exact ⟨n0,λn hn=>by simp only [if_pos hi];exact h1 n hn⟩
  ·exact ⟨0,λn _=>by simp only [if_neg hi]⟩)
 refine ⟨n0,λn hn i hi=>?_⟩;have:=h1 n hn i (by
  have c:i=0\/i=1\/i=2\/i=3\/i=4\/i=5:=by omega
  rcases c with rfl|rfl|rfl|rfl|rfl|rfl<;>simp)
 simp only [if_pos hi] at this;exact this
theorem LL (n:Nat) (s:BA) (a b:Int) (c:BA) (h1:∀i,0<=i/\i<=5->EA n i=some (qz i)):
  ∀(k:Nat) (i x:Int) (M:Nat),i+k=6->1<=i->k+1<=M->(PL s k i (4,x,em)).1=4/\(PL s k i (4,x,em)).2.2=em/\zL (Dj n) M (s,i,a,b,c,4,x,⟨#[]⟩)=some (a,b,c,4,(PL s k i (4,x,em)).2.1,⟨#[]⟩)
 |k,i,x,0,e,h,hM=>by omega
 |0,i,x,M+1,e,h,hM=>by
  have hi:¬i<=5:=by omega
  refine ⟨rfl,rfl,?_⟩;rw [qd (r:=(a,b,c,4,x,⟨#[]⟩)) (by simp [Dj,qj,hi])];rfl
 |k+1,i,x,M+1,e,h,hM=>by
  have hi:i<=5:=by omega
  have g:=h1 i (by omega);have w1:IntKind.i64.wrap (i+1)=i+1:=qn (by omega);have hu:PL s (k+1) i (4,x,em)=PL s k (i+1) (4,if (qz i).toList=s.toList then i else x,em):=by
   simp only [PL];split<;>rfl
  rw [hu,qu (v':=(s,i+1,a,b,c,4,(if (qz i).toList=s.toList then i else x),⟨#[]⟩)) (by
   simp only [Dj,qj,g,w1];rw [if_pos (zJ hi)];by_cases hq:(qz i).toList=s.toList<;>simp [hq])]
  exact LL n s a b c h1 k (i+1) _ M (by omega) (by omega) (by omega)
theorem RU (s:BA):PL s 5 1 (4,0,em)=(4,HK s,em):=by
 have a2:(1:Int)+1=2:=by decide
 have a3:(2:Int)+1=3:=by decide
 have a4:(3:Int)+1=4:=by decide
 have a5:(4:Int)+1=5:=by decide
 simp only [PL,HK,a2,a3,a4,a5];by_cases h5:(qz 5).toList=s.toList
 ·simp [h5]
 by_cases h4:(qz 4).toList=s.toList
 ·simp [h5,h4]
 by_cases h3:(qz 3).toList=s.toList
 ·simp [h5,h4,h3]
 by_cases h2:(qz 2).toList=s.toList
 ·simp [h5,h4,h3,h2]
 by_cases h1:(qz 1).toList=s.toList<;>simp [h5,h4,h3,h2,h1]
theorem SG (s:BA):(s.extract (1:Int).toNat ((s.size:Int)).toNat).toList=s.toList.tail:=by
 have e1:(1:Int).toNat=1:=rfl;rw [gD,e1,zao,ByteArray.data_extract,Array.toList_extract,zao];have hl:s.data.toList.length=s.size:=by rw [<-Iu]
 show (s.data.toList.drop 1).take (s.size-1)=s.data.toList.tail;rw [List.take_of_length_le (by rw [List.length_drop,hl];exact zI _),List.drop_one]
theorem Qs {s:BA} {c:UInt8} {r:LBy} (h:s.toList=c::r):s.toList[((0:Int)).toNat]?=some c:=by rw [h];rfl
theorem QR {x:Int}:okV 1 x em=decide (-1000000000000000<=x/\x<=1000000000000000):=by
 simp [okV,em,EM]
theorem Qi {s:BA} (h39:¬s.toList.head?=some 39) (hF:¬s.toList= [70,65,76,83,69]) (hT:¬s.toList= [84,82,85,69]) (h35:¬s.toList.head?=some 35) (h0:¬s.toList= []):
  Cr s=match PK s.toList with
   |some x=>if okV 1 x em=true then (1,x,em,true) else (0,0,⟨#[]⟩,false)
   |none=>(0,0,⟨#[]⟩,false):=by
 have hc:E9 s=(1,IJ s,em):=by unfold E9;rw [if_neg h39,if_neg hF,if_neg hT,if_neg h35,if_neg h0]
 have rd:Cr s=if okV 1 (IJ s) em=true/\(MU 1 (IJ s) em).toList=s.toList then (1,IJ s,em,true) else (0,0,⟨#[]⟩,false):=by unfold Cr;rw [hc]
 have tx:∀x,(MU 1 x em).toList=Lib.itoa x:=λx=>by
  rw [zao];simp [MU,LI]
 have back:okV 1 (IJ s) em=true/\(MU 1 (IJ s) em).toList=s.toList->PK s.toList=some (IJ s):=λ⟨a,b⟩=>by
  rw [tx] at b;rw [QR] at a;rw [<-b];exact Qg (by simpa using a)
 rw [rd];cases hn:PK s.toList with
 |none=>
  rw [if_neg (λh=>by rw [back h] at hn;cases hn)]
 |some x=>
  by_cases hx:okV 1 x em=true
  ·have hi:=Qf hn;have hr: -1000000000000000<=x/\x<=1000000000000000:=by rw [QR] at hx;simpa using hx
   have hp:=Po hi hr;dsimp only;rw [hp,if_pos ⟨hx,by rw [tx,hi]⟩,if_pos hx]
  ·dsimp only;rw [if_neg hx,if_neg (λh=>by
    have:=back h;rw [hn] at this;cases this;exact hx h.1)]
theorem Qj (s:BA) {c:UInt8} {r:LBy} (hcr:s.toList=c::r):PK s.toList=if c=45 then (if (l1I s.toList.tail 16).2=true/\(l1I s.toList.tail 16).1≠0 then some (-(l1I s.toList.tail 16).1) else none) else (if (l1I s.toList 16).2=true then some (l1I s.toList 16).1 else none):=by
 unfold PK;rw [hcr];simp only [List.head?_cons,zO,List.drop_one]
theorem LM (s:BA) (hb:s.size<=1048576):Ev (Ci · s) (Cr s):=by
 have te:(⟨#[]⟩:BA).toList= []:=EM;have tF:(⟨#[70,65,76,83,69]⟩:BA).toList= [70,65,76,83,69]:=by rw [zao]
 have tT:(⟨#[84,82,85,69]⟩:BA).toList= [84,82,85,69]:=by rw [zao]
 have hsz:s.size=s.toList.length:=(Dk s).symm;by_cases h0:s.toList= []
 ·have hv:Cr s=(0,0,⟨#[]⟩,true):=by
   have hc:E9 s=(0,0,em):=by unfold E9;rw [h0];simp
   unfold Cr;rw [hc,if_pos ⟨Qh,by rw [MV,h0];exact te⟩];rfl
  rw [hv];refine ⟨1,λn hn=>?_⟩;obtain ⟨m,rfl,hm⟩:=up1 hn;simp only [Ci,C9,q8,q9,Cf,qj];simp [h0,te]
 ·obtain ⟨c,r,hcr⟩:∃c r,s.toList=c::r:=by
   cases hq:s.toList with
   |nil=>exact absurd hq h0
   |cons a b=>exact ⟨a,b,rfl⟩
  have hg:=Qs hcr;have hd:s.toList.head?=some c:=by rw [hcr];rfl
  have b0:(s.toList== [])=false:=by simpa using h0
  have s1:(1:Int)<=(s.size:Int):=by rw [hsz,hcr];simp;omega
  have k39:=RS c 39 (by decide);have k35:=RS c 35 (by decide);have k45:=RS c 45 (by decide);have u39:UInt8.ofNat 39=39:=rfl;have u35:UInt8.ofNat 35=35:=rfl;have u45:UInt8.ofNat 45=45:=rfl;rw [u39] at k39;rw [u35] at k35;rw [u45] at k45;have q39:((39:Nat):Int)=39:=rfl;have q35:((35:Nat):Int)=35:=rfl;have q45:((45:Nat):Int)=45:=rfl;rw [q39] at k39;rw [q35] at k35;rw [q45] at k45;by_cases h39:c=39
  ·have hx:(⟨s.toList.tail.toArray⟩:BA)=s.extract (1:Int).toNat ((s.size:Int)).toNat:=II (by rw [SG];rw [zao]);have hc:E9 s=(2,0,s.extract (1:Int).toNat ((s.size:Int)).toNat):=by unfold E9;rw [if_pos (by rw [hd,h39]),hx]
   have hz:(s.extract (1:Int).toNat ((s.size:Int)).toNat).size<=140737488351232:=by rw [<-hx,Iu];simp only [List.length_tail];rw [Dk];omega
   have hvt:(MU 2 0 (s.extract (1:Int).toNat ((s.size:Int)).toNat)).toList=s.toList:=by
    rw [<-hx,zao];show ((⟨#[39]⟩:BA)++_).data.toList=_;rw [Jh,hcr,h39];rfl
   have hv:Cr s=if okV 2 0 (s.extract (1:Int).toNat ((s.size:Int)).toNat)=true then (2,0,s.extract (1:Int).toNat ((s.size:Int)).toNat,true) else (0,0,⟨#[]⟩,false):=by
    unfold Cr;rw [hc];simp only [hvt,and_true]
   rw [hv];have e39:(some c==some 39)=true:=by rw [h39];rfl
   obtain ⟨n1,h1⟩:=EN 2 0 (s.extract (1:Int).toNat ((s.size:Int)).toNat) hz;refine ⟨n1+1,λn hn=>?_⟩;obtain ⟨m,rfl,hm⟩:=up1 hn;have h1:=h1 m (by omega);dsimp only at h1;simp only [Ci,C9,q8,q9,Cf,qj,h1];simp only [qj,te,b0,hg,k39,e39];cases ho:okV 2 0 (s.extract (1:Int).toNat ((s.size:Int)).toNat)<;>simp [s1]
  ·have n39:¬s.toList.head?=some 39:=by rw [hd];simpa using h39
   have e39:(some c==some 39)=false:=by simpa using h39
   by_cases hT:s.toList= [84,82,85,69]
   ·have hF:¬s.toList= [70,65,76,83,69]:=by rw [hT];decide
    have hc:E9 s=(3,1,em):=by unfold E9;rw [if_neg n39,if_neg hF,if_pos hT]
    have ho:okV 3 1 em=true:=by simp [okV,em,EM]
    have hv:Cr s=(3,1,⟨#[]⟩,true):=by
     unfold Cr;rw [hc,if_pos ⟨ho,by rw [hT];exact tT⟩];rfl
    rw [hv];have bT:(s.toList== [84,82,85,69])=true:=by simpa using hT
    obtain ⟨n1,h1⟩:=EN 3 1 ⟨#[]⟩ (by decide);refine ⟨n1+1,λn hn=>?_⟩;obtain ⟨m,rfl,hm⟩:=up1 hn;have h1:=h1 m (by omega);dsimp only at h1;simp only [Ci,C9,q8,q9,Cf,qj,h1];dsimp only [em] at ho;simp only [qj,te,b0,hg,k39,e39,tT,bT,ho];simp
   ·have bT:(s.toList== [84,82,85,69])=false:=by simpa using hT
    by_cases hF:s.toList= [70,65,76,83,69]
    ·have hc:E9 s=(3,0,em):=by unfold E9;rw [if_neg n39,if_pos hF]
     have ho:okV 3 0 em=true:=by simp [okV,em,EM]
     have hv:Cr s=(3,0,⟨#[]⟩,true):=by
      unfold Cr;rw [hc,if_pos ⟨ho,by rw [hF];exact tF⟩];rfl
     rw [hv];have bF:(s.toList== [70,65,76,83,69])=true:=by simpa using hF
     obtain ⟨n1,h1⟩:=EN 3 0 ⟨#[]⟩ (by decide);refine ⟨n1+1,λn hn=>?_⟩;obtain ⟨m,rfl,hm⟩:=up1 hn;have h1:=h1 m (by omega);dsimp only at h1;simp only [Ci,C9,q8,q9,Cf,qj,h1];dsimp only [em] at ho;simp only [qj,te,b0,hg,k39,e39,tT,bT,tF,bF,ho];simp
    ·have bF:(s.toList== [70,65,76,83,69])=false:=by simpa using hF
     by_cases h35:c=35
     ·have n35:s.toList.head?=some 35:=by rw [hd,h35]
      have e35:(some c==some 35)=true:=by rw [h35];rfl
      have hc:E9 s=(if HK s=0 then (0,0,em) else (4,HK s,em)):=by unfold E9;rw [if_neg n39,if_neg hF,if_neg hT,if_pos n35]
      have hin:=RQ s;have ho:okV 4 (HK s) (⟨#[]⟩:BA)=!(HK s==0):=by
       by_cases hz:HK s=0
       ·simp [okV,EM,hz]
       ·have hr:1<=HK s/\HK s<=5:=by omega
        simp [okV,EM,hr,hz]
      have hv:Cr s=if HK s=0 then (0,0,⟨#[]⟩,false) else (4,HK s,⟨#[]⟩,true):=by
       unfold Cr;rw [hc];by_cases hz:HK s=0
       ·simp only [if_pos hz];rw [if_neg (λh=>h0 (by rw [<-h.2,MV];exact te))]
       ·simp only [if_neg hz];have ho':okV 4 (HK s) em=true:=by show okV 4 (HK s) ⟨#[]⟩=true;rw [ho];simpa using hz
        rw [if_pos ⟨ho',by show (qz (HK s)).toList=s.toList;rw [RR hz]⟩];rfl
      rw [hv];obtain ⟨n1,h1⟩:=EN 4 (HK s) ⟨#[]⟩ (by decide);obtain ⟨n3,h3⟩:=M3 (F:=EA) (f:=qz) (lo:=0) (by decide) Jj;refine ⟨n1+n3+10,λn hn=>?_⟩;obtain ⟨m,rfl,hm⟩:=up1 hn;have h1:=h1 m (by omega);dsimp only at h1;obtain ⟨_,_,lp⟩:=LL m s 0 0 ⟨#[]⟩ (h3 m (by omega)) 5 1 0 m (by decide) (by decide) (by omega);rw [RU] at lp;simp only [Ci,C9,q8,q9,Cf,qj,te,b0,hg,k39,e39,tT,bT,tF,bF,k35,e35,lp,h1,ho];by_cases hz:HK s=0<;>simp [hz]
     ·have n35:¬s.toList.head?=some 35:=by rw [hd];simpa using h35
      have e35:(some c==some 35)=false:=by simpa using h35
      rw [Qi n39 hF hT n35 h0,Qj s hcr];dsimp only [em];by_cases h45:c=45
      ·have e45:(some c==some 45)=true:=by rw [h45];rfl
       have g16:∀{q:LBy},(l1I q 16).2=true->(0<=(l1I q 16).1/\(l1I q 16).1<=10000000000000000):=fun {q} hq=>by
        have p16:(10:Nat)^16=10000000000000000:=by decide
        obtain ⟨a1,a2,a3,a4⟩:=Nb hq;rw [a3];simp only [Hp,zY] at a2;have:=QP q 0 0 a2.1.2 (by decide);have h2:(10:Nat)^(0+q.length)<=10^16:=Nat.pow_le_pow_right (by decide) (by omega);omega
       have hl:=G4 (s.extract (1:Int).toNat ((s.size:Int)).toNat) 16 (by decide);rw [SG] at hl;have hrange:= @g16 s.toList.tail;generalize l1I s.toList.tail 16=q at*
       obtain ⟨x,ok⟩:=q;have w1:ok=true->IntKind.i64.wrap (0-x)= -x:=λh=>by
        have:=hrange h;dsimp only at this;rw [Int.zero_sub];exact qn (by omega)
       obtain ⟨n1,h1⟩:=hl;obtain ⟨n2,h2⟩:=EN 1 (-x) ⟨#[]⟩ (by decide);refine ⟨n1+n2+1,λn hn=>?_⟩;obtain ⟨m,rfl,hm⟩:=up1 hn;have h1:=h1 m (by omega);dsimp only at h1;have h2:=h2 m (by omega);dsimp only at h2;simp only [Ci,C9,q8,q9,Cf,qj,h1,h2];simp only [qj,te,b0,hg,k39,e39,tT,bT,tF,bF,k35,e35,k45,e45,h45,if_true];cases ok with
       |false=>simp [s1]
       |true=>
        simp only [qj,w1 rfl,h2];by_cases hx:x=0
        ·simp [s1,hx]
        ·cases ho:okV 1 (-x) (⟨#[]⟩:BA)<;>simp [s1,hx,ho]
      ·have e45:(some c==some 45)=false:=by simpa using h45
       have hl:=G4 s 16 (by decide);generalize l1I s.toList 16=q at*
       obtain ⟨x,ok⟩:=q;obtain ⟨n1,h1⟩:=hl;obtain ⟨n2,h2⟩:=EN 1 x ⟨#[]⟩ (by decide);refine ⟨n1+n2+1,λn hn=>?_⟩;obtain ⟨m,rfl,hm⟩:=up1 hn;have h1:=h1 m (by omega);dsimp only at h1;have h2:=h2 m (by omega);dsimp only at h2;simp only [Ci,C9,q8,q9,Cf,qj,h1,h2];simp only [qj,te,b0,hg,k39,e39,tT,bT,tF,bF,k35,e35,k45,e45,if_neg h45];cases ok with
       |false=>simp
       |true=>cases ho:okV 1 x (⟨#[]⟩:BA)<;>simp [ho]
def rcK (s:BA):Nat->Int->Int
 |0,_=>0
 |k+1,i=>if (Hj i).toList=s.toList then i else rcK s k (i+1)
def LN (s:BA):Int:=rcK s 52 1
def KM (c:UInt8):Bool:=decide (65<=c.toNat)&&decide (c.toNat<=90)
def qw (l:LBy):LBy:=if l.head?=some 36 then l.tail else l
def qe (l:LBy):LBy:=l.takeWhile KM
def D5 (l:LBy):LBy:=l.dropWhile KM
def EI (s:BA):Int×Int×Bool×Bool×Bool:=
 if (l1I (qw (D5 (qw s.toList))) 2).2=true/\D2 (LN ⟨(qe (qw s.toList)).toArray⟩) (l1I (qw (D5 (qw s.toList))) 2).1=true then
  (LN ⟨(qe (qw s.toList)).toArray⟩,(l1I (qw (D5 (qw s.toList))) 2).1,s.toList.head?==some 36,(D5 (qw s.toList)).head?==some 36,true) else (0,0,false,false,false)
theorem Ng {R:Type} {B:BA×Int->Tr ((BA×Int)⊕(Int⊕Unit))} {s:BA} (hs:∀i:Int,1<=i/\i<=52->(B (s,i)).run=some (if (Hj i).toList=s.toList then .inr (.inl i) else .inl (s,i+1))) (he:(B (s,53)).run=some (.inr (.inr ()))):
  ∀(k:Nat) (i:Int) (M:Nat),1<=i->i+k=53->k+1<=M->zL B M (s,i)=some (if rcK s k i=0 then .inr () else .inl (rcK s k i))
 |k,i,0,h1,h2,h3=>by omega
 |0,i,M+1,h1,h2,h3=>by
  have:i=53:=by omega
  subst this;rw [qd he];rfl
 |k+1,i,M+1,h1,h2,h3=>by
  have h:=hs i ⟨h1,by omega⟩;by_cases e:(Hj i).toList=s.toList
  ·rw [if_pos e] at h;rw [qd h];simp only [rcK,if_pos e];rw [if_neg (by omega)]
  ·rw [if_neg e] at h;rw [qu h];simp only [rcK,if_neg e];exact Ng (R:=R) hs he k (i+1) M (by omega) (by omega) (by omega)
theorem RV {F:Nat->Int->Option BA} (h:∀i,Ev (F · i) (Hj i)):∃n0,∀n,n0<=n->∀i,1<=i/\i<=52->F n i=some (Hj i):=by
 obtain ⟨n0,h1⟩:=De (F:=λ(i:Nat) n=>F n (i:Int)) (f:=λi=>Hj (i:Int)) (List.range 53) (λi _=>h i);refine ⟨n0,λn hn i hi=>?_⟩;have:=h1 n hn i.toNat (by rw [List.mem_range];omega)
 rwa [Int.toNat_of_nonneg (by omega)] at this
theorem Mz (s:BA):Ev (Fe · s) (LN s):=by
 obtain ⟨n0,h⟩:=RV JH;refine ⟨n0+60,λn hn=>?_⟩;obtain ⟨m,rfl,hm⟩:=up1 hn;have hc:=h m (by omega);have lp:=Ng (R:=Unit) (B:=Eh m) (s:=s) (λi hi=>by
  have g:=hc i hi;have w1:IntKind.i64.wrap (i+1)=i+1:=qn (by omega);simp only [Eh,qj,g,w1];rw [if_pos (zJ hi.2)];by_cases e:(Hj i).toList=s.toList<;>simp [e]) (by simp [Eh,qj]) 52 1 m (by decide) (by decide) (by omega)
 simp only [Fe,HU,qj,lp];show _=some (rcK s 52 1);by_cases e:rcK s 52 1=0
 ·rw [if_pos e,e];rfl
 ·rw [if_neg e];rfl
theorem FA (b:BA):b.size=b.toList.length:=(Dk b).symm
theorem Qt (b:BA) (k:Nat):(b.extract 0 k).toList=b.toList.take k:=by
 rw [zao,ByteArray.data_extract,Array.toList_extract,zao];show (b.data.toList.drop 0).take (k-0)=_;simp
theorem Hf (b:BA) (k:Nat):(b.extract k b.size).toList=b.toList.drop k:=by
 rw [zao,ByteArray.data_extract,Array.toList_extract,zao];have hl:b.data.toList.length=b.size:=by rw [<-Iu]
 show (b.data.toList.drop k).take (b.size-k)=_;rw [List.take_of_length_le (by rw [List.length_drop,hl];exact zI _)]
theorem PM (l:LBy):l.take (qe l).length=qe l:=by
 have h:=List.takeWhile_append_dropWhile (p:=KM) (l:=l);have h2:(List.takeWhile KM l++List.dropWhile KM l).take (List.takeWhile KM l).length=List.takeWhile KM l:=List.take_left ..;rw [h] at h2;exact h2
theorem LO (l:LBy):l.drop (qe l).length=D5 l:=by
 have h:=List.takeWhile_append_dropWhile (p:=KM) (l:=l);have h2:(List.takeWhile KM l++List.dropWhile KM l).drop (List.takeWhile KM l).length=List.dropWhile KM l:=List.drop_left ..;rw [h] at h2;exact h2
theorem Pq (l:LBy):(qe l).length<=l.length:=by
 have h:=congrArg List.length (List.takeWhile_append_dropWhile (p:=KM) (l:=l));rw [zamO] at h;unfold qe;omega
theorem LP (n:Nat) (b:BA) (fc:Bool) (hb:b.size<=1048576):∀(r pre:LBy) (M:Nat),b.toList=pre++r->r.length+1<=M->
  zL (Cn n) M (b,(pre.length:Int),0,0,false,false,0,0,fc,false)=some (b,((pre.length+(qe r).length:Nat):Int),0,0,false,false,0,0,fc,false)
 |r,pre,0,h1,h2=>by omega
 | [],pre,M+1,h1,h2=>by
  have hi:¬(pre.length:Int)<b.size:=by rw [FA,h1];simp
  rw [qd (r:=(b,(pre.length:Int),0,0,false,false,0,0,fc,false)) (by simp [Cn,qj,hi])];simp [qe]
 |c::r,pre,M+1,h1,h2=>by
  have hl:b.size=pre.length+(r.length+1):=by rw [FA,h1];simp
  have hi:(pre.length:Int)<b.size:=by omega
  have hg:b.toList[pre.length]?=some c:=by rw [h1];simp
  have w1:IntKind.i64.wrap ((pre.length:Int)+1)=(pre.length:Int)+1:=qn (by omega);by_cases hc:KM c=true
  ·have hc':65<=c.toNat/\c.toNat<=90:=by simpa [KM] using hc
   have c1:(c.toNat:Int)≥65:=by omega
   have c2:(c.toNat:Int)<=90:=by omega
   have e0:((pre++ [c]).length:Int)=(pre.length:Int)+1:=by simp
   rw [qu (v':=(b,((pre++ [c]).length:Int),0,0,false,false,0,0,fc,false)) (by
    rw [e0];simp [Cn,qj,hi,hg,c1,c2,w1])]
   rw [LP n b fc hb r (pre++ [c]) M (by rw [h1];simp) (by simp at h2;omega)];simp [qe,hc];omega
  ·rw [qd (r:=(b,(pre.length:Int),0,0,false,false,0,0,fc,false)) (by
    by_cases c1:(c.toNat:Int)≥65
    ·have c2:¬(c.toNat:Int)<=90:=λh=>hc (by simp [KM];omega)
     simp [Cn,qj,hi,hg,c1,c2]
    ·simp [Cn,qj,hi,hg,c1])]
   simp [qe,hc]
theorem LQ (s:BA) (hb:s.size<=1048576):Ev (C8 · s) (EI s):=by
 have main:∀(b:BA) (fc:Bool),b.size<=1048576->b.toList=qw s.toList->fc=(s.toList.head?==some 36)->
   ∃n0,∀m,n0<=m->zL (Cn m) m (b,0,0,0,false,false,0,0,fc,false)=some (b,((qe (qw s.toList)).length:Int),0,0,false,false,0,0,fc,false)/\
    Fe m (b.extract 0 (qe (qw s.toList)).length)=some (LN ⟨(qe (qw s.toList)).toArray⟩)/\
    DN m (b.extract (qe (qw s.toList)).length b.size) 2=some (l1I (D5 (qw s.toList)) 2)/\
    DN m ((b.extract (qe (qw s.toList)).length b.size).extract 1 (b.extract (qe (qw s.toList)).length b.size).size) 2=some (l1I (D5 (qw s.toList)).tail 2):=λb fc hb hl _=>by
  have x1:b.extract 0 (qe (qw s.toList)).length=⟨(qe (qw s.toList)).toArray⟩:=II (by rw [Qt,hl,PM,Oh (qe (qw s.toList))]);have x2:(b.extract (qe (qw s.toList)).length b.size).toList=D5 (qw s.toList):=by rw [Hf,hl,LO]
  have x3:((b.extract (qe (qw s.toList)).length b.size).extract 1 (b.extract (qe (qw s.toList)).length b.size).size).toList=(D5 (qw s.toList)).tail:=by rw [Hf,x2,List.drop_one]
  obtain ⟨n1,h1⟩:=Mz (b.extract 0 (qe (qw s.toList)).length);obtain ⟨n2,h2⟩:=G4 (b.extract (qe (qw s.toList)).length b.size) 2 (by decide);obtain ⟨n3,h3⟩:=G4 ((b.extract (qe (qw s.toList)).length b.size).extract 1 (b.extract (qe (qw s.toList)).length b.size).size) 2 (by decide);rw [x1] at h1;rw [x2] at h2;rw [x3] at h3;refine ⟨n1+n2+n3+b.size+2,λm hm=>⟨?_,by rw [x1];exact h1 m (by omega),h2 m (by omega),h3 m (by omega)⟩⟩;have:=LP m b fc hb b.toList [] m rfl (by rw [<-FA];omega);simp only [zanD,Int.natCast_zero,Nat.zero_add] at this;rw [this,hl]
 have z:∀(b:BA),b.toList=qw s.toList->((qe (qw s.toList)).length:Int)<=b.size:=λb hl=>by
  have:=Pq (qw s.toList);rw [<-hl] at this⊢;rw [FA];omega
 have k36:∀c:UInt8,((c.toNat:Int)==36)=(some c==some 36):=λc=>by
  have h:=RS c 36 (by decide);have u:UInt8.ofNat 36=36:=rfl;rw [u] at h;exact h
 unfold EI;have part:∀(b:BA) (fc:Bool),b.size<=1048576->b.toList=qw s.toList->fc=(s.toList.head?==some 36)->
   ((fc=true/\b=s.extract 1 s.size/\∃c r,s.toList=c::r/\c=36)\/(fc=false/\b=s/\∀c r,s.toList=c::r->(some c==some (36:UInt8))=false))->
   Ev (C8 · s) (if (l1I (qw (D5 (qw s.toList))) 2).2=true/\D2 (LN ⟨(qe (qw s.toList)).toArray⟩) (l1I (qw (D5 (qw s.toList))) 2).1=true then
    (LN ⟨(qe (qw s.toList)).toArray⟩,(l1I (qw (D5 (qw s.toList))) 2).1,s.toList.head?==some 36,(D5 (qw s.toList)).head?==some 36,true) else (0,0,false,false,false)):=λb fc hb2 hl hfc hcase=>by
  obtain ⟨n0,hm0⟩:=main b fc hb2 hl hfc;have hz:=z b hl;obtain ⟨n2,h2⟩:=FR (LN ⟨(qe (qw s.toList)).toArray⟩) (l1I (qw (D5 (qw s.toList))) 2).1;have x2:(b.extract (qe (qw s.toList)).length b.size).toList=D5 (qw s.toList):=by rw [Hf,hl,LO]
  rw [<-hfc];refine ⟨n0+n2+1,λn hn=>?_⟩;obtain ⟨m,rfl,hm⟩:=up1 hn;obtain ⟨g1,g2,g3,g4⟩:=hm0 m (by omega);have h2:=h2 m (by omega);dsimp only at h2;have e1:(1:Int).toNat=1:=rfl;have e0:(0:Int).toNat=0:=rfl;have start:∀q,(EY m s).run=q->C8 (m+1) s=q:=λq h=>h
  apply start;rcases hcase with ⟨rfl,rfl,c,r,hcr,rfl⟩|⟨rfl,rfl,hno⟩
  ·have hsz:(s.size:Int)>0:=by rw [FA,hcr];simp<;>omega
   have hs1:(1:Int)<=s.size:=by omega
   have hg:s.toList[0]?=some 36:=by rw [hcr];rfl
   have bs:(s.extract 1 s.size).size=s.size-1:=by rw [FA,Hf,List.length_drop,<-FA]
   have zn:(qe (qw s.toList)).length<=s.size-1:=by rw [<-bs];omega
   have sn:0<s.size:=by omega
   have c36:((((36:UInt8)).toNat:Int)==36)=true:=rfl;simp only [EY,ES,ET,qj,gD,e0,e1,hg,c36,g1,g2];cases hq:D5 (qw s.toList) with
   |nil=>
    have y0:((s.extract 1 s.size).extract (qe (qw s.toList)).length (s.extract 1 s.size).size).size=0:=by rw [FA,x2,hq];rfl
    have hoff:qw (D5 (qw s.toList))= []:=by rw [hq];rfl
    rw [hoff] at h2;rw [hq] at g3;simp only [y0,g3,h2,qj];have hoff':qw ([]:LBy)= []:=rfl;rw [hoff'];generalize l1I ([]:LBy) 2=q at*
    obtain ⟨x,ok⟩:=q;cases ok<;>cases hk:D2 (LN ⟨(qe (qw s.toList)).toArray⟩) x<;>simp [hz,hsz,hs1,zn,sn]
   |cons d w=>
    have y0:(((s.extract 1 s.size).extract (qe (qw s.toList)).length (s.extract 1 s.size).size).size:Int)>0:=by rw [FA,x2,hq];simp<;>omega
    have y1:(1:Int)<=((s.extract 1 s.size).extract (qe (qw s.toList)).length (s.extract 1 s.size).size).size:=by omega
    have ys:((s.extract 1 s.size).extract (qe (qw s.toList)).length (s.extract 1 s.size).size).size=(s.extract 1 s.size).size-(qe (qw s.toList)).length:=by rw [FA,Hf,List.length_drop,<-FA]
    have yn:(qe (qw s.toList)).length<(s.size-1):=by rw [<-bs];omega
    have yn2:1<=(s.size-1)-(qe (qw s.toList)).length:=by omega
    have yn3:0<(s.size-1)-(qe (qw s.toList)).length:=by omega
    have yn4:(1:Int)<=(((s.size-1)-(qe (qw s.toList)).length:Nat):Int):=by omega
    have yg:((s.extract 1 s.size).extract (qe (qw s.toList)).length (s.extract 1 s.size).size).toList[0]?=some d:=by rw [x2,hq];rfl
    rw [hq] at g3 g4 h2;simp only [yg,k36 d,qj];by_cases hd:d=36
    ·have hoff:qw (d::w)=w:=by unfold qw;rw [if_pos (by rw [hd];rfl)];rfl
     rw [hoff] at h2⊢;have e36:(some d==some (36:UInt8))=true:=by rw [hd];rfl
     simp only [List.tail_cons] at g4;simp only [e36,g4,h2,List.head?_cons,qj];generalize l1I w 2=q at*
     obtain ⟨x,ok⟩:=q;cases ok<;>cases hk:D2 (LN ⟨(qe (qw s.toList)).toArray⟩) x<;>simp [hz,hsz,hs1,y0,y1,zn,sn,yn,yn2,yn3,yn4]
    ·have hoff:qw (d::w)=d::w:=by unfold qw;rw [if_neg (by simpa using hd)]
     rw [hoff] at h2⊢;have e36:(some d==some (36:UInt8))=false:=by simpa using hd
     simp only [e36,g3,h2,List.head?_cons,qj];generalize l1I (d::w) 2=q at*
     obtain ⟨x,ok⟩:=q;cases ok<;>cases hk:D2 (LN ⟨(qe (qw s.toList)).toArray⟩) x<;>simp [hz,hsz,hs1,y0,y1,zn,sn,yn,yn2,yn3,yn4]
  ·by_cases hs0:(b.size:Int)>0
   ·obtain ⟨c,r,hcr⟩:∃c r,b.toList=c::r:=by
     cases hq:b.toList with
     |nil=>rw [FA,hq] at hs0;simp at hs0
     |cons a l=>exact ⟨a,l,rfl⟩
    have hg:b.toList[0]?=some c:=by rw [hcr];rfl
    have hc:=hno c r hcr;have hsz:(b.size:Int)>0:=hs0;have hs1:(1:Int)<=b.size:=by omega
    have zn:(qe (qw b.toList)).length<=b.size:=by omega
    have sn:0<b.size:=by omega
    simp only [EY,ES,ET,qj,gD,e0,e1,hg,k36 c,hc,g1,g2];cases hq:D5 (qw b.toList) with
    |nil=>
     have y0:(b.extract (qe (qw b.toList)).length b.size).size=0:=by rw [FA,x2,hq];rfl
     have hoff:qw (D5 (qw b.toList))= []:=by rw [hq];rfl
     rw [hoff] at h2;rw [hq] at g3;simp only [y0,g3,h2,qj];have hoff':qw ([]:LBy)= []:=rfl;rw [hoff'];generalize l1I ([]:LBy) 2=q at*
     obtain ⟨x,ok⟩:=q;cases ok<;>cases hk:D2 (LN ⟨(qe (qw b.toList)).toArray⟩) x<;>simp [hz,hsz,hs1,zn,sn]
    |cons d w=>
     have y0:((b.extract (qe (qw b.toList)).length b.size).size:Int)>0:=by rw [FA,x2,hq];simp<;>omega
     have y1:(1:Int)<=(b.extract (qe (qw b.toList)).length b.size).size:=by omega
     have ys:(b.extract (qe (qw b.toList)).length b.size).size=b.size-(qe (qw b.toList)).length:=by rw [FA,Hf,List.length_drop,<-FA]
     have yn:(qe (qw b.toList)).length<b.size:=by omega
     have yn2:1<=b.size-(qe (qw b.toList)).length:=by omega
     have yn3:0<b.size-(qe (qw b.toList)).length:=by omega
     have yn4:(1:Int)<=((b.size-(qe (qw b.toList)).length:Nat):Int):=by omega
     have yg:(b.extract (qe (qw b.toList)).length b.size).toList[0]?=some d:=by rw [x2,hq];rfl
     rw [hq] at g3 g4 h2;simp only [yg,k36 d,qj];by_cases hd:d=36
     ·have hoff:qw (d::w)=w:=by unfold qw;rw [if_pos (by rw [hd];rfl)];rfl
      rw [hoff] at h2⊢;have e36:(some d==some (36:UInt8))=true:=by rw [hd];rfl
      simp only [List.tail_cons] at g4;simp only [e36,g4,h2,List.head?_cons,qj];generalize l1I w 2=q at*
      obtain ⟨x,ok⟩:=q;cases ok<;>cases hk:D2 (LN ⟨(qe (qw b.toList)).toArray⟩) x<;>simp [hz,hsz,hs1,y0,y1,zn,sn,yn,yn2,yn3,yn4]
     ·have hoff:qw (d::w)=d::w:=by unfold qw;rw [if_neg (by simpa using hd)]
      rw [hoff] at h2⊢;have e36:(some d==some (36:UInt8))=false:=by simpa using hd
      simp only [e36,g3,h2,List.head?_cons,qj];generalize l1I (d::w) 2=q at*
      obtain ⟨x,ok⟩:=q;cases ok<;>cases hk:D2 (LN ⟨(qe (qw b.toList)).toArray⟩) x<;>simp [hz,hsz,hs1,y0,y1,zn,sn,yn,yn2,yn3,yn4]
   ·have hsz:¬(b.size:Int)>0:=hs0;have hs1:True:=trivial;have zn:(qe (qw b.toList)).length<=b.size:=by omega
    have sn:b.size=0:=by omega
    have lb:b.toList= []:=aU (by rw [<-FA];omega);have hb0:D5 (qw b.toList)= []:=by rw [lb];rfl
    have ln:qe (qw b.toList)= []:=by rw [lb];rfl
    simp only [EY,ES,ET,qj,gD,e0,e1,g1,g2];cases hq:D5 (qw b.toList) with
    |nil=>
     have y0:(b.extract (qe (qw b.toList)).length b.size).size=0:=by rw [FA,x2,hq];rfl
     have hoff:qw (D5 (qw b.toList))= []:=by rw [hq];rfl
     rw [hoff] at h2;rw [hq] at g3;simp only [y0,g3,h2,qj];have hoff':qw ([]:LBy)= []:=rfl;rw [hoff'];generalize l1I ([]:LBy) 2=q at*
     obtain ⟨x,ok⟩:=q;cases ok<;>cases hk:D2 (LN ⟨(qe (qw b.toList)).toArray⟩) x<;>simp [hz,hsz,hs1,zn,sn,ln]
    |cons d w=>rw [hb0] at hq;cases hq
 by_cases h36:s.toList.head?=some 36
 ·have ho:qw s.toList=s.toList.tail:=by unfold qw;rw [if_pos h36]
  have ht:(s.extract 1 s.size).toList=s.toList.tail:=by rw [Hf,List.drop_one]
  obtain ⟨c,r,hcr⟩:∃c r,s.toList=c::r:=by
   cases hq:s.toList with
   |nil=>rw [hq] at h36;cases h36
   |cons a l=>exact ⟨a,l,rfl⟩
  refine part (s.extract 1 s.size) true (by rw [FA,ht,List.length_tail,<-FA];omega) (by rw [ht,ho]) (by rw [h36];rfl) (.inl ⟨rfl,rfl,c,r,hcr,?_⟩);rw [hcr] at h36;simpa using h36
 ·have ho:qw s.toList=s.toList:=by unfold qw;rw [if_neg h36]
  refine part s false hb ho.symm (by symm;simpa using h36) (.inr ⟨rfl,rfl,λc r hcr=>?_⟩);rw [hcr] at h36;simpa using h36
theorem Qk {l:RW} {p:Int} (k:Int) (hk:1<=k/\k<=1000000) (hl:Jg l) (hp:0<=p/\p<=l.length):∃(a p':Int),(0<=p'/\p'<=l.length)/\(0<=a/\a<k)/\∀n,2<=n->qc n k l p=some (a,l,p'):=by
 by_cases h:k=1
 ·subst h;refine ⟨0,p,hp,by decide,λn hn=>?_⟩;obtain ⟨m,rfl,hm⟩:=up1 hn;simp [qc,Ef,qj]
 ·exact EU k (by omega) hl hp
theorem Qu {l:RW} {p:Int} (hl:Jg l) (hp:0<=p/\p<=l.length):∃(c r:Int) (fc fr:Bool) (p':Int),(0<=p'/\p'<=l.length)/\∀n,14<=n->Ej n l p=some (c,r,fc,fr,l,p'):=by
 obtain ⟨a,b,p1,h1,h2⟩:=PH hl hp;obtain ⟨fc,p2,h3,h4⟩:=G3 4 (by decide) hl h1;obtain ⟨fr,p3,h5,h6⟩:=G3 4 (by decide) hl h3;obtain ⟨o,p4,h7,h8⟩:=G3 20 (by decide) hl h5;cases o with
 |true=>
  obtain ⟨c,p5,h9,_,h10⟩:=Kr 1 52 (by decide) hl h7;obtain ⟨d,p6,h11,_,h12⟩:=Kr 1 99 (by decide) hl h9;refine ⟨c,d,fc,fr,p6,h11,λn hn=>?_⟩;obtain ⟨m,rfl,hm⟩:=up1 hn;simp [Ej,FW,qj,h2 m (by omega),h4 m (by omega),h6 m (by omega),h8 m (by omega),h10 m (by omega),h12 m (by omega)]
 |false=>
  refine ⟨a,b,fc,fr,p4,h7,λn hn=>?_⟩;obtain ⟨m,rfl,hm⟩:=up1 hn;simp [Ej,FW,qj,h2 m (by omega),h4 m (by omega),h6 m (by omega),h8 m (by omega)]
theorem Jk (c r:Int) (fc fr:Bool):(Ji c r fc fr).size<=30:=by
 unfold Ji;split
 ·rename_i h;have h1:=Oc c;have h2:=Na (Pj h).2;rw [Iu];cases fc<;>cases fr<;>simp<;>omega
 ·decide
abbrev Nd:=Int×Int×Int×Int×BA×Int×Int×Bool×Bool×Int×Int×Bool×Bool×List Int
def DG (x:Int):List PV:= [.i .i64 x]
def qf (c:Nd):List PV:= [.i .i64 c.1,.i .i64 c.2.1,.i .i64 c.2.2.1,.i .i64 c.2.2.2.1,.s c.2.2.2.2.1,.i .i64 c.2.2.2.2.2.1,.i .i64 c.2.2.2.2.2.2.1,.b c.2.2.2.2.2.2.2.1,.b c.2.2.2.2.2.2.2.2.1,.i .i64 c.2.2.2.2.2.2.2.2.2.1,.i .i64 c.2.2.2.2.2.2.2.2.2.2.1,.b c.2.2.2.2.2.2.2.2.2.2.2.1,.b c.2.2.2.2.2.2.2.2.2.2.2.2.1,.ls ((c.2.2.2.2.2.2.2.2.2.2.2.2.2).map DG)]
def kd (c:Nd):List Int:=c.2.2.2.2.2.2.2.2.2.2.2.2.2
theorem Qv {l:List Int} {i:Nat} {e:List PV} (h:(l.map DG)[i]?=some e):∃c,l[i]?=some c/\e=DG c:=by
 rw [zamS] at h;obtain ⟨c,h1,h2⟩:=zD.1 h;exact ⟨c,h1,h2.symm⟩
def Ie (op n:Int):Bool:=if op=5 then decide (n=2\/n=3) else if 8<=op/\op<=10 then decide (n=1) else if 1<=op/\op<=7 then decide (1<=n/\n<=10) else false
theorem ten {op:Int} (h:1<=op/\op<=10):op=1\/op=2\/op=3\/op=4\/op=5\/op=6\/op=7\/op=8\/op=9\/op=10:=by omega
theorem Nh (op n:Int):Ev (Gz · op n) (Ie op n):=by
 refine ⟨1,λn hn=>?_⟩;obtain ⟨m,rfl,hm⟩:=up1 hn;simp only [Gz,Hu,qj];by_cases h:1<=op/\op<=10
 ·rcases ten h with rfl|rfl|rfl|rfl|rfl|rfl|rfl|rfl|rfl|rfl
  all_goals
   first
   |(by_cases h2:n=2<;>simp [Ie,h2];done)
   |(by_cases h1:n≥1<;>simp [Ie,h1];done)
   |(by_cases h1:n=1<;>simp [Ie,h1];done)
   |(by_cases h2:n=2<;>by_cases h3:n=3<;>simp [Ie,h2,h3];done)
   |(simp [Ie];done)
 ·have e1:¬op=1:=by omega
  have e2:¬op=2:=by omega
  have e3:¬op=3:=by omega
  have e4:¬op=4:=by omega
  have e5:¬op=5:=by omega
  have e6:¬op=6:=by omega
  have e7:¬op=7:=by omega
  have e8:¬op=8:=by omega
  have e9:¬op=9:=by omega
  have e10:¬op=10:=by omega
  have g1:¬(8<=op/\op<=10):=by omega
  have g2:¬(1<=op/\op<=7):=by omega
  simp [Ie,e1,e2,e3,e4,e5,e6,e7,e8,e9,e10,g1,g2]
def zV (k x:Int) (s:BA):Bool:=decide (k=0)&&(decide (x=0)&&(s.toList== []))
def zP (a b:Int) (f g:Bool):Bool:=decide (a=0)&&(decide (b=0)&&(!f&&!g))
def EJ (c:Nd):Bool:=
 if c.1=1 then decide (c.2.1=0)&&(zP c.2.2.2.2.2.1 c.2.2.2.2.2.2.1 c.2.2.2.2.2.2.2.1 c.2.2.2.2.2.2.2.2.1&&(zP c.2.2.2.2.2.2.2.2.2.1 c.2.2.2.2.2.2.2.2.2.2.1 c.2.2.2.2.2.2.2.2.2.2.2.1 c.2.2.2.2.2.2.2.2.2.2.2.2.1&&(decide ((kd c).length=0)&&(okV c.2.2.1 c.2.2.2.1 c.2.2.2.2.1&&(!decide (c.2.2.1=0)&&(!decide (c.2.2.1=1)||decide (c.2.2.2.1≥0))))))) else
 if c.1=2 then decide (c.2.1=0)&&(zV c.2.2.1 c.2.2.2.1 c.2.2.2.2.1&&(zP c.2.2.2.2.2.2.2.2.2.1 c.2.2.2.2.2.2.2.2.2.2.1 c.2.2.2.2.2.2.2.2.2.2.2.1 c.2.2.2.2.2.2.2.2.2.2.2.2.1&&(decide ((kd c).length=0)&&D2 c.2.2.2.2.2.1 c.2.2.2.2.2.2.1))) else
 if c.1=3 then decide (c.2.1=0)&&(zV c.2.2.1 c.2.2.2.1 c.2.2.2.2.1&&(decide ((kd c).length=0)&&Fg c.2.2.2.2.2.1 c.2.2.2.2.2.2.1 c.2.2.2.2.2.2.2.2.2.1 c.2.2.2.2.2.2.2.2.2.2.1)) else
 if c.1=4 then decide (c.2.1=0)&&(zV c.2.2.1 c.2.2.2.1 c.2.2.2.2.1&&(zP c.2.2.2.2.2.1 c.2.2.2.2.2.2.1 c.2.2.2.2.2.2.2.1 c.2.2.2.2.2.2.2.2.1&&(zP c.2.2.2.2.2.2.2.2.2.1 c.2.2.2.2.2.2.2.2.2.2.1 c.2.2.2.2.2.2.2.2.2.2.2.1 c.2.2.2.2.2.2.2.2.2.2.2.2.1&&decide ((kd c).length=1)))) else
 if c.1=5 then decide (1<=c.2.1/\c.2.1<=11)&&(zV c.2.2.1 c.2.2.2.1 c.2.2.2.2.1&&(zP c.2.2.2.2.2.1 c.2.2.2.2.2.2.1 c.2.2.2.2.2.2.2.1 c.2.2.2.2.2.2.2.2.1&&(zP c.2.2.2.2.2.2.2.2.2.1 c.2.2.2.2.2.2.2.2.2.2.1 c.2.2.2.2.2.2.2.2.2.2.2.1 c.2.2.2.2.2.2.2.2.2.2.2.2.1&&decide ((kd c).length=2)))) else
 if c.1=6 then Ie c.2.1 ((kd c).length:Int)&&(zV c.2.2.1 c.2.2.2.1 c.2.2.2.2.1&&(zP c.2.2.2.2.2.1 c.2.2.2.2.2.2.1 c.2.2.2.2.2.2.2.1 c.2.2.2.2.2.2.2.2.1&&zP c.2.2.2.2.2.2.2.2.2.1 c.2.2.2.2.2.2.2.2.2.2.1 c.2.2.2.2.2.2.2.2.2.2.2.1 c.2.2.2.2.2.2.2.2.2.2.2.2.1)) else false
theorem SH (k x:Int) (s:BA):((k==(0:Int))&&((x==(0:Int))&&((s.toList==(⟨#[]⟩:BA).toList)&&true)))=zV k x s:=by
 rw [EM];unfold zV;by_cases h:k=0<;>by_cases h2:x=0<;>simp [h,h2]
theorem SK (k x:Int) (s:BA):(((0:Int)==k)&&(((0:Int)==x)&&(((⟨#[]⟩:BA).toList==s.toList)&&true)))=zV k x s:=by
 rw [<-SH]
 congr 1
 ·exact Bool.beq_comm
 ·congr 1
  ·exact Bool.beq_comm
  ·congr 1
   exact Bool.beq_comm
theorem SL (a b:Int) (f g:Bool):((a==(0:Int))&&((b==(0:Int))&&((f==false)&&((g==false)&&true))))=zP a b f g:=by
 unfold zP;by_cases h:a=0<;>by_cases h2:b=0<;>cases f<;>cases g<;>simp [h,h2]
theorem SN (a b:Int) (f g:Bool):(((0:Int)==a)&&(((0:Int)==b)&&((false==f)&&((false==g)&&true))))=zP a b f g:=by
 rw [<-SL]
 congr 1
 ·exact Bool.beq_comm
 ·congr 1
  ·exact Bool.beq_comm
  ·cases f<;>cases g<;>rfl
theorem Gr (c:Nd) (hb:c.2.2.2.2.1.size<=140737488351232):Ev (qq · c.1 c.2.1 c.2.2.1 c.2.2.2.1 c.2.2.2.2.1 c.2.2.2.2.2.1 c.2.2.2.2.2.2.1 c.2.2.2.2.2.2.2.1 c.2.2.2.2.2.2.2.2.1 c.2.2.2.2.2.2.2.2.2.1 c.2.2.2.2.2.2.2.2.2.2.1 c.2.2.2.2.2.2.2.2.2.2.2.1 c.2.2.2.2.2.2.2.2.2.2.2.2.1 ((c.2.2.2.2.2.2.2.2.2.2.2.2.2).map DG)) (EJ c):=by
 obtain ⟨n1,h1⟩:=EN c.2.2.1 c.2.2.2.1 c.2.2.2.2.1 hb;obtain ⟨n2,h2⟩:=FR c.2.2.2.2.2.1 c.2.2.2.2.2.2.1;obtain ⟨n3,h3⟩:=NZ c.2.2.2.2.2.1 c.2.2.2.2.2.2.1 c.2.2.2.2.2.2.2.2.2.1 c.2.2.2.2.2.2.2.2.2.2.1;obtain ⟨n4,h4⟩:=Dl c.2.1 1 11;obtain ⟨n5,h5⟩:=Nh c.2.1 (((c.2.2.2.2.2.2.2.2.2.2.2.2.2).map DG).length:Int);refine ⟨n1+n2+n3+n4+n5+1,λn hn=>?_⟩;obtain ⟨m,rfl,hm⟩:=up1 hn;have h1:=h1 m (by omega);dsimp only at h1;have h2:=h2 m (by omega);dsimp only at h2;have h3:=h3 m (by omega);dsimp only at h3;have h4:=h4 m (by omega);dsimp only at h4;have h5:=h5 m (by omega);dsimp only at h5;simp only [qq,HE,GB,qj,h1,h2,h3,h4,h5];have hk:((c.2.2.2.2.2.2.2.2.2.2.2.2.2).map DG).length=(kd c).length:=by rw [zamV];rfl
 simp only [SH,SL,hk];unfold EJ;by_cases k1:c.1=1
 ·simp only [k1,if_true,beq_self_eq_true];cases zP c.2.2.2.2.2.1 c.2.2.2.2.2.2.1 c.2.2.2.2.2.2.2.1 c.2.2.2.2.2.2.2.2.1<;>cases zP c.2.2.2.2.2.2.2.2.2.1 c.2.2.2.2.2.2.2.2.2.2.1 c.2.2.2.2.2.2.2.2.2.2.2.1 c.2.2.2.2.2.2.2.2.2.2.2.2.1<;>cases okV c.2.2.1 c.2.2.2.1 c.2.2.2.2.1<;>by_cases h0:c.2.1=0<;>by_cases h1:(kd c).length=0<;>by_cases h2:c.2.2.1=0<;>by_cases h3:c.2.2.1=1<;>simp [h0,h1,h2,h3]
 by_cases k2:c.1=2
 ·simp only [k2];cases zV c.2.2.1 c.2.2.2.1 c.2.2.2.2.1<;>cases zP c.2.2.2.2.2.2.2.2.2.1 c.2.2.2.2.2.2.2.2.2.2.1 c.2.2.2.2.2.2.2.2.2.2.2.1 c.2.2.2.2.2.2.2.2.2.2.2.2.1<;>cases D2 c.2.2.2.2.2.1 c.2.2.2.2.2.2.1<;>by_cases h0:c.2.1=0<;>by_cases h1:(kd c).length=0<;>simp [h0,h1]
 by_cases k3:c.1=3
 ·simp only [k3];cases zV c.2.2.1 c.2.2.2.1 c.2.2.2.2.1<;>cases Fg c.2.2.2.2.2.1 c.2.2.2.2.2.2.1 c.2.2.2.2.2.2.2.2.2.1 c.2.2.2.2.2.2.2.2.2.2.1<;>by_cases h0:c.2.1=0<;>by_cases h1:(kd c).length=0<;>simp [h0,h1]
 by_cases k4:c.1=4
 ·simp only [k4];cases zV c.2.2.1 c.2.2.2.1 c.2.2.2.2.1<;>cases zP c.2.2.2.2.2.1 c.2.2.2.2.2.2.1 c.2.2.2.2.2.2.2.1 c.2.2.2.2.2.2.2.2.1<;>cases zP c.2.2.2.2.2.2.2.2.2.1 c.2.2.2.2.2.2.2.2.2.2.1 c.2.2.2.2.2.2.2.2.2.2.2.1 c.2.2.2.2.2.2.2.2.2.2.2.2.1<;>by_cases h0:c.2.1=0<;>by_cases h1:(kd c).length=1<;>simp [h0,h1]<;>omega
 by_cases k5:c.1=5
 ·simp only [k5];cases zV c.2.2.1 c.2.2.2.1 c.2.2.2.2.1<;>cases zP c.2.2.2.2.2.1 c.2.2.2.2.2.2.1 c.2.2.2.2.2.2.2.1 c.2.2.2.2.2.2.2.2.1<;>cases zP c.2.2.2.2.2.2.2.2.2.1 c.2.2.2.2.2.2.2.2.2.2.1 c.2.2.2.2.2.2.2.2.2.2.2.1 c.2.2.2.2.2.2.2.2.2.2.2.2.1<;>by_cases h0:1<=c.2.1/\c.2.1<=11<;>by_cases h1:(kd c).length=2<;>simp [h0,h1]<;>omega
 by_cases k6:c.1=6
 ·simp only [k6];cases zV c.2.2.1 c.2.2.2.1 c.2.2.2.2.1<;>cases zP c.2.2.2.2.2.1 c.2.2.2.2.2.2.1 c.2.2.2.2.2.2.2.1 c.2.2.2.2.2.2.2.2.1<;>cases zP c.2.2.2.2.2.2.2.2.2.1 c.2.2.2.2.2.2.2.2.2.2.1 c.2.2.2.2.2.2.2.2.2.2.2.1 c.2.2.2.2.2.2.2.2.2.2.2.2.1<;>cases Ie c.2.1 ((kd c).length:Int)<;>simp
 simp [k1,k2,k3,k4,k5,k6]
theorem Ni (c:Nd):Ev (DJ · c.1 c.2.1 c.2.2.1 c.2.2.2.1 c.2.2.2.2.1 c.2.2.2.2.2.1 c.2.2.2.2.2.2.1 c.2.2.2.2.2.2.2.1 c.2.2.2.2.2.2.2.2.1 c.2.2.2.2.2.2.2.2.2.1 c.2.2.2.2.2.2.2.2.2.2.1 c.2.2.2.2.2.2.2.2.2.2.2.1 c.2.2.2.2.2.2.2.2.2.2.2.2.1 ((c.2.2.2.2.2.2.2.2.2.2.2.2.2).map DG)) (if c.1=4 then decide (c.2.1=0)&&decide ((kd c).length=1) else if c.1=5 then decide (1<=c.2.1/\c.2.1<=11)&&decide ((kd c).length=2) else if c.1=6 then Ie c.2.1 ((kd c).length:Int) else decide (c.2.1=0)&&decide ((kd c).length=0)):=by
 obtain ⟨n1,h1⟩:=Cv c.2.1 1 11;obtain ⟨n2,h2⟩:=Cv c.2.1 1 10;obtain ⟨n3,h3⟩:=Cv (((c.2.2.2.2.2.2.2.2.2.2.2.2.2).map DG).length:Int) 2 3;obtain ⟨n4,h4⟩:=Cv (((c.2.2.2.2.2.2.2.2.2.2.2.2.2).map DG).length:Int) 1 10;refine ⟨n1+n2+n3+n4+1,λn hn=>?_⟩;obtain ⟨m,rfl,hm⟩:=up1 hn;have h1:=h1 m (by omega);dsimp only at h1;have h2:=h2 m (by omega);dsimp only at h2;have h3:=h3 m (by omega);dsimp only at h3;have h4:=h4 m (by omega);dsimp only at h4;simp only [DJ,F0,qj,h1,h2,h3,h4];have hk:((c.2.2.2.2.2.2.2.2.2.2.2.2.2).map DG).length=(kd c).length:=by rw [zamV];rfl
 simp only [hk];by_cases k4:c.1=4
 ·simp only [k4];by_cases h0:c.2.1=0<;>by_cases h1:(kd c).length=1<;>simp [h0,h1]<;>omega
 by_cases k5:c.1=5
 ·simp only [k5];by_cases h0:1<=c.2.1/\c.2.1<=11<;>by_cases h1:(kd c).length=2<;>simp [h0,h1]<;>omega
 by_cases k6:c.1=6
 ·simp only [k6];unfold Ie;by_cases h:1<=c.2.1/\c.2.1<=10
  ·by_cases h5:c.2.1=5
   ·have:(2<=((kd c).length:Int)/\((kd c).length:Int)<=3)↔(((kd c).length:Int)=2\/((kd c).length:Int)=3):=by omega
    simp [h5,this]
   ·by_cases h8:c.2.1≥8
    ·have g:8<=c.2.1/\c.2.1<=10:=by omega
     by_cases h1:((kd c).length:Int)=1<;>simp [h,h5,h8,g,h1]
    ·have g:¬(8<=c.2.1/\c.2.1<=10):=by omega
     have g':1<=c.2.1/\c.2.1<=7:=by omega
     simp [h,h5,h8,g,g']
  ·have h5:¬c.2.1=5:=by omega
   have g:¬(8<=c.2.1/\c.2.1<=10):=by omega
   have g':¬(1<=c.2.1/\c.2.1<=7):=by omega
   simp [h,h5,g,g']
 by_cases h0:c.2.1=0<;>by_cases h1:(kd c).length=0<;>simp [k4,k5,k6,h0,h1]<;>omega
theorem ME (c:Nd):Ev (qm · c.1 c.2.1 c.2.2.1 c.2.2.2.1 c.2.2.2.2.1 c.2.2.2.2.2.1 c.2.2.2.2.2.2.1 c.2.2.2.2.2.2.2.1 c.2.2.2.2.2.2.2.2.1 c.2.2.2.2.2.2.2.2.2.1 c.2.2.2.2.2.2.2.2.2.2.1 c.2.2.2.2.2.2.2.2.2.2.2.1 c.2.2.2.2.2.2.2.2.2.2.2.2.1 ((c.2.2.2.2.2.2.2.2.2.2.2.2.2).map DG)) (if c.1=2 then Fg c.2.2.2.2.2.1 c.2.2.2.2.2.2.1 c.2.2.2.2.2.1 c.2.2.2.2.2.2.1 else if c.1=3 then Fg c.2.2.2.2.2.1 c.2.2.2.2.2.2.1 c.2.2.2.2.2.2.2.2.2.1 c.2.2.2.2.2.2.2.2.2.2.1 else true):=by
 have g:Ev (Cq · c.1 c.2.1 c.2.2.1 c.2.2.2.1 c.2.2.2.2.1 c.2.2.2.2.2.1 c.2.2.2.2.2.2.1 c.2.2.2.2.2.2.2.1 c.2.2.2.2.2.2.2.2.1 c.2.2.2.2.2.2.2.2.2.1 c.2.2.2.2.2.2.2.2.2.2.1 c.2.2.2.2.2.2.2.2.2.2.2.1 c.2.2.2.2.2.2.2.2.2.2.2.2.1 ((c.2.2.2.2.2.2.2.2.2.2.2.2.2).map DG)) (if c.1=2 then (c.2.2.2.2.2.1,c.2.2.2.2.2.2.1,c.2.2.2.2.2.1,c.2.2.2.2.2.2.1) else (c.2.2.2.2.2.1,c.2.2.2.2.2.2.1,c.2.2.2.2.2.2.2.2.2.1,c.2.2.2.2.2.2.2.2.2.2.1)):=by
  refine ⟨1,λn hn=>?_⟩;obtain ⟨m,rfl,hm⟩:=up1 hn;simp only [Cq,EH,qj];by_cases k2:c.1=2<;>simp [k2]
 obtain ⟨n1,h1⟩:=g;obtain ⟨n2,h2⟩:=GY c.2.2.2.2.2.1 c.2.2.2.2.2.2.1 c.2.2.2.2.2.1 c.2.2.2.2.2.2.1;obtain ⟨n3,h3⟩:=GY c.2.2.2.2.2.1 c.2.2.2.2.2.2.1 c.2.2.2.2.2.2.2.2.2.1 c.2.2.2.2.2.2.2.2.2.2.1;refine ⟨n1+n2+n3+1,λn hn=>?_⟩;obtain ⟨m,rfl,hm⟩:=up1 hn;have h1:=h1 m (by omega);dsimp only at h1;have h2:=h2 m (by omega);dsimp only at h2;have h3:=h3 m (by omega);dsimp only at h3;simp only [qm,Ec,qj,h1,h2,h3];by_cases k2:c.1=2
 ·simp [k2,h2]
 ·by_cases k3:c.1=3
  ·simp [k3,h3]
  ·simp [k2,k3]
theorem Qw (a b:Int):Fg a b a b=D2 a b:=by
 unfold Fg;cases D2 a b<;>simp
theorem OU (c:Nd) (hb:c.2.2.2.2.1.size<=140737488351232):Ev (FH · c.1 c.2.1 c.2.2.1 c.2.2.2.1 c.2.2.2.2.1 c.2.2.2.2.2.1 c.2.2.2.2.2.2.1 c.2.2.2.2.2.2.2.1 c.2.2.2.2.2.2.2.2.1 c.2.2.2.2.2.2.2.2.2.1 c.2.2.2.2.2.2.2.2.2.2.1 c.2.2.2.2.2.2.2.2.2.2.2.1 c.2.2.2.2.2.2.2.2.2.2.2.2.1 ((c.2.2.2.2.2.2.2.2.2.2.2.2.2).map DG)) (EJ c):=by
 obtain ⟨n1,g1⟩:=My c.2.2.1 c.2.2.2.1 c.2.2.2.2.1 hb;obtain ⟨n2,g2⟩:=ME c;obtain ⟨n3,g3⟩:=Ni c;refine ⟨n1+n2+n3+1,λn hn=>?_⟩;obtain ⟨m,rfl,hm⟩:=up1 hn;have g1:=g1 m (by omega);have g2:=g2 m (by omega);have g3:=g3 m (by omega);dsimp only at g1 g2 g3;rw [Qw] at g2;simp only [FH,GE,Ed,FS,qj,g1,g2,g3,SK,SN];simp only [beq_self_eq_true,Bool.and_true,Bool.true_and];unfold EJ;by_cases k1:c.1=1
 ·have h5:(c.2.2.2.1≥0)=¬(c.2.2.2.1<0):=propext Int.not_lt.symm;simp only [k1,h5];cases zP c.2.2.2.2.2.1 c.2.2.2.2.2.2.1 c.2.2.2.2.2.2.2.1 c.2.2.2.2.2.2.2.2.1<;>cases zP c.2.2.2.2.2.2.2.2.2.1 c.2.2.2.2.2.2.2.2.2.2.1 c.2.2.2.2.2.2.2.2.2.2.2.1 c.2.2.2.2.2.2.2.2.2.2.2.2.1<;>cases okV c.2.2.1 c.2.2.2.1 c.2.2.2.2.1<;>by_cases h0:c.2.1=0<;>by_cases h1:(kd c).length=0<;>by_cases h2:c.2.2.1=0<;>by_cases h3:c.2.2.1=1<;>by_cases h4:c.2.2.2.1<0<;>simp [h0,h1,h2,h3,h4]<;>(try omega)
 by_cases k2:c.1=2
 ·simp only [k2];cases zV c.2.2.1 c.2.2.2.1 c.2.2.2.2.1<;>cases zP c.2.2.2.2.2.2.2.2.2.1 c.2.2.2.2.2.2.2.2.2.2.1 c.2.2.2.2.2.2.2.2.2.2.2.1 c.2.2.2.2.2.2.2.2.2.2.2.2.1<;>cases D2 c.2.2.2.2.2.1 c.2.2.2.2.2.2.1<;>by_cases h0:c.2.1=0<;>by_cases h1:(kd c).length=0<;>simp [h0,h1]
 by_cases k3:c.1=3
 ·simp only [k3];cases zV c.2.2.1 c.2.2.2.1 c.2.2.2.2.1<;>cases Fg c.2.2.2.2.2.1 c.2.2.2.2.2.2.1 c.2.2.2.2.2.2.2.2.2.1 c.2.2.2.2.2.2.2.2.2.2.1<;>by_cases h0:c.2.1=0<;>by_cases h1:(kd c).length=0<;>simp [h0,h1]
 by_cases k4:c.1=4
 ·simp only [k4];cases zV c.2.2.1 c.2.2.2.1 c.2.2.2.2.1<;>cases zP c.2.2.2.2.2.1 c.2.2.2.2.2.2.1 c.2.2.2.2.2.2.2.1 c.2.2.2.2.2.2.2.2.1<;>cases zP c.2.2.2.2.2.2.2.2.2.1 c.2.2.2.2.2.2.2.2.2.2.1 c.2.2.2.2.2.2.2.2.2.2.2.1 c.2.2.2.2.2.2.2.2.2.2.2.2.1<;>by_cases h0:c.2.1=0<;>by_cases h1:(kd c).length=1<;>simp [h0,h1]
 by_cases k5:c.1=5
 ·simp only [k5];cases zV c.2.2.1 c.2.2.2.1 c.2.2.2.2.1<;>cases zP c.2.2.2.2.2.1 c.2.2.2.2.2.2.1 c.2.2.2.2.2.2.2.1 c.2.2.2.2.2.2.2.2.1<;>cases zP c.2.2.2.2.2.2.2.2.2.1 c.2.2.2.2.2.2.2.2.2.2.1 c.2.2.2.2.2.2.2.2.2.2.2.1 c.2.2.2.2.2.2.2.2.2.2.2.2.1<;>by_cases h0:1<=c.2.1/\c.2.1<=11<;>by_cases h1:(kd c).length=2<;>simp [h0,h1]
 by_cases k6:c.1=6
 ·simp only [k6];cases zV c.2.2.1 c.2.2.2.1 c.2.2.2.2.1<;>cases zP c.2.2.2.2.2.1 c.2.2.2.2.2.2.1 c.2.2.2.2.2.2.2.1 c.2.2.2.2.2.2.2.2.1<;>cases zP c.2.2.2.2.2.2.2.2.2.1 c.2.2.2.2.2.2.2.2.2.2.1 c.2.2.2.2.2.2.2.2.2.2.2.1 c.2.2.2.2.2.2.2.2.2.2.2.2.1<;>cases Ie c.2.1 ((kd c).length:Int)<;>simp
 simp [k1,k2,k3,k4,k5,k6]
section
variable (own area call:Int->Bool) (kids:Int->List Int)
def goF (F:Int->Int) (n:Int):List Int->Int->Int
 | [],start=>start
 |k::r,start=>if k≠start-1\/k<0\/(area k=true/\call n=false) then-1 else if F k<0 then-1 else goF F n r (F k)
def Ek:Nat->Int->Int
 |0,_=> -1
 |f+1,n=>if n<0\/own n=false then-1 else goF area call (Ek f) n (kids n).reverse n
def goT (F:Int->Int):List Int->Int->Int
 | [],x=>x+1
 |k::r,x=>if x<0\/k≠x then-1 else if F x<0 then-1 else goT F r (F x-1)
def Et:Nat->Int->Int
 |0,_=> -1
 |f+1,n=>goT (Et f) (kids n).reverse (n-1)
def Jl:List Int->Int
 | []=>0
 |x::r=>max x (Jl r)
def Db:Nat->Int->Int
 |0,_=>0
 |f+1,n=>Jl ((kids n).map λk=>Db f k)+1
def Hg (i:Int):Prop:=∀k∈kids i,0<=k/\k<=i-1/\¬(area k=true/\call i=false)
theorem Nj:∀(f:Nat) (n:Int),0<=n->Et kids f n<=n
 |0,n,h=>by rw [Et];omega
 |f+1,n,h=>by
  have go:∀(l:List Int) (x:Int),x+1<=n->-1<=x->goT (Et kids f) l x<=n:=by
   intro l
   induction l with
   |nil=>intro x h1 h2;rw [goT];omega
   |cons k r ih=>
    intro x h1 h2;rw [goT];split
    ·omega
    ·split
     ·omega
     ·have:=Nj f x (by omega);exact ih _ (by omega) (by omega)
  rw [Et];exact go _ _ (by omega) (by omega)
theorem QS {l:List Int} {b:Int} (h0:0<=b):Jl l<=b↔∀x∈l,x<=b:=by
 induction l with
 |nil=>simp [Jl,h0]
 |cons a r ih=>simp only [Jl,zamT,forall_eq_or_imp];rw [Int.max_le,ih]
theorem Nk {n b:Int} {f:Nat} (h0:1<=b):Db kids (f+1) n<=b↔∀k∈kids n,Db kids f k<=b-1:=by
 rw [Db]
 constructor
 ·intro h k hk;exact (QS (l:=(kids n).map λk=>Db kids f k) (by omega)).1 (by omega) _ (List.mem_map_of_mem (f:=λk=>Db kids f k) hk)
 ·intro h;have:=(QS (l:=(kids n).map λk=>Db kids f k) (b:=b-1) (by omega)).2 (by
   intro x hx;obtain ⟨k,hk,rfl⟩:=List.mem_map.1 hx;exact h k hk)
  omega
theorem Nl:∀(f g:Nat) (n:Int),n<f->n<g->(∀i,0<=i->i<=n->Hg area call kids i)->0<=n->Db kids f n=Db kids g n
 |0,g,n,h1,h2,_,h3=>by omega
 |f+1,0,n,h1,h2,_,h3=>by omega
 |f+1,g+1,n,h1,h2,hk,h3=>by
  rw [Db,Db]
  congr 2
  apply List.map_congr_left;intro k hm;have:=hk n h3 (by omega) k hm;exact Nl f g k (by omega) (by omega) (λi h0 h1=>hk i h0 (by omega)) (by omega)
theorem Ql:∀(f:Nat) (n:Int),0<=n->n<f->1<=Db kids f n
 |0,n,h,h'=>by omega
 |f+1,n,h,h'=>by
  rw [Db];have:∀l:List Int,0<=Jl l:=by
   intro l
   induction l with
   |nil=>exact Int.le_refl 0
   |cons a r ih=>simp only [Jl];omega
  have:=this ((kids n).map λk=>Db kids f k);omega
theorem PN:∀(f g:Nat) (n:Int),0<=n->n<g->0<=Ek own area call kids f n->
  Ek own area call kids f n<=n/\Et kids g n=Ek own area call kids f n/\(∀i,Ek own area call kids f n<=i->i<=n->own i=true/\Hg area call kids i)/\(∀h:Nat,(∀i,0<=i->i<=n->Hg area call kids i)->n<h->Db kids h n<=f)
 |0,g,n,h0,h1,h2=>by rw [Ek] at h2;omega
 |f+1,0,n,h0,h1,h2=>by omega
 |f+1,g+1,n,h0,h1,h2=>by
  rw [Ek] at h2⊢;split at h2
  ·omega
  ·rename_i hc;rw [if_neg hc];have go:∀(l:List Int) (s:Int),0<=s->s<=n->0<=goF area call (Ek own area call kids f) n l s->
     goF area call (Ek own area call kids f) n l s<=s/\goT (Et kids g) l (s-1)=goF area call (Ek own area call kids f) n l s/\(∀i,goF area call (Ek own area call kids f) n l s<=i->i<=s-1->own i=true/\Hg area call kids i)/\(∀k∈l,0<=k/\k<=n-1/\¬(area k=true/\call n=false))/\(∀h:Nat,(∀i,0<=i->i<=n->Hg area call kids i)->n<h->∀k∈l,Db kids h k<=f):=by
    intro l
    induction l with
    |nil=>
     intro s h3 h4 h5;rw [goF] at h5⊢;rw [goT];refine ⟨by omega,by omega,λi _ _=>by omega,λk hk=>(by cases hk),λh _ _ k hk=>(by cases hk)⟩
    |cons k r ih=>
     intro s h3 h4 h5;rw [goF] at h5⊢;split at h5
     ·omega
     ·rename_i hd;rw [if_neg hd];split at h5
      ·omega
      ·rename_i he;rw [if_neg he];have hk:k=s-1:=by omega
       subst hk;obtain ⟨a1,a2,a3,a4⟩:=PN f g (s-1) (by omega) (by omega) (by omega);obtain ⟨b1,b2,b3,b4,b5⟩:=ih _ (by omega) (by omega) h5;refine ⟨by omega,?_,?_,?_,?_⟩
       ·rw [goT,if_neg (by omega),a2,if_neg he,b2]
       ·intro i i1 i2;by_cases hi:Ek own area call kids f (s-1)<=i
        ·exact a3 i hi i2
        ·exact b3 i i1 (by omega)
       ·intro k hk;rcases zamT.1 hk with rfl|hk
        ·exact ⟨by omega,by omega,λh=>hd (.inr (.inr h))⟩
        ·exact b4 k hk
       ·intro h hx hy k hk;rcases zamT.1 hk with rfl|hk
        ·exact a4 h (λi i1 i2=>hx i i1 (by omega)) (by omega)
        ·exact b5 h hx hy k hk
   obtain ⟨c1,c2,c3,c4,c5⟩:=go _ n h0 (Int.le_refl n) h2;have hown:own n=true:=by cases ho:own n with
    |true=>rfl
    |false=>exact absurd (.inr ho) hc
   refine ⟨c1,by rw [Et];exact c2,?_,?_⟩
   ·intro i i1 i2;by_cases hi:i=n
    ·subst hi;exact ⟨hown,λk hk=>c4 k (List.mem_reverse.2 hk)⟩
    ·exact c3 i i1 (by omega)
   ·intro h hx hy;cases h with
    |zero=>omega
    |succ h=>
     refine (Nk kids (by omega)).2 λk hk=>?_
     have hin:=hx n h0 (Int.le_refl n) k hk;have e:Db kids h k=Db kids (n.toNat+1) k:=Nl area call kids _ _ _ (by omega) (by omega) (λi i1 i2=>hx i i1 (by omega)) (by omega);rw [e];have:=c5 (n.toNat+1) hx (by omega) k (List.mem_reverse.2 hk);omega
theorem QT:∀(f g h:Nat) (n:Int),0<=n->n<g->n<h->(∀i,0<=i->i<=n->own i=true/\Hg area call kids i)->0<=Et kids g n->Db kids h n<=f->Ek own area call kids f n=Et kids g n
 |0,g,h,n,h0,h1,h1',h2,h3,h4=>by have:=Ql kids h n h0 h1';omega
 |f+1,0,h,n,h0,h1,_,h2,h3,h4=>by omega
 |f+1,g+1,0,n,h0,h1,_,h2,h3,h4=>by omega
 |f+1,g+1,h+1,n,h0,h1,h1',h2,h3,h4=>by
  have hd:=(Nk kids (b:=((f+1:Nat):Int)) (by omega)).1 h4;have go:∀(l:List Int) (s:Int),(∀k∈l,k∈kids n)->0<=s->s<=n->0<=goT (Et kids g) l (s-1)->goF area call (Ek own area call kids f) n l s=goT (Et kids g) l (s-1):=by
   intro l
   induction l with
   |nil=>intro s _ _ _ _;rw [goF,goT];omega
   |cons k r ih=>
    intro s hm h3 h4 h5;rw [goT] at h5⊢;rw [goF];split at h5
    ·omega
    ·rename_i hc;rw [if_neg hc];split at h5
     ·omega
     ·rename_i he;rw [if_neg he];have hk:k=s-1:=by omega
      have hin:=(h2 n h0 (Int.le_refl n)).2 k (hm k (zamN ..));have hdk:=hd k (hm k (zamN ..));subst hk;have e:=QT f g h (s-1) (by omega) (by omega) (by omega) (λi i1 i2=>h2 i i1 (by omega)) (by omega) (by omega);have hb:¬(s-1≠s-1\/s-1<0\/(area (s-1)=true/\call n=false)):=λhx=>by
       rcases hx with hx|hx|hx
       ·exact hx rfl
       ·omega
       ·exact hin.2.2 hx
      rw [if_neg hb,e,if_neg he];have hle:=Nj kids g (s-1) (by omega);exact ih _ (λk hk=>hm k (zamR _ hk)) (by omega) (by omega) h5
  rw [Et] at h3;have hn:¬(n<0\/own n=false):=λhx=>by
   rcases hx with hx|hx
   ·omega
   ·rw [(h2 n h0 (Int.le_refl n)).1] at hx;cases hx
  rw [Ek,Et,if_neg hn];exact go _ n (λk hk=>List.mem_reverse.1 hk) h0 (Int.le_refl n) h3
end
theorem Dm (c:Nd):(qf c).length=14:=rfl
theorem Dn (k:Int):(DG k).length=1:=rfl
theorem Do (k:Int):zF .i64 (DG k) 0=some k:=rfl
theorem Dp (c:Nd):zF .i64 (qf c) 0=some c.1:=rfl
theorem Dq (c:Nd):zF .i64 (qf c) 1=some c.2.1:=rfl
theorem Dr (c:Nd):zF .i64 (qf c) 2=some c.2.2.1:=rfl
theorem Dt (c:Nd):zF .i64 (qf c) 3=some c.2.2.2.1:=rfl
theorem Du (c:Nd):aY (qf c) 4=some c.2.2.2.2.1:=rfl
theorem Dv (c:Nd):zF .i64 (qf c) 5=some c.2.2.2.2.2.1:=rfl
theorem Dw (c:Nd):zF .i64 (qf c) 6=some c.2.2.2.2.2.2.1:=rfl
theorem Dy (c:Nd):zg (qf c) 7=some c.2.2.2.2.2.2.2.1:=rfl
theorem Dz (c:Nd):zg (qf c) 8=some c.2.2.2.2.2.2.2.2.1:=rfl
theorem D1 (c:Nd):zF .i64 (qf c) 9=some c.2.2.2.2.2.2.2.2.2.1:=rfl
theorem C0 (c:Nd):zF .i64 (qf c) 10=some c.2.2.2.2.2.2.2.2.2.2.1:=rfl
theorem C1 (c:Nd):zg (qf c) 11=some c.2.2.2.2.2.2.2.2.2.2.2.1:=rfl
theorem C2 (c:Nd):zg (qf c) 12=some c.2.2.2.2.2.2.2.2.2.2.2.2.1:=rfl
theorem C3 (c:Nd):aW (qf c) 13=some ((c.2.2.2.2.2.2.2.2.2.2.2.2.2).map DG):=rfl
def nd0:Nd:=(0,0,0,0,⟨#[]⟩,0,0,false,false,0,0,false,false,[])
def ndi (l:List Nd) (i:Int):Nd:=l.getD i.toNat nd0
def qt (l:List Nd) (i:Int):List Int:=kd (ndi l i)
def G8 (l:List Nd) (i:Int):Bool:=EJ (ndi l i)
def Dc (l:List Nd) (i:Int):Bool:=decide ((ndi l i).1=3)
def EE (l:List Nd) (i:Int):Bool:=decide ((ndi l i).1=6)
theorem Fa {l:List Nd} {i:Int} (h:0<=i/\i<l.length):l[i.toNat]?=some (ndi l i):=by
 have:i.toNat<l.length:=by omega
 unfold ndi;rw [zc this,List.getD_eq_getElem?_getD,zc this];rfl
theorem M4 {l:List Nd} {i:Int} (h:0<=i/\i<l.length):ndi l i∈l:=zl (Fa h)
theorem Pr {α:Type} {l:List α} {j:Nat} {k:α} (h:l[j]?=some k):(l.take (j+1)).reverse=k::(l.take j).reverse:=by
 rw [List.take_add_one,h];simp
theorem Ps {R:Type} {F:Int->Nat->Option R} {f:Int->R} (x:Int) (h:∀y,0<=y->y<x->Ev (F y) (f y)):∃n0,∀n,n0<=n->∀y,0<=y->y<x->F y n=some (f y):=by
 obtain ⟨n0,h0⟩:=De (F:=F) (f:=f) ((List.range x.toNat).map λ(i:Nat)=>(i:Int)) (λc hc=>by
  obtain ⟨i,hi,rfl⟩:=List.mem_map.1 hc;have:=List.mem_range.1 hi;exact h _ (Int.natCast_nonneg i) (by omega))
 refine ⟨n0,λn hn y h1 h2=>h0 n hn y (List.mem_map.2 ⟨y.toNat,List.mem_range.2 (by omega),by omega⟩)⟩
theorem Oj (l:List Nd) (x1:Int) (f n:Nat) (hx:0<=x1/\x1<l.length) (hl:l.length<=140737488351232) (hk:(kd (ndi l x1)).length<=140737488351232)
  (hrec:∀y:Int,0<=y->y<x1->Cw n (l.map qf) y=some (Et (qt l) f y)):
  ∀(j M:Nat) (s:Int),j<=(kd (ndi l x1)).length->j+1<=M->-1<=s->s<x1->
   (∃x,zL (DF (Cw n) n) M (l.map qf,x1,s,(j:Int)-1)=some (.inr x)/\goT (Et (qt l) f) ((qt l x1).take j).reverse s=x+1/\-1<=x/\x<x1)\/
   (zL (DF (Cw n) n) M (l.map qf,x1,s,(j:Int)-1)=some (.inl (-1))/\goT (Et (qt l) f) ((qt l x1).take j).reverse s= -1)
 |0,0,s,h1,h2,h3,h4=>by omega
 |0,M+1,s,h1,h2,h3,h4=>by
  refine .inl ⟨s,?_,by simp [goT],h3,h4⟩;rw [qd (r:= .inr s) (by simp [-getElem?_pos,DF,qj])]
 |j+1,0,s,h1,h2,h3,h4=>by omega
 |j+1,M+1,s,h1,h2,h3,h4=>by
  have hc:=Fa hx;have hj:j<(kd (ndi l x1)).length:=by omega
  have hg:(qt l x1)[j]?=some (qt l x1)[j]:=zc hj;have ih:=Oj l x1 f n hx hl hk hrec j M;rw [Pr hg];generalize (qt l x1)[j]=k at hg;have hi:(((j+1:Nat):Int)-1)=(j:Int):=by omega
  rw [hi,goT];have hg':(ndi l x1).2.2.2.2.2.2.2.2.2.2.2.2.2[j]?=some k:=hg;have hj':j<(ndi l x1).2.2.2.2.2.2.2.2.2.2.2.2.2.length:=hj;by_cases hs:s<0
  ·refine .inr ⟨?_,by rw [if_pos (.inl hs)]⟩;rw [qd (r:= .inl (-1)) (by simp [-getElem?_pos,DF,qj,hs])]
  ·by_cases hks:k=s
   ·subst hks;have hr:=hrec k (by omega) h4;by_cases ht:Et (qt l) f k<0
    ·refine .inr ⟨?_,by rw [if_neg (by omega),if_pos ht]⟩;rw [qd (r:= .inl (-1)) (by simp [-getElem?_pos,DF,qj,hs,hc,hx,Dm,Dn,Do,Dp,Dq,Dr,Dt,Du,Dv,Dw,Dy,Dz,D1,C0,C1,C2,C3,hg',hj',hr,ht])]
    ·have hle:=Nj (qt l) f k (by omega);have hw:IntKind.i64.wrap (Et (qt l) f k-1)=Et (qt l) f k-1:=qn (by omega);have hw2:IntKind.i64.wrap ((j:Int)-1)=(j:Int)-1:=qn (by omega);rw [if_neg (by omega),if_neg ht];rw [qu (v':=(l.map qf,x1,Et (qt l) f k-1,(j:Int)-1)) (by simp [-getElem?_pos,DF,qj,hs,hc,hx,Dm,Dn,Do,Dp,Dq,Dr,Dt,Du,Dv,Dw,Dy,Dz,D1,C0,C1,C2,C3,hg',hj',hr,ht,hw,hw2])];exact ih _ (by omega) (by omega) (by omega) (by omega)
   ·refine .inr ⟨?_,by rw [if_pos (.inr hks)]⟩;rw [qd (r:= .inl (-1)) (by simp [-getElem?_pos,DF,qj,hs,hc,hx,Dm,Dn,Do,Dp,Dq,Dr,Dt,Du,Dv,Dw,Dy,Dz,D1,C0,C1,C2,C3,hg',hj',hks])]
theorem Jm (l:List Nd) (hl:l.length<=140737488351232) (hk:∀c∈l,(kd c).length<=140737488351232):∀(f:Nat) (x:Int),0<=x->x<l.length->x<f->Ev (Cw · (l.map qf) x) (Et (qt l) f x)
 |0,x,h0,h1,h2=>by omega
 |f+1,x,h0,h1,h2=>by
  obtain ⟨n0,hn0⟩:=Ps (F:=λy n=>Cw n (l.map qf) y) (f:=λy=>Et (qt l) f y) x (λy h3 h4=>Jm l hl hk f y h3 (by omega) (by omega));refine ⟨n0+(kd (ndi l x)).length+5,λn hn=>?_⟩;obtain ⟨m,rfl,hm⟩:=up1 hn;have hc:=Fa (l:=l) (i:=x) ⟨h0,h1⟩;have hkx:=hk _ (M4 (l:=l) ⟨h0,h1⟩);have hw:IntKind.i64.wrap (x-1)=x-1:=qn (by omega);have hw2:IntKind.i64.wrap (((kd (ndi l x)).length:Int)-1)=((kd (ndi l x)).length:Int)-1:=qn (by omega);have h:=Oj l x f m ⟨h0,h1⟩ hl hkx (hn0 m (by omega)) (kd (ndi l x)).length m (x-1) (zI _) (by omega) (by omega) (by omega);have e:(qt l x).take (kd (ndi l x)).length=qt l x:=List.take_length;rw [e] at h;rw [show Et (qt l) (f+1) x=goT (Et (qt l) f) (qt l x).reverse (x-1) from rfl];unfold kd at h hw2;dsimp only;simp only [Cw,Hz,qj];rcases h with ⟨y,g1,g2,g3,g4⟩|⟨g1,g2⟩
  ·have hw3:IntKind.i64.wrap (y+1)=y+1:=qn (by omega);rw [g2];simp [-getElem?_pos,qj,hc,h0,h1,Dm,Dn,Do,Dp,Dq,Dr,Dt,Du,Dv,Dw,Dy,Dz,D1,C0,C1,C2,C3,hw,hw2,g1,hw3]
  ·rw [g2];simp [-getElem?_pos,qj,hc,h0,h1,Dm,Dn,Do,Dp,Dq,Dr,Dt,Du,Dv,Dw,Dy,Dz,D1,C0,C1,C2,C3,hw,hw2,g1]
theorem MF (kids:Int->List Int):∀(f:Nat) (n:Int),0<=Db kids f n/\Db kids f n<=f
 |0,n=>by rw [Db];omega
 |f+1,n=>by
  have:∀l:List Int,0<=Jl (l.map λk=>Db kids f k)/\Jl (l.map λk=>Db kids f k)<=f:=by
   intro l
   induction l with
   |nil=>exact ⟨Int.le_refl 0,Int.natCast_nonneg f⟩
   |cons a r ih=>have:=MF kids f a;simp only [zanE,Jl];omega
  have:=this (kids n);rw [Db];omega
theorem Ol (l:List Nd) (x1:Int) (f n:Nat) (hx:0<=x1/\x1<l.length) (hf:f<=1000) (hk:(kd (ndi l x1)).length<=140737488351232)
  (hrec:∀k∈qt l x1,Cx n (l.map qf) k=some (Db (qt l) f k)):
  ∀(m i M:Nat) (a:Int),(kd (ndi l x1)).length=i+m->m+1<=M->0<=a->
   zL (E5 (Cx n) n) M (l.map qf,x1,a,(i:Int))=some (max a (Jl (((qt l x1).drop i).map λk=>Db (qt l) f k)))
 |m,i,0,a,h1,h2,h3=>by omega
 |0,i,M+1,a,h1,h2,h3=>by
  have hc:=Fa hx;have hi:¬i<(ndi l x1).2.2.2.2.2.2.2.2.2.2.2.2.2.length:=by unfold kd at h1;omega
  rw [qd (r:=a) (by simp [-getElem?_pos,E5,qj,hc,hx,Dm,Dn,Do,Dp,Dq,Dr,Dt,Du,Dv,Dw,Dy,Dz,D1,C0,C1,C2,C3,hi])];rw [List.drop_eq_nil_of_le (by unfold qt;omega)];simp only [List.map_nil,Jl]
  congr 1
  omega
 |m+1,i,M+1,a,h1,h2,h3=>by
  have hc:=Fa hx;have hj:i<(kd (ndi l x1)).length:=by omega
  have hg:(qt l x1)[i]?=some (qt l x1)[i]:=zc hj;rw [Ia hg];have hr:=hrec _ (zl hg);generalize (qt l x1)[i]=k at hg hr;have hg':(ndi l x1).2.2.2.2.2.2.2.2.2.2.2.2.2[i]?=some k:=hg;have hj':i<(ndi l x1).2.2.2.2.2.2.2.2.2.2.2.2.2.length:=hj;have hj'':(i:Int)<((ndi l x1).2.2.2.2.2.2.2.2.2.2.2.2.2.length:Int):=by omega
  have hw:IntKind.i64.wrap ((i:Int)+1)=((i+1:Nat):Int):=by rw [qn (by omega)];omega
  have hd:=MF (qt l) f k;rw [qu (v':=(l.map qf,x1,(if Db (qt l) f k>a then Db (qt l) f k else a),((i+1:Nat):Int))) (by simp [-getElem?_pos,E5,qj,hc,hx,Dm,Dn,Do,Dp,Dq,Dr,Dt,Du,Dv,Dw,Dy,Dz,D1,C0,C1,C2,C3,hg',hj',hr,hw])];rw [Ol l x1 f n hx hf hk hrec m (i+1) M _ (by omega) (by omega) (by split<;>omega)];simp only [zanE,Jl]
  congr 1
  split<;>omega
theorem Jn (l:List Nd) (hl:l.length<=60) (hk:∀c∈l,(kd c).length<=140737488351232) (hin:∀i:Int,0<=i->i<l.length->Hg (Dc l) (EE l) (qt l) i):∀(f:Nat) (x:Int),f<=1000->0<=x->x<l.length->x<f->Ev (Cx · (l.map qf) x) (Db (qt l) f x)
 |0,x,hf,h0,h1,h2=>by omega
 |f+1,x,hf,h0,h1,h2=>by
  obtain ⟨n0,hn0⟩:=De (F:=λy n=>Cx n (l.map qf) y) (f:=λy=>Db (qt l) f y) (qt l x) (λy hy=>by
   have:=hin x h0 h1 y hy;exact Jn l hl hk hin f y (by omega) (by omega) (by omega) (by omega))
  refine ⟨n0+(kd (ndi l x)).length+5,λn hn=>?_⟩;obtain ⟨m,rfl,hm⟩:=up1 hn;have h:=Ol l x f m ⟨h0,h1⟩ (by omega) (hk _ (M4 (l:=l) ⟨h0,h1⟩)) (hn0 m (by omega)) (kd (ndi l x)).length 0 m 0 (by omega) (by omega) (by omega);have hd:=MF (qt l) (f+1) x;have e:max 0 (Jl ((qt l x).map λk=>Db (qt l) f k))+1=Db (qt l) (f+1) x:=by
   rw [Db];have:∀q:List Int,0<=Jl q:=by
    intro q
    induction q with
    |nil=>exact Int.le_refl 0
    |cons a r ih=>simp only [Jl];omega
   have:=this ((qt l x).map λk=>Db (qt l) f k);omega
  rw [List.drop_zero] at h;simp only [Int.natCast_zero] at h;have hw:IntKind.i64.wrap (max 0 (Jl ((qt l x).map λk=>Db (qt l) f k))+1)=Db (qt l) (f+1) x:=by rw [e,qn (by omega)]
  simp only [Cx,H1,qj,h,hw]
def inB (l:List Nd) (i:Int):Bool:=(qt l i).all λk=>decide (0<=k/\k<=i-1)&&!(Dc l k&&!EE l i)
theorem QU {l:List Nd} {i:Int}:inB l i=true↔Hg (Dc l) (EE l) (qt l) i:=by
 unfold inB Hg;rw [zamK];refine forall_congr' λk=>forall_congr' λhk=>?_
 cases Dc l k<;>cases EE l i<;>simp
theorem PO (l:List Nd) (x1:Int) (n:Nat) (hx:0<=x1/\x1<l.length) (hl:l.length<=60) (hk:(kd (ndi l x1)).length<=140737488351232):
  ∀(m i M:Nat),(kd (ndi l x1)).length=i+m->m+1<=M->
   zL (Cs (n+1)) M (l.map qf,x1,(i:Int))=some (if ((qt l x1).drop i).all (λk=>decide (0<=k/\k<=x1-1)&&!(Dc l k&&!EE l x1))=true then .inr (l.map qf,x1) else .inl false)
 |m,i,0,h1,h2=>by omega
 |0,i,M+1,h1,h2=>by
  have hc:=Fa hx;have hi:¬i<(ndi l x1).2.2.2.2.2.2.2.2.2.2.2.2.2.length:=by unfold kd at h1;omega
  rw [qd (r:= .inr (l.map qf,x1)) (by simp [-getElem?_pos,Cs,qj,hc,hx,Dm,Dn,Do,Dp,Dq,Dr,Dt,Du,Dv,Dw,Dy,Dz,D1,C0,C1,C2,C3,hi])];rw [List.drop_eq_nil_of_le (by unfold qt;omega)];rfl
 |m+1,i,M+1,h1,h2=>by
  have hc:=Fa hx;have hj:i<(kd (ndi l x1)).length:=by omega
  have hg:(qt l x1)[i]?=some (qt l x1)[i]:=zc hj;rw [Ia hg];generalize (qt l x1)[i]=k at hg;have hg':(ndi l x1).2.2.2.2.2.2.2.2.2.2.2.2.2[i]?=some k:=hg;have hj':i<(ndi l x1).2.2.2.2.2.2.2.2.2.2.2.2.2.length:=hj;have hw:IntKind.i64.wrap ((i:Int)+1)=((i+1:Nat):Int):=by rw [qn (by omega)];omega
  have hw2:IntKind.i64.wrap (x1-1)=x1-1:=qn (by omega);have hin:Cy (n+1) k 0 (x1-1)=some (decide (0<=k/\k<=x1-1)):=by
   simp only [Cy,Hl,qj];by_cases h:k≥0<;>simp [h]
  rw [zanC];by_cases hr:0<=k/\k<=x1-1
  ·have hck:=Fa (l:=l) (i:=k) ⟨hr.1,by omega⟩;have hkl:k<(l.length:Int):=by omega
   by_cases ha:(ndi l k).1=3
   ·by_cases hcl:(ndi l x1).1=6
    ·rw [qu (v':=(l.map qf,x1,((i+1:Nat):Int))) (by simp [-getElem?_pos,Cs,qj,hc,hx,Dm,Dn,Do,Dp,Dq,Dr,Dt,Du,Dv,Dw,Dy,Dz,D1,C0,C1,C2,C3,hg',hj',hw,hw2,hin,hr,hck,hkl,ha,hcl])];rw [PO l x1 n hx hl hk m (i+1) M (by omega) (by omega)];simp [hr,Dc,EE,ha,hcl]
    ·rw [qd (r:= .inl false) (by simp [-getElem?_pos,Cs,qj,hc,hx,Dm,Dn,Do,Dp,Dq,Dr,Dt,Du,Dv,Dw,Dy,Dz,D1,C0,C1,C2,C3,hg',hj',hw,hw2,hin,hr,hck,hkl,ha,hcl])];simp [hr,Dc,EE,ha,hcl]
   ·rw [qu (v':=(l.map qf,x1,((i+1:Nat):Int))) (by simp [-getElem?_pos,Cs,qj,hc,hx,Dm,Dn,Do,Dp,Dq,Dr,Dt,Du,Dv,Dw,Dy,Dz,D1,C0,C1,C2,C3,hg',hj',hw,hw2,hin,hr,hck,hkl,ha])];rw [PO l x1 n hx hl hk m (i+1) M (by omega) (by omega)];simp [hr,Dc,EE,ha]
  ·rw [qd (r:= .inl false) (by simp [-getElem?_pos,Cs,qj,hc,hx,Dm,Dn,Do,Dp,Dq,Dr,Dt,Du,Dv,Dw,Dy,Dz,D1,C0,C1,C2,C3,hg',hj',hw2,hin,hr])];simp [hr]
def G5 (l:List Nd) (i m:Nat):Bool:=(List.range' i m).all λ(i:Nat)=>G8 l (i:Int)&&inB l (i:Int)
theorem Fh {l:List Nd}:G5 l 0 l.length=true↔∀i:Int,0<=i->i<l.length->G8 l i=true/\Hg (Dc l) (EE l) (qt l) i:=by
 unfold G5;rw [zamK]
 constructor
 ·intro h i h0 h1;have:=h i.toNat (by rw [List.mem_range'];exact ⟨i.toNat,by omega,by omega⟩);rw [show ((i.toNat:Nat):Int)=i by omega,zY,QU] at this;exact this
 ·intro h i hi;rw [List.mem_range'] at hi;obtain ⟨j,hj,rfl⟩:=hi;rw [zY,QU];exact h _ (by omega) (by omega)
theorem QV (l:List Nd) (n:Nat) (hl:l.length<=60) (hk:∀c∈l,(kd c).length<=140737488351232) (hn:∀c∈l,(kd c).length+2<=n)
  (hok:∀c∈l,qq n c.1 c.2.1 c.2.2.1 c.2.2.2.1 c.2.2.2.2.1 c.2.2.2.2.2.1 c.2.2.2.2.2.2.1 c.2.2.2.2.2.2.2.1 c.2.2.2.2.2.2.2.2.1 c.2.2.2.2.2.2.2.2.2.1 c.2.2.2.2.2.2.2.2.2.2.1 c.2.2.2.2.2.2.2.2.2.2.2.1 c.2.2.2.2.2.2.2.2.2.2.2.2.1 ((c.2.2.2.2.2.2.2.2.2.2.2.2.2).map DG)=some (EJ c)):
  ∀(m i M:Nat),l.length=i+m->m+1<=M->
   zL (DI n) M (l.map qf,(i:Int))=some (if G5 l i m=true then .inr (l.map qf) else .inl false)
 |m,i,0,h1,h2=>by omega
 |0,i,M+1,h1,h2=>by
  have hi:¬(i:Int)<(l.length:Int):=by omega
  rw [qd (r:= .inr (l.map qf)) (by simp [-getElem?_pos,DI,qj,hi])];rfl
 |m+1,i,M+1,h1,h2=>by
  have hi:(i:Int)<(l.length:Int):=by omega
  have hx:0<=(i:Int)/\(i:Int)<l.length:=⟨by omega,hi⟩;have hc:=Fa hx;have hm:=M4 hx;have ho:=hok _ hm;have hw:IntKind.i64.wrap ((i:Int)+1)=((i+1:Nat):Int):=by rw [qn (by omega)];omega
  have hnn:=hn _ hm;obtain ⟨q,rfl⟩:∃q,n=q+1:=⟨n-1,by omega⟩;have hlp:=PO l i q hx hl (hk _ hm) (kd (ndi l i)).length 0 (q+1) (by omega) (by omega);rw [List.drop_zero,show ((qt l (i:Int)).all λk=>decide (0<=k/\k<=(i:Int)-1)&&!(Dc l k&&!EE l (i:Int)))=inB l i from rfl] at hlp;simp only [Int.natCast_zero] at hlp;have e:G5 l i (m+1)=(G8 l i&&inB l i&&G5 l (i+1) m):=by unfold G5;rw [List.range'_succ,zanC]
  rw [e];rw [gD] at hc;cases hnb:EJ (ndi l i) with
  |false=>
   rw [hnb] at ho;rw [qd (r:= .inl false) (by simp [-getElem?_pos,DI,qj,hi,hc,Dm,Dn,Do,Dp,Dq,Dr,Dt,Du,Dv,Dw,Dy,Dz,D1,C0,C1,C2,C3,ho])];simp [G8,hnb]
  |true=>
   rw [hnb] at ho;cases hib:inB l i with
   |false=>
    rw [hib] at hlp;rw [qd (r:= .inl false) (by simp [-getElem?_pos,DI,qj,hi,hc,Dm,Dn,Do,Dp,Dq,Dr,Dt,Du,Dv,Dw,Dy,Dz,D1,C0,C1,C2,C3,ho,hlp])];simp
   |true=>
    rw [hib] at hlp;rw [qu (v':=(l.map qf,((i+1:Nat):Int))) (by simp [-getElem?_pos,DI,qj,hi,hc,Dm,Dn,Do,Dp,Dq,Dr,Dt,Du,Dv,Dw,Dy,Dz,D1,C0,C1,C2,C3,ho,hlp,hw])];rw [QV l (q+1) hl hk hn hok m (i+1) M (by omega) (by omega)];simp [G8,hnb]
def FQ (l:List Nd):Bool:=decide (1<=l.length/\l.length<=60)&&(G5 l 0 l.length&&(decide (Et (qt l) l.length ((l.length:Int)-1)=0)&&(!Dc l ((l.length:Int)-1)&&decide (Db (qt l) l.length ((l.length:Int)-1)<=12))))
theorem Ga (l:List Nd) (hk:∀c∈l,(kd c).length<=140737488351232/\c.2.2.2.2.1.size<=140737488351232):Ev (DX · (l.map qf)) (FQ l):=by
 by_cases h1:1<=l.length
 ·by_cases h60:l.length<=60
  ·have hk1:∀c∈l,(kd c).length<=140737488351232:=λc hc=>(hk c hc).1
   obtain ⟨n1,g1⟩:=De (F:=λ(c:Nd) n=>qq n c.1 c.2.1 c.2.2.1 c.2.2.2.1 c.2.2.2.2.1 c.2.2.2.2.2.1 c.2.2.2.2.2.2.1 c.2.2.2.2.2.2.2.1 c.2.2.2.2.2.2.2.2.1 c.2.2.2.2.2.2.2.2.2.1 c.2.2.2.2.2.2.2.2.2.2.1 c.2.2.2.2.2.2.2.2.2.2.2.1 c.2.2.2.2.2.2.2.2.2.2.2.2.1 ((c.2.2.2.2.2.2.2.2.2.2.2.2.2).map DG)) (f:=EJ) l (λc hc=>Gr c (hk c hc).2);obtain ⟨n2,g2⟩:=De (F:=λ(c:Nd) n=>if (kd c).length+2<=n then some () else none) (f:=λ_=>()) l (λc hc=>⟨(kd c).length+2,λn hn=>if_pos hn⟩);obtain ⟨n3,g3⟩:=Jm l (by omega) hk1 l.length ((l.length:Int)-1) (by omega) (by omega) (by omega);obtain ⟨n4,g4⟩:∃n0,G5 l 0 l.length=true->∀n,n0<=n->Cx n (l.map qf) ((l.length:Int)-1)=some (Db (qt l) l.length ((l.length:Int)-1)):=by
    by_cases ho:G5 l 0 l.length=true
    ·obtain ⟨n4,g4⟩:=Jn l h60 hk1 (λ(i:Int) h0 h1=>(Fh.1 ho i h0 h1).2) l.length ((l.length:Int)-1) (by omega) (by omega) (by omega) (by omega);exact ⟨n4,λ_=>g4⟩
    ·exact ⟨0,λh=>absurd h ho⟩
   refine ⟨n1+n2+n3+n4+l.length+5,λn hn=>?_⟩;obtain ⟨m,rfl,hm⟩:=up1 hn;have hlp:=QV l m h60 hk1 (λc hc=>by
    have:=g2 m (by omega) c hc;split at this
    ·assumption
    ·cases this) (g1 m (by omega)) l.length 0 m (by omega) (by omega)
   have g3:=g3 m (by omega);dsimp only at g3;simp only [Int.natCast_zero] at hlp;have hw:IntKind.i64.wrap ((l.length:Int)-1)=(l.length:Int)-1:=qn (by omega);have hx:0<=(l.length:Int)-1/\(l.length:Int)-1<l.length:=by omega
   have hc:=Fa hx;have a1:¬(l.length:Int)<1:=by omega
   have a2:¬(l.length:Int)>60:=by omega
   generalize hxe:(l.length:Int)-1=x at hw hx hc g3 g4⊢;simp only [DX,E6,qj,zamV,aZ,a1,a2,if_false,hlp];unfold FQ;rw [hxe];cases ho:G5 l 0 l.length with
   |false=>simp [qj]
   |true=>
    have g4:=g4 ho m (by omega);simp only [if_true,qj,zamV,hxe,hw,g3];by_cases ht:Et (qt l) l.length x=0
    ·by_cases ha:(ndi l x).1=3
     ·simp [-getElem?_pos,qj,ht,hx,hc,Dm,Dn,Do,Dp,Dq,Dr,Dt,Du,Dv,Dw,Dy,Dz,D1,C0,C1,C2,C3,ha,Dc]
     ·simp [-getElem?_pos,qj,ht,hx,hc,Dm,Dn,Do,Dp,Dq,Dr,Dt,Du,Dv,Dw,Dy,Dz,D1,C0,C1,C2,C3,ha,Dc,g4,h1,h60]
    ·simp [-getElem?_pos,qj,ht]
  ·refine ⟨1,λn hn=>?_⟩;obtain ⟨m,rfl,hm⟩:=up1 (n0:=0) hn;have a1:¬(l.length:Int)<1:=by omega
   have a2:(l.length:Int)>60:=by omega
   simp [-getElem?_pos,DX,E6,qj,a1,a2,FQ,h60]
 ·refine ⟨1,λn hn=>?_⟩;obtain ⟨m,rfl,hm⟩:=up1 (n0:=0) hn;have a1:(l.length:Int)<1:=by omega
  simp [-getElem?_pos,DX,E6,qj,a1,FQ,h1]
theorem Om (l:List Nd) (x1 d:Int) (f n:Nat) (hx:0<=x1/\x1<l.length) (hl:l.length<=140737488351232) (hd:0<=d/\d<=1000) (hk:(kd (ndi l x1)).length<=140737488351232)
  (hrec:∀y:Int,0<=y->y<x1->Ct n (l.map qf) y (d+1)=some (Ek (G8 l) (Dc l) (EE l) (qt l) f y)):
  ∀(j M:Nat) (s:Int),j<=(kd (ndi l x1)).length->j+1<=M->0<=s->s<=x1->
   zL (Ck (Ct n) n) M (l.map qf,x1,d,s,(j:Int)-1)=some (.inr (goF (Dc l) (EE l) (Ek (G8 l) (Dc l) (EE l) (qt l) f) x1 ((qt l x1).take j).reverse s))\/
   (zL (Ck (Ct n) n) M (l.map qf,x1,d,s,(j:Int)-1)=some (.inl (-1))/\goF (Dc l) (EE l) (Ek (G8 l) (Dc l) (EE l) (qt l) f) x1 ((qt l x1).take j).reverse s= -1)
 |0,0,s,h1,h2,h3,h4=>by omega
 |0,M+1,s,h1,h2,h3,h4=>by
  refine .inl ?_;rw [qd (r:= .inr s) (by simp [-getElem?_pos,Ck,qj])];simp [goF]
 |j+1,0,s,h1,h2,h3,h4=>by omega
 |j+1,M+1,s,h1,h2,h3,h4=>by
  have hc:=Fa hx;have hj:j<(kd (ndi l x1)).length:=by omega
  have hg:(qt l x1)[j]?=some (qt l x1)[j]:=zc hj;have ih:=Om l x1 d f n hx hl hd hk hrec j M;rw [Pr hg];generalize (qt l x1)[j]=k at hg;have hi:(((j+1:Nat):Int)-1)=(j:Int):=by omega
  rw [hi,goF];have hg':(ndi l x1).2.2.2.2.2.2.2.2.2.2.2.2.2[j]?=some k:=hg;have hj':j<(ndi l x1).2.2.2.2.2.2.2.2.2.2.2.2.2.length:=hj;have hws:IntKind.i64.wrap (s-1)=s-1:=qn (by omega);by_cases hks:k=s-1
  ·by_cases hk0:k<0
   ·refine .inr ⟨?_,by rw [if_pos (.inr (.inl hk0))]⟩;rw [qd (r:= .inl (-1)) (by simp [-getElem?_pos,Ck,qj,hc,hx,Dm,Dn,Do,Dp,Dq,Dr,Dt,Du,Dv,Dw,Dy,Dz,D1,C0,C1,C2,C3,hg',hj',hks,hws,show s-1<0 by omega])]
   ·have hws':IntKind.i64.wrap (s-1)=k:=by rw [hws,hks]
    have hkx:0<=k/\k<l.length:=by omega
    have hck:=Fa hkx;by_cases hac:Dc l k=true/\EE l x1=false
    ·have ha:(ndi l k).1=3:=by simpa [Dc] using hac.1
     have hb:¬(ndi l x1).1=6:=by simpa [EE] using hac.2
     refine .inr ⟨?_,by rw [if_pos (.inr (.inr hac))]⟩;rw [qd (r:= .inl (-1)) (by simp [-getElem?_pos,Ck,qj,hc,hx,Dm,Dn,Do,Dp,Dq,Dr,Dt,Du,Dv,Dw,Dy,Dz,D1,C0,C1,C2,C3,hg',hj',hws',hk0,hck,hkx,ha,hb])]
    ·have hr:=hrec k (by omega) (by omega);have hwd:IntKind.i64.wrap (d+1)=d+1:=qn (by omega);have hw2:IntKind.i64.wrap ((j:Int)-1)=(j:Int)-1:=qn (by omega);have hno:¬(k≠s-1\/k<0\/(Dc l k=true/\EE l x1=false)):=λh=>by
      rcases h with h|h|h
      ·exact h hks
      ·exact hk0 h
      ·exact hac h
     have hcase:¬(ndi l k).1=3\/((ndi l k).1=3/\(ndi l x1).1=6):=by
      by_cases ha:(ndi l k).1=3
      ·refine .inr ⟨ha,?_⟩;refine Decidable.byContradiction λhb=>hac ⟨by simp [Dc,ha],by simp [EE,hb]⟩
      ·exact .inl ha
     rw [if_neg hno];by_cases ht:Ek (G8 l) (Dc l) (EE l) (qt l) f k<0
     ·refine .inr ⟨?_,by rw [if_pos ht]⟩;rcases hcase with ha|⟨ha,hb⟩
      ·rw [qd (r:= .inl (-1)) (by simp [-getElem?_pos,Ck,qj,hc,hx,Dm,Dn,Do,Dp,Dq,Dr,Dt,Du,Dv,Dw,Dy,Dz,D1,C0,C1,C2,C3,hg',hj',hws',hk0,hck,hkx,ha,hwd,hr,ht])]
      ·rw [qd (r:= .inl (-1)) (by simp [-getElem?_pos,Ck,qj,hc,hx,Dm,Dn,Do,Dp,Dq,Dr,Dt,Du,Dv,Dw,Dy,Dz,D1,C0,C1,C2,C3,hg',hj',hws',hk0,hck,hkx,ha,hb,hwd,hr,ht])]
     ·rw [if_neg ht];have hb1:=(PN (G8 l) (Dc l) (EE l) (qt l) f (k.toNat+1) k (by omega) (by omega) (by omega)).1;have hstep:zL (Ck (Ct n) n) (M+1) (l.map qf,x1,d,s,(j:Int))=zL (Ck (Ct n) n) M (l.map qf,x1,d,Ek (G8 l) (Dc l) (EE l) (qt l) f k,(j:Int)-1):=by
       rcases hcase with ha|⟨ha,hb⟩
       ·rw [qu (v':=(l.map qf,x1,d,Ek (G8 l) (Dc l) (EE l) (qt l) f k,(j:Int)-1)) (by simp [-getElem?_pos,Ck,qj,hc,hx,Dm,Dn,Do,Dp,Dq,Dr,Dt,Du,Dv,Dw,Dy,Dz,D1,C0,C1,C2,C3,hg',hj',hws',hk0,hck,hkx,ha,hwd,hr,ht,hw2])]
       ·rw [qu (v':=(l.map qf,x1,d,Ek (G8 l) (Dc l) (EE l) (qt l) f k,(j:Int)-1)) (by simp [-getElem?_pos,Ck,qj,hc,hx,Dm,Dn,Do,Dp,Dq,Dr,Dt,Du,Dv,Dw,Dy,Dz,D1,C0,C1,C2,C3,hg',hj',hws',hk0,hck,hkx,ha,hb,hwd,hr,ht,hw2])]
      rw [hstep];exact ih _ (by omega) (by omega) (by omega) (by omega)
  ·refine .inr ⟨?_,by rw [if_pos (.inl hks)]⟩;rw [qd (r:= .inl (-1)) (by simp [-getElem?_pos,Ck,qj,hc,hx,Dm,Dn,Do,Dp,Dq,Dr,Dt,Du,Dv,Dw,Dy,Dz,D1,C0,C1,C2,C3,hg',hj',hws,hks])]
theorem LR (l:List Nd) (hl:l.length<=140737488351232) (hk:∀c∈l,(kd c).length<=140737488351232/\c.2.2.2.2.1.size<=140737488351232):∀(f:Nat) (x d:Int),x<l.length->d=12-f->0<=d->Ev (Ct · (l.map qf) x d) (Ek (G8 l) (Dc l) (EE l) (qt l) f x)
 |0,x,d,h1,h2,h3=>by
  refine ⟨1,λn hn=>?_⟩;obtain ⟨m,rfl,hm⟩:=up1 (n0:=0) hn;have a:d≥12:=by omega
  by_cases h:x<0<;>simp [-getElem?_pos,Ct,G7,qj,h,a,Ek]
 |f+1,x,d,h1,h2,h3=>by
  by_cases h0:x<0
  ·refine ⟨1,λn hn=>?_⟩;obtain ⟨m,rfl,hm⟩:=up1 (n0:=0) hn;simp [-getElem?_pos,Ct,G7,qj,h0,Ek]
  ·have hx:0<=x/\x<l.length:=by omega
   have hc:=Fa hx;have hm':=M4 hx;obtain ⟨n0,hn0⟩:=Ps (F:=λy n=>Ct n (l.map qf) y (d+1)) (f:=λy=>Ek (G8 l) (Dc l) (EE l) (qt l) f y) x (λy h3 h4=>LR l hl hk f y (d+1) (by omega) (by omega) (by omega));obtain ⟨n1,g1⟩:=OU (ndi l x) (hk _ hm').2;refine ⟨n0+n1+(kd (ndi l x)).length+5,λn hn=>?_⟩;obtain ⟨m,rfl,hm⟩:=up1 hn;have g1:=g1 m (by omega);have h:=Om l x d f m hx hl (by omega) (hk _ hm').1 (hn0 m (by omega)) (kd (ndi l x)).length m x (zI _) (by omega) (by omega) (by omega);have e:(qt l x).take (kd (ndi l x)).length=qt l x:=List.take_length;rw [e] at h;have hw2:IntKind.i64.wrap (((kd (ndi l x)).length:Int)-1)=((kd (ndi l x)).length:Int)-1:=by
    have:=(hk _ hm').1;exact qn (by omega)
   have a:¬d≥12:=by omega
   unfold kd at h hw2;dsimp only at g1⊢;simp only [Ct,G7,Ek,qj];cases hnb:EJ (ndi l x) with
   |false=>
    rw [hnb] at g1;simp [-getElem?_pos,qj,h0,a,hc,hx,Dm,Dn,Do,Dp,Dq,Dr,Dt,Du,Dv,Dw,Dy,Dz,D1,C0,C1,C2,C3,g1,G8,hnb]
   |true=>
    rw [hnb] at g1;rcases h with h|⟨h,h'⟩
    ·simp [-getElem?_pos,qj,h0,a,hc,hx,Dm,Dn,Do,Dp,Dq,Dr,Dt,Du,Dv,Dw,Dy,Dz,D1,C0,C1,C2,C3,g1,G8,hnb,hw2,h]
    ·simp only [h'];simp [-getElem?_pos,qj,h0,a,hc,hx,Dm,Dn,Do,Dp,Dq,Dr,Dt,Du,Dv,Dw,Dy,Dz,D1,C0,C1,C2,C3,g1,G8,hnb,hw2,h]
theorem Qx {l:List Nd}:FQ l=(decide (1<=l.length/\l.length<=60)&&(!Dc l ((l.length:Int)-1)&&decide (Ek (G8 l) (Dc l) (EE l) (qt l) 12 ((l.length:Int)-1)=0))):=by
 rw [Bool.eq_iff_iff];unfold FQ;simp only [zY,aZ]
 constructor
 ·intro ⟨h1,h2,h3,h4,h5⟩;refine ⟨h1,h4,?_⟩;rw [QT (G8 l) (Dc l) (EE l) (qt l) 12 l.length l.length ((l.length:Int)-1) (by omega) (by omega) (by omega) (λi i0 i1=>Fh.1 h2 i i0 (by omega)) (by omega) (by simpa using h5)];exact h3
 ·intro ⟨h1,h4,h5⟩;obtain ⟨b1,b2,b3,b4⟩:=PN (G8 l) (Dc l) (EE l) (qt l) 12 l.length ((l.length:Int)-1) (by omega) (by omega) (by omega);rw [h5] at b2 b3;refine ⟨h1,Fh.2 (λi i0 i1=>b3 i i0 (by omega)),b2,h4,?_⟩;have:=b4 l.length (λi i0 i1=>(b3 i i0 i1).2) (by omega);simpa using this
theorem Gb (l:List Nd) (hl:l.length<=140737488351232) (hk:∀c∈l,(kd c).length<=140737488351232/\c.2.2.2.2.1.size<=140737488351232):Ev (DY · (l.map qf)) (FQ l):=by
 rw [Qx];by_cases h:1<=l.length/\l.length<=60
 ·obtain ⟨n1,g1⟩:=LR l hl hk 12 ((l.length:Int)-1) 0 (by omega) (by omega) (by omega);obtain ⟨n2,g2⟩:=Cv (l.length:Int) 1 60;refine ⟨n1+n2+1,λn hn=>?_⟩;obtain ⟨m,rfl,hm⟩:=up1 hn;have g1:=g1 m (by omega);have g2:=g2 m (by omega);dsimp only at g1 g2⊢;have hw:IntKind.i64.wrap ((l.length:Int)-1)=(l.length:Int)-1:=qn (by omega);have hx:0<=(l.length:Int)-1/\(l.length:Int)-1<l.length:=by omega
  have hc:=Fa hx;have h':(1:Int)<=l.length/\(l.length:Int)<=60:=by omega
  generalize hxe:(l.length:Int)-1=x at hw hx hc g1⊢;by_cases ha:(ndi l x).1=3
  ·simp [-getElem?_pos,DY,E7,qj,hxe,g2,h',hw,hx,hc,Dm,Dn,Do,Dp,Dq,Dr,Dt,Du,Dv,Dw,Dy,Dz,D1,C0,C1,C2,C3,ha,Dc]
  ·by_cases hf:Ek (G8 l) (Dc l) (EE l) (qt l) 12 x=0<;>simp [-getElem?_pos,DY,E7,qj,hxe,g1,g2,h,h',hw,hx,hc,Dm,Dn,Do,Dp,Dq,Dr,Dt,Du,Dv,Dw,Dy,Dz,D1,C0,C1,C2,C3,ha,Dc,hf]
 ·obtain ⟨n2,g2⟩:=Cv (l.length:Int) 1 60;refine ⟨n2+1,λn hn=>?_⟩;obtain ⟨m,rfl,hm⟩:=up1 hn;have g2:=g2 m (by omega);dsimp only at g2⊢;have h':¬((1:Int)<=l.length/\(l.length:Int)<=60):=by omega
  simp [-getElem?_pos,DY,E7,qj,g2,h,h']
def Rz (l:LBy):LBy:=l.flatMap λc=>if c=34 then [34,34] else [c]
def R3 (s:BA):BA:=⟨(34::Rz s.toList++ [34]).toArray⟩
def lvl (op:Int):Int:=if op≥6 then 1 else if op=5 then 2 else if op≥3 then 4 else 3
theorem M0 (op:Int):Ev (E4 · op) (lvl op):=by
 refine ⟨1,λn hn=>?_⟩;obtain ⟨m,rfl,hm⟩:=up1 hn;simp only [E4,HV,qj];unfold lvl;by_cases h1:op≥6
 ·simp [h1]
 ·by_cases h2:op=5
  ·simp [h2]
  ·by_cases h3:op≥3<;>simp [h1,h2,h3]
theorem SO {op:Int} (h:1<=op/\op<=11):op=1\/op=2\/op=3\/op=4\/op=5\/op=6\/op=7\/op=8\/op=9\/op=10\/op=11:=by omega
def DL (op:Int):BA:=if op=1 then ⟨#[43]⟩ else if op=2 then ⟨#[45]⟩ else if op=3 then ⟨#[42]⟩ else if op=4 then ⟨#[47]⟩ else if op=5 then ⟨#[38]⟩ else if op=6 then ⟨#[61]⟩ else if op=7 then ⟨#[60,62]⟩ else if op=8 then ⟨#[60]⟩ else if op=9 then ⟨#[60,61]⟩ else if op=10 then ⟨#[62]⟩ else ⟨#[62,61]⟩
def fnS (op:Int):BA:=if op=1 then ⟨#[83,85,77]⟩ else if op=2 then ⟨#[77,73,78]⟩ else if op=3 then ⟨#[77,65,88]⟩ else if op=4 then ⟨#[67,79,85,78,84]⟩ else if op=5 then ⟨#[73,70]⟩ else if op=6 then ⟨#[65,78,68]⟩ else if op=7 then ⟨#[79,82]⟩ else if op=8 then ⟨#[78,79,84]⟩ else if op=9 then ⟨#[65,66,83]⟩ else ⟨#[76,69,78]⟩
theorem QC {op:Int} (h:1<=op/\op<=11):(DL op).size<=2:=by
 rcases SO h with rfl|rfl|rfl|rfl|rfl|rfl|rfl|rfl|rfl|rfl|rfl<;>decide
theorem Jo (op:Int) (h:1<=op/\op<=11):Ev (Em · op) (DL op):=by
 refine ⟨1,λn hn=>?_⟩;obtain ⟨m,rfl,hm⟩:=up1 hn;simp only [Em,Hs,qj];rcases SO h with rfl|rfl|rfl|rfl|rfl|rfl|rfl|rfl|rfl|rfl|rfl<;>rfl
theorem PP (op:Int) (h:1<=op/\op<=10):Ev (FB · op) (fnS op):=by
 refine ⟨1,λn hn=>?_⟩;obtain ⟨m,rfl,hm⟩:=up1 hn;simp only [FB,JS,qj];rcases ten h with rfl|rfl|rfl|rfl|rfl|rfl|rfl|rfl|rfl|rfl<;>rfl
def SP (xs:List BA):BA:=⟨(Lib.join (xs.map (·.data.toList)) [44]).toArray⟩
def par (b:Bool) (s:BA):BA:=if b=true then ((⟨#[40]⟩:BA)++s)++⟨#[41]⟩ else s
def kid (c:Nd) (j:Nat):Int:=(kd c).getD j 0
def Pt (l:List Nd):Nat->Int->Int->BA
 |0,_,_=>⟨#[]⟩
 |f+1,i,t=>
  if (ndi l i).1=1 then (if (ndi l i).2.2.1=2 then R3 (ndi l i).2.2.2.2.1 else MU (ndi l i).2.2.1 (ndi l i).2.2.2.1 (ndi l i).2.2.2.2.1)
  else if (ndi l i).1=2 then Ji (ndi l i).2.2.2.2.2.1 (ndi l i).2.2.2.2.2.2.1 (ndi l i).2.2.2.2.2.2.2.1 (ndi l i).2.2.2.2.2.2.2.2.1
  else if (ndi l i).1=3 then (Ji (ndi l i).2.2.2.2.2.1 (ndi l i).2.2.2.2.2.2.1 (ndi l i).2.2.2.2.2.2.2.1 (ndi l i).2.2.2.2.2.2.2.2.1++⟨#[58]⟩)++Ji (ndi l i).2.2.2.2.2.2.2.2.2.1 (ndi l i).2.2.2.2.2.2.2.2.2.2.1 (ndi l i).2.2.2.2.2.2.2.2.2.2.2.1 (ndi l i).2.2.2.2.2.2.2.2.2.2.2.2.1
  else if (ndi l i).1=4 then (⟨#[45]⟩:BA)++Pt l f (kid (ndi l i) 0) 5
  else if (ndi l i).1=5 then par (decide (lvl (ndi l i).2.1<t)) ((Pt l f (kid (ndi l i) 0) (lvl (ndi l i).2.1)++DL (ndi l i).2.1)++Pt l f (kid (ndi l i) 1) (lvl (ndi l i).2.1+1))
  else ((fnS (ndi l i).2.1++⟨#[40]⟩)++SP ((qt l i).map λk=>Pt l f k 1))++⟨#[41]⟩
structure Fine (l:List Nd):Prop where
 len:l.length<=60
 own:∀i:Int,0<=i->i<l.length->G8 l i=true/\Hg (Dc l) (EE l) (qt l) i
 sz:∀c∈l,(kd c).length<=140737488351232/\c.2.2.2.2.1.size<=140737488351232
theorem Fine.kid {l:List Nd} (h:Fine l) {f:Nat} {i k:Int} (hi:0<=i/\i<l.length) (hd:Db (qt l) (i.toNat+1) i<=(f+1:Nat)) (hk:k∈qt l i):(0<=k/\k<l.length)/\Db (qt l) (k.toNat+1) k<=f:=by
 have hin:=(h.own i hi.1 hi.2).2 k hk;have h1:=(Nk (qt l) (n:=i) (b:=((f+1:Nat):Int)) (f:=i.toNat) (by omega)).1 hd k hk;refine ⟨by omega,?_⟩;rw [Nl (Dc l) (EE l) (qt l) (k.toNat+1) i.toNat k (by omega) (by omega) (λj j0 j1=>(h.own j j0 (by omega)).2) (by omega)];omega
abbrev PS:=LBy×Bool×List Nd
def tb (r:LBy):LBy:=r.dropWhile (· ==32)
def wch (c:UInt8):Bool:=(decide (65<=c.toNat)&&decide (c.toNat<=90))||((decide (48<=c.toNat)&&decide (c.toNat<=57))||c==36)
def wd (r:LBy):LBy:=r.takeWhile wch
def wr (r:LBy):LBy:=r.dropWhile wch
def BR (r:LBy):BA:=⟨r.toArray⟩
def Nm:List (LBy):= [[60,62],[60,61],[62,61],[60],[62],[61],[38],[43],[45],[42],[47],[40],[41],[44],[58]]
def sgn (r:LBy):LBy:=match Nm.find? (λw=>w.isPrefixOf r) with|some w=>w|none=> []
def nd1 (v:V3):Nd:=(1,0,v.1,v.2.1,v.2.2,0,0,false,false,0,0,false,false,[])
def ndK (k op:Int) (kids:List Int):Nd:=(k,op,0,0,em,0,0,false,false,0,0,false,false,kids)
def ndC (p:Int×Int×Bool×Bool×Bool):Nd:=(2,0,0,0,em,p.1,p.2.1,p.2.2.1,p.2.2.2.1,0,0,false,false,[])
def ndA (p q:Int×Int×Bool×Bool×Bool):Nd:=(3,0,0,0,em,p.1,p.2.1,p.2.2.1,p.2.2.2.1,q.1,q.2.1,q.2.2.1,q.2.2.2.1,[])
def FC:LBy->LBy->Option (LBy×LBy)
 |_,[]=>none
 |acc,c::t=>if c=34 then (match t with
   |d::t'=>if d=34 then FC (acc++ [34]) t' else some (acc,t)
   | []=>some (acc,[])) else FC (acc++ [c]) t
def Nn (r:LBy):Int->Nat->Option Int
 |_,0=>none
 |n,k+1=>if (qz n).toList.isPrefixOf r=true then some n else Nn r (n+1) k
def M1 (w:LBy):Int->Nat->Option Int
 |_,0=>none
 |n,k+1=>if (fnS n).toList=w then some n else M1 w (n+1) k
def EO (r:LBy):Int:=
 if sgn r= [43] then 1 else if sgn r= [45] then 2 else if sgn r= [42] then 3 else if sgn r= [47] then 4 else if sgn r= [38] then 5 else if sgn r= [61] then 6 else
 if sgn r= [60,62] then 7 else if sgn r= [60] then 8 else if sgn r= [60,61] then 9 else if sgn r= [62] then 10 else if sgn r= [62,61] then 11 else 0
def Cm (w:LBy) (p:PS):Bool×PS:=if sgn (tb p.1)=w then (true,(tb p.1).drop w.length,p.2) else (false,tb p.1,p.2)
def If (x:Nd) (p:PS):Int×PS:=if p.2.1=true\/60<=p.2.2.length then ((p.2.2.length:Int)-1,p.1,true,p.2.2) else ((p.2.2.length:Int),p.1,false,p.2.2++ [x])
def Qy (p:PS):PS:=(p.1,true,p.2.2)
def G9 (w:LBy) (p:PS):PS:=if p.2.1=true then p else if (Cm w p).1=true then (Cm w p).2 else Qy (Cm w p).2
def Fu (p:PS):Option Nd×PS:=
 let w:=wd (tb p.1)
 let p1:PS:=(wr (tb p.1),p.2)
 if (EI (BR w)).2.2.2.2=true/\(Cm [58] p1).1=true then
  let p2:=(Cm [58] p1).2
  let w2:=wd (tb p2.1)
  (some (ndA (EI (BR w)) (EI (BR w2))),wr (tb p2.1),p2.2.1||!(EI (BR w2)).2.2.2.2,p2.2.2)
 else (none,p)
def HL (o:Option Nd×PS) (g:PS->Int×PS):Int×PS:=match o.1 with
 |some x=>If x o.2
 |none=>g o.2
inductive PJ where
 |bin (least deep:Int)
 |loop (least deep a:Int)
 |un (deep:Int)
 |at (deep:Int)
 |call (op deep:Int)
 |args (op deep:Int) (kids:List Int)
def pP:Nat->PJ->PS->Int×PS
 |0,_,p=>(0,p)
 |f+1,.bin least deep,p=>pP f (.loop least deep (pP f (.un deep) p).1) (pP f (.un deep) p).2
 |f+1,.loop least deep a,p=>
  if p.2.1=true then (a,p) else
  if EO (tb p.1)=0\/lvl (EO (tb p.1))<least then (a,tb p.1,p.2) else
  let p1:PS:=((tb p.1).drop (sgn (tb p.1)).length,p.2)
  let q:=pP f (.bin (lvl (EO (tb p.1))+1) deep) p1
  let c:=If (ndK 5 (EO (tb p.1)) [a,q.1]) q.2
  pP f (.loop least deep c.1) c.2
 |f+1,.un deep,p=>
  if deep>400\/p.2.1=true then (-1,Qy p) else
  if (Cm [45] p).1=true then
   let q:=pP f (.un (deep+1)) (Cm [45] p).2
   If (ndK 4 0 [q.1]) q.2
  else pP f (.at deep) (Cm [45] p).2
 |f+1,.at deep,p=>
  let r:=tb p.1
  if r.head?=some 34 then (match FC [] r.tail with
   |none=>(-1,r,true,p.2.2)
   |some (s,t)=>If (nd1 (2,0,BR s)) (t,p.2))
  else match (if r.head?=some 35 then Nn r 1 5 else none) with
  |some n=>If (nd1 (4,n,em)) (r.drop (qz n).size,p.2)
  |none=>
   if r.head?≠some 35/\(Cm [40] p).1=true then
    let q:=pP f (.bin 1 (deep+1)) (Cm [40] p).2
    (q.1,G9 [41] q.2)
   else
    let w:=wd r
    let p2:PS:=(wr r,p.2)
    if (Cr (BR w)).2.2.2=true/\((Cr (BR w)).1=1\/(Cr (BR w)).1=3) then If (nd1 ((Cr (BR w)).1,(Cr (BR w)).2.1,(Cr (BR w)).2.2.1)) p2
    else if (EI (BR w)).2.2.2.2=true then If (ndC (EI (BR w))) p2
    else match M1 w 1 10 with
    |some op=>pP f (.call op deep) p2
    |none=>(-1,Qy p2)
 |f+1,.call op deep,p=>pP f (.args op deep []) (G9 [40] p)
 |f+1,.args op deep kids,p=>
  if p.2.1=true then If (ndK 6 op kids) p else
  let q:=HL (Fu p) (λp=>pP f (.bin 1 (deep+1)) p)
  if (Cm [44] q.2).1=true then pP f (.args op deep (kids++ [q.1])) (Cm [44] q.2).2
  else If (ndK 6 op (kids++ [q.1])) (G9 [41] (Cm [44] q.2).2)
def sIs (w:LBy) (q:PS):Bool×PS:=if q.2.1=true then (false,tb q.1,q.2) else if w.isPrefixOf (tb q.1)=true then (true,(tb q.1).drop w.length,q.2) else (false,tb q.1,q.2)
def F6 (x:Nd) (q:PS):Int×PS:=((q.2.2.length:Int),q.1,(if 60<q.2.2.length+1\/EJ x=false then true else q.2.1),q.2.2++ [x])
def Kt (q:PS):PS:=(q.1,true,q.2.2)
def EV:List Int:= [7,9,11,6,8,10,1,2,3,4,5]
def Ft (level:Int) (r:LBy):List Int->Int
 | []=>0
 |o::l=>if lvl o=level/\(DL o).toList.isPrefixOf r=true then o else Ft level r l
def sOp (level:Int) (q:PS):Int×PS:=
 if q.2.1=true then (0,tb q.1,q.2) else
 (Ft level (tb q.1) EV,(if Ft level (tb q.1) EV=0 then tb q.1 else (tb q.1).drop (DL (Ft level (tb q.1) EV)).size),q.2)
def Pu (r:LBy):Int->Nat->Option Int
 |_,0=>none
 |n,k+1=>if (qz n).toList.tail.isPrefixOf r=true then some n else Pu r (n+1) k
inductive SJ where
 |row (level:Int)
 |rl (level a:Int)
 |one
 |call (op:Int) (kids:List Int)
 |arg
def sP:Nat->SJ->PS->Int×PS
 |0,_,q=>(0,q)
 |f+1,.row level,q=>
  if q.2.1=true then (0,q) else
  if level=5 then sP f .one q else
  sP f (.rl level (sP f (.row (level+1)) q).1) (sP f (.row (level+1)) q).2
 |f+1,.rl level a,q=>
  if q.2.1=true then (a,q) else
  let o:=sOp level q
  if o.1=0 then (a,o.2) else
  let b:=sP f (.row (level+1)) o.2
  let c:=F6 (ndK 5 o.1 [a,b.1]) b.2
  sP f (.rl level c.1) c.2
 |f+1,.one,q=>
  if (sIs [45] q).1=true then
   let b:=sP f (.row 5) (sIs [45] q).2
   F6 (ndK 4 0 [b.1]) b.2
  else if (sIs [40] (sIs [45] q).2).1=true then
   let b:=sP f (.row 1) (sIs [40] (sIs [45] q).2).2
   (b.1,if (sIs [41] b.2).1=true then (sIs [41] b.2).2 else Kt (sIs [41] b.2).2)
  else
   let q2:PS:=(tb q.1,q.2)
   if (sIs [34] q2).1=true then (match FC [] (sIs [34] q2).2.1 with
    |none=>(0,[],true,q.2.2)
    |some (s,t)=>F6 (nd1 (2,0,BR s)) (t,q.2))
   else if (sIs [35] q2).1=true then (match Pu (sIs [35] q2).2.1 1 5 with
    |some n=>F6 (nd1 (4,n,em)) ((sIs [35] q2).2.1.drop ((qz n).size-1),q.2)
    |none=>(0,(sIs [35] q2).2.1,true,q.2.2))
   else
    let w:=wd (tb q.1)
    let q3:PS:=(wr (tb q.1),q.2)
    match M1 w 1 10 with
    |some op=>if (sIs [40] q3).1=true then sP f (.call op []) (sIs [40] q3).2 else (0,Kt (sIs [40] q3).2)
    |none=>
     if (Cr (BR w)).2.2.2=true/\w≠ [] then F6 (nd1 ((Cr (BR w)).1,(Cr (BR w)).2.1,(Cr (BR w)).2.2.1)) q3
     else if (EI (BR w)).2.2.2.2=true then F6 (ndC (EI (BR w))) q3
     else (0,Kt q3)
 |f+1,.call op kids,q=>
  if q.2.1=true then (0,q) else
  let a:=sP f .arg q
  if (sIs [41] a.2).1=true then F6 (ndK 6 op (kids++ [a.1])) (sIs [41] a.2).2
  else sP f (.call op (kids++ [a.1])) (if (sIs [44] (sIs [41] a.2).2).1=true then (sIs [44] (sIs [41] a.2).2).2 else Kt (sIs [44] (sIs [41] a.2).2).2)
 |f+1,.arg,q=>
  let w:=wd (tb q.1)
  let q1:PS:=(wr (tb q.1),q.2)
  if (EI (BR w)).2.2.2.2=true/\(sIs [58] q1).1=true then
   let q2:=(sIs [58] q1).2
   let w2:=wd (tb q2.1)
   if (EI (BR w2)).2.2.2.2=true then F6 (ndA (EI (BR w)) (EI (BR w2))) (wr (tb q2.1),q2.2) else (0,wr (tb q2.1),true,q2.2.2)
  else sP f (.row 1) (tb q.1,q.2)
theorem FD:∀r:LBy,tb (tb r)=tb r
 | []=>rfl
 |c::r=>by
  unfold tb;by_cases h:(c==32)=true
  ·simp only [List.dropWhile_cons,h,if_true];exact FD r
  ·simp [List.dropWhile_cons,h]
theorem C4:∀r:LBy,(tb r).length<=r.length
 | []=>zI _
 |c::r=>by
  unfold tb;by_cases h:(c==32)=true
  ·simp only [List.dropWhile_cons,h,if_true];exact Nat.le_succ_of_le (C4 r)
  ·simp [List.dropWhile_cons,h]
theorem On {p:UInt8->Bool}:∀r:LBy,(r.dropWhile p).length<=r.length
 | []=>zI _
 |c::r=>by
  by_cases h:p c=true
  ·simp only [List.dropWhile_cons,h,if_true];exact Nat.le_succ_of_le (On r)
  ·simp [List.dropWhile_cons,h]
theorem Jp (r:LBy):(wr r).length<=r.length:=On r
theorem wdr (r:LBy):wd r++wr r=r:=List.takeWhile_append_dropWhile
theorem PQ (c:UInt8) (t:LBy) (h1:c≠60) (h2:c≠62):sgn (c::t)=if c∈([61,38,43,45,42,47,40,41,44,58]:LBy) then [c] else []:=by
 have e1:(60==c)=false:=by simpa using λe=>h1 e.symm
 have e2:(62==c)=false:=by simpa using λe=>h2 e.symm
 by_cases h:c∈([61,38,43,45,42,47,40,41,44,58]:LBy)
 ·rw [if_pos h];simp only [zamT,List.not_mem_nil,or_false] at h;rcases h with rfl|rfl|rfl|rfl|rfl|rfl|rfl|rfl|rfl|rfl<;>rfl
 ·rw [if_neg h];simp only [zamT,List.not_mem_nil,or_false,not_or] at h;obtain ⟨a1,a2,a3,a4,a5,a6,a7,a8,a9,a10⟩:=h;have f:∀d:UInt8,c≠d->(d==c)=false:=λd hd=>by simpa using λe=>hd e.symm
  simp [sgn,Nm,List.find?,List.isPrefixOf,e1,e2,f _ a1,f _ a2,f _ a3,f _ a4,f _ a5,f _ a6,f _ a7,f _ a8,f _ a9,f _ a10]
theorem No (t:LBy):sgn (60::t)=if t.head?=some 62 then [60,62] else if t.head?=some 61 then [60,61] else [60]:=by
 cases t with
 |nil=>rfl
 |cons d t=>
  by_cases h:d=62
  ·subst h;rfl
  ·by_cases h2:d=61
   ·subst h2;rfl
   ·have e1:(62==d)=false:=by simpa using λe=>h e.symm
    have e2:(61==d)=false:=by simpa using λe=>h2 e.symm
    simp [sgn,Nm,List.find?,List.isPrefixOf,e1,e2,h,h2]
theorem PR (t:LBy):sgn (62::t)=if t.head?=some 61 then [62,61] else [62]:=by
 cases t with
 |nil=>rfl
 |cons d t=>
  by_cases h2:d=61
  ·subst h2;rfl
  ·have e2:(61==d)=false:=by simpa using λe=>h2 e.symm
   simp [sgn,Nm,List.find?,List.isPrefixOf,e2,h2]
theorem SQ {c:UInt8} (hc:c∈([45,40,41,44,58]:LBy)) (r:LBy):(sgn r= [c])↔([c].isPrefixOf r=true):=by
 cases r with
 |nil=>
  have:sgn []= []:=rfl;rw [this];simp [List.isPrefixOf]
 |cons d t=>
  have hcc:c≠60/\c≠62/\c∈([61,38,43,45,42,47,40,41,44,58]:LBy):=by
   simp only [zamT,List.not_mem_nil,or_false] at hc;rcases hc with rfl|rfl|rfl|rfl|rfl<;>decide
  have e:([c].isPrefixOf (d::t)=true)↔c=d:=by simp [List.isPrefixOf]
  rw [e];by_cases h1:d=60
  ·subst h1;rw [No]
   constructor
   ·intro h;split at h
    ·cases h
    ·split at h
     ·cases h
     ·simp only [List.cons.injEq,and_true] at h;exact absurd h.symm hcc.1
   ·intro h;exact absurd h hcc.1
  ·by_cases h2:d=62
   ·subst h2;rw [PR]
    constructor
    ·intro h;split at h
     ·cases h
     ·simp only [List.cons.injEq,and_true] at h;exact absurd h.symm hcc.2.1
    ·intro h;exact absurd h hcc.2.1
   ·rw [PQ d t h1 h2]
    constructor
    ·intro h;split at h
     ·simp only [List.cons.injEq,and_true] at h;exact h.symm
     ·cases h
    ·intro h;subst h;rw [if_pos hcc.2.2]
theorem RX {c:UInt8} (hc:c∈([45,40,41,44,58]:LBy)) {p q:PS} (hb:q.2.1=false) (ht:tb p.1=tb q.1):(Cm [c] p).1=(sIs [c] q).1/\(Cm [c] p).2.1=(sIs [c] q).2.1/\(Cm [c] p).2.2=p.2/\(sIs [c] q).2.2=q.2:=by
 have h:=SQ hc (tb q.1);unfold Cm sIs;rw [ht,hb];by_cases hs:sgn (tb q.1)= [c]
 ·rw [if_pos hs,if_neg (by simp),if_pos (h.1 hs)];exact ⟨rfl,rfl,rfl,rfl⟩
 ·rw [if_neg hs,if_neg (by simp),if_neg (λe=>hs (h.2 e))];exact ⟨rfl,rfl,rfl,rfl⟩
theorem Jq {w:LBy} (hw:w≠ []) {p:PS} (h:(Cm w p).1=true):(Cm w p).2.1.length<(tb p.1).length:=by
 unfold Cm at h⊢;by_cases hs:sgn (tb p.1)=w
 ·rw [if_pos hs];have hp:w.isPrefixOf (tb p.1)=true:=by
   unfold sgn at hs;split at hs
   ·rename_i x hx;subst hs;have:=List.find?_some hx;simpa using this
   ·exact absurd hs.symm hw
  obtain ⟨t,ht⟩:=List.isPrefixOf_iff_prefix.1 hp;have h0:0<w.length:=List.length_pos_iff.2 hw;have h1:=congrArg List.length ht;simp only [zamO] at h1;simp only [List.length_drop];omega
 ·rw [if_neg hs] at h;cases h
theorem J0 (w:LBy) (p:PS):(Cm w p).2.1.length<=(tb p.1).length:=by
 unfold Cm;split
 ·simp
 ·exact zI _
theorem RY (r:LBy):(EO r=0)\/(1<=EO r/\EO r<=11/\sgn r=(DL (EO r)).toList):=by
 unfold EO
 repeat' (split; · rename_i h;right;rw [h];exact ⟨by decide,by decide,by decide+kernel⟩)
 left;rfl
theorem sg1:(DL 1).toList= [43]:=by decide+kernel
theorem sg2:(DL 2).toList= [45]:=by decide+kernel
theorem sg3:(DL 3).toList= [42]:=by decide+kernel
theorem sg4:(DL 4).toList= [47]:=by decide+kernel
theorem sg5:(DL 5).toList= [38]:=by decide+kernel
theorem sg6:(DL 6).toList= [61]:=by decide+kernel
theorem sg7:(DL 7).toList= [60,62]:=by decide+kernel
theorem sg8:(DL 8).toList= [60]:=by decide+kernel
theorem sg9:(DL 9).toList= [60,61]:=by decide+kernel
theorem RZ:(DL 10).toList= [62]:=by decide+kernel
theorem Ra:(DL 11).toList= [62,61]:=by decide+kernel
theorem IK (r:LBy):Ft 1 r EV=if [60,62].isPrefixOf r=true then 7 else if [60,61].isPrefixOf r=true then 9 else if [62,61].isPrefixOf r=true then 11 else if [61].isPrefixOf r=true then 6 else if [60].isPrefixOf r=true then 8 else if [62].isPrefixOf r=true then 10 else 0:=by
 simp [Ft,EV,lvl,sg1,sg2,sg3,sg4,sg5,sg6,sg7,sg8,sg9,RZ,Ra]
theorem IL (r:LBy):Ft 2 r EV=if [38].isPrefixOf r=true then 5 else 0:=by
 simp [Ft,EV,lvl,sg1,sg2,sg3,sg4,sg5,sg6,sg7,sg8,sg9,RZ,Ra]
theorem IM (r:LBy):Ft 3 r EV=if [43].isPrefixOf r=true then 1 else if [45].isPrefixOf r=true then 2 else 0:=by
 simp [Ft,EV,lvl,sg1,sg2,sg3,sg4,sg5,sg6,sg7,sg8,sg9,RZ,Ra]
theorem IN (r:LBy):Ft 4 r EV=if [42].isPrefixOf r=true then 3 else if [47].isPrefixOf r=true then 4 else 0:=by
 simp [Ft,EV,lvl,sg1,sg2,sg3,sg4,sg5,sg6,sg7,sg8,sg9,RZ,Ra]
theorem Rb {m:Int} (hm:1<=m/\m<=4) (r:LBy):Ft m r EV=if EO r≠0/\lvl (EO r)=m then EO r else 0:=by
 have hm:m=1\/m=2\/m=3\/m=4:=by omega
 cases r with
 |nil=>rcases hm with rfl|rfl|rfl|rfl<;>simp [IK,IL,IM,IN,EO,sgn,Nm,List.find?,List.isPrefixOf]
 |cons c t=>
  have f:∀d:UInt8,c≠d->(d==c)=false:=λd hd=>by simpa using λe=>hd e.symm
  by_cases h1:c=60
  ·subst h1;cases t with
   |nil=>rcases hm with rfl|rfl|rfl|rfl<;>simp [IK,IL,IM,IN,EO,No,List.isPrefixOf,lvl]
   |cons d t=>
    have g:∀e:UInt8,d≠e->(e==d)=false:=λe hd=>by simpa using λx=>hd x.symm
    by_cases hd:d=62
    ·subst hd;rcases hm with rfl|rfl|rfl|rfl<;>simp [IK,IL,IM,IN,EO,No,List.isPrefixOf,lvl]
    ·by_cases hd2:d=61
     ·subst hd2;rcases hm with rfl|rfl|rfl|rfl<;>simp [IK,IL,IM,IN,EO,No,List.isPrefixOf,lvl]
     ·rcases hm with rfl|rfl|rfl|rfl<;>simp [IK,IL,IM,IN,EO,No,List.isPrefixOf,lvl,hd,hd2,g _ hd,g _ hd2]
  ·by_cases h2:c=62
   ·subst h2;cases t with
    |nil=>rcases hm with rfl|rfl|rfl|rfl<;>simp [IK,IL,IM,IN,EO,PR,List.isPrefixOf,lvl]
    |cons d t=>
     have g:∀e:UInt8,d≠e->(e==d)=false:=λe hd=>by simpa using λx=>hd x.symm
     by_cases hd2:d=61
     ·subst hd2;rcases hm with rfl|rfl|rfl|rfl<;>simp [IK,IL,IM,IN,EO,PR,List.isPrefixOf,lvl]
     ·rcases hm with rfl|rfl|rfl|rfl<;>simp [IK,IL,IM,IN,EO,PR,List.isPrefixOf,lvl,hd2,g _ hd2]
   ·by_cases h:c∈([61,38,43,45,42,47,40,41,44,58]:LBy)
    ·have hs:sgn (c::t)= [c]:=by rw [PQ c t h1 h2,if_pos h]
     simp only [zamT,List.not_mem_nil,or_false] at h;rcases h with rfl|rfl|rfl|rfl|rfl|rfl|rfl|rfl|rfl|rfl<;>rcases hm with rfl|rfl|rfl|rfl<;>
      simp [IK,IL,IM,IN,EO,hs,List.isPrefixOf,lvl]
    ·have hs:sgn (c::t)= []:=by rw [PQ c t h1 h2,if_neg h]
     simp only [zamT,List.not_mem_nil,or_false,not_or] at h;obtain ⟨a1,a2,a3,a4,a5,a6,a7,a8,a9,a10⟩:=h;rcases hm with rfl|rfl|rfl|rfl<;>
      simp [IK,IL,IM,IN,EO,hs,List.isPrefixOf,f _ h1,f _ h2,f _ a1,f _ a2,f _ a3,f _ a4,f _ a5,f _ a6]
theorem Qz {op:Int}:1<=lvl op/\lvl op<=4:=by unfold lvl;split<;>(try split)<;>(try split)<;>omega
def LS (p:PS):Prop:=p.2.1=true\/∃x∈p.2.2,EJ x=false
theorem El {x:Nd} {p:PS} (h:LS p):LS (If x p).2:=by
 unfold If;split
 ·exact .inl rfl
 ·rename_i hn;rcases h with h|⟨y,hy,hb⟩
  ·exact absurd (.inl h) hn
  ·exact .inr ⟨y,zamU _ hy,hb⟩
theorem GJ {w:LBy} {p:PS} (h:LS p):LS (Cm w p).2:=by unfold Cm;split<;>exact h
theorem HA (p:PS):LS (Qy p):= .inl rfl
theorem Ig {w:LBy} {p:PS} (h:LS p):LS (G9 w p):=by
 unfold G9;split
 ·exact h
 ·split
  ·exact GJ h
  ·exact HA _
theorem Oo {p:PS} (h:LS p):LS (Fu p).2:=by
 unfold Fu;simp only;split
 ·rcases h with h|h
  ·left
   simp only [Bool.or_eq_true]
   left
   have:(Cm [58] (wr (tb p.1),p.2)).2.2=p.2:=by unfold Cm;split<;>rfl
   rw [this];exact h
  ·right
   have:(Cm [58] (wr (tb p.1),p.2)).2.2=p.2:=by unfold Cm;split<;>rfl
   simp only [this];exact h
 ·exact h
theorem Ey:∀(f:Nat) (j:PJ) (p:PS),LS p->LS (pP f j p).2
 |0,j,p,h=>h
 |f+1,.bin least deep,p,h=>by
  simp only [pP];exact Ey f _ _ (Ey f _ _ h)
 |f+1,.loop least deep a,p,h=>by
  simp only [pP];split
  ·exact h
  ·split
   ·exact h
   ·exact Ey f _ _ (El (Ey f _ _ h))
 |f+1,.un deep,p,h=>by
  simp only [pP];split
  ·exact HA _
  ·split
   ·exact El (Ey f _ _ (GJ h))
   ·exact Ey f _ _ (GJ h)
 |f+1,.at deep,p,h=>by
  simp only [pP];split
  ·split
   ·exact .inl rfl
   ·exact El h
  ·split
   ·exact El h
   ·split
    ·exact Ig (Ey f _ _ (GJ h))
    ·split
     ·exact El h
     ·split
      ·exact El h
      ·split
       ·exact Ey f _ _ h
       ·exact HA _
 |f+1,.call op deep,p,h=>by
  simp only [pP];exact Ey f _ _ (Ig h)
 |f+1,.args op deep kids,p,h=>by
  simp only [pP];have hq:LS (HL (Fu p) (λp=>pP f (.bin 1 (deep+1)) p)).2:=by
   unfold HL;split
   ·exact El (Oo h)
   ·exact Ey f _ _ (Oo h)
  revert hq
  generalize HL (Fu p) (λp=>pP f (.bin 1 (deep+1)) p)=q;intro hq;split
  ·exact El h
  ·split
   ·exact Ey f _ _ (GJ hq)
   ·exact El (Ig (GJ hq))
theorem Dd (x:Nd) (p:PS):(If x p).2.1=p.1:=by unfold If;split<;>rfl
theorem GK (w:LBy) (p:PS):(tb (Cm w p).2.1).length<=(tb p.1).length:=by
 unfold Cm;split
 ·refine zX (C4 _) ?_;simp
 ·simp only;rw [FD];exact zI _
theorem MG (w:LBy) (p:PS):(tb (G9 w p).1).length<=(tb p.1).length:=by
 unfold G9;split
 ·exact zI _
 ·split
  ·exact GK w p
  ·exact GK w p
theorem J1 (p:PS):(tb (Fu p).2.1).length<=(tb p.1).length:=by
 unfold Fu;simp only;split
 ·simp only;refine zX (C4 _) (zX (Jp _) (zX (GK [58] _) ?_));exact zX (C4 _) (Jp _)
 ·exact zI _
theorem J2:∀(acc r:LBy) {s t:LBy},FC acc r=some (s,t)->t.length<r.length
 |acc,[],s,t,h=>by simp [FC] at h
 |acc,c::r,s,t,h=>by
  unfold FC at h;by_cases hc:c=34
  ·rw [if_pos hc] at h
   match r,h with
   | [],h=>simp only [zO,zamL] at h;rw [<-h.2];simp
   |d::t',h=>
    simp only at h;by_cases hd:d=34
    ·rw [if_pos hd] at h;have:=J2 _ t' h;simp only [zamM];omega
    ·rw [if_neg hd] at h;simp only [zO,zamL] at h;rw [<-h.2];simp
  ·rw [if_neg hc] at h;have:=J2 _ r h;simp only [zamM];omega
theorem Gc:∀(f:Nat) (j:PJ) (p:PS),(tb (pP f j p).2.1).length<=(tb p.1).length
 |0,j,p=>zI _
 |f+1,.bin least deep,p=>by
  simp only [pP];exact zX (Gc f _ _) (Gc f _ _)
 |f+1,.loop least deep a,p=>by
  simp only [pP];split
  ·exact zI _
  ·split
   ·simp only;rw [FD];exact zI _
   ·refine zX (Gc f _ _) ?_;rw [Dd];refine zX (Gc f _ _) (zX (C4 _) ?_);simp
 |f+1,.un deep,p=>by
  simp only [pP];split
  ·exact zI _
  ·split
   ·rw [Dd];exact zX (Gc f _ _) (GK _ _)
   ·exact zX (Gc f _ _) (GK _ _)
 |f+1,.at deep,p=>by
  simp only [pP];split
  ·split
   ·simp only;rw [FD];exact zI _
   ·rename_i s t hq;rw [Dd];have:=J2 _ _ hq;refine zX (C4 _) ?_;have h2:((tb p.1).tail).length<=(tb p.1).length:=by simp
    simp only;omega
  ·split
   ·rw [Dd];refine zX (C4 _) ?_;simp
   ·split
    ·exact zX (MG _ _) (zX (Gc f _ _) (GK _ _))
    ·have hw:(tb (wr (tb p.1))).length<=(tb p.1).length:=zX (C4 _) (Jp _);split
     ·rw [Dd];exact hw
     ·split
      ·rw [Dd];exact hw
      ·split
       ·exact zX (Gc f _ _) hw
       ·exact hw
 |f+1,.call op deep,p=>by
  simp only [pP];exact zX (Gc f _ _) (MG _ _)
 |f+1,.args op deep kids,p=>by
  simp only [pP];have hq:(tb (HL (Fu p) (λp=>pP f (.bin 1 (deep+1)) p)).2.1).length<=(tb p.1).length:=by
   unfold HL;split
   ·rw [Dd];exact J1 p
   ·exact zX (Gc f _ _) (J1 p)
  revert hq
  generalize HL (Fu p) (λp=>pP f (.bin 1 (deep+1)) p)=q;intro hq;split
  ·rw [Dd];exact zI _
  ·split
   ·exact zX (Gc f _ _) (zX (GK _ _) hq)
   ·rw [Dd];exact zX (MG _ _) (zX (GK _ _) hq)
structure RdOK:Prop where
 v:∀w:LBy,w.all wch=true->w≠ []->(Cr (BR w)).2.2.2=true->(Cr (BR w)).1=1\/(Cr (BR w)).1=3
 v0:¬((Cr (BR [])).1=1\/(Cr (BR [])).1=3)
 p0:(EI (BR [])).2.2.2.2=false
 f:∀w op,M1 w 1 10=some op->(Cr (BR w)).2.2.2=false/\(EI (BR w)).2.2.2.2=false
 f0:M1 [] 1 10=none
 n:∀n:Int,1<=n/\n<=5->∃t,(qz n).toList=35::t
def Lk (p q:PS):Prop:=p.2.1=false/\q.2.1=false/\p.2.2=q.2.2/\tb p.1=tb q.1
def Sim (a b:Int×PS):Prop:=(a.1=b.1/\Lk a.2 b.2)\/(b.2.2.1=true/\LS a.2)
def SR (least:Int) (p:PS):Prop:=EO (tb p.1)=0\/lvl (EO (tb p.1))<least
def SimP (least:Int) (a b:Int×PS):Prop:=(a.1=b.1/\Lk a.2 b.2/\SR least a.2)\/(b.2.2.1=true/\LS a.2)
theorem SimP.sim {least:Int} {a b:Int×PS} (h:SimP least a b):Sim a b:=h.elim (λh=> .inl ⟨h.1,h.2.1⟩) .inr
theorem LU {x:Nd} {q:PS} (h:q.2.1=true):(F6 x q).2.2.1=true:=by
 unfold F6;simp only;split
 ·rfl
 ·exact h
theorem Iw {w:LBy} {q:PS} (h:q.2.1=true):sIs w q=(false,tb q.1,q.2):=by unfold sIs;rw [if_pos h]
theorem MH:∀(g:Nat) (j:SJ) (q:PS),q.2.1=true->(sP g j q).2.2.1=true
 |0,j,q,h=>h
 |g+1,.row level,q,h=>by simp only [sP];rw [if_pos h];exact h
 |g+1,.rl level a,q,h=>by simp only [sP];rw [if_pos h];exact h
 |g+1,.one,q,h=>by
  simp only [sP];rw [Iw (w:= [45]) h];simp only [dD,if_false];rw [Iw (w:= [40]) (q:=(tb q.1,q.2)) h];simp only [dD,if_false];rw [Iw (w:= [34]) (q:=(tb q.1,q.2)) h];simp only [dD,if_false];rw [Iw (w:= [35]) (q:=(tb q.1,q.2)) h];simp only [dD,if_false];split
  ·rw [Iw (w:= [40]) (q:=(wr (tb q.1),q.2)) h];simp [Kt]
  ·split
   ·exact LU h
   ·split
    ·exact LU h
    ·rfl
 |g+1,.call op kids,q,h=>by simp only [sP];rw [if_pos h];exact h
 |g+1,.arg,q,h=>by
  simp only [sP];rw [Iw (w:= [58]) (q:=(wr (tb q.1),q.2)) h];simp only [dD,and_false,if_false];exact MH g _ _ h
theorem Ix {x:Nd} {p q:PS} (h:Lk p q):Sim (If x p) (F6 x q):=by
 obtain ⟨h1,h2,h3,h4⟩:=h;unfold If F6;rw [h1,h2,h3];by_cases hl:60<=q.2.2.length
 ·refine .inr ⟨?_,.inl ?_⟩
  ·simp only;rw [if_pos (.inl (by omega))]
  ·rw [if_pos (.inr hl)]
 ·rw [if_neg (by simp;omega)];by_cases hn:EJ x=false
  ·exact .inr ⟨by simp only;rw [if_pos (.inr hn)],.inr ⟨x,by simp,hn⟩⟩
  ·refine .inl ⟨rfl,rfl,?_,rfl,h4⟩;simp only;rw [if_neg];intro e;rcases e with e|e
   ·omega
   ·exact hn e
theorem Pv {a b:Int×PS} (f:Int->Nd) (h:Sim a b):Sim (If (f a.1) a.2) (F6 (f b.1) b.2):=by
 rcases h with ⟨h1,h2⟩|⟨h1,h2⟩
 ·rw [h1];exact Ix h2
 ·exact .inr ⟨LU h1,El h2⟩
theorem J3 {c:UInt8} (hc:c∈([45,40,41,44,58]:LBy)) {p q:PS} (h:Lk p q):(Cm [c] p).1=(sIs [c] q).1/\Lk (Cm [c] p).2 (sIs [c] q).2:=by
 obtain ⟨h1,h2,h3,h4⟩:=h;obtain ⟨e1,e2,e3,e4⟩:=RX hc h2 h4;refine ⟨e1,?_,?_,?_,?_⟩
 ·rw [e3];exact h1
 ·rw [e4];exact h2
 ·rw [e3,e4];exact h3
 ·rw [e2]
theorem Pw {c:UInt8} (hc:c∈([45,40,41,44,58]:LBy)) {a b:Int×PS} (h:Sim a b):Sim (a.1,G9 [c] a.2) (b.1,if (sIs [c] b.2).1=true then (sIs [c] b.2).2 else Kt (sIs [c] b.2).2):=by
 rcases h with ⟨h1,h2⟩|⟨h1,h2⟩
 ·obtain ⟨e1,e2⟩:=J3 hc h2;unfold G9;rw [if_neg (by rw [h2.1];simp),e1];by_cases ht:(sIs [c] b.2).1=true
  ·rw [if_pos ht,if_pos ht];exact .inl ⟨h1,e2⟩
  ·rw [if_neg ht,if_neg ht];exact .inr ⟨rfl,HA _⟩
 ·refine .inr ⟨?_,Ig h2⟩;rw [Iw h1];simp [Kt]
def JM (G:Nat) (least:Int):Nat->Int×PS->Int×PS->Prop
 |0,x,res=>res=x
 |m+1,x,res=>if ((m:Int)+1)<least then res=x else ∃g,G<=g/\JM G least m (sP g (.rl ((m:Int)+1) x.1) x.2) res
theorem MJ {G G':Nat} (h:G'<=G) {least:Int}:∀(m:Nat) {x res:Int×PS},JM G least m x res->JM G' least m x res
 |0,x,res,ht=>ht
 |m+1,x,res,ht=>by
  unfold JM at ht⊢;split
  ·rename_i hc;rw [if_pos hc] at ht;exact ht
  ·rename_i hc;rw [if_neg hc] at ht;obtain ⟨g,h1,h2⟩:=ht;exact ⟨g,zX h h1,MJ h m h2⟩
theorem LV {G:Nat} {least:Int}:∀(m:Nat) {x res:Int×PS},x.2.2.1=true->JM G least m x res->res.2.2.1=true
 |0,x,res,hb,ht=>by unfold JM at ht;rw [ht];exact hb
 |m+1,x,res,hb,ht=>by
  unfold JM at ht;split at ht
  ·rw [ht];exact hb
  ·obtain ⟨g,_,h2⟩:=ht;exact LV m (MH g _ _ hb) h2
theorem Oq {G:Nat} {l:Nat} (hl0:1<=l) {g:Nat} (hg:G<=g):∀(m:Nat) {x y:Int×PS},l<=m->JM G ((l:Int)+1) m x y->JM G (l:Int) m x (sP g (.rl (l:Int) y.1) y.2)
 |0,x,y,hl,ht=>by omega
 |m+1,x,y,hl,ht=>by
  unfold JM at ht⊢;rw [if_neg (by omega)];by_cases e:l=m+1
  ·subst e;rw [if_pos (by omega)] at ht;subst ht;refine ⟨g,hg,?_⟩;have key:∀{z:Int×PS},JM G ((m+1:Nat):Int) m z z:=fun {z}=>by
    cases m with
    |zero=>rfl
    |succ k=>unfold JM;rw [if_pos (by omega)]
   exact key
  ·rw [if_neg (by omega)] at ht;obtain ⟨g',h1,h2⟩:=ht;exact ⟨g',h1,Oq hl0 hg m (by omega) h2⟩
theorem Px {G:Nat} {q:PS} (hq:q.2.1=false):∀(k:Nat),k<=4->∀g,G+k<=g->∃g5,G<=g5/\JM G (5-(k:Int)) 4 (sP g5 (.row 5) q) (sP g (.row (5-(k:Int))) q)
 |0,_,g,hg=>⟨g,hg,by
  unfold JM;rw [if_pos (by decide)];simp⟩
 |k+1,hk,0,hg=>by omega
 |k+1,hk,g+1,hg=>by
  obtain ⟨g5,h1,h2⟩:=Px (G:=G) hq k (by omega) g (by omega);refine ⟨g5,h1,?_⟩;have e:(5-((k+1:Nat):Int))=((4-k:Nat):Int):=by omega
  have e1:(5-(k:Int))=((4-k:Nat):Int)+1:=by omega
  rw [e1] at h2;rw [e];have:=Oq (G:=G) (l:=4-k) (by omega) (g:=g) (by omega) 4 (by omega) h2;have e2:sP (g+1) (.row ((4-k:Nat):Int)) q=sP g (.rl ((4-k:Nat):Int) (sP g (.row (((4-k:Nat):Int)+1)) q).1) (sP g (.row (((4-k:Nat):Int)+1)) q).2:=by
   simp only [sP];rw [if_neg (by rw [hq];simp),if_neg (by omega)]
  rw [e2];exact this
theorem Q0 (H:RdOK) {r:LBy} (h:r.head?=some 35):∀(k:Nat) (n:Int),1<=n->n+k<=6->Pu r.tail n k=Nn r n k
 |0,n,_,_=>rfl
 |k+1,n,h1,h2=>by
  obtain ⟨t,ht⟩:=H.n n ⟨h1,by omega⟩;cases r with
  |nil=>cases h
  |cons c r=>
   simp only [List.head?_cons,zO] at h;subst h;simp only [Pu,Nn,ht,List.tail_cons];have ih:=Q0 H (r:=35::r) rfl k (n+1) (by omega) (by omega);simp only [List.tail_cons] at ih;rw [ih];simp [List.isPrefixOf]
theorem Py {r:LBy}:∀(k:Nat) (n:Int) {m:Int},Nn r n k=some m->n<=m/\m<n+k
 |0,n,m,h=>by cases h
 |k+1,n,m,h=>by
  simp only [Nn] at h;split at h
  ·simp only [zO] at h;omega
  ·have:=Py k (n+1) h;omega
theorem Pz (c:UInt8) (r:LBy):([c].isPrefixOf r=true)↔r.head?=some c:=by
 cases r with
 |nil=>simp [List.isPrefixOf]
 |cons d t=>simp [List.isPrefixOf];exact eq_comm
theorem LW {c:UInt8} {q:PS} (hb:q.2.1=false):(sIs [c] q).1=true↔(tb q.1).head?=some c:=by
 unfold sIs;rw [if_neg (by rw [hb];simp)];split
 ·rename_i h;exact ⟨λ_=>(Pz c _).1 h,λ_=>rfl⟩
 ·rename_i h;exact ⟨λe=>(by cases e),λe=>absurd ((Pz c _).2 e) h⟩
theorem QD (r:LBy):(wd r).all wch=true:=by
 unfold wd
 induction r with
 |nil=>rfl
 |cons c r ih=>
  by_cases h:wch c=true
  ·simp only [List.takeWhile_cons,h,if_true,zanC,Bool.true_and];exact ih
  ·simp [List.takeWhile_cons,h]
def Rc (N:Nat):Prop:=∀(p q:PS) (deep:Int) (f g:Nat),Lk p q->(tb p.1).length=N->0<=deep->deep+N<=400->20*N+4<=f->20*N+5<=g->Sim (pP f (.un deep) p) (sP g (.row 5) q)
def Re (N:Nat):Prop:=∀(m:Nat),m<=4->∀(p q:PS) (deep least a:Int) (f:Nat) (res:Int×PS),Lk p q->(tb p.1).length=N->1<=least->0<=deep->deep+N<=400->20*N+5<=f->
 (EO (tb p.1)=0\/lvl (EO (tb p.1))<=m)->JM (20*N+5) least m (a,q) res->SimP least (pP f (.loop least deep a) p) res
def Q1 (N:Nat):Prop:=∀(p q:PS) (deep:Int) (k f g:Nat),k<=4->Lk p q->(tb p.1).length=N->0<=deep->deep+N<=400->20*N+6<=f->20*N+10<=g->SimP (5-(k:Int)) (pP f (.bin (5-(k:Int)) deep) p) (sP g (.row (5-(k:Int))) q)
def Rf (N:Nat):Prop:=∀(p q:PS) (deep op:Int) (kids:List Int) (f g:Nat),Lk p q->(tb p.1).length=N->0<=deep->deep+N+1<=400->20*N+8<=f->20*N+12<=g->Sim (pP f (.args op deep kids) p) (sP g (.call op kids) q)
theorem Sf (N:Nat) (hB:∀M,M<N->Q1 M) (hT:∀M,M<N->Re M):Re N:=by
 intro m
 induction m with
 |zero=>
  intro hm p q deep least a f res hl hN hle hd hdN hf hpk ht;have h0:EO (tb p.1)=0:=by
   rcases hpk with h|h
   ·exact h
   ·have:=(Qz (op:=EO (tb p.1))).1;omega
  cases f with
  |zero=>omega
  |succ f=>
   simp only [pP];rw [if_neg (by rw [hl.1];simp),if_pos (.inl h0)];unfold JM at ht;subst ht;refine .inl ⟨rfl,⟨hl.1,hl.2.1,hl.2.2.1,?_⟩,.inl ?_⟩
   ·simp only;rw [FD];exact hl.2.2.2
   ·simp only;rw [FD];exact h0
 |succ m ih=>
  intro hm p q deep least a f res hl hN hle hd hdN hf hpk ht;unfold JM at ht;by_cases hc:(m:Int)+1<least
  ·rw [if_pos hc] at ht;subst ht;cases f with
   |zero=>omega
   |succ f=>
    have hst:EO (tb p.1)=0\/lvl (EO (tb p.1))<least:=by
     rcases hpk with h|h
     ·exact .inl h
     ·right;push_cast at h;omega
    simp only [pP];rw [if_neg (by rw [hl.1];simp),if_pos hst];refine .inl ⟨rfl,⟨hl.1,hl.2.1,hl.2.2.1,?_⟩,?_⟩
    ·simp only;rw [FD];exact hl.2.2.2
    ·unfold SR;simp only;rw [FD];exact hst
  ·rw [if_neg hc] at ht;obtain ⟨g,hg,ht⟩:=ht;cases g with
   |zero=>omega
   |succ g=>
    have hin:=Rb (m:=(m:Int)+1) (by omega) (tb q.1);have hpq:tb p.1=tb q.1:=hl.2.2.2;simp only [sP] at ht;rw [if_neg (by rw [hl.2.1];simp)] at ht;have ho:sOp ((m:Int)+1) q=(Ft ((m:Int)+1) (tb q.1) EV,(if Ft ((m:Int)+1) (tb q.1) EV=0 then tb q.1 else (tb q.1).drop (DL (Ft ((m:Int)+1) (tb q.1) EV)).size),q.2):=by
     unfold sOp;rw [if_neg (by rw [hl.2.1];simp)]
    by_cases hop:EO (tb q.1)≠0/\lvl (EO (tb q.1))=(m:Int)+1
    ·rw [if_pos hop] at hin;rw [hin,if_neg hop.1] at ho;rw [ho] at ht;simp only at ht;rw [if_neg hop.1] at ht;cases f with
     |zero=>omega
     |succ f=>
      simp only [pP];rw [if_neg (by rw [hl.1];simp),if_neg (by rw [hpq];exact λe=>e.elim (λe=>hop.1 e) (λe=>by have:=hop.2;omega))];rw [hpq];rcases RY (tb q.1) with h0|⟨_,_,hsg⟩
      ·exact absurd h0 hop.1
      have hsz:(sgn (tb q.1)).length=(DL (EO (tb q.1))).size:=by rw [hsg,Dk]
      have hpos:0<(sgn (tb q.1)).length:=by
       cases hh:sgn (tb q.1) with
       |nil=>
        exfalso;apply hop.1;unfold EO;rw [hh];simp
       |cons c t=>simp
      have hdrop:(tb ((tb q.1).drop (sgn (tb q.1)).length)).length<N:=by
       have h1:=C4 ((tb q.1).drop (sgn (tb q.1)).length);have h2:(sgn (tb q.1)).length<=(tb q.1).length\/(tb q.1).length<(sgn (tb q.1)).length:=by omega
       rw [List.length_drop] at h1;have h3:(tb q.1).length=N:=by rw [<-hpq];exact hN
       have h4:0<N:=by
        rcases Nat.eq_zero_or_pos N with h|h
        ·exfalso;rw [h] at h3;have:tb q.1= []:=aU h3;apply hop.1;rw [this];rfl
        ·exact h
       omega
      have hlk:Lk ((tb q.1).drop (sgn (tb q.1)).length,p.2) ((tb q.1).drop (DL (EO (tb q.1))).size,q.2):=⟨hl.1,hl.2.1,hl.2.2.1,by simp only;rw [hsz]⟩;have hb:=hB _ hdrop ((tb q.1).drop (sgn (tb q.1)).length,p.2) ((tb q.1).drop (DL (EO (tb q.1))).size,q.2) deep (3-m) f g (by omega) hlk rfl hd (by omega) (by omega) (by omega);have e5:(5-((3-m:Nat):Int))=(m:Int)+1+1:=by omega
      rw [e5] at hb;rw [hop.2];have hlenA:=Gc f (.bin ((m:Int)+1+1) deep) ((tb q.1).drop (sgn (tb q.1)).length,p.2);generalize pP f (.bin ((m:Int)+1+1) deep) ((tb q.1).drop (sgn (tb q.1)).length,p.2)=A at hb hlenA⊢;generalize hBB:sP g (.row ((m:Int)+1+1)) ((tb q.1).drop (DL (EO (tb q.1))).size,q.2)=B at hb ht;rcases hb with ⟨b1,b2,b3⟩|⟨b1,b2⟩
      ·rw [b1];have hs:=Ix (x:=ndK 5 (EO (tb q.1)) [a,B.1]) b2;generalize hC:If (ndK 5 (EO (tb q.1)) [a,B.1]) A.2=C at hs⊢;generalize F6 (ndK 5 (EO (tb q.1)) [a,B.1]) B.2=D at hs ht;rcases hs with ⟨c1,c2⟩|⟨c1,c2⟩
       ·have hrC:C.2.1=A.2.1:=by rw [<-hC];exact Dd _ _
        have hN3:(tb C.2.1).length<N:=by
         rw [hrC];exact Nat.lt_of_le_of_lt hlenA hdrop
        refine hT _ hN3 (m+1) hm C.2 D.2 deep least C.1 f res c2 rfl hle hd (by omega) (by omega) ?_ ?_
        ·rw [hrC];rcases b3 with h|h
         ·exact .inl h
         ·right;push_cast;omega
        ·rw [c1];unfold JM;rw [if_neg hc];exact ⟨g,by omega,MJ (by omega) m ht⟩
       ·exact .inr ⟨LV _ (MH g _ _ c1) ht,Ey f _ _ c2⟩
      ·exact .inr ⟨LV _ (MH g _ _ (LU b1)) ht,Ey f _ _ (El b2)⟩
    ·rw [if_neg hop] at hin;rw [hin,if_pos rfl] at ho;rw [ho] at ht;simp only at ht;rw [if_pos trivial] at ht;refine ih (by omega) p (tb q.1,q.2) deep least a f res ⟨hl.1,hl.2.1,hl.2.2.1,by simp only;rw [FD];exact hpq⟩ hN hle hd hdN hf ?_ ht;rw [hpq];rw [hpq] at hpk;by_cases h0:EO (tb q.1)=0
     ·exact .inl h0
     ·right
      rcases hpk with h|h
      ·exact absurd h h0
      ·have:lvl (EO (tb q.1))≠(m:Int)+1:=λe=>hop ⟨h0,e⟩
       push_cast at h
       omega
theorem Rh (N:Nat) (hA:Rc N) (hT:∀M,M<=N->Re M):Q1 N:=by
 intro p q deep k f g hk hl hN hd hdN hf hg;obtain ⟨g5,hg5,ht⟩:=Px (G:=20*N+5) hl.2.1 k hk g (by omega);cases f with
 |zero=>omega
 |succ f=>
  simp only [pP];have ha:=hA p q deep f g5 hl hN hd hdN (by omega) hg5;have hlen:=Gc f (.un deep) p;generalize pP f (.un deep) p=A at ha hlen⊢;generalize sP g5 (.row 5) q=B at ha ht;rcases ha with ⟨h1,h2⟩|⟨h1,h2⟩
  ·have hM:(tb A.2.1).length<=N:=by omega
   refine hT _ hM 4 (by omega) A.2 B.2 deep (5-(k:Int)) A.1 f _ h2 rfl (by omega) hd (by omega) (by omega) (.inr ?_) ?_
   ·have:=(Qz (op:=EO (tb A.2.1))).2;omega
   ·rw [h1];exact MJ (by omega) 4 ht
  ·exact .inr ⟨LV 4 h1 ht,Ey f _ _ h2⟩
end Go.Proofs.Ytilkdjfhbahhdaa.KFnOpenedClosed

