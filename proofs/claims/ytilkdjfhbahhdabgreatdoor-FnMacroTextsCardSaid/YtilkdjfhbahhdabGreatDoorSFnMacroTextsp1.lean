import Derived.Test.YtilkdjfhbahhdabGreatDoorTFnMacroTexts
import Derived.Test.YtilkdjfhbahhdabGreatDoorE32
import Derived.Lib.Strings
namespace Go.Proofs.YtilkdjfhbahhdabGreatDoor.KFnMacroTexts
open Go.Eng
set_option linter.unusedVariables false
set_option linter.unusedSimpArgs false
abbrev zao:= @Go.Lib.toList_data
def Ev {R:Type} (F:Nat->Option R) (r:R):Prop:=∃n0,∀n,n0<=n->F n=some r
theorem EA (s:BA):s.toList.length=s.size:=by rw [zao];rfl
theorem qy:(ByteArray.mk #[]).toList= []:=by decide+kernel
theorem ql {x:Int} (h: -9223372036854775808<=x/\x<=9223372036854775807):IntKind.i64.wrap x=x:=by
 unfold IntKind.wrap;have e1:(2:Int)^(64-1)=9223372036854775808:=by decide
 have e2:(2:Int)^64=18446744073709551616:=by decide
 simp only [IntKind.signed,IntKind.bits,Bool.true_and,aG,e1,e2];split<;>omega
theorem Uw (x:Int): -9223372036854775808<=IntKind.i64.wrap x/\IntKind.i64.wrap x<=9223372036854775807:=by
 unfold IntKind.wrap;have e1:(2:Int)^(64-1)=9223372036854775808:=by decide
 have e2:(2:Int)^64=18446744073709551616:=by decide
 simp only [IntKind.signed,IntKind.bits,Bool.true_and,aG,e1,e2];split<;>omega
theorem Xx {s:BA} {i:Nat} (h:i<s.size):∃c,s.toList[i]?=some c:=⟨_,zh (by rw [EA];exact h)⟩
theorem KD {α:Type} {s:List α} {i:Nat} {c:α} (h:s[i]?=some c):s.drop i=c::s.drop (i+1):=by
 obtain ⟨h1,rfl⟩:=zamJ.1 h;exact List.drop_eq_getElem_cons h1
theorem qm {V R:Type} {B:V->Tr (V⊕R)} {m:Nat} {v v':V} (h:(B v).run=some (.inl v')):zF B (m+1) v=zF B m v':=by simp only [zF,h]
theorem qe {V R:Type} {B:V->Tr (V⊕R)} {m:Nat} {v:V} {r:R} (h:(B v).run=some (.inr r)):zF B (m+1) v=some r:=by simp only [zF,h]
theorem up1 {n n0:Nat} (h:n0+1<=n):∃m,n=m+1/\n0<=m:=⟨n-1,by omega,by omega⟩
theorem qh {α:Type} (x:α):(Tr.done x).run=some x:=rfl
theorem de {α:Type}:(Tr.fail:Tr α).run=none:=rfl
theorem ii {α:Type} (b:Bool) (t f:Tr α):(Tr.ask b t f).run=if b=true then t.run else f.run:=by cases b<;>rfl
theorem ij {α β:Type} (o:Option β) (k:β->Tr α):(Tr.opt o k).run=o.bind λx=>(k x).run:=by cases o<;>rfl
theorem ik {α β γ:Type} (x:β) (k:β->Tr α) (l:γ->Tr α):(Tr.alt (.inl x) k l).run=(k x).run:=rfl
theorem im {α β γ:Type} (x:γ) (k:β->Tr α) (l:γ->Tr α):(Tr.alt (.inr x) k l).run=(l x).run:=rfl
theorem FJ {α R:Type} {F:α->Nat->Option R} {f:α->R}:∀(l:List α),(∀c∈l,Ev (F c) (f c))->∃n0,∀n,n0<=n->∀c∈l,F c n=some (f c)
 | [],_=>⟨0,λn _ c hc=>by cases hc⟩
 |a::l,h=>by
  obtain ⟨n1,h1⟩:=h a (zamN ..);obtain ⟨n2,h2⟩:=FJ l λc hc=>h c (zamR _ hc)
  exact ⟨n1+n2,λn hn c hc=>by
   rcases zamT.1 hc with rfl|hc
   ·exact h1 n (by omega)
   ·exact h2 n (by omega) c hc⟩
theorem t8 {R:Type} {B:RW×RW×Int->Tr ((RW×RW×Int)⊕R)} {rows:RW} {r:R}
  (hs:∀(i:Nat) (e:List PV),rows[i]?=some e->(B (rows,rows,(i:Int))).run=some (.inl (rows,rows,((i+1:Nat):Int)))) (he:(B (rows,rows,(rows.length:Int))).run=some (.inr r)):
  ∀(m i M:Nat),rows.length=i+m->m+1<=M->zF B M (rows,rows,(i:Int))=some r
 |m,i,0,h1,h2=>by omega
 |0,i,M+1,h1,h2=>by
  have hi:i=rows.length:=by omega
  subst hi;rw [qe he]
 |m+1,i,M+1,h1,h2=>by
  have hg:=zh (l:=rows) (i:=i) (by omega);rw [qm (hs i _ hg)];exact t8 hs he m (i+1) M (by omega) (by omega)
theorem qa {α β:Type} {o:Option β} {x:β} {k:β->Tr α} {y:Option α} (h:o=some x) (h2:(k x).run=y):(Tr.opt o k).run=y:=by rw [h];exact h2
theorem qb {α:Type} {b:Bool} {t f:Tr α} {y:Option α} (h:b=true) (h2:t.run=y):(Tr.ask b t f).run=y:=by rw [h];exact h2
theorem qc {α:Type} {b:Bool} {t f:Tr α} {y:Option α} (h:b=false) (h2:f.run=y):(Tr.ask b t f).run=y:=by rw [h];exact h2
theorem Qy (b:Bool):cI (⟨(.c (.p (.b b))),[],[]⟩:Res)=true:=rfl
theorem io (x:Int):cI (⟨(.c (.p (.i .i64 x))),[],[]⟩:Res)=true:=rfl
theorem Yh (x:BA):cI (⟨(.c (.p (.s x))),[],[]⟩:Res)=true:=rfl
abbrev qj:=And.intro @qh (And.intro @de (And.intro @ii (And.intro @ij (And.intro @ik (And.intro @im (And.intro @aN.{0,0} (And.intro @Qy (And.intro @io (@Yh)))))))))
theorem G2 (x lo hi:Int):Ev (FN · x lo hi) (decide (lo<=x/\x<=hi)):=by
 refine ⟨1,λn hn=>?_⟩;obtain ⟨m,rfl,hm⟩:=up1 hn;simp only [FN,NF,qj];by_cases h:x≥lo<;>simp [h]
theorem Eb (x lo hi:Int):Ev (Eh · x lo hi) (decide (lo<=x/\x<=hi)):=by
 refine ⟨1,λn hn=>?_⟩;obtain ⟨m,rfl,hm⟩:=up1 hn;simp only [Eh,Nv,qj];by_cases h:x≥lo<;>simp [h]
def okc (c:UInt8):Bool:=decide (32<=c.toNat/\c.toNat<=126)
def FT (s:BA) (most:Int):Bool:=s.toList.all okc&&decide ((s.size:Int)<=most)
def okV (k n:Int) (s:BA):Bool:=
 if k=2 then decide (n=0)&&FT s 200 else (s.toList== [])&&(if k=0 then decide (n=0) else if k=1 then decide (-1000000000000000<=n/\n<=1000000000000000) else if k=3 then decide (0<=n/\n<=1) else if k=4 then decide (1<=n/\n<=5) else false)
theorem TU (n:Nat) (s:BA) (hb:s.size<=140737488355328):∀(m i M:Nat),s.size=i+m->m+1<=M->
  zF (F6 n) M (s,(i:Int))=some (if (s.toList.drop i).all okc then .inr s else .inl false)
 |m,i,0,h1,h2=>by omega
 |0,i,M+1,h1,h2=>by
  rw [qe (r:= .inr s) (by simp [F6,qj,show ¬((i:Int)<s.size) by omega])];rw [List.drop_eq_nil_of_le (by rw [EA];omega)];rfl
 |m+1,i,M+1,h1,h2=>by
  obtain ⟨c,hc⟩:=Xx (s:=s) (i:=i) (by omega);have hi:(i:Int)<s.size:=by omega
  rw [KD hc];by_cases c1:(c.toNat:Int)<32
  ·rw [qe (r:= .inl false) (by simp [F6,qj,hi,hc,c1])];have:okc c=false:=by simp [okc];omega
   simp [this]
  ·by_cases c2:(c.toNat:Int)>126
   ·rw [qe (r:= .inl false) (by simp [F6,qj,hi,hc,c1,c2])];have:okc c=false:=by simp [okc];omega
    simp [this]
   ·have hw:IntKind.i64.wrap ((i:Int)+1)=((i+1:Nat):Int):=by rw [ql (by omega)];omega
    rw [qm (v':=(s,((i+1:Nat):Int))) (by simp [F6,qj,hi,hc,c1,c2,hw])];rw [TU n s hb m (i+1) M (by omega) (by omega)];have:okc c=true:=by simp [okc];omega
    simp [this]
theorem OX (s:BA) (hb:s.size<=140737488355328):Ev (HD · s) (FT s 200):=by
 refine ⟨s.size+2,λn hn=>?_⟩;obtain ⟨m,rfl,hm⟩:=up1 hn;have h:=TU m s hb s.size 0 m (by omega) (by omega);simp only [HD,MO,qj];simp only [Int.natCast_zero,List.drop_zero] at h;rw [h];cases hc:s.toList.all okc<;>simp [qj,FT,hc]
theorem Pi (s:BA) (hb:s.size<=140737488351232):Ev (HD · s) (FT s 200):=OX s (by omega)
theorem VK (n:Nat) (s:BA) (y:Int) (hb:s.size<=140737488355328):∀(m i M:Nat),s.size=i+m->m+1<=M->
  zF (GP n) M (s,y,(s.size:Int),(i:Int))=some (if (s.toList.drop i).all okc then .inr (s,y) else .inl false)
 |m,i,0,h1,h2=>by omega
 |0,i,M+1,h1,h2=>by
  rw [qe (r:= .inr (s,y)) (by simp [GP,qj,show ¬((i:Int)<s.size) by omega])];rw [List.drop_eq_nil_of_le (by rw [EA];omega)];rfl
 |m+1,i,M+1,h1,h2=>by
  obtain ⟨c,hc⟩:=Xx (s:=s) (i:=i) (by omega);have hi:(i:Int)<s.size:=by omega
  rw [KD hc];by_cases c1:(c.toNat:Int)<32
  ·rw [qe (r:= .inl false) (by simp [GP,qj,hi,hc,c1])];have:okc c=false:=by simp [okc];omega
   simp [this]
  ·by_cases c2:(c.toNat:Int)>126
   ·rw [qe (r:= .inl false) (by simp [GP,qj,hi,hc,c1,c2])];have:okc c=false:=by simp [okc];omega
    simp [this]
   ·have hw:IntKind.i64.wrap ((i:Int)+1)=((i+1:Nat):Int):=by rw [ql (by omega)];omega
    rw [qm (v':=(s,y,(s.size:Int),((i+1:Nat):Int))) (by simp [GP,qj,hi,hc,c1,c2,hw])];rw [VK n s y hb m (i+1) M (by omega) (by omega)];have:okc c=true:=by simp [okc];omega
    simp [this]
theorem Pj (s:BA) (y:Int) (hb:s.size<=140737488355328):Ev (Ht · s y) (FT s y):=by
 refine ⟨s.size+2,λn hn=>?_⟩;obtain ⟨m,rfl,hm⟩:=up1 hn;have h:=VK m s y hb s.size 0 m (by omega) (by omega);simp only [Ht,Nw,qj];simp only [Int.natCast_zero,List.drop_zero] at h;rw [h];cases hc:s.toList.all okc<;>simp [qj,FT,hc]
theorem Qf (s:BA) (y:Int) (hb:s.size<=140737488351232):Ev (Ht · s y) (FT s y):=Pj s y (by omega)
theorem ES (k x:Int) (s:BA) (hb:s.size<=140737488351232):Ev (En · k x s) (okV k x s):=by
 obtain ⟨n1,h1⟩:=G2 x (-1000000000000000) 1000000000000000;obtain ⟨n2,h2⟩:=G2 x 0 1;obtain ⟨n3,h3⟩:=G2 x 1 5;obtain ⟨n4,h4⟩:=Pi s hb;refine ⟨n1+n2+n3+n4+1,λn hn=>?_⟩;obtain ⟨m,rfl,hm⟩:=up1 hn;have h1:=h1 m (by omega);dsimp only at h1;have h2:=h2 m (by omega);dsimp only at h2;have h3:=h3 m (by omega);dsimp only at h3;have h4:=h4 m (by omega);dsimp only at h4;simp only [En,MQ,Io,qj,h1,h2,h3,h4];simp only [okV,qy];by_cases k2:k=2
 ·subst k2;by_cases x0:x=0<;>simp [x0]
 ·by_cases k0:k=0
  ·subst k0;by_cases x0:x=0<;>simp [x0]
  ·by_cases k1:k=1
   ·subst k1;by_cases hx: -1000000000000000<=x/\x<=1000000000000000<;>simp [hx]
   ·by_cases k3:k=3
    ·subst k3;by_cases hx:0<=x/\x<=1<;>simp [hx]
    ·by_cases k4:k=4
     ·subst k4;by_cases hx:1<=x/\x<=5<;>simp [hx]
     ·simp [k0,k1,k2,k3,k4]
theorem Lw (k x:Int) (s:BA) (hb:s.size<=140737488351232):Ev (Fp · k x s) (okV k x s):=by
 obtain ⟨n1,h1⟩:=Eb x (-1000000000000000) 1000000000000000;obtain ⟨n2,h2⟩:=Eb x 0 1;obtain ⟨n3,h3⟩:=Eb x 1 5;obtain ⟨n4,h4⟩:=Qf s 200 hb;refine ⟨n1+n2+n3+n4+1,λn hn=>?_⟩;obtain ⟨m,rfl,hm⟩:=up1 hn;have h1:=h1 m (by omega);dsimp only at h1;have h2:=h2 m (by omega);dsimp only at h2;have h3:=h3 m (by omega);dsimp only at h3;have h4:=h4 m (by omega);dsimp only at h4;simp only [Fp,Mk,qj,h1,h2,h3,h4];simp only [okV,qy];by_cases k2:k=2
 ·subst k2;by_cases x0:x=0<;>simp [x0]
 ·by_cases he:s.toList= []
  ·by_cases k0:k=0
   ·subst k0;by_cases x0:x=0<;>simp [x0,he]
   ·by_cases k1:k=1
    ·subst k1;simp [he]
    ·by_cases k3:k=3
     ·subst k3;simp [he]
     ·by_cases k4:k=4
      ·subst k4;simp [he]
      ·simp [k0,k1,k2,k3,k4,he]
  ·simp [k2,he]
abbrev V3:=Int×Int×BA
def em:BA:=⟨#[]⟩
theorem V6 (x:Int):Ev (H8 · x) (4,x,em):=by
 refine ⟨1,λn hn=>?_⟩;obtain ⟨m,rfl,hm⟩:=up1 hn;simp only [H8,MS,qj];rfl
theorem Rs (x:Int):Ev (Ge · x) (4,x,em):=by
 refine ⟨1,λn hn=>?_⟩;obtain ⟨m,rfl,hm⟩:=up1 hn;simp only [Ge,Ow,qj];rfl
theorem Qg (x:Int):Ev (Ih · x) (1,x,em):=by
 refine ⟨1,λn hn=>?_⟩;obtain ⟨m,rfl,hm⟩:=up1 hn;simp only [Ih,Nx,qj];rfl
def Ef (c r:Int):Bool:=decide (1<=c/\c<=52)&&decide (1<=r/\r<=99)
def J7 (a b c d:Int):Bool:=Ef a b&&Ef c d&&decide (a<=c)&&decide (b<=d)
theorem Hu (c r:Int):Ev (FQ · c r) (Ef c r):=by
 obtain ⟨n1,h1⟩:=G2 c 1 52;obtain ⟨n2,h2⟩:=G2 r 1 99;refine ⟨n1+n2+1,λn hn=>?_⟩;obtain ⟨m,rfl,hm⟩:=up1 hn;have h1:=h1 m (by omega);dsimp only at h1;have h2:=h2 m (by omega);dsimp only at h2;simp only [FQ,Oo,qj,h1,h2];unfold Ef;cases decide (1<=c/\c<=52)<;>simp
theorem Hw (c r:Int):Ev (Gc · c r) (Ef c r):=by
 obtain ⟨n1,h1⟩:=Eb c 1 52;obtain ⟨n2,h2⟩:=Eb r 1 99;refine ⟨n1+n2+1,λn hn=>?_⟩;obtain ⟨m,rfl,hm⟩:=up1 hn;have h1:=h1 m (by omega);dsimp only at h1;have h2:=h2 m (by omega);dsimp only at h2;simp only [Gc,Ot,qj,h1,h2];unfold Ef;cases decide (1<=c/\c<=52)<;>simp
theorem Wv (a b c d:Int):Ev (LP · a b c d) (J7 a b c d):=by
 obtain ⟨n1,h1⟩:=Hu a b;obtain ⟨n2,h2⟩:=Hu c d;refine ⟨n1+n2+1,λn hn=>?_⟩;obtain ⟨m,rfl,hm⟩:=up1 hn;have h1:=h1 m (by omega);dsimp only at h1;have h2:=h2 m (by omega);dsimp only at h2;simp only [LP,Nm,qj,h1,h2];unfold J7;cases Ef a b<;>cases Ef c d<;>by_cases h:a<=c<;>simp [h]
theorem Qh (a b c d:Int):Ev (Jh · a b c d) (J7 a b c d):=by
 obtain ⟨n1,h1⟩:=Hw a b;obtain ⟨n2,h2⟩:=Hw c d;refine ⟨n1+n2+1,λn hn=>?_⟩;obtain ⟨m,rfl,hm⟩:=up1 hn;have h1:=h1 m (by omega);dsimp only at h1;have h2:=h2 m (by omega);dsimp only at h2;simp only [Jh,N2,qj,h1,h2];unfold J7;cases Ef a b<;>cases Ef c d<;>by_cases h:a<=c<;>simp [h]
def oj (x y:Int):Int:=if x<y then-1 else if x>y then 1 else 0
def rj (x y:BA):Int:=if Op.bytesLess x.toList y.toList=true then-1 else if x.toList=y.toList then 0 else 1
def u0:List Int->Int
 | []=>0
 |x::r=>if x≠0 then x else u0 r
def rk (k x:Int) (s:BA) (k' x':Int) (s':BA):Int:=u0 [oj k k',oj x x',rj s s']
theorem Rt (b:Bool):Ev (Ka · b) (3,if b=true then 1 else 0,em):=by
 refine ⟨1,λn hn=>?_⟩;obtain ⟨m,rfl,hm⟩:=up1 hn;simp only [Ka,Ox,qj];cases b<;>rfl
def ol (op o:Int):Bool:=if op=6 then o==0 else if op=7 then o !=0 else if op=8 then decide (o<0) else if op=9 then decide (o<=0) else if op=10 then decide (o>0) else decide (o≥0)
def rh (op k x:Int) (s:BA) (k' x':Int) (s':BA):Int×Int×BA:=
 if okV k x s=true/\okV k' x' s'=true/\6<=op/\op<=11 then
  (if k=4 then (k,x,s) else if k'=4 then (k',x',s') else (3,if ol op (rk (if k=0 then k' else k) x s (if k'=0 then k else k') x' s')=true then 1 else 0,em))
 else (4,2,em)
theorem Gp {R:Type} {F:Nat->Option R} {r:R} {k:Nat} (h:∀n,k<=n->F n=some r):Ev F r:=⟨k,h⟩
theorem wf8 {x:Int} (h:(Lit.int .u8 x).wf=true):0<=x/\x<=255:=by
 simp only [Lit.wf,zL,aG] at h;have h1:IntKind.u8.min=0:=by decide
 have h2:IntKind.u8.max=255:=by decide
 omega
theorem om {x:Int} (h:0<=x/\x<=18446744073709551615):IntKind.u64.wrap x=x:=by
 unfold IntKind.wrap;have e2:(2:Int)^64=18446744073709551616:=by decide
 simp only [IntKind.signed,IntKind.bits,Bool.false_and,dO,if_false,e2];omega
def Lx (l:RW):Prop:=l.length<=1048576/\∀e∈l,∃b:Int,e= [.i .u8 b]/\0<=b/\b<=255
theorem ip {l:RW} (w:∀r∈l,okR [.i .u8] r) (h:¬(l.length:Int)>1048576):Lx l:=by
 refine ⟨by omega,λe he=>?_⟩;obtain ⟨x,r,rfl,h1,h2⟩:=tY (w e he);obtain ⟨n,rfl,h3⟩:=Dr h1;obtain rfl:=xM h2;exact ⟨n,rfl,wf8 h3⟩
theorem ZH (l:RW):Ev (Om · l) (decide ((l.length:Int)>1048576)):=by
 refine ⟨1,λn hn=>?_⟩;obtain ⟨m,rfl,hm⟩:=up1 hn;simp only [Om,Rz,qj]
theorem u6 (l:RW):∀n,1<=n->Jf n l=some (l,0):=λn hn=>by
 obtain ⟨m,rfl,_⟩:=up1 hn;simp [Jf,Nk,qj]
theorem Yi {l:RW} {p:Int} (hl:Lx l) (hp:0<=p/\p<=l.length):∃(a p':Int),(0<=p'/\p'<=l.length)/\(0<=a/\a<=255)/\∀n,1<=n->Fy n l p=some (a,l,p'):=by
 have h1:=hl.1;by_cases h:p≥l.length
 ·refine ⟨0,p,hp,by decide,λn hn=>?_⟩;obtain ⟨m,rfl,_⟩:=up1 hn;simp [Fy,JB,qj,h]
 ·have hlt:p.toNat<l.length:=by omega
  obtain ⟨b,hb,b0,b1⟩:=hl.2 _ (List.getElem_mem hlt);have hg:l[p.toNat]?=some [.i .u8 b]:=by rw [zh hlt,hb]
  refine ⟨b,p+1,by omega,⟨b0,b1⟩,λn hn=>?_⟩;obtain ⟨m,rfl,_⟩:=up1 hn;have w1:IntKind.i64.wrap (p+1)=p+1:=ql (by omega);have w2:IntKind.i64.wrap p=p:=ql (by omega);have w3:IntKind.i64.wrap b=b:=ql (by omega);have hp2:p<l.length:=by omega
  simp [Fy,JB,qj,h,w1,w2,w3,hp.1,hp2,hg,hb,zI]
theorem FC {l:RW} {p:Int} (k:Int) (hk:1<k/\k<=1000000) (hl:Lx l) (hp:0<=p/\p<=l.length):∃(a p':Int),(0<=p'/\p'<=l.length)/\(0<=a/\a<k)/\∀n,2<=n->qd n k l p=some (a,l,p'):=by
 obtain ⟨a,p',h1,h2,h3⟩:=Yi hl hp;have k1:¬k<=1:=by omega
 have k3:¬k=0:=by omega
 by_cases k2:k<=256
 ·have e:Int.tmod a k=a%k:=Int.tmod_eq_emod_of_nonneg h2.1;refine ⟨a%k,p',h1,⟨Int.emod_nonneg a (by omega),Int.emod_lt_of_pos a (by omega)⟩,λn hn=>?_⟩;obtain ⟨m,rfl,hm⟩:=up1 hn;have h3:=h3 m (by omega);simp [qd,HW,qj,h3,k1,k2,k3,e]
 ·obtain ⟨b,p2,g1,g2,g3⟩:=Yi hl h1;have w1:IntKind.i64.wrap (a*256)=a*256:=ql (by omega);have w2:IntKind.i64.wrap (a*256+b)=a*256+b:=ql (by omega);have e:Int.tmod (a*256+b) k=(a*256+b)%k:=Int.tmod_eq_emod_of_nonneg (by omega);refine ⟨(a*256+b)%k,p2,g1,⟨Int.emod_nonneg _ (by omega),Int.emod_lt_of_pos _ (by omega)⟩,λn hn=>?_⟩;obtain ⟨m,rfl,hm⟩:=up1 hn;have h3:=h3 m (by omega);have g3:=g3 m (by omega);simp [qd,HW,qj,h3,g3,k1,k2,k3,e,w1,w2]
theorem O8 {l:RW} {p:Int} (k:Int) (hk:1<k/\k<=1000000) (hl:Lx l) (hp:0<=p/\p<=l.length):∃(b:Bool) (p':Int),(0<=p'/\p'<=l.length)/\∀n,3<=n->EC n k l p=some (b,l,p'):=by
 obtain ⟨a,p',h1,h2,h3⟩:=FC k hk hl hp;refine ⟨a==IntKind.i64.wrap (k-1),p',h1,λn hn=>?_⟩;obtain ⟨m,rfl,hm⟩:=up1 hn;have h3:=h3 m (by omega);simp [EC,K1,qj,h3]
theorem Xy {l:RW} (hl:Lx l):∀(m:Nat) (i:Nat) (v p:Int),i+m=8->(0<=p/\p<=l.length)->∃(r p':Int),(0<=p'/\p'<=l.length)/\∀n M,1<=n->m+1<=M->zF (Gu n) M (v,(i:Int),l,p)=some (r,l,p')
 |0,i,v,p,h,hp=>by
  refine ⟨v,p,hp,λn M hn hM=>?_⟩;obtain ⟨M,rfl⟩:∃q,M=q+1:=⟨M-1,by omega⟩;have hi:¬(i:Int)<8:=by omega
  rw [qe (r:=(v,l,p)) (by simp [Gu,qj,hi])]
 |m+1,i,v,p,h,hp=>by
  obtain ⟨a,p1,h1,h2,h3⟩:=Yi hl hp;obtain ⟨r,p2,h4,h5⟩:=Xy hl m (i+1) (IntKind.u64.wrap ((BitVec.ofInt IntKind.u64.bits (IntKind.u64.wrap (v*(2:Int)^(8:Nat)))|||BitVec.ofInt IntKind.u64.bits (IntKind.u64.wrap a)).toNat:Int)) p1 (by omega) h1;refine ⟨r,p2,h4,λn M hn hM=>?_⟩;obtain ⟨M,rfl⟩:∃q,M=q+1:=⟨M-1,by omega⟩;have hi:(i:Int)<8:=by omega
  have w1:IntKind.i64.wrap ((i:Int)+1)=((i+1:Nat):Int):=by rw [ql (by omega)];omega
  have h3:=h3 n hn;rw [qm (v':=(IntKind.u64.wrap ((BitVec.ofInt IntKind.u64.bits (IntKind.u64.wrap (v*(2:Int)^(8:Nat)))|||BitVec.ofInt IntKind.u64.bits (IntKind.u64.wrap a)).toNat:Int),((i+1:Nat):Int),l,p1)) (by
   simp only [Gu,qj,h3,w1];rw [if_pos (by simpa using hi)])]
  exact h5 n M hn (by omega)
theorem iq {l:RW} {p:Int} (hl:Lx l) (hp:0<=p/\p<=l.length):∃(r p':Int),(0<=p'/\p'<=l.length)/\∀n,10<=n->JF n l p=some (r,l,p'):=by
 obtain ⟨r,p',h1,h2⟩:=Xy hl 8 0 0 p rfl hp;refine ⟨r,p',h1,λn hn=>?_⟩;obtain ⟨m,rfl,hm⟩:=up1 hn;have h2:=h2 m m (by omega) (by omega);simp only [Int.natCast_zero] at h2;simp only [JF,K2,qj,h2]
theorem ir {l:RW} {p:Int} (lo hi:Int) (hk: -1000<=lo/\lo<=hi/\hi<=1000) (hl:Lx l) (hp:0<=p/\p<=l.length):∃(x p':Int),(0<=p'/\p'<=l.length)/\(-9223372036854775808<=x/\x<=9223372036854775807)/\∀n,11<=n->G8 n lo hi l p=some (x,l,p'):=by
 obtain ⟨a,p1,h1,h2,h3⟩:=FC 8 (by decide) hl hp;by_cases a0:a=0
 ·refine ⟨lo,p1,h1,by omega,λn hn=>?_⟩;obtain ⟨m,rfl,hm⟩:=up1 hn;have h3:=h3 m (by omega);simp [G8,H6,qj,h3,a0]
 ·by_cases a1:a=1
  ·refine ⟨hi,p1,h1,by omega,λn hn=>?_⟩;obtain ⟨m,rfl,hm⟩:=up1 hn;have h3:=h3 m (by omega);simp [G8,H6,qj,h3,a1]
  ·obtain ⟨r,p2,h4,h5⟩:=iq hl h1;refine ⟨_,p2,h4,Uw (lo+IntKind.i64.wrap (Int.tmod (Int.fdiv r ((2:Int)^(1:Nat))) (IntKind.u64.wrap (IntKind.i64.wrap (IntKind.i64.wrap (hi-lo)+1))))),λn hn=>?_⟩;obtain ⟨m,rfl,hm⟩:=up1 hn;have h3:=h3 m (by omega);have h5:=h5 m (by omega);have c1:¬hi<lo:=by omega
   have w1:IntKind.i64.wrap (hi-lo)=hi-lo:=ql (by omega);have w2:IntKind.i64.wrap (hi-lo+1)=hi-lo+1:=ql (by omega);have w3:IntKind.u64.wrap (hi-lo+1)=hi-lo+1:=om (by omega);have w4:¬hi-lo+1=0:=by omega
   simp only [G8,H6,qj,h3,h5,w1,w2,w3];simp [a0,a1,c1,w4]
theorem mj {l:RW} {p:Int} (lo hi:Int) (hk: -1000<=lo/\lo<=hi/\hi<=1000) (hl:Lx l) (hp:0<=p/\p<=l.length):∃(x p':Int),(0<=p'/\p'<=l.length)/\(-9223372036854775808<=x/\x<=9223372036854775807)/\∀n,12<=n->GG n lo hi l p=some (x,l,p'):=by
 obtain ⟨b,p1,h1,h2⟩:=O8 24 (by decide) hl hp;cases b with
 |true=>
  obtain ⟨a,p2,h3,h4,h5⟩:=FC 4 (by decide) hl h1;have c:a=0\/a=1\/a=2\/a=3:=by omega
  rcases c with rfl|rfl|rfl|rfl
  ·refine ⟨IntKind.i64.wrap (lo-1),p2,h3,Uw _,λn hn=>?_⟩;obtain ⟨m,rfl,hm⟩:=up1 hn;have h2:=h2 m (by omega);have h5:=h5 m (by omega);simp [GG,Gr,qj,h2,h5,zI]
  ·refine ⟨IntKind.i64.wrap (hi+1),p2,h3,Uw _,λn hn=>?_⟩;obtain ⟨m,rfl,hm⟩:=up1 hn;have h2:=h2 m (by omega);have h5:=h5 m (by omega);simp [GG,Gr,qj,h2,h5,zI]
  ·refine ⟨-9223372036854775808,p2,h3,by decide,λn hn=>?_⟩;obtain ⟨m,rfl,hm⟩:=up1 hn;have h2:=h2 m (by omega);have h5:=h5 m (by omega);simp [GG,Gr,qj,h2,h5,zI]
  ·refine ⟨9223372036854775807,p2,h3,by decide,λn hn=>?_⟩;obtain ⟨m,rfl,hm⟩:=up1 hn;have h2:=h2 m (by omega);have h5:=h5 m (by omega);simp [GG,Gr,qj,h2,h5,zI]
 |false=>
  obtain ⟨x,p2,h3,h4,h5⟩:=ir lo hi hk hl h1;refine ⟨x,p2,h3,h4,λn hn=>?_⟩;obtain ⟨m,rfl,hm⟩:=up1 hn;have h2:=h2 m (by omega);have h5:=h5 m (by omega);simp [GG,Gr,qj,h2,h5]
theorem Xz {a b c d:Int} (h:J7 a b c d=true):(1<=a/\a<=52)/\(1<=b/\b<=99)/\(1<=c/\c<=52)/\(1<=d/\d<=99)/\a<=c/\b<=d:=by
 simp only [J7,Ef,zL,aG] at h;obtain ⟨⟨⟨⟨h1,h2⟩,h3,h4⟩,h5⟩,h6⟩:=h;exact ⟨h1,h2,h3,h4,h5,h6⟩
theorem Sc {l:RW} {p:Int} (hl:Lx l) (hp:0<=p/\p<=l.length):∃(a b p':Int),(0<=p'/\p'<=l.length)/\∀n,3<=n->EE n l p=some (a,b,l,p'):=by
 obtain ⟨a,p1,h1,h2,h3⟩:=FC 3 (by decide) hl hp;obtain ⟨b,p2,h4,h5,h6⟩:=FC 4 (by decide) hl h1;refine ⟨IntKind.i64.wrap (1+a),IntKind.i64.wrap (1+b),p2,h4,λn hn=>?_⟩;obtain ⟨m,rfl,hm⟩:=up1 hn;have h3:=h3 m (by omega);have h6:=h6 m (by omega);simp [EE,Ll,qj,h3,h6]
theorem iu {l:RW} {p:Int} (hl:Lx l) (hp:0<=p/\p<=l.length):∃(a b c d p':Int),(0<=p'/\p'<=l.length)/\∀n,13<=n->G9 n l p=some (a,b,c,d,l,p'):=by
 obtain ⟨a,b,p1,h1,h2⟩:=Sc hl hp;obtain ⟨c,d,p2,h3,h4⟩:=Sc hl h1;obtain ⟨o,p3,h5,h6⟩:=O8 20 (by decide) hl h3;cases o with
 |true=>
  obtain ⟨x,p4,h7,_,h8⟩:=mj 1 99 (by decide) hl h5;refine ⟨(if c<a then c else a),(if d<b then d else b),(if c>a then c else a),x,p4,h7,λn hn=>?_⟩;obtain ⟨m,rfl,hm⟩:=up1 hn;have h2:=h2 m (by omega);have h4:=h4 m (by omega);have h6:=h6 m (by omega);have h8:=h8 m (by omega);simp [G9,JG,qj,h2,h4,h6,h8]
 |false=>
  refine ⟨(if c<a then c else a),(if d<b then d else b),(if c>a then c else a),(if d>b then d else b),p3,h5,λn hn=>?_⟩;obtain ⟨m,rfl,hm⟩:=up1 hn;have h2:=h2 m (by omega);have h4:=h4 m (by omega);have h6:=h6 m (by omega);simp [G9,JG,qj,h2,h4,h6]
def Gk (x:Int):BA:=⟨(Lib.itoa x).toArray⟩
theorem IM (a b:BA):(a++b).data.toList=a.data.toList++b.data.toList:=by
 rw [ByteArray.data_append,Array.toList_append]
theorem NT {a b:BA} (h:a.data.toList=b.data.toList):a=b:=by
 cases a;cases b
 congr 1
 exact Array.toList_inj.1 h
theorem HU {a b:BA} (h:a.toList=b.toList):a=b:=NT (by rw [<-zao,<-zao];exact h)
theorem H3 (a:BA):a.size=a.data.toList.length:=by rw [Array.length_toList];rfl
theorem u8w {q:Nat} (h:q<10):IntKind.u8.wrap (IntKind.i64.wrap (48+(q:Int)))=((48+q:Nat):Int):=by
 rw [ql (by omega)];unfold IntKind.wrap;have e2:(2:Int)^8=256:=by decide
 simp only [IntKind.signed,IntKind.bits,Bool.false_and,dO,if_false,e2];omega
theorem lw:∀(k v:Nat),1<=v->v<10^k->Lib.nDigits v<=k:=by
 intro k
 induction k with
 |zero=>intro v hv hv';simp at hv';omega
 |succ k ih=>
  intro v hv hv';by_cases h10:v<10
  ·rw [Lib.nDigits_small h10];omega
  ·rw [Lib.nDigits_big h10];have:=ih (v/10) (by omega) (by rw [Nat.pow_succ] at hv';omega);omega
theorem NU (u:Nat) (h:u<=1000000000000000000):(Lib.decDigits u).length<=19:=by
 have p:(10:Nat)^19=10000000000000000000:=by decide
 rw [Lib.decDigits_length];rcases Nat.lt_or_ge u 1 with h6|h6
 ·have:u=0:=by omega
  subst this;rw [Lib.nDigits_small (by decide)]
  decide
 ·exact lw 19 u h6 (by omega)
def qq (x:Int):BA:=if x=1 then ⟨#[35,68,73,86,33]⟩ else if x=2 then ⟨#[35,84,89,80,69,33]⟩ else if x=3 then ⟨#[35,82,69,70,33]⟩ else if x=4 then ⟨#[35,79,86,69,82,33]⟩ else if x=5 then ⟨#[35,67,89,67,76,69,33]⟩ else ⟨#[]⟩
theorem lt6 {x:Int} (h:0<=x/\x<=5):x=0\/x=1\/x=2\/x=3\/x=4\/x=5:=by omega
def ZI (x:Int):BA:=if x=1 then ⟨#[84,82,85,69]⟩ else ⟨#[70,65,76,83,69]⟩
theorem u7 {x:Int} {s:BA} (h:okV 1 x s=true): -1000000000000000<=x/\x<=1000000000000000:=by
 simp [okV] at h;exact h.2
theorem TV {x:Int} {s:BA} (h:okV 2 x s=true):x=0/\(s.size:Int)<=200/\s.toList.all okc=true:=by
 simp only [okV,FT,if_true,zL,aG] at h;exact ⟨h.1,h.2.2,h.2.1⟩
theorem X0 {x:Int} {s:BA} (h:okV 3 x s=true):0<=x/\x<=1:=by
 simp [okV] at h;exact h.2
theorem X1 {x:Int} {s:BA} (h:okV 4 x s=true):1<=x/\x<=5:=by
 simp [okV] at h;exact h.2
def EN (k x:Int) (s:BA):BA:=if k=1 then Gk x else if k=2 then ⟨#[39]⟩++s else if k=3 then ZI x else if k=4 then qq x else ⟨#[]⟩
theorem HC {x:Int} (h: -1000000000000000000<=x/\x<=1000000000000000000):(Gk x).size<=20:=by
 rw [H3];show (Lib.itoa x).length<=20;unfold Lib.itoa;split
 ·have:=NU x.natAbs (by omega);simp;omega
 ·have:=NU x.toNat (by omega);omega
theorem c8 {k x:Int} {s:BA} (h:okV k x s=true):(EN k x s).size<=300:=by
 unfold EN;split
 ·rename_i k1;subst k1;have:=u7 h;have:=HC (x:=x) (by omega);omega
 ·split
  ·rename_i k2;subst k2;have:=TV h;rw [ze];show 1+s.size<=300;omega
  ·split
   ·unfold ZI;split<;>decide
   ·split
    ·unfold qq
     repeat' split
     all_goals decide
    ·decide
def GI (x:Int):BA:=if x<1\/x>52 then ⟨#[]⟩ else if x<=26 then ⟨#[UInt8.ofNat (64+x.toNat)]⟩ else ⟨#[65,UInt8.ofNat (65+(x.toNat-1)%26)]⟩
theorem Ux (x:Int):(GI x).size<=2:=by
 unfold GI;split
 ·decide
 ·split
  ·exact (show (1:Nat)<=2 by decide)
  ·exact (show (2:Nat)<=2 by decide)
theorem Yj {q:Int} (h:0<=q/\q<256):IntKind.u8.wrap q=q:=by
 unfold IntKind.wrap;have e2:(2:Int)^8=256:=by decide
 simp only [IntKind.signed,IntKind.bits,Bool.false_and,dO,if_false,e2];omega
def EF (c r:Int) (fc fr:Bool):BA:=if Ef c r=true then ⟨((if fc=true then [36] else [])++(GI c).data.toList++(if fr=true then [36] else [])++(Gk r).data.toList).toArray⟩ else ⟨#[]⟩
theorem Sd {x:Int} (h:1<=x/\x<=99):(Gk x).size<=20:=by
 rw [H3];show (Lib.itoa x).length<=20;unfold Lib.itoa;rw [if_neg (by omega)];have:=NU x.toNat (by omega);omega
theorem Ji {c r:Int} (h:Ef c r=true):(1<=c/\c<=52)/\(1<=r/\r<=99):=by
 simpa [Ef] using h
def Ej (c:UInt8):Bool:=decide (48<=c.toNat)&&decide (c.toNat<=57)
def E7 (acc:Nat) (l:LBy):Nat:=l.foldl (λa c=>a*10+(c.toNat-48)) acc
theorem My (acc:Nat):E7 acc []=acc:=rfl
theorem JL (acc:Nat) (c:UInt8) (r:LBy):E7 acc (c::r)=E7 (acc*10+(c.toNat-48)) r:=by simp only [E7,List.foldl_cons]
theorem ZJ (l:LBy) (acc:Nat) (c:UInt8):E7 acc (l++ [c])=E7 acc l*10+(c.toNat-48):=by
 simp only [E7,List.foldl_append,List.foldl_cons,List.foldl_nil]
theorem v6:∀(l:LBy) (acc:Nat),acc<=E7 acc l
 | [],acc=>by rw [My];exact zH _
 |c::r,acc=>by
  have h:=v6 r (acc*10+(c.toNat-48));have h2:acc<=acc*10+(c.toNat-48):=by omega
  rw [JL];exact zU h2 h
theorem Yk {d:Nat} (h:d<10):(UInt8.ofNat (48+d)).toNat=48+d:=by
 rw [UInt8.toNat_ofNat'];omega
theorem ZK {d:Nat} (h:d<10):Ej (UInt8.ofNat (48+d))=true:=by
 unfold Ej;rw [Yk h];simp;omega
theorem HV:∀u:Nat,(Lib.decDigits u).all Ej=true/\E7 0 (Lib.decDigits u)=u/\Lib.decDigits u≠ []/\(10<=u->(Lib.decDigits u).head?≠some 48)/\(1<=u->(Lib.decDigits u).head?≠some 48):=by
 intro u
 induction u using Nat.strongRecOn with
 |_ u ih=>
  by_cases h:u<10
  ·rw [Lib.decDigits,dif_pos h];have h1:∀k,1<=k->k<10->UInt8.ofNat (48+k)≠48:=λk hk hk' e=>by
    have:=congrArg UInt8.toNat e;rw [Yk hk'] at this;have h2:(48:UInt8).toNat=48:=rfl;omega
   refine ⟨by simp only [zanC,List.all_nil,ZK h,Bool.and_true],by rw [JL,My,Yk h];omega,by simp,λ_=>by omega,λhu=>?_⟩;simp only [List.head?_cons,ne_eq,zS];exact h1 u hu h
  ·obtain ⟨i1,i2,i3,i4,i5⟩:=ih (u/10) (by omega);rw [Lib.decDigits,dif_neg h];have hd:u%10<10:=by omega
   have hh:(Lib.decDigits (u/10)++ [UInt8.ofNat (48+u%10)]).head?=(Lib.decDigits (u/10)).head?:=by
    cases hq:Lib.decDigits (u/10) with
    |nil=>exact absurd hq i3
    |cons a b=>rfl
   refine ⟨by simp only [List.all_append,i1,zanC,List.all_nil,ZK hd,Bool.and_true],by rw [ZJ,i2,Yk hd];omega,by simp,λ_=>?_,λ_=>?_⟩
   ·rw [hh];exact i5 (by omega)
   ·rw [hh];exact i5 (by omega)
def L9 (l:LBy):Bool:=!(l== [])&&l.all Ej&&(!(l.head?==some 48)||l.length==1)
theorem X2 (u:Nat):L9 (Lib.decDigits u)=true:=by
 obtain ⟨h1,h2,h3,h4,h5⟩:=HV u;simp only [L9,h1,Bool.and_true,zL,Bool.not_eq_true',zanF,Bool.or_eq_true];refine ⟨h3,?_⟩;by_cases hu:u<10
 ·right;rw [Lib.decDigits,dif_pos hu];rfl
 ·left;exact h4 (by omega)
theorem Uy:∀(n:Nat) (l:LBy),l.length=n->L9 l=true->Lib.decDigits (E7 0 l)=l
 |0,l,hn,h=>by
  have:=bR hn;subst this;simp [L9] at h
 |n+1,l,hn,h=>by
  simp only [L9,zL,Bool.not_eq_true',zanF,Bool.or_eq_true,zanG] at h;obtain ⟨⟨h1,h2⟩,h3⟩:=h;obtain ⟨ini,c,rfl⟩:∃ini c,l=ini++ [c]:=⟨l.dropLast,l.getLast h1,(List.dropLast_concat_getLast h1).symm⟩;simp only [List.all_append,zL,zanC,List.all_nil,Bool.and_true] at h2;obtain ⟨h2,hc⟩:=h2;simp only [Ej,zL,aG] at hc;have ec:UInt8.ofNat (48+(c.toNat-48))=c:=by
   have:48+(c.toNat-48)=c.toNat:=by omega
   rw [this];simp
  rw [ZJ];cases ini with
  |nil=>
   rw [My,Nat.zero_mul,Nat.zero_add,List.nil_append,Lib.decDigits,dif_pos (by omega),ec]
  |cons a b=>
   have hl:(a::b).length=n:=by simp at hn⊢;omega
   have h48:¬a=48:=by
    rcases h3 with h3|h3
    ·simpa using h3
    ·simp at h3
   have hcn:L9 (a::b)=true:=by
    simp only [L9,h2,Bool.and_true,zL,Bool.not_eq_true',zanF,Bool.or_eq_true];exact ⟨by simp,.inl (by simpa using h48)⟩
   have ih:=Uy n (a::b) hl hcn;have hp:1<=E7 0 (a::b):=by
    rcases Nat.eq_zero_or_pos (E7 0 (a::b)) with h0|h0
    ·rw [h0,Lib.decDigits,dif_pos (by decide)] at ih;have:a=48:=by
      have:=congrArg List.head? ih;simpa using this.symm
     exact absurd this h48
    ·exact h0
   rw [Lib.decDigits,dif_neg (by omega)];have e1:(E7 0 (a::b)*10+(c.toNat-48))/10=E7 0 (a::b):=by omega
   have e2:(E7 0 (a::b)*10+(c.toNat-48))%10=c.toNat-48:=by omega
   rw [e1,e2,ih,ec]
def l1I (l:LBy) (most:Int):Int×Bool:=if (l.length:Int)<=most/\L9 l=true then ((E7 0 l:Int),true) else (0,false)
theorem Yl:∀(l:LBy) (acc k:Nat),l.all Ej=true->acc<10^k->E7 acc l<10^(k+l.length)
 | [],acc,k,_,h=>by rw [My];simpa using h
 |c::r,acc,k,hd,h=>by
  simp only [zanC,zL] at hd;have hc:=hd.1;simp only [Ej,zL,aG] at hc;have:=Yl r (acc*10+(c.toNat-48)) (k+1) hd.2 (by rw [Nat.pow_succ];omega);rw [JL,zamM,show k+(r.length+1)=k+1+r.length by omega];exact this
theorem Uz:∀(l:LBy) (acc:Nat),l.all Ej=true->E7 acc l<=1000000000000000000->Lib.parseUintM (2^64-1) acc l= .ok (E7 acc l)
 | [],acc,_,_=>by simp only [Lib.parseUintM,My]
 |c::r,acc,hd,h=>by
  simp only [zanC,zL] at hd;have hc:=hd.1;simp only [Ej,zL,aG] at hc;rw [JL] at h⊢;have g1:=v6 r (acc*10+(c.toNat-48));have p:(2:Nat)^64-1=18446744073709551615:=by decide
  simp only [Lib.parseUintM];rw [if_pos hc,if_neg (by omega),if_neg (by rw [p];omega)];exact Uz r _ hd.2 h
theorem X3 {u:Nat} (h:u<=1000000000000000000):Lib.parseUintB 64 (Lib.decDigits u)= .ok u:=by
 obtain ⟨h1,h2,h3,_,_⟩:=HV u;unfold Lib.parseUintB;rw [if_neg h3,Uz _ 0 h1 (by rw [h2];exact h),h2]
theorem OY (u:Nat):∃c r,Lib.decDigits u=c::r/\Ej c=true:=by
 obtain ⟨h1,_,h3,_,_⟩:=HV u;cases hq:Lib.decDigits u with
 |nil=>exact absurd hq h3
 |cons c r=>
  rw [hq] at h1;simp only [zanC,zL] at h1;exact ⟨c,r,rfl,h1.1⟩
theorem Ww {x:Int} (h: -1000000000000000<=x/\x<=1000000000000000):Lib.parseIntB 64 (Lib.itoa x)= .ok x:=by
 have p:(2:Nat)^(64-1)=9223372036854775808:=by decide
 by_cases hx:x<0
 ·have e:Lib.itoa x=45::Lib.decDigits x.natAbs:=by unfold Lib.itoa;rw [if_pos hx]
  have c45:(45:UInt8).toNat=45:=rfl;rw [e];simp only [Lib.parseIntB,c45,or_true,if_true,X3 (u:=x.natAbs) (by omega),p];rw [if_neg (by simp),if_neg (by omega)]
  congr 1
  omega
 ·have e:Lib.itoa x=Lib.decDigits x.toNat:=by unfold Lib.itoa;rw [if_neg hx]
  obtain ⟨c,r,hcr,hd⟩:=OY x.toNat;simp only [Ej,zL,aG] at hd;rw [e,hcr];simp only [Lib.parseIntB];rw [if_neg (by omega),<-hcr,X3 (u:=x.toNat) (by omega)];simp only [p];rw [if_neg (by omega),if_neg (by omega),if_neg (by omega)]
  congr 1
  omega
def Ym (l:LBy):Option Int:=if l.head?=some 45 then (if (l1I (l.drop 1) 16).2=true/\(l1I (l.drop 1) 16).1≠0 then some (-(l1I (l.drop 1) 16).1) else none) else (if (l1I l 16).2=true then some (l1I l 16).1 else none)
theorem Wx {l:LBy} (h:(l1I l 16).2=true):l.length<=16/\L9 l=true/\(l1I l 16).1=(E7 0 l:Int)/\Lib.decDigits (E7 0 l)=l:=by
 unfold l1I at h⊢;split at h
 ·rename_i hc;rw [if_pos hc];exact ⟨by omega,hc.2,rfl,Uy _ l rfl hc.2⟩
 ·cases h
theorem v7 {u:Nat} (h:u<=1000000000000000):l1I (Lib.decDigits u) 16=((u:Int),true):=by
 obtain ⟨h1,h2,h3,_,_⟩:=HV u;have hl:(Lib.decDigits u).length<=16:=by
  rw [Lib.decDigits_length];have:Lib.nDigits 1000000000000000=16:=Lib.nDigits_unique 15 _ (by decide) (by decide);rcases Nat.lt_or_ge 16 (Lib.nDigits u) with h4|h4
  ·have h5:u<10^16:=by
    have:(10:Nat)^16=10000000000000000:=by decide
    omega
   exfalso;rcases Nat.lt_or_ge u 1 with h6|h6
   ·have:u=0:=by omega
    subst this;rw [Lib.nDigits_small (by decide)] at h4;omega
   ·have key:∀(k v:Nat),1<=v->v<10^k->Lib.nDigits v<=k:=by
     intro k
     induction k with
     |zero=>intro v hv hv';simp at hv';omega
     |succ k ih=>
      intro v hv hv';by_cases h10:v<10
      ·rw [Lib.nDigits_small h10];omega
      ·rw [Lib.nDigits_big h10];have:=ih (v/10) (by omega) (by rw [Nat.pow_succ] at hv';omega);omega
    have:=key 16 u h6 h5;omega
  ·exact h4
 unfold l1I;rw [if_pos ⟨by omega,X2 u⟩,h2]
theorem bm {l:LBy} {x:Int} (h:Ym l=some x):l=Lib.itoa x:=by
 unfold Ym at h;split at h
 ·rename_i h45;split at h
  ·rename_i hc;cases h;obtain ⟨a1,a2,a3,a4⟩:=Wx hc.1;have hne:=hc.2;rw [a3] at hne⊢;unfold Lib.itoa;rw [if_pos (by omega)];have:(-(E7 0 (l.drop 1):Int)).natAbs=E7 0 (l.drop 1):=by omega
   rw [this,a4];cases l with
   |nil=>cases h45
   |cons c r=>simp at h45;simp [h45]
  ·cases h
 ·split at h
  ·rename_i hc;cases h;obtain ⟨a1,a2,a3,a4⟩:=Wx hc;rw [a3];unfold Lib.itoa;rw [if_neg (by omega),cT,a4]
  ·cases h
theorem bn {x:Int} (h: -1000000000000000<=x/\x<=1000000000000000):Ym (Lib.itoa x)=some x:=by
 unfold Ym;by_cases hx:x<0
 ·have e:Lib.itoa x=45::Lib.decDigits x.natAbs:=by unfold Lib.itoa;rw [if_pos hx]
  have e2:=v7 (u:=x.natAbs) (by omega);rw [e,List.head?_cons,if_pos rfl,List.drop_succ_cons,List.drop_zero,e2,if_pos ⟨rfl,by show ((x.natAbs:Nat):Int)≠0;omega⟩]
  congr 1
  show-((x.natAbs:Nat):Int)=x;omega
 ·have e:Lib.itoa x=Lib.decDigits x.toNat:=by unfold Lib.itoa;rw [if_neg hx]
  have e2:=v7 (u:=x.toNat) (by omega);obtain ⟨c,r,hcr,hd⟩:=OY x.toNat;have h45:¬(Lib.decDigits x.toNat).head?=some 45:=by
   rw [hcr];simp only [List.head?_cons,zS];intro hc;subst hc;simp [Ej] at hd
  rw [e,if_neg h45,e2,if_pos rfl]
  congr 1
  show ((x.toNat:Nat):Int)=x;omega
def GW (s:BA):Int:=match zN s 10 64 with
 |some (.inl v)=>v
 |some (.inr v)=>v
 |none=>0
theorem Qi {s:BA} {x:Int} (hs:s.toList=Lib.itoa x) (h: -1000000000000000<=x/\x<=1000000000000000):GW s=x:=by
 have hd:s.data.toList=Lib.itoa x:=by rw [<-zao];exact hs
 have hsz:s.size<=281474976710656:=by
  rw [<-EA,hs];unfold Lib.itoa;split
  ·have:=NU x.natAbs (by omega);simp;omega
  ·have:=NU x.toNat (by omega);omega
 unfold GW zN;rw [if_pos ⟨rfl,rfl,hsz⟩,hd,Ww h]
def Jj (s:BA):Int:=if (qq 5).toList=s.toList then 5 else if (qq 4).toList=s.toList then 4 else if (qq 3).toList=s.toList then 3 else if (qq 2).toList=s.toList then 2 else if (qq 1).toList=s.toList then 1 else 0
theorem ix (s:BA):0<=Jj s/\Jj s<=5:=by
 unfold Jj
 repeat' split
 all_goals decide
theorem iy {s:BA} (h:¬Jj s=0):qq (Jj s)=s:=by
 unfold Jj at h⊢;by_cases h5:(qq 5).toList=s.toList
 ·rw [if_pos h5];exact HU h5
 rw [if_neg h5] at h⊢;by_cases h4:(qq 4).toList=s.toList
 ·rw [if_pos h4];exact HU h4
 rw [if_neg h4] at h⊢;by_cases h3:(qq 3).toList=s.toList
 ·rw [if_pos h3];exact HU h3
 rw [if_neg h3] at h⊢;by_cases h2:(qq 2).toList=s.toList
 ·rw [if_pos h2];exact HU h2
 rw [if_neg h2] at h⊢;by_cases h1:(qq 1).toList=s.toList
 ·rw [if_pos h1];exact HU h1
 rw [if_neg h1] at h;exact absurd rfl h
theorem rn {i:Int} (h:1<=i/\i<=5):i=1\/i=2\/i=3\/i=4\/i=5:=by omega
def FS (s:BA):V3:=
 if s.toList.head?=some 39 then (2,0,⟨s.toList.tail.toArray⟩) else
 if s.toList= [70,65,76,83,69] then (3,0,em) else if s.toList= [84,82,85,69] then (3,1,em) else
 if s.toList.head?=some 35 then (if Jj s=0 then (0,0,em) else (4,Jj s,em)) else
 if s.toList= [] then (0,0,em) else (1,GW s,em)
def q7 (s:BA):Int×Int×BA×Bool:=if okV (FS s).1 (FS s).2.1 (FS s).2.2=true/\(EN (FS s).1 (FS s).2.1 (FS s).2.2).toList=s.toList then ((FS s).1,(FS s).2.1,(FS s).2.2,true) else (0,0,⟨#[]⟩,false)
theorem iz (c:UInt8) (k:Nat) (hk:k<256):((c.toNat:Int)==(k:Int))=(some c==some (UInt8.ofNat k)):=by
 by_cases e:c=UInt8.ofNat k
 ·subst e;have:(UInt8.ofNat k).toNat=k:=by rw [UInt8.toNat_ofNat'];omega
  simp [this]
 ·have h1:¬(c.toNat:Int)=(k:Int):=λh=>e (by
   have:c.toNat=k:=by omega
   rw [<-this];simp)
  have h2:¬some c=some (UInt8.ofNat k):=λh=>e (by simpa using h)
  rw [zanF.2 h1,zanF.2 h2]
theorem Eg (l:LBy):(⟨l.toArray⟩:BA).toList=l:=by rw [zao]
theorem Wy (n:Nat):∀(f u:Nat) (s:BA),u<10^(f+1)->u<=9223372036854775807->s.size+f<=1000->∃(q:Nat) (t:BA),q<10/\t.size<=s.size+f/\UInt8.ofNat (48+q)::t.data.toList=Lib.decDigits u++s.data.toList/\∀M,f+1<=M->zF (Ia n) M ((u:Int),s)=some ((q:Int),t)
 |f,u,s,h1,h2,h3=>by
  by_cases h:u<10
  ·refine ⟨u,s,h,by omega,by rw [Lib.decDigits,dif_pos h];rfl,λM hM=>?_⟩;obtain ⟨M,rfl⟩:∃k,M=k+1:=⟨M-1,by omega⟩;have hc:¬(u:Int)≥10:=by omega
   rw [qe (r:=((u:Int),s)) (by simp [Ia,qj,hc])]
  ·cases f with
   |zero=>simp at h1;omega
   |succ f=>
    have e1:Int.tmod (u:Int) 10=((u%10:Nat):Int):=by rw [Int.tmod_eq_emod_of_nonneg (by omega)];omega
    have e2:IntKind.i64.wrap (Int.tdiv (u:Int) 10)=((u/10:Nat):Int):=by
     rw [Int.tdiv_eq_ediv_of_nonneg (by omega),ql (by omega)];omega
    have e3:=u8w (q:=u%10) (by omega);have h4:u/10<10^(f+1):=by
     have:10^(f+1+1)=10^(f+1)*10:=Nat.pow_succ 10 (f+1);omega
    let d:BA:=⟨#[UInt8.ofNat (48+u%10)]⟩
    have hd:d.size=1:=rfl;have hs:(d++s).size=s.size+1:=by rw [ze];omega
    obtain ⟨q,t,g1,g2,g3,g4⟩:=Wy n f (u/10) (d++s) h4 (by omega) (by omega);refine ⟨q,t,g1,by omega,?_,λM hM=>?_⟩
    ·rw [g3,IM,Lib.decDigits.eq_1 u,dif_neg h];simp [d]
    ·obtain ⟨M,rfl⟩:∃k,M=k+1:=⟨M-1,by omega⟩;have hc:(u:Int)≥10:=by omega
     have hz:d.size+s.size<=9223372036854775807:=by omega
     rw [qm (v':=(((u/10:Nat):Int),d++s)) (by
      simp only [Ia,qj,e1,e2,e3,bytesOf,zamW,cT];rw [if_pos (by simpa using hc),if_pos (by simp),if_pos (zC hz)])]
     exact g4 M (by omega)
theorem TW (u:Nat) (h:u<=1000000000000000000):∀n,25<=n->D3 n (u:Int)=some (Gk u):=by
 intro n hn;obtain ⟨m,rfl,hm⟩:=up1 hn;have p:(10:Nat)^(18+1)=10000000000000000000:=by decide
 obtain ⟨q,t,g1,g2,g3,g4⟩:=Wy m 18 u ⟨#[]⟩ (by omega) (by omega) (by show 0+18<=1000;decide);have g4:=g4 m (by omega);have e3:=u8w g1;have hc:¬(u:Int)<0:=by omega
 have hz:(⟨#[UInt8.ofNat (48+q)]⟩:BA).size+t.size<=9223372036854775807:=by
  have g2:t.size<=0+18:=g2;show 1+t.size<=_;omega
 simp only [D3,MG,qj,g4,e3,bytesOf,zamW,cT];rw [if_neg (by simp),if_pos (by simp),if_pos (zC hz)]
 congr 1
 apply NT;rw [IM];have e:Lib.itoa (u:Int)=Lib.decDigits u:=by unfold Lib.itoa;rw [if_neg hc];simp
 show UInt8.ofNat (48+q)::t.data.toList=Lib.itoa (u:Int);rw [g3,e];simp
theorem G6 (x:Int) (h: -1000000000000000000<=x/\x<=1000000000000000000):Ev (D3 · x) (Gk x):=by
 by_cases hx:x<0
 ·refine ⟨30,λn hn=>?_⟩;obtain ⟨m,rfl,hm⟩:=up1 hn;have e1:IntKind.i64.wrap (0-x)=((x.natAbs:Nat):Int):=by rw [ql (by omega)];omega
  have g:=TW x.natAbs (by omega) m (by omega);have hl:=NU x.natAbs (by omega);have e0:Lib.itoa ((x.natAbs:Nat):Int)=Lib.decDigits x.natAbs:=by unfold Lib.itoa;rw [if_neg (by omega)];simp
  have hz:(⟨#[45]⟩:BA).size+(Gk ((x.natAbs:Nat):Int)).size<=9223372036854775807:=by
   have:(Gk ((x.natAbs:Nat):Int)).size=(Lib.decDigits x.natAbs).length:=by rw [H3];simp [Gk,e0]
   show 1+_<=_;omega
  simp only [D3,MG,qj,e1,g];rw [if_pos (by simpa using hx),if_pos (zC hz)]
  congr 1
  apply NT;rw [IM];have e:Lib.itoa x=45::Lib.decDigits x.natAbs:=by unfold Lib.itoa;rw [if_pos hx]
  show 45::(Lib.itoa ((x.natAbs:Nat):Int))=Lib.itoa x;rw [e,e0]
 ·obtain ⟨u,rfl⟩:∃u:Nat,x=u:=⟨x.toNat,by omega⟩;exact ⟨25,TW u (by omega)⟩
theorem Yn (x:Int) (h: -9223372036854775808<=x/\x<=9223372036854775807):Ev (JW · x 10) (Gk x):=by
 refine ⟨1,λn hn=>?_⟩;obtain ⟨m,rfl,hm⟩:=up1 hn;show aO x 10=_;unfold aO;rw [if_pos ⟨rfl,h⟩];rfl
theorem Jt (x:Int) (h: -9223372036854775808<=x/\x<=9223372036854775807):Ev (FH · x) (Gk x):=by
 obtain ⟨n1,h1⟩:=Yn x h;refine ⟨n1+1,λn hn=>?_⟩;obtain ⟨m,rfl,hm⟩:=up1 hn;have h1:=h1 m (by omega);dsimp only at h1;simp only [FH,Ml,qj,h1]
theorem Mz (x:Int) (h:0<=x/\x<=5):Ev (F3 · x) (qq x):=by
 refine ⟨1,λn hn=>?_⟩;obtain ⟨m,rfl,hm⟩:=up1 hn;simp only [F3,No,qj];rcases lt6 h with rfl|rfl|rfl|rfl|rfl|rfl<;>simp [z8,qq]
theorem Km (x:Int) (h:0<=x/\x<=5):Ev (FB · x) (qq x):=by
 refine ⟨1,λn hn=>?_⟩;obtain ⟨m,rfl,hm⟩:=up1 hn;simp only [FB,K7,qj];rcases lt6 h with rfl|rfl|rfl|rfl|rfl|rfl<;>simp [z8,qq]
theorem Wz (x:Int):Ev (LS · x) (ZI x):=by
 refine ⟨1,λn hn=>?_⟩;obtain ⟨m,rfl,hm⟩:=up1 hn;simp only [LS,Nt,qj];by_cases h:x=1<;>simp [ZI,h]
theorem Iq (k x:Int) (s:BA) (hb:s.size<=140737488351232):Ev (El · k x s) (if okV k x s=true then EN k x s else ⟨#[]⟩):=by
 cases ho:okV k x s with
 |false=>
  obtain ⟨n1,h1⟩:=ES k x s hb;refine ⟨n1+1,λn hn=>?_⟩;obtain ⟨m,rfl,hm⟩:=up1 hn;have h1:=h1 m (by omega);dsimp only at h1;simp only [El,Fz,qj,h1];simp [ho]
 |true=>
  by_cases k1:k=1
  ·subst k1;have:=u7 ho;obtain ⟨n1,h1⟩:=ES 1 x s hb;obtain ⟨n2,h2⟩:=G6 x (by omega);refine ⟨n1+n2+1,λn hn=>?_⟩;obtain ⟨m,rfl,hm⟩:=up1 hn;have h1:=h1 m (by omega);dsimp only at h1;have h2:=h2 m (by omega);dsimp only at h2;simp only [El,Fz,qj,h1,h2];simp [ho,EN]
  ·by_cases k2:k=2
   ·subst k2;have:=TV ho;have hz:(⟨#[39]⟩:BA).size+s.size<=9223372036854775807:=by show 1+s.size<=_;omega
    obtain ⟨n1,h1⟩:=ES 2 x s hb;refine ⟨n1+1,λn hn=>?_⟩;obtain ⟨m,rfl,hm⟩:=up1 hn;have h1:=h1 m (by omega);dsimp only at h1;simp only [El,Fz,qj,h1];simp [ho,EN,hz]
   ·by_cases k3:k=3
    ·subst k3;obtain ⟨n1,h1⟩:=ES 3 x s hb;obtain ⟨n2,h2⟩:=Wz x;refine ⟨n1+n2+1,λn hn=>?_⟩;obtain ⟨m,rfl,hm⟩:=up1 hn;have h1:=h1 m (by omega);dsimp only at h1;have h2:=h2 m (by omega);dsimp only at h2;simp only [El,Fz,qj,h1,h2];simp [ho,EN]
    ·by_cases k4:k=4
     ·subst k4;have:=X1 ho;obtain ⟨n1,h1⟩:=ES 4 x s hb;obtain ⟨n2,h2⟩:=Mz x (by omega);refine ⟨n1+n2+1,λn hn=>?_⟩;obtain ⟨m,rfl,hm⟩:=up1 hn;have h1:=h1 m (by omega);dsimp only at h1;have h2:=h2 m (by omega);dsimp only at h2;simp only [El,Fz,qj,h1,h2];simp [ho,EN]
     ·obtain ⟨n1,h1⟩:=ES k x s hb;refine ⟨n1+1,λn hn=>?_⟩;obtain ⟨m,rfl,hm⟩:=up1 hn;have h1:=h1 m (by omega);dsimp only at h1;simp only [El,Fz,qj,h1];simp [ho,EN,k1,k2,k3,k4]
theorem NV (k x:Int) (s:BA) (ho:okV k x s=true):Ev (Ea · k x s) (EN k x s):=by
 by_cases k1:k=1
 ·subst k1;have:=u7 ho;obtain ⟨n1,h1⟩:=Jt x (by omega);refine ⟨n1+1,λn hn=>?_⟩;obtain ⟨m,rfl,hm⟩:=up1 hn;have h1:=h1 m (by omega);dsimp only at h1;simp only [Ea,GR,qj,h1];simp [EN]
 ·by_cases k2:k=2
  ·subst k2;have:=TV ho;have hz:(⟨#[39]⟩:BA).size+s.size<=9223372036854775807:=by show 1+s.size<=_;omega
   refine ⟨1,λn hn=>?_⟩;obtain ⟨m,rfl,hm⟩:=up1 hn;simp only [Ea,GR,qj];simp [EN,hz]
  ·by_cases k3:k=3
   ·subst k3;have:=X0 ho;refine ⟨1,λn hn=>?_⟩;obtain ⟨m,rfl,hm⟩:=up1 hn;simp only [Ea,GR,qj];have c:x=0\/x=1:=by omega
    rcases c with rfl|rfl<;>simp [z8,EN,ZI]
   ·by_cases k4:k=4
    ·subst k4;have:=X1 ho;obtain ⟨n1,h1⟩:=Km x (by omega);refine ⟨n1+1,λn hn=>?_⟩;obtain ⟨m,rfl,hm⟩:=up1 hn;have h1:=h1 m (by omega);dsimp only at h1;simp only [Ea,GR,qj,h1];simp [EN]
    ·refine ⟨1,λn hn=>?_⟩;obtain ⟨m,rfl,hm⟩:=up1 hn;simp only [Ea,GR,qj];simp [EN,k1,k2,k3,k4]
theorem Pk (x:Int):Ev (Gi · x) (GI x):=by
 by_cases h:1<=x/\x<=52
 ·by_cases h26:x<=26
  ·have w1:IntKind.i64.wrap (65+x)=65+x:=ql (by omega);have w2:IntKind.i64.wrap (65+x-1)=65+x-1:=ql (by omega);have w3:IntKind.u8.wrap (65+x-1)=65+x-1:=Yj (by omega);have e:(65+x-1).toNat=64+x.toNat:=by omega
   obtain ⟨n1,h1⟩:=Eb x 1 52;refine ⟨n1+1,λn hn=>?_⟩;obtain ⟨m,rfl,hm⟩:=up1 hn;have h1:=h1 m (by omega);dsimp only at h1;simp only [Gi,I0,qj,h1];simp only [w1,w2,w3,bytesOf,zamW,e];simp [h,h26,GI,show ¬x<1 by omega,show ¬52<x by omega]
  ·have w1:IntKind.i64.wrap (x-1)=x-1:=ql (by omega);have e1:Int.tdiv (x-1) 26=1:=by rw [Int.tdiv_eq_ediv_of_nonneg (by omega)];omega
   have e2:Int.tmod (x-1) 26=(((x.toNat-1)%26:Nat):Int):=by rw [Int.tmod_eq_emod_of_nonneg (by omega)];omega
   have w2:IntKind.u8.wrap (IntKind.i64.wrap (IntKind.i64.wrap (65+IntKind.i64.wrap 1)-1))=65:=by decide
   have w3:IntKind.i64.wrap (65+(((x.toNat-1)%26:Nat):Int))=65+(((x.toNat-1)%26:Nat):Int):=ql (by omega);have w4:IntKind.u8.wrap (65+(((x.toNat-1)%26:Nat):Int))=65+(((x.toNat-1)%26:Nat):Int):=Yj (by omega);have e3:(65+(((x.toNat-1)%26:Nat):Int)).toNat=65+(x.toNat-1)%26:=by omega
   obtain ⟨n1,h1⟩:=Eb x 1 52;refine ⟨n1+1,λn hn=>?_⟩;obtain ⟨m,rfl,hm⟩:=up1 hn;have h1:=h1 m (by omega);dsimp only at h1;simp only [Gi,I0,qj,h1];simp only [w1,e1,e2,w2,w3,w4,e3,bytesOf,zamW];simp [h,h26,GI,show ¬x<1 by omega,show ¬52<x by omega]
 ·have hx:x<1\/x>52:=by omega
  obtain ⟨n1,h1⟩:=Eb x 1 52;refine ⟨n1+1,λn hn=>?_⟩;obtain ⟨m,rfl,hm⟩:=up1 hn;have h1:=h1 m (by omega);dsimp only at h1;simp only [Gi,I0,qj,h1];simp [h,GI,hx]
theorem X4 (n x:Nat) (s:BA) (h:1<=x/\x<=1000) (hs:s.size<=100):(F5 n ((x:Int),s)).run=some (.inl ((((x-1)/26:Nat):Int),(⟨#[UInt8.ofNat (65+(x-1)%26)]⟩:BA)++s)):=by
 have w1:IntKind.i64.wrap ((x:Int)-1)=((x-1:Nat):Int):=by rw [ql (by omega)];omega
 have e1:Int.tdiv ((x-1:Nat):Int) 26=(((x-1)/26:Nat):Int):=by rw [Int.tdiv_eq_ediv_of_nonneg (by omega)];omega
 have e2:Int.tmod ((x-1:Nat):Int) 26=(((x-1)%26:Nat):Int):=by rw [Int.tmod_eq_emod_of_nonneg (by omega)];omega
 have w2:IntKind.i64.wrap (((x-1)/26:Nat):Int)=(((x-1)/26:Nat):Int):=ql (by omega);have w3:IntKind.i64.wrap (65+(((x-1)%26:Nat):Int))=65+(((x-1)%26:Nat):Int):=ql (by omega);have w4:IntKind.u8.wrap (65+(((x-1)%26:Nat):Int))=65+(((x-1)%26:Nat):Int):=Yj (by omega);have e3:(65+(((x-1)%26:Nat):Int)).toNat=65+(x-1)%26:=by omega
 have hz:(⟨#[UInt8.ofNat (65+(x-1)%26)]⟩:BA).size+s.size<=9223372036854775807:=by show 1+s.size<=_;omega
 have hc:(x:Int)>0:=by omega
 simp only [F5,qj,w1,e1,e2,w2,w3,w4,e3,bytesOf,zamW];rw [if_pos (zC hc),if_pos (by simp),if_pos (zC hz)]
theorem ZL (n:Nat) (s:BA):(F5 n (((0:Nat):Int),s)).run=some (.inr s):=by
 simp [F5,qj]
theorem Pm (x:Int):Ev (H5 · x) (GI x):=by
 by_cases h:1<=x/\x<=52
 ·obtain ⟨n1,h1⟩:=G2 x 1 52;refine ⟨n1+10,λn hn=>?_⟩;obtain ⟨m,rfl,hm⟩:=up1 hn;have h1:=h1 m (by omega);dsimp only at h1;obtain ⟨u,rfl⟩:∃u:Nat,x=u:=⟨x.toNat,by omega⟩;obtain ⟨M,hM⟩:∃M,m=M+3:=⟨m-3,by omega⟩;have key:zF (F5 m) m ((u:Int),(⟨#[]⟩:BA))=some (GI u):=by
   rw [hM,qm (X4 _ u ⟨#[]⟩ (by omega) (by decide))];by_cases h26:u<=26
   ·have e:(u-1)/26=0:=by omega
    have e2:65+(u-1)%26=64+u:=by omega
    rw [e,qe (ZL _ _),e2]
    congr 1
    apply NT;rw [IM];simp [GI,show ¬(u:Int)<1 by omega,show ¬(52:Int)<u by omega,show (u:Int)<=26 by omega]
   ·have e:(u-1)/26=1:=by omega
    have e4:(⟨#[UInt8.ofNat (65+(u-1)%26)]⟩++(⟨#[]⟩:BA)).size<=100:=by rw [ze];show 1+0<=100;decide
    rw [e,qm (X4 _ 1 _ (by decide) e4)];have e3:(1-1)/26=0:=by decide
    rw [e3,qe (ZL _ _)]
    congr 1
    apply NT;rw [IM,IM];simp [GI,show ¬(u:Int)<1 by omega,show ¬(52:Int)<u by omega,show ¬(u:Int)<=26 by omega]
  simp only [H5,KI,qj,h1,key];simp [h]
 ·have hx:x<1\/x>52:=by omega
  obtain ⟨n1,h1⟩:=G2 x 1 52;refine ⟨n1+1,λn hn=>?_⟩;obtain ⟨m,rfl,hm⟩:=up1 hn;have h1:=h1 m (by omega);dsimp only at h1;simp only [H5,KI,qj,h1];simp [h,GI,hx]
theorem GD (c r:Int) (fc fr:Bool):Ev (q9 · c r fc fr) (EF c r fc fr):=by
 cases ho:Ef c r with
 |false=>
  obtain ⟨n1,h1⟩:=Hu c r;refine ⟨n1+1,λn hn=>?_⟩;obtain ⟨m,rfl,hm⟩:=up1 hn;have h1:=h1 m (by omega);dsimp only at h1;simp only [q9,JE,qj,h1];simp [ho,EF]
 |true=>
  have h:=Ji ho;have s1:=Ux c;have s2:=Sd h.2;have d1:(⟨#[36]⟩:BA).size=1:=rfl;have z1:(⟨#[36]⟩:BA).size+(GI c).size<=9223372036854775807:=by omega
  have z2:((⟨#[36]⟩:BA)++GI c).size+(⟨#[36]⟩:BA).size<=9223372036854775807:=by rw [ze];omega
  have z3:(((⟨#[36]⟩:BA)++GI c)++(⟨#[36]⟩:BA)).size+(Gk r).size<=9223372036854775807:=by rw [ze,ze];omega
  have z4:((⟨#[36]⟩:BA)++GI c).size+(Gk r).size<=9223372036854775807:=by rw [ze];omega
  have z5:(GI c).size+(⟨#[36]⟩:BA).size<=9223372036854775807:=by omega
  have z6:(GI c++(⟨#[36]⟩:BA)).size+(Gk r).size<=9223372036854775807:=by rw [ze];omega
  have z7:(GI c).size+(Gk r).size<=9223372036854775807:=by omega
  obtain ⟨n1,h1⟩:=Hu c r;obtain ⟨n2,h2⟩:=Pm c;obtain ⟨n3,h3⟩:=G6 r (by omega);refine ⟨n1+n2+n3+1,λn hn=>?_⟩;obtain ⟨m,rfl,hm⟩:=up1 hn;have h1:=h1 m (by omega);dsimp only at h1;have h2:=h2 m (by omega);dsimp only at h2;have h3:=h3 m (by omega);dsimp only at h3;simp only [q9,JE,qj,h1,h2,h3];simp only [ho,zC z1,zC z2,zC z3,zC z4,zC z5,zC z6,zC z7,if_true,Bool.not_true,dO,if_false];cases fc<;>cases fr<;>simp only [if_true,if_false,dO,zS]<;>apply NT<;>simp [EF,ho,IM]
theorem Hn (c r:Int) (fc fr:Bool):Ev (Fe · c r fc fr) (EF c r fc fr):=by
 cases ho:Ef c r with
 |false=>
  obtain ⟨n1,h1⟩:=Hw c r;refine ⟨n1+1,λn hn=>?_⟩;obtain ⟨m,rfl,hm⟩:=up1 hn;have h1:=h1 m (by omega);dsimp only at h1;simp only [Fe,JH,qj,h1];simp [ho,EF]
 |true=>
  have h:=Ji ho;have s1:=Ux c;have s2:=Sd h.2;have d1:(⟨#[36]⟩:BA).size=1:=rfl;have d0:(⟨#[]⟩:BA).size=0:=rfl;have z1:(⟨#[36]⟩:BA).size+(GI c).size<=9223372036854775807:=by omega
  have z2:((⟨#[36]⟩:BA)++GI c).size+(⟨#[36]⟩:BA).size<=9223372036854775807:=by rw [ze];omega
  have z3:(((⟨#[36]⟩:BA)++GI c)++(⟨#[36]⟩:BA)).size+(Gk r).size<=9223372036854775807:=by rw [ze,ze];omega
  have z4:((⟨#[36]⟩:BA)++GI c).size+(Gk r).size<=9223372036854775807:=by rw [ze];omega
  have y1:(⟨#[]⟩:BA).size+(GI c).size<=9223372036854775807:=by omega
  have y2:((⟨#[]⟩:BA)++GI c).size+(⟨#[36]⟩:BA).size<=9223372036854775807:=by rw [ze];omega
  have y3:(((⟨#[]⟩:BA)++GI c)++(⟨#[36]⟩:BA)).size+(Gk r).size<=9223372036854775807:=by rw [ze,ze];omega
  have y4:((⟨#[]⟩:BA)++GI c).size+(Gk r).size<=9223372036854775807:=by rw [ze];omega
  obtain ⟨n1,h1⟩:=Hw c r;obtain ⟨n2,h2⟩:=Pk c;obtain ⟨n3,h3⟩:=Jt r (by omega);refine ⟨n1+n2+n3+1,λn hn=>?_⟩;obtain ⟨m,rfl,hm⟩:=up1 hn;have h1:=h1 m (by omega);dsimp only at h1;have h2:=h2 m (by omega);dsimp only at h2;have h3:=h3 m (by omega);dsimp only at h3;simp only [Fe,JH,qj,h1,h2,h3];simp only [ho,zC z1,zC z2,zC z3,zC z4,zC y1,zC y2,zC y3,zC y4,if_true,Bool.not_true,dO,if_false];cases fc<;>cases fr<;>simp only [if_true,if_false,dO,zS]<;>apply NT<;>simp [EF,ho,IM]
theorem W0 (n:Nat) (s:BA):∀(r pre:LBy) (acc M:Nat),s.toList=pre++r->acc<10^pre.length->pre.length+r.length<=17->r.length+1<=M->
  zF (Gt n) M (s,(acc:Int),(pre.length:Int))=some (if r.all Ej=true then .inr ((E7 acc r:Nat):Int) else .inl (0,false))
 |r,pre,acc,0,h1,h2,h3,h4=>by omega
 | [],pre,acc,M+1,h1,h2,h3,h4=>by
  have hs:s.size=pre.length:=by rw [<-EA,h1];simp
  rw [qe (r:= .inr (acc:Int)) (by simp [Gt,qj,hs])];simp [My]
 |c::r,pre,acc,M+1,h1,h2,h3,h4=>by
  have hs:s.size=pre.length+(r.length+1):=by rw [<-EA,h1];simp
  have hi:(pre.length:Int)<s.size:=by omega
  have hg:s.toList[pre.length]?=some c:=by rw [h1];simp
  simp only [zamM] at h3 h4;by_cases c1:(c.toNat:Int)<48
  ·rw [qe (r:= .inl (0,false)) (by simp [Gt,qj,hi,hg,c1])];have:Ej c=false:=by simp [Ej];omega
   simp [this]
  ·by_cases c2:(c.toNat:Int)>57
   ·rw [qe (r:= .inl (0,false)) (by simp [Gt,qj,hi,hg,c1,c2])];have:Ej c=false:=by simp [Ej];omega
    simp [this]
   ·have hc:Ej c=true:=by simp [Ej];omega
    have hp:10^pre.length<=10^16:=Nat.pow_le_pow_right (by decide) (by omega);have p16:(10:Nat)^16=10000000000000000:=by decide
    have w1:IntKind.i64.wrap ((acc:Int)*10)=(acc:Int)*10:=ql (by omega);have w2:IntKind.u8.wrap ((c.toNat:Int)-48)=((c.toNat-48:Nat):Int):=by rw [Yj (by omega)];omega
    have w3:IntKind.i64.wrap ((c.toNat-48:Nat):Int)=((c.toNat-48:Nat):Int):=ql (by omega);have w4:IntKind.i64.wrap ((acc:Int)*10+((c.toNat-48:Nat):Int))=((acc*10+(c.toNat-48):Nat):Int):=by rw [ql (by omega)];omega
    have w5:IntKind.i64.wrap ((pre.length:Int)+1)=(pre.length:Int)+1:=ql (by omega);have e0:((pre++ [c]).length:Int)=(pre.length:Int)+1:=by simp
    rw [qm (v':=(s,((acc*10+(c.toNat-48):Nat):Int),((pre++ [c]).length:Int))) (by
     rw [e0];simp [Gt,qj,hi,hg,c1,c2,w1,w2,w3,w4,w5])]
    rw [W0 n s r (pre++ [c]) (acc*10+(c.toNat-48)) M (by rw [h1];simp) (by rw [zamO,List.length_singleton,Nat.pow_succ];omega) (by simp;omega) (by omega)];simp [hc,JL]
theorem Ij (s:BA) (most:Int) (hm:most<=16):Ev (E8 · s most) (l1I s.toList most):=by
 have hsz:s.size=s.toList.length:=(EA s).symm;by_cases h0:s.toList= []
 ·have hz:s.size=0:=by rw [hsz,h0];rfl
  refine ⟨1,λn hn=>?_⟩;obtain ⟨m,rfl,hm⟩:=up1 hn;simp only [E8,KL,Ib,qj];simp [hz,h0,l1I,L9]
 ·obtain ⟨c,r,hcr⟩:∃c r,s.toList=c::r:=by
   cases hq:s.toList with
   |nil=>exact absurd hq h0
   |cons a b=>exact ⟨a,b,rfl⟩
  have hl:s.size=r.length+1:=by rw [hsz,hcr];rfl
  have z1:¬(s.size:Int)<1:=by omega
  by_cases h1:(s.size:Int)>most
  ·refine ⟨1,λn hn=>?_⟩;obtain ⟨m,rfl,hm⟩:=up1 hn;simp only [E8,KL,Ib,qj];have:¬((s.toList.length:Int)<=most):=by rw [<-hsz];omega
   simp [z1,h1,l1I,this]
  ·have hle:(s.toList.length:Int)<=most:=by rw [<-hsz];omega
   refine ⟨30,λn hn=>?_⟩;obtain ⟨m,rfl,hm'⟩:=up1 hn;have hg:s.toList[0]?=some c:=by rw [hcr];rfl
   have lp:=W0 m s s.toList [] 0 m rfl (by decide) (by simp;omega) (by omega);simp only [zanD,Int.natCast_zero] at lp;have c48:((c.toNat:Int)==48)=(c==48):=by
    by_cases e:c=48
    ·subst e;rfl
    ·have:¬(c.toNat:Int)=48:=λh=>e (UInt8.toNat_inj.1 (by show c.toNat=48;omega))
     rw [zanF.2 this,zanF.2 e]
   simp only [E8,KL,Ib,qj,lp,Int.toNat_zero,hg,c48];rw [if_neg (by simpa using z1),if_neg (by simpa using h1),if_pos (by simp)];have ne:(s.toList== [])=false:=by simpa using h0
   have hd:s.toList.head?=some c:=by rw [hcr];rfl
   by_cases hc:c=48
   ·subst hc;by_cases h2:(s.size:Int)>1
    ·have:¬s.toList.length=1:=by omega
     simp [h2,l1I,L9,hd,this]
    ·have:s.toList.length=1:=by omega
     cases hall:s.toList.all Ej<;>simp [h2,l1I,L9,hd,this,hall,ne,hle,qj]
     ·omega
   ·have:(some c==some 48)=false:=by simpa using hc
    cases hall:s.toList.all Ej<;>simp [hc,l1I,L9,hd,this,hall,ne,hle,qj]
theorem VL (s:BA) (h:s.size<=281474976710656):Ev (Et · s 10 64) (.inl (GW s))\/Ev (Et · s 10 64) (.inr (GW s)):=by
 have key:∃r,zN s 10 64=some r:=by
  unfold zN;rw [if_pos ⟨rfl,rfl,h⟩];split<;>exact ⟨_,rfl⟩
 obtain ⟨r,hr⟩:=key;have e:Ev (Et · s 10 64) r:=⟨1,λn hn=>by
  obtain ⟨m,rfl,hm⟩:=up1 hn;exact hr⟩
 rcases r with v|v
 ·exact .inl (by unfold GW;rw [hr];exact e)
 ·exact .inr (by unfold GW;rw [hr];exact e)
theorem MH (s:BA) (c:UInt8):Ev (EX · s ⟨#[c]⟩) (if s.toList.head?=some c then (⟨s.toList.tail.toArray⟩,true) else (s,false)):=by
 refine ⟨1,λn hn=>?_⟩;obtain ⟨m,rfl,hm⟩:=up1 hn;show zy s ⟨#[c]⟩=_;unfold zy Lib.trimPrefix Lib.hasPrefix;rw [<-zao s];have es:(⟨s.toList.toArray⟩:BA)=s:=NT (by rw [<-zao s]);generalize s.toList=l at*
 cases l with
 |nil=>simp [es]
 |cons a r=>
  by_cases h:a=c
  ·subst h;simp
  ·have:¬c=a:=λe=>h e.symm
   simp [h,this,es,List.isPrefixOf]
theorem Yo (s:BA) (c:UInt8):Ev (D4 · s ⟨#[c]⟩) (s.toList.head?==some c):=by
 refine ⟨2,λn hn=>?_⟩;obtain ⟨m,rfl,hm⟩:=up1 hn;obtain ⟨m,rfl,hm⟩:=up1 hm;have z:(⟨#[c]⟩:BA).size=1:=rfl;have tc:(⟨#[c]⟩:BA).toList= [c]:=by rw [zao]
 have hsz:s.size=s.toList.length:=(EA s).symm;simp only [D4,Gy,EQ,FR,qj,z,tc];cases hq:s.toList with
 |nil=>
  have:s.size=0:=by rw [hsz,hq];rfl
  simp [this]
 |cons a r=>
  have h1:(1:Int)<=s.size:=by rw [hsz,hq];simp;omega
  have e:(s.extract 0 1).toList= [a]:=by
   rw [zao,ByteArray.data_extract,Array.toList_extract];rw [zao] at hq;simp [hq]
  have h2:1<=s.size:=by omega
  simp [h1,h2,e]
theorem Yp (n:Nat) (s:BA) (a b:Int) (c:BA) (i:Int) (v:V3) (hi:1<=i/\i<=5) (h1:FB n i=some (qq i)) (h2:Ge n i=some (4,i,em)):
  (Fl n (s,i,a,b,c,v.1,v.2.1,v.2.2)).run=some (.inl (s,i+1,a,b,c,if (qq i).toList=s.toList then (4,i,em) else v)):=by
 have w1:IntKind.i64.wrap (i+1)=i+1:=ql (by omega);simp only [Fl,qj,h1,h2,w1];rw [if_pos (zC hi.2)];by_cases h:(qq i).toList=s.toList<;>simp [h]
def Se (s:BA):Nat->Int->V3->V3
 |0,_,v=>v
 |k+1,i,v=>Se s k (i+1) (if (qq i).toList=s.toList then (4,i,em) else v)
theorem df (s:BA):Se s 5 1 (0,0,em)=if Jj s=0 then (0,0,em) else (4,Jj s,em):=by
 have a2:(1:Int)+1=2:=by decide
 have a3:(2:Int)+1=3:=by decide
 have a4:(3:Int)+1=4:=by decide
 have a5:(4:Int)+1=5:=by decide
 simp only [Se,Jj,a2,a3,a4,a5];by_cases h5:(qq 5).toList=s.toList
 ·simp [h5]
 by_cases h4:(qq 4).toList=s.toList
 ·simp [h5,h4]
 by_cases h3:(qq 3).toList=s.toList
 ·simp [h5,h4,h3]
 by_cases h2:(qq 2).toList=s.toList
 ·simp [h5,h4,h3,h2]
 by_cases h1:(qq 1).toList=s.toList<;>simp [h5,h4,h3,h2,h1]
theorem TX (n:Nat) (s:BA) (a b:Int) (c:BA) (h1:∀i,0<=i/\i<=5->FB n i=some (qq i)) (h2:∀i,1<=i/\i<=5->Ge n i=some (4,i,em)):
  ∀(k:Nat) (i:Int) (v:V3) (M:Nat),i+k=6->1<=i->k+1<=M->zF (Fl n) M (s,i,a,b,c,v.1,v.2.1,v.2.2)=some (s,a,b,c,(Se s k i v).1,(Se s k i v).2.1,(Se s k i v).2.2)
 |k,i,v,0,e,h,hM=>by omega
 |0,i,v,M+1,e,h,hM=>by
  have hi:¬i<=5:=by omega
  rw [qe (r:=(s,a,b,c,v.1,v.2.1,v.2.2)) (by simp [Fl,qj,hi])];rfl
 |k+1,i,v,M+1,e,h,hM=>by
  rw [qm (Yp n s a b c i v (by omega) (h1 i (by omega)) (h2 i (by omega)))];exact TX n s a b c h1 h2 k (i+1) _ M (by omega) (by omega) (by omega)
theorem X5:okV 0 0 em=true:=by simp [okV,em,qy]
theorem VM:EN 0 0 em=⟨#[]⟩:=rfl
theorem MJ {R:Type} {F:Nat->Int->Option R} {f:Int->R} {lo:Int} (h0:0<=lo) (h:∀i,lo<=i/\i<=5->Ev (F · i) (f i)):∃n0,∀n,n0<=n->∀i,lo<=i/\i<=5->F n i=some (f i):=by
 obtain ⟨n0,h1⟩:=FJ (F:=λi n=>if lo<=i/\i<=5 then F n i else some (f i)) (f:=f) [0,1,2,3,4,5] (λi _=>by
  by_cases hi:lo<=i/\i<=5
  ·obtain ⟨n0,h1⟩:=h i hi;exact ⟨n0,λn hn=>by simp only [if_pos hi];exact h1 n hn⟩
  ·exact ⟨0,λn _=>by simp only [if_neg hi]⟩)
 refine ⟨n0,λn hn i hi=>?_⟩;have:=h1 n hn i (by
  have c:i=0\/i=1\/i=2\/i=3\/i=4\/i=5:=by omega
  rcases c with rfl|rfl|rfl|rfl|rfl|rfl<;>simp)
 simp only [if_pos hi] at this;exact this
theorem NW (s:BA) (hb:s.size<=1048576):Ev (EG · s) (q7 s):=by
 have te:(⟨#[]⟩:BA).toList= []:=qy;have tF:(⟨#[70,65,76,83,69]⟩:BA).toList= [70,65,76,83,69]:=by rw [zao]
 have tT:(⟨#[84,82,85,69]⟩:BA).toList= [84,82,85,69]:=by rw [zao]
 have fin:∀k x (t:BA),FS s=(k,x,t)->t.size<=140737488351232->∃n0,∀n,n0<=n->Fp n k x t=some (okV k x t)/\(okV k x t=true->Ea n k x t=some (EN k x t)):=λk x t _ ht=>by
  obtain ⟨n1,h1⟩:=Lw k x t ht;by_cases ho:okV k x t=true
  ·obtain ⟨n2,h2⟩:=NV k x t ho;exact ⟨n1+n2,λn hn=>⟨h1 n (by omega),λ_=>h2 n (by omega)⟩⟩
  ·exact ⟨n1,λn hn=>⟨h1 n hn,λh=>absurd h ho⟩⟩
 have rd:∀k x (t:BA),FS s=(k,x,t)->q7 s=if okV k x t=true/\(EN k x t).toList=s.toList then (k,x,t,true) else (0,0,⟨#[]⟩,false):=λk x t h=>by unfold q7;rw [h]
 by_cases h39:s.toList.head?=some 39
 ·have hc:FS s=(2,0,⟨s.toList.tail.toArray⟩):=by unfold FS;rw [if_pos h39]
  have hsz:(⟨s.toList.tail.toArray⟩:BA).size<=140737488351232:=by rw [H3];simp only [List.length_tail];rw [EA];omega
  obtain ⟨n0,hf⟩:=fin _ _ _ hc hsz;rw [rd _ _ _ hc];obtain ⟨n1,h1⟩:=MH s 39;refine ⟨n0+n1+1,λn hn=>?_⟩;obtain ⟨m,rfl,hm⟩:=up1 hn;have h1:=h1 m (by omega);obtain ⟨g1,g2⟩:=hf m (by omega);dsimp only at h1;simp only [EG,F0,Ei,qj,h1,if_pos h39,g1];cases ho:okV 2 0 (⟨s.toList.tail.toArray⟩:BA) with
  |false=>simp
  |true=>
   simp only [g2 ho];by_cases e:(EN 2 0 (⟨s.toList.tail.toArray⟩:BA)).toList=s.toList<;>simp [e]
 ·have cut:=MH s 39;rw [if_neg h39] at cut;by_cases hF:s.toList= [70,65,76,83,69]
  ·have hc:FS s=(3,0,em):=by unfold FS;rw [if_neg h39,if_pos hF]
   have hT:¬s.toList= [84,82,85,69]:=by rw [hF];decide
   obtain ⟨n0,hf⟩:=fin _ _ _ hc (by decide);rw [rd _ _ _ hc];obtain ⟨n1,h1⟩:=cut;obtain ⟨n2,h2⟩:=Rt false;refine ⟨n0+n1+n2+1,λn hn=>?_⟩;obtain ⟨m,rfl,hm⟩:=up1 hn;have h1:=h1 m (by omega);have h2:=h2 m (by omega);obtain ⟨g1,g2⟩:=hf m (by omega);dsimp only at h1 h2;simp only [dO,if_false] at h2;have bT:(s.toList== [84,82,85,69])=false:=by simpa using hT
   have bF:(s.toList== [70,65,76,83,69])=true:=by simpa using hF
   simp only [EG,F0,Ei,qj,h1,tF,tT,bT,bF,h2,g1];cases ho:okV 3 0 em with
   |false=>simp
   |true=>
    simp only [g2 ho];by_cases e:(EN 3 0 em).toList=s.toList<;>simp [e]
  ·by_cases hT:s.toList= [84,82,85,69]
   ·have hc:FS s=(3,1,em):=by unfold FS;rw [if_neg h39,if_neg hF,if_pos hT]
    obtain ⟨n0,hf⟩:=fin _ _ _ hc (by decide);rw [rd _ _ _ hc];obtain ⟨n1,h1⟩:=cut;obtain ⟨n2,h2⟩:=Rt true;refine ⟨n0+n1+n2+1,λn hn=>?_⟩;obtain ⟨m,rfl,hm⟩:=up1 hn;have h1:=h1 m (by omega);have h2:=h2 m (by omega);obtain ⟨g1,g2⟩:=hf m (by omega);dsimp only at h1 h2;simp only [if_true] at h2;have bT:(s.toList== [84,82,85,69])=true:=by simpa using hT
    have bF:(s.toList== [70,65,76,83,69])=false:=by simpa using hF
    simp only [EG,F0,Ei,qj,h1,tF,tT,bT,bF,h2,g1];cases ho:okV 3 1 em with
    |false=>simp
    |true=>
     simp only [g2 ho];by_cases e:(EN 3 1 em).toList=s.toList<;>simp [e]
   ·have bT:(s.toList== [84,82,85,69])=false:=by simpa using hT
    have bF:(s.toList== [70,65,76,83,69])=false:=by simpa using hF
    have pre:=Yo s 35;by_cases h35:s.toList.head?=some 35
    ·have hc:FS s=(if Jj s=0 then (0,0,em) else (4,Jj s,em)):=by unfold FS;rw [if_neg h39,if_neg hF,if_neg hT,if_pos h35]
     have main:∀k x (t:BA),FS s=(k,x,t)->Se s 5 1 (0,0,em)=(k,x,t)->t.size<=140737488351232->Ev (EG · s) (q7 s):=λk x t hc hu ht=>by
      obtain ⟨n0,hf⟩:=fin _ _ _ hc ht;rw [rd _ _ _ hc];obtain ⟨n1,h1⟩:=cut;obtain ⟨n2,h2⟩:=pre;obtain ⟨n3,h3⟩:=MJ (F:=FB) (f:=qq) (lo:=0) (by decide) Km;obtain ⟨n4,h4⟩:=MJ (F:=Ge) (f:=λi=>(4,i,em)) (lo:=1) (by decide) (λi _=>Rs i);refine ⟨n0+n1+n2+n3+n4+10,λn hn=>?_⟩;obtain ⟨m,rfl,hm⟩:=up1 hn;have h1:=h1 m (by omega);have h2:=h2 m (by omega);have lp:=TX m s 0 0 ⟨#[]⟩ (h3 m (by omega)) (h4 m (by omega)) 5 1 (0,0,em) m (by decide) (by decide) (by omega);rw [hu] at lp;obtain ⟨g1,g2⟩:=hf m (by omega);dsimp only [em] at h1 h2 lp g1 g2;have b35:(s.toList.head?==some 35)=true:=by simpa using h35
      simp only [EG,F0,Ei,qj,h1,tF,tT,bT,bF,h2,b35,lp,g1];cases ho:okV k x t with
      |false=>simp
      |true=>
       simp only [g2 ho];by_cases e:(EN k x t).toList=s.toList<;>simp [e]
     by_cases hz:Jj s=0
     ·rw [if_pos hz] at hc;exact main _ _ _ hc (by rw [df,if_pos hz]) (show (0:Nat)<=140737488351232 by decide)
     ·rw [if_neg hz] at hc;exact main _ _ _ hc (by rw [df,if_neg hz]) (show (0:Nat)<=140737488351232 by decide)
    ·have b35:(s.toList.head?==some 35)=false:=by simpa using h35
     by_cases h0:s.toList= []
     ·have hc:FS s=(0,0,em):=by unfold FS;rw [if_neg h39,if_neg hF,if_neg hT,if_neg h35,if_pos h0]
      obtain ⟨n0,hf⟩:=fin _ _ _ hc (by decide);rw [rd _ _ _ hc];obtain ⟨n1,h1⟩:=cut;obtain ⟨n2,h2⟩:=pre;refine ⟨n0+n1+n2+1,λn hn=>?_⟩;obtain ⟨m,rfl,hm⟩:=up1 hn;have h1:=h1 m (by omega);have h2:=h2 m (by omega);obtain ⟨g1,g2⟩:=hf m (by omega);dsimp only [em] at h1 h2 g1 g2;have b0:(!(s.toList== []))=false:=by simpa using h0
      simp only [EG,F0,Ei,qj,h1,tF,tT,bT,bF,h2,b35,te,b0,g1];have ho:=X5;dsimp only [em] at ho;simp only [g2 ho,ho];by_cases e:(EN 0 0 (⟨#[]⟩:BA)).toList=s.toList<;>simp [em,ho,e]
     ·have hc:FS s=(1,GW s,em):=by unfold FS;rw [if_neg h39,if_neg hF,if_neg hT,if_neg h35,if_neg h0]
      obtain ⟨n0,hf⟩:=fin _ _ _ hc (by decide);rw [rd _ _ _ hc];obtain ⟨n1,h1⟩:=cut;obtain ⟨n2,h2⟩:=pre;obtain ⟨n4,h4⟩:=Qg (GW s);have b0:(!(s.toList== []))=true:=by simpa using h0
      rcases VL s (by omega) with ⟨n3,h3⟩|⟨n3,h3⟩
      all_goals
       refine ⟨n0+n1+n2+n3+n4+1,λn hn=>?_⟩;obtain ⟨m,rfl,hm⟩:=up1 hn;have h1:=h1 m (by omega);have h2:=h2 m (by omega);have h3:=h3 m (by omega);have h4:=h4 m (by omega);obtain ⟨g1,g2⟩:=hf m (by omega);dsimp only at h1 h2 h3 h4;simp only [EG,F0,Ei,qj,h1,tF,tT,bT,bF,h2,b35,te,b0,h3,h4,g1];cases ho:okV 1 (GW s) em with
       |false=>simp
       |true=>
        simp only [g2 ho];by_cases e:(EN 1 (GW s) em).toList=s.toList<;>simp [e]
theorem TY (n:Nat) (s:BA) (a b:Int) (c:BA) (h1:∀i,0<=i/\i<=5->F3 n i=some (qq i)):
  ∀(k:Nat) (i x:Int) (M:Nat),i+k=6->1<=i->k+1<=M->(Se s k i (4,x,em)).1=4/\(Se s k i (4,x,em)).2.2=em/\zF (F7 n) M (s,i,a,b,c,4,x,⟨#[]⟩)=some (a,b,c,4,(Se s k i (4,x,em)).2.1,⟨#[]⟩)
 |k,i,x,0,e,h,hM=>by omega
 |0,i,x,M+1,e,h,hM=>by
  have hi:¬i<=5:=by omega
  refine ⟨rfl,rfl,?_⟩;rw [qe (r:=(a,b,c,4,x,⟨#[]⟩)) (by simp [F7,qj,hi])];rfl
 |k+1,i,x,M+1,e,h,hM=>by
  have hi:i<=5:=by omega
  have g:=h1 i (by omega);have w1:IntKind.i64.wrap (i+1)=i+1:=ql (by omega);have hu:Se s (k+1) i (4,x,em)=Se s k (i+1) (4,if (qq i).toList=s.toList then i else x,em):=by
   simp only [Se];split<;>rfl
  rw [hu,qm (v':=(s,i+1,a,b,c,4,(if (qq i).toList=s.toList then i else x),⟨#[]⟩)) (by
   simp only [F7,qj,g,w1];rw [if_pos (zC hi)];by_cases hq:(qq i).toList=s.toList<;>simp [hq])]
  exact TY n s a b c h1 k (i+1) _ M (by omega) (by omega) (by omega)
theorem ja (s:BA):Se s 5 1 (4,0,em)=(4,Jj s,em):=by
 have a2:(1:Int)+1=2:=by decide
 have a3:(2:Int)+1=3:=by decide
 have a4:(3:Int)+1=4:=by decide
 have a5:(4:Int)+1=5:=by decide
 simp only [Se,Jj,a2,a3,a4,a5];by_cases h5:(qq 5).toList=s.toList
 ·simp [h5]
 by_cases h4:(qq 4).toList=s.toList
 ·simp [h5,h4]
 by_cases h3:(qq 3).toList=s.toList
 ·simp [h5,h4,h3]
 by_cases h2:(qq 2).toList=s.toList
 ·simp [h5,h4,h3,h2]
 by_cases h1:(qq 1).toList=s.toList<;>simp [h5,h4,h3,h2,h1]
theorem oo (s:BA):(s.extract (1:Int).toNat ((s.size:Int)).toNat).toList=s.toList.tail:=by
 have e1:(1:Int).toNat=1:=rfl;rw [cT,e1,zao,ByteArray.data_extract,Array.toList_extract,zao];have hl:s.data.toList.length=s.size:=by rw [<-H3]
 show (s.data.toList.drop 1).take (s.size-1)=s.data.toList.tail;rw [List.take_of_length_le (by rw [List.length_drop,hl];exact zH _),List.drop_one]
theorem dh {s:BA} {c:UInt8} {r:LBy} (h:s.toList=c::r):s.toList[((0:Int)).toNat]?=some c:=by rw [h];rfl
theorem v8 {x:Int}:okV 1 x em=decide (-1000000000000000<=x/\x<=1000000000000000):=by
 simp [okV,em,qy]
theorem bp {s:BA} (h39:¬s.toList.head?=some 39) (hF:¬s.toList= [70,65,76,83,69]) (hT:¬s.toList= [84,82,85,69]) (h35:¬s.toList.head?=some 35) (h0:¬s.toList= []):
  q7 s=match Ym s.toList with
   |some x=>if okV 1 x em=true then (1,x,em,true) else (0,0,⟨#[]⟩,false)
   |none=>(0,0,⟨#[]⟩,false):=by
 have hc:FS s=(1,GW s,em):=by unfold FS;rw [if_neg h39,if_neg hF,if_neg hT,if_neg h35,if_neg h0]
 have rd:q7 s=if okV 1 (GW s) em=true/\(EN 1 (GW s) em).toList=s.toList then (1,GW s,em,true) else (0,0,⟨#[]⟩,false):=by unfold q7;rw [hc]
 have tx:∀x,(EN 1 x em).toList=Lib.itoa x:=λx=>by
  rw [zao];simp [EN,Gk]
 have back:okV 1 (GW s) em=true/\(EN 1 (GW s) em).toList=s.toList->Ym s.toList=some (GW s):=λ⟨a,b⟩=>by
  rw [tx] at b;rw [v8] at a;rw [<-b];exact bn (by simpa using a)
 rw [rd];cases hn:Ym s.toList with
 |none=>
  rw [if_neg (λh=>by rw [back h] at hn;cases hn)]
 |some x=>
  by_cases hx:okV 1 x em=true
  ·have hi:=bm hn;have hr: -1000000000000000<=x/\x<=1000000000000000:=by rw [v8] at hx;simpa using hx
   have hp:=Qi hi hr;dsimp only;rw [hp,if_pos ⟨hx,by rw [tx,hi]⟩,if_pos hx]
  ·dsimp only;rw [if_neg hx,if_neg (λh=>by
    have:=back h;rw [hn] at this;cases this;exact hx h.1)]
theorem bq (s:BA) {c:UInt8} {r:LBy} (hcr:s.toList=c::r):Ym s.toList=if c=45 then (if (l1I s.toList.tail 16).2=true/\(l1I s.toList.tail 16).1≠0 then some (-(l1I s.toList.tail 16).1) else none) else (if (l1I s.toList 16).2=true then some (l1I s.toList 16).1 else none):=by
 unfold Ym;rw [hcr];simp only [List.head?_cons,zS,List.drop_one]
theorem NX (s:BA) (hb:s.size<=1048576):Ev (EZ · s) (q7 s):=by
 have te:(⟨#[]⟩:BA).toList= []:=qy;have tF:(⟨#[70,65,76,83,69]⟩:BA).toList= [70,65,76,83,69]:=by rw [zao]
 have tT:(⟨#[84,82,85,69]⟩:BA).toList= [84,82,85,69]:=by rw [zao]
 have hsz:s.size=s.toList.length:=(EA s).symm;by_cases h0:s.toList= []
 ·have hv:q7 s=(0,0,⟨#[]⟩,true):=by
   have hc:FS s=(0,0,em):=by unfold FS;rw [h0];simp
   unfold q7;rw [hc,if_pos ⟨X5,by rw [VM,h0];exact te⟩];rfl
  rw [hv];refine ⟨1,λn hn=>?_⟩;obtain ⟨m,rfl,hm⟩:=up1 hn;simp only [EZ,FZ,EU,EV,EW,qj];simp [h0,te]
 ·obtain ⟨c,r,hcr⟩:∃c r,s.toList=c::r:=by
   cases hq:s.toList with
   |nil=>exact absurd hq h0
   |cons a b=>exact ⟨a,b,rfl⟩
  have hg:=dh hcr;have hd:s.toList.head?=some c:=by rw [hcr];rfl
  have b0:(s.toList== [])=false:=by simpa using h0
  have s1:(1:Int)<=(s.size:Int):=by rw [hsz,hcr];simp;omega
  have k39:=iz c 39 (by decide);have k35:=iz c 35 (by decide);have k45:=iz c 45 (by decide);have u39:UInt8.ofNat 39=39:=rfl;have u35:UInt8.ofNat 35=35:=rfl;have u45:UInt8.ofNat 45=45:=rfl;rw [u39] at k39;rw [u35] at k35;rw [u45] at k45;have q39:((39:Nat):Int)=39:=rfl;have q35:((35:Nat):Int)=35:=rfl;have q45:((45:Nat):Int)=45:=rfl;rw [q39] at k39;rw [q35] at k35;rw [q45] at k45;by_cases h39:c=39
  ·have hx:(⟨s.toList.tail.toArray⟩:BA)=s.extract (1:Int).toNat ((s.size:Int)).toNat:=HU (by rw [oo];rw [zao]);have hc:FS s=(2,0,s.extract (1:Int).toNat ((s.size:Int)).toNat):=by unfold FS;rw [if_pos (by rw [hd,h39]),hx]
   have hz:(s.extract (1:Int).toNat ((s.size:Int)).toNat).size<=140737488351232:=by rw [<-hx,H3];simp only [List.length_tail];rw [EA];omega
   have hvt:(EN 2 0 (s.extract (1:Int).toNat ((s.size:Int)).toNat)).toList=s.toList:=by
    rw [<-hx,zao];show ((⟨#[39]⟩:BA)++_).data.toList=_;rw [IM,hcr,h39];rfl
   have hv:q7 s=if okV 2 0 (s.extract (1:Int).toNat ((s.size:Int)).toNat)=true then (2,0,s.extract (1:Int).toNat ((s.size:Int)).toNat,true) else (0,0,⟨#[]⟩,false):=by
    unfold q7;rw [hc];simp only [hvt,and_true]
   rw [hv];have e39:(some c==some 39)=true:=by rw [h39];rfl
   obtain ⟨n1,h1⟩:=ES 2 0 (s.extract (1:Int).toNat ((s.size:Int)).toNat) hz;refine ⟨n1+1,λn hn=>?_⟩;obtain ⟨m,rfl,hm⟩:=up1 hn;have h1:=h1 m (by omega);dsimp only at h1;simp only [EZ,FZ,EU,EV,EW,qj,h1];simp only [qj,te,b0,hg,k39,e39];cases ho:okV 2 0 (s.extract (1:Int).toNat ((s.size:Int)).toNat)<;>simp [s1]
  ·have n39:¬s.toList.head?=some 39:=by rw [hd];simpa using h39
   have e39:(some c==some 39)=false:=by simpa using h39
   by_cases hT:s.toList= [84,82,85,69]
   ·have hF:¬s.toList= [70,65,76,83,69]:=by rw [hT];decide
    have hc:FS s=(3,1,em):=by unfold FS;rw [if_neg n39,if_neg hF,if_pos hT]
    have ho:okV 3 1 em=true:=by simp [okV,em,qy]
    have hv:q7 s=(3,1,⟨#[]⟩,true):=by
     unfold q7;rw [hc,if_pos ⟨ho,by rw [hT];exact tT⟩];rfl
    rw [hv];have bT:(s.toList== [84,82,85,69])=true:=by simpa using hT
    obtain ⟨n1,h1⟩:=ES 3 1 ⟨#[]⟩ (by decide);refine ⟨n1+1,λn hn=>?_⟩;obtain ⟨m,rfl,hm⟩:=up1 hn;have h1:=h1 m (by omega);dsimp only at h1;simp only [EZ,FZ,EU,EV,EW,qj,h1];dsimp only [em] at ho;simp only [qj,te,b0,hg,k39,e39,tT,bT,ho];simp
   ·have bT:(s.toList== [84,82,85,69])=false:=by simpa using hT
    by_cases hF:s.toList= [70,65,76,83,69]
    ·have hc:FS s=(3,0,em):=by unfold FS;rw [if_neg n39,if_pos hF]
     have ho:okV 3 0 em=true:=by simp [okV,em,qy]
     have hv:q7 s=(3,0,⟨#[]⟩,true):=by
      unfold q7;rw [hc,if_pos ⟨ho,by rw [hF];exact tF⟩];rfl
     rw [hv];have bF:(s.toList== [70,65,76,83,69])=true:=by simpa using hF
     obtain ⟨n1,h1⟩:=ES 3 0 ⟨#[]⟩ (by decide);refine ⟨n1+1,λn hn=>?_⟩;obtain ⟨m,rfl,hm⟩:=up1 hn;have h1:=h1 m (by omega);dsimp only at h1;simp only [EZ,FZ,EU,EV,EW,qj,h1];dsimp only [em] at ho;simp only [qj,te,b0,hg,k39,e39,tT,bT,tF,bF,ho];simp
    ·have bF:(s.toList== [70,65,76,83,69])=false:=by simpa using hF
     by_cases h35:c=35
     ·have n35:s.toList.head?=some 35:=by rw [hd,h35]
      have e35:(some c==some 35)=true:=by rw [h35];rfl
      have hc:FS s=(if Jj s=0 then (0,0,em) else (4,Jj s,em)):=by unfold FS;rw [if_neg n39,if_neg hF,if_neg hT,if_pos n35]
      have hin:=ix s;have ho:okV 4 (Jj s) (⟨#[]⟩:BA)=!(Jj s==0):=by
       by_cases hz:Jj s=0
       ·simp [okV,qy,hz]
       ·have hr:1<=Jj s/\Jj s<=5:=by omega
        simp [okV,qy,hr,hz]
      have hv:q7 s=if Jj s=0 then (0,0,⟨#[]⟩,false) else (4,Jj s,⟨#[]⟩,true):=by
       unfold q7;rw [hc];by_cases hz:Jj s=0
       ·simp only [if_pos hz];rw [if_neg (λh=>h0 (by rw [<-h.2,VM];exact te))]
       ·simp only [if_neg hz];have ho':okV 4 (Jj s) em=true:=by show okV 4 (Jj s) ⟨#[]⟩=true;rw [ho];simpa using hz
        rw [if_pos ⟨ho',by show (qq (Jj s)).toList=s.toList;rw [iy hz]⟩];rfl
      rw [hv];obtain ⟨n1,h1⟩:=ES 4 (Jj s) ⟨#[]⟩ (by decide);obtain ⟨n3,h3⟩:=MJ (F:=F3) (f:=qq) (lo:=0) (by decide) Mz;refine ⟨n1+n3+10,λn hn=>?_⟩;obtain ⟨m,rfl,hm⟩:=up1 hn;have h1:=h1 m (by omega);dsimp only at h1;obtain ⟨_,_,lp⟩:=TY m s 0 0 ⟨#[]⟩ (h3 m (by omega)) 5 1 0 m (by decide) (by decide) (by omega);rw [ja] at lp;simp only [EZ,FZ,EU,EV,EW,qj,te,b0,hg,k39,e39,tT,bT,tF,bF,k35,e35,lp,h1,ho];by_cases hz:Jj s=0<;>simp [hz]
     ·have n35:¬s.toList.head?=some 35:=by rw [hd];simpa using h35
      have e35:(some c==some 35)=false:=by simpa using h35
      rw [bp n39 hF hT n35 h0,bq s hcr];dsimp only [em];by_cases h45:c=45
      ·have e45:(some c==some 45)=true:=by rw [h45];rfl
       have g16:∀{q:LBy},(l1I q 16).2=true->(0<=(l1I q 16).1/\(l1I q 16).1<=10000000000000000):=fun {q} hq=>by
        have p16:(10:Nat)^16=10000000000000000:=by decide
        obtain ⟨a1,a2,a3,a4⟩:=Wx hq;rw [a3];simp only [L9,zL] at a2;have:=Yl q 0 0 a2.1.2 (by decide);have h2:(10:Nat)^(0+q.length)<=10^16:=Nat.pow_le_pow_right (by decide) (by omega);omega
       have hl:=Ij (s.extract (1:Int).toNat ((s.size:Int)).toNat) 16 (by decide);rw [oo] at hl;have hrange:= @g16 s.toList.tail;generalize l1I s.toList.tail 16=q at*
       obtain ⟨x,ok⟩:=q;have w1:ok=true->IntKind.i64.wrap (0-x)= -x:=λh=>by
        have:=hrange h;dsimp only at this;rw [Int.zero_sub];exact ql (by omega)
       obtain ⟨n1,h1⟩:=hl;obtain ⟨n2,h2⟩:=ES 1 (-x) ⟨#[]⟩ (by decide);refine ⟨n1+n2+1,λn hn=>?_⟩;obtain ⟨m,rfl,hm⟩:=up1 hn;have h1:=h1 m (by omega);dsimp only at h1;have h2:=h2 m (by omega);dsimp only at h2;simp only [EZ,FZ,EU,EV,EW,qj,h1,h2];simp only [qj,te,b0,hg,k39,e39,tT,bT,tF,bF,k35,e35,k45,e45,h45,if_true];cases ok with
       |false=>simp [s1]
       |true=>
        simp only [qj,w1 rfl,h2];by_cases hx:x=0
        ·simp [s1,hx]
        ·cases ho:okV 1 (-x) (⟨#[]⟩:BA)<;>simp [s1,hx,ho]
      ·have e45:(some c==some 45)=false:=by simpa using h45
       have hl:=Ij s 16 (by decide);generalize l1I s.toList 16=q at*
       obtain ⟨x,ok⟩:=q;obtain ⟨n1,h1⟩:=hl;obtain ⟨n2,h2⟩:=ES 1 x ⟨#[]⟩ (by decide);refine ⟨n1+n2+1,λn hn=>?_⟩;obtain ⟨m,rfl,hm⟩:=up1 hn;have h1:=h1 m (by omega);dsimp only at h1;have h2:=h2 m (by omega);dsimp only at h2;simp only [EZ,FZ,EU,EV,EW,qj,h1,h2];simp only [qj,te,b0,hg,k39,e39,tT,bT,tF,bF,k35,e35,k45,e45,if_neg h45];cases ok with
       |false=>simp
       |true=>cases ho:okV 1 x (⟨#[]⟩:BA)<;>simp [ho]
theorem N3 {k x:Int} {s:BA} (h:okV k x s=true) (h2:¬k=2):s=em:=by
 unfold okV at h;rw [if_neg h2] at h;simp only [zL,zanG] at h;exact HU (by rw [h.1];exact qy.symm)
theorem w6 {k x:Int} {s:BA} (h:okV k x s=true):k=0\/k=1\/k=2\/k=3\/k=4:=by
 by_cases k2:k=2
 ·omega
 ·unfold okV at h;rw [if_neg k2] at h;simp only [zL] at h;have h:=h.2;by_cases k0:k=0
  ·omega
  ·by_cases k1:k=1
   ·omega
   ·by_cases k3:k=3
    ·omega
    ·by_cases k4:k=4
     ·omega
     ·simp [k0,k1,k3,k4] at h
theorem OZ {k x:Int} {s:BA} (h:okV k x s=true):q7 (EN k x s)=(k,x,s,true):=by
 have key:FS (EN k x s)=(k,x,s)->q7 (EN k x s)=(k,x,s,true):=λhc=>by
  unfold q7;rw [hc,if_pos ⟨h,rfl⟩]
 apply key;rcases w6 h with rfl|rfl|rfl|rfl|rfl
 ·have he:=N3 h (by decide);subst he;have hx:x=0:=by simpa [okV,em,qy] using h
  subst hx;have:(EN 0 0 em).toList= []:=qy;unfold FS;rw [this];rfl
 ·have he:=N3 h (by decide);subst he;have hr:=u7 h;have ht:(EN 1 x em).toList=Lib.itoa x:=by rw [zao];simp [EN,Gk]
  have hp:=Qi ht hr;obtain ⟨c,r,hcr,hc⟩:∃c r,Lib.itoa x=c::r/\(c=45\/Ej c=true):=by
   unfold Lib.itoa;split
   ·exact ⟨45,_,rfl,.inl rfl⟩
   ·obtain ⟨c,r,h1,h2⟩:=OY x.toNat;exact ⟨c,r,h1,.inr h2⟩
  have hn:∀q:UInt8,Ej q=false->q≠45->c≠q:=λq h1 h2 e=>by
   subst e;rcases hc with hc|hc
   ·exact h2 hc
   ·rw [h1] at hc;cases hc
  have n39:=hn 39 (by decide) (by decide);have n35:=hn 35 (by decide) (by decide);have n70:=hn 70 (by decide) (by decide);have n84:=hn 84 (by decide) (by decide);unfold FS;rw [hp,ht,hcr];simp [n39,n35,n70,n84]
 ·have h2:=TV h;obtain ⟨rfl,_,_⟩:=h2;have ht:(EN 2 0 s).toList=39::s.toList:=by
   rw [zao];show ((⟨#[39]⟩:BA)++s).data.toList=_;rw [IM,zao];rfl
  have es:(⟨s.toList.toArray⟩:BA)=s:=HU (Eg _);unfold FS;rw [ht];simp [es]
 ·have he:=N3 h (by decide);subst he;have hr:=X0 h;have c:x=0\/x=1:=by omega
  rcases c with rfl|rfl
  ·have ht:(EN 3 0 em).toList= [70,65,76,83,69]:=by rw [zao];rfl
   unfold FS;rw [ht];rfl
  ·have ht:(EN 3 1 em).toList= [84,82,85,69]:=by rw [zao];rfl
   unfold FS;rw [ht];rfl
 ·have he:=N3 h (by decide);subst he;have hr:=X1 h;have t1:(qq 1).toList= [35,68,73,86,33]:=by rw [zao];rfl
  have t2:(qq 2).toList= [35,84,89,80,69,33]:=by rw [zao];rfl
  have t3:(qq 3).toList= [35,82,69,70,33]:=by rw [zao];rfl
  have t4:(qq 4).toList= [35,79,86,69,82,33]:=by rw [zao];rfl
  have t5:(qq 5).toList= [35,67,89,67,76,69,33]:=by rw [zao];rfl
  have hx:EN 4 x em=qq x:=rfl;rw [hx];rcases rn hr with rfl|rfl|rfl|rfl|rfl
  all_goals
   unfold FS Jj;simp [t1,t2,t3,t4,t5]
def rcK (s:BA):Nat->Int->Int
 |0,_=>0
 |k+1,i=>if (GI i).toList=s.toList then i else rcK s k (i+1)
def Ko (s:BA):Int:=rcK s 52 1
theorem di (s:BA):∀(k:Nat) (i:Int),1<=rcK s k i->(GI (rcK s k i)).toList=s.toList
 |0,i,h=>by simp [rcK] at h
 |k+1,i,h=>by
  simp only [rcK] at h⊢;by_cases e:(GI i).toList=s.toList
  ·rw [if_pos e];exact e
  ·rw [if_neg e] at h⊢;exact di s k (i+1) h
def J8 (c:UInt8):Bool:=decide (65<=c.toNat)&&decide (c.toNat<=90)
def qo (l:LBy):LBy:=if l.head?=some 36 then l.tail else l
def qf (l:LBy):LBy:=l.takeWhile J8
def D2 (l:LBy):LBy:=l.dropWhile J8
def Ec (s:BA):Int×Int×Bool×Bool×Bool:=
 if (l1I (qo (D2 (qo s.toList))) 2).2=true/\Ef (Ko ⟨(qf (qo s.toList)).toArray⟩) (l1I (qo (D2 (qo s.toList))) 2).1=true then
  (Ko ⟨(qf (qo s.toList)).toArray⟩,(l1I (qo (D2 (qo s.toList))) 2).1,s.toList.head?==some 36,(D2 (qo s.toList)).head?==some 36,true) else (0,0,false,false,false)
theorem Sf {R:Type} {B:BA×Int->Tr ((BA×Int)⊕(Int⊕Unit))} {s:BA} (hs:∀i:Int,1<=i/\i<=52->(B (s,i)).run=some (if (GI i).toList=s.toList then .inr (.inl i) else .inl (s,i+1))) (he:(B (s,53)).run=some (.inr (.inr ()))):
  ∀(k:Nat) (i:Int) (M:Nat),1<=i->i+k=53->k+1<=M->zF B M (s,i)=some (if rcK s k i=0 then .inr () else .inl (rcK s k i))
 |k,i,0,h1,h2,h3=>by omega
 |0,i,M+1,h1,h2,h3=>by
  have:i=53:=by omega
  subst this;rw [qe he];rfl
 |k+1,i,M+1,h1,h2,h3=>by
  have h:=hs i ⟨h1,by omega⟩;by_cases e:(GI i).toList=s.toList
  ·rw [if_pos e] at h;rw [qe h];simp only [rcK,if_pos e];rw [if_neg (by omega)]
  ·rw [if_neg e] at h;rw [qm h];simp only [rcK,if_neg e];exact Sf (R:=R) hs he k (i+1) M (by omega) (by omega) (by omega)
theorem w7 {F:Nat->Int->Option BA} (h:∀i,Ev (F · i) (GI i)):∃n0,∀n,n0<=n->∀i,1<=i/\i<=52->F n i=some (GI i):=by
 obtain ⟨n0,h1⟩:=FJ (F:=λ(i:Nat) n=>F n (i:Int)) (f:=λi=>GI (i:Int)) (List.range 53) (λi _=>h i);refine ⟨n0,λn hn i hi=>?_⟩;have:=h1 n hn i.toNat (by rw [List.mem_range];omega)
 rwa [Int.toNat_of_nonneg (by omega)] at this
theorem V7 (s:BA):Ev (Iu · s) (Ko s):=by
 obtain ⟨n0,h⟩:=w7 Pm;refine ⟨n0+60,λn hn=>?_⟩;obtain ⟨m,rfl,hm⟩:=up1 hn;have hc:=h m (by omega);have lp:=Sf (R:=Unit) (B:=HZ m) (s:=s) (λi hi=>by
  have g:=hc i hi;have w1:IntKind.i64.wrap (i+1)=i+1:=ql (by omega);simp only [HZ,qj,g,w1];rw [if_pos (zC hi.2)];by_cases e:(GI i).toList=s.toList<;>simp [e]) (by simp [HZ,qj]) 52 1 m (by decide) (by decide) (by omega)
 simp only [Iu,MU,qj,lp];show _=some (rcK s 52 1);by_cases e:rcK s 52 1=0
 ·rw [if_pos e,e];rfl
 ·rw [if_neg e];rfl
theorem V8 (s:BA):Ev (Kb · s) (Ko s):=by
 obtain ⟨n0,h⟩:=w7 Pk;refine ⟨n0+60,λn hn=>?_⟩;obtain ⟨m,rfl,hm⟩:=up1 hn;have hc:=h m (by omega);have lp:=Sf (R:=Unit) (B:=Hg m) (s:=s) (λi hi=>by
  have g:=hc i hi;have w1:IntKind.i64.wrap (i+1)=i+1:=ql (by omega);simp only [Hg,qj,g,w1];rw [if_pos (zC hi.2)];by_cases e:(GI i).toList=s.toList<;>simp [e]) (by simp [Hg,qj]) 52 1 m (by decide) (by decide) (by omega)
 simp only [Kb,Mm,qj,lp];show _=some (rcK s 52 1);by_cases e:rcK s 52 1=0
 ·rw [if_pos e,e];rfl
 ·rw [if_neg e];rfl
theorem Gl (b:BA):b.size=b.toList.length:=(EA b).symm
theorem W1 (b:BA) (k:Nat):(b.extract 0 k).toList=b.toList.take k:=by
 rw [zao,ByteArray.data_extract,Array.toList_extract,zao];show (b.data.toList.drop 0).take (k-0)=_;simp
theorem Kp (b:BA) (k:Nat):(b.extract k b.size).toList=b.toList.drop k:=by
 rw [zao,ByteArray.data_extract,Array.toList_extract,zao];have hl:b.data.toList.length=b.size:=by rw [<-H3]
 show (b.data.toList.drop k).take (b.size-k)=_;rw [List.take_of_length_le (by rw [List.length_drop,hl];exact zH _)]
theorem TZ (l:LBy):l.take (qf l).length=qf l:=by
 have h:=List.takeWhile_append_dropWhile (p:=J8) (l:=l);have h2:(List.takeWhile J8 l++List.dropWhile J8 l).take (List.takeWhile J8 l).length=List.takeWhile J8 l:=List.take_left ..;rw [h] at h2;exact h2
theorem O9 (l:LBy):l.drop (qf l).length=D2 l:=by
 have h:=List.takeWhile_append_dropWhile (p:=J8) (l:=l);have h2:(List.takeWhile J8 l++List.dropWhile J8 l).drop (List.takeWhile J8 l).length=List.dropWhile J8 l:=List.drop_left ..;rw [h] at h2;exact h2
theorem VN (l:LBy):(qf l).length<=l.length:=by
 have h:=congrArg List.length (List.takeWhile_append_dropWhile (p:=J8) (l:=l));rw [zamO] at h;unfold qf;omega
theorem Ta (n:Nat) (b:BA) (fc:Bool) (hb:b.size<=1048576):∀(r pre:LBy) (M:Nat),b.toList=pre++r->r.length+1<=M->
  zF (E9 n) M (b,(pre.length:Int),0,0,false,false,0,0,fc,false)=some (b,((pre.length+(qf r).length:Nat):Int),0,0,false,false,0,0,fc,false)
 |r,pre,0,h1,h2=>by omega
 | [],pre,M+1,h1,h2=>by
  have hi:¬(pre.length:Int)<b.size:=by rw [Gl,h1];simp
  rw [qe (r:=(b,(pre.length:Int),0,0,false,false,0,0,fc,false)) (by simp [E9,qj,hi])];simp [qf]
 |c::r,pre,M+1,h1,h2=>by
  have hl:b.size=pre.length+(r.length+1):=by rw [Gl,h1];simp
  have hi:(pre.length:Int)<b.size:=by omega
  have hg:b.toList[pre.length]?=some c:=by rw [h1];simp
  have w1:IntKind.i64.wrap ((pre.length:Int)+1)=(pre.length:Int)+1:=ql (by omega);by_cases hc:J8 c=true
  ·have hc':65<=c.toNat/\c.toNat<=90:=by simpa [J8] using hc
   have c1:(c.toNat:Int)≥65:=by omega
   have c2:(c.toNat:Int)<=90:=by omega
   have e0:((pre++ [c]).length:Int)=(pre.length:Int)+1:=by simp
   rw [qm (v':=(b,((pre++ [c]).length:Int),0,0,false,false,0,0,fc,false)) (by
    rw [e0];simp [E9,qj,hi,hg,c1,c2,w1])]
   rw [Ta n b fc hb r (pre++ [c]) M (by rw [h1];simp) (by simp at h2;omega)];simp [qf,hc];omega
  ·rw [qe (r:=(b,(pre.length:Int),0,0,false,false,0,0,fc,false)) (by
    by_cases c1:(c.toNat:Int)≥65
    ·have c2:¬(c.toNat:Int)<=90:=λh=>hc (by simp [J8];omega)
     simp [E9,qj,hi,hg,c1,c2]
    ·simp [E9,qj,hi,hg,c1])]
   simp [qf,hc]
theorem NY (s:BA) (hb:s.size<=1048576):Ev (FA · s) (Ec s):=by
 have main:∀(b:BA) (fc:Bool),b.size<=1048576->b.toList=qo s.toList->fc=(s.toList.head?==some 36)->
   ∃n0,∀m,n0<=m->zF (E9 m) m (b,0,0,0,false,false,0,0,fc,false)=some (b,((qf (qo s.toList)).length:Int),0,0,false,false,0,0,fc,false)/\
    Iu m (b.extract 0 (qf (qo s.toList)).length)=some (Ko ⟨(qf (qo s.toList)).toArray⟩)/\
    E8 m (b.extract (qf (qo s.toList)).length b.size) 2=some (l1I (D2 (qo s.toList)) 2)/\
    E8 m ((b.extract (qf (qo s.toList)).length b.size).extract 1 (b.extract (qf (qo s.toList)).length b.size).size) 2=some (l1I (D2 (qo s.toList)).tail 2):=λb fc hb hl _=>by
  have x1:b.extract 0 (qf (qo s.toList)).length=⟨(qf (qo s.toList)).toArray⟩:=HU (by rw [W1,hl,TZ,Eg (qf (qo s.toList))]);have x2:(b.extract (qf (qo s.toList)).length b.size).toList=D2 (qo s.toList):=by rw [Kp,hl,O9]
  have x3:((b.extract (qf (qo s.toList)).length b.size).extract 1 (b.extract (qf (qo s.toList)).length b.size).size).toList=(D2 (qo s.toList)).tail:=by rw [Kp,x2,List.drop_one]
  obtain ⟨n1,h1⟩:=V7 (b.extract 0 (qf (qo s.toList)).length);obtain ⟨n2,h2⟩:=Ij (b.extract (qf (qo s.toList)).length b.size) 2 (by decide);obtain ⟨n3,h3⟩:=Ij ((b.extract (qf (qo s.toList)).length b.size).extract 1 (b.extract (qf (qo s.toList)).length b.size).size) 2 (by decide);rw [x1] at h1;rw [x2] at h2;rw [x3] at h3;refine ⟨n1+n2+n3+b.size+2,λm hm=>⟨?_,by rw [x1];exact h1 m (by omega),h2 m (by omega),h3 m (by omega)⟩⟩;have:=Ta m b fc hb b.toList [] m rfl (by rw [<-Gl];omega);simp only [zanD,Int.natCast_zero,Nat.zero_add] at this;rw [this,hl]
 have z:∀(b:BA),b.toList=qo s.toList->((qf (qo s.toList)).length:Int)<=b.size:=λb hl=>by
  have:=VN (qo s.toList);rw [<-hl] at this⊢;rw [Gl];omega
 have k36:∀c:UInt8,((c.toNat:Int)==36)=(some c==some 36):=λc=>by
  have h:=iz c 36 (by decide);have u:UInt8.ofNat 36=36:=rfl;rw [u] at h;exact h
 unfold Ec;have part:∀(b:BA) (fc:Bool),b.size<=1048576->b.toList=qo s.toList->fc=(s.toList.head?==some 36)->
   ((fc=true/\b=s.extract 1 s.size/\∃c r,s.toList=c::r/\c=36)\/(fc=false/\b=s/\∀c r,s.toList=c::r->(some c==some (36:UInt8))=false))->
   Ev (FA · s) (if (l1I (qo (D2 (qo s.toList))) 2).2=true/\Ef (Ko ⟨(qf (qo s.toList)).toArray⟩) (l1I (qo (D2 (qo s.toList))) 2).1=true then
    (Ko ⟨(qf (qo s.toList)).toArray⟩,(l1I (qo (D2 (qo s.toList))) 2).1,s.toList.head?==some 36,(D2 (qo s.toList)).head?==some 36,true) else (0,0,false,false,false)):=λb fc hb2 hl hfc hcase=>by
  obtain ⟨n0,hm0⟩:=main b fc hb2 hl hfc;have hz:=z b hl;obtain ⟨n2,h2⟩:=Hu (Ko ⟨(qf (qo s.toList)).toArray⟩) (l1I (qo (D2 (qo s.toList))) 2).1;have x2:(b.extract (qf (qo s.toList)).length b.size).toList=D2 (qo s.toList):=by rw [Kp,hl,O9]
  rw [<-hfc];refine ⟨n0+n2+1,λn hn=>?_⟩;obtain ⟨m,rfl,hm⟩:=up1 hn;obtain ⟨g1,g2,g3,g4⟩:=hm0 m (by omega);have h2:=h2 m (by omega);dsimp only at h2;have e1:(1:Int).toNat=1:=rfl;have e0:(0:Int).toNat=0:=rfl;have start:∀q,(HA m s).run=q->FA (m+1) s=q:=λq h=>h
  apply start;rcases hcase with ⟨rfl,rfl,c,r,hcr,rfl⟩|⟨rfl,rfl,hno⟩
  ·have hsz:(s.size:Int)>0:=by rw [Gl,hcr];simp<;>omega
   have hs1:(1:Int)<=s.size:=by omega
   have hg:s.toList[0]?=some 36:=by rw [hcr];rfl
   have bs:(s.extract 1 s.size).size=s.size-1:=by rw [Gl,Kp,List.length_drop,<-Gl]
   have zn:(qf (qo s.toList)).length<=s.size-1:=by rw [<-bs];omega
   have sn:0<s.size:=by omega
   have c36:((((36:UInt8)).toNat:Int)==36)=true:=rfl;simp only [HA,Gw,Gx,qj,cT,e0,e1,hg,c36,g1,g2];cases hq:D2 (qo s.toList) with
   |nil=>
    have y0:((s.extract 1 s.size).extract (qf (qo s.toList)).length (s.extract 1 s.size).size).size=0:=by rw [Gl,x2,hq];rfl
    have hoff:qo (D2 (qo s.toList))= []:=by rw [hq];rfl
    rw [hoff] at h2;rw [hq] at g3;simp only [y0,g3,h2,qj];have hoff':qo ([]:LBy)= []:=rfl;rw [hoff'];generalize l1I ([]:LBy) 2=q at*
    obtain ⟨x,ok⟩:=q;cases ok<;>cases hk:Ef (Ko ⟨(qf (qo s.toList)).toArray⟩) x<;>simp [hz,hsz,hs1,zn,sn]
   |cons d w=>
    have y0:(((s.extract 1 s.size).extract (qf (qo s.toList)).length (s.extract 1 s.size).size).size:Int)>0:=by rw [Gl,x2,hq];simp<;>omega
    have y1:(1:Int)<=((s.extract 1 s.size).extract (qf (qo s.toList)).length (s.extract 1 s.size).size).size:=by omega
    have ys:((s.extract 1 s.size).extract (qf (qo s.toList)).length (s.extract 1 s.size).size).size=(s.extract 1 s.size).size-(qf (qo s.toList)).length:=by rw [Gl,Kp,List.length_drop,<-Gl]
    have yn:(qf (qo s.toList)).length<(s.size-1):=by rw [<-bs];omega
    have yn2:1<=(s.size-1)-(qf (qo s.toList)).length:=by omega
    have yn3:0<(s.size-1)-(qf (qo s.toList)).length:=by omega
    have yn4:(1:Int)<=(((s.size-1)-(qf (qo s.toList)).length:Nat):Int):=by omega
    have yg:((s.extract 1 s.size).extract (qf (qo s.toList)).length (s.extract 1 s.size).size).toList[0]?=some d:=by rw [x2,hq];rfl
    rw [hq] at g3 g4 h2;simp only [yg,k36 d,qj];by_cases hd:d=36
    ·have hoff:qo (d::w)=w:=by unfold qo;rw [if_pos (by rw [hd];rfl)];rfl
     rw [hoff] at h2⊢;have e36:(some d==some (36:UInt8))=true:=by rw [hd];rfl
     simp only [List.tail_cons] at g4;simp only [e36,g4,h2,List.head?_cons,qj];generalize l1I w 2=q at*
     obtain ⟨x,ok⟩:=q;cases ok<;>cases hk:Ef (Ko ⟨(qf (qo s.toList)).toArray⟩) x<;>simp [hz,hsz,hs1,y0,y1,zn,sn,yn,yn2,yn3,yn4]
    ·have hoff:qo (d::w)=d::w:=by unfold qo;rw [if_neg (by simpa using hd)]
     rw [hoff] at h2⊢;have e36:(some d==some (36:UInt8))=false:=by simpa using hd
     simp only [e36,g3,h2,List.head?_cons,qj];generalize l1I (d::w) 2=q at*
     obtain ⟨x,ok⟩:=q;cases ok<;>cases hk:Ef (Ko ⟨(qf (qo s.toList)).toArray⟩) x<;>simp [hz,hsz,hs1,y0,y1,zn,sn,yn,yn2,yn3,yn4]
  ·by_cases hs0:(b.size:Int)>0
   ·obtain ⟨c,r,hcr⟩:∃c r,b.toList=c::r:=by
     cases hq:b.toList with
     |nil=>rw [Gl,hq] at hs0;simp at hs0
     |cons a l=>exact ⟨a,l,rfl⟩
    have hg:b.toList[0]?=some c:=by rw [hcr];rfl
    have hc:=hno c r hcr;have hsz:(b.size:Int)>0:=hs0;have hs1:(1:Int)<=b.size:=by omega
    have zn:(qf (qo b.toList)).length<=b.size:=by omega
    have sn:0<b.size:=by omega
    simp only [HA,Gw,Gx,qj,cT,e0,e1,hg,k36 c,hc,g1,g2];cases hq:D2 (qo b.toList) with
    |nil=>
     have y0:(b.extract (qf (qo b.toList)).length b.size).size=0:=by rw [Gl,x2,hq];rfl
     have hoff:qo (D2 (qo b.toList))= []:=by rw [hq];rfl
     rw [hoff] at h2;rw [hq] at g3;simp only [y0,g3,h2,qj];have hoff':qo ([]:LBy)= []:=rfl;rw [hoff'];generalize l1I ([]:LBy) 2=q at*
     obtain ⟨x,ok⟩:=q;cases ok<;>cases hk:Ef (Ko ⟨(qf (qo b.toList)).toArray⟩) x<;>simp [hz,hsz,hs1,zn,sn]
    |cons d w=>
     have y0:((b.extract (qf (qo b.toList)).length b.size).size:Int)>0:=by rw [Gl,x2,hq];simp<;>omega
     have y1:(1:Int)<=(b.extract (qf (qo b.toList)).length b.size).size:=by omega
     have ys:(b.extract (qf (qo b.toList)).length b.size).size=b.size-(qf (qo b.toList)).length:=by rw [Gl,Kp,List.length_drop,<-Gl]
     have yn:(qf (qo b.toList)).length<b.size:=by omega
     have yn2:1<=b.size-(qf (qo b.toList)).length:=by omega
     have yn3:0<b.size-(qf (qo b.toList)).length:=by omega
     have yn4:(1:Int)<=((b.size-(qf (qo b.toList)).length:Nat):Int):=by omega
     have yg:(b.extract (qf (qo b.toList)).length b.size).toList[0]?=some d:=by rw [x2,hq];rfl
     rw [hq] at g3 g4 h2;simp only [yg,k36 d,qj];by_cases hd:d=36
     ·have hoff:qo (d::w)=w:=by unfold qo;rw [if_pos (by rw [hd];rfl)];rfl
      rw [hoff] at h2⊢;have e36:(some d==some (36:UInt8))=true:=by rw [hd];rfl
      simp only [List.tail_cons] at g4;simp only [e36,g4,h2,List.head?_cons,qj];generalize l1I w 2=q at*
      obtain ⟨x,ok⟩:=q;cases ok<;>cases hk:Ef (Ko ⟨(qf (qo b.toList)).toArray⟩) x<;>simp [hz,hsz,hs1,y0,y1,zn,sn,yn,yn2,yn3,yn4]
     ·have hoff:qo (d::w)=d::w:=by unfold qo;rw [if_neg (by simpa using hd)]
      rw [hoff] at h2⊢;have e36:(some d==some (36:UInt8))=false:=by simpa using hd
      simp only [e36,g3,h2,List.head?_cons,qj];generalize l1I (d::w) 2=q at*
      obtain ⟨x,ok⟩:=q;cases ok<;>cases hk:Ef (Ko ⟨(qf (qo b.toList)).toArray⟩) x<;>simp [hz,hsz,hs1,y0,y1,zn,sn,yn,yn2,yn3,yn4]
   ·have hsz:¬(b.size:Int)>0:=hs0;have hs1:True:=trivial;have zn:(qf (qo b.toList)).length<=b.size:=by omega
    have sn:b.size=0:=by omega
    have lb:b.toList= []:=bR (by rw [<-Gl];omega);have hb0:D2 (qo b.toList)= []:=by rw [lb];rfl
    have ln:qf (qo b.toList)= []:=by rw [lb];rfl
    simp only [HA,Gw,Gx,qj,cT,e0,e1,g1,g2];cases hq:D2 (qo b.toList) with
    |nil=>
     have y0:(b.extract (qf (qo b.toList)).length b.size).size=0:=by rw [Gl,x2,hq];rfl
     have hoff:qo (D2 (qo b.toList))= []:=by rw [hq];rfl
     rw [hoff] at h2;rw [hq] at g3;simp only [y0,g3,h2,qj];have hoff':qo ([]:LBy)= []:=rfl;rw [hoff'];generalize l1I ([]:LBy) 2=q at*
     obtain ⟨x,ok⟩:=q;cases ok<;>cases hk:Ef (Ko ⟨(qf (qo b.toList)).toArray⟩) x<;>simp [hz,hsz,hs1,zn,sn,ln]
    |cons d w=>rw [hb0] at hq;cases hq
 by_cases h36:s.toList.head?=some 36
 ·have ho:qo s.toList=s.toList.tail:=by unfold qo;rw [if_pos h36]
  have ht:(s.extract 1 s.size).toList=s.toList.tail:=by rw [Kp,List.drop_one]
  obtain ⟨c,r,hcr⟩:∃c r,s.toList=c::r:=by
   cases hq:s.toList with
   |nil=>rw [hq] at h36;cases h36
   |cons a l=>exact ⟨a,l,rfl⟩
  refine part (s.extract 1 s.size) true (by rw [Gl,ht,List.length_tail,<-Gl];omega) (by rw [ht,ho]) (by rw [h36];rfl) (.inl ⟨rfl,rfl,c,r,hcr,?_⟩);rw [hcr] at h36;simpa using h36
 ·have ho:qo s.toList=s.toList:=by unfold qo;rw [if_neg h36]
  refine part s false hb ho.symm (by symm;simpa using h36) (.inr ⟨rfl,rfl,λc r hcr=>?_⟩);rw [hcr] at h36;simpa using h36
def upS:BA:=⟨#[65,66,67,68,69,70,71,72,73,74,75,76,77,78,79,80,81,82,83,84,85,86,87,88,89,90]⟩
theorem ml:∀i:Fin 256,(upS.data.toList.contains (UInt8.ofNat i.val))=(decide (65<=i.val)&&decide (i.val<=90)):=by decide+kernel
theorem oq (c:UInt8):(upS.data.toList.contains c)=J8 c:=by
 have h:=ml ⟨c.toNat,UInt8.toNat_lt c⟩;have e:UInt8.ofNat c.toNat=c:=by simp
 simp only [e] at h;exact h
theorem dj:(upS.data.toList.all λb=>decide (b.toNat<128))=true:=by decide+kernel
theorem ZM (s:BA):Ev (Fv · s ⟨#[65,66,67,68,69,70,71,72,73,74,75,76,77,78,79,80,81,82,83,84,85,86,87,88,89,90]⟩) ⟨(D2 s.toList).toArray⟩:=by
 refine ⟨1,λn hn=>?_⟩;obtain ⟨m,rfl,hm⟩:=up1 hn;show za s upS=_;unfold za;rw [if_pos ⟨by decide,dj⟩];unfold Lib.trimLeftS D2;rw [zao];have:(λc=>upS.data.toList.contains c)=J8:=funext oq;rw [this]
theorem ZN (s:BA):Ev (EX · s ⟨#[36]⟩) (⟨(qo s.toList).toArray⟩,s.toList.head?==some 36):=by
 have h:=MH s 36;have es:(⟨s.toList.toArray⟩:BA)=s:=HU (Eg s.toList);by_cases e:s.toList.head?=some 36
 ·rw [if_pos e] at h;have:(s.toList.head?==some 36)=true:=by simpa using e
  unfold qo;rw [if_pos e,this];exact h
 ·rw [if_neg e] at h;have:(s.toList.head?==some 36)=false:=by simpa using e
  unfold qo;rw [if_neg e,this,es];exact h
theorem Yq {r:Int} (h:1<=r/\r<=99):l1I (Lib.itoa r) 2=(r,true):=by
 have e:Lib.itoa r=Lib.decDigits r.toNat:=by unfold Lib.itoa;rw [if_neg (by omega)]
 obtain ⟨h1,h2,h3,_,_⟩:=HV r.toNat;have hl:(Lib.decDigits r.toNat).length<=2:=by
  rw [Lib.decDigits_length];exact lw 2 r.toNat (by omega) (by
   have:(10:Nat)^2=100:=by decide
   omega)
 rw [e];unfold l1I;rw [if_pos ⟨by omega,X2 _⟩,h2]
 congr 1
 omega
theorem ot {l:LBy} (h:(l1I l 2).2=true):(l1I l 2).1=(E7 0 l:Int)/\Lib.decDigits (E7 0 l)=l:=by
 unfold l1I at h⊢;split at h
 ·rename_i hc;rw [if_pos hc];exact ⟨rfl,Uy _ l rfl hc.2⟩
 ·cases h
theorem dk (s:BA):Ec s=if Ef (Ko ⟨(qf (qo s.toList)).toArray⟩) (GW ⟨(qo (D2 (qo s.toList))).toArray⟩)=true/\
  (EF (Ko ⟨(qf (qo s.toList)).toArray⟩) (GW ⟨(qo (D2 (qo s.toList))).toArray⟩) (s.toList.head?==some 36) ((D2 (qo s.toList)).head?==some 36)).toList=s.toList then
   (Ko ⟨(qf (qo s.toList)).toArray⟩,GW ⟨(qo (D2 (qo s.toList))).toArray⟩,s.toList.head?==some 36,(D2 (qo s.toList)).head?==some 36,true) else (0,0,false,false,false):=by
 have hoff:∀l:LBy,l=(if (l.head?==some 36)=true then [36] else [])++qo l:=λl=>by
  unfold qo;cases l with
  |nil=>rfl
  |cons c r=>
   by_cases e:c=36
   ·subst e;simp
   ·simp [e]
 have hsplit:qo s.toList=qf (qo s.toList)++D2 (qo s.toList):=(List.takeWhile_append_dropWhile (p:=J8) (l:=qo s.toList)).symm;have hs:s.toList=(if (s.toList.head?==some 36)=true then [36] else [])++qf (qo s.toList)++(if ((D2 (qo s.toList)).head?==some 36)=true then [36] else [])++qo (D2 (qo s.toList)):=by
  conv=>lhs;rw [hoff s.toList,hsplit,hoff (D2 (qo s.toList))]
  simp only [List.append_assoc]
 unfold Ec;generalize hL:qf (qo s.toList)=L at*
 generalize hR:qo (D2 (qo s.toList))=R at*
 generalize (s.toList.head?==some 36)=fc at*
 generalize ((D2 (qo s.toList)).head?==some 36)=fr at*
 have col:∀r,Ef (Ko ⟨L.toArray⟩) r=true->(GI (Ko ⟨L.toArray⟩)).data.toList=L:=λr h=>by
  have:=di (⟨L.toArray⟩:BA) 52 1 (Ji h).1.1;rw [Eg L,zao] at this;exact this
 have pl:∀r,Ef (Ko ⟨L.toArray⟩) r=true->(EF (Ko ⟨L.toArray⟩) r fc fr).toList=(if fc=true then [36] else [])++L++(if fr=true then [36] else [])++Lib.itoa r:=λr h=>by
  rw [zao];unfold EF;rw [if_pos h,col r h];simp [Gk]
 have tR:(⟨R.toArray⟩:BA).toList=R:=Eg R;by_cases hA:(l1I R 2).2=true/\Ef (Ko ⟨L.toArray⟩) (l1I R 2).1=true
 ·obtain ⟨a1,a2⟩:=ot hA.1;have hr:=(Ji hA.2).2;have hi:R=Lib.itoa (l1I R 2).1:=by
   rw [a1];unfold Lib.itoa;rw [if_neg (by omega),cT,a2]
  have hp:GW ⟨R.toArray⟩=(l1I R 2).1:=Qi (by rw [tR];exact hi) (by omega);rw [if_pos hA,hp,if_pos ⟨hA.2,by rw [pl _ hA.2,<-hi];exact hs.symm⟩]
 ·rw [if_neg hA,if_neg];rintro ⟨h1,h2⟩;rw [pl _ h1] at h2;have h3:R=Lib.itoa (GW ⟨R.toArray⟩):=by
   rw [hs] at h2;exact (List.append_cancel_left h2).symm
  have h4:=Yq (Ji h1).2;rw [<-h3] at h4;exact hA (by rw [h4];exact ⟨rfl,h1⟩)
theorem NZ (s:BA) (hb:s.size<=1048576):Ev (Em · s) (Ec s):=by
 rw [dk];have hlen:=VN (qo s.toList);have lo:(qo s.toList).length<=s.size:=by
  unfold qo;rw [Gl];split
  ·rw [List.length_tail];omega
  ·exact zH _
 have l2:(D2 (qo s.toList)).length+(qf (qo s.toList)).length=(qo s.toList).length:=by
  have h:=congrArg List.length (List.takeWhile_append_dropWhile (p:=J8) (l:=qo s.toList));rw [zamO] at h;unfold D2 qf;omega
 have z1:(⟨(qo s.toList).toArray⟩:BA).size=(qo s.toList).length:=by rw [Gl,Eg (qo s.toList)]
 have z2:(⟨(D2 (qo s.toList)).toArray⟩:BA).size=(D2 (qo s.toList)).length:=by rw [Gl,Eg (D2 (qo s.toList))]
 have w1:IntKind.i64.wrap (((qo s.toList).length:Int)-(D2 (qo s.toList)).length)=((qf (qo s.toList)).length:Int):=by rw [ql (by omega)];omega
 have x1:(⟨(qo s.toList).toArray⟩:BA).extract 0 (qf (qo s.toList)).length=⟨(qf (qo s.toList)).toArray⟩:=HU (by rw [W1,Eg (qo s.toList),TZ,Eg (qf (qo s.toList))]);have x2:(⟨(qo s.toList).toArray⟩:BA).extract (qf (qo s.toList)).length (qo s.toList).length=⟨(D2 (qo s.toList)).toArray⟩:=HU (by rw [<-z1,Kp,Eg (qo s.toList),O9,Eg (D2 (qo s.toList))]);have lr:(⟨(qo (D2 (qo s.toList))).toArray⟩:BA).size<=281474976710656:=by
  rw [Gl,Eg (qo (D2 (qo s.toList)))];have:(qo (D2 (qo s.toList))).length<=(D2 (qo s.toList)).length:=by
   generalize D2 (qo s.toList)=q;unfold qo;split
   ·rw [List.length_tail];omega
   ·exact zH _
  omega
 obtain ⟨n1,h1⟩:=ZN s;obtain ⟨n2,h2⟩:=ZM ⟨(qo s.toList).toArray⟩;rw [Eg (qo s.toList)] at h2;obtain ⟨n3,h3⟩:=V8 ⟨(qf (qo s.toList)).toArray⟩;obtain ⟨n4,h4⟩:=ZN ⟨(D2 (qo s.toList)).toArray⟩;rw [Eg (D2 (qo s.toList))] at h4;generalize qo s.toList=A at*
 generalize D2 A=Bq at*
 generalize qf A=L at*
 generalize qo Bq=R at*
 generalize (s.toList.head?==some 36)=fc at*
 generalize (Bq.head?==some 36)=fr at*
 obtain ⟨n5,h5⟩:=Hw (Ko ⟨L.toArray⟩) (GW ⟨R.toArray⟩);obtain ⟨n6,h6⟩:=Hn (Ko ⟨L.toArray⟩) (GW ⟨R.toArray⟩) fc fr;have e0:(0:Int).toNat=0:=rfl;have c1:L.length<=A.length:=by omega
 rcases VL ⟨R.toArray⟩ lr with ⟨n7,h7⟩|⟨n7,h7⟩
 all_goals
  refine ⟨n1+n2+n3+n4+n5+n6+n7+1,λn hn=>?_⟩;obtain ⟨m,rfl,hm⟩:=up1 hn;have h1:=h1 m (by omega);have h2:=h2 m (by omega);have h3:=h3 m (by omega);have h4:=h4 m (by omega);have h5:=h5 m (by omega);have h6:=h6 m (by omega);have h7:=h7 m (by omega);dsimp only at h1 h2 h3 h4 h5 h6 h7;simp only [Em,K8,JX,qj,h1,h2,z1,z2,w1,cT,e0,x1,x2,h3,h4,h5,h6,h7];cases hk:Ef (Ko ⟨L.toArray⟩) (GW ⟨R.toArray⟩) with
  |false=>simp [c1]
  |true=>by_cases e:(EF (Ko ⟨L.toArray⟩) (GW ⟨R.toArray⟩) fc fr).toList=s.toList<;>simp [c1,e]
theorem dl:∀i:Fin 52,Ko (GI ((i.val:Int)+1))=(i.val:Int)+1:=by decide+kernel
theorem br {c:Int} (h:1<=c/\c<=52):Ko (GI c)=c:=by
 have:=dl ⟨(c-1).toNat,by omega⟩;have e:(((c-1).toNat:Nat):Int)+1=c:=by omega
 simpa only [e] using this
theorem dm:∀i:Fin 52,(GI ((i.val:Int)+1)).data.toList.all J8=true/\(GI ((i.val:Int)+1)).data.toList.head?≠some 36/\(GI ((i.val:Int)+1)).data.toList≠ []:=by decide+kernel
theorem WC {c:Int} (h:1<=c/\c<=52):(GI c).data.toList.all J8=true/\(GI c).data.toList.head?≠some 36/\(GI c).data.toList≠ []:=by
 have:=dm ⟨(c-1).toNat,by omega⟩;have e:(((c-1).toNat:Nat):Int)+1=c:=by omega
 simpa only [e] using this
theorem ZO {l r:LBy} (h:l.all J8=true) (h2:∀c,r.head?=some c->J8 c=false):qf (l++r)=l/\D2 (l++r)=r:=by
 unfold qf D2;rw [zamK] at h;rw [List.takeWhile_append_of_pos h,List.dropWhile_append_of_pos h];cases r with
 |nil=>simp
 |cons c r=>simp [h2 c rfl]
theorem ZP (l:LBy):qo (36::l)=l:=rfl
theorem dp {l:LBy} (h:l.head?≠some 36):qo l=l:=by unfold qo;rw [if_neg h]
theorem M0 {c r:Int} {fc fr:Bool} (h:Ef c r=true):Ec (EF c r fc fr)=(c,r,fc,fr,true):=by
 obtain ⟨hc,hr⟩:=Ji h;obtain ⟨u1,u2,u3⟩:=WC hc;have ht:(EF c r fc fr).toList=(if fc=true then [36] else [])++((GI c).data.toList++((if fr=true then [36] else [])++Lib.itoa r)):=by
  rw [zao];simp [EF,h,Gk]
 have hi:∃d w,Lib.itoa r=d::w/\Ej d=true:=by
  unfold Lib.itoa;rw [if_neg (by omega)];exact OY _
 obtain ⟨d,w,hdw,hd⟩:=hi;have hd1:J8 d=false:=by
  simp only [Ej,zL,aG] at hd;simp [J8];omega
 have hd2:d≠36:=λe=>by rw [e] at hd;cases hd
 have e1:qo (EF c r fc fr).toList=(GI c).data.toList++((if fr=true then [36] else [])++Lib.itoa r):=by
  rw [ht];cases fc with
  |true=>exact ZP _
  |false=>
   refine dp ?_;cases hq:(GI c).data.toList with
   |nil=>exact absurd hq u3
   |cons a b=>rw [hq] at u2;simpa using u2
 have e2:=ZO (l:=(GI c).data.toList) (r:=(if fr=true then [36] else [])++Lib.itoa r) u1 (λq hq=>by
  cases fr with
  |true=>simp at hq;rw [<-hq];decide
  |false=>simp [hdw] at hq;rw [<-hq];exact hd1)
 have e3:qo ((if fr=true then [36] else [])++Lib.itoa r)=Lib.itoa r:=by
  cases fr with
  |true=>exact ZP _
  |false=>exact dp (by simp [hdw,hd2])
 unfold Ec;rw [e1,e2.1,e2.2,e3,Yq hr];have hm:(⟨((GI c).data.toList).toArray⟩:BA)=GI c:=by simp
 rw [hm,br hc,if_pos ⟨rfl,h⟩];have q1:((EF c r fc fr).toList.head?==some 36)=fc:=by
  rw [ht];cases fc with
  |true=>rfl
  |false=>
   cases hq:(GI c).data.toList with
   |nil=>exact absurd hq u3
   |cons a b=>rw [hq] at u2;simpa using u2
 have q2:(((if fr=true then [36] else [])++Lib.itoa r).head?==some (36:UInt8))=fr:=by
  cases fr with
  |true=>rfl
  |false=>simp [hdw,hd2]
 rw [q1,q2]
theorem X6 {l:RW} {p:Int} (k:Int) (hk:1<=k/\k<=1000000) (hl:Lx l) (hp:0<=p/\p<=l.length):∃(a p':Int),(0<=p'/\p'<=l.length)/\(0<=a/\a<k)/\∀n,2<=n->qd n k l p=some (a,l,p'):=by
 by_cases h:k=1
 ·subst h;refine ⟨0,p,hp,by decide,λn hn=>?_⟩;obtain ⟨m,rfl,hm⟩:=up1 hn;simp [qd,HW,qj]
 ·exact FC k (by omega) hl hp
theorem X7:∀{rows:RW} {bl:LBy} (a:Int),bytesOf rows=some bl->∃c,bytesOf (rows++ [[.i .u8 a]])=some (bl++ [c])
 | [],bl,a,h=>by
  simp only [bytesOf,zS] at h;subst h;exact ⟨_,rfl⟩
 |r::rows,bl,a,h=>by
  unfold bytesOf at h;split at h
  ·rename_i heq;cases heq
  ·rename_i x rs heq;cases heq;obtain ⟨q,hq,rfl⟩:=zD.1 h;obtain ⟨c,hc⟩:=X7 a hq;refine ⟨c,?_⟩;simp only [List.cons_append,bytesOf,hc,zamW]
  ·cases h
theorem X8:∀{rows:RW} {bl:LBy},bytesOf rows=some bl->bl.length=rows.length
 | [],bl,h=>by
  simp only [bytesOf,zS] at h;subst h;rfl
 |r::rows,bl,h=>by
  unfold bytesOf at h;split at h
  ·rename_i heq;cases heq
  ·rename_i x rs heq;cases heq;obtain ⟨q,hq,rfl⟩:=zD.1 h;simp [X8 hq]
  ·cases h
theorem W2 {l:RW} (hl:Lx l):∀(m:Nat) (rows:RW) (bl:LBy) (p:Int),bytesOf rows=some bl->rows.length+m<=1000->(0<=p/\p<=l.length)->∃(rows':RW) (bl':LBy) (p':Int),(0<=p'/\p'<=l.length)/\bytesOf rows'=some bl'/\rows'.length=rows.length+m/\∀n M,2<=n->m+1<=M->zF (Gj n) M (rows.length,(m:Int),rows,l,p)=some (rows'.length,rows',l,p')
 |0,rows,bl,p,hb,hr,hp=>by
  refine ⟨rows,bl,p,hp,hb,rfl,λn M hn hM=>?_⟩;obtain ⟨M,rfl⟩:∃q,M=q+1:=⟨M-1,by omega⟩;rw [qe (r:=(rows.length,rows,l,p)) (by simp [Gj,qj])]
 |m+1,rows,bl,p,hb,hr,hp=>by
  obtain ⟨a,p1,h1,h2,h3⟩:=FC 256 (by decide) hl hp;obtain ⟨c,hc⟩:=X7 (IntKind.u8.wrap a) hb;obtain ⟨rows',bl',p2,h4,h5,h6,h7⟩:=W2 hl m (rows++ [[.i .u8 (IntKind.u8.wrap a)]]) _ p1 hc (by simp;omega) h1;refine ⟨rows',bl',p2,h4,h5,by rw [h6];simp;omega,λn M hn hM=>?_⟩;obtain ⟨M,rfl⟩:∃q,M=q+1:=⟨M-1,by omega⟩;have h3:=h3 n hn;have w1:IntKind.i64.wrap (((m+1:Nat):Int)-1)=(m:Int):=by rw [ql (by omega)];omega
  have h8:=h7 n M hn (by omega);have e:(rows++ [[PV.i .u8 (IntKind.u8.wrap a)]]).length=rows.length+1:=by simp
  rw [e] at h8;rw [qm (v':=(rows.length+1,(m:Int),rows++ [[PV.i .u8 (IntKind.u8.wrap a)]],l,p1)) (by
   have g1:((m+1:Nat):Int)>0:=by omega
   have g2:rows.length+1<=140737488355328:=by omega
   simp only [Gj,qj,h3,w1];simp [g1,g2])]
  exact h8
theorem dq {l:RW} {p:Int} (k:Nat) (hk:1<=k/\k<=200) (hl:Lx l) (hp:0<=p/\p<=l.length):∃(t:BA) (p':Int),(0<=p'/\p'<=l.length)/\t.size<=k/\∀n,k+5<=n->Hk n (k:Int) l p=some (t,l,p'):=by
 obtain ⟨a,p1,h1,h2,h3⟩:=FC ((k:Int)+1) (by omega) hl hp;obtain ⟨rows,bl,p2,h4,h5,h6,h7⟩:=W2 hl a.toNat [] [] p1 rfl (by simp;omega) h1;refine ⟨⟨bl.toArray⟩,p2,h4,?_,λn hn=>?_⟩
 ·have:=X8 h5;show bl.toArray.size<=k;simp at h6;simp;omega
 ·obtain ⟨m,rfl,hm⟩:=up1 (n0:=k+4) hn;have h3:=h3 m (by omega);have h7:=h7 m m (by omega) (by omega);have w1:IntKind.i64.wrap ((k:Int)+1)=(k:Int)+1:=ql (by omega);have e:((a.toNat:Nat):Int)=a:=by omega
  rw [e] at h7;simp only [zanD] at h7;simp [Hk,Kk,qj,h3,h7,w1,h5]
theorem jb {l:RW} {p:Int} (s:BA) (hs:s.size<=200000) (hl:Lx l) (hp:0<=p/\p<=l.length):∃(t:BA) (p':Int),(0<=p'/\p'<=l.length)/\t.size<=s.size+10/\∀n,10<=n->Ff n s l p=some (t,l,p'):=by
 have ex:∀a b:Nat,a<=b->b<=s.size->(s.extract a b).size=b-a:=λa b h1 h2=>by
  rw [ByteArray.size_extract];omega
 obtain ⟨a,p1,h1,h2,h3⟩:=FC 6 (by decide) hl hp;have c:a=0\/a=1\/a=2\/(a=3\/a=4\/a=5):=by omega
 rcases c with rfl|rfl|rfl|c
 ·obtain ⟨t,p2,h4,h5,h6⟩:=dq 2 (by decide) hl h1;refine ⟨s++t,p2,h4,by rw [ze];omega,λn hn=>?_⟩;obtain ⟨m,rfl,hm⟩:=up1 hn;have h3:=h3 m (by omega);have h6:=h6 m (by omega);have z:s.size+t.size<=9223372036854775807:=by omega
  have h6:Hk m 2 l p1=some (t,l,p2):=h6;simp [Ff,GV,qj,h3,h6,z]
 ·obtain ⟨b,p2,h4,h5,h6⟩:=X6 ((s.size:Int)+1) (by omega) hl h1;refine ⟨s.extract 0 b.toNat,p2,h4,by rw [ex _ _ (by omega) (by omega)];omega,λn hn=>?_⟩;obtain ⟨m,rfl,hm⟩:=up1 hn;have h3:=h3 m (by omega);have h6:=h6 m (by omega);have w1:IntKind.i64.wrap ((s.size:Int)+1)=(s.size:Int)+1:=ql (by omega);have z:b<=s.size:=by omega
  simp [Ff,GV,qj,h3,h6,w1,z,h5.1]
 ·by_cases h0:(s.size:Int)>0
  ·obtain ⟨b,p2,h4,h5,h6⟩:=X6 (s.size:Int) (by omega) hl h1;obtain ⟨d,p3,h7,h8,h9⟩:=FC 6 (by decide) hl h4;have c:d=0\/d=1\/d=2\/d=3\/d=4\/d=5:=by omega
   have key:∀u:BA,u.size=1->(([[(.s (⟨#[65]⟩:BA))],[(.s (⟨#[49]⟩:BA))],[(.s (⟨#[40]⟩:BA))],[(.s (⟨#[44]⟩:BA))],[(.s (⟨#[34]⟩:BA))],[(.s (⟨#[32]⟩:BA))]]:RW)[d.toNat]?=some [.s u])->∃(t:BA) (p':Int),(0<=p'/\p'<=l.length)/\t.size<=s.size+10/\∀n,10<=n->Ff n s l p=some (t,l,p'):=λu hu hg=>by
    have z1:=ex 0 b.toNat (by omega) (by omega);have z2:=ex (b+1).toNat s.size (by omega) (by omega);refine ⟨(s.extract 0 b.toNat++u)++s.extract (b+1).toNat s.size,p3,h7,by rw [ze,ze];omega,λn hn=>?_⟩;obtain ⟨m,rfl,hm⟩:=up1 hn;have h3:=h3 m (by omega);have h6:=h6 m (by omega);have h9:=h9 m (by omega);have w1:IntKind.i64.wrap (b+1)=b+1:=ql (by omega);have y1:(0:Int)<=(0:Int)/\(0:Int)<=b/\b<=s.size:=by omega
    have y2:0<=b+1/\b+1<=(s.size:Int)/\(s.size:Int)<=s.size:=by omega
    have y3:0<=d/\d<6:=h8;have y4:(s.extract 0 b.toNat).size+u.size<=9223372036854775807:=by omega
    have y5:(s.extract 0 b.toNat++u).size+(s.extract (b+1).toNat s.size).size<=9223372036854775807:=by rw [ze];omega
    have e0:((0:Int)).toNat=0:=rfl;have e1:((s.size:Int)).toNat=s.size:=cT _;simp only [Ff,GV,qj,h3,h6,h9,w1,hg,e0,e1,zC h0,zC y1,zC y2,z8,List.getElem?_cons_zero,zC y4,zC y5];simp [y3]
   rcases c with rfl|rfl|rfl|rfl|rfl|rfl
   ·exact key _ (by decide) rfl
   ·exact key _ (by decide) rfl
   ·exact key _ (by decide) rfl
   ·exact key _ (by decide) rfl
   ·exact key _ (by decide) rfl
   ·exact key _ (by decide) rfl
  ·refine ⟨s,p1,h1,by omega,λn hn=>?_⟩;obtain ⟨m,rfl,hm⟩:=up1 hn;have h3:=h3 m (by omega);have h0':s.size=0:=by omega
   simp [Ff,GV,qj,h3,h0']
 ·refine ⟨s,p1,h1,by omega,λn hn=>?_⟩;obtain ⟨m,rfl,hm⟩:=up1 hn;have h3:=h3 m (by omega);rcases c with rfl|rfl|rfl<;>simp [Ff,GV,qj,h3]
theorem G7 (c r:Int) (fc fr:Bool):(EF c r fc fr).size<=30:=by
 unfold EF;split
 ·rename_i h;have h1:=Ux c;have h2:=Sd (Ji h).2;rw [H3];cases fc<;>cases fr<;>simp<;>omega
 ·decide
abbrev Nd:=Int×Int×Int×Int×BA×Int×Int×Bool×Bool×Int×Int×Bool×Bool×List Int
def Fg (x:Int):List PV:= [.i .i64 x]
def qu (c:Nd):List PV:= [.i .i64 c.1,.i .i64 c.2.1,.i .i64 c.2.2.1,.i .i64 c.2.2.2.1,.s c.2.2.2.2.1,.i .i64 c.2.2.2.2.2.1,.i .i64 c.2.2.2.2.2.2.1,.b c.2.2.2.2.2.2.2.1,.b c.2.2.2.2.2.2.2.2.1,.i .i64 c.2.2.2.2.2.2.2.2.2.1,.i .i64 c.2.2.2.2.2.2.2.2.2.2.1,.b c.2.2.2.2.2.2.2.2.2.2.2.1,.b c.2.2.2.2.2.2.2.2.2.2.2.2.1,.ls ((c.2.2.2.2.2.2.2.2.2.2.2.2.2).map Fg)]
def kd (c:Nd):List Int:=c.2.2.2.2.2.2.2.2.2.2.2.2.2
def MC (op n:Int):Bool:=if op=5 then decide (n=2\/n=3) else if 8<=op/\op<=10 then decide (n=1) else if 1<=op/\op<=7 then decide (1<=n/\n<=10) else false
theorem ten {op:Int} (h:1<=op/\op<=10):op=1\/op=2\/op=3\/op=4\/op=5\/op=6\/op=7\/op=8\/op=9\/op=10:=by omega
theorem W3 (op n:Int):Ev (LQ · op n) (MC op n):=by
 refine ⟨1,λn hn=>?_⟩;obtain ⟨m,rfl,hm⟩:=up1 hn;simp only [LQ,Nn,qj];by_cases h:1<=op/\op<=10
 ·rcases ten h with rfl|rfl|rfl|rfl|rfl|rfl|rfl|rfl|rfl|rfl
  all_goals
   first
   |(by_cases h2:n=2<;>simp [MC,h2];done)
   |(by_cases h1:n≥1<;>simp [MC,h1];done)
   |(by_cases h1:n=1<;>simp [MC,h1];done)
   |(by_cases h2:n=2<;>by_cases h3:n=3<;>simp [MC,h2,h3];done)
   |(simp [MC];done)
 ·have e1:¬op=1:=by omega
  have e2:¬op=2:=by omega
  have e3:¬op=3:=by omega
  have e4:¬op=4:=by omega
  have e5:¬op=5:=by omega
  have e6:¬op=6:=by omega
  have e7:¬op=7:=by omega
  have e8:¬op=8:=by omega
  have e9:¬op=9:=by omega
  have e10:¬op=10:=by omega
  have g1:¬(8<=op/\op<=10):=by omega
  have g2:¬(1<=op/\op<=7):=by omega
  simp [MC,e1,e2,e3,e4,e5,e6,e7,e8,e9,e10,g1,g2]
def zV (k x:Int) (s:BA):Bool:=decide (k=0)&&(decide (x=0)&&(s.toList== []))
def zP (a b:Int) (f g:Bool):Bool:=decide (a=0)&&(decide (b=0)&&(!f&&!g))
def Gq (c:Nd):Bool:=
 if c.1=1 then decide (c.2.1=0)&&(zP c.2.2.2.2.2.1 c.2.2.2.2.2.2.1 c.2.2.2.2.2.2.2.1 c.2.2.2.2.2.2.2.2.1&&(zP c.2.2.2.2.2.2.2.2.2.1 c.2.2.2.2.2.2.2.2.2.2.1 c.2.2.2.2.2.2.2.2.2.2.2.1 c.2.2.2.2.2.2.2.2.2.2.2.2.1&&(decide ((kd c).length=0)&&(okV c.2.2.1 c.2.2.2.1 c.2.2.2.2.1&&(!decide (c.2.2.1=0)&&(!decide (c.2.2.1=1)||decide (c.2.2.2.1≥0))))))) else
 if c.1=2 then decide (c.2.1=0)&&(zV c.2.2.1 c.2.2.2.1 c.2.2.2.2.1&&(zP c.2.2.2.2.2.2.2.2.2.1 c.2.2.2.2.2.2.2.2.2.2.1 c.2.2.2.2.2.2.2.2.2.2.2.1 c.2.2.2.2.2.2.2.2.2.2.2.2.1&&(decide ((kd c).length=0)&&Ef c.2.2.2.2.2.1 c.2.2.2.2.2.2.1))) else
 if c.1=3 then decide (c.2.1=0)&&(zV c.2.2.1 c.2.2.2.1 c.2.2.2.2.1&&(decide ((kd c).length=0)&&J7 c.2.2.2.2.2.1 c.2.2.2.2.2.2.1 c.2.2.2.2.2.2.2.2.2.1 c.2.2.2.2.2.2.2.2.2.2.1)) else
 if c.1=4 then decide (c.2.1=0)&&(zV c.2.2.1 c.2.2.2.1 c.2.2.2.2.1&&(zP c.2.2.2.2.2.1 c.2.2.2.2.2.2.1 c.2.2.2.2.2.2.2.1 c.2.2.2.2.2.2.2.2.1&&(zP c.2.2.2.2.2.2.2.2.2.1 c.2.2.2.2.2.2.2.2.2.2.1 c.2.2.2.2.2.2.2.2.2.2.2.1 c.2.2.2.2.2.2.2.2.2.2.2.2.1&&decide ((kd c).length=1)))) else
 if c.1=5 then decide (1<=c.2.1/\c.2.1<=11)&&(zV c.2.2.1 c.2.2.2.1 c.2.2.2.2.1&&(zP c.2.2.2.2.2.1 c.2.2.2.2.2.2.1 c.2.2.2.2.2.2.2.1 c.2.2.2.2.2.2.2.2.1&&(zP c.2.2.2.2.2.2.2.2.2.1 c.2.2.2.2.2.2.2.2.2.2.1 c.2.2.2.2.2.2.2.2.2.2.2.1 c.2.2.2.2.2.2.2.2.2.2.2.2.1&&decide ((kd c).length=2)))) else
 if c.1=6 then MC c.2.1 ((kd c).length:Int)&&(zV c.2.2.1 c.2.2.2.1 c.2.2.2.2.1&&(zP c.2.2.2.2.2.1 c.2.2.2.2.2.2.1 c.2.2.2.2.2.2.2.1 c.2.2.2.2.2.2.2.2.1&&zP c.2.2.2.2.2.2.2.2.2.1 c.2.2.2.2.2.2.2.2.2.2.1 c.2.2.2.2.2.2.2.2.2.2.2.1 c.2.2.2.2.2.2.2.2.2.2.2.2.1)) else false
theorem ou (k x:Int) (s:BA):((k==(0:Int))&&((x==(0:Int))&&((s.toList==(⟨#[]⟩:BA).toList)&&true)))=zV k x s:=by
 rw [qy];unfold zV;by_cases h:k=0<;>by_cases h2:x=0<;>simp [h,h2]
theorem ov (k x:Int) (s:BA):(((0:Int)==k)&&(((0:Int)==x)&&(((⟨#[]⟩:BA).toList==s.toList)&&true)))=zV k x s:=by
 rw [<-ou]
 congr 1
 ·exact Bool.beq_comm
 ·congr 1
  ·exact Bool.beq_comm
  ·congr 1
   exact Bool.beq_comm
theorem ow (a b:Int) (f g:Bool):((a==(0:Int))&&((b==(0:Int))&&((f==false)&&((g==false)&&true))))=zP a b f g:=by
 unfold zP;by_cases h:a=0<;>by_cases h2:b=0<;>cases f<;>cases g<;>simp [h,h2]
theorem ox (a b:Int) (f g:Bool):(((0:Int)==a)&&(((0:Int)==b)&&((false==f)&&((false==g)&&true))))=zP a b f g:=by
 rw [<-ow]
 congr 1
 ·exact Bool.beq_comm
 ·congr 1
  ·exact Bool.beq_comm
  ·cases f<;>cases g<;>rfl
theorem Oa (c:Nd) (hb:c.2.2.2.2.1.size<=140737488351232):Ev (Gs · c.1 c.2.1 c.2.2.1 c.2.2.2.1 c.2.2.2.2.1 c.2.2.2.2.2.1 c.2.2.2.2.2.2.1 c.2.2.2.2.2.2.2.1 c.2.2.2.2.2.2.2.2.1 c.2.2.2.2.2.2.2.2.2.1 c.2.2.2.2.2.2.2.2.2.2.1 c.2.2.2.2.2.2.2.2.2.2.2.1 c.2.2.2.2.2.2.2.2.2.2.2.2.1 ((c.2.2.2.2.2.2.2.2.2.2.2.2.2).map Fg)) (Gq c):=by
 obtain ⟨n1,h1⟩:=ES c.2.2.1 c.2.2.2.1 c.2.2.2.2.1 hb;obtain ⟨n2,h2⟩:=Hu c.2.2.2.2.2.1 c.2.2.2.2.2.2.1;obtain ⟨n3,h3⟩:=Wv c.2.2.2.2.2.1 c.2.2.2.2.2.2.1 c.2.2.2.2.2.2.2.2.2.1 c.2.2.2.2.2.2.2.2.2.2.1;obtain ⟨n4,h4⟩:=G2 c.2.1 1 11;obtain ⟨n5,h5⟩:=W3 c.2.1 (((c.2.2.2.2.2.2.2.2.2.2.2.2.2).map Fg).length:Int);refine ⟨n1+n2+n3+n4+n5+1,λn hn=>?_⟩;obtain ⟨m,rfl,hm⟩:=up1 hn;have h1:=h1 m (by omega);dsimp only at h1;have h2:=h2 m (by omega);dsimp only at h2;have h3:=h3 m (by omega);dsimp only at h3;have h4:=h4 m (by omega);dsimp only at h4;have h5:=h5 m (by omega);dsimp only at h5;simp only [Gs,Ln,Jw,qj,h1,h2,h3,h4,h5];have hk:((c.2.2.2.2.2.2.2.2.2.2.2.2.2).map Fg).length=(kd c).length:=by rw [zamV];rfl
 simp only [ou,ow,hk];unfold Gq;by_cases k1:c.1=1
 ·simp only [k1,if_true,beq_self_eq_true];cases zP c.2.2.2.2.2.1 c.2.2.2.2.2.2.1 c.2.2.2.2.2.2.2.1 c.2.2.2.2.2.2.2.2.1<;>cases zP c.2.2.2.2.2.2.2.2.2.1 c.2.2.2.2.2.2.2.2.2.2.1 c.2.2.2.2.2.2.2.2.2.2.2.1 c.2.2.2.2.2.2.2.2.2.2.2.2.1<;>cases okV c.2.2.1 c.2.2.2.1 c.2.2.2.2.1<;>by_cases h0:c.2.1=0<;>by_cases h1:(kd c).length=0<;>by_cases h2:c.2.2.1=0<;>by_cases h3:c.2.2.1=1<;>simp [h0,h1,h2,h3]
 by_cases k2:c.1=2
 ·simp only [k2];cases zV c.2.2.1 c.2.2.2.1 c.2.2.2.2.1<;>cases zP c.2.2.2.2.2.2.2.2.2.1 c.2.2.2.2.2.2.2.2.2.2.1 c.2.2.2.2.2.2.2.2.2.2.2.1 c.2.2.2.2.2.2.2.2.2.2.2.2.1<;>cases Ef c.2.2.2.2.2.1 c.2.2.2.2.2.2.1<;>by_cases h0:c.2.1=0<;>by_cases h1:(kd c).length=0<;>simp [h0,h1]
 by_cases k3:c.1=3
 ·simp only [k3];cases zV c.2.2.1 c.2.2.2.1 c.2.2.2.2.1<;>cases J7 c.2.2.2.2.2.1 c.2.2.2.2.2.2.1 c.2.2.2.2.2.2.2.2.2.1 c.2.2.2.2.2.2.2.2.2.2.1<;>by_cases h0:c.2.1=0<;>by_cases h1:(kd c).length=0<;>simp [h0,h1]
 by_cases k4:c.1=4
 ·simp only [k4];cases zV c.2.2.1 c.2.2.2.1 c.2.2.2.2.1<;>cases zP c.2.2.2.2.2.1 c.2.2.2.2.2.2.1 c.2.2.2.2.2.2.2.1 c.2.2.2.2.2.2.2.2.1<;>cases zP c.2.2.2.2.2.2.2.2.2.1 c.2.2.2.2.2.2.2.2.2.2.1 c.2.2.2.2.2.2.2.2.2.2.2.1 c.2.2.2.2.2.2.2.2.2.2.2.2.1<;>by_cases h0:c.2.1=0<;>by_cases h1:(kd c).length=1<;>simp [h0,h1]<;>omega
 by_cases k5:c.1=5
 ·simp only [k5];cases zV c.2.2.1 c.2.2.2.1 c.2.2.2.2.1<;>cases zP c.2.2.2.2.2.1 c.2.2.2.2.2.2.1 c.2.2.2.2.2.2.2.1 c.2.2.2.2.2.2.2.2.1<;>cases zP c.2.2.2.2.2.2.2.2.2.1 c.2.2.2.2.2.2.2.2.2.2.1 c.2.2.2.2.2.2.2.2.2.2.2.1 c.2.2.2.2.2.2.2.2.2.2.2.2.1<;>by_cases h0:1<=c.2.1/\c.2.1<=11<;>by_cases h1:(kd c).length=2<;>simp [h0,h1]<;>omega
 by_cases k6:c.1=6
 ·simp only [k6];cases zV c.2.2.1 c.2.2.2.1 c.2.2.2.2.1<;>cases zP c.2.2.2.2.2.1 c.2.2.2.2.2.2.1 c.2.2.2.2.2.2.2.1 c.2.2.2.2.2.2.2.2.1<;>cases zP c.2.2.2.2.2.2.2.2.2.1 c.2.2.2.2.2.2.2.2.2.2.1 c.2.2.2.2.2.2.2.2.2.2.2.1 c.2.2.2.2.2.2.2.2.2.2.2.2.1<;>cases MC c.2.1 ((kd c).length:Int)<;>simp
 simp [k1,k2,k3,k4,k5,k6]
theorem W4 (c:Nd):Ev (Fj · c.1 c.2.1 c.2.2.1 c.2.2.2.1 c.2.2.2.2.1 c.2.2.2.2.2.1 c.2.2.2.2.2.2.1 c.2.2.2.2.2.2.2.1 c.2.2.2.2.2.2.2.2.1 c.2.2.2.2.2.2.2.2.2.1 c.2.2.2.2.2.2.2.2.2.2.1 c.2.2.2.2.2.2.2.2.2.2.2.1 c.2.2.2.2.2.2.2.2.2.2.2.2.1 ((c.2.2.2.2.2.2.2.2.2.2.2.2.2).map Fg)) (if c.1=4 then decide (c.2.1=0)&&decide ((kd c).length=1) else if c.1=5 then decide (1<=c.2.1/\c.2.1<=11)&&decide ((kd c).length=2) else if c.1=6 then MC c.2.1 ((kd c).length:Int) else decide (c.2.1=0)&&decide ((kd c).length=0)):=by
 obtain ⟨n1,h1⟩:=Eb c.2.1 1 11;obtain ⟨n2,h2⟩:=Eb c.2.1 1 10;obtain ⟨n3,h3⟩:=Eb (((c.2.2.2.2.2.2.2.2.2.2.2.2.2).map Fg).length:Int) 2 3;obtain ⟨n4,h4⟩:=Eb (((c.2.2.2.2.2.2.2.2.2.2.2.2.2).map Fg).length:Int) 1 10;refine ⟨n1+n2+n3+n4+1,λn hn=>?_⟩;obtain ⟨m,rfl,hm⟩:=up1 hn;have h1:=h1 m (by omega);dsimp only at h1;have h2:=h2 m (by omega);dsimp only at h2;have h3:=h3 m (by omega);dsimp only at h3;have h4:=h4 m (by omega);dsimp only at h4;simp only [Fj,JY,qj,h1,h2,h3,h4];have hk:((c.2.2.2.2.2.2.2.2.2.2.2.2.2).map Fg).length=(kd c).length:=by rw [zamV];rfl
 simp only [hk];by_cases k4:c.1=4
 ·simp only [k4];by_cases h0:c.2.1=0<;>by_cases h1:(kd c).length=1<;>simp [h0,h1]<;>omega
 by_cases k5:c.1=5
 ·simp only [k5];by_cases h0:1<=c.2.1/\c.2.1<=11<;>by_cases h1:(kd c).length=2<;>simp [h0,h1]<;>omega
 by_cases k6:c.1=6
 ·simp only [k6];unfold MC;by_cases h:1<=c.2.1/\c.2.1<=10
  ·by_cases h5:c.2.1=5
   ·have:(2<=((kd c).length:Int)/\((kd c).length:Int)<=3)↔(((kd c).length:Int)=2\/((kd c).length:Int)=3):=by omega
    simp [h5,this]
   ·by_cases h8:c.2.1≥8
    ·have g:8<=c.2.1/\c.2.1<=10:=by omega
     by_cases h1:((kd c).length:Int)=1<;>simp [h,h5,h8,g,h1]
    ·have g:¬(8<=c.2.1/\c.2.1<=10):=by omega
     have g':1<=c.2.1/\c.2.1<=7:=by omega
     simp [h,h5,h8,g,g']
  ·have h5:¬c.2.1=5:=by omega
   have g:¬(8<=c.2.1/\c.2.1<=10):=by omega
   have g':¬(1<=c.2.1/\c.2.1<=7):=by omega
   simp [h,h5,g,g']
 by_cases h0:c.2.1=0<;>by_cases h1:(kd c).length=0<;>simp [k4,k5,k6,h0,h1]<;>omega
theorem U0 (c:Nd):Ev (FO · c.1 c.2.1 c.2.2.1 c.2.2.2.1 c.2.2.2.2.1 c.2.2.2.2.2.1 c.2.2.2.2.2.2.1 c.2.2.2.2.2.2.2.1 c.2.2.2.2.2.2.2.2.1 c.2.2.2.2.2.2.2.2.2.1 c.2.2.2.2.2.2.2.2.2.2.1 c.2.2.2.2.2.2.2.2.2.2.2.1 c.2.2.2.2.2.2.2.2.2.2.2.2.1 ((c.2.2.2.2.2.2.2.2.2.2.2.2.2).map Fg)) (if c.1=2 then J7 c.2.2.2.2.2.1 c.2.2.2.2.2.2.1 c.2.2.2.2.2.1 c.2.2.2.2.2.2.1 else if c.1=3 then J7 c.2.2.2.2.2.1 c.2.2.2.2.2.2.1 c.2.2.2.2.2.2.2.2.2.1 c.2.2.2.2.2.2.2.2.2.2.1 else true):=by
 have g:Ev (Hi · c.1 c.2.1 c.2.2.1 c.2.2.2.1 c.2.2.2.2.1 c.2.2.2.2.2.1 c.2.2.2.2.2.2.1 c.2.2.2.2.2.2.2.1 c.2.2.2.2.2.2.2.2.1 c.2.2.2.2.2.2.2.2.2.1 c.2.2.2.2.2.2.2.2.2.2.1 c.2.2.2.2.2.2.2.2.2.2.2.1 c.2.2.2.2.2.2.2.2.2.2.2.2.1 ((c.2.2.2.2.2.2.2.2.2.2.2.2.2).map Fg)) (if c.1=2 then (c.2.2.2.2.2.1,c.2.2.2.2.2.2.1,c.2.2.2.2.2.1,c.2.2.2.2.2.2.1) else (c.2.2.2.2.2.1,c.2.2.2.2.2.2.1,c.2.2.2.2.2.2.2.2.2.1,c.2.2.2.2.2.2.2.2.2.2.1)):=by
  refine ⟨1,λn hn=>?_⟩;obtain ⟨m,rfl,hm⟩:=up1 hn;simp only [Hi,Kf,qj];by_cases k2:c.1=2<;>simp [k2]
 obtain ⟨n1,h1⟩:=g;obtain ⟨n2,h2⟩:=Qh c.2.2.2.2.2.1 c.2.2.2.2.2.2.1 c.2.2.2.2.2.1 c.2.2.2.2.2.2.1;obtain ⟨n3,h3⟩:=Qh c.2.2.2.2.2.1 c.2.2.2.2.2.2.1 c.2.2.2.2.2.2.2.2.2.1 c.2.2.2.2.2.2.2.2.2.2.1;refine ⟨n1+n2+n3+1,λn hn=>?_⟩;obtain ⟨m,rfl,hm⟩:=up1 hn;have h1:=h1 m (by omega);dsimp only at h1;have h2:=h2 m (by omega);dsimp only at h2;have h3:=h3 m (by omega);dsimp only at h3;simp only [FO,Ik,qj,h1,h2,h3];by_cases k2:c.1=2
 ·simp [k2,h2]
 ·by_cases k3:c.1=3
  ·simp [k3,h3]
  ·simp [k2,k3]
theorem dr (a b:Int):J7 a b a b=Ef a b:=by
 unfold J7;cases Ef a b<;>simp
theorem Xs (c:Nd) (hb:c.2.2.2.2.1.size<=140737488351232):Ev (IV · c.1 c.2.1 c.2.2.1 c.2.2.2.1 c.2.2.2.2.1 c.2.2.2.2.2.1 c.2.2.2.2.2.2.1 c.2.2.2.2.2.2.2.1 c.2.2.2.2.2.2.2.2.1 c.2.2.2.2.2.2.2.2.2.1 c.2.2.2.2.2.2.2.2.2.2.1 c.2.2.2.2.2.2.2.2.2.2.2.1 c.2.2.2.2.2.2.2.2.2.2.2.2.1 ((c.2.2.2.2.2.2.2.2.2.2.2.2.2).map Fg)) (Gq c):=by
 obtain ⟨n1,g1⟩:=Lw c.2.2.1 c.2.2.2.1 c.2.2.2.2.1 hb;obtain ⟨n2,g2⟩:=U0 c;obtain ⟨n3,g3⟩:=W4 c;refine ⟨n1+n2+n3+1,λn hn=>?_⟩;obtain ⟨m,rfl,hm⟩:=up1 hn;have g1:=g1 m (by omega);have g2:=g2 m (by omega);have g3:=g3 m (by omega);dsimp only at g1 g2 g3;rw [dr] at g2;simp only [IV,J1,HO,Il,qj,g1,g2,g3,ov,ox];simp only [beq_self_eq_true,Bool.and_true,Bool.true_and];unfold Gq;by_cases k1:c.1=1
 ·have h5:(c.2.2.2.1≥0)=¬(c.2.2.2.1<0):=propext Int.not_lt.symm;simp only [k1,h5];cases zP c.2.2.2.2.2.1 c.2.2.2.2.2.2.1 c.2.2.2.2.2.2.2.1 c.2.2.2.2.2.2.2.2.1<;>cases zP c.2.2.2.2.2.2.2.2.2.1 c.2.2.2.2.2.2.2.2.2.2.1 c.2.2.2.2.2.2.2.2.2.2.2.1 c.2.2.2.2.2.2.2.2.2.2.2.2.1<;>cases okV c.2.2.1 c.2.2.2.1 c.2.2.2.2.1<;>by_cases h0:c.2.1=0<;>by_cases h1:(kd c).length=0<;>by_cases h2:c.2.2.1=0<;>by_cases h3:c.2.2.1=1<;>by_cases h4:c.2.2.2.1<0<;>simp [h0,h1,h2,h3,h4]<;>(try omega)
 by_cases k2:c.1=2
 ·simp only [k2];cases zV c.2.2.1 c.2.2.2.1 c.2.2.2.2.1<;>cases zP c.2.2.2.2.2.2.2.2.2.1 c.2.2.2.2.2.2.2.2.2.2.1 c.2.2.2.2.2.2.2.2.2.2.2.1 c.2.2.2.2.2.2.2.2.2.2.2.2.1<;>cases Ef c.2.2.2.2.2.1 c.2.2.2.2.2.2.1<;>by_cases h0:c.2.1=0<;>by_cases h1:(kd c).length=0<;>simp [h0,h1]
 by_cases k3:c.1=3
 ·simp only [k3];cases zV c.2.2.1 c.2.2.2.1 c.2.2.2.2.1<;>cases J7 c.2.2.2.2.2.1 c.2.2.2.2.2.2.1 c.2.2.2.2.2.2.2.2.2.1 c.2.2.2.2.2.2.2.2.2.2.1<;>by_cases h0:c.2.1=0<;>by_cases h1:(kd c).length=0<;>simp [h0,h1]
 by_cases k4:c.1=4
 ·simp only [k4];cases zV c.2.2.1 c.2.2.2.1 c.2.2.2.2.1<;>cases zP c.2.2.2.2.2.1 c.2.2.2.2.2.2.1 c.2.2.2.2.2.2.2.1 c.2.2.2.2.2.2.2.2.1<;>cases zP c.2.2.2.2.2.2.2.2.2.1 c.2.2.2.2.2.2.2.2.2.2.1 c.2.2.2.2.2.2.2.2.2.2.2.1 c.2.2.2.2.2.2.2.2.2.2.2.2.1<;>by_cases h0:c.2.1=0<;>by_cases h1:(kd c).length=1<;>simp [h0,h1]
 by_cases k5:c.1=5
 ·simp only [k5];cases zV c.2.2.1 c.2.2.2.1 c.2.2.2.2.1<;>cases zP c.2.2.2.2.2.1 c.2.2.2.2.2.2.1 c.2.2.2.2.2.2.2.1 c.2.2.2.2.2.2.2.2.1<;>cases zP c.2.2.2.2.2.2.2.2.2.1 c.2.2.2.2.2.2.2.2.2.2.1 c.2.2.2.2.2.2.2.2.2.2.2.1 c.2.2.2.2.2.2.2.2.2.2.2.2.1<;>by_cases h0:1<=c.2.1/\c.2.1<=11<;>by_cases h1:(kd c).length=2<;>simp [h0,h1]
 by_cases k6:c.1=6
 ·simp only [k6];cases zV c.2.2.1 c.2.2.2.1 c.2.2.2.2.1<;>cases zP c.2.2.2.2.2.1 c.2.2.2.2.2.2.1 c.2.2.2.2.2.2.2.1 c.2.2.2.2.2.2.2.2.1<;>cases zP c.2.2.2.2.2.2.2.2.2.1 c.2.2.2.2.2.2.2.2.2.2.1 c.2.2.2.2.2.2.2.2.2.2.2.1 c.2.2.2.2.2.2.2.2.2.2.2.2.1<;>cases MC c.2.1 ((kd c).length:Int)<;>simp
 simp [k1,k2,k3,k4,k5,k6]
section
variable (own area call:Int->Bool) (kids:Int->List Int)
def goF (F:Int->Int) (n:Int):List Int->Int->Int
 | [],start=>start
 |k::r,start=>if k≠start-1\/k<0\/(area k=true/\call n=false) then-1 else if F k<0 then-1 else goF F n r (F k)
def Ho:Nat->Int->Int
 |0,_=> -1
 |f+1,n=>if n<0\/own n=false then-1 else goF area call (Ho f) n (kids n).reverse n
def goT (F:Int->Int):List Int->Int->Int
 | [],x=>x+1
 |k::r,x=>if x<0\/k≠x then-1 else if F x<0 then-1 else goT F r (F x-1)
def GY:Nat->Int->Int
 |0,_=> -1
 |f+1,n=>goT (GY f) (kids n).reverse (n-1)
def Qj:List Int->Int
 | []=>0
 |x::r=>max x (Qj r)
def FU:Nat->Int->Int
 |0,_=>0
 |f+1,n=>Qj ((kids n).map λk=>FU f k)+1
def M1 (i:Int):Prop:=∀k∈kids i,0<=k/\k<=i-1/\¬(area k=true/\call i=false)
theorem Tb:∀(f:Nat) (n:Int),0<=n->GY kids f n<=n
 |0,n,h=>by rw [GY];omega
 |f+1,n,h=>by
  have go:∀(l:List Int) (x:Int),x+1<=n->-1<=x->goT (GY kids f) l x<=n:=by
   intro l
   induction l with
   |nil=>intro x h1 h2;rw [goT];omega
   |cons k r ih=>
    intro x h1 h2;rw [goT];split
    ·omega
    ·split
     ·omega
     ·have:=Tb f x (by omega);exact ih _ (by omega) (by omega)
  rw [GY];exact go _ _ (by omega) (by omega)
theorem ZQ:∀(f g:Nat) (n:Int),n<f->n<g->0<=n->GY kids f n=GY kids g n
 |0,g,n,h1,h2,h3=>by omega
 |f+1,0,n,h1,h2,h3=>by omega
 |f+1,g+1,n,h1,h2,h3=>by
  have go:∀(l:List Int) (x:Int),x<f->x<g->goT (GY kids f) l x=goT (GY kids g) l x:=by
   intro l
   induction l with
   |nil=>intro x _ _;rw [goT,goT]
   |cons k r ih=>
    intro x hx hy;rw [goT,goT];by_cases hc:x<0\/k≠x
    ·rw [if_pos hc,if_pos hc]
    ·rw [if_neg hc,if_neg hc,ZQ f g x hx hy (by omega)];have hle:=Tb kids g x (by omega);split
     ·rfl
     ·exact ih _ (by omega) (by omega)
  rw [GY,GY];exact go _ _ (by omega) (by omega)
theorem w8 {l:List Int} {b:Int} (h0:0<=b):Qj l<=b↔∀x∈l,x<=b:=by
 induction l with
 |nil=>simp [Qj,h0]
 |cons a r ih=>simp only [Qj,zamT,forall_eq_or_imp];rw [Int.max_le,ih]
theorem W5 {n b:Int} {f:Nat} (h0:1<=b):FU kids (f+1) n<=b↔∀k∈kids n,FU kids f k<=b-1:=by
 rw [FU]
 constructor
 ·intro h k hk;exact (w8 (l:=(kids n).map λk=>FU kids f k) (by omega)).1 (by omega) _ (List.mem_map_of_mem (f:=λk=>FU kids f k) hk)
 ·intro h;have:=(w8 (l:=(kids n).map λk=>FU kids f k) (b:=b-1) (by omega)).2 (by
   intro x hx;obtain ⟨k,hk,rfl⟩:=List.mem_map.1 hx;exact h k hk)
  omega
theorem W6:∀(f g:Nat) (n:Int),n<f->n<g->(∀i,0<=i->i<=n->M1 area call kids i)->0<=n->FU kids f n=FU kids g n
 |0,g,n,h1,h2,_,h3=>by omega
 |f+1,0,n,h1,h2,_,h3=>by omega
 |f+1,g+1,n,h1,h2,hk,h3=>by
  rw [FU,FU]
  congr 2
  apply List.map_congr_left;intro k hm;have:=hk n h3 (by omega) k hm;exact W6 f g k (by omega) (by omega) (λi h0 h1=>hk i h0 (by omega)) (by omega)
theorem Ob:∀(f:Nat) (n:Int),0<=n->n<f->1<=FU kids f n
 |0,n,h,h'=>by omega
 |f+1,n,h,h'=>by
  rw [FU];have:∀l:List Int,0<=Qj l:=by
   intro l
   induction l with
   |nil=>exact Int.le_refl 0
   |cons a r ih=>simp only [Qj];omega
  have:=this ((kids n).map λk=>FU kids f k);omega
theorem Yr:∀(f g:Nat) (n:Int),0<=n->n<g->0<=Ho own area call kids f n->
  Ho own area call kids f n<=n/\GY kids g n=Ho own area call kids f n/\(∀i,Ho own area call kids f n<=i->i<=n->own i=true/\M1 area call kids i)/\(∀h:Nat,(∀i,0<=i->i<=n->M1 area call kids i)->n<h->FU kids h n<=f)
 |0,g,n,h0,h1,h2=>by rw [Ho] at h2;omega
 |f+1,0,n,h0,h1,h2=>by omega
 |f+1,g+1,n,h0,h1,h2=>by
  rw [Ho] at h2⊢;split at h2
  ·omega
  ·rename_i hc;rw [if_neg hc];have go:∀(l:List Int) (s:Int),0<=s->s<=n->0<=goF area call (Ho own area call kids f) n l s->
     goF area call (Ho own area call kids f) n l s<=s/\goT (GY kids g) l (s-1)=goF area call (Ho own area call kids f) n l s/\(∀i,goF area call (Ho own area call kids f) n l s<=i->i<=s-1->own i=true/\M1 area call kids i)/\(∀k∈l,0<=k/\k<=n-1/\¬(area k=true/\call n=false))/\(∀h:Nat,(∀i,0<=i->i<=n->M1 area call kids i)->n<h->∀k∈l,FU kids h k<=f):=by
    intro l
    induction l with
    |nil=>
     intro s h3 h4 h5;rw [goF] at h5⊢;rw [goT];refine ⟨by omega,by omega,λi _ _=>by omega,λk hk=>(by cases hk),λh _ _ k hk=>(by cases hk)⟩
    |cons k r ih=>
     intro s h3 h4 h5;rw [goF] at h5⊢;split at h5
     ·omega
     ·rename_i hd;rw [if_neg hd];split at h5
      ·omega
      ·rename_i he;rw [if_neg he];have hk:k=s-1:=by omega
       subst hk;obtain ⟨a1,a2,a3,a4⟩:=Yr f g (s-1) (by omega) (by omega) (by omega);obtain ⟨b1,b2,b3,b4,b5⟩:=ih _ (by omega) (by omega) h5;refine ⟨by omega,?_,?_,?_,?_⟩
       ·rw [goT,if_neg (by omega),a2,if_neg he,b2]
       ·intro i i1 i2;by_cases hi:Ho own area call kids f (s-1)<=i
        ·exact a3 i hi i2
        ·exact b3 i i1 (by omega)
       ·intro k hk;rcases zamT.1 hk with rfl|hk
        ·exact ⟨by omega,by omega,λh=>hd (.inr (.inr h))⟩
        ·exact b4 k hk
       ·intro h hx hy k hk;rcases zamT.1 hk with rfl|hk
        ·exact a4 h (λi i1 i2=>hx i i1 (by omega)) (by omega)
        ·exact b5 h hx hy k hk
   obtain ⟨c1,c2,c3,c4,c5⟩:=go _ n h0 (Int.le_refl n) h2;have hown:own n=true:=by cases ho:own n with
    |true=>rfl
    |false=>exact absurd (.inr ho) hc
   refine ⟨c1,by rw [GY];exact c2,?_,?_⟩
   ·intro i i1 i2;by_cases hi:i=n
    ·subst hi;exact ⟨hown,λk hk=>c4 k (List.mem_reverse.2 hk)⟩
    ·exact c3 i i1 (by omega)
   ·intro h hx hy;cases h with
    |zero=>omega
    |succ h=>
     refine (W5 kids (by omega)).2 λk hk=>?_
     have hin:=hx n h0 (Int.le_refl n) k hk;have e:FU kids h k=FU kids (n.toNat+1) k:=W6 area call kids _ _ _ (by omega) (by omega) (λi i1 i2=>hx i i1 (by omega)) (by omega);rw [e];have:=c5 (n.toNat+1) hx (by omega) k (List.mem_reverse.2 hk);omega
theorem w9:∀(f g h:Nat) (n:Int),0<=n->n<g->n<h->(∀i,0<=i->i<=n->own i=true/\M1 area call kids i)->0<=GY kids g n->FU kids h n<=f->Ho own area call kids f n=GY kids g n
 |0,g,h,n,h0,h1,h1',h2,h3,h4=>by have:=Ob kids h n h0 h1';omega
 |f+1,0,h,n,h0,h1,_,h2,h3,h4=>by omega
 |f+1,g+1,0,n,h0,h1,_,h2,h3,h4=>by omega
 |f+1,g+1,h+1,n,h0,h1,h1',h2,h3,h4=>by
  have hd:=(W5 kids (b:=((f+1:Nat):Int)) (by omega)).1 h4;have go:∀(l:List Int) (s:Int),(∀k∈l,k∈kids n)->0<=s->s<=n->0<=goT (GY kids g) l (s-1)->goF area call (Ho own area call kids f) n l s=goT (GY kids g) l (s-1):=by
   intro l
   induction l with
   |nil=>intro s _ _ _ _;rw [goF,goT];omega
   |cons k r ih=>
    intro s hm h3 h4 h5;rw [goT] at h5⊢;rw [goF];split at h5
    ·omega
    ·rename_i hc;rw [if_neg hc];split at h5
     ·omega
     ·rename_i he;rw [if_neg he];have hk:k=s-1:=by omega
      have hin:=(h2 n h0 (Int.le_refl n)).2 k (hm k (zamN ..));have hdk:=hd k (hm k (zamN ..));subst hk;have e:=w9 f g h (s-1) (by omega) (by omega) (by omega) (λi i1 i2=>h2 i i1 (by omega)) (by omega) (by omega);have hb:¬(s-1≠s-1\/s-1<0\/(area (s-1)=true/\call n=false)):=λhx=>by
       rcases hx with hx|hx|hx
       ·exact hx rfl
       ·omega
       ·exact hin.2.2 hx
      rw [if_neg hb,e,if_neg he];have hle:=Tb kids g (s-1) (by omega);exact ih _ (λk hk=>hm k (zamR _ hk)) (by omega) (by omega) h5
  rw [GY] at h3;have hn:¬(n<0\/own n=false):=λhx=>by
   rcases hx with hx|hx
   ·omega
   ·rw [(h2 n h0 (Int.le_refl n)).1] at hx;cases hx
  rw [Ho,GY,if_neg hn];exact go _ n (λk hk=>List.mem_reverse.1 hk) h0 (Int.le_refl n) h3
end
theorem GE (c:Nd):(qu c).length=14:=rfl
theorem Fs (k:Int):(Fg k).length=1:=rfl
theorem FI (k:Int):zI .i64 (Fg k) 0=some k:=rfl
theorem Eu (c:Nd):zI .i64 (qu c) 0=some c.1:=rfl
theorem Ew (c:Nd):zI .i64 (qu c) 1=some c.2.1:=rfl
theorem Ey (c:Nd):zI .i64 (qu c) 2=some c.2.2.1:=rfl
theorem Ez (c:Nd):zI .i64 (qu c) 3=some c.2.2.2.1:=rfl
theorem E0 (c:Nd):z8 (qu c) 4=some c.2.2.2.2.1:=rfl
theorem E1 (c:Nd):zI .i64 (qu c) 5=some c.2.2.2.2.2.1:=rfl
theorem E2 (c:Nd):zI .i64 (qu c) 6=some c.2.2.2.2.2.2.1:=rfl
theorem E3 (c:Nd):bW (qu c) 7=some c.2.2.2.2.2.2.2.1:=rfl
theorem E4 (c:Nd):bW (qu c) 8=some c.2.2.2.2.2.2.2.2.1:=rfl
theorem E5 (c:Nd):zI .i64 (qu c) 9=some c.2.2.2.2.2.2.2.2.2.1:=rfl
theorem EJ (c:Nd):zI .i64 (qu c) 10=some c.2.2.2.2.2.2.2.2.2.2.1:=rfl
theorem EK (c:Nd):bW (qu c) 11=some c.2.2.2.2.2.2.2.2.2.2.2.1:=rfl
theorem EL (c:Nd):bW (qu c) 12=some c.2.2.2.2.2.2.2.2.2.2.2.2.1:=rfl
theorem EM (c:Nd):cW (qu c) 13=some ((c.2.2.2.2.2.2.2.2.2.2.2.2.2).map Fg):=rfl
def nd0:Nd:=(0,0,0,0,⟨#[]⟩,0,0,false,false,0,0,false,false,[])
def ndi (l:List Nd) (i:Int):Nd:=l.getD i.toNat nd0
def qi (l:List Nd) (i:Int):List Int:=kd (ndi l i)
def MK (l:List Nd) (i:Int):Bool:=Gq (ndi l i)
def Fh (l:List Nd) (i:Int):Bool:=decide ((ndi l i).1=3)
def Gm (l:List Nd) (i:Int):Bool:=decide ((ndi l i).1=6)
theorem Hp {l:List Nd} {i:Int} (h:0<=i/\i<l.length):l[i.toNat]?=some (ndi l i):=by
 have:i.toNat<l.length:=by omega
 unfold ndi;rw [zh this,List.getD_eq_getElem?_getD,zh this];rfl
theorem PC {l:List Nd} {i:Int} (h:0<=i/\i<l.length):ndi l i∈l:=aC (Hp h)
theorem ZR {α:Type} {l:List α} {j:Nat} {k:α} (h:l[j]?=some k):(l.take (j+1)).reverse=k::(l.take j).reverse:=by
 rw [List.take_add_one,h];simp
theorem ZS {R:Type} {F:Int->Nat->Option R} {f:Int->R} (x:Int) (h:∀y,0<=y->y<x->Ev (F y) (f y)):∃n0,∀n,n0<=n->∀y,0<=y->y<x->F y n=some (f y):=by
 obtain ⟨n0,h0⟩:=FJ (F:=F) (f:=f) ((List.range x.toNat).map λ(i:Nat)=>(i:Int)) (λc hc=>by
  obtain ⟨i,hi,rfl⟩:=List.mem_map.1 hc;have:=List.mem_range.1 hi;exact h _ (Int.natCast_nonneg i) (by omega))
 refine ⟨n0,λn hn y h1 h2=>h0 n hn y (List.mem_map.2 ⟨y.toNat,List.mem_range.2 (by omega),by omega⟩)⟩
theorem X9 (l:List Nd) (x1:Int) (f n:Nat) (hx:0<=x1/\x1<l.length) (hl:l.length<=140737488351232) (hk:(kd (ndi l x1)).length<=140737488351232)
  (hrec:∀y:Int,0<=y->y<x1->FK n (l.map qu) y=some (GY (qi l) f y)):
  ∀(j M:Nat) (s:Int),j<=(kd (ndi l x1)).length->j+1<=M->-1<=s->s<x1->
   (∃x,zF (Fc (FK n) n) M (l.map qu,x1,s,(j:Int)-1)=some (.inr x)/\goT (GY (qi l) f) ((qi l x1).take j).reverse s=x+1/\-1<=x/\x<x1)\/
   (zF (Fc (FK n) n) M (l.map qu,x1,s,(j:Int)-1)=some (.inl (-1))/\goT (GY (qi l) f) ((qi l x1).take j).reverse s= -1)
 |0,0,s,h1,h2,h3,h4=>by omega
 |0,M+1,s,h1,h2,h3,h4=>by
  refine .inl ⟨s,?_,by simp [goT],h3,h4⟩;rw [qe (r:= .inr s) (by simp [-getElem?_pos,Fc,qj])]
 |j+1,0,s,h1,h2,h3,h4=>by omega
 |j+1,M+1,s,h1,h2,h3,h4=>by
  have hc:=Hp hx;have hj:j<(kd (ndi l x1)).length:=by omega
  have hg:(qi l x1)[j]?=some (qi l x1)[j]:=zh hj;have ih:=X9 l x1 f n hx hl hk hrec j M;rw [ZR hg];generalize (qi l x1)[j]=k at hg;have hi:(((j+1:Nat):Int)-1)=(j:Int):=by omega
  rw [hi,goT];have hg':(ndi l x1).2.2.2.2.2.2.2.2.2.2.2.2.2[j]?=some k:=hg;have hj':j<(ndi l x1).2.2.2.2.2.2.2.2.2.2.2.2.2.length:=hj;by_cases hs:s<0
  ·refine .inr ⟨?_,by rw [if_pos (.inl hs)]⟩;rw [qe (r:= .inl (-1)) (by simp [-getElem?_pos,Fc,qj,hs])]
  ·by_cases hks:k=s
   ·subst hks;have hr:=hrec k (by omega) h4;by_cases ht:GY (qi l) f k<0
    ·refine .inr ⟨?_,by rw [if_neg (by omega),if_pos ht]⟩;rw [qe (r:= .inl (-1)) (by simp [-getElem?_pos,Fc,qj,hs,hc,hx,GE,Fs,FI,Eu,Ew,Ey,Ez,E0,E1,E2,E3,E4,E5,EJ,EK,EL,EM,hg',hj',hr,ht])]
    ·have hle:=Tb (qi l) f k (by omega);have hw:IntKind.i64.wrap (GY (qi l) f k-1)=GY (qi l) f k-1:=ql (by omega);have hw2:IntKind.i64.wrap ((j:Int)-1)=(j:Int)-1:=ql (by omega);rw [if_neg (by omega),if_neg ht];rw [qm (v':=(l.map qu,x1,GY (qi l) f k-1,(j:Int)-1)) (by simp [-getElem?_pos,Fc,qj,hs,hc,hx,GE,Fs,FI,Eu,Ew,Ey,Ez,E0,E1,E2,E3,E4,E5,EJ,EK,EL,EM,hg',hj',hr,ht,hw,hw2])];exact ih _ (by omega) (by omega) (by omega) (by omega)
   ·refine .inr ⟨?_,by rw [if_pos (.inr hks)]⟩;rw [qe (r:= .inl (-1)) (by simp [-getElem?_pos,Fc,qj,hs,hc,hx,GE,Fs,FI,Eu,Ew,Ey,Ez,E0,E1,E2,E3,E4,E5,EJ,EK,EL,EM,hg',hj',hks])]
theorem Qk (l:List Nd) (hl:l.length<=140737488351232) (hk:∀c∈l,(kd c).length<=140737488351232):∀(f:Nat) (x:Int),0<=x->x<l.length->x<f->Ev (FK · (l.map qu) x) (GY (qi l) f x)
 |0,x,h0,h1,h2=>by omega
 |f+1,x,h0,h1,h2=>by
  obtain ⟨n0,hn0⟩:=ZS (F:=λy n=>FK n (l.map qu) y) (f:=λy=>GY (qi l) f y) x (λy h3 h4=>Qk l hl hk f y h3 (by omega) (by omega));refine ⟨n0+(kd (ndi l x)).length+5,λn hn=>?_⟩;obtain ⟨m,rfl,hm⟩:=up1 hn;have hc:=Hp (l:=l) (i:=x) ⟨h0,h1⟩;have hkx:=hk _ (PC (l:=l) ⟨h0,h1⟩);have hw:IntKind.i64.wrap (x-1)=x-1:=ql (by omega);have hw2:IntKind.i64.wrap (((kd (ndi l x)).length:Int)-1)=((kd (ndi l x)).length:Int)-1:=ql (by omega);have h:=X9 l x f m ⟨h0,h1⟩ hl hkx (hn0 m (by omega)) (kd (ndi l x)).length m (x-1) (zH _) (by omega) (by omega) (by omega);have e:(qi l x).take (kd (ndi l x)).length=qi l x:=List.take_length;rw [e] at h;rw [show GY (qi l) (f+1) x=goT (GY (qi l) f) (qi l x).reverse (x-1) from rfl];unfold kd at h hw2;dsimp only;simp only [FK,Nq,qj];rcases h with ⟨y,g1,g2,g3,g4⟩|⟨g1,g2⟩
  ·have hw3:IntKind.i64.wrap (y+1)=y+1:=ql (by omega);rw [g2];simp [-getElem?_pos,qj,hc,h0,h1,GE,Fs,FI,Eu,Ew,Ey,Ez,E0,E1,E2,E3,E4,E5,EJ,EK,EL,EM,hw,hw2,g1,hw3]
  ·rw [g2];simp [-getElem?_pos,qj,hc,h0,h1,GE,Fs,FI,Eu,Ew,Ey,Ez,E0,E1,E2,E3,E4,E5,EJ,EK,EL,EM,hw,hw2,g1]
theorem U1 (kids:Int->List Int):∀(f:Nat) (n:Int),0<=FU kids f n/\FU kids f n<=f
 |0,n=>by rw [FU];omega
 |f+1,n=>by
  have:∀l:List Int,0<=Qj (l.map λk=>FU kids f k)/\Qj (l.map λk=>FU kids f k)<=f:=by
   intro l
   induction l with
   |nil=>exact ⟨Int.le_refl 0,Int.natCast_nonneg f⟩
   |cons a r ih=>have:=U1 kids f a;simp only [zanE,Qj];omega
  have:=this (kids n);rw [FU];omega
theorem YA (l:List Nd) (x1:Int) (f n:Nat) (hx:0<=x1/\x1<l.length) (hf:f<=1000) (hk:(kd (ndi l x1)).length<=140737488351232)
  (hrec:∀k∈qi l x1,FL n (l.map qu) k=some (FU (qi l) f k)):
  ∀(m i M:Nat) (a:Int),(kd (ndi l x1)).length=i+m->m+1<=M->0<=a->
   zF (IA (FL n) n) M (l.map qu,x1,a,(i:Int))=some (max a (Qj (((qi l x1).drop i).map λk=>FU (qi l) f k)))
 |m,i,0,a,h1,h2,h3=>by omega
 |0,i,M+1,a,h1,h2,h3=>by
  have hc:=Hp hx;have hi:¬i<(ndi l x1).2.2.2.2.2.2.2.2.2.2.2.2.2.length:=by unfold kd at h1;omega
  rw [qe (r:=a) (by simp [-getElem?_pos,IA,qj,hc,hx,GE,Fs,FI,Eu,Ew,Ey,Ez,E0,E1,E2,E3,E4,E5,EJ,EK,EL,EM,hi])];rw [List.drop_eq_nil_of_le (by unfold qi;omega)];simp only [List.map_nil,Qj]
  congr 1
  omega
 |m+1,i,M+1,a,h1,h2,h3=>by
  have hc:=Hp hx;have hj:i<(kd (ndi l x1)).length:=by omega
  have hg:(qi l x1)[i]?=some (qi l x1)[i]:=zh hj;rw [KD hg];have hr:=hrec _ (aC hg);generalize (qi l x1)[i]=k at hg hr;have hg':(ndi l x1).2.2.2.2.2.2.2.2.2.2.2.2.2[i]?=some k:=hg;have hj':i<(ndi l x1).2.2.2.2.2.2.2.2.2.2.2.2.2.length:=hj;have hj'':(i:Int)<((ndi l x1).2.2.2.2.2.2.2.2.2.2.2.2.2.length:Int):=by omega
  have hw:IntKind.i64.wrap ((i:Int)+1)=((i+1:Nat):Int):=by rw [ql (by omega)];omega
  have hd:=U1 (qi l) f k;rw [qm (v':=(l.map qu,x1,(if FU (qi l) f k>a then FU (qi l) f k else a),((i+1:Nat):Int))) (by simp [-getElem?_pos,IA,qj,hc,hx,GE,Fs,FI,Eu,Ew,Ey,Ez,E0,E1,E2,E3,E4,E5,EJ,EK,EL,EM,hg',hj',hr,hw])];rw [YA l x1 f n hx hf hk hrec m (i+1) M _ (by omega) (by omega) (by split<;>omega)];simp only [zanE,Qj]
  congr 1
  split<;>omega
theorem Ql (l:List Nd) (hl:l.length<=60) (hk:∀c∈l,(kd c).length<=140737488351232) (hin:∀i:Int,0<=i->i<l.length->M1 (Fh l) (Gm l) (qi l) i):∀(f:Nat) (x:Int),f<=1000->0<=x->x<l.length->x<f->Ev (FL · (l.map qu) x) (FU (qi l) f x)
 |0,x,hf,h0,h1,h2=>by omega
 |f+1,x,hf,h0,h1,h2=>by
  obtain ⟨n0,hn0⟩:=FJ (F:=λy n=>FL n (l.map qu) y) (f:=λy=>FU (qi l) f y) (qi l x) (λy hy=>by
   have:=hin x h0 h1 y hy;exact Ql l hl hk hin f y (by omega) (by omega) (by omega) (by omega))
  refine ⟨n0+(kd (ndi l x)).length+5,λn hn=>?_⟩;obtain ⟨m,rfl,hm⟩:=up1 hn;have h:=YA l x f m ⟨h0,h1⟩ (by omega) (hk _ (PC (l:=l) ⟨h0,h1⟩)) (hn0 m (by omega)) (kd (ndi l x)).length 0 m 0 (by omega) (by omega) (by omega);have hd:=U1 (qi l) (f+1) x;have e:max 0 (Qj ((qi l x).map λk=>FU (qi l) f k))+1=FU (qi l) (f+1) x:=by
   rw [FU];have:∀q:List Int,0<=Qj q:=by
    intro q
    induction q with
    |nil=>exact Int.le_refl 0
    |cons a r ih=>simp only [Qj];omega
   have:=this ((qi l x).map λk=>FU (qi l) f k);omega
  rw [List.drop_zero] at h;simp only [Int.natCast_zero] at h;have hw:IntKind.i64.wrap (max 0 (Qj ((qi l x).map λk=>FU (qi l) f k))+1)=FU (qi l) (f+1) x:=by rw [e,ql (by omega)]
  simp only [FL,Ns,qj,h,hw]
def inB (l:List Nd) (i:Int):Bool:=(qi l i).all λk=>decide (0<=k/\k<=i-1)&&!(Fh l k&&!Gm l i)
theorem y6 {l:List Nd} {i:Int}:inB l i=true↔M1 (Fh l) (Gm l) (qi l) i:=by
 unfold inB M1;rw [zamK];refine forall_congr' λk=>forall_congr' λhk=>?_
 cases Fh l k<;>cases Gm l i<;>simp
theorem Ys (l:List Nd) (x1:Int) (n:Nat) (hx:0<=x1/\x1<l.length) (hl:l.length<=60) (hk:(kd (ndi l x1)).length<=140737488351232):
  ∀(m i M:Nat),(kd (ndi l x1)).length=i+m->m+1<=M->
   zF (FD (n+1)) M (l.map qu,x1,(i:Int))=some (if ((qi l x1).drop i).all (λk=>decide (0<=k/\k<=x1-1)&&!(Fh l k&&!Gm l x1))=true then .inr (l.map qu,x1) else .inl false)
 |m,i,0,h1,h2=>by omega
 |0,i,M+1,h1,h2=>by
  have hc:=Hp hx;have hi:¬i<(ndi l x1).2.2.2.2.2.2.2.2.2.2.2.2.2.length:=by unfold kd at h1;omega
  rw [qe (r:= .inr (l.map qu,x1)) (by simp [-getElem?_pos,FD,qj,hc,hx,GE,Fs,FI,Eu,Ew,Ey,Ez,E0,E1,E2,E3,E4,E5,EJ,EK,EL,EM,hi])];rw [List.drop_eq_nil_of_le (by unfold qi;omega)];rfl
 |m+1,i,M+1,h1,h2=>by
  have hc:=Hp hx;have hj:i<(kd (ndi l x1)).length:=by omega
  have hg:(qi l x1)[i]?=some (qi l x1)[i]:=zh hj;rw [KD hg];generalize (qi l x1)[i]=k at hg;have hg':(ndi l x1).2.2.2.2.2.2.2.2.2.2.2.2.2[i]?=some k:=hg;have hj':i<(ndi l x1).2.2.2.2.2.2.2.2.2.2.2.2.2.length:=hj;have hw:IntKind.i64.wrap ((i:Int)+1)=((i+1:Nat):Int):=by rw [ql (by omega)];omega
  have hw2:IntKind.i64.wrap (x1-1)=x1-1:=ql (by omega);have hin:FN (n+1) k 0 (x1-1)=some (decide (0<=k/\k<=x1-1)):=by
   simp only [FN,NF,qj];by_cases h:k≥0<;>simp [h]
  rw [zanC];by_cases hr:0<=k/\k<=x1-1
  ·have hck:=Hp (l:=l) (i:=k) ⟨hr.1,by omega⟩;have hkl:k<(l.length:Int):=by omega
   by_cases ha:(ndi l k).1=3
   ·by_cases hcl:(ndi l x1).1=6
    ·rw [qm (v':=(l.map qu,x1,((i+1:Nat):Int))) (by simp [-getElem?_pos,FD,qj,hc,hx,GE,Fs,FI,Eu,Ew,Ey,Ez,E0,E1,E2,E3,E4,E5,EJ,EK,EL,EM,hg',hj',hw,hw2,hin,hr,hck,hkl,ha,hcl])];rw [Ys l x1 n hx hl hk m (i+1) M (by omega) (by omega)];simp [hr,Fh,Gm,ha,hcl]
    ·rw [qe (r:= .inl false) (by simp [-getElem?_pos,FD,qj,hc,hx,GE,Fs,FI,Eu,Ew,Ey,Ez,E0,E1,E2,E3,E4,E5,EJ,EK,EL,EM,hg',hj',hw,hw2,hin,hr,hck,hkl,ha,hcl])];simp [hr,Fh,Gm,ha,hcl]
   ·rw [qm (v':=(l.map qu,x1,((i+1:Nat):Int))) (by simp [-getElem?_pos,FD,qj,hc,hx,GE,Fs,FI,Eu,Ew,Ey,Ez,E0,E1,E2,E3,E4,E5,EJ,EK,EL,EM,hg',hj',hw,hw2,hin,hr,hck,hkl,ha])];rw [Ys l x1 n hx hl hk m (i+1) M (by omega) (by omega)];simp [hr,Fh,Gm,ha]
  ·rw [qe (r:= .inl false) (by simp [-getElem?_pos,FD,qj,hc,hx,GE,Fs,FI,Eu,Ew,Ey,Ez,E0,E1,E2,E3,E4,E5,EJ,EK,EL,EM,hg',hj',hw2,hin,hr])];simp [hr]
def LV (l:List Nd) (i m:Nat):Bool:=(List.range' i m).all λ(i:Nat)=>MK l (i:Int)&&inB l (i:Int)
theorem Le {l:List Nd}:LV l 0 l.length=true↔∀i:Int,0<=i->i<l.length->MK l i=true/\M1 (Fh l) (Gm l) (qi l) i:=by
 unfold LV;rw [zamK]
 constructor
 ·intro h i h0 h1;have:=h i.toNat (by rw [List.mem_range'];exact ⟨i.toNat,by omega,by omega⟩);rw [show ((i.toNat:Nat):Int)=i by omega,zL,y6] at this;exact this
 ·intro h i hi;rw [List.mem_range'] at hi;obtain ⟨j,hj,rfl⟩:=hi;rw [zL,y6];exact h _ (by omega) (by omega)
theorem y7 (l:List Nd) (n:Nat) (hl:l.length<=60) (hk:∀c∈l,(kd c).length<=140737488351232) (hn:∀c∈l,(kd c).length+2<=n)
  (hok:∀c∈l,Gs n c.1 c.2.1 c.2.2.1 c.2.2.2.1 c.2.2.2.2.1 c.2.2.2.2.2.1 c.2.2.2.2.2.2.1 c.2.2.2.2.2.2.2.1 c.2.2.2.2.2.2.2.2.1 c.2.2.2.2.2.2.2.2.2.1 c.2.2.2.2.2.2.2.2.2.2.1 c.2.2.2.2.2.2.2.2.2.2.2.1 c.2.2.2.2.2.2.2.2.2.2.2.2.1 ((c.2.2.2.2.2.2.2.2.2.2.2.2.2).map Fg)=some (Gq c)):
  ∀(m i M:Nat),l.length=i+m->m+1<=M->
   zF (Fi n) M (l.map qu,(i:Int))=some (if LV l i m=true then .inr (l.map qu) else .inl false)
 |m,i,0,h1,h2=>by omega
 |0,i,M+1,h1,h2=>by
  have hi:¬(i:Int)<(l.length:Int):=by omega
  rw [qe (r:= .inr (l.map qu)) (by simp [-getElem?_pos,Fi,qj,hi])];rfl
 |m+1,i,M+1,h1,h2=>by
  have hi:(i:Int)<(l.length:Int):=by omega
  have hx:0<=(i:Int)/\(i:Int)<l.length:=⟨by omega,hi⟩;have hc:=Hp hx;have hm:=PC hx;have ho:=hok _ hm;have hw:IntKind.i64.wrap ((i:Int)+1)=((i+1:Nat):Int):=by rw [ql (by omega)];omega
  have hnn:=hn _ hm;obtain ⟨q,rfl⟩:∃q,n=q+1:=⟨n-1,by omega⟩;have hlp:=Ys l i q hx hl (hk _ hm) (kd (ndi l i)).length 0 (q+1) (by omega) (by omega);rw [List.drop_zero,show ((qi l (i:Int)).all λk=>decide (0<=k/\k<=(i:Int)-1)&&!(Fh l k&&!Gm l (i:Int)))=inB l i from rfl] at hlp;simp only [Int.natCast_zero] at hlp;have e:LV l i (m+1)=(MK l i&&inB l i&&LV l (i+1) m):=by unfold LV;rw [List.range'_succ,zanC]
  rw [e];rw [cT] at hc;cases hnb:Gq (ndi l i) with
  |false=>
   rw [hnb] at ho;rw [qe (r:= .inl false) (by simp [-getElem?_pos,Fi,qj,hi,hc,GE,Fs,FI,Eu,Ew,Ey,Ez,E0,E1,E2,E3,E4,E5,EJ,EK,EL,EM,ho])];simp [MK,hnb]
  |true=>
   rw [hnb] at ho;cases hib:inB l i with
   |false=>
    rw [hib] at hlp;rw [qe (r:= .inl false) (by simp [-getElem?_pos,Fi,qj,hi,hc,GE,Fs,FI,Eu,Ew,Ey,Ez,E0,E1,E2,E3,E4,E5,EJ,EK,EL,EM,ho,hlp])];simp
   |true=>
    rw [hib] at hlp;rw [qm (v':=(l.map qu,((i+1:Nat):Int))) (by simp [-getElem?_pos,Fi,qj,hi,hc,GE,Fs,FI,Eu,Ew,Ey,Ez,E0,E1,E2,E3,E4,E5,EJ,EK,EL,EM,ho,hlp,hw])];rw [y7 l (q+1) hl hk hn hok m (i+1) M (by omega) (by omega)];simp [MK,hnb]
def Jk (l:List Nd):Bool:=decide (1<=l.length/\l.length<=60)&&(LV l 0 l.length&&(decide (GY (qi l) l.length ((l.length:Int)-1)=0)&&(!Fh l ((l.length:Int)-1)&&decide (FU (qi l) l.length ((l.length:Int)-1)<=12))))
theorem Na (l:List Nd) (hk:∀c∈l,(kd c).length<=140737488351232/\c.2.2.2.2.1.size<=140737488351232):Ev (GM · (l.map qu)) (Jk l):=by
 by_cases h1:1<=l.length
 ·by_cases h60:l.length<=60
  ·have hk1:∀c∈l,(kd c).length<=140737488351232:=λc hc=>(hk c hc).1
   obtain ⟨n1,g1⟩:=FJ (F:=λ(c:Nd) n=>Gs n c.1 c.2.1 c.2.2.1 c.2.2.2.1 c.2.2.2.2.1 c.2.2.2.2.2.1 c.2.2.2.2.2.2.1 c.2.2.2.2.2.2.2.1 c.2.2.2.2.2.2.2.2.1 c.2.2.2.2.2.2.2.2.2.1 c.2.2.2.2.2.2.2.2.2.2.1 c.2.2.2.2.2.2.2.2.2.2.2.1 c.2.2.2.2.2.2.2.2.2.2.2.2.1 ((c.2.2.2.2.2.2.2.2.2.2.2.2.2).map Fg)) (f:=Gq) l (λc hc=>Oa c (hk c hc).2);obtain ⟨n2,g2⟩:=FJ (F:=λ(c:Nd) n=>if (kd c).length+2<=n then some () else none) (f:=λ_=>()) l (λc hc=>⟨(kd c).length+2,λn hn=>if_pos hn⟩);obtain ⟨n3,g3⟩:=Qk l (by omega) hk1 l.length ((l.length:Int)-1) (by omega) (by omega) (by omega);obtain ⟨n4,g4⟩:∃n0,LV l 0 l.length=true->∀n,n0<=n->FL n (l.map qu) ((l.length:Int)-1)=some (FU (qi l) l.length ((l.length:Int)-1)):=by
    by_cases ho:LV l 0 l.length=true
    ·obtain ⟨n4,g4⟩:=Ql l h60 hk1 (λ(i:Int) h0 h1=>(Le.1 ho i h0 h1).2) l.length ((l.length:Int)-1) (by omega) (by omega) (by omega) (by omega);exact ⟨n4,λ_=>g4⟩
    ·exact ⟨0,λh=>absurd h ho⟩
   refine ⟨n1+n2+n3+n4+l.length+5,λn hn=>?_⟩;obtain ⟨m,rfl,hm⟩:=up1 hn;have hlp:=y7 l m h60 hk1 (λc hc=>by
    have:=g2 m (by omega) c hc;split at this
    ·assumption
    ·cases this) (g1 m (by omega)) l.length 0 m (by omega) (by omega)
   have g3:=g3 m (by omega);dsimp only at g3;simp only [Int.natCast_zero] at hlp;have hw:IntKind.i64.wrap ((l.length:Int)-1)=(l.length:Int)-1:=ql (by omega);have hx:0<=(l.length:Int)-1/\(l.length:Int)-1<l.length:=by omega
   have hc:=Hp hx;have a1:¬(l.length:Int)<1:=by omega
   have a2:¬(l.length:Int)>60:=by omega
   generalize hxe:(l.length:Int)-1=x at hw hx hc g3 g4⊢;simp only [GM,IB,qj,zamV,aG,a1,a2,if_false,hlp];unfold Jk;rw [hxe];cases ho:LV l 0 l.length with
   |false=>simp [qj]
   |true=>
    have g4:=g4 ho m (by omega);simp only [if_true,qj,zamV,hxe,hw,g3];by_cases ht:GY (qi l) l.length x=0
    ·by_cases ha:(ndi l x).1=3
     ·simp [-getElem?_pos,qj,ht,hx,hc,GE,Fs,FI,Eu,Ew,Ey,Ez,E0,E1,E2,E3,E4,E5,EJ,EK,EL,EM,ha,Fh]
     ·simp [-getElem?_pos,qj,ht,hx,hc,GE,Fs,FI,Eu,Ew,Ey,Ez,E0,E1,E2,E3,E4,E5,EJ,EK,EL,EM,ha,Fh,g4,h1,h60]
    ·simp [-getElem?_pos,qj,ht]
  ·refine ⟨1,λn hn=>?_⟩;obtain ⟨m,rfl,hm⟩:=up1 (n0:=0) hn;have a1:¬(l.length:Int)<1:=by omega
   have a2:(l.length:Int)>60:=by omega
   simp [-getElem?_pos,GM,IB,qj,a1,a2,Jk,h60]
 ·refine ⟨1,λn hn=>?_⟩;obtain ⟨m,rfl,hm⟩:=up1 (n0:=0) hn;have a1:(l.length:Int)<1:=by omega
  simp [-getElem?_pos,GM,IB,qj,a1,Jk,h1]
theorem YB (l:List Nd) (x1 d:Int) (f n:Nat) (hx:0<=x1/\x1<l.length) (hl:l.length<=140737488351232) (hd:0<=d/\d<=1000) (hk:(kd (ndi l x1)).length<=140737488351232)
  (hrec:∀y:Int,0<=y->y<x1->FE n (l.map qu) y (d+1)=some (Ho (MK l) (Fh l) (Gm l) (qi l) f y)):
  ∀(j M:Nat) (s:Int),j<=(kd (ndi l x1)).length->j+1<=M->0<=s->s<=x1->
   zF (Ep (FE n) n) M (l.map qu,x1,d,s,(j:Int)-1)=some (.inr (goF (Fh l) (Gm l) (Ho (MK l) (Fh l) (Gm l) (qi l) f) x1 ((qi l x1).take j).reverse s))\/
   (zF (Ep (FE n) n) M (l.map qu,x1,d,s,(j:Int)-1)=some (.inl (-1))/\goF (Fh l) (Gm l) (Ho (MK l) (Fh l) (Gm l) (qi l) f) x1 ((qi l x1).take j).reverse s= -1)
 |0,0,s,h1,h2,h3,h4=>by omega
 |0,M+1,s,h1,h2,h3,h4=>by
  refine .inl ?_;rw [qe (r:= .inr s) (by simp [-getElem?_pos,Ep,qj])];simp [goF]
 |j+1,0,s,h1,h2,h3,h4=>by omega
 |j+1,M+1,s,h1,h2,h3,h4=>by
  have hc:=Hp hx;have hj:j<(kd (ndi l x1)).length:=by omega
  have hg:(qi l x1)[j]?=some (qi l x1)[j]:=zh hj;have ih:=YB l x1 d f n hx hl hd hk hrec j M;rw [ZR hg];generalize (qi l x1)[j]=k at hg;have hi:(((j+1:Nat):Int)-1)=(j:Int):=by omega
  rw [hi,goF];have hg':(ndi l x1).2.2.2.2.2.2.2.2.2.2.2.2.2[j]?=some k:=hg;have hj':j<(ndi l x1).2.2.2.2.2.2.2.2.2.2.2.2.2.length:=hj;have hws:IntKind.i64.wrap (s-1)=s-1:=ql (by omega);by_cases hks:k=s-1
  ·by_cases hk0:k<0
   ·refine .inr ⟨?_,by rw [if_pos (.inr (.inl hk0))]⟩;rw [qe (r:= .inl (-1)) (by simp [-getElem?_pos,Ep,qj,hc,hx,GE,Fs,FI,Eu,Ew,Ey,Ez,E0,E1,E2,E3,E4,E5,EJ,EK,EL,EM,hg',hj',hks,hws,show s-1<0 by omega])]
   ·have hws':IntKind.i64.wrap (s-1)=k:=by rw [hws,hks]
    have hkx:0<=k/\k<l.length:=by omega
    have hck:=Hp hkx;by_cases hac:Fh l k=true/\Gm l x1=false
    ·have ha:(ndi l k).1=3:=by simpa [Fh] using hac.1
     have hb:¬(ndi l x1).1=6:=by simpa [Gm] using hac.2
     refine .inr ⟨?_,by rw [if_pos (.inr (.inr hac))]⟩;rw [qe (r:= .inl (-1)) (by simp [-getElem?_pos,Ep,qj,hc,hx,GE,Fs,FI,Eu,Ew,Ey,Ez,E0,E1,E2,E3,E4,E5,EJ,EK,EL,EM,hg',hj',hws',hk0,hck,hkx,ha,hb])]
    ·have hr:=hrec k (by omega) (by omega);have hwd:IntKind.i64.wrap (d+1)=d+1:=ql (by omega);have hw2:IntKind.i64.wrap ((j:Int)-1)=(j:Int)-1:=ql (by omega);have hno:¬(k≠s-1\/k<0\/(Fh l k=true/\Gm l x1=false)):=λh=>by
      rcases h with h|h|h
      ·exact h hks
      ·exact hk0 h
      ·exact hac h
     have hcase:¬(ndi l k).1=3\/((ndi l k).1=3/\(ndi l x1).1=6):=by
      by_cases ha:(ndi l k).1=3
      ·refine .inr ⟨ha,?_⟩;refine Decidable.byContradiction λhb=>hac ⟨by simp [Fh,ha],by simp [Gm,hb]⟩
      ·exact .inl ha
     rw [if_neg hno];by_cases ht:Ho (MK l) (Fh l) (Gm l) (qi l) f k<0
     ·refine .inr ⟨?_,by rw [if_pos ht]⟩;rcases hcase with ha|⟨ha,hb⟩
      ·rw [qe (r:= .inl (-1)) (by simp [-getElem?_pos,Ep,qj,hc,hx,GE,Fs,FI,Eu,Ew,Ey,Ez,E0,E1,E2,E3,E4,E5,EJ,EK,EL,EM,hg',hj',hws',hk0,hck,hkx,ha,hwd,hr,ht])]
      ·rw [qe (r:= .inl (-1)) (by simp [-getElem?_pos,Ep,qj,hc,hx,GE,Fs,FI,Eu,Ew,Ey,Ez,E0,E1,E2,E3,E4,E5,EJ,EK,EL,EM,hg',hj',hws',hk0,hck,hkx,ha,hb,hwd,hr,ht])]
     ·rw [if_neg ht];have hb1:=(Yr (MK l) (Fh l) (Gm l) (qi l) f (k.toNat+1) k (by omega) (by omega) (by omega)).1;have hstep:zF (Ep (FE n) n) (M+1) (l.map qu,x1,d,s,(j:Int))=zF (Ep (FE n) n) M (l.map qu,x1,d,Ho (MK l) (Fh l) (Gm l) (qi l) f k,(j:Int)-1):=by
       rcases hcase with ha|⟨ha,hb⟩
       ·rw [qm (v':=(l.map qu,x1,d,Ho (MK l) (Fh l) (Gm l) (qi l) f k,(j:Int)-1)) (by simp [-getElem?_pos,Ep,qj,hc,hx,GE,Fs,FI,Eu,Ew,Ey,Ez,E0,E1,E2,E3,E4,E5,EJ,EK,EL,EM,hg',hj',hws',hk0,hck,hkx,ha,hwd,hr,ht,hw2])]
       ·rw [qm (v':=(l.map qu,x1,d,Ho (MK l) (Fh l) (Gm l) (qi l) f k,(j:Int)-1)) (by simp [-getElem?_pos,Ep,qj,hc,hx,GE,Fs,FI,Eu,Ew,Ey,Ez,E0,E1,E2,E3,E4,E5,EJ,EK,EL,EM,hg',hj',hws',hk0,hck,hkx,ha,hb,hwd,hr,ht,hw2])]
      rw [hstep];exact ih _ (by omega) (by omega) (by omega) (by omega)
  ·refine .inr ⟨?_,by rw [if_pos (.inl hks)]⟩;rw [qe (r:= .inl (-1)) (by simp [-getElem?_pos,Ep,qj,hc,hx,GE,Fs,FI,Eu,Ew,Ey,Ez,E0,E1,E2,E3,E4,E5,EJ,EK,EL,EM,hg',hj',hws,hks])]
theorem Tc (l:List Nd) (hl:l.length<=140737488351232) (hk:∀c∈l,(kd c).length<=140737488351232/\c.2.2.2.2.1.size<=140737488351232):∀(f:Nat) (x d:Int),x<l.length->d=12-f->0<=d->Ev (FE · (l.map qu) x d) (Ho (MK l) (Fh l) (Gm l) (qi l) f x)
 |0,x,d,h1,h2,h3=>by
  refine ⟨1,λn hn=>?_⟩;obtain ⟨m,rfl,hm⟩:=up1 (n0:=0) hn;have a:d≥12:=by omega
  by_cases h:x<0<;>simp [-getElem?_pos,FE,Lb,qj,h,a,Ho]
 |f+1,x,d,h1,h2,h3=>by
  by_cases h0:x<0
  ·refine ⟨1,λn hn=>?_⟩;obtain ⟨m,rfl,hm⟩:=up1 (n0:=0) hn;simp [-getElem?_pos,FE,Lb,qj,h0,Ho]
  ·have hx:0<=x/\x<l.length:=by omega
   have hc:=Hp hx;have hm':=PC hx;obtain ⟨n0,hn0⟩:=ZS (F:=λy n=>FE n (l.map qu) y (d+1)) (f:=λy=>Ho (MK l) (Fh l) (Gm l) (qi l) f y) x (λy h3 h4=>Tc l hl hk f y (d+1) (by omega) (by omega) (by omega));obtain ⟨n1,g1⟩:=Xs (ndi l x) (hk _ hm').2;refine ⟨n0+n1+(kd (ndi l x)).length+5,λn hn=>?_⟩;obtain ⟨m,rfl,hm⟩:=up1 hn;have g1:=g1 m (by omega);have h:=YB l x d f m hx hl (by omega) (hk _ hm').1 (hn0 m (by omega)) (kd (ndi l x)).length m x (zH _) (by omega) (by omega) (by omega);have e:(qi l x).take (kd (ndi l x)).length=qi l x:=List.take_length;rw [e] at h;have hw2:IntKind.i64.wrap (((kd (ndi l x)).length:Int)-1)=((kd (ndi l x)).length:Int)-1:=by
    have:=(hk _ hm').1;exact ql (by omega)
   have a:¬d≥12:=by omega
   unfold kd at h hw2;dsimp only at g1⊢;simp only [FE,Lb,Ho,qj];cases hnb:Gq (ndi l x) with
   |false=>
    rw [hnb] at g1;simp [-getElem?_pos,qj,h0,a,hc,hx,GE,Fs,FI,Eu,Ew,Ey,Ez,E0,E1,E2,E3,E4,E5,EJ,EK,EL,EM,g1,MK,hnb]
   |true=>
    rw [hnb] at g1;rcases h with h|⟨h,h'⟩
    ·simp [-getElem?_pos,qj,h0,a,hc,hx,GE,Fs,FI,Eu,Ew,Ey,Ez,E0,E1,E2,E3,E4,E5,EJ,EK,EL,EM,g1,MK,hnb,hw2,h]
    ·simp only [h'];simp [-getElem?_pos,qj,h0,a,hc,hx,GE,Fs,FI,Eu,Ew,Ey,Ez,E0,E1,E2,E3,E4,E5,EJ,EK,EL,EM,g1,MK,hnb,hw2,h]
theorem du {l:List Nd}:Jk l=(decide (1<=l.length/\l.length<=60)&&(!Fh l ((l.length:Int)-1)&&decide (Ho (MK l) (Fh l) (Gm l) (qi l) 12 ((l.length:Int)-1)=0))):=by
 rw [Bool.eq_iff_iff];unfold Jk;simp only [zL,aG]
 constructor
 ·intro ⟨h1,h2,h3,h4,h5⟩;refine ⟨h1,h4,?_⟩;rw [w9 (MK l) (Fh l) (Gm l) (qi l) 12 l.length l.length ((l.length:Int)-1) (by omega) (by omega) (by omega) (λi i0 i1=>Le.1 h2 i i0 (by omega)) (by omega) (by simpa using h5)];exact h3
 ·intro ⟨h1,h4,h5⟩;obtain ⟨b1,b2,b3,b4⟩:=Yr (MK l) (Fh l) (Gm l) (qi l) 12 l.length ((l.length:Int)-1) (by omega) (by omega) (by omega);rw [h5] at b2 b3;refine ⟨h1,Le.2 (λi i0 i1=>b3 i i0 (by omega)),b2,h4,?_⟩;have:=b4 l.length (λi i0 i1=>(b3 i i0 i1).2) (by omega);simpa using this
theorem Nb (l:List Nd) (hl:l.length<=140737488351232) (hk:∀c∈l,(kd c).length<=140737488351232/\c.2.2.2.2.1.size<=140737488351232):Ev (GT · (l.map qu)) (Jk l):=by
 rw [du];by_cases h:1<=l.length/\l.length<=60
 ·obtain ⟨n1,g1⟩:=Tc l hl hk 12 ((l.length:Int)-1) 0 (by omega) (by omega) (by omega);obtain ⟨n2,g2⟩:=Eb (l.length:Int) 1 60;refine ⟨n1+n2+1,λn hn=>?_⟩;obtain ⟨m,rfl,hm⟩:=up1 hn;have g1:=g1 m (by omega);have g2:=g2 m (by omega);dsimp only at g1 g2⊢;have hw:IntKind.i64.wrap ((l.length:Int)-1)=(l.length:Int)-1:=ql (by omega);have hx:0<=(l.length:Int)-1/\(l.length:Int)-1<l.length:=by omega
  have hc:=Hp hx;have h':(1:Int)<=l.length/\(l.length:Int)<=60:=by omega
  generalize hxe:(l.length:Int)-1=x at hw hx hc g1⊢;by_cases ha:(ndi l x).1=3
  ·simp [-getElem?_pos,GT,IG,qj,hxe,g2,h',hw,hx,hc,GE,Fs,FI,Eu,Ew,Ey,Ez,E0,E1,E2,E3,E4,E5,EJ,EK,EL,EM,ha,Fh]
  ·by_cases hf:Ho (MK l) (Fh l) (Gm l) (qi l) 12 x=0<;>simp [-getElem?_pos,GT,IG,qj,hxe,g1,g2,h,h',hw,hx,hc,GE,Fs,FI,Eu,Ew,Ey,Ez,E0,E1,E2,E3,E4,E5,EJ,EK,EL,EM,ha,Fh,hf]
 ·obtain ⟨n2,g2⟩:=Eb (l.length:Int) 1 60;refine ⟨n2+1,λn hn=>?_⟩;obtain ⟨m,rfl,hm⟩:=up1 hn;have g2:=g2 m (by omega);dsimp only at g2⊢;have h':¬((1:Int)<=l.length/\(l.length:Int)<=60):=by omega
  simp [-getElem?_pos,GT,IG,qj,g2,h,h']
def E6 (l:LBy):LBy:=l.flatMap λc=>if c=34 then [34,34] else [c]
def I7 (s:BA):BA:=⟨(34::E6 s.toList++ [34]).toArray⟩
theorem J9 (c:UInt8) (l:LBy):E6 (c::l)=(if c=34 then [34,34] else [c])++E6 l:=by simp [E6]
theorem YC (l r:LBy):E6 (l++r)=E6 l++E6 r:=by simp [E6]
theorem Oc:∀l:LBy,(E6 l).length<=2*l.length
 | []=>by simp [E6]
 |c::l=>by
  have:=Oc l;rw [J9];by_cases h:c=34<;>simp [h]<;>omega
theorem Ru:∀s:LBy,Lib.replaceK [34] [34,34] (Lib.count s [34]) s=E6 s
 | []=>by
  rw [Lib.count_miss (by rfl)];rfl
 |b::l=>by
  have ih:=Ru l;by_cases hb:b=34
  ·subst hb;have h0:Lib.index (34::l) [34]=((0:Nat):Int):=by simp [Lib.index,List.isPrefixOf]
   rw [Lib.count_hit (by simp) h0,Nat.add_comm,Lib.replaceK_hit _ _ _ _ 0 h0];simp only [List.take_zero,List.nil_append,Nat.zero_add,List.length_singleton,List.drop_succ_cons,List.drop_zero];rw [ih,J9,if_pos rfl]
  ·have hix:Lib.index (b::l) [34]=if Lib.index l [34]== -1 then-1 else Lib.index l [34]+1:=by
    have:((34:UInt8)==b)=false:=by simpa using λe=>hb e.symm
    simp [Lib.index,List.isPrefixOf,this]
   rw [J9,if_neg hb];by_cases hm:Lib.index l [34]= -1
   ·rw [hm] at hix;rw [Lib.count_miss hm] at ih;rw [Lib.count_miss (by rw [hix];rfl)];rw [Lib.replaceK] at ih⊢;rw [<-ih];rfl
   ·have hge:=Lib.index_ge l [34];obtain ⟨i,hi⟩:∃i:Nat,Lib.index l [34]=i:=⟨(Lib.index l [34]).toNat,by omega⟩;have hix':Lib.index (b::l) [34]=((i+1:Nat):Int):=by
     rw [hix,if_neg (by simp [hm]),hi];omega
    rw [Lib.count_hit (by simp) hi,Nat.add_comm,Lib.replaceK_hit _ _ _ _ i hi] at ih;rw [Lib.count_hit (by simp) hix',Nat.add_comm,Lib.replaceK_hit _ _ _ _ (i+1) hix'];rw [<-ih];simp only [List.length_singleton,List.take_succ_cons,List.drop_succ_cons,List.cons_append,List.singleton_append,List.nil_append]
theorem U2 (s:LBy):Lib.replaceAll s [34] [34,34]=E6 s:=by
 have h1:(([34]:LBy)== [34,34])=false:=by decide
 have h2:Lib.replaceNum s [34] (-1)=Lib.count s [34]:=by unfold Lib.replaceNum;rw [if_pos (.inl (by decide))]
 unfold Lib.replaceAll Lib.replace;rw [h1,h2];exact Ru s
theorem qT {s:BA} {i:Nat} {c:UInt8} (h:s.toList[i]?=some c):s.extract i (i+1)=⟨#[c]⟩:=by
 apply NT;rw [zao] at h;rw [ByteArray.data_extract,Array.toList_extract];show (s.data.toList.drop i).take (i+1-i)=_;rw [KD h,Nat.add_sub_cancel_left];rfl
theorem d6 (n:Nat) (s A:BA) (i:Nat) (c:UInt8) (hg:s.toList[i]?=some c) (hi:i<s.size) (hA:A.size<=10000) (hs:s.size<=1000):
  (F8 n (s,A,(i:Int))).run=some (.inl (s,if c=34 then (A++⟨#[34]⟩)++⟨#[c]⟩ else A++⟨#[c]⟩,((i+1:Nat):Int))):=by
 have hi':(i:Int)<s.size:=by omega
 have w1:IntKind.i64.wrap ((i:Int)+1)=((i+1:Nat):Int):=by rw [ql (by omega)];omega
 have hx:=qT hg;have d1:(⟨#[34]⟩:BA).size=1:=rfl;have d2:(⟨#[c]⟩:BA).size=1:=rfl;have y1:(0:Int)<=(i:Int)/\(i:Int)<=((i+1:Nat):Int)/\((i+1:Nat):Int)<=s.size:=by omega
 have y0:(0:Int)<=(i:Int):=by omega
 have z1:A.size+(⟨#[34]⟩:BA).size<=9223372036854775807:=by omega
 have z2:(A++(⟨#[34]⟩:BA)).size+(⟨#[c]⟩:BA).size<=9223372036854775807:=by rw [ze];omega
 have z3:A.size+(⟨#[c]⟩:BA).size<=9223372036854775807:=by omega
 by_cases hc:c=34
 ·have hb:((c.toNat:Int)==(34:Int))=true:=by rw [hc];rfl
  rw [if_pos hc];simp only [F8,qj,zC hi',zC y0,cT,hg,hb,zC z1,w1,zC y1,hx,zC z2,if_true]
 ·have hb:((c.toNat:Int)==(34:Int))=false:=by
   have:c.toNat≠34:=λe=>hc (UInt8.toNat_inj.1 e)
   simp;omega
  simp only [F8,qj,zC hi',zC y0,cT,hg,hb,w1,zC y1,hx,zC z3,if_true,hc,if_false,dO]
theorem W7 (n:Nat) (s:BA) (hs:s.size<=1000):∀(r pre:LBy) (M:Nat),s.toList=pre++r->r.length+1<=M->
  zF (F8 n) M (s,⟨(34::E6 pre).toArray⟩,(pre.length:Int))=some ⟨(34::E6 s.toList).toArray⟩
 |r,pre,0,h1,h2=>by omega
 | [],pre,M+1,h1,h2=>by
  have hi:¬(pre.length:Int)<s.size:=by rw [Gl,h1];simp
  rw [h1,List.append_nil];generalize (⟨(34::E6 pre).toArray⟩:BA)=A;rw [qe (r:=A) (by simp [F8,qj,hi])]
 |c::r,pre,M+1,h1,h2=>by
  have hl:s.size=pre.length+(r.length+1):=by rw [Gl,h1];simp
  have hg:s.toList[pre.length]?=some c:=by rw [h1];simp
  have hq:=Oc pre;have hA:(⟨(34::E6 pre).toArray⟩:BA).size<=10000:=by
   rw [H3];simp;omega
  rw [qm (d6 n s _ pre.length c hg (by omega) hA hs)];have e:(if c=34 then ((⟨(34::E6 pre).toArray⟩:BA)++⟨#[34]⟩)++⟨#[c]⟩ else (⟨(34::E6 pre).toArray⟩:BA)++⟨#[c]⟩)=⟨(34::E6 (pre++ [c])).toArray⟩:=by
   apply NT;by_cases hc:c=34
   ·rw [if_pos hc,IM,IM,YC,J9,if_pos hc,hc];simp [E6]
   ·rw [if_neg hc,IM,YC,J9,if_neg hc];simp [E6]
  rw [e];have h:=W7 n s hs r (pre++ [c]) M (by rw [h1];simp) (by simp at h2;omega);rw [show ((pre++ [c]).length:Int)=((pre.length+1:Nat):Int) by simp] at h;exact h
theorem d7 (s:BA):(I7 s).size<=2*s.size+2:=by
 have:=Oc s.toList;rw [EA] at this;rw [H3];simp [I7];omega
theorem V9 (s:BA) (hs:s.size<=1000):Ev (KR · s) (I7 s):=by
 refine ⟨s.size+5,λn hn=>?_⟩;obtain ⟨m,rfl,hm⟩:=up1 hn;have h:=W7 m s hs s.toList [] m rfl (by rw [EA];omega);simp only [zanD,Int.natCast_zero] at h;have e0:(⟨(34::E6 []).toArray⟩:BA)=⟨#[34]⟩:=rfl;rw [e0] at h;have hz:(⟨(34::E6 s.toList).toArray⟩:BA).size+(⟨#[34]⟩:BA).size<=9223372036854775807:=by
  have:=Oc s.toList;rw [EA] at this;have d1:(⟨#[34]⟩:BA).size=1:=rfl;rw [H3,d1];simp;omega
 simp only [KR,Ma,qj,h,zC hz,if_true]
 congr 1
theorem Xt (s:BA) (hs:s.size<=1000):Ev (I2 · s ⟨#[34]⟩ ⟨#[34,34]⟩) ⟨(E6 s.toList).toArray⟩:=by
 refine ⟨1,λn hn=>?_⟩;obtain ⟨m,rfl,hm⟩:=up1 (n0:=0) hn;show aH s ⟨#[34]⟩ ⟨#[34,34]⟩=_;have hc:=Lib.countB_mul_le (⟨#[34]⟩:BA) (by decide) s.size s (zH _);have d1:(⟨#[34]⟩:BA).size=1:=rfl;have d2:(⟨#[34,34]⟩:BA).size=2:=rfl;unfold aH;rw [d1] at hc;rw [if_pos (by rw [d1,d2];omega)]
 congr 3
 rw [<-zao];exact U2 _
def lvl (op:Int):Int:=if op≥6 then 1 else if op=5 then 2 else if op≥3 then 4 else 3
theorem d8 (op:Int):1<=lvl op/\lvl op<=4:=by
 unfold lvl;split
 ·omega
 ·split
  ·omega
  ·split<;>omega
theorem Pn (op:Int):Ev (HE · op) (lvl op):=by
 refine ⟨1,λn hn=>?_⟩;obtain ⟨m,rfl,hm⟩:=up1 hn;simp only [HE,MV,qj];unfold lvl;by_cases h1:op≥6
 ·simp [h1]
 ·by_cases h2:op=5
  ·simp [h2]
  ·by_cases h3:op≥3<;>simp [h1,h2,h3]
theorem jc {op:Int} (h:1<=op/\op<=11):op=1\/op=2\/op=3\/op=4\/op=5\/op=6\/op=7\/op=8\/op=9\/op=10\/op=11:=by omega
theorem Rv (op:Int) (h:1<=op/\op<=11):Ev (JI · op) (lvl op):=by
 refine ⟨1,λn hn=>?_⟩;obtain ⟨m,rfl,hm⟩:=up1 hn;simp only [JI,O0,qj];rcases jc h with rfl|rfl|rfl|rfl|rfl|rfl|rfl|rfl|rfl|rfl|rfl<;>rfl
def D5 (op:Int):BA:=if op=1 then ⟨#[43]⟩ else if op=2 then ⟨#[45]⟩ else if op=3 then ⟨#[42]⟩ else if op=4 then ⟨#[47]⟩ else if op=5 then ⟨#[38]⟩ else if op=6 then ⟨#[61]⟩ else if op=7 then ⟨#[60,62]⟩ else if op=8 then ⟨#[60]⟩ else if op=9 then ⟨#[60,61]⟩ else if op=10 then ⟨#[62]⟩ else ⟨#[62,61]⟩
def fnS (op:Int):BA:=if op=1 then ⟨#[83,85,77]⟩ else if op=2 then ⟨#[77,73,78]⟩ else if op=3 then ⟨#[77,65,88]⟩ else if op=4 then ⟨#[67,79,85,78,84]⟩ else if op=5 then ⟨#[73,70]⟩ else if op=6 then ⟨#[65,78,68]⟩ else if op=7 then ⟨#[79,82]⟩ else if op=8 then ⟨#[78,79,84]⟩ else if op=9 then ⟨#[65,66,83]⟩ else ⟨#[76,69,78]⟩
theorem PD {op:Int} (h:1<=op/\op<=11):(D5 op).size<=2:=by
 rcases jc h with rfl|rfl|rfl|rfl|rfl|rfl|rfl|rfl|rfl|rfl|rfl<;>decide
theorem W8 {op:Int} (h:1<=op/\op<=10):(fnS op).size<=5:=by
 rcases ten h with rfl|rfl|rfl|rfl|rfl|rfl|rfl|rfl|rfl|rfl<;>decide
theorem M2 (op:Int) (h:1<=op/\op<=11):Ev (G4 · op) (D5 op):=by
 refine ⟨1,λn hn=>?_⟩;obtain ⟨m,rfl,hm⟩:=up1 hn;simp only [G4,Nl,qj];rcases jc h with rfl|rfl|rfl|rfl|rfl|rfl|rfl|rfl|rfl|rfl|rfl<;>rfl
theorem M3 (op:Int) (h:1<=op/\op<=11):Ev (F4 · op) (D5 op):=by
 refine ⟨1,λn hn=>?_⟩;obtain ⟨m,rfl,hm⟩:=up1 hn;simp only [F4,Nz,qj];rcases jc h with rfl|rfl|rfl|rfl|rfl|rfl|rfl|rfl|rfl|rfl|rfl<;>rfl
theorem Td (op:Int) (h:1<=op/\op<=10):Ev (HY · op) (fnS op):=by
 refine ⟨1,λn hn=>?_⟩;obtain ⟨m,rfl,hm⟩:=up1 hn;simp only [HY,P6,qj];rcases ten h with rfl|rfl|rfl|rfl|rfl|rfl|rfl|rfl|rfl|rfl<;>rfl
theorem Qm (op:Int) (h:1<=op/\op<=10):Ev (G5 · op) (fnS op):=by
 refine ⟨1,λn hn=>?_⟩;obtain ⟨m,rfl,hm⟩:=up1 hn;simp only [G5,Ny,qj];rcases ten h with rfl|rfl|rfl|rfl|rfl|rfl|rfl|rfl|rfl|rfl<;>rfl
def Qn (xs:List BA):BA:=⟨(Lib.join (xs.map (·.data.toList)) [44]).toArray⟩
def par (b:Bool) (s:BA):BA:=if b=true then ((⟨#[40]⟩:BA)++s)++⟨#[41]⟩ else s
def kid (c:Nd) (j:Nat):Int:=(kd c).getD j 0
def D6 (l:List Nd):Nat->Int->Int->BA
 |0,_,_=>⟨#[]⟩
 |f+1,i,t=>
  if (ndi l i).1=1 then (if (ndi l i).2.2.1=2 then I7 (ndi l i).2.2.2.2.1 else EN (ndi l i).2.2.1 (ndi l i).2.2.2.1 (ndi l i).2.2.2.2.1)
  else if (ndi l i).1=2 then EF (ndi l i).2.2.2.2.2.1 (ndi l i).2.2.2.2.2.2.1 (ndi l i).2.2.2.2.2.2.2.1 (ndi l i).2.2.2.2.2.2.2.2.1
  else if (ndi l i).1=3 then (EF (ndi l i).2.2.2.2.2.1 (ndi l i).2.2.2.2.2.2.1 (ndi l i).2.2.2.2.2.2.2.1 (ndi l i).2.2.2.2.2.2.2.2.1++⟨#[58]⟩)++EF (ndi l i).2.2.2.2.2.2.2.2.2.1 (ndi l i).2.2.2.2.2.2.2.2.2.2.1 (ndi l i).2.2.2.2.2.2.2.2.2.2.2.1 (ndi l i).2.2.2.2.2.2.2.2.2.2.2.2.1
  else if (ndi l i).1=4 then (⟨#[45]⟩:BA)++D6 l f (kid (ndi l i) 0) 5
  else if (ndi l i).1=5 then par (decide (lvl (ndi l i).2.1<t)) ((D6 l f (kid (ndi l i) 0) (lvl (ndi l i).2.1)++D5 (ndi l i).2.1)++D6 l f (kid (ndi l i) 1) (lvl (ndi l i).2.1+1))
  else ((fnS (ndi l i).2.1++⟨#[40]⟩)++Qn ((qi l i).map λk=>D6 l f k 1))++⟨#[41]⟩
theorem y8 (l:List Nd) (f:Nat) (i:Int):D6 l f i 0=D6 l f i 1:=by
 cases f with
 |zero=>rfl
 |succ f=>
  have h:=d8 (ndi l i).2.1;have e:decide (lvl (ndi l i).2.1<0)=decide (lvl (ndi l i).2.1<1):=by
   rw [aA (by omega),aA (by omega)]
  simp only [D6,e]
theorem Lf {c:Nd} (h:Gq c=true):(c.1=1/\okV c.2.2.1 c.2.2.2.1 c.2.2.2.2.1=true)\/c.1=2\/c.1=3\/(c.1=4/\(kd c).length=1)\/(c.1=5/\(1<=c.2.1/\c.2.1<=11)/\(kd c).length=2)\/(c.1=6/\(1<=c.2.1/\c.2.1<=10)/\(1<=(kd c).length/\(kd c).length<=10)):=by
 unfold Gq at h;by_cases k1:c.1=1
 ·rw [if_pos k1] at h;simp only [zL] at h;exact .inl ⟨k1,h.2.2.2.2.1⟩
 rw [if_neg k1] at h;by_cases k2:c.1=2
 ·exact .inr (.inl k2)
 rw [if_neg k2] at h;by_cases k3:c.1=3
 ·exact .inr (.inr (.inl k3))
 rw [if_neg k3] at h;by_cases k4:c.1=4
 ·rw [if_pos k4] at h;simp only [zL,aG] at h;exact .inr (.inr (.inr (.inl ⟨k4,h.2.2.2.2⟩)))
 rw [if_neg k4] at h;by_cases k5:c.1=5
 ·rw [if_pos k5] at h;simp only [zL,aG] at h;exact .inr (.inr (.inr (.inr (.inl ⟨k5,h.1,h.2.2.2.2⟩))))
 rw [if_neg k5] at h;by_cases k6:c.1=6
 ·rw [if_pos k6] at h;simp only [zL] at h;have ha:=h.1;unfold MC at ha;refine .inr (.inr (.inr (.inr (.inr ⟨k6,?_⟩))));by_cases h5:c.2.1=5
  ·rw [if_pos h5] at ha;have:=of_decide_eq_true ha;omega
  ·rw [if_neg h5] at ha;by_cases h8:8<=c.2.1/\c.2.1<=10
   ·rw [if_pos h8] at ha;have:=of_decide_eq_true ha;omega
   ·rw [if_neg h8] at ha;by_cases h1:1<=c.2.1/\c.2.1<=7
    ·rw [if_pos h1] at ha;have:=of_decide_eq_true ha;omega
    ·rw [if_neg h1] at ha;cases ha
 ·rw [if_neg k6] at h;cases h
def szB:Nat->Nat
 |0=>37
 |f+1=>11*szB f
theorem jd:∀f:Fin 13,szB f.val<=120000000000000:=by decide
theorem dv {f:Nat} (h:f<=12):szB f<=120000000000000:=jd ⟨f,by omega⟩
theorem dw:∀f:Nat,37<=szB f
 |0=>zH _
 |f+1=>by have:=dw f;simp only [szB];omega
theorem Rw (x:LBy) (r:List (LBy)) (sep:LBy):Lib.joinTail sep (x::r)=sep++x++Lib.joinTail sep r:=by simp [Lib.joinTail]
theorem Te:∀(xs:List BA) (b:Nat),(∀x∈xs,x.size<=b)->(Lib.joinTail [44] (xs.map (·.data.toList))).length<=xs.length*(b+1)
 | [],b,h=>by simp [Lib.joinTail]
 |x::r,b,h=>by
  have ih:=Te r b λy hy=>h y (zamR _ hy)
  have hx:=h x (zamN ..);rw [H3] at hx;rw [zanE,Rw,zamO,zamO,List.length_singleton,zamM,Nat.add_mul];omega
theorem Si {xs:List BA} {b:Nat} (h:∀x∈xs,x.size<=b):(Qn xs).size<=xs.length*(b+1):=by
 rw [H3];show (Lib.join (xs.map (·.data.toList)) [44]).length<=_;cases xs with
 |nil=>simp [Lib.join_nil]
 |cons x r=>
  have h1:=Te r b λy hy=>h y (zamR _ hy)
  have hx:=h x (zamN ..);rw [H3] at hx;rw [zanE,Lib.join_cons,zamO,zamM,Nat.add_mul];omega
structure Fine (l:List Nd):Prop where
 len:l.length<=60
 own:∀i:Int,0<=i->i<l.length->MK l i=true/\M1 (Fh l) (Gm l) (qi l) i
 sz:∀c∈l,(kd c).length<=140737488351232/\c.2.2.2.2.1.size<=140737488351232
theorem Fine.kid {l:List Nd} (h:Fine l) {f:Nat} {i k:Int} (hi:0<=i/\i<l.length) (hd:FU (qi l) (i.toNat+1) i<=(f+1:Nat)) (hk:k∈qi l i):(0<=k/\k<l.length)/\FU (qi l) (k.toNat+1) k<=f:=by
 have hin:=(h.own i hi.1 hi.2).2 k hk;have h1:=(W5 (qi l) (n:=i) (b:=((f+1:Nat):Int)) (f:=i.toNat) (by omega)).1 hd k hk;refine ⟨by omega,?_⟩;rw [W6 (Fh l) (Gm l) (qi l) (k.toNat+1) i.toNat k (by omega) (by omega) (λj j0 j1=>(h.own j j0 (by omega)).2) (by omega)];omega
theorem U3 {l:List Nd} (h:Fine l):∀(f:Nat) (i t:Int),f<=12->(0<=i/\i<l.length)->FU (qi l) (i.toNat+1) i<=f->(D6 l f i t).size<=szB f
 |0,i,t,hf,hi,hd=>by show (⟨#[]⟩:BA).size<=_;exact Nat.zero_le _
 |f+1,i,t,hf,hi,hd=>by
  have ih:=λk hk t'=>U3 h f k t' (by omega) (h.kid hi hd hk).1 (h.kid hi hd hk).2
  have hs:=dw f;have hp:∀a b c d,(EF a b c d).size<=30:=G7;have hz:=(h.sz _ (PC hi)).2;have d1:(⟨#[58]⟩:BA).size=1:=rfl;have d2:(⟨#[45]⟩:BA).size=1:=rfl;have d3:(⟨#[40]⟩:BA).size=1:=rfl;have d4:(⟨#[41]⟩:BA).size=1:=rfl;have hk0:∀j,j<(kd (ndi l i)).length->kid (ndi l i) j∈qi l i:=λj hj=>by
   unfold kid;rw [List.getD_eq_getElem?_getD,zh hj];exact List.getElem_mem hj
  rw [szB,D6];rcases Lf (h.own i hi.1 hi.2).1 with ⟨k,hv⟩|k|k|⟨k,hk⟩|⟨k,ho,hk⟩|⟨k,ho,hk⟩
  ·rw [if_pos k];by_cases k2:(ndi l i).2.2.1=2
   ·rw [if_pos k2];rw [k2] at hv;have:=(TV hv).2.1;have:=d7 (ndi l i).2.2.2.2.1;omega
   ·rw [if_neg k2];have:=c8 hv;omega
  ·rw [if_neg (by omega),if_pos k];have:=hp (ndi l i).2.2.2.2.2.1 (ndi l i).2.2.2.2.2.2.1 (ndi l i).2.2.2.2.2.2.2.1 (ndi l i).2.2.2.2.2.2.2.2.1;omega
  ·rw [if_neg (by omega),if_neg (by omega),if_pos k,ze,ze];have h1:=hp (ndi l i).2.2.2.2.2.1 (ndi l i).2.2.2.2.2.2.1 (ndi l i).2.2.2.2.2.2.2.1 (ndi l i).2.2.2.2.2.2.2.2.1;have h2:=hp (ndi l i).2.2.2.2.2.2.2.2.2.1 (ndi l i).2.2.2.2.2.2.2.2.2.2.1 (ndi l i).2.2.2.2.2.2.2.2.2.2.2.1 (ndi l i).2.2.2.2.2.2.2.2.2.2.2.2.1;omega
  ·rw [if_neg (by omega),if_neg (by omega),if_neg (by omega),if_pos k,ze];have:=ih _ (hk0 0 (by omega)) 5;omega
  ·rw [if_neg (by omega),if_neg (by omega),if_neg (by omega),if_neg (by omega),if_pos k];have h1:=ih _ (hk0 0 (by omega)) (lvl (ndi l i).2.1);have h2:=ih _ (hk0 1 (by omega)) (lvl (ndi l i).2.1+1);have h3:=PD ho;unfold par;split
   ·rw [ze,ze,ze,ze];omega
   ·rw [ze,ze];omega
  ·rw [if_neg (by omega),if_neg (by omega),if_neg (by omega),if_neg (by omega),if_neg (by omega)];rw [ze,ze,ze];have h1:=W8 ho;have h2:=Si (xs:=(qi l i).map λk=>D6 l f k 1) (b:=szB f) (λx hx=>by
    obtain ⟨k,hk,rfl⟩:=List.mem_map.1 hx;exact ih k hk 1)
   have h3:(qi l i).length<=10:=hk.2;have h4:(qi l i).length*(szB f+1)<=10*(szB f+1):=dN _ h3;rw [zamV] at h2;omega
abbrev R14:=Int×Int×Int×Int×BA×Int×Int×Bool×Bool×Int×Int×Bool×Bool×RW
theorem W9 (rec:RW->Int->Int->Option BA) (n:Nat) (rows:RW) (A t:BA) (R:R14) (i:Nat) (k:Int) (hg:R.2.2.2.2.2.2.2.2.2.2.2.2.2[i]?=some (Fg k)) (hr:rec rows k 0=some t) (hA:A.size<=2000000000000000) (ht:t.size<=120000000000000) (hi:i<=1000):
  (F9 rec n (rows,A,(i:Int),R)).run=some (.inl (rows,(if i=0 then A++t else (A++(⟨#[44]⟩:BA))++t),((i+1:Nat):Int),R)):=by
 obtain ⟨a0,a1,a2,a3,a4,a5,a6,a7,a8,a9,a10,a11,a12,a13⟩:=R;have hl:i<a13.length:=(zamJ.1 hg).1;have h1:(i:Int)<(a13.length:Int):=by omega
 have h2:0<=(i:Int)/\(i:Int)<(a13.length:Int):=by omega
 have w1:IntKind.i64.wrap ((i:Int)+1)=((i+1:Nat):Int):=by rw [ql (by omega)];omega
 have d1:(⟨#[44]⟩:BA).size=1:=rfl;have z1:A.size+(⟨#[44]⟩:BA).size<=9223372036854775807:=by omega
 have z2:(A++(⟨#[44]⟩:BA)).size+t.size<=9223372036854775807:=by rw [ze];omega
 have z3:A.size+t.size<=9223372036854775807:=by omega
 by_cases h0:i=0
 ·subst h0;simp only [F9,qj,zC h1,Int.natCast_zero,gt_iff_lt,Int.lt_irrefl,decide_false,dO,if_false,if_true] at*
  simp only [zC h1,zC h2,if_true,Int.toNat_zero,hg,aN,Fs,FI,decide_true,hr,zC z3,w1]
 ·have hp:(i:Int)>0:=by omega
  simp only [F9,qj,zC h1,zC hp,if_true,zC z1,zC h2,cT,hg,Fs,FI,decide_true,hr,zC z2,w1,h0,if_false]
theorem YD (l:List Nd) (f n:Nat) (R:R14) (b:Nat) (hb:b<=120000000000000) (ks:List Int) (hks:R.2.2.2.2.2.2.2.2.2.2.2.2.2=ks.map Fg) (hk10:ks.length<=10)
  (hr:∀k∈ks,D7 n (l.map qu) k 0=some (D6 l f k 1)/\(D6 l f k 1).size<=b):
  ∀(r pre:List Int) (A:BA) (M:Nat),ks=pre++r->r.length+1<=M->A.size<=100+pre.length*(b+1)->
   zF (F9 (D7 n) n) M (l.map qu,A,(pre.length:Int),R)=some ⟨(A.data.toList++(if pre.length=0 then Lib.join (r.map λk=>(D6 l f k 1).data.toList) [44] else Lib.joinTail [44] (r.map λk=>(D6 l f k 1).data.toList))).toArray⟩
 |r,pre,A,0,h1,h2,h3=>by omega
 | [],pre,A,M+1,h1,h2,h3=>by
  obtain ⟨a0,a1,a2,a3,a4,a5,a6,a7,a8,a9,a10,a11,a12,a13⟩:=R;simp only at hks;subst hks;have hi:¬(pre.length:Int)<((ks.map Fg).length:Int):=by rw [zamV,h1];simp
  rw [qe (r:=A) (by simp only [F9,qj,aA hi,dO,if_false])]
  congr 1
  apply NT;simp [Lib.joinTail,Lib.join_nil]
 |k::r,pre,A,M+1,h1,h2,h3=>by
  have hm:k∈ks:=by rw [h1];simp
  obtain ⟨g1,g2⟩:=hr k hm;have hpl:pre.length+(r.length+1)=ks.length:=by rw [h1];simp
  have hmul:pre.length*(b+1)<=10*(b+1):=dN _ (by omega);have hg:R.2.2.2.2.2.2.2.2.2.2.2.2.2[pre.length]?=some (Fg k):=by rw [hks,h1,zamS];simp
  rw [qm (W9 (D7 n) n (l.map qu) A (D6 l f k 1) R pre.length k hg g1 (by omega) (by omega) (by omega))];have h:=YD l f n R b hb ks hks hk10 hr r (pre++ [k]) (if pre.length=0 then A++D6 l f k 1 else (A++(⟨#[44]⟩:BA))++D6 l f k 1) M (by rw [h1];simp) (by simp at h2;omega) (by
   have d1:(⟨#[44]⟩:BA).size=1:=rfl;rw [zamO,List.length_singleton,Nat.add_mul];split
   ·rw [ze];omega
   ·rw [ze,ze];omega)
  rw [show ((pre++ [k]).length:Int)=((pre.length+1:Nat):Int) by simp] at h;rw [h]
  congr 1
  apply NT;have e:(pre++ [k]).length≠0:=by simp
  simp only [if_neg e];by_cases h0:pre.length=0
  ·simp only [if_pos h0,IM,zanE,Lib.join_cons,List.append_assoc]
  ·simp only [if_neg h0,IM,zanE,Rw,List.append_assoc,List.cons_append,List.nil_append]
set_option maxHeartbeats 4000000 in
theorem Rb {l:List Nd} (h:Fine l) (f:Nat) (i t:Int) (hf:f+1<=12) (hx:0<=i/\i<l.length) (hd:FU (qi l) (i.toNat+1) i<=(f+1:Nat)) (ih:∀k∈qi l i,∀t',Ev (D7 · (l.map qu) k t') (D6 l f k t')):Ev (D7 · (l.map qu) i t) (D6 l (f+1) i t):=by
  have ih:=λk hk t'=>ih k hk t'
  have isz:=λk hk t'=>U3 h f k t' (by omega) (h.kid hx hd hk).1 (h.kid hx hd hk).2
  have hs:=dv (f:=f) (by omega);have hcr:(l.map qu)[i.toNat]?=some (qu (ndi l i)):=by rw [zamS,Hp hx];rfl
  have hxb:0<=i/\i<((l.map qu).length:Int):=by rw [zamV];exact hx
  have hz:=(h.sz _ (PC hx)).2;have hp:∀a b c d,(EF a b c d).size<=30:=G7;have d1:(⟨#[58]⟩:BA).size=1:=rfl;have d2:(⟨#[45]⟩:BA).size=1:=rfl;have d3:(⟨#[40]⟩:BA).size=1:=rfl;have d4:(⟨#[41]⟩:BA).size=1:=rfl;have hk0:∀j,j<(kd (ndi l i)).length->kid (ndi l i) j∈qi l i/\(List.map Fg (ndi l i).2.2.2.2.2.2.2.2.2.2.2.2.2)[j]?=some (Fg (kid (ndi l i) j)):=λj hj=>by
   unfold kid;rw [List.getD_eq_getElem?_getD,zh hj];refine ⟨List.getElem_mem hj,?_⟩;rw [zamS];show ((kd (ndi l i))[j]?).map Fg=_;rw [zh hj];rfl
  have hkl:(List.map Fg (ndi l i).2.2.2.2.2.2.2.2.2.2.2.2.2).length=(kd (ndi l i)).length:=by rw [zamV];rfl
  rcases Lf (h.own i hx.1 hx.2).1 with ⟨k,hv⟩|k|k|⟨k,hk⟩|⟨k,ho,hk⟩|⟨k,ho,hk⟩
  ·by_cases k2:(ndi l i).2.2.1=2
   ·have hv2:okV 2 (ndi l i).2.2.2.1 (ndi l i).2.2.2.2.1=true:=by rw [<-k2];exact hv
    obtain ⟨n1,g1⟩:=V9 (ndi l i).2.2.2.2.1 (by have:=(TV hv2).2.1;omega);refine ⟨n1+1,λn hn=>?_⟩;obtain ⟨m,rfl,hm⟩:=up1 hn;have g1:=g1 m (by omega);dsimp only at g1⊢;show (Gb (D7 m) m (l.map qu) i t).run=_;refine qb (zC hxb) (qa hcr (qb rfl (qa (Eu _) (qa (Ew _) (qa (Ey _) (qa (Ez _) (qa (E0 _) (qa (E1 _) (qa (E2 _) (qa (E3 _) (qa (E4 _) (qa (E5 _) (qa (EJ _) (qa (EK _) (qa (EL _) (qa (EM _) ?_))))))))))))))));refine qb (by rw [k];rfl) (qb (by rw [k2];rfl) (qa g1 ?_));rw [qh,D6,if_pos k,if_pos k2]
   ·obtain ⟨n1,g1⟩:=Iq (ndi l i).2.2.1 (ndi l i).2.2.2.1 (ndi l i).2.2.2.2.1 hz;have kb:((ndi l i).2.2.1==(2:Int))=false:=by simpa using k2
    refine ⟨n1+1,λn hn=>?_⟩;obtain ⟨m,rfl,hm⟩:=up1 hn;have g1:=g1 m (by omega);rw [hv] at g1;dsimp only at g1⊢;simp only [if_true] at g1;show (Gb (D7 m) m (l.map qu) i t).run=_;refine qb (zC hxb) (qa hcr (qb rfl (qa (Eu _) (qa (Ew _) (qa (Ey _) (qa (Ez _) (qa (E0 _) (qa (E1 _) (qa (E2 _) (qa (E3 _) (qa (E4 _) (qa (E5 _) (qa (EJ _) (qa (EK _) (qa (EL _) (qa (EM _) ?_))))))))))))))));refine qb (by rw [k];rfl) (qc kb (qa g1 ?_));rw [qh,D6,if_pos k,if_neg k2]
  ·obtain ⟨n1,g1⟩:=GD (ndi l i).2.2.2.2.2.1 (ndi l i).2.2.2.2.2.2.1 (ndi l i).2.2.2.2.2.2.2.1 (ndi l i).2.2.2.2.2.2.2.2.1;refine ⟨n1+1,λn hn=>?_⟩;obtain ⟨m,rfl,hm⟩:=up1 hn;have g1:=g1 m (by omega);dsimp only at g1⊢;show (Gb (D7 m) m (l.map qu) i t).run=_;refine qb (zC hxb) (qa hcr (qb rfl (qa (Eu _) (qa (Ew _) (qa (Ey _) (qa (Ez _) (qa (E0 _) (qa (E1 _) (qa (E2 _) (qa (E3 _) (qa (E4 _) (qa (E5 _) (qa (EJ _) (qa (EK _) (qa (EL _) (qa (EM _) ?_))))))))))))))));refine qc (by rw [k];rfl) (qb (by rw [k];rfl) (qa g1 ?_));rw [qh,D6,if_neg (by omega),if_pos k]
  ·obtain ⟨n1,g1⟩:=GD (ndi l i).2.2.2.2.2.1 (ndi l i).2.2.2.2.2.2.1 (ndi l i).2.2.2.2.2.2.2.1 (ndi l i).2.2.2.2.2.2.2.2.1;obtain ⟨n2,g2⟩:=GD (ndi l i).2.2.2.2.2.2.2.2.2.1 (ndi l i).2.2.2.2.2.2.2.2.2.2.1 (ndi l i).2.2.2.2.2.2.2.2.2.2.2.1 (ndi l i).2.2.2.2.2.2.2.2.2.2.2.2.1;have h1:=hp (ndi l i).2.2.2.2.2.1 (ndi l i).2.2.2.2.2.2.1 (ndi l i).2.2.2.2.2.2.2.1 (ndi l i).2.2.2.2.2.2.2.2.1;have h2:=hp (ndi l i).2.2.2.2.2.2.2.2.2.1 (ndi l i).2.2.2.2.2.2.2.2.2.2.1 (ndi l i).2.2.2.2.2.2.2.2.2.2.2.1 (ndi l i).2.2.2.2.2.2.2.2.2.2.2.2.1;have z1:(EF (ndi l i).2.2.2.2.2.1 (ndi l i).2.2.2.2.2.2.1 (ndi l i).2.2.2.2.2.2.2.1 (ndi l i).2.2.2.2.2.2.2.2.1).size+(⟨#[58]⟩:BA).size<=9223372036854775807:=by omega
   have z2:(EF (ndi l i).2.2.2.2.2.1 (ndi l i).2.2.2.2.2.2.1 (ndi l i).2.2.2.2.2.2.2.1 (ndi l i).2.2.2.2.2.2.2.2.1++(⟨#[58]⟩:BA)).size+(EF (ndi l i).2.2.2.2.2.2.2.2.2.1 (ndi l i).2.2.2.2.2.2.2.2.2.2.1 (ndi l i).2.2.2.2.2.2.2.2.2.2.2.1 (ndi l i).2.2.2.2.2.2.2.2.2.2.2.2.1).size<=9223372036854775807:=by rw [ze];omega
   refine ⟨n1+n2+1,λn hn=>?_⟩;obtain ⟨m,rfl,hm⟩:=up1 hn;have g1:=g1 m (by omega);have g2:=g2 m (by omega);dsimp only at g1 g2⊢;show (Gb (D7 m) m (l.map qu) i t).run=_;refine qb (zC hxb) (qa hcr (qb rfl (qa (Eu _) (qa (Ew _) (qa (Ey _) (qa (Ez _) (qa (E0 _) (qa (E1 _) (qa (E2 _) (qa (E3 _) (qa (E4 _) (qa (E5 _) (qa (EJ _) (qa (EK _) (qa (EL _) (qa (EM _) ?_))))))))))))))));refine qc (by rw [k];rfl) (qc (by rw [k];rfl) (qb (by rw [k];rfl) (qa g1 (qb (zC z1) (qa g2 (qb (zC z2) ?_))))));rw [qh,D6,if_neg (by omega),if_neg (by omega),if_pos k]
  ·obtain ⟨m0,c0⟩:=hk0 0 (by omega);obtain ⟨n1,g1⟩:=ih _ m0 5;have h1:=isz _ m0 5;have z1:(⟨#[45]⟩:BA).size+(D6 l f (kid (ndi l i) 0) 5).size<=9223372036854775807:=by omega
   have y1:(0:Int)<=(0:Int)/\(0:Int)<((List.map Fg (ndi l i).2.2.2.2.2.2.2.2.2.2.2.2.2).length:Int):=by rw [hkl];omega
   refine ⟨n1+1,λn hn=>?_⟩;obtain ⟨m,rfl,hm⟩:=up1 hn;have g1:=g1 m (by omega);dsimp only at g1⊢;have e0:((0:Int)).toNat=0:=rfl;show (Gb (D7 m) m (l.map qu) i t).run=_;refine qb (zC hxb) (qa hcr (qb rfl (qa (Eu _) (qa (Ew _) (qa (Ey _) (qa (Ez _) (qa (E0 _) (qa (E1 _) (qa (E2 _) (qa (E3 _) (qa (E4 _) (qa (E5 _) (qa (EJ _) (qa (EK _) (qa (EL _) (qa (EM _) ?_))))))))))))))));refine qc (by rw [k];rfl) (qc (by rw [k];rfl) (qc (by rw [k];rfl) (qb (by rw [k];rfl) (qb (zC y1) (qa c0 (qb rfl (qa (FI _) (qa g1 (qb (zC z1) ?_)))))))));rw [qh,D6,if_neg (by omega),if_neg (by omega),if_neg (by omega),if_pos k]
  ·obtain ⟨m0,c0⟩:=hk0 0 (by omega);obtain ⟨m1,c1⟩:=hk0 1 (by omega);have hlv:=d8 (ndi l i).2.1;obtain ⟨n1,g1⟩:=ih _ m0 (lvl (ndi l i).2.1);obtain ⟨n2,g2⟩:=ih _ m1 (lvl (ndi l i).2.1+1);obtain ⟨n3,g3⟩:=Pn (ndi l i).2.1;obtain ⟨n4,g4⟩:=M2 (ndi l i).2.1 ho;have h1:=isz _ m0 (lvl (ndi l i).2.1);have h2:=isz _ m1 (lvl (ndi l i).2.1+1);have h3:=PD ho;have hw:IntKind.i64.wrap (lvl (ndi l i).2.1+1)=lvl (ndi l i).2.1+1:=ql (by omega);have y1:(0:Int)<=(0:Int)/\(0:Int)<((List.map Fg (ndi l i).2.2.2.2.2.2.2.2.2.2.2.2.2).length:Int):=by rw [hkl];omega
   have y2:(0:Int)<=(1:Int)/\(1:Int)<((List.map Fg (ndi l i).2.2.2.2.2.2.2.2.2.2.2.2.2).length:Int):=by rw [hkl];omega
   refine ⟨n1+n2+n3+n4+1,λn hn=>?_⟩;obtain ⟨m,rfl,hm⟩:=up1 hn;have g1:=g1 m (by omega);have g2:=g2 m (by omega);have g3:=g3 m (by omega);have g4:=g4 m (by omega);dsimp only at g1 g2 g3 g4⊢;have e0:((0:Int)).toNat=0:=rfl;have e1:((1:Int)).toNat=1:=rfl;show (Gb (D7 m) m (l.map qu) i t).run=_;refine qb (zC hxb) (qa hcr (qb rfl (qa (Eu _) (qa (Ew _) (qa (Ey _) (qa (Ez _) (qa (E0 _) (qa (E1 _) (qa (E2 _) (qa (E3 _) (qa (E4 _) (qa (E5 _) (qa (EJ _) (qa (EK _) (qa (EL _) (qa (EM _) ?_))))))))))))))));have z1:(D6 l f (kid (ndi l i) 0) (lvl (ndi l i).2.1)).size+(D5 (ndi l i).2.1).size<=9223372036854775807:=by omega
   have z2:(D6 l f (kid (ndi l i) 0) (lvl (ndi l i).2.1)++D5 (ndi l i).2.1).size+(D6 l f (kid (ndi l i) 1) (lvl (ndi l i).2.1+1)).size<=9223372036854775807:=by rw [ze];omega
   have z3:(⟨#[40]⟩:BA).size+((D6 l f (kid (ndi l i) 0) (lvl (ndi l i).2.1)++D5 (ndi l i).2.1)++D6 l f (kid (ndi l i) 1) (lvl (ndi l i).2.1+1)).size<=9223372036854775807:=by rw [ze,ze];omega
   have z4:((⟨#[40]⟩:BA)++((D6 l f (kid (ndi l i) 0) (lvl (ndi l i).2.1)++D5 (ndi l i).2.1)++D6 l f (kid (ndi l i) 1) (lvl (ndi l i).2.1+1))).size+(⟨#[41]⟩:BA).size<=9223372036854775807:=by rw [ze,ze,ze];omega
   have g2:D7 m (l.map qu) (kid (ndi l i) 1) (IntKind.i64.wrap (lvl (ndi l i).2.1+1))=some (D6 l f (kid (ndi l i) 1) (lvl (ndi l i).2.1+1)):=by rw [hw];exact g2
   refine qc (by rw [k];rfl) (qc (by rw [k];rfl) (qc (by rw [k];rfl) (qc (by rw [k];rfl) (qb (by rw [k];rfl) (qa g3 (qb (zC y1) (qa c0 (qb rfl (qa (FI _) (qb (zC y2) (qa c1 (qb rfl (qa (FI _) (qa g1 (qa g4 (qb (zC z1) (qa g2 (qb (zC z2) ?_))))))))))))))))));rw [D6,if_neg (by omega),if_neg (by omega),if_neg (by omega),if_neg (by omega),if_pos k];unfold par;by_cases ht:lvl (ndi l i).2.1<t
   ·refine qb (zC ht) (qb (zC z3) (qb (zC z4) ?_));rw [qh,if_pos (zC ht)]
   ·refine qc (aA ht) ?_;rw [qh,if_neg (by simpa using ht)]
  ·obtain ⟨n0,g0⟩:=FJ (F:=λk n=>D7 n (l.map qu) k 0) (f:=λk=>D6 l f k 1) (qi l i) (λk hk=>by
    have:=ih k hk 0;rw [y8] at this;exact this)
   obtain ⟨n1,g1⟩:=Td (ndi l i).2.1 ho;have h1:=W8 ho;refine ⟨n0+n1+20,λn hn=>?_⟩;obtain ⟨m,rfl,hm⟩:=up1 hn;have g0:=g0 m (by omega);have g1:=g1 m (by omega);have hj:=YD l f m ((ndi l i).1,(ndi l i).2.1,(ndi l i).2.2.1,(ndi l i).2.2.2.1,(ndi l i).2.2.2.2.1,(ndi l i).2.2.2.2.2.1,(ndi l i).2.2.2.2.2.2.1,(ndi l i).2.2.2.2.2.2.2.1,(ndi l i).2.2.2.2.2.2.2.2.1,(ndi l i).2.2.2.2.2.2.2.2.2.1,(ndi l i).2.2.2.2.2.2.2.2.2.2.1,(ndi l i).2.2.2.2.2.2.2.2.2.2.2.1,(ndi l i).2.2.2.2.2.2.2.2.2.2.2.2.1,(kd (ndi l i)).map Fg) (szB f) hs (kd (ndi l i)) rfl hk.2 (λk hk=>⟨g0 k hk,isz k hk 1⟩) (kd (ndi l i)) [] (fnS (ndi l i).2.1++(⟨#[40]⟩:BA)) m rfl (by omega) (by rw [ze];omega);simp only [zanD,Int.natCast_zero,if_true] at hj;have hjs:=Si (xs:=(qi l i).map λk=>D6 l f k 1) (b:=szB f) (λx hx=>by
    obtain ⟨k,hk,rfl⟩:=List.mem_map.1 hx;exact isz k hk 1)
   have h3:(qi l i).length<=10:=hk.2;have h4:(qi l i).length*(szB f+1)<=10*(szB f+1):=dN _ h3;rw [zamV] at hjs;have ej:(⟨((fnS (ndi l i).2.1++(⟨#[40]⟩:BA)).data.toList++Lib.join ((kd (ndi l i)).map λk=>(D6 l f k 1).data.toList) [44]).toArray⟩:BA)=(fnS (ndi l i).2.1++(⟨#[40]⟩:BA))++Qn ((qi l i).map λk=>D6 l f k 1):=by
    apply NT;rw [IM];simp [Qn,qi,Function.comp_def]
   rw [ej] at hj;obtain ⟨J,hJ⟩:∃J,Qn ((qi l i).map λk=>D6 l f k 1)=J:=⟨_,rfl⟩;rw [hJ] at hj hjs;have z1:(fnS (ndi l i).2.1).size+(⟨#[40]⟩:BA).size<=9223372036854775807:=by omega
   have z2:((fnS (ndi l i).2.1++(⟨#[40]⟩:BA))++J).size+(⟨#[41]⟩:BA).size<=9223372036854775807:=by rw [ze,ze];omega
   unfold kd at hj;dsimp only at g1⊢;show (Gb (D7 m) m (l.map qu) i t).run=_;refine qb (zC hxb) (qa hcr (qb rfl (qa (Eu _) (qa (Ew _) (qa (Ey _) (qa (Ez _) (qa (E0 _) (qa (E1 _) (qa (E2 _) (qa (E3 _) (qa (E4 _) (qa (E5 _) (qa (EJ _) (qa (EK _) (qa (EL _) (qa (EM _) ?_))))))))))))))));refine qc (by rw [k];rfl) (qc (by rw [k];rfl) (qc (by rw [k];rfl) (qc (by rw [k];rfl) (qc (by rw [k];rfl) (qa g1 (qb (zC z1) (qa hj (qb (zC z2) ?_))))))));rw [qh,D6,if_neg (by omega),if_neg (by omega),if_neg (by omega),if_neg (by omega),if_neg (by omega),hJ]
theorem Qo {l:List Nd} (h:Fine l):∀(f:Nat) (i t:Int),f<=12->(0<=i/\i<l.length)->FU (qi l) (i.toNat+1) i<=f->Ev (D7 · (l.map qu) i t) (D6 l f i t)
 |0,i,t,hf,hx,hd=>by
  have:=Ob (qi l) (i.toNat+1) i hx.1 (by omega);omega
 |f+1,i,t,hf,hx,hd=>Rb h f i t hf hx hd λk hk t'=>Qo h f k t' (by omega) (h.kid hx hd hk).1 (h.kid hx hd hk).2
theorem bu:∀f:Fin 12,szB f.val<=12000000000000:=by decide
theorem dx {f:Nat} (h:f<=11):szB f<=12000000000000:=bu ⟨f,by omega⟩
theorem ZT:∀xs:List BA,fN (xs.map λx=> [PV.s x])=some xs
 | []=>rfl
 |x::r=>by simp only [zanE,fN,ZT r,zamW]
theorem YE (rec:RW->Int->Int->Option BA) (n:Nat) (rows:RW) (T:Int->BA) (a0 a1 a2 a3:Int) (a4:BA) (a5 a6:Int) (a7 a8:Bool) (a9 a10:Int) (a11 a12:Bool) (a13:RW) (ks:List Int) (hk10:ks.length<=10)
  (hr:∀k∈ks,rec rows k 1=some (T k)):
  ∀(r pre:List Int) (M:Nat),ks=pre++r->r.length+1<=M->
   zF (GC rec n) M (rows,pre.length,ks.map Fg,((ks.map Fg).length:Int),(pre.length:Int),a0,a1,a2,a3,a4,a5,a6,a7,a8,a9,a10,a11,a12,a13,pre.map λk=> [PV.s (T k)])=some (ks.length,a0,a1,a2,a3,a4,a5,a6,a7,a8,a9,a10,a11,a12,a13,ks.map λk=> [PV.s (T k)])
 |r,pre,0,h1,h2=>by omega
 | [],pre,M+1,h1,h2=>by
  have hi:¬(pre.length:Int)<((ks.map Fg).length:Int):=by rw [zamV,h1];simp
  have e:pre=ks:=by rw [h1];simp
  rw [qe (r:=(pre.length,a0,a1,a2,a3,a4,a5,a6,a7,a8,a9,a10,a11,a12,a13,pre.map λk=> [PV.s (T k)])) (by simp only [GC,qj,aA hi,dO,if_false])];rw [e]
 |k::r,pre,M+1,h1,h2=>by
  have hm:k∈ks:=by rw [h1];simp
  have g1:=hr k hm;have hpl:pre.length+(r.length+1)=ks.length:=by rw [h1];simp
  have hg:(ks.map Fg)[pre.length]?=some (Fg k):=by rw [h1,zamS];simp
  have hi:(pre.length:Int)<((ks.map Fg).length:Int):=by rw [zamV];omega
  have h3:0<=(pre.length:Int)/\(pre.length:Int)<((ks.map Fg).length:Int):=by omega
  have w1:IntKind.i64.wrap ((pre.length:Int)+1)=((pre.length+1:Nat):Int):=by rw [ql (by omega)];omega
  have hc:pre.length=(pre.map λk=> [PV.s (T k)]).length/\0<1/\0<16/\(pre.length+([[PV.s (T k)]]:RW).length)*16<=140737488355328/\([[PV.s (T k)]]:RW).all (λe=>e.length==1)=true:=by
   refine ⟨by simp,by decide,by decide,?_,rfl⟩;rw [List.length_singleton];omega
  have h1l:decide (1=([[PV.s (T k)]]:RW).length)=true:=rfl;rw [qm (v':=(rows,pre.length+1,ks.map Fg,((ks.map Fg).length:Int),((pre.length+1:Nat):Int),a0,a1,a2,a3,a4,a5,a6,a7,a8,a9,a10,a11,a12,a13,(pre.map λk=> [PV.s (T k)])++ [[PV.s (T k)]])) (by
   simp only [GC,qj,zC hi,if_true,zC h3,cT,hg,Fs,FI,decide_true,g1,h1l,zC hc,w1])]
  have h:=YE rec n rows T a0 a1 a2 a3 a4 a5 a6 a7 a8 a9 a10 a11 a12 a13 ks hk10 hr r (pre++ [k]) M (by rw [h1];simp) (by simp at h2;omega);simp only [List.map_append,zanE,List.map_nil,zamO,List.length_singleton] at h⊢;exact h
set_option maxHeartbeats 4000000 in
theorem N4 {l:List Nd} (h:Fine l) (f:Nat) (i t:Int) (hf:f+1<=12) (hx:0<=i/\i<l.length) (hd:FU (qi l) (i.toNat+1) i<=(f+1:Nat)) (ih:∀k∈qi l i,∀t',Ev (qt · (l.map qu) k t') (D6 l f k t')):Ev (qt · (l.map qu) i t) (D6 l (f+1) i t):=by
  have ih:=λk hk t'=>ih k hk t'
  have isz:=λk hk t'=>U3 h f k t' (by omega) (h.kid hx hd hk).1 (h.kid hx hd hk).2
  have hs:=dv (f:=f) (by omega);have hcr:(l.map qu)[i.toNat]?=some (qu (ndi l i)):=by rw [zamS,Hp hx];rfl
  have hxb:0<=i/\i<((l.map qu).length:Int):=by rw [zamV];exact hx
  have hz:=(h.sz _ (PC hx)).2;have hp:∀a b c d,(EF a b c d).size<=30:=G7;have d1:(⟨#[58]⟩:BA).size=1:=rfl;have d2:(⟨#[45]⟩:BA).size=1:=rfl;have d3:(⟨#[40]⟩:BA).size=1:=rfl;have d4:(⟨#[41]⟩:BA).size=1:=rfl;have hk0:∀j,j<(kd (ndi l i)).length->kid (ndi l i) j∈qi l i/\(List.map Fg (ndi l i).2.2.2.2.2.2.2.2.2.2.2.2.2)[j]?=some (Fg (kid (ndi l i) j)):=λj hj=>by
   unfold kid;rw [List.getD_eq_getElem?_getD,zh hj];refine ⟨List.getElem_mem hj,?_⟩;rw [zamS];show ((kd (ndi l i))[j]?).map Fg=_;rw [zh hj];rfl
  have hkl:(List.map Fg (ndi l i).2.2.2.2.2.2.2.2.2.2.2.2.2).length=(kd (ndi l i)).length:=by rw [zamV];rfl
  rcases Lf (h.own i hx.1 hx.2).1 with ⟨k,hv⟩|k|k|⟨k,hk⟩|⟨k,ho,hk⟩|⟨k,ho,hk⟩
  ·by_cases k2:(ndi l i).2.2.1=2
   ·have hv2:okV 2 (ndi l i).2.2.2.1 (ndi l i).2.2.2.2.1=true:=by rw [<-k2];exact hv
    have hq:=(TV hv2).2.1;obtain ⟨n1,g1⟩:=Xt (ndi l i).2.2.2.2.1 (by omega);have h1:=Oc (ndi l i).2.2.2.2.1.toList;rw [EA] at h1;have h2:(⟨(E6 (ndi l i).2.2.2.2.1.toList).toArray⟩:BA).size=(E6 (ndi l i).2.2.2.2.1.toList).length:=by rw [H3]
    have e:((⟨#[34]⟩:BA)++⟨(E6 (ndi l i).2.2.2.2.1.toList).toArray⟩)++(⟨#[34]⟩:BA)=I7 (ndi l i).2.2.2.2.1:=by
     apply NT;rw [IM,IM];simp [I7]
    have d5:(⟨#[34]⟩:BA).size=1:=rfl;refine ⟨n1+1,λn hn=>?_⟩;obtain ⟨m,rfl,hm⟩:=up1 hn;have g1:=g1 m (by omega);dsimp only at g1⊢;obtain ⟨q,hqe⟩:∃q,(⟨(E6 (ndi l i).2.2.2.2.1.toList).toArray⟩:BA)=q:=⟨_,rfl⟩;rw [hqe] at g1 h2 e;have z1:(⟨#[34]⟩:BA).size+q.size<=9223372036854775807:=by omega
    have z2:((⟨#[34]⟩:BA)++q).size+(⟨#[34]⟩:BA).size<=9223372036854775807:=by rw [ze];omega
    show (FG (qt m) m (l.map qu) i t).run=_;refine qb (zC hxb) (qa hcr (qb rfl (qa (Eu _) (qa (Ew _) (qa (Ey _) (qa (Ez _) (qa (E0 _) (qa (E1 _) (qa (E2 _) (qa (E3 _) (qa (E4 _) (qa (E5 _) (qa (EJ _) (qa (EK _) (qa (EL _) (qa (EM _) ?_))))))))))))))));refine qb (by rw [k];rfl) (qb (by rw [k2];rfl) (qa g1 (qb (zC z1) (qb (zC z2) ?_))));rw [qh,D6,if_pos k,if_pos k2,e]
   ·obtain ⟨n1,g1⟩:=NV (ndi l i).2.2.1 (ndi l i).2.2.2.1 (ndi l i).2.2.2.2.1 hv;have kb:((ndi l i).2.2.1==(2:Int))=false:=by simpa using k2
    refine ⟨n1+1,λn hn=>?_⟩;obtain ⟨m,rfl,hm⟩:=up1 hn;have g1:=g1 m (by omega);dsimp only at g1⊢;show (FG (qt m) m (l.map qu) i t).run=_;refine qb (zC hxb) (qa hcr (qb rfl (qa (Eu _) (qa (Ew _) (qa (Ey _) (qa (Ez _) (qa (E0 _) (qa (E1 _) (qa (E2 _) (qa (E3 _) (qa (E4 _) (qa (E5 _) (qa (EJ _) (qa (EK _) (qa (EL _) (qa (EM _) ?_))))))))))))))));refine qb (by rw [k];rfl) (qc kb (qa g1 ?_));rw [qh,D6,if_pos k,if_neg k2]
  ·obtain ⟨n1,g1⟩:=Hn (ndi l i).2.2.2.2.2.1 (ndi l i).2.2.2.2.2.2.1 (ndi l i).2.2.2.2.2.2.2.1 (ndi l i).2.2.2.2.2.2.2.2.1;refine ⟨n1+1,λn hn=>?_⟩;obtain ⟨m,rfl,hm⟩:=up1 hn;have g1:=g1 m (by omega);dsimp only at g1⊢;show (FG (qt m) m (l.map qu) i t).run=_;refine qb (zC hxb) (qa hcr (qb rfl (qa (Eu _) (qa (Ew _) (qa (Ey _) (qa (Ez _) (qa (E0 _) (qa (E1 _) (qa (E2 _) (qa (E3 _) (qa (E4 _) (qa (E5 _) (qa (EJ _) (qa (EK _) (qa (EL _) (qa (EM _) ?_))))))))))))))));refine qc (by rw [k];rfl) (qb (by rw [k];rfl) (qa g1 ?_));rw [qh,D6,if_neg (by omega),if_pos k]
  ·obtain ⟨n1,g1⟩:=Hn (ndi l i).2.2.2.2.2.1 (ndi l i).2.2.2.2.2.2.1 (ndi l i).2.2.2.2.2.2.2.1 (ndi l i).2.2.2.2.2.2.2.2.1;obtain ⟨n2,g2⟩:=Hn (ndi l i).2.2.2.2.2.2.2.2.2.1 (ndi l i).2.2.2.2.2.2.2.2.2.2.1 (ndi l i).2.2.2.2.2.2.2.2.2.2.2.1 (ndi l i).2.2.2.2.2.2.2.2.2.2.2.2.1;have h1:=hp (ndi l i).2.2.2.2.2.1 (ndi l i).2.2.2.2.2.2.1 (ndi l i).2.2.2.2.2.2.2.1 (ndi l i).2.2.2.2.2.2.2.2.1;have h2:=hp (ndi l i).2.2.2.2.2.2.2.2.2.1 (ndi l i).2.2.2.2.2.2.2.2.2.2.1 (ndi l i).2.2.2.2.2.2.2.2.2.2.2.1 (ndi l i).2.2.2.2.2.2.2.2.2.2.2.2.1;have z1:(EF (ndi l i).2.2.2.2.2.1 (ndi l i).2.2.2.2.2.2.1 (ndi l i).2.2.2.2.2.2.2.1 (ndi l i).2.2.2.2.2.2.2.2.1).size+(⟨#[58]⟩:BA).size<=9223372036854775807:=by omega
   have z2:(EF (ndi l i).2.2.2.2.2.1 (ndi l i).2.2.2.2.2.2.1 (ndi l i).2.2.2.2.2.2.2.1 (ndi l i).2.2.2.2.2.2.2.2.1++(⟨#[58]⟩:BA)).size+(EF (ndi l i).2.2.2.2.2.2.2.2.2.1 (ndi l i).2.2.2.2.2.2.2.2.2.2.1 (ndi l i).2.2.2.2.2.2.2.2.2.2.2.1 (ndi l i).2.2.2.2.2.2.2.2.2.2.2.2.1).size<=9223372036854775807:=by rw [ze];omega
   refine ⟨n1+n2+1,λn hn=>?_⟩;obtain ⟨m,rfl,hm⟩:=up1 hn;have g1:=g1 m (by omega);have g2:=g2 m (by omega);dsimp only at g1 g2⊢;show (FG (qt m) m (l.map qu) i t).run=_;refine qb (zC hxb) (qa hcr (qb rfl (qa (Eu _) (qa (Ew _) (qa (Ey _) (qa (Ez _) (qa (E0 _) (qa (E1 _) (qa (E2 _) (qa (E3 _) (qa (E4 _) (qa (E5 _) (qa (EJ _) (qa (EK _) (qa (EL _) (qa (EM _) ?_))))))))))))))));refine qc (by rw [k];rfl) (qc (by rw [k];rfl) (qb (by rw [k];rfl) (qa g1 (qb (zC z1) (qa g2 (qb (zC z2) ?_))))));rw [qh,D6,if_neg (by omega),if_neg (by omega),if_pos k]
  ·obtain ⟨m0,c0⟩:=hk0 0 (by omega);obtain ⟨n1,g1⟩:=ih _ m0 5;have h1:=isz _ m0 5;have z1:(⟨#[45]⟩:BA).size+(D6 l f (kid (ndi l i) 0) 5).size<=9223372036854775807:=by omega
   have y1:(0:Int)<=(0:Int)/\(0:Int)<((List.map Fg (ndi l i).2.2.2.2.2.2.2.2.2.2.2.2.2).length:Int):=by rw [hkl];omega
   refine ⟨n1+1,λn hn=>?_⟩;obtain ⟨m,rfl,hm⟩:=up1 hn;have g1:=g1 m (by omega);dsimp only at g1⊢;have e0:((0:Int)).toNat=0:=rfl;show (FG (qt m) m (l.map qu) i t).run=_;refine qb (zC hxb) (qa hcr (qb rfl (qa (Eu _) (qa (Ew _) (qa (Ey _) (qa (Ez _) (qa (E0 _) (qa (E1 _) (qa (E2 _) (qa (E3 _) (qa (E4 _) (qa (E5 _) (qa (EJ _) (qa (EK _) (qa (EL _) (qa (EM _) ?_))))))))))))))));refine qc (by rw [k];rfl) (qc (by rw [k];rfl) (qc (by rw [k];rfl) (qb (by rw [k];rfl) (qb (zC y1) (qa c0 (qb rfl (qa (FI _) (qa g1 (qb (zC z1) ?_)))))))));rw [qh,D6,if_neg (by omega),if_neg (by omega),if_neg (by omega),if_pos k]
  ·obtain ⟨m0,c0⟩:=hk0 0 (by omega);obtain ⟨m1,c1⟩:=hk0 1 (by omega);have hlv:=d8 (ndi l i).2.1;obtain ⟨n1,g1⟩:=ih _ m0 (lvl (ndi l i).2.1);obtain ⟨n2,g2⟩:=ih _ m1 (lvl (ndi l i).2.1+1);obtain ⟨n3,g3⟩:=Rv (ndi l i).2.1 ho;obtain ⟨n4,g4⟩:=M3 (ndi l i).2.1 ho;have h1:=isz _ m0 (lvl (ndi l i).2.1);have h2:=isz _ m1 (lvl (ndi l i).2.1+1);have h3:=PD ho;have hw:IntKind.i64.wrap (lvl (ndi l i).2.1+1)=lvl (ndi l i).2.1+1:=ql (by omega);have y1:(0:Int)<=(0:Int)/\(0:Int)<((List.map Fg (ndi l i).2.2.2.2.2.2.2.2.2.2.2.2.2).length:Int):=by rw [hkl];omega
   have y2:(0:Int)<=(1:Int)/\(1:Int)<((List.map Fg (ndi l i).2.2.2.2.2.2.2.2.2.2.2.2.2).length:Int):=by rw [hkl];omega
   refine ⟨n1+n2+n3+n4+1,λn hn=>?_⟩;obtain ⟨m,rfl,hm⟩:=up1 hn;have g1:=g1 m (by omega);have g2:=g2 m (by omega);have g3:=g3 m (by omega);have g4:=g4 m (by omega);dsimp only at g1 g2 g3 g4⊢;have e0:((0:Int)).toNat=0:=rfl;have e1:((1:Int)).toNat=1:=rfl;show (FG (qt m) m (l.map qu) i t).run=_;refine qb (zC hxb) (qa hcr (qb rfl (qa (Eu _) (qa (Ew _) (qa (Ey _) (qa (Ez _) (qa (E0 _) (qa (E1 _) (qa (E2 _) (qa (E3 _) (qa (E4 _) (qa (E5 _) (qa (EJ _) (qa (EK _) (qa (EL _) (qa (EM _) ?_))))))))))))))));have z1:(D6 l f (kid (ndi l i) 0) (lvl (ndi l i).2.1)).size+(D5 (ndi l i).2.1).size<=9223372036854775807:=by omega
   have z2:(D6 l f (kid (ndi l i) 0) (lvl (ndi l i).2.1)++D5 (ndi l i).2.1).size+(D6 l f (kid (ndi l i) 1) (lvl (ndi l i).2.1+1)).size<=9223372036854775807:=by rw [ze];omega
   have z3:(⟨#[40]⟩:BA).size+((D6 l f (kid (ndi l i) 0) (lvl (ndi l i).2.1)++D5 (ndi l i).2.1)++D6 l f (kid (ndi l i) 1) (lvl (ndi l i).2.1+1)).size<=9223372036854775807:=by rw [ze,ze];omega
   have z4:((⟨#[40]⟩:BA)++((D6 l f (kid (ndi l i) 0) (lvl (ndi l i).2.1)++D5 (ndi l i).2.1)++D6 l f (kid (ndi l i) 1) (lvl (ndi l i).2.1+1))).size+(⟨#[41]⟩:BA).size<=9223372036854775807:=by rw [ze,ze,ze];omega
   have g2:qt m (l.map qu) (kid (ndi l i) 1) (IntKind.i64.wrap (lvl (ndi l i).2.1+1))=some (D6 l f (kid (ndi l i) 1) (lvl (ndi l i).2.1+1)):=by rw [hw];exact g2
   refine qc (by rw [k];rfl) (qc (by rw [k];rfl) (qc (by rw [k];rfl) (qc (by rw [k];rfl) (qb (by rw [k];rfl) (qa g3 (qb (zC y1) (qa c0 (qb rfl (qa (FI _) (qb (zC y2) (qa c1 (qb rfl (qa (FI _) (qa g1 (qa g4 (qb (zC z1) (qa g2 (qb (zC z2) ?_))))))))))))))))));rw [D6,if_neg (by omega),if_neg (by omega),if_neg (by omega),if_neg (by omega),if_pos k];unfold par;by_cases ht:lvl (ndi l i).2.1<t
   ·refine qb (zC ht) (qb (zC z3) (qb (zC z4) ?_));rw [qh,if_pos (zC ht)]
   ·refine qc (aA ht) ?_;rw [qh,if_neg (by simpa using ht)]
  ·obtain ⟨n0,g0⟩:=FJ (F:=λk n=>qt n (l.map qu) k 1) (f:=λk=>D6 l f k 1) (qi l i) (λk hk=>ih k hk 1);obtain ⟨n1,g1⟩:=Qm (ndi l i).2.1 ho;have h1:=W8 ho;have hs11:=dx (f:=f) (by omega);have h3:(qi l i).length<=10:=hk.2;have hjs:=Si (xs:=(qi l i).map λk=>D6 l f k 1) (b:=szB f) (λx hx=>by
    obtain ⟨k,hk,rfl⟩:=List.mem_map.1 hx;exact isz k hk 1)
   have h4:(qi l i).length*(szB f+1)<=10*(szB f+1):=dN _ h3;rw [zamV] at hjs;have gj:∀n,1<=n->Ms n (((qi l i).map λk=>D6 l f k 1).map λx=> [PV.s x]) ⟨#[44]⟩=some (Qn ((qi l i).map λk=>D6 l f k 1)):=λn hn=>by
    obtain ⟨m,rfl,_⟩:=up1 (n0:=0) hn;show cZ _ _=_;unfold cZ;rw [ZT,aN,if_pos]
    ·rfl
    ·rw [H3] at hjs;refine ⟨by rw [zamV];omega,?_⟩;have:(Lib.join (((qi l i).map λk=>D6 l f k 1).map (·.data.toList)) [44]).length<=(qi l i).length*(szB f+1):=hjs;show (Lib.join (((qi l i).map λk=>D6 l f k 1).map (·.data.toList)) [44]).length<=_;omega
   refine ⟨n0+n1+20,λn hn=>?_⟩;obtain ⟨m,rfl,hm⟩:=up1 hn;have g0:=g0 m (by omega);have g1:=g1 m (by omega);have gj:=gj m (by omega);have hj:=YE (qt m) m (l.map qu) (λk=>D6 l f k 1) (ndi l i).1 (ndi l i).2.1 (ndi l i).2.2.1 (ndi l i).2.2.2.1 (ndi l i).2.2.2.2.1 (ndi l i).2.2.2.2.2.1 (ndi l i).2.2.2.2.2.2.1 (ndi l i).2.2.2.2.2.2.2.1 (ndi l i).2.2.2.2.2.2.2.2.1 (ndi l i).2.2.2.2.2.2.2.2.2.1 (ndi l i).2.2.2.2.2.2.2.2.2.2.1 (ndi l i).2.2.2.2.2.2.2.2.2.2.2.1 (ndi l i).2.2.2.2.2.2.2.2.2.2.2.2.1 ((kd (ndi l i)).map Fg) (kd (ndi l i)) hk.2 g0 (kd (ndi l i)) [] m rfl (by omega);simp only [zanD,Int.natCast_zero,List.map_nil,zamV] at hj;obtain ⟨J,hJ⟩:∃J,Qn ((qi l i).map λk=>D6 l f k 1)=J:=⟨_,rfl⟩;rw [hJ] at gj hjs;have z1:(fnS (ndi l i).2.1).size+(⟨#[40]⟩:BA).size<=9223372036854775807:=by omega
   have z2:(fnS (ndi l i).2.1++(⟨#[40]⟩:BA)).size+J.size<=9223372036854775807:=by rw [ze];omega
   have z3:((fnS (ndi l i).2.1++(⟨#[40]⟩:BA))++J).size+(⟨#[41]⟩:BA).size<=9223372036854775807:=by rw [ze,ze];omega
   unfold qi at gj;unfold kd at hj gj;dsimp only at g1⊢;rw [List.map_map] at gj;have hkl':(((ndi l i).2.2.2.2.2.2.2.2.2.2.2.2.2.map Fg).length:Int)=((ndi l i).2.2.2.2.2.2.2.2.2.2.2.2.2.length:Int):=by rw [zamV]
   have hll:decide ((ndi l i).2.2.2.2.2.2.2.2.2.2.2.2.2.length=(List.map ((λx=> [PV.s x])∘λk=>D6 l f k 1) (ndi l i).2.2.2.2.2.2.2.2.2.2.2.2.2).length)=true:=by simp
   have hmm:(List.map (λk=> [PV.s (D6 l f k 1)]) (ndi l i).2.2.2.2.2.2.2.2.2.2.2.2.2)=List.map ((λx=> [PV.s x])∘λk=>D6 l f k 1) (ndi l i).2.2.2.2.2.2.2.2.2.2.2.2.2:=rfl;rw [hmm] at hj;rw [<-hkl'] at hj;show (FG (qt m) m (l.map qu) i t).run=_;refine qb (zC hxb) (qa hcr (qb rfl (qa (Eu _) (qa (Ew _) (qa (Ey _) (qa (Ez _) (qa (E0 _) (qa (E1 _) (qa (E2 _) (qa (E3 _) (qa (E4 _) (qa (E5 _) (qa (EJ _) (qa (EK _) (qa (EL _) (qa (EM _) ?_))))))))))))))));refine qc (by rw [k];rfl) (qc (by rw [k];rfl) (qc (by rw [k];rfl) (qc (by rw [k];rfl) (qc (by rw [k];rfl) (qa hj (qa g1 (qb (zC z1) (qb hll (qa gj (qb rfl (qb (zC z2) (qb (zC z3) ?_))))))))))));rw [qh,D6,if_neg (by omega),if_neg (by omega),if_neg (by omega),if_neg (by omega),if_neg (by omega),hJ]
theorem MD {l:List Nd} (h:Fine l):∀(f:Nat) (i t:Int),f<=12->(0<=i/\i<l.length)->FU (qi l) (i.toNat+1) i<=f->Ev (qt · (l.map qu) i t) (D6 l f i t)
 |0,i,t,hf,hx,hd=>by
  have:=Ob (qi l) (i.toNat+1) i hx.1 (by omega);omega
 |f+1,i,t,hf,hx,hd=>N4 h f i t hf hx hd λk hk t'=>MD h f k t' (by omega) (h.kid hx hd hk).1 (h.kid hx hd hk).2
def F1 (l:List Nd):BA:=if Jk l=true then (if ((D6 l 12 ((l.length:Int)-1) 1).size:Int)>200 then ⟨#[]⟩ else D6 l 12 ((l.length:Int)-1) 1) else ⟨#[]⟩
theorem Yt {l:List Nd} (h:Jk l=true) (hk:∀c∈l,(kd c).length<=140737488351232/\c.2.2.2.2.1.size<=140737488351232):Fine l/\(0<=(l.length:Int)-1/\(l.length:Int)-1<l.length)/\FU (qi l) (((l.length:Int)-1).toNat+1) ((l.length:Int)-1)<=(12:Nat):=by
 unfold Jk at h;simp only [zL,aG] at h;obtain ⟨h1,h2,h3,h4,h5⟩:=h;have e:((l.length:Int)-1).toNat+1=l.length:=by omega
 rw [e];exact ⟨⟨h1.2,Le.1 h2,hk⟩,by omega,h5⟩
theorem Rc (l:List Nd) (hl:l.length<=140737488351232) (hk:∀c∈l,(kd c).length<=140737488351232/\c.2.2.2.2.1.size<=140737488351232):Ev (GN · (l.map qu)) (F1 l):=by
 obtain ⟨n1,g1⟩:=Na l hk;unfold F1;cases hf:Jk l with
 |false=>
  rw [hf] at g1;refine ⟨n1+1,λn hn=>?_⟩;obtain ⟨m,rfl,hm⟩:=up1 hn;have g1:=g1 m (by omega);dsimp only at g1⊢;simp [GN,IT,qj,g1]
 |true=>
  rw [hf] at g1;obtain ⟨q1,q2,q3⟩:=Yt hf hk;obtain ⟨n2,g2⟩:=Qo q1 12 ((l.length:Int)-1) 0 (by decide) q2 q3;rw [y8] at g2;have hw:IntKind.i64.wrap ((l.length:Int)-1)=(l.length:Int)-1:=ql (by omega);refine ⟨n1+n2+1,λn hn=>?_⟩;obtain ⟨m,rfl,hm⟩:=up1 hn;have g1:=g1 m (by omega);have g2:=g2 m (by omega);dsimp only at g1 g2⊢;generalize D6 l 12 ((l.length:Int)-1) 1=t at*
  simp only [GN,IT,qj,g1,zamV,hw,g2];by_cases h2:(t.size:Int)>200<;>simp [h2]
theorem Re (l:List Nd) (hl:l.length<=140737488351232) (hk:∀c∈l,(kd c).length<=140737488351232/\c.2.2.2.2.1.size<=140737488351232):Ev (GU · (l.map qu)) (F1 l):=by
 obtain ⟨n1,g1⟩:=Nb l hl hk;unfold F1;cases hf:Jk l with
 |false=>
  rw [hf] at g1;refine ⟨n1+1,λn hn=>?_⟩;obtain ⟨m,rfl,hm⟩:=up1 hn;have g1:=g1 m (by omega);dsimp only at g1⊢;simp [GU,IW,qj,g1]
 |true=>
  rw [hf] at g1;obtain ⟨q1,q2,q3⟩:=Yt hf hk;obtain ⟨n2,g2⟩:=MD q1 12 ((l.length:Int)-1) 1 (by decide) q2 q3;have hw:IntKind.i64.wrap ((l.length:Int)-1)=(l.length:Int)-1:=ql (by omega);refine ⟨n1+n2+1,λn hn=>?_⟩;obtain ⟨m,rfl,hm⟩:=up1 hn;have g1:=g1 m (by omega);have g2:=g2 m (by omega);dsimp only at g1 g2⊢;generalize D6 l 12 ((l.length:Int)-1) 1=t at*
  simp only [GU,IW,qj,g1,zamV,hw,g2];by_cases h2:(t.size:Int)>200<;>simp [h2]
abbrev PS:=LBy×Bool×List Nd
def tb (r:LBy):LBy:=r.dropWhile (· ==32)
def wch (c:UInt8):Bool:=(decide (65<=c.toNat)&&decide (c.toNat<=90))||((decide (48<=c.toNat)&&decide (c.toNat<=57))||c==36)
def wd (r:LBy):LBy:=r.takeWhile wch
def wr (r:LBy):LBy:=r.dropWhile wch
def BR (r:LBy):BA:=⟨r.toArray⟩
def KA:List (LBy):= [[60,62],[60,61],[62,61],[60],[62],[61],[38],[43],[45],[42],[47],[40],[41],[44],[58]]
def sgn (r:LBy):LBy:=match KA.find? (λw=>w.isPrefixOf r) with|some w=>w|none=> []
def nd1 (v:V3):Nd:=(1,0,v.1,v.2.1,v.2.2,0,0,false,false,0,0,false,false,[])
def ndK (k op:Int) (kids:List Int):Nd:=(k,op,0,0,em,0,0,false,false,0,0,false,false,kids)
def ndC (p:Int×Int×Bool×Bool×Bool):Nd:=(2,0,0,0,em,p.1,p.2.1,p.2.2.1,p.2.2.2.1,0,0,false,false,[])
def ndA (p q:Int×Int×Bool×Bool×Bool):Nd:=(3,0,0,0,em,p.1,p.2.1,p.2.2.1,p.2.2.2.1,q.1,q.2.1,q.2.2.1,q.2.2.2.1,[])
def GZ:LBy->LBy->Option (LBy×LBy)
 |_,[]=>none
 |acc,c::t=>if c=34 then (match t with
   |d::t'=>if d=34 then GZ (acc++ [34]) t' else some (acc,t)
   | []=>some (acc,[])) else GZ (acc++ [c]) t
def Nc (r:LBy):Int->Nat->Option Int
 |_,0=>none
 |n,k+1=>if (qq n).toList.isPrefixOf r=true then some n else Nc r (n+1) k
def Lg (w:LBy):Int->Nat->Option Int
 |_,0=>none
 |n,k+1=>if (fnS n).toList=w then some n else Lg w (n+1) k
def Er (r:LBy):Int:=
 if sgn r= [43] then 1 else if sgn r= [45] then 2 else if sgn r= [42] then 3 else if sgn r= [47] then 4 else if sgn r= [38] then 5 else if sgn r= [61] then 6 else
 if sgn r= [60,62] then 7 else if sgn r= [60] then 8 else if sgn r= [60,61] then 9 else if sgn r= [62] then 10 else if sgn r= [62,61] then 11 else 0
def qp (w:LBy) (p:PS):Bool×PS:=if sgn (tb p.1)=w then (true,(tb p.1).drop w.length,p.2) else (false,tb p.1,p.2)
def IN (x:Nd) (p:PS):Int×PS:=if p.2.1=true\/60<=p.2.2.length then ((p.2.2.length:Int)-1,p.1,true,p.2.2) else ((p.2.2.length:Int),p.1,false,p.2.2++ [x])
def d9 (p:PS):PS:=(p.1,true,p.2.2)
def G0 (w:LBy) (p:PS):PS:=if p.2.1=true then p else if (qp w p).1=true then (qp w p).2 else d9 (qp w p).2
def FV (p:PS):Option Nd×PS:=
 let w:=wd (tb p.1)
 let p1:PS:=(wr (tb p.1),p.2)
 if (Ec (BR w)).2.2.2.2=true/\(qp [58] p1).1=true then
  let p2:=(qp [58] p1).2
  let w2:=wd (tb p2.1)
  (some (ndA (Ec (BR w)) (Ec (BR w2))),wr (tb p2.1),p2.2.1||!(Ec (BR w2)).2.2.2.2,p2.2.2)
 else (none,p)
def I8 (o:Option Nd×PS) (g:PS->Int×PS):Int×PS:=match o.1 with
 |some x=>IN x o.2
 |none=>g o.2
inductive PJ where
 |bin (least deep:Int)
 |loop (least deep a:Int)
 |un (deep:Int)
 |at (deep:Int)
 |call (op deep:Int)
 |args (op deep:Int) (kids:List Int)
def pP:Nat->PJ->PS->Int×PS
 |0,_,p=>(0,p)
 |f+1,.bin least deep,p=>pP f (.loop least deep (pP f (.un deep) p).1) (pP f (.un deep) p).2
 |f+1,.loop least deep a,p=>
  if p.2.1=true then (a,p) else
  if Er (tb p.1)=0\/lvl (Er (tb p.1))<least then (a,tb p.1,p.2) else
  let p1:PS:=((tb p.1).drop (sgn (tb p.1)).length,p.2)
  let q:=pP f (.bin (lvl (Er (tb p.1))+1) deep) p1
  let c:=IN (ndK 5 (Er (tb p.1)) [a,q.1]) q.2
  pP f (.loop least deep c.1) c.2
 |f+1,.un deep,p=>
  if deep>400\/p.2.1=true then (-1,d9 p) else
  if (qp [45] p).1=true then
   let q:=pP f (.un (deep+1)) (qp [45] p).2
   IN (ndK 4 0 [q.1]) q.2
  else pP f (.at deep) (qp [45] p).2
 |f+1,.at deep,p=>
  let r:=tb p.1
  if r.head?=some 34 then (match GZ [] r.tail with
   |none=>(-1,r,true,p.2.2)
   |some (s,t)=>IN (nd1 (2,0,BR s)) (t,p.2))
  else match (if r.head?=some 35 then Nc r 1 5 else none) with
  |some n=>IN (nd1 (4,n,em)) (r.drop (qq n).size,p.2)
  |none=>
   if r.head?≠some 35/\(qp [40] p).1=true then
    let q:=pP f (.bin 1 (deep+1)) (qp [40] p).2
    (q.1,G0 [41] q.2)
   else
    let w:=wd r
    let p2:PS:=(wr r,p.2)
    if (q7 (BR w)).2.2.2=true/\((q7 (BR w)).1=1\/(q7 (BR w)).1=3) then IN (nd1 ((q7 (BR w)).1,(q7 (BR w)).2.1,(q7 (BR w)).2.2.1)) p2
    else if (Ec (BR w)).2.2.2.2=true then IN (ndC (Ec (BR w))) p2
    else match Lg w 1 10 with
    |some op=>pP f (.call op deep) p2
    |none=>(-1,d9 p2)
 |f+1,.call op deep,p=>pP f (.args op deep []) (G0 [40] p)
 |f+1,.args op deep kids,p=>
  if p.2.1=true then IN (ndK 6 op kids) p else
  let q:=I8 (FV p) (λp=>pP f (.bin 1 (deep+1)) p)
  if (qp [44] q.2).1=true then pP f (.args op deep (kids++ [q.1])) (qp [44] q.2).2
  else IN (ndK 6 op (kids++ [q.1])) (G0 [41] (qp [44] q.2).2)
def sIs (w:LBy) (q:PS):Bool×PS:=if q.2.1=true then (false,tb q.1,q.2) else if w.isPrefixOf (tb q.1)=true then (true,(tb q.1).drop w.length,q.2) else (false,tb q.1,q.2)
def Jl (x:Nd) (q:PS):Int×PS:=((q.2.2.length:Int),q.1,(if 60<q.2.2.length+1\/Gq x=false then true else q.2.1),q.2.2++ [x])
def Sj (q:PS):PS:=(q.1,true,q.2.2)
def G3:List Int:= [7,9,11,6,8,10,1,2,3,4,5]
def JM (level:Int) (r:LBy):List Int->Int
 | []=>0
 |o::l=>if lvl o=level/\(D5 o).toList.isPrefixOf r=true then o else JM level r l
def sOp (level:Int) (q:PS):Int×PS:=
 if q.2.1=true then (0,tb q.1,q.2) else
 (JM level (tb q.1) G3,(if JM level (tb q.1) G3=0 then tb q.1 else (tb q.1).drop (D5 (JM level (tb q.1) G3)).size),q.2)
def ZU (r:LBy):Int->Nat->Option Int
 |_,0=>none
 |n,k+1=>if (qq n).toList.tail.isPrefixOf r=true then some n else ZU r (n+1) k
inductive SJ where
 |row (level:Int)
 |rl (level a:Int)
 |one
 |call (op:Int) (kids:List Int)
 |arg
def sP:Nat->SJ->PS->Int×PS
 |0,_,q=>(0,q)
 |f+1,.row level,q=>
  if q.2.1=true then (0,q) else
  if level=5 then sP f .one q else
  sP f (.rl level (sP f (.row (level+1)) q).1) (sP f (.row (level+1)) q).2
 |f+1,.rl level a,q=>
  if q.2.1=true then (a,q) else
  let o:=sOp level q
  if o.1=0 then (a,o.2) else
  let b:=sP f (.row (level+1)) o.2
  let c:=Jl (ndK 5 o.1 [a,b.1]) b.2
  sP f (.rl level c.1) c.2
 |f+1,.one,q=>
  if (sIs [45] q).1=true then
   let b:=sP f (.row 5) (sIs [45] q).2
   Jl (ndK 4 0 [b.1]) b.2
  else if (sIs [40] (sIs [45] q).2).1=true then
   let b:=sP f (.row 1) (sIs [40] (sIs [45] q).2).2
   (b.1,if (sIs [41] b.2).1=true then (sIs [41] b.2).2 else Sj (sIs [41] b.2).2)
  else
   let q2:PS:=(tb q.1,q.2)
   if (sIs [34] q2).1=true then (match GZ [] (sIs [34] q2).2.1 with
    |none=>(0,[],true,q.2.2)
    |some (s,t)=>Jl (nd1 (2,0,BR s)) (t,q.2))
   else if (sIs [35] q2).1=true then (match ZU (sIs [35] q2).2.1 1 5 with
    |some n=>Jl (nd1 (4,n,em)) ((sIs [35] q2).2.1.drop ((qq n).size-1),q.2)
    |none=>(0,(sIs [35] q2).2.1,true,q.2.2))
   else
    let w:=wd (tb q.1)
    let q3:PS:=(wr (tb q.1),q.2)
    match Lg w 1 10 with
    |some op=>if (sIs [40] q3).1=true then sP f (.call op []) (sIs [40] q3).2 else (0,Sj (sIs [40] q3).2)
    |none=>
     if (q7 (BR w)).2.2.2=true/\w≠ [] then Jl (nd1 ((q7 (BR w)).1,(q7 (BR w)).2.1,(q7 (BR w)).2.2.1)) q3
     else if (Ec (BR w)).2.2.2.2=true then Jl (ndC (Ec (BR w))) q3
     else (0,Sj q3)
 |f+1,.call op kids,q=>
  if q.2.1=true then (0,q) else
  let a:=sP f .arg q
  if (sIs [41] a.2).1=true then Jl (ndK 6 op (kids++ [a.1])) (sIs [41] a.2).2
  else sP f (.call op (kids++ [a.1])) (if (sIs [44] (sIs [41] a.2).2).1=true then (sIs [44] (sIs [41] a.2).2).2 else Sj (sIs [44] (sIs [41] a.2).2).2)
 |f+1,.arg,q=>
  let w:=wd (tb q.1)
  let q1:PS:=(wr (tb q.1),q.2)
  if (Ec (BR w)).2.2.2.2=true/\(sIs [58] q1).1=true then
   let q2:=(sIs [58] q1).2
   let w2:=wd (tb q2.1)
   if (Ec (BR w2)).2.2.2.2=true then Jl (ndA (Ec (BR w)) (Ec (BR w2))) (wr (tb q2.1),q2.2) else (0,wr (tb q2.1),true,q2.2.2)
  else sP f (.row 1) (tb q.1,q.2)
theorem HS:∀r:LBy,tb (tb r)=tb r
 | []=>rfl
 |c::r=>by
  unfold tb;by_cases h:(c==32)=true
  ·simp only [List.dropWhile_cons,h,if_true];exact HS r
  ·simp [List.dropWhile_cons,h]
theorem EO:∀r:LBy,(tb r).length<=r.length
 | []=>zH _
 |c::r=>by
  unfold tb;by_cases h:(c==32)=true
  ·simp only [List.dropWhile_cons,h,if_true];exact Nat.le_succ_of_le (EO r)
  ·simp [List.dropWhile_cons,h]
theorem YF {p:UInt8->Bool}:∀r:LBy,(r.dropWhile p).length<=r.length
 | []=>zH _
 |c::r=>by
  by_cases h:p c=true
  ·simp only [List.dropWhile_cons,h,if_true];exact Nat.le_succ_of_le (YF r)
  ·simp [List.dropWhile_cons,h]
theorem M4 (r:LBy):(wr r).length<=r.length:=YF r
theorem wdr (r:LBy):wd r++wr r=r:=List.takeWhile_append_dropWhile
theorem Kq (c:UInt8) (t:LBy) (h1:c≠60) (h2:c≠62):sgn (c::t)=if c∈([61,38,43,45,42,47,40,41,44,58]:LBy) then [c] else []:=by
 have e1:(60==c)=false:=by simpa using λe=>h1 e.symm
 have e2:(62==c)=false:=by simpa using λe=>h2 e.symm
 by_cases h:c∈([61,38,43,45,42,47,40,41,44,58]:LBy)
 ·rw [if_pos h];simp only [zamT,List.not_mem_nil,or_false] at h;rcases h with rfl|rfl|rfl|rfl|rfl|rfl|rfl|rfl|rfl|rfl<;>rfl
 ·rw [if_neg h];simp only [zamT,List.not_mem_nil,or_false,not_or] at h;obtain ⟨a1,a2,a3,a4,a5,a6,a7,a8,a9,a10⟩:=h;have f:∀d:UInt8,c≠d->(d==c)=false:=λd hd=>by simpa using λe=>hd e.symm
  simp [sgn,KA,List.find?,List.isPrefixOf,e1,e2,f _ a1,f _ a2,f _ a3,f _ a4,f _ a5,f _ a6,f _ a7,f _ a8,f _ a9,f _ a10]
theorem Qp (t:LBy):sgn (60::t)=if t.head?=some 62 then [60,62] else if t.head?=some 61 then [60,61] else [60]:=by
 cases t with
 |nil=>rfl
 |cons d t=>
  by_cases h:d=62
  ·subst h;rfl
  ·by_cases h2:d=61
   ·subst h2;rfl
   ·have e1:(62==d)=false:=by simpa using λe=>h e.symm
    have e2:(61==d)=false:=by simpa using λe=>h2 e.symm
    simp [sgn,KA,List.find?,List.isPrefixOf,e1,e2,h,h2]
theorem U4 (t:LBy):sgn (62::t)=if t.head?=some 61 then [62,61] else [62]:=by
 cases t with
 |nil=>rfl
 |cons d t=>
  by_cases h2:d=61
  ·subst h2;rfl
  ·have e2:(61==d)=false:=by simpa using λe=>h2 e.symm
   simp [sgn,KA,List.find?,List.isPrefixOf,e2,h2]
theorem y9 {c:UInt8} (hc:c∈([45,40,41,44,58]:LBy)) (r:LBy):(sgn r= [c])↔([c].isPrefixOf r=true):=by
 cases r with
 |nil=>
  have:sgn []= []:=rfl;rw [this];simp [List.isPrefixOf]
 |cons d t=>
  have hcc:c≠60/\c≠62/\c∈([61,38,43,45,42,47,40,41,44,58]:LBy):=by
   simp only [zamT,List.not_mem_nil,or_false] at hc;rcases hc with rfl|rfl|rfl|rfl|rfl<;>decide
  have e:([c].isPrefixOf (d::t)=true)↔c=d:=by simp [List.isPrefixOf]
  rw [e];by_cases h1:d=60
  ·subst h1;rw [Qp]
   constructor
   ·intro h;split at h
    ·cases h
    ·split at h
     ·cases h
     ·simp only [List.cons.injEq,and_true] at h;exact absurd h.symm hcc.1
   ·intro h;exact absurd h hcc.1
  ·by_cases h2:d=62
   ·subst h2;rw [U4]
    constructor
    ·intro h;split at h
     ·cases h
     ·simp only [List.cons.injEq,and_true] at h;exact absurd h.symm hcc.2.1
    ·intro h;exact absurd h hcc.2.1
   ·rw [Kq d t h1 h2]
    constructor
    ·intro h;split at h
     ·simp only [List.cons.injEq,and_true] at h;exact h.symm
     ·cases h
    ·intro h;subst h;rw [if_pos hcc.2.2]
theorem je {c:UInt8} (hc:c∈([45,40,41,44,58]:LBy)) {p q:PS} (hb:q.2.1=false) (ht:tb p.1=tb q.1):(qp [c] p).1=(sIs [c] q).1/\(qp [c] p).2.1=(sIs [c] q).2.1/\(qp [c] p).2.2=p.2/\(sIs [c] q).2.2=q.2:=by
 have h:=y9 hc (tb q.1);unfold qp sIs;rw [ht,hb];by_cases hs:sgn (tb q.1)= [c]
 ·rw [if_pos hs,if_neg (by simp),if_pos (h.1 hs)];exact ⟨rfl,rfl,rfl,rfl⟩
 ·rw [if_neg hs,if_neg (by simp),if_neg (λe=>hs (h.2 e))];exact ⟨rfl,rfl,rfl,rfl⟩
theorem I9 {w:LBy} (hw:w≠ []) {p:PS} (h:(qp w p).1=true):(qp w p).2.1.length<(tb p.1).length:=by
 unfold qp at h⊢;by_cases hs:sgn (tb p.1)=w
 ·rw [if_pos hs];have hp:w.isPrefixOf (tb p.1)=true:=by
   unfold sgn at hs;split at hs
   ·rename_i x hx;subst hs;have:=List.find?_some hx;simpa using this
   ·exact absurd hs.symm hw
  obtain ⟨t,ht⟩:=List.isPrefixOf_iff_prefix.1 hp;have h0:0<w.length:=List.length_pos_iff.2 hw;have h1:=congrArg List.length ht;simp only [zamO] at h1;simp only [List.length_drop];omega
 ·rw [if_neg hs] at h;cases h
theorem PE (w:LBy) (p:PS):(qp w p).2.1.length<=(tb p.1).length:=by
 unfold qp;split
 ·simp
 ·exact zH _
theorem aa (r:LBy):(Er r=0)\/(1<=Er r/\Er r<=11/\sgn r=(D5 (Er r)).toList):=by
 unfold Er
 repeat' (split; · rename_i h;right;rw [h];exact ⟨by decide,by decide,by decide+kernel⟩)
 left;rfl
theorem sg1:(D5 1).toList= [43]:=by decide+kernel
theorem sg2:(D5 2).toList= [45]:=by decide+kernel
theorem sg3:(D5 3).toList= [42]:=by decide+kernel
theorem sg4:(D5 4).toList= [47]:=by decide+kernel
theorem sg5:(D5 5).toList= [38]:=by decide+kernel
theorem sg6:(D5 6).toList= [61]:=by decide+kernel
theorem sg7:(D5 7).toList= [60,62]:=by decide+kernel
theorem sg8:(D5 8).toList= [60]:=by decide+kernel
theorem sg9:(D5 9).toList= [60,61]:=by decide+kernel
theorem f4:(D5 10).toList= [62]:=by decide+kernel
theorem f5:(D5 11).toList= [62,61]:=by decide+kernel
theorem N5 (r:LBy):JM 1 r G3=if [60,62].isPrefixOf r=true then 7 else if [60,61].isPrefixOf r=true then 9 else if [62,61].isPrefixOf r=true then 11 else if [61].isPrefixOf r=true then 6 else if [60].isPrefixOf r=true then 8 else if [62].isPrefixOf r=true then 10 else 0:=by
 simp [JM,G3,lvl,sg1,sg2,sg3,sg4,sg5,sg6,sg7,sg8,sg9,f4,f5]
theorem N6 (r:LBy):JM 2 r G3=if [38].isPrefixOf r=true then 5 else 0:=by
 simp [JM,G3,lvl,sg1,sg2,sg3,sg4,sg5,sg6,sg7,sg8,sg9,f4,f5]
theorem N7 (r:LBy):JM 3 r G3=if [43].isPrefixOf r=true then 1 else if [45].isPrefixOf r=true then 2 else 0:=by
 simp [JM,G3,lvl,sg1,sg2,sg3,sg4,sg5,sg6,sg7,sg8,sg9,f4,f5]
theorem N8 (r:LBy):JM 4 r G3=if [42].isPrefixOf r=true then 3 else if [47].isPrefixOf r=true then 4 else 0:=by
 simp [JM,G3,lvl,sg1,sg2,sg3,sg4,sg5,sg6,sg7,sg8,sg9,f4,f5]
theorem jf {m:Int} (hm:1<=m/\m<=4) (r:LBy):JM m r G3=if Er r≠0/\lvl (Er r)=m then Er r else 0:=by
 have hm:m=1\/m=2\/m=3\/m=4:=by omega
 cases r with
 |nil=>rcases hm with rfl|rfl|rfl|rfl<;>simp [N5,N6,N7,N8,Er,sgn,KA,List.find?,List.isPrefixOf]
 |cons c t=>
  have f:∀d:UInt8,c≠d->(d==c)=false:=λd hd=>by simpa using λe=>hd e.symm
  by_cases h1:c=60
  ·subst h1;cases t with
   |nil=>rcases hm with rfl|rfl|rfl|rfl<;>simp [N5,N6,N7,N8,Er,Qp,List.isPrefixOf,lvl]
   |cons d t=>
    have g:∀e:UInt8,d≠e->(e==d)=false:=λe hd=>by simpa using λx=>hd x.symm
    by_cases hd:d=62
    ·subst hd;rcases hm with rfl|rfl|rfl|rfl<;>simp [N5,N6,N7,N8,Er,Qp,List.isPrefixOf,lvl]
    ·by_cases hd2:d=61
     ·subst hd2;rcases hm with rfl|rfl|rfl|rfl<;>simp [N5,N6,N7,N8,Er,Qp,List.isPrefixOf,lvl]
     ·rcases hm with rfl|rfl|rfl|rfl<;>simp [N5,N6,N7,N8,Er,Qp,List.isPrefixOf,lvl,hd,hd2,g _ hd,g _ hd2]
  ·by_cases h2:c=62
   ·subst h2;cases t with
    |nil=>rcases hm with rfl|rfl|rfl|rfl<;>simp [N5,N6,N7,N8,Er,U4,List.isPrefixOf,lvl]
    |cons d t=>
     have g:∀e:UInt8,d≠e->(e==d)=false:=λe hd=>by simpa using λx=>hd x.symm
     by_cases hd2:d=61
     ·subst hd2;rcases hm with rfl|rfl|rfl|rfl<;>simp [N5,N6,N7,N8,Er,U4,List.isPrefixOf,lvl]
     ·rcases hm with rfl|rfl|rfl|rfl<;>simp [N5,N6,N7,N8,Er,U4,List.isPrefixOf,lvl,hd2,g _ hd2]
   ·by_cases h:c∈([61,38,43,45,42,47,40,41,44,58]:LBy)
    ·have hs:sgn (c::t)= [c]:=by rw [Kq c t h1 h2,if_pos h]
     simp only [zamT,List.not_mem_nil,or_false] at h;rcases h with rfl|rfl|rfl|rfl|rfl|rfl|rfl|rfl|rfl|rfl<;>rcases hm with rfl|rfl|rfl|rfl<;>
      simp [N5,N6,N7,N8,Er,hs,List.isPrefixOf,lvl]
    ·have hs:sgn (c::t)= []:=by rw [Kq c t h1 h2,if_neg h]
     simp only [zamT,List.not_mem_nil,or_false,not_or] at h;obtain ⟨a1,a2,a3,a4,a5,a6,a7,a8,a9,a10⟩:=h;rcases hm with rfl|rfl|rfl|rfl<;>
      simp [N5,N6,N7,N8,Er,hs,List.isPrefixOf,f _ h1,f _ h2,f _ a1,f _ a2,f _ a3,f _ a4,f _ a5,f _ a6]
theorem Yu {op:Int}:1<=lvl op/\lvl op<=4:=by unfold lvl;split<;>(try split)<;>(try split)<;>omega
def Tf (p:PS):Prop:=p.2.1=true\/∃x∈p.2.2,Gq x=false
theorem Hq {x:Nd} {p:PS} (h:Tf p):Tf (IN x p).2:=by
 unfold IN;split
 ·exact .inl rfl
 ·rename_i hn;rcases h with h|⟨y,hy,hb⟩
  ·exact absurd (.inl h) hn
  ·exact .inr ⟨y,zamU _ hy,hb⟩
theorem KE {w:LBy} {p:PS} (h:Tf p):Tf (qp w p).2:=by unfold qp;split<;>exact h
theorem Lh (p:PS):Tf (d9 p):= .inl rfl
theorem Od {w:LBy} {p:PS} (h:Tf p):Tf (G0 w p):=by
 unfold G0;split
 ·exact h
 ·split
  ·exact KE h
  ·exact Lh _
theorem YG {p:PS} (h:Tf p):Tf (FV p).2:=by
 unfold FV;simp only;split
 ·rcases h with h|h
  ·left
   simp only [Bool.or_eq_true]
   left
   have:(qp [58] (wr (tb p.1),p.2)).2.2=p.2:=by unfold qp;split<;>rfl
   rw [this];exact h
  ·right
   have:(qp [58] (wr (tb p.1),p.2)).2.2=p.2:=by unfold qp;split<;>rfl
   simp only [this];exact h
 ·exact h
theorem H4:∀(f:Nat) (j:PJ) (p:PS),Tf p->Tf (pP f j p).2
 |0,j,p,h=>h
 |f+1,.bin least deep,p,h=>by
  simp only [pP];exact H4 f _ _ (H4 f _ _ h)
 |f+1,.loop least deep a,p,h=>by
  simp only [pP];split
  ·exact h
  ·split
   ·exact h
   ·exact H4 f _ _ (Hq (H4 f _ _ h))
 |f+1,.un deep,p,h=>by
  simp only [pP];split
  ·exact Lh _
  ·split
   ·exact Hq (H4 f _ _ (KE h))
   ·exact H4 f _ _ (KE h)
 |f+1,.at deep,p,h=>by
  simp only [pP];split
  ·split
   ·exact .inl rfl
   ·exact Hq h
  ·split
   ·exact Hq h
   ·split
    ·exact Od (H4 f _ _ (KE h))
    ·split
     ·exact Hq h
     ·split
      ·exact Hq h
      ·split
       ·exact H4 f _ _ h
       ·exact Lh _
 |f+1,.call op deep,p,h=>by
  simp only [pP];exact H4 f _ _ (Od h)
 |f+1,.args op deep kids,p,h=>by
  simp only [pP];have hq:Tf (I8 (FV p) (λp=>pP f (.bin 1 (deep+1)) p)).2:=by
   unfold I8;split
   ·exact Hq (YG h)
   ·exact H4 f _ _ (YG h)
  revert hq
  generalize I8 (FV p) (λp=>pP f (.bin 1 (deep+1)) p)=q;intro hq;split
  ·exact Hq h
  ·split
   ·exact H4 f _ _ (KE hq)
   ·exact Hq (Od (KE hq))
theorem FY (x:Nd) (p:PS):(IN x p).2.1=p.1:=by unfold IN;split<;>rfl
theorem JN (w:LBy) (p:PS):(tb (qp w p).2.1).length<=(tb p.1).length:=by
 unfold qp;split
 ·refine zU (EO _) ?_;simp
 ·simp only;rw [HS];exact zH _
theorem Qz (w:LBy) (p:PS):(tb (G0 w p).1).length<=(tb p.1).length:=by
 unfold G0;split
 ·exact zH _
 ·split
  ·exact JN w p
  ·exact JN w p
theorem Oe (p:PS):(tb (FV p).2.1).length<=(tb p.1).length:=by
 unfold FV;simp only;split
 ·simp only;refine zU (EO _) (zU (M4 _) (zU (JN [58] _) ?_));exact zU (EO _) (M4 _)
 ·exact zH _
theorem Q0:∀(acc r:LBy) {s t:LBy},GZ acc r=some (s,t)->t.length<r.length
 |acc,[],s,t,h=>by simp [GZ] at h
 |acc,c::r,s,t,h=>by
  unfold GZ at h;by_cases hc:c=34
  ·rw [if_pos hc] at h
   match r,h with
   | [],h=>simp only [zS,zamL] at h;rw [<-h.2];simp
   |d::t',h=>
    simp only at h;by_cases hd:d=34
    ·rw [if_pos hd] at h;have:=Q0 _ t' h;simp only [zamM];omega
    ·rw [if_neg hd] at h;simp only [zS,zamL] at h;rw [<-h.2];simp
  ·rw [if_neg hc] at h;have:=Q0 _ r h;simp only [zamM];omega
theorem JA:∀(f:Nat) (j:PJ) (p:PS),(tb (pP f j p).2.1).length<=(tb p.1).length
 |0,j,p=>zH _
 |f+1,.bin least deep,p=>by
  simp only [pP];exact zU (JA f _ _) (JA f _ _)
 |f+1,.loop least deep a,p=>by
  simp only [pP];split
  ·exact zH _
  ·split
   ·simp only;rw [HS];exact zH _
   ·refine zU (JA f _ _) ?_;rw [FY];refine zU (JA f _ _) (zU (EO _) ?_);simp
 |f+1,.un deep,p=>by
  simp only [pP];split
  ·exact zH _
  ·split
   ·rw [FY];exact zU (JA f _ _) (JN _ _)
   ·exact zU (JA f _ _) (JN _ _)
 |f+1,.at deep,p=>by
  simp only [pP];split
  ·split
   ·simp only;rw [HS];exact zH _
   ·rename_i s t hq;rw [FY];have:=Q0 _ _ hq;refine zU (EO _) ?_;have h2:((tb p.1).tail).length<=(tb p.1).length:=by simp
    simp only;omega
  ·split
   ·rw [FY];refine zU (EO _) ?_;simp
   ·split
    ·exact zU (Qz _ _) (zU (JA f _ _) (JN _ _))
    ·have hw:(tb (wr (tb p.1))).length<=(tb p.1).length:=zU (EO _) (M4 _);split
     ·rw [FY];exact hw
     ·split
      ·rw [FY];exact hw
      ·split
       ·exact zU (JA f _ _) hw
       ·exact hw
 |f+1,.call op deep,p=>by
  simp only [pP];exact zU (JA f _ _) (Qz _ _)
 |f+1,.args op deep kids,p=>by
  simp only [pP];have hq:(tb (I8 (FV p) (λp=>pP f (.bin 1 (deep+1)) p)).2.1).length<=(tb p.1).length:=by
   unfold I8;split
   ·rw [FY];exact Oe p
   ·exact zU (JA f _ _) (Oe p)
  revert hq
  generalize I8 (FV p) (λp=>pP f (.bin 1 (deep+1)) p)=q;intro hq;split
  ·rw [FY];exact zH _
  ·split
   ·exact zU (JA f _ _) (zU (JN _ _) hq)
   ·rw [FY];exact zU (Qz _ _) (zU (JN _ _) hq)
structure RdOK:Prop where
 v:∀w:LBy,w.all wch=true->w≠ []->(q7 (BR w)).2.2.2=true->(q7 (BR w)).1=1\/(q7 (BR w)).1=3
 v0:¬((q7 (BR [])).1=1\/(q7 (BR [])).1=3)
 p0:(Ec (BR [])).2.2.2.2=false
 f:∀w op,Lg w 1 10=some op->(q7 (BR w)).2.2.2=false/\(Ec (BR w)).2.2.2.2=false
 f0:Lg [] 1 10=none
 n:∀n:Int,1<=n/\n<=5->∃t,(qq n).toList=35::t
def Lk (p q:PS):Prop:=p.2.1=false/\q.2.1=false/\p.2.2=q.2.2/\tb p.1=tb q.1
def Sim (a b:Int×PS):Prop:=(a.1=b.1/\Lk a.2 b.2)\/(b.2.2.1=true/\Tf a.2)
def pd (least:Int) (p:PS):Prop:=Er (tb p.1)=0\/lvl (Er (tb p.1))<least
def SimP (least:Int) (a b:Int×PS):Prop:=(a.1=b.1/\Lk a.2 b.2/\pd least a.2)\/(b.2.2.1=true/\Tf a.2)
theorem SimP.sim {least:Int} {a b:Int×PS} (h:SimP least a b):Sim a b:=h.elim (λh=> .inl ⟨h.1,h.2.1⟩) .inr
theorem Tg {x:Nd} {q:PS} (h:q.2.1=true):(Jl x q).2.2.1=true:=by
 unfold Jl;simp only;split
 ·rfl
 ·exact h
theorem PF {w:LBy} {q:PS} (h:q.2.1=true):sIs w q=(false,tb q.1,q.2):=by unfold sIs;rw [if_pos h]
theorem U5:∀(g:Nat) (j:SJ) (q:PS),q.2.1=true->(sP g j q).2.2.1=true
 |0,j,q,h=>h
 |g+1,.row level,q,h=>by simp only [sP];rw [if_pos h];exact h
 |g+1,.rl level a,q,h=>by simp only [sP];rw [if_pos h];exact h
 |g+1,.one,q,h=>by
  simp only [sP];rw [PF (w:= [45]) h];simp only [dO,if_false];rw [PF (w:= [40]) (q:=(tb q.1,q.2)) h];simp only [dO,if_false];rw [PF (w:= [34]) (q:=(tb q.1,q.2)) h];simp only [dO,if_false];rw [PF (w:= [35]) (q:=(tb q.1,q.2)) h];simp only [dO,if_false];split
  ·rw [PF (w:= [40]) (q:=(wr (tb q.1),q.2)) h];simp [Sj]
  ·split
   ·exact Tg h
   ·split
    ·exact Tg h
    ·rfl
 |g+1,.call op kids,q,h=>by simp only [sP];rw [if_pos h];exact h
 |g+1,.arg,q,h=>by
  simp only [sP];rw [PF (w:= [58]) (q:=(wr (tb q.1),q.2)) h];simp only [dO,and_false,if_false];exact U5 g _ _ h
theorem PG {x:Nd} {p q:PS} (h:Lk p q):Sim (IN x p) (Jl x q):=by
 obtain ⟨h1,h2,h3,h4⟩:=h;unfold IN Jl;rw [h1,h2,h3];by_cases hl:60<=q.2.2.length
 ·refine .inr ⟨?_,.inl ?_⟩
  ·simp only;rw [if_pos (.inl (by omega))]
  ·rw [if_pos (.inr hl)]
 ·rw [if_neg (by simp;omega)];by_cases hn:Gq x=false
  ·exact .inr ⟨by simp only;rw [if_pos (.inr hn)],.inr ⟨x,by simp,hn⟩⟩
  ·refine .inl ⟨rfl,rfl,?_,rfl,h4⟩;simp only;rw [if_neg];intro e;rcases e with e|e
   ·omega
   ·exact hn e
theorem ZV {a b:Int×PS} (f:Int->Nd) (h:Sim a b):Sim (IN (f a.1) a.2) (Jl (f b.1) b.2):=by
 rcases h with ⟨h1,h2⟩|⟨h1,h2⟩
 ·rw [h1];exact PG h2
 ·exact .inr ⟨Tg h1,Hq h2⟩
theorem Q1 {c:UInt8} (hc:c∈([45,40,41,44,58]:LBy)) {p q:PS} (h:Lk p q):(qp [c] p).1=(sIs [c] q).1/\Lk (qp [c] p).2 (sIs [c] q).2:=by
 obtain ⟨h1,h2,h3,h4⟩:=h;obtain ⟨e1,e2,e3,e4⟩:=je hc h2 h4;refine ⟨e1,?_,?_,?_,?_⟩
 ·rw [e3];exact h1
 ·rw [e4];exact h2
 ·rw [e3,e4];exact h3
 ·rw [e2]
theorem ZW {c:UInt8} (hc:c∈([45,40,41,44,58]:LBy)) {a b:Int×PS} (h:Sim a b):Sim (a.1,G0 [c] a.2) (b.1,if (sIs [c] b.2).1=true then (sIs [c] b.2).2 else Sj (sIs [c] b.2).2):=by
 rcases h with ⟨h1,h2⟩|⟨h1,h2⟩
 ·obtain ⟨e1,e2⟩:=Q1 hc h2;unfold G0;rw [if_neg (by rw [h2.1];simp),e1];by_cases ht:(sIs [c] b.2).1=true
  ·rw [if_pos ht,if_pos ht];exact .inl ⟨h1,e2⟩
  ·rw [if_neg ht,if_neg ht];exact .inr ⟨rfl,Lh _⟩
 ·refine .inr ⟨?_,Od h2⟩;rw [PF h1];simp [Sj]
def P0 (G:Nat) (least:Int):Nat->Int×PS->Int×PS->Prop
 |0,x,res=>res=x
 |m+1,x,res=>if ((m:Int)+1)<least then res=x else ∃g,G<=g/\P0 G least m (sP g (.rl ((m:Int)+1) x.1) x.2) res
theorem U6 {G G':Nat} (h:G'<=G) {least:Int}:∀(m:Nat) {x res:Int×PS},P0 G least m x res->P0 G' least m x res
 |0,x,res,ht=>ht
 |m+1,x,res,ht=>by
  unfold P0 at ht⊢;split
  ·rename_i hc;rw [if_pos hc] at ht;exact ht
  ·rename_i hc;rw [if_neg hc] at ht;obtain ⟨g,h1,h2⟩:=ht;exact ⟨g,zU h h1,U6 h m h2⟩
theorem Ti {G:Nat} {least:Int}:∀(m:Nat) {x res:Int×PS},x.2.2.1=true->P0 G least m x res->res.2.2.1=true
 |0,x,res,hb,ht=>by unfold P0 at ht;rw [ht];exact hb
 |m+1,x,res,hb,ht=>by
  unfold P0 at ht;split at ht
  ·rw [ht];exact hb
  ·obtain ⟨g,_,h2⟩:=ht;exact Ti m (U5 g _ _ hb) h2
theorem YH {G:Nat} {l:Nat} (hl0:1<=l) {g:Nat} (hg:G<=g):∀(m:Nat) {x y:Int×PS},l<=m->P0 G ((l:Int)+1) m x y->P0 G (l:Int) m x (sP g (.rl (l:Int) y.1) y.2)
 |0,x,y,hl,ht=>by omega
 |m+1,x,y,hl,ht=>by
  unfold P0 at ht⊢;rw [if_neg (by omega)];by_cases e:l=m+1
  ·subst e;rw [if_pos (by omega)] at ht;subst ht;refine ⟨g,hg,?_⟩;have key:∀{z:Int×PS},P0 G ((m+1:Nat):Int) m z z:=fun {z}=>by
    cases m with
    |zero=>rfl
    |succ k=>unfold P0;rw [if_pos (by omega)]
   exact key
  ·rw [if_neg (by omega)] at ht;obtain ⟨g',h1,h2⟩:=ht;exact ⟨g',h1,YH hl0 hg m (by omega) h2⟩
theorem ZX {G:Nat} {q:PS} (hq:q.2.1=false):∀(k:Nat),k<=4->∀g,G+k<=g->∃g5,G<=g5/\P0 G (5-(k:Int)) 4 (sP g5 (.row 5) q) (sP g (.row (5-(k:Int))) q)
 |0,_,g,hg=>⟨g,hg,by
  unfold P0;rw [if_pos (by decide)];simp⟩
 |k+1,hk,0,hg=>by omega
 |k+1,hk,g+1,hg=>by
  obtain ⟨g5,h1,h2⟩:=ZX (G:=G) hq k (by omega) g (by omega);refine ⟨g5,h1,?_⟩;have e:(5-((k+1:Nat):Int))=((4-k:Nat):Int):=by omega
  have e1:(5-(k:Int))=((4-k:Nat):Int)+1:=by omega
  rw [e1] at h2;rw [e];have:=YH (G:=G) (l:=4-k) (by omega) (g:=g) (by omega) 4 (by omega) h2;have e2:sP (g+1) (.row ((4-k:Nat):Int)) q=sP g (.rl ((4-k:Nat):Int) (sP g (.row (((4-k:Nat):Int)+1)) q).1) (sP g (.row (((4-k:Nat):Int)+1)) q).2:=by
   simp only [sP];rw [if_neg (by rw [hq];simp),if_neg (by omega)]
  rw [e2];exact this
theorem dy (H:RdOK) {r:LBy} (h:r.head?=some 35):∀(k:Nat) (n:Int),1<=n->n+k<=6->ZU r.tail n k=Nc r n k
 |0,n,_,_=>rfl
 |k+1,n,h1,h2=>by
  obtain ⟨t,ht⟩:=H.n n ⟨h1,by omega⟩;cases r with
  |nil=>cases h
  |cons c r=>
   simp only [List.head?_cons,zS] at h;subst h;simp only [ZU,Nc,ht,List.tail_cons];have ih:=dy H (r:=35::r) rfl k (n+1) (by omega) (by omega);simp only [List.tail_cons] at ih;rw [ih];simp [List.isPrefixOf]
theorem ZY {r:LBy}:∀(k:Nat) (n:Int) {m:Int},Nc r n k=some m->n<=m/\m<n+k
 |0,n,m,h=>by cases h
 |k+1,n,m,h=>by
  simp only [Nc] at h;split at h
  ·simp only [zS] at h;omega
  ·have:=ZY k (n+1) h;omega
theorem Ie (c:UInt8) (r:LBy):([c].isPrefixOf r=true)↔r.head?=some c:=by
 cases r with
 |nil=>simp [List.isPrefixOf]
 |cons d t=>simp [List.isPrefixOf];exact eq_comm
theorem Tj {c:UInt8} {q:PS} (hb:q.2.1=false):(sIs [c] q).1=true↔(tb q.1).head?=some c:=by
 unfold sIs;rw [if_neg (by rw [hb];simp)];split
 ·rename_i h;exact ⟨λ_=>(Ie c _).1 h,λ_=>rfl⟩
 ·rename_i h;exact ⟨λe=>(by cases e),λe=>absurd ((Ie c _).2 e) h⟩
theorem f6 (r:LBy):(wd r).all wch=true:=by
 unfold wd
 induction r with
 |nil=>rfl
 |cons c r ih=>
  by_cases h:wch c=true
  ·simp only [List.takeWhile_cons,h,if_true,zanC,Bool.true_and];exact ih
  ·simp [List.takeWhile_cons,h]
def jg (N:Nat):Prop:=∀(p q:PS) (deep:Int) (f g:Nat),Lk p q->(tb p.1).length=N->0<=deep->deep+N<=400->20*N+4<=f->20*N+5<=g->Sim (pP f (.un deep) p) (sP g (.row 5) q)
def jh (N:Nat):Prop:=∀(m:Nat),m<=4->∀(p q:PS) (deep least a:Int) (f:Nat) (res:Int×PS),Lk p q->(tb p.1).length=N->1<=least->0<=deep->deep+N<=400->20*N+5<=f->
 (Er (tb p.1)=0\/lvl (Er (tb p.1))<=m)->P0 (20*N+5) least m (a,q) res->SimP least (pP f (.loop least deep a) p) res
def eb (N:Nat):Prop:=∀(p q:PS) (deep:Int) (k f g:Nat),k<=4->Lk p q->(tb p.1).length=N->0<=deep->deep+N<=400->20*N+6<=f->20*N+10<=g->SimP (5-(k:Int)) (pP f (.bin (5-(k:Int)) deep) p) (sP g (.row (5-(k:Int))) q)
def ji (N:Nat):Prop:=∀(p q:PS) (deep op:Int) (kids:List Int) (f g:Nat),Lk p q->(tb p.1).length=N->0<=deep->deep+N+1<=400->20*N+8<=f->20*N+12<=g->Sim (pP f (.args op deep kids) p) (sP g (.call op kids) q)
theorem rq (N:Nat) (hB:∀M,M<N->eb M) (hT:∀M,M<N->jh M):jh N:=by
 intro m
 induction m with
 |zero=>
  intro hm p q deep least a f res hl hN hle hd hdN hf hpk ht;have h0:Er (tb p.1)=0:=by
   rcases hpk with h|h
   ·exact h
   ·have:=(Yu (op:=Er (tb p.1))).1;omega
  cases f with
  |zero=>omega
  |succ f=>
   simp only [pP];rw [if_neg (by rw [hl.1];simp),if_pos (.inl h0)];unfold P0 at ht;subst ht;refine .inl ⟨rfl,⟨hl.1,hl.2.1,hl.2.2.1,?_⟩,.inl ?_⟩
   ·simp only;rw [HS];exact hl.2.2.2
   ·simp only;rw [HS];exact h0
 |succ m ih=>
  intro hm p q deep least a f res hl hN hle hd hdN hf hpk ht;unfold P0 at ht;by_cases hc:(m:Int)+1<least
  ·rw [if_pos hc] at ht;subst ht;cases f with
   |zero=>omega
   |succ f=>
    have hst:Er (tb p.1)=0\/lvl (Er (tb p.1))<least:=by
     rcases hpk with h|h
     ·exact .inl h
     ·right;push_cast at h;omega
    simp only [pP];rw [if_neg (by rw [hl.1];simp),if_pos hst];refine .inl ⟨rfl,⟨hl.1,hl.2.1,hl.2.2.1,?_⟩,?_⟩
    ·simp only;rw [HS];exact hl.2.2.2
    ·unfold pd;simp only;rw [HS];exact hst
  ·rw [if_neg hc] at ht;obtain ⟨g,hg,ht⟩:=ht;cases g with
   |zero=>omega
   |succ g=>
    have hin:=jf (m:=(m:Int)+1) (by omega) (tb q.1);have hpq:tb p.1=tb q.1:=hl.2.2.2;simp only [sP] at ht;rw [if_neg (by rw [hl.2.1];simp)] at ht;have ho:sOp ((m:Int)+1) q=(JM ((m:Int)+1) (tb q.1) G3,(if JM ((m:Int)+1) (tb q.1) G3=0 then tb q.1 else (tb q.1).drop (D5 (JM ((m:Int)+1) (tb q.1) G3)).size),q.2):=by
     unfold sOp;rw [if_neg (by rw [hl.2.1];simp)]
    by_cases hop:Er (tb q.1)≠0/\lvl (Er (tb q.1))=(m:Int)+1
    ·rw [if_pos hop] at hin;rw [hin,if_neg hop.1] at ho;rw [ho] at ht;simp only at ht;rw [if_neg hop.1] at ht;cases f with
     |zero=>omega
     |succ f=>
      simp only [pP];rw [if_neg (by rw [hl.1];simp),if_neg (by rw [hpq];exact λe=>e.elim (λe=>hop.1 e) (λe=>by have:=hop.2;omega))];rw [hpq];rcases aa (tb q.1) with h0|⟨_,_,hsg⟩
      ·exact absurd h0 hop.1
      have hsz:(sgn (tb q.1)).length=(D5 (Er (tb q.1))).size:=by rw [hsg,EA]
      have hpos:0<(sgn (tb q.1)).length:=by
       cases hh:sgn (tb q.1) with
       |nil=>
        exfalso;apply hop.1;unfold Er;rw [hh];simp
       |cons c t=>simp
      have hdrop:(tb ((tb q.1).drop (sgn (tb q.1)).length)).length<N:=by
       have h1:=EO ((tb q.1).drop (sgn (tb q.1)).length);have h2:(sgn (tb q.1)).length<=(tb q.1).length\/(tb q.1).length<(sgn (tb q.1)).length:=by omega
       rw [List.length_drop] at h1;have h3:(tb q.1).length=N:=by rw [<-hpq];exact hN
       have h4:0<N:=by
        rcases Nat.eq_zero_or_pos N with h|h
        ·exfalso;rw [h] at h3;have:tb q.1= []:=bR h3;apply hop.1;rw [this];rfl
        ·exact h
       omega
      have hlk:Lk ((tb q.1).drop (sgn (tb q.1)).length,p.2) ((tb q.1).drop (D5 (Er (tb q.1))).size,q.2):=⟨hl.1,hl.2.1,hl.2.2.1,by simp only;rw [hsz]⟩;have hb:=hB _ hdrop ((tb q.1).drop (sgn (tb q.1)).length,p.2) ((tb q.1).drop (D5 (Er (tb q.1))).size,q.2) deep (3-m) f g (by omega) hlk rfl hd (by omega) (by omega) (by omega);have e5:(5-((3-m:Nat):Int))=(m:Int)+1+1:=by omega
      rw [e5] at hb;rw [hop.2];have hlenA:=JA f (.bin ((m:Int)+1+1) deep) ((tb q.1).drop (sgn (tb q.1)).length,p.2);generalize pP f (.bin ((m:Int)+1+1) deep) ((tb q.1).drop (sgn (tb q.1)).length,p.2)=A at hb hlenA⊢;generalize hBB:sP g (.row ((m:Int)+1+1)) ((tb q.1).drop (D5 (Er (tb q.1))).size,q.2)=B at hb ht;rcases hb with ⟨b1,b2,b3⟩|⟨b1,b2⟩
      ·rw [b1];have hs:=PG (x:=ndK 5 (Er (tb q.1)) [a,B.1]) b2;generalize hC:IN (ndK 5 (Er (tb q.1)) [a,B.1]) A.2=C at hs⊢;generalize Jl (ndK 5 (Er (tb q.1)) [a,B.1]) B.2=D at hs ht;rcases hs with ⟨c1,c2⟩|⟨c1,c2⟩
       ·have hrC:C.2.1=A.2.1:=by rw [<-hC];exact FY _ _
        have hN3:(tb C.2.1).length<N:=by
         rw [hrC];exact Nat.lt_of_le_of_lt hlenA hdrop
        refine hT _ hN3 (m+1) hm C.2 D.2 deep least C.1 f res c2 rfl hle hd (by omega) (by omega) ?_ ?_
        ·rw [hrC];rcases b3 with h|h
         ·exact .inl h
         ·right;push_cast;omega
        ·rw [c1];unfold P0;rw [if_neg hc];exact ⟨g,by omega,U6 (by omega) m ht⟩
       ·exact .inr ⟨Ti _ (U5 g _ _ c1) ht,H4 f _ _ c2⟩
      ·exact .inr ⟨Ti _ (U5 g _ _ (Tg b1)) ht,H4 f _ _ (Hq b2)⟩
    ·rw [if_neg hop] at hin;rw [hin,if_pos rfl] at ho;rw [ho] at ht;simp only at ht;rw [if_pos trivial] at ht;refine ih (by omega) p (tb q.1,q.2) deep least a f res ⟨hl.1,hl.2.1,hl.2.2.1,by simp only;rw [HS];exact hpq⟩ hN hle hd hdN hf ?_ ht;rw [hpq];rw [hpq] at hpk;by_cases h0:Er (tb q.1)=0
     ·exact .inl h0
     ·right
      rcases hpk with h|h
      ·exact absurd h h0
      ·have:lvl (Er (tb q.1))≠(m:Int)+1:=λe=>hop ⟨h0,e⟩
       push_cast at h
       omega
theorem jj (N:Nat) (hA:jg N) (hT:∀M,M<=N->jh M):eb N:=by
 intro p q deep k f g hk hl hN hd hdN hf hg;obtain ⟨g5,hg5,ht⟩:=ZX (G:=20*N+5) hl.2.1 k hk g (by omega);cases f with
 |zero=>omega
 |succ f=>
  simp only [pP];have ha:=hA p q deep f g5 hl hN hd hdN (by omega) hg5;have hlen:=JA f (.un deep) p;generalize pP f (.un deep) p=A at ha hlen⊢;generalize sP g5 (.row 5) q=B at ha ht;rcases ha with ⟨h1,h2⟩|⟨h1,h2⟩
  ·have hM:(tb A.2.1).length<=N:=by omega
   refine hT _ hM 4 (by omega) A.2 B.2 deep (5-(k:Int)) A.1 f _ h2 rfl (by omega) hd (by omega) (by omega) (.inr ?_) ?_
   ·have:=(Yu (op:=Er (tb A.2.1))).2;omega
   ·rw [h1];exact U6 (by omega) 4 ht
  ·exact .inr ⟨Ti 4 h1 ht,H4 f _ _ h2⟩
theorem jk (H:RdOK) (N:Nat) (hB:eb N) (hC:∀M,M<N->ji M):ji N:=by
 intro p q deep op kids f g hl hN hd hdN hf hg;cases f with
 |zero=>omega
 |succ f=>
 cases g with
 |zero=>omega
 |succ g=>
 cases g with
 |zero=>omega
 |succ g=>
 have hpq:=hl.2.2.2;have hpb:¬p.2.1=true:=by rw [hl.1];simp
 have hqb:¬q.2.1=true:=by rw [hl.2.1];simp
 have harg:Sim (I8 (FV p) (λp=>pP f (.bin 1 (deep+1)) p)) (sP (g+1) .arg q)/\(tb (I8 (FV p) (λp=>pP f (.bin 1 (deep+1)) p)).2.1).length<=N:=by
  refine ⟨?_,?_⟩
  ·have hw:Lk (wr (tb p.1),p.2) (wr (tb q.1),q.2):=⟨hl.1,hl.2.1,hl.2.2.1,by rw [hpq]⟩;obtain ⟨e1,e2⟩:=Q1 (c:=58) (by decide) hw;simp only [sP];unfold I8 FV;simp only;rw [hpq] at e1 e2⊢;by_cases hc:(Ec (BR (wd (tb q.1)))).2.2.2.2=true/\(qp [58] (wr (tb q.1),p.2)).1=true
   ·rw [if_pos hc,if_pos ⟨hc.1,e1▸hc.2⟩];simp only;rw [e2.2.2.2];by_cases h2:(Ec (BR (wd (tb (sIs [58] (wr (tb q.1),q.2)).2.1)))).2.2.2.2=true
    ·rw [if_pos h2,h2];simp only [Bool.not_true,Bool.or_false];exact PG ⟨e2.1,e2.2.1,e2.2.2.1,rfl⟩
    ·rw [if_neg h2];refine .inr ⟨rfl,Hq (.inl ?_)⟩;simp only;have h2:(Ec (BR (wd (tb (sIs [58] (wr (tb q.1),q.2)).2.1)))).2.2.2.2=false:=by simpa using h2
     rw [h2];simp
   ·rw [if_neg hc,if_neg (λe=>hc ⟨e.1,e1.symm▸e.2⟩)];simp only;have:=hB p (tb q.1,q.2) (deep+1) 4 f g (by omega) ⟨hl.1,hl.2.1,hl.2.2.1,by simp only;rw [HS];exact hpq⟩ hN (by omega) (by omega) (by omega) (by omega);exact this.sim
  ·unfold I8;split
   ·rw [FY];have:=Oe p;omega
   ·have h1:=JA f (.bin 1 (deep+1)) (FV p).2;have h2:=Oe p;exact zU h1 (by omega)
 obtain ⟨harg,hal⟩:=harg;simp only [pP];rw [if_neg hpb];have hs:sP (g+1+1) (.call op kids) q=(if (sIs [41] (sP (g+1) .arg q).2).1=true then Jl (ndK 6 op (kids++ [(sP (g+1) .arg q).1])) (sIs [41] (sP (g+1) .arg q).2).2
  else sP (g+1) (.call op (kids++ [(sP (g+1) .arg q).1])) (if (sIs [44] (sIs [41] (sP (g+1) .arg q).2).2).1=true then (sIs [44] (sIs [41] (sP (g+1) .arg q).2).2).2 else Sj (sIs [44] (sIs [41] (sP (g+1) .arg q).2).2).2)):=by
  rw [sP];rw [if_neg hqb]
 rw [hs];generalize I8 (FV p) (λp=>pP f (.bin 1 (deep+1)) p)=Q at harg hal⊢;generalize sP (g+1) .arg q=A at harg⊢;rcases harg with ⟨h1,h2⟩|⟨h1,h2⟩
 ·have hb2:=h2.2.1;obtain ⟨c1,c2⟩:=Q1 (c:=44) (by decide) h2;have i41:=Tj (c:=41) hb2;have i44:=Tj (c:=44) hb2;by_cases hc:(qp [44] Q.2).1=true
  ·rw [if_pos hc];have hh:=i44.1 (c1▸hc);have n41:¬(sIs [41] A.2).1=true:=λe=>by rw [i41.1 e] at hh;cases hh
   rw [if_neg n41];have e41:(sIs [41] A.2).2=(tb A.2.1,A.2.2):=by
    unfold sIs at n41⊢;rw [if_neg (by rw [hb2];simp)] at n41⊢;split
    ·rename_i hx;rw [if_pos hx] at n41;exact absurd rfl n41
    ·rfl
   rw [e41];have e44:sIs [44] (tb A.2.1,A.2.2)=sIs [44] A.2:=by unfold sIs;simp only [HS]
   rw [e44,if_pos (c1▸hc),h1];have hlt:=I9 (w:= [44]) (by simp) hc;have htb:=EO (qp [44] Q.2).2.1;exact hC _ (by omega) (qp [44] Q.2).2 (sIs [44] A.2).2 deep op _ f (g+1) c2 rfl hd (by omega) (by omega) (by omega)
  ·rw [if_neg hc];have et:(qp [44] Q.2).2=(tb Q.2.1,Q.2.2):=by
    unfold qp at hc⊢;split
    ·rename_i hx;rw [if_pos hx] at hc;exact absurd rfl hc
    ·rfl
   rw [et];have hl2:Lk (tb Q.2.1,Q.2.2) A.2:=⟨h2.1,h2.2.1,h2.2.2.1,by simp only;rw [HS];exact h2.2.2.2⟩;have hm:=ZW (c:=41) (by decide) (a:=(A.1,(tb Q.2.1,Q.2.2))) (b:=(A.1,A.2)) (.inl ⟨rfl,hl2⟩);by_cases h41:(sIs [41] A.2).1=true
   ·rw [if_pos h41];simp only [h41,if_true] at hm;have:=ZV (λ_=>ndK 6 op (kids++ [A.1])) hm;rw [h1];exact this
   ·rw [if_neg h41];have e41:(sIs [41] A.2).2=(tb A.2.1,A.2.2):=by
     unfold sIs at h41⊢;rw [if_neg (by rw [hb2];simp)] at h41⊢;split
     ·rename_i hx;rw [if_pos hx] at h41;exact absurd rfl h41
     ·rfl
    have e44:sIs [44] (tb A.2.1,A.2.2)=sIs [44] A.2:=by unfold sIs;simp only [HS]
    rw [e41,e44,if_neg (c1▸hc)];refine .inr ⟨U5 _ _ _ rfl,Hq ?_⟩;simp only [if_neg h41] at hm;rcases hm with ⟨_,_,hb,_⟩|⟨_,hdm⟩
    ·simp [Sj] at hb
    ·exact hdm
 ·have e41:sIs [41] A.2=(false,tb A.2.1,A.2.2):=PF h1;have e44:sIs [44] (tb A.2.1,A.2.2)=(false,tb (tb A.2.1),A.2.2):=PF h1;rw [e41];simp only [dO,if_false];rw [e44];simp only [dO,if_false];refine .inr ⟨U5 _ _ _ rfl,?_⟩;split
  ·exact H4 f _ _ (KE h2)
  ·exact Hq (Od (KE h2))
theorem ZZ {c d:UInt8} (h:c≠d) {r:LBy} (hr:r.head?=some c):¬r.head?=some d:=by rw [hr];simpa using h
theorem jl (H:RdOK) (N:Nat) (hA:∀M,M<N->jg M) (hB:∀M,M<N->eb M) (hC:∀M,M<N->ji M):jg N:=by
 intro p q deep f g hl hN hd hdN hf hg;cases f with
 |zero=>omega
 |succ f=>
 cases f with
 |zero=>omega
 |succ f=>
 cases g with
 |zero=>omega
 |succ g=>
 cases g with
 |zero=>omega
 |succ g=>
 have hpq:=hl.2.2.2;have hpb:¬p.2.1=true:=by rw [hl.1];simp
 have hqb:¬q.2.1=true:=by rw [hl.2.1];simp
 have hq0:=hl.2.1;have hs:sP (g+1+1) (.row 5) q=sP (g+1) .one q:=by
  rw [sP,if_neg hqb,if_pos rfl]
 rw [hs];obtain ⟨e1,e2⟩:=Q1 (c:=45) (by decide) hl;rw [pP];rw [if_neg (by intro e;rcases e with e|e;omega;exact hpb e)];by_cases hc:(qp [45] p).1=true
 ·rw [if_pos hc];simp only [sP];rw [if_pos (e1▸hc)];have hlt:=I9 (w:= [45]) (by simp) hc;have htb:=EO (qp [45] p).2.1;exact ZV (λk=>ndK 4 0 [k]) (hA _ (by omega) _ _ (deep+1) (f+1) g e2 rfl (by omega) (by omega) (by omega) (by omega))
 ·rw [if_neg hc];have hp':(qp [45] p).2=(tb p.1,p.2):=by
   unfold qp at hc⊢;split
   ·rename_i hx;rw [if_pos hx] at hc;exact absurd rfl hc
   ·rfl
  have hq':(sIs [45] q).2=(tb q.1,q.2):=by
   have hc:¬(sIs [45] q).1=true:=e1▸hc;unfold sIs at hc⊢;rw [if_neg hqb] at hc⊢;split
   ·rename_i hx;rw [if_pos hx] at hc;exact absurd rfl hc
   ·rfl
  rw [hp'];simp only [sP];rw [if_neg (e1▸hc),hq'];simp only [pP,HS];have hl2:Lk (tb p.1,p.2) (tb q.1,q.2):=⟨hl.1,hl.2.1,hl.2.2.1,by simp only [HS];exact hpq⟩;obtain ⟨f1,f2⟩:=Q1 (c:=40) (by decide) hl2;have i40:=Tj (c:=40) (q:=(tb q.1,q.2)) hq0;have i34:=Tj (c:=34) (q:=(tb q.1,q.2)) hq0;have i35:=Tj (c:=35) (q:=(tb q.1,q.2)) hq0;simp only [HS] at i40 i34 i35;rw [hpq] at hN f1 f2⊢;by_cases h34:(tb q.1).head?=some 34
  ·rw [if_pos h34,if_neg (λe=>ZZ (by decide) h34 (i40.1 e)),if_pos (i34.2 h34)];have es:(sIs [34] (tb q.1,q.2)).2.1=(tb q.1).tail:=by
    have:=i34.2 h34;unfold sIs at this⊢;rw [if_neg hqb] at this⊢;simp only [HS] at this⊢;split
    ·simp
    ·rename_i hx;rw [if_neg hx] at this;cases this
   rw [es];cases hqr:GZ [] (tb q.1).tail with
   |none=>exact .inr ⟨rfl,.inl rfl⟩
   |some st=>
    obtain ⟨s,t⟩:=st;exact PG ⟨hl.1,hl.2.1,hl.2.2.1,rfl⟩
  ·rw [if_neg h34];by_cases h35:(tb q.1).head?=some 35
   ·rw [if_pos h35,if_neg (λe=>ZZ (by decide) h35 (i40.1 e)),if_neg (λe=>h34 (i34.1 e)),if_pos (i35.2 h35)];have es:(sIs [35] (tb q.1,q.2)).2.1=(tb q.1).tail:=by
     have:=i35.2 h35;unfold sIs at this⊢;rw [if_neg hqb] at this⊢;simp only [HS] at this⊢;split
     ·simp
     ·rename_i hx;rw [if_neg hx] at this;cases this
    rw [es,dy H h35 5 1 (by omega) (by omega)];cases he:Nc (tb q.1) 1 5 with
    |some n=>
     simp only;obtain ⟨t,ht⟩:=H.n n (by have:=ZY 5 1 he;omega);have hsz:(qq n).size=t.length+1:=by rw [<-EA,ht];rfl
     refine PG ⟨hl.1,hl.2.1,hl.2.2.1,?_⟩;simp only;rw [hsz];cases hr:tb q.1 with
     |nil=>rw [hr] at h35;cases h35
     |cons c r=>rfl
    |none=>
     simp only;rw [if_neg (λe=>e.1 h35)];have hw:wd (tb q.1)= []:=by
      cases hr:tb q.1 with
      |nil=>rw [hr] at h35;cases h35
      |cons c r=>
       rw [hr] at h35;simp only [List.head?_cons,zS] at h35;subst h35;rfl
     rw [hw,if_neg (λe=>H.v0 e.2),if_neg (by rw [H.p0];simp),H.f0];exact .inr ⟨rfl,Lh _⟩
   ·rw [if_neg h35];simp only;by_cases h40:(qp [40] (tb q.1,p.2)).1=true
    ·rw [if_pos ⟨h35,h40⟩,if_pos (f1▸h40)];have hlt:=I9 (w:= [40]) (by simp) h40;simp only [HS] at hlt;have htb:=EO (qp [40] (tb q.1,p.2)).2.1;have hb:=(hB _ (by omega) _ _ (deep+1) 4 f g (by omega) f2 rfl (by omega) (by omega) (by omega) (by omega)).sim;have e5:(5-((4:Nat):Int))=1:=by omega
     rw [e5] at hb;exact ZW (by decide) hb
    ·have n40:¬(sIs [40] (tb q.1,q.2)).1=true:=f1▸h40;have n34:¬(sIs [34] (tb q.1,q.2)).1=true:=λe=>h34 (i34.1 e)
     have n35:¬(sIs [35] (tb q.1,q.2)).1=true:=λe=>h35 (i35.1 e)
     rw [if_neg (λe=>h40 e.2),if_neg n40,if_neg n34,if_neg n35];have hl3:Lk (wr (tb q.1),p.2) (wr (tb q.1),q.2):=⟨hl.1,hl.2.1,hl.2.2.1,rfl⟩;cases hfn:Lg (wd (tb q.1)) 1 10 with
     |some op=>
      simp only;obtain ⟨z1,z2⟩:=H.f _ _ hfn;rw [if_neg (by rw [z1];simp),if_neg (by rw [z2];simp)];have hne:1<=(wd (tb q.1)).length:=by
       cases hw:wd (tb q.1) with
       |nil=>rw [hw,H.f0] at hfn;cases hfn
       |cons c t=>simp
      have hlen:(wr (tb q.1)).length+1<=N:=by
       have:=congrArg List.length (wdr (tb q.1));simp only [zamO] at this;omega
      obtain ⟨k1,k2⟩:=Q1 (c:=40) (by decide) hl3;cases f with
      |zero=>omega
      |succ f=>
       simp only [pP];by_cases ht:(sIs [40] (wr (tb q.1),q.2)).1=true
       ·rw [if_pos ht];have em:G0 [40] (wr (tb q.1),p.2)=(qp [40] (wr (tb q.1),p.2)).2:=by
         unfold G0;rw [if_neg hpb,if_pos (k1▸ht)]
        rw [em];have hlt:=I9 (w:= [40]) (by simp) (k1.symm▸ht);have h2:=EO (wr (tb q.1));have h3:=EO (qp [40] (wr (tb q.1),p.2)).2.1;simp only at hlt;exact hC _ (by omega) _ _ deep op [] f g k2 rfl hd (by omega) (by omega) (by omega)
       ·rw [if_neg ht];have em:G0 [40] (wr (tb q.1),p.2)=d9 (qp [40] (wr (tb q.1),p.2)).2:=by
         unfold G0;rw [if_neg hpb,if_neg (k1▸ht)]
        rw [em];exact .inr ⟨rfl,H4 f _ _ (Lh _)⟩
     |none=>
      simp only;by_cases hw0:wd (tb q.1)= []
      ·rw [hw0,if_neg (λe=>H.v0 e.2),if_neg (by rw [H.p0];simp),if_neg (λe=>e.2 rfl),if_neg (by rw [H.p0];simp)];exact .inr ⟨rfl,Lh _⟩
      ·by_cases hv:(q7 (BR (wd (tb q.1)))).2.2.2=true
       ·rw [if_pos ⟨hv,H.v _ (f6 _) hw0 hv⟩,if_pos ⟨hv,hw0⟩];exact PG hl3
       ·have nv1:¬((q7 (BR (wd (tb q.1)))).2.2.2=true/\((q7 (BR (wd (tb q.1)))).1=1\/(q7 (BR (wd (tb q.1)))).1=3)):=λe=>hv e.1
        have nv2:¬((q7 (BR (wd (tb q.1)))).2.2.2=true/\wd (tb q.1)≠ []):=λe=>hv e.1
        rw [if_neg nv1,if_neg nv2];by_cases hp:(Ec (BR (wd (tb q.1)))).2.2.2.2=true
        ·rw [if_pos hp,if_pos hp];exact PG hl3
        ·rw [if_neg hp,if_neg hp];exact .inr ⟨rfl,Lh _⟩
theorem jm (H:RdOK) (N:Nat):jg N/\jh N/\eb N/\ji N:=by
 induction N using Nat.strongRecOn with
 |ind N ih=>
  have hA:=jl H N (λM h=>(ih M h).1) (λM h=>(ih M h).2.2.1) (λM h=>(ih M h).2.2.2);have hT:=rq N (λM h=>(ih M h).2.2.1) (λM h=>(ih M h).2.1);have hB:=jj N hA (λM h=>(Nat.lt_or_eq_of_le h).elim (λh=>(ih M h).2.1) (λh=>h▸hT));exact ⟨hA,hT,hB,jk H N hB (λM h=>(ih M h).2.2.2)⟩
theorem Ek (r:LBy):(BR r).toList=r:=Eg r
theorem qw (r:LBy):(BR r).size=r.length:=by rw [<-EA,Ek]
theorem Ky (s:BA):BR s.toList=s:=HU (Ek _)
theorem Ly (r:LBy) (a b:Nat):(BR r).extract a b=BR ((r.take b).drop a):=by
 refine HU ?_;rw [Ek,zao,ByteArray.data_extract,Array.toList_extract];simp [BR,List.extract_eq_take_drop,List.drop_take]
theorem U7 (a b:LBy):BR a++BR b=BR (a++b):=by
 refine HU ?_;rw [Ek,zao];simp [BR]
theorem mo:∀i:Fin 256,((⟨#[32]⟩:BA).data.toList.contains (UInt8.ofNat i.val))=(UInt8.ofNat i.val==32):=by decide+kernel
def wcS:BA:=⟨#[65,66,67,68,69,70,71,72,73,74,75,76,77,78,79,80,81,82,83,84,85,86,87,88,89,90,48,49,50,51,52,53,54,55,56,57,36]⟩
theorem mp:∀i:Fin 256,(wcS.data.toList.contains (UInt8.ofNat i.val))=wch (UInt8.ofNat i.val):=by decide+kernel
theorem f7 {f g:UInt8->Bool} (h:∀i:Fin 256,f (UInt8.ofNat i.val)=g (UInt8.ofNat i.val)) (c:UInt8):f c=g c:=by
 have h:=h ⟨c.toNat,UInt8.toNat_lt c⟩;have e:UInt8.ofNat c.toNat=c:=by simp
 simp only [e] at h;exact h
theorem bv (r:LBy):Ev (Fv · (BR r) ⟨#[32]⟩) (BR (tb r)):=by
 refine ⟨1,λn hn=>?_⟩;obtain ⟨m,rfl,hm⟩:=up1 hn;show za (BR r) ⟨#[32]⟩=_;unfold za;rw [if_pos ⟨by decide,by decide+kernel⟩];unfold Lib.trimLeftS tb;have:(λc=>(⟨#[32]⟩:BA).data.toList.contains c)=(λc=>c==32):=funext (f7 mo);rw [this];rfl
theorem bz (r:LBy):Ev (Fv · (BR r) ⟨#[65,66,67,68,69,70,71,72,73,74,75,76,77,78,79,80,81,82,83,84,85,86,87,88,89,90,48,49,50,51,52,53,54,55,56,57,36]⟩) (BR (wr r)):=by
 refine ⟨1,λn hn=>?_⟩;obtain ⟨m,rfl,hm⟩:=up1 hn;show za (BR r) wcS=_;unfold za;rw [if_pos ⟨by decide,by decide+kernel⟩];unfold Lib.trimLeftS wr;have:(λc=>wcS.data.toList.contains c)=wch:=funext (f7 mp);rw [this];rfl
theorem Nf (r:LBy) (m:Nat) (b:Bool) (rows:RW):Ev (FX · (BR r) m b rows) (BR (tb r),m,b,rows):=by
 obtain ⟨n1,h1⟩:=bv r;refine ⟨n1+1,λn hn=>?_⟩;obtain ⟨m,rfl,hm⟩:=up1 hn;have h1:=h1 m (by omega);dsimp only at h1;simp only [FX,Iy,qj,h1]
theorem GF (m:Nat) (s w:LBy):D4 (m+2) (BR s) (BR w)=some (w.isPrefixOf s):=by
 simp only [D4,Gy,EQ,FR,qj,qw,Ly,Ek];by_cases h:w.length<=s.length
 ·have h1:((s.length:Nat):Int)≥((w.length:Nat):Int):=by omega
  simp [h1,h,List.isPrefixOf_iff_prefix,List.prefix_iff_eq_take];by_cases e:w=s.take w.length
  ·simp [<-e,List.isPrefixOf_iff_prefix.2 (List.prefix_iff_eq_take.2 e)]
  ·have e2:¬s.take w.length=w:=λh=>e h.symm
   have e3:w.isPrefixOf s=false:=by
    rw [bX];intro hp;exact e (List.prefix_iff_eq_take.1 (List.isPrefixOf_iff_prefix.1 hp))
   simp [e2,e3]
 ·have h1:¬((s.length:Nat):Int)≥((w.length:Nat):Int):=by omega
  have e3:w.isPrefixOf s=false:=by
   rw [bX];intro hp;exact h (List.isPrefixOf_iff_prefix.1 hp).length_le
  simp [h1,e3]
theorem f8 (s w:LBy):Ev (D4 · (BR s) (BR w)) (w.isPrefixOf s):=by
 refine ⟨2,λn hn=>?_⟩;obtain ⟨m,rfl,hm⟩:=up1 hn;obtain ⟨m,rfl,hm⟩:=up1 hm;exact GF m s w
def Za:RW:=KA.map λw=> [PV.s (BR w)]
theorem YI {n:Nat} {r:LBy} (m:Nat) (b:Bool) (rows:RW) (h:∀w∈KA,D4 n (BR r) (BR w)=some (w.isPrefixOf r)):
  ∀(k i M:Nat),i+k=15->k+1<=M->zF (HJ n) M (15,15,(i:Int),Za,BR r,m,b,rows)=some (match (KA.drop i).find? (λw=>w.isPrefixOf r) with|some w=> .inl (BR w,BR r,m,b,rows)|none=> .inr (BR r,m,b,rows))
 |k,i,0,h1,h2=>by omega
 |0,i,M+1,h1,h2=>by
  have hi:i=15:=by omega
  subst hi;rw [qe (r:= .inr (BR r,m,b,rows)) (by simp [HJ,qj])];rfl
 |k+1,i,M+1,h1,h2=>by
  have hi:i<KA.length:=by simp [KA];omega
  obtain ⟨w,hw⟩:∃w,KA[i]?=some w:=⟨_,zh hi⟩;have hR:Za[i]?=some [PV.s (BR w)]:=by simp [Za,zamS,hw]
  have hl:Za.length=15:=rfl;have hc:z8 [PV.s (BR w)] 0=some (BR w):=rfl;have hp:=h w (aC hw);have hd:KA.drop i=w::KA.drop (i+1):=KD hw;have w5:IntKind.i64.wrap ((i:Int)+1)=((i+1:Nat):Int):=by rw [ql (by omega)];omega
  rw [hd];simp only [List.find?_cons];cases hq:w.isPrefixOf r with
  |true=>
   rw [qe (r:= .inl (BR w,BR r,m,b,rows)) (by
    refine qb (by simp;omega) (qb (by simp [hl];omega) (qa hR (qa hc (qa (hp.trans (congrArg some hq)) (qb rfl rfl))))))]
  |false=>
   rw [qm (v':=(15,15,((i+1:Nat):Int),Za,BR r,m,b,rows)) (by
    refine qb (by simp;omega) (qb (by simp [hl];omega) (qa hR (qa hc (qa (hp.trans (congrArg some hq)) (qc rfl ?_)))));rw [w5];rfl)]
   exact YI m b rows h k (i+1) M (by omega) (by omega)
theorem U8 (r:LBy) (m:Nat) (b:Bool) (rows:RW):Ev (GQ · (BR r) m b rows) (BR (sgn (tb r)),BR (tb r),m,b,rows):=by
 obtain ⟨n1,h1⟩:=Nf r m b rows;obtain ⟨n2,h2⟩:=FJ (F:=λw n=>D4 n (BR (tb r)) (BR w)) (f:=λw=>w.isPrefixOf (tb r)) KA (λw _=>f8 (tb r) w);refine ⟨n1+n2+30,λn hn=>?_⟩;obtain ⟨k,rfl,hm⟩:=up1 hn;have h1:=h1 k (by omega);have lp:=YI m b rows (h2 k (by omega)) 15 0 k rfl (by omega);refine qa h1 (qa lp ?_);simp only [List.drop_zero];unfold sgn;cases hq:KA.find? (λw=>w.isPrefixOf (tb r)) with
 |some w=>rfl
 |none=>rfl
theorem ac (r:LBy):sgn r<+:r:=by
 unfold sgn;split
 ·rename_i w hw;have:=List.find?_some hw;exact List.isPrefixOf_iff_prefix.1 (by simpa using this)
 ·exact List.nil_prefix
theorem YJ (w r:LBy) (m:Nat) (b:Bool) (rows:RW):Ev (D9 · (BR w) (BR r) m b rows) (decide (sgn (tb r)=w),BR (if sgn (tb r)=w then (tb r).drop w.length else tb r),m,b,rows):=by
 obtain ⟨n1,h1⟩:=U8 r m b rows;refine ⟨n1+1,λn hn=>?_⟩;obtain ⟨k,rfl,hm⟩:=up1 hn;refine qa (h1 k (by omega)) ?_;by_cases h:sgn (tb r)=w
 ·have hp:=(ac (tb r)).length_le;rw [h] at hp;refine qc (by simp [Ek,h]) (qb (by simp [qw];omega) ?_);rw [qh,qw,qw,Ly];simp [h]
 ·refine qb (by simp [Ek,h]) ?_;rw [qh];simp [h]
theorem ca (r:LBy) (m:Nat) (b:Bool) (rows:RW) (hr:r.length<=1000):Ev (Fw · (BR r) m b rows) (BR (wd (tb r)),BR (wr (tb r)),m,b,rows):=by
 obtain ⟨n1,h1⟩:=Nf r m b rows;obtain ⟨n2,h2⟩:=bz (tb r);refine ⟨n1+n2+1,λn hn=>?_⟩;obtain ⟨k,rfl,hm⟩:=up1 hn;have hb:=EO r;have hw:=M4 (tb r);have hsum:=congrArg List.length (wdr (tb r));simp only [zamO] at hsum;have e:IntKind.i64.wrap (((tb r).length:Int)-((wr (tb r)).length:Int))=((wd (tb r)).length:Int):=by rw [ql (by omega)];omega
 refine qa (h1 k (by omega)) (qa (h2 k (by omega)) ?_);simp only [qw,e];refine qb (by simp;omega) (qb (by simp;omega) ?_);rw [qh];have t1:(wd (tb r)++wr (tb r)).take (wd (tb r)).length=wd (tb r):=List.take_left ..;have t2:(wd (tb r)++wr (tb r)).drop (wd (tb r)).length=wr (tb r):=List.drop_left ..;rw [wdr] at t1 t2;simp [Ly,t1,t2]
def Li (p:PS):BA×Nat×Bool×RW:=(BR p.1,p.2.2.length,p.2.1,p.2.2.map qu)
def ND (r:Int×PS):Int×BA×Nat×Bool×RW:=(r.1,BR r.2.1,r.2.2.2.length,r.2.2.1,r.2.2.2.map qu)
def Xu (c:Nd):Prop:=(kd c).length<=2000/\c.2.2.2.2.1.size<=2000
structure Gd (p:PS):Prop where
 r:p.1.length<=1000
 n:p.2.2.length<=60
 s:∀x∈p.2.2,Xu x
theorem U9 (x:Nd) (p:PS) (h:p.2.2.length<=60):Ev (Eo · x.1 x.2.1 x.2.2.1 x.2.2.2.1 x.2.2.2.2.1 x.2.2.2.2.2.1 x.2.2.2.2.2.2.1 x.2.2.2.2.2.2.2.1 x.2.2.2.2.2.2.2.2.1 x.2.2.2.2.2.2.2.2.2.1 x.2.2.2.2.2.2.2.2.2.2.1 x.2.2.2.2.2.2.2.2.2.2.2.1 x.2.2.2.2.2.2.2.2.2.2.2.2.1 ((kd x).map Fg) (BR p.1) p.2.2.length p.2.1 (p.2.2.map qu)) (ND (IN x p)):=by
 obtain ⟨r,b,l⟩:=p;refine ⟨1,λn hn=>?_⟩;obtain ⟨m,rfl,hm⟩:=up1 hn
 replace h:l.length<=60:=h
 show Eo (m+1) _ _ _ _ _ _ _ _ _ _ _ _ _ _ (BR r) l.length b (l.map qu)=_;unfold IN;have w1:IntKind.i64.wrap (((l.length:Nat):Int)-1)=(l.length:Int)-1:=ql (by omega);have w2:IntKind.i64.wrap ((((l.length+1):Nat):Int)-1)=(l.length:Int):=by rw [ql (by omega)];omega
 cases b with
 |true=>
  rw [if_pos (.inl rfl)];refine qb rfl (qc rfl ?_);rw [qh,w1];rfl
 |false=>
  by_cases h6:60<=l.length
  ·rw [if_pos (.inr h6)];have d:decide (((l.length:Nat):Int)≥60)=true:=zC (by omega);refine qc rfl (qc (by rw [d];rfl) ?_);rw [qh,w1,d];rfl
  ·have hn:¬(((r,false,l):PS).2.1=true\/60<=((r,false,l):PS).2.2.length):=by
    intro hh;rcases hh with hh|hh
    ·exact absurd hh (by simp)
    ·exact h6 hh
   rw [if_neg hn];have d:decide (((l.length:Nat):Int)≥60)=false:=aA (by omega);refine qc rfl (qb (by rw [d];rfl) (qb rfl (qb (zC ⟨by simp,by decide,by decide,by simp;omega,rfl⟩) ?_)));rw [qh,w2,d];simp only [ND,List.map_append,zamO];rfl
theorem Qq (v:V3) (p:PS) (h:p.2.2.length<=60):Ev (EY · v.1 v.2.1 v.2.2 (BR p.1) p.2.2.length p.2.1 (p.2.2.map qu)) (ND (IN (nd1 v) p)):=by
 obtain ⟨n1,h1⟩:=U9 (nd1 v) p h;refine ⟨n1+1,λn hn=>?_⟩;obtain ⟨k,rfl,hm⟩:=up1 hn;exact qa (h1 k (by omega)) rfl
theorem M5 {x:Nd} {p:PS} (h:Gd p) (hx:Xu x):Gd (IN x p).2:=by
 unfold IN;split
 ·exact ⟨h.r,h.n,h.s⟩
 ·rename_i hh;refine ⟨h.r,?_,λy hy=>?_⟩
  ·have:¬60<=p.2.2.length:=λe=>hh (.inr e)
   simp;omega
  ·simp at hy;rcases hy with hy|rfl
   ·exact h.s _ hy
   ·exact hx
theorem Hr {w:LBy} {p:PS} (h:Gd p):Gd (qp w p).2:=by
 have:=PE w p;have h2:=EO p.1;have h3:=h.r;refine ⟨by omega,?_,?_⟩
 ·unfold qp;split<;>exact h.n
 ·unfold qp;split<;>exact h.s
theorem ML (w:LBy) (p:PS):Ev (D9 · (BR w) (BR p.1) p.2.2.length p.2.1 (p.2.2.map qu)) ((qp w p).1,Li (qp w p).2):=by
 obtain ⟨n1,h1⟩:=YJ w p.1 p.2.2.length p.2.1 (p.2.2.map qu);refine ⟨n1,λn hn=>?_⟩;have h1:=h1 n hn;unfold qp;by_cases h:sgn (tb p.1)=w
 ·simp only [h,if_true,decide_true] at h1;rw [if_pos h];exact h1
 ·simp only [h,if_false,decide_false] at h1;rw [if_neg h];exact h1
theorem Yv (p:PS) (h:p.1.length<=1000):Ev (Fw · (BR p.1) p.2.2.length p.2.1 (p.2.2.map qu)) (BR (wd (tb p.1)),Li (wr (tb p.1),p.2)):=ca p.1 _ _ _ h
theorem Yw (r:LBy):(wd r).length<=r.length:=by
 have:=congrArg List.length (wdr r);simp only [zamO] at this;omega
theorem ef (r:LBy) (h:r.length<=1000):Ev (Em · (BR (wd (tb r)))) (Ec (BR (wd (tb r)))):=NZ _ (by rw [qw];have:=Yw (tb r);have:=EO r;omega)
theorem pf (r:LBy) (h:r.length<=1000):Ev (EG · (BR (wd (tb r)))) (q7 (BR (wd (tb r)))):=NW _ (by rw [qw];have:=Yw (tb r);have:=EO r;omega)
theorem Zb (c:UInt8) (t:LBy):Lib.cut (c::t) [34]=if c=34 then ([],t,true) else (c::(Lib.cut t [34]).1,(Lib.cut t [34]).2.1,(Lib.cut t [34]).2.2):=by
 by_cases h:c=34
 ·subst h;rw [if_pos rfl];simp [Lib.cut,Lib.index,List.isPrefixOf]
 ·rw [if_neg h];have h':¬34=c:=λe=>h e.symm
  have g:=Lib.index_ge t [34];unfold Lib.cut;by_cases e:Lib.index t [34]= -1
  ·have:Lib.index (c::t) [34]= -1:=by simp [Lib.index,List.isPrefixOf,h',e]
   simp [this,e]
  ·have:Lib.index (c::t) [34]=Lib.index t [34]+1:=by simp [Lib.index,List.isPrefixOf,h',e]
   have p:0<=Lib.index t [34]:=by omega
   have p1:0<=Lib.index t [34]+1:=by omega
   have q:(Lib.index t [34]+1).toNat=(Lib.index t [34]).toNat+1:=by omega
   simp [this,p,p1,q]
theorem jn (acc t:LBy):GZ acc (34::34::t)=GZ (acc++ [34]) t:=(GZ.eq_def acc _).trans (by simp)
theorem jo (acc t:LBy) (h:t.head?≠some 34):GZ acc (34::t)=some (acc,t):=by
 refine (GZ.eq_def acc _).trans ?_;cases t with
 |nil=>simp
 |cons d t=>
  have:¬d=34:=λe=>h (by rw [e];rfl)
  simp [this]
theorem jp (acc t:LBy) {c:UInt8} (h:¬c=34):GZ acc (c::t)=GZ (acc++ [c]) t:=(GZ.eq_def acc _).trans (by simp only [if_neg h])
theorem up3 {n n0:Nat} (h:n0+3<=n):∃m,n=m+3/\n0<=m:=⟨n-3,by omega,by omega⟩
theorem YK:∀(r acc:LBy),GZ acc r=if (Lib.cut r [34]).2.2=true then (if (Lib.cut r [34]).2.1.head?=some 34 then GZ (acc++(Lib.cut r [34]).1++ [34]) (Lib.cut r [34]).2.1.tail else some (acc++(Lib.cut r [34]).1,(Lib.cut r [34]).2.1)) else none
 | [],acc=>by simp [GZ,Lib.cut,Lib.index]
 |c::t,acc=>by
  rw [Zb];by_cases h:c=34
  ·subst h;rw [if_pos rfl];by_cases e:t.head?=some 34
   ·obtain ⟨u,rfl⟩:∃u,t=34::u:=by
     cases t with
     |nil=>cases e
     |cons d u=>simp at e;subst e;exact ⟨u,rfl⟩
    rw [jn];simp
   ·rw [jo acc t e];simp [e]
  ·simp only [if_neg h];rw [jp acc t h,YK t (acc++ [c])];simp
theorem ae:∀r:LBy,(Lib.cut r [34]).1.length+(Lib.cut r [34]).2.1.length<=r.length/\((Lib.cut r [34]).2.2=true->(Lib.cut r [34]).2.1.length<r.length)
 | []=>by simp [Lib.cut,Lib.index]
 |c::t=>by
  rw [Zb];have ih:=ae t;split
  ·simp
  ·simp only [zamM];exact ⟨by omega,λh=>by have:=ih.2 h;omega⟩
theorem M6:∀(k:Nat) (acc r:LBy) {s t:LBy},r.length<=k->GZ acc r=some (s,t)->s.length<=acc.length+r.length+1
 |k,acc,[],s,t,hk,h=>by simp [GZ] at h
 |0,acc,c::r,s,t,hk,h=>by simp at hk
 |k+1,acc,c::r,s,t,hk,h=>by
  simp only [zamM] at hk;unfold GZ at h;split at h
  ·cases r with
   |nil=>
    simp at h;rw [<-h.1];simp;omega
   |cons d r'=>
    simp only at h;split at h
    ·have:=M6 k _ r' (by simp at hk;omega) h;simp at this⊢;omega
    ·simp at h;rw [<-h.1];simp;omega
  ·have:=M6 k _ r (by omega) h;simp at this⊢;omega
theorem mq (m:Nat) (r:LBy) (h:r.length<=1000):Ig (m+1) (BR r) ⟨#[34]⟩=some (BR (Lib.cut r [34]).1,BR (Lib.cut r [34]).2.1,(Lib.cut r [34]).2.2):=by
 show bE (BR r) ⟨#[34]⟩=_;unfold bE;rw [if_pos (by rw [qw];omega),<-zao (BR r),Ek];rfl
theorem VO (n:Nat) (orig:BA) (m:Nat) (b:Bool) (rows:RW):∀(k:Nat) (r acc:LBy) (M:Nat),r.length<=k->acc.length+r.length<=1000->k+1<=M->
  zF (IE (n+2)) M (BR acc,BR r,orig,m,b,rows)=some (match GZ acc r with
   |none=> .inl (-1,orig,m,true,rows)
   |some (s,t)=> .inr (BR s,BR t,orig,m,b,rows))
 |k,r,acc,0,h1,h2,h3=>by omega
 |k,r,acc,M+1,h1,h2,h3=>by
  have hc:=mq (n+1) r (by omega);have hl:=ae r;have hp:=GF n (Lib.cut r [34]).2.1 [34];rw [YK];cases hf:(Lib.cut r [34]).2.2 with
  |false=>
   rw [if_neg (by simp)];refine (qe (r:= .inl (-1,orig,m,true,rows)) ?_).trans rfl;refine qa hc (qb (by simp [hf]) rfl)
  |true=>
   rw [if_pos rfl];have hlt:=hl.2 hf;by_cases hh:(Lib.cut r [34]).2.1.head?=some 34
   ·rw [if_pos hh];have hb:List.isPrefixOf [34] (Lib.cut r [34]).2.1=true:=(Ie 34 _).2 hh;obtain ⟨u,hu⟩:∃u,(Lib.cut r [34]).2.1=34::u:=by
     cases e:(Lib.cut r [34]).2.1 with
     |nil=>rw [e] at hh;cases hh
     |cons c u=>rw [e] at hh;simp at hh;subst hh;exact ⟨u,rfl⟩
    rw [hb] at hp;rw [qm (v':=(BR (acc++(Lib.cut r [34]).1++ [34]),BR (Lib.cut r [34]).2.1.tail,orig,m,b,rows)) (by
     refine qa hc (qc (by simp [hf]) (qb (zC (by rw [qw,qw];omega)) (qa hp (qc rfl (qb (zC (by rw [U7,qw,zamO];show _+1<=9223372036854775807;omega)) (qb (zC ⟨by decide,by simp only [qw];rw [hu];simp;omega,by simp [qw]⟩) ?_))))));rw [qh];simp only [U7,qw,Ly];rw [hu];simp;exact (U7 (acc++(Lib.cut r [34]).1) [34]).trans (by rw [List.append_assoc]))]
    rw [hu] at hl hlt⊢;simp only [zamM] at hl hlt;refine VO n orig m b rows (k-1) _ _ M (by simp;omega) (by simp;omega) (by omega)
   ·rw [if_neg hh];have hb:List.isPrefixOf [34] (Lib.cut r [34]).2.1=false:=by
     rw [bX];intro e;exact hh ((Ie 34 _).1 e)
    rw [hb] at hp;refine (qe (r:= .inr (BR (acc++(Lib.cut r [34]).1),BR (Lib.cut r [34]).2.1,orig,m,b,rows)) ?_).trans rfl;refine qa hc (qc (by simp [hf]) (qb (zC (by rw [qw,qw];omega)) (qa hp (qb rfl ?_))));rw [qh,U7]
theorem cd (t:LBy) (b:Bool) (l:List Nd) (h:t.length<=999) (hl:l.length<=60):Ev (Iz · (BR (34::t)) l.length b (l.map qu)) (ND (match GZ [] t with
   |none=>(-1,34::t,true,l)
   |some (s,t')=>IN (nd1 (2,0,BR s)) (t',b,l))):=by
 have lp:=λn M (hM:t.length+1<=M)=>VO n (BR (34::t)) l.length b (l.map qu) t.length t [] M (zH _) (by simp;omega) hM
 cases hq:GZ [] t with
 |none=>
  refine ⟨t.length+1+3,λn hn=>?_⟩;obtain ⟨m,rfl,hm⟩:=up3 hn;have lp:=lp m (m+2) (by omega);rw [hq] at lp;refine qb (zC ⟨by decide,by rw [qw];simp;omega,Int.le_refl _⟩) ?_;have e:(BR (34::t)).extract ((1:Int)).toNat ((((BR (34::t)).size:Nat):Int)).toNat=BR t:=by rw [Ly,qw];simp
  rw [e];exact qa lp rfl
 |some st=>
  obtain ⟨s,t'⟩:=st;obtain ⟨n1,h1⟩:=Qq (2,0,BR s) (t',b,l) hl;refine ⟨n1+t.length+1+3,λn hn=>?_⟩;obtain ⟨m,rfl,hm⟩:=up3 hn;have lp:=lp m (m+2) (by omega);rw [hq] at lp;refine qb (zC ⟨by decide,by rw [qw];simp;omega,Int.le_refl _⟩) ?_;have e:(BR (34::t)).extract ((1:Int)).toNat ((((BR (34::t)).size:Nat):Int)).toNat=BR t:=by rw [Ly,qw];simp
  rw [e];exact qa lp (qa (h1 (m+2) (by omega)) rfl)
theorem jq (m:Nat) (r:LBy) (w:BA):EX (m+1) (BR r) w=some (BR (if w.toList.isPrefixOf r=true then r.drop w.size else r),w.toList.isPrefixOf r):=by
 show zy (BR r) w=_;unfold zy Lib.trimPrefix Lib.hasPrefix;rw [<-zao (BR r),<-zao w,Ek,EA];rfl
theorem Zc {n:Nat} (deep:Int) (r:LBy) (b:Bool) (l:List Nd)
  (h1:∀i,0<=i/\i<=5->FB n i=some (qq i)) (h2:∀i,1<=i/\i<=5->Ge n i=some (4,i,em))
  (h3:∀w,EX n (BR r) w=some (BR (if w.toList.isPrefixOf r=true then r.drop w.size else r),w.toList.isPrefixOf r))
  (h4:∀i,1<=i/\i<=5->EY n 4 i em (BR (r.drop (qq i).size)) l.length b (l.map qu)=some (ND (IN (nd1 (4,i,em)) (r.drop (qq i).size,b,l)))):
  ∀(k:Nat) (i:Int) (M:Nat),1<=i->i+k=6->k+1<=M->zF (G1 n) M (deep,i,BR r,l.length,b,l.map qu)=some (match Nc r i k with
   |some e=> .inl (ND (IN (nd1 (4,e,em)) (r.drop (qq e).size,b,l)))
   |none=> .inr (deep,BR r,l.length,b,l.map qu))
 |k,i,0,_,_,h=>by omega
 |0,i,M+1,hi,hk,h=>by
  rw [qe (r:= .inr (deep,BR r,l.length,b,l.map qu)) (by exact qc (aA (show ¬i<=5 by omega)) rfl)];rfl
 |k+1,i,M+1,hi,hk,h=>by
  have hi5:1<=i/\i<=5:=⟨hi,by omega⟩;have c:=h3 (qq i);cases hq:(qq i).toList.isPrefixOf r with
  |true=>
   rw [hq,if_pos rfl] at c;unfold Nc;rw [if_pos hq];refine qe (qb (zC (show i<=5 by omega)) (qa (h1 i ⟨by omega,by omega⟩) (qa c (qb rfl (qa (h2 i hi5) (qa (h4 i hi5) rfl))))))
  |false=>
   rw [hq,if_neg (by simp)] at c;unfold Nc;rw [if_neg (by rw [hq];simp)];have w1:IntKind.i64.wrap (i+1)=i+1:=ql (by omega);rw [qm (v':=(deep,i+1,BR r,l.length,b,l.map qu)) (by refine qb (zC (show i<=5 by omega)) (qa (h1 i ⟨by omega,by omega⟩) (qa c (qc rfl ?_)));rw [qh,w1])];exact Zc deep r b l h1 h2 h3 h4 k (i+1) M (by omega) (by omega) (by omega)
theorem mr (deep:Int) (r:LBy) (b:Bool) (l:List Nd) (hl:l.length<=60):∃n0,∀n,n0<=n->∀M,n0<=M->zF (G1 n) M (deep,1,BR r,l.length,b,l.map qu)=some (match Nc r 1 5 with
   |some e=> .inl (ND (IN (nd1 (4,e,em)) (r.drop (qq e).size,b,l)))
   |none=> .inr (deep,BR r,l.length,b,l.map qu)):=by
 obtain ⟨n1,h1⟩:=MJ (F:=FB) (f:=qq) (lo:=0) (by decide) Km;obtain ⟨n2,h2⟩:=MJ (F:=Ge) (f:=λi=>(4,i,em)) (lo:=1) (by decide) (λi _=>Rs i);obtain ⟨n4,h4⟩:=MJ (F:=λn i=>EY n 4 i em (BR (r.drop (qq i).size)) l.length b (l.map qu)) (f:=λi=>ND (IN (nd1 (4,i,em)) (r.drop (qq i).size,b,l))) (lo:=1) (by decide) (λi _=>Qq (4,i,em) (r.drop (qq i).size,b,l) hl);refine ⟨n1+n2+n4+7,λn hn M hM=>?_⟩;exact Zc deep r b l (h1 n (by omega)) (h2 n (by omega)) (λw=>by
  obtain ⟨m,rfl,_⟩:=up1 (show n1+1<=n by omega);exact jq m r w) (h4 n (by omega)) 5 1 M (by omega) (by omega) (by omega)
theorem af {g:G_impl_reader_binary} {n:Nat} (deep:Int) (w:LBy) (p:PS) (res:Int->Int×PS) (h1:∀i,1<=i/\i<=10->G5 n i=some (fnS i)):
  ∀(k:Nat) (i:Int) (M:Nat),1<=i->i+k=11->k+1<=M->(∀op,Lg w i k=some op->g.impl_reader_call op deep (BR p.1) p.2.2.length p.2.1 (p.2.2.map qu)=some (ND (res op)))->
   zF (FF g n) M (deep,BR w,i,BR p.1,p.2.2.length,p.2.1,p.2.2.map qu)=some (match Lg w i k with
   |some op=> .inl (ND (res op))
   |none=> .inr (Li p))
 |k,i,0,_,_,h,_=>by omega
 |0,i,M+1,hi,hk,h,_=>by
  rw [qe (r:= .inr (Li p)) (by exact qc (aA (show ¬i<=10 by omega)) rfl)];rfl
 |k+1,i,M+1,hi,hk,h,hc=>by
  unfold Lg at hc⊢;by_cases hq:(fnS i).toList=w
  ·rw [if_pos hq] at hc⊢;refine qe (qb (zC (show i<=10 by omega)) (qa (h1 i ⟨hi,by omega⟩) (qb (by simp [Ek,hq]) (qa (hc i rfl) rfl))))
  ·rw [if_neg hq] at hc⊢;have w1:IntKind.i64.wrap (i+1)=i+1:=ql (by omega);have hq':¬w=(fnS i).toList:=λe=>hq e.symm
   rw [qm (v':=(deep,BR w,i+1,BR p.1,p.2.2.length,p.2.1,p.2.2.map qu)) (by refine qb (zC (show i<=10 by omega)) (qa (h1 i ⟨hi,by omega⟩) (qc (by simp [Ek,hq']) ?_));rw [qh,w1])];exact af deep w p res h1 k (i+1) M (by omega) (by omega) (by omega) hc
theorem mu:∃n0,∀n,n0<=n->∀i,1<=i/\i<=10->G5 n i=some (fnS i):=by
 obtain ⟨n1,h1⟩:=FJ (F:=λ(i:Nat) n=>G5 n ((i:Int)+1)) (f:=λi=>fnS ((i:Int)+1)) (List.range 10) (λi hi=>Qm _ (by have:=List.mem_range.1 hi;omega));refine ⟨n1,λn hn i hi=>?_⟩;have:=h1 n hn (i-1).toNat (List.mem_range.2 (by omega))
 rwa [show (((i-1).toNat:Nat):Int)+1=i by omega] at this
theorem mw:∃n0,∀n,n0<=n->∀i,1<=i/\i<=11->F4 n i=some (D5 i):=by
 obtain ⟨n1,h1⟩:=FJ (F:=λ(i:Nat) n=>F4 n ((i:Int)+1)) (f:=λi=>D5 ((i:Int)+1)) (List.range 11) (λi hi=>M3 _ (by have:=List.mem_range.1 hi;omega));refine ⟨n1,λn hn i hi=>?_⟩;have:=h1 n hn (i-1).toNat (List.mem_range.2 (by omega))
 rwa [show (((i-1).toNat:Nat):Int)+1=i by omega] at this
def opF (s:LBy):Int->Int->Nat->Int
 |op,_,0=>op
 |op,i,k+1=>opF s (if s=(D5 i).toList then i else op) (i+1) k
theorem my (r:LBy):opF (sgn r) 0 1 11=Er r:=by
 unfold Er;generalize sgn r=s;by_cases h1:s= [43]; · subst h1;decide+kernel
 by_cases h2:s= [45]; · subst h2;decide+kernel
 by_cases h3:s= [42]; · subst h3;decide+kernel
 by_cases h4:s= [47]; · subst h4;decide+kernel
 by_cases h5:s= [38]; · subst h5;decide+kernel
 by_cases h6:s= [61]; · subst h6;decide+kernel
 by_cases h7:s= [60,62]; · subst h7;decide+kernel
 by_cases h8:s= [60]; · subst h8;decide+kernel
 by_cases h9:s= [60,61]; · subst h9;decide+kernel
 by_cases h10:s= [62]; · subst h10;decide+kernel
 by_cases h11:s= [62,61]; · subst h11;decide+kernel
 rw [if_neg h1,if_neg h2,if_neg h3,if_neg h4,if_neg h5,if_neg h6,if_neg h7,if_neg h8,if_neg h9,if_neg h10,if_neg h11];rw [<-sg1] at h1;rw [<-sg2] at h2;rw [<-sg3] at h3;rw [<-sg4] at h4;rw [<-sg5] at h5;rw [<-sg6] at h6;rw [<-sg7] at h7;rw [<-sg8] at h8;rw [<-sg9] at h9;rw [<-f4] at h10;rw [<-f5] at h11;simp only [opF,if_neg h1];simp only [show (1:Int)+1=2 from rfl,if_neg h2,show (2:Int)+1=3 from rfl,if_neg h3,show (3:Int)+1=4 from rfl,if_neg h4,show (4:Int)+1=5 from rfl,if_neg h5,show (5:Int)+1=6 from rfl,if_neg h6,show (6:Int)+1=7 from rfl,if_neg h7,show (7:Int)+1=8 from rfl,if_neg h8,show (8:Int)+1=9 from rfl,if_neg h9,show (9:Int)+1=10 from rfl,if_neg h10,show (10:Int)+1=11 from rfl,if_neg h11]
theorem Zd {n:Nat} (least deep a op i:Int) (r R:LBy) (m:Nat) (b:Bool) (rows:RW) (hi:1<=i/\i<=11)
  (h1:GQ n (BR r) m b rows=some (BR (sgn R),BR R,m,b,rows)) (h2:F4 n i=some (D5 i)):
  (Fq n (least,deep,a,op,i,BR r,m,b,rows)).run=some (.inl (least,deep,a,if sgn R=(D5 i).toList then i else op,i+1,BR R,m,b,rows)):=by
 have w1:IntKind.i64.wrap (i+1)=i+1:=ql (by omega);refine qb (zC (show i<=11 by omega)) (qa h1 (qa h2 ?_));by_cases hq:sgn R=(D5 i).toList
 ·rw [if_pos hq];exact qb (by simp [Ek,hq]) (by rw [qh,w1])
 ·rw [if_neg hq];exact qc (by simp [Ek,hq]) (by rw [qh,w1])
theorem Ze {n:Nat} (least deep a:Int) (R:LBy) (m:Nat) (b:Bool) (rows:RW)
  (h1:GQ n (BR R) m b rows=some (BR (sgn R),BR R,m,b,rows)) (h2:∀i,1<=i/\i<=11->F4 n i=some (D5 i)):
  ∀(k:Nat) (op i:Int) (M:Nat),1<=i->i+k=12->k+1<=M->zF (Fq n) M (least,deep,a,op,i,BR R,m,b,rows)=some (least,deep,a,opF (sgn R) op i k,BR R,m,b,rows)
 |k,op,i,0,_,_,h=>by omega
 |0,op,i,M+1,hi,hk,h=>by
  rw [qe (r:=(least,deep,a,op,BR R,m,b,rows)) (by exact qc (aA (show ¬i<=11 by omega)) rfl)];rfl
 |k+1,op,i,M+1,hi,hk,h=>by
  rw [qm (Zd least deep a op i R R m b rows ⟨hi,by omega⟩ h1 (h2 i ⟨hi,by omega⟩))];exact Ze least deep a R m b rows h1 h2 k _ (i+1) M (by omega) (by omega) (by omega)
theorem jr (least deep a:Int) (r:LBy) (m:Nat) (b:Bool) (rows:RW):∃n0,∀n,n0<=n->∀M,n0<=M->zF (Fq n) M (least,deep,a,0,1,BR r,m,b,rows)=some (least,deep,a,Er (tb r),BR (tb r),m,b,rows):=by
 obtain ⟨n1,h1⟩:=U8 r m b rows;obtain ⟨n2,h2⟩:=U8 (tb r) m b rows;obtain ⟨n3,h3⟩:=mw;refine ⟨n1+n2+n3+20,λn hn M hM=>?_⟩;obtain ⟨M,rfl,hM⟩:=up1 hM;have h2:=h2 n (by omega);rw [HS] at h2;rw [qm (Zd least deep a 0 1 r (tb r) m b rows (by omega) (h1 n (by omega)) (h3 n (by omega) 1 (by omega)))];rw [show (1:Int)+1=2 from rfl,Ze least deep a (tb r) m b rows h2 (h3 n (by omega)) 10 _ 2 M (by omega) (by omega) (by omega),<-my];rfl
theorem ag {p:PS} (h:Gd p):Gd (FV p).2/\(FV p).2.1.length<=p.1.length/\∀x,(FV p).1=some x->Xu x:=by
 have h1:=EO p.1;have h2:=M4 (tb p.1);have h0:=h.r;unfold FV;simp only;split
 ·have h3:=PE [58] (wr (tb p.1),p.2);have h4:=EO (qp [58] (wr (tb p.1),p.2)).2.1;have h5:=M4 (tb (qp [58] (wr (tb p.1),p.2)).2.1);have h6:=EO (wr (tb p.1));have e:(qp [58] (wr (tb p.1),p.2)).2.2.2=p.2.2:=by unfold qp;split<;>rfl
  simp only at h3;refine ⟨⟨by simp only;omega,by rw [e];exact h.n,by rw [e];exact h.s⟩,by simp only;omega,λx hx=>?_⟩;cases hx;exact ⟨by simp [kd,ndA],by simp [ndA,em];decide⟩
 ·exact ⟨h,zH _,λx hx=>by cases hx⟩
theorem js (p:PS) (h:p.1.length<=1000):∃x:Nd,(∀y,(FV p).1=some y->x=y)/\Ev (IU · (BR p.1) p.2.2.length p.2.1 (p.2.2.map qu)) (x.1,x.2.1,x.2.2.1,x.2.2.2.1,x.2.2.2.2.1,x.2.2.2.2.2.1,x.2.2.2.2.2.2.1,x.2.2.2.2.2.2.2.1,x.2.2.2.2.2.2.2.2.1,x.2.2.2.2.2.2.2.2.2.1,x.2.2.2.2.2.2.2.2.2.2.1,x.2.2.2.2.2.2.2.2.2.2.2.1,x.2.2.2.2.2.2.2.2.2.2.2.2.1,(kd x).map Fg,(FV p).1.isSome,Li (FV p).2):=by
 have l1:=EO p.1;have l2:=M4 (tb p.1);have l3:=PE [58] (wr (tb p.1),p.2);have l6:=EO (wr (tb p.1));simp only at l3;obtain ⟨n1,h1⟩:=Yv p h;obtain ⟨n2,h2⟩:=ef p.1 h;obtain ⟨n3,h3⟩:=ML [58] (wr (tb p.1),p.2);have hle:(qp [58] (wr (tb p.1),p.2)).2.1.length<=1000:=by omega
 obtain ⟨n4,h4⟩:=Yv (qp [58] (wr (tb p.1),p.2)).2 hle;obtain ⟨n5,h5⟩:=ef (qp [58] (wr (tb p.1),p.2)).2.1 hle;have e:(qp [58] (wr (tb p.1),p.2)).2.2=p.2:=by unfold qp;split<;>rfl
 unfold FV;simp only;by_cases hc:(Ec (BR (wd (tb p.1)))).2.2.2.2=true/\(qp [58] (wr (tb p.1),p.2)).1=true
 ·rw [if_pos hc];refine ⟨_,λy hy=>by cases hy;rfl,n1+n2+n3+n4+n5+1,λn hn=>?_⟩;obtain ⟨k,rfl,hm⟩:=up1 hn;refine qa (h1 k (by omega)) (qa (h2 k (by omega)) (qb hc.1 (qa (h3 k (by omega)) (qc (by simp only;rw [hc.2];rfl) (qa (h4 k (by omega)) (qa (h5 k (by omega)) ?_))))));cases hb:(qp [58] (wr (tb p.1),p.2)).2.2.1 with
  |true=>
   refine qb hb ?_;rw [qh];rfl
  |false=>
   refine qc hb ?_;rw [qh];rfl
 ·rw [if_neg hc];refine ⟨(0,0,0,0,⟨#[]⟩,0,0,false,false,0,0,false,false,[]),λy hy=>(by cases hy),n1+n2+n3+1,λn hn=>?_⟩;obtain ⟨k,rfl,hm⟩:=up1 hn;cases hr:(Ec (BR (wd (tb p.1)))).2.2.2.2 with
  |false=>exact qa (h1 k (by omega)) (qa (h2 k (by omega)) (qc hr rfl))
  |true=>
   have ht:(qp [58] (wr (tb p.1),p.2)).1=false:=by
    rw [bX];exact λe=>hc ⟨hr,e⟩
   refine qa (h1 k (by omega)) (qa (h2 k (by omega)) (qb hr (qa (h3 k (by omega)) (qb (by simp only;rw [ht];rfl) ?_))));rw [qh];simp only [Li,e];rfl
theorem Qr {s:BA} (h:(q7 s).2.2.2=true) (hk:(q7 s).1=1\/(q7 s).1=3):(q7 s).2.2.1.size<=2000:=by
 unfold q7 at h hk⊢;split at h
 ·rename_i hc;rw [if_pos hc] at hk⊢;have h1:=hc.1;unfold okV at h1;have h2:¬(FS s).1=2:=by
   simp only at hk;omega
  rw [if_neg h2] at h1;simp only [zL,zanG] at h1;have:=congrArg List.length h1.1;rw [EA] at this;have h0:(FS s).2.2.size=0:=this;show (FS s).2.2.size<=2000;omega
 ·cases h
def Kj:PJ->PS->Prop
 | .args _ _ kids,p=>kids.length+p.1.length<=1500
 |_,_=>True
theorem Q2 {w:LBy} {p:PS} (h:Gd p):Gd (G0 w p)/\(G0 w p).1.length<=p.1.length:=by
 have h1:=PE w p;have h2:=EO p.1;unfold G0;split
 ·exact ⟨h,zH _⟩
 ·split
  ·exact ⟨Hr h,by omega⟩
  ·exact ⟨⟨(Hr h).r,(Hr h).n,(Hr h).s⟩,by show (qp w p).2.1.length<=_;omega⟩
theorem Tk {p:PS} {r:LBy} (h:Gd p) (hr:r.length<=p.1.length):Gd (r,p.2):=⟨by have:=h.r;simp only;omega,h.n,h.s⟩
end Go.Proofs.YtilkdjfhbahhdabGreatDoor.KFnMacroTexts

