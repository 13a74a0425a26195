import Derived.Test.YtilkdjfhbahhdaaTFnExactClosed
import Derived.Test.YtilkdjfhbahhdaaE34
import Derived.Lib.Strings
namespace Go.Proofs.Ytilkdjfhbahhdaa.KFnExactClosed
open Go.Eng
set_option linter.unusedVariables false
set_option linter.unusedSimpArgs false
abbrev zao:= @Go.Lib.toList_data
def Ev {R:Type} (F:Nat->Option R) (r:R):Prop:=∃n0,∀n,n0<=n->F n=some r
theorem J6 (s:BA):s.toList.length=s.size:=by rw [zao];rfl
theorem Gr:(ByteArray.mk #[]).toList= []:=by decide+kernel
theorem qp {x:Int} (h: -9223372036854775808<=x/\x<=9223372036854775807):IntKind.i64.wrap x=x:=by
 unfold IntKind.wrap;have e1:(2:Int)^(64-1)=9223372036854775808:=by decide
 have e2:(2:Int)^64=18446744073709551616:=by decide
 simp only [IntKind.signed,IntKind.bits,Bool.true_and,dQ,e1,e2];split<;>omega
theorem JO {s:BA} {i:Nat} (h:i<s.size):∃c,s.toList[i]?=some c:=⟨_,zZ (by rw [J6];exact h)⟩
theorem GJ {α:Type} {s:List α} {i:Nat} {c:α} (h:s[i]?=some c):s.drop i=c::s.drop (i+1):=by
 obtain ⟨h1,rfl⟩:=zamJ.1 h;exact List.drop_eq_getElem_cons h1
theorem CU {V R:Type} {B:V->Tr (V⊕R)} {m:Nat} {v v':V} (h:(B v).run=some (.inl v')):zO B (m+1) v=zO B m v':=by simp only [zO,h]
theorem qe {V R:Type} {B:V->Tr (V⊕R)} {m:Nat} {v:V} {r:R} (h:(B v).run=some (.inr r)):zO B (m+1) v=some r:=by simp only [zO,h]
theorem up1 {n n0:Nat} (h:n0+1<=n):∃m,n=m+1/\n0<=m:=⟨n-1,by omega,by omega⟩
theorem KN {α:Type} (x:α):(Tr.done x).run=some x:=rfl
theorem KQ {α:Type}:(Tr.fail:Tr α).run=none:=rfl
theorem KW {α:Type} (b:Bool) (t f:Tr α):(Tr.ask b t f).run=if b=true then t.run else f.run:=by cases b<;>rfl
theorem KY {α β:Type} (o:Option β) (k:β->Tr α):(Tr.opt o k).run=o.bind λx=>(k x).run:=by cases o<;>rfl
theorem KZ {α β γ:Type} (x:β) (k:β->Tr α) (l:γ->Tr α):(Tr.alt (.inl x) k l).run=(k x).run:=rfl
theorem Ka {α β γ:Type} (x:γ) (k:β->Tr α) (l:γ->Tr α):(Tr.alt (.inr x) k l).run=(l x).run:=rfl
theorem DX {α R:Type} {F:α->Nat->Option R} {f:α->R}:∀(l:List α),(∀c∈l,Ev (F c) (f c))->∃n0,∀n,n0<=n->∀c∈l,F c n=some (f c)
 | [],_=>⟨0,λn _ c hc=>by cases hc⟩
 |a::l,h=>by
  obtain ⟨n1,h1⟩:=h a (zamN ..);obtain ⟨n2,h2⟩:=DX l λc hc=>h c (zamR _ hc)
  exact ⟨n1+n2,λn hn c hc=>by
   rcases zamT.1 hc with rfl|hc
   ·exact h1 n (by omega)
   ·exact h2 n (by omega) c hc⟩
theorem JP {R:Type} {B:List (List PV)×Nat×Int×List (List PV)->Tr ((List (List PV)×Nat×Int×List (List PV))⊕R)} {rows:List (List PV)} {z:List PV} {r:List (List PV)->R}
  (hs:∀(i:Nat) (acc:List (List PV)) (e:List PV),rows[i]?=some e->acc.length=rows.length->acc[i]?=some z->(B (rows,rows.length,(i:Int),acc)).run=some (.inl (rows,rows.length,((i+1:Nat):Int),acc.set i e)))
  (he:∀acc:List (List PV),acc.length=rows.length->(B (rows,rows.length,(rows.length:Int),acc)).run=some (.inr (r acc))):
  ∀(m i M:Nat),rows.length=i+m->m+1<=M->zO B M (rows,rows.length,(i:Int),rows.take i++bD z m)=some (r rows)
 |m,i,0,h1,h2=>by omega
 |0,i,M+1,h1,h2=>by
  have hi:i=rows.length:=by omega
  subst hi;have e:rows.take rows.length++bD z 0=rows:=by simp [bD]
  rw [e,qe (he rows rfl)]
 |m+1,i,M+1,h1,h2=>by
  have hl:i<rows.length:=by omega
  have hg:=zZ hl;have hlen:(rows.take i++bD z (m+1)).length=rows.length:=by simp [bD];omega
  have hz:(rows.take i++bD z (m+1))[i]?=some z:=by
   rw [zanB (by simp;omega)];simp [bD,Nat.min_eq_left (Nat.le_of_lt hl)]
  rw [CU (hs i _ _ hg hlen hz)];have e:(rows.take i++bD z (m+1)).set i rows[i]=rows.take (i+1)++bD z m:=by
   have hx:bD z (m+1)=z::bD z m:=by simp [bD,List.replicate_succ]
   rw [hx,List.set_append_right (h:=by simp;omega)];have:i-(rows.take i).length=0:=by simp;omega
   rw [this,List.set_cons_zero,show rows.take (i+1)=rows.take i++ [rows[i]] from by rw [List.take_add_one,hg];rfl,List.append_assoc];rfl
  rw [e];exact JP hs he m (i+1) M (by omega) (by omega)
theorem Jm {R:Type} {B:List (List PV)×Nat×Int×List (List PV)->Tr ((List (List PV)×Nat×Int×List (List PV))⊕R)} {rows:List (List PV)} {z:List PV} {r:List (List PV)->R} {M:Nat}
  (hs:∀(i:Nat) (acc:List (List PV)) (e:List PV),rows[i]?=some e->acc.length=rows.length->acc[i]?=some z->(B (rows,rows.length,(i:Int),acc)).run=some (.inl (rows,rows.length,((i+1:Nat):Int),acc.set i e)))
  (he:∀acc:List (List PV),acc.length=rows.length->(B (rows,rows.length,(rows.length:Int),acc)).run=some (.inr (r acc))) (hM:rows.length+1<=M):
  zO B M (rows,rows.length,0,bD z rows.length)=some (r rows):=by
 have:=JP (B:=B) hs he rows.length 0 M (by omega) hM;simpa using this
theorem Jf {R:Type} {B:List (List PV)×List (List PV)×Int->Tr ((List (List PV)×List (List PV)×Int)⊕R)} {rows:List (List PV)} {r:R}
  (hs:∀(i:Nat) (e:List PV),rows[i]?=some e->(B (rows,rows,(i:Int))).run=some (.inl (rows,rows,((i+1:Nat):Int)))) (he:(B (rows,rows,(rows.length:Int))).run=some (.inr r)):
  ∀(m i M:Nat),rows.length=i+m->m+1<=M->zO B M (rows,rows,(i:Int))=some r
 |m,i,0,h1,h2=>by omega
 |0,i,M+1,h1,h2=>by
  have hi:i=rows.length:=by omega
  subst hi;rw [qe he]
 |m+1,i,M+1,h1,h2=>by
  have hg:=zZ (l:=rows) (i:=i) (by omega);rw [CU (hs i _ hg)];exact Jf hs he m (i+1) M (by omega) (by omega)
theorem Ik {α:Type} {enc:α->List PV} {P:α->Prop} {sh:List Sh} (hd:∀e,okR sh e->∃a,e=enc a/\P a):∀{rows:List (List PV)},(∀e∈rows,okR sh e)->∃l:List α,rows=l.map enc/\∀a∈l,P a
 | [],_=>⟨[],rfl,λa h=>by cases h⟩
 |e::rows,h=>by
  obtain ⟨a,rfl,ha⟩:=hd e (h e (zamN ..));obtain ⟨l,rfl,hl⟩:=Ik hd λe he=>h e (zamR _ he)
  exact ⟨a::l,rfl,λb hb=>by
   rcases zamT.1 hb with rfl|hb
   ·exact ha
   ·exact hl b hb⟩
theorem qa {α β:Type} {o:Option β} {x:β} {k:β->Tr α} {y:Option α} (h:o=some x) (h2:(k x).run=y):(Tr.opt o k).run=y:=by rw [h];exact h2
theorem qc {α:Type} {b:Bool} {t f:Tr α} {y:Option α} (h:b=true) (h2:t.run=y):(Tr.ask b t f).run=y:=by rw [h];exact h2
theorem qm {α:Type} {b:Bool} {t f:Tr α} {y:Option α} (h:b=false) (h2:f.run=y):(Tr.ask b t f).run=y:=by rw [h];exact h2
theorem G3 (b:Bool):zd (⟨(.c (.p (.b b))),[],[]⟩:Res)=true:=rfl
theorem Jg (x:Int):zd (⟨(.c (.p (.i .i64 x))),[],[]⟩:Res)=true:=rfl
theorem Kb (x:BA):zd (⟨(.c (.p (.s x))),[],[]⟩:Res)=true:=rfl
abbrev qj:=And.intro @KN (And.intro @KQ (And.intro @KW (And.intro @KY (And.intro @KZ (And.intro @Ka (And.intro @zw.{0,0} (And.intro @G3 (And.intro @Jg (@Kb)))))))))
theorem Cw (x lo hi:Int):Ev (q9 · x lo hi) (decide (lo<=x/\x<=hi)):=by
 refine ⟨1,λn hn=>?_⟩;obtain ⟨m,rfl,hm⟩:=up1 hn;simp only [q9,E4,qj];by_cases h:x≥lo<;>simp [h]
theorem qv (x lo hi:Int):Ev (qo · x lo hi) (decide (lo<=x/\x<=hi)):=by
 refine ⟨1,λn hn=>?_⟩;obtain ⟨m,rfl,hm⟩:=up1 hn;simp only [qo,FP,qj];by_cases h:x≥lo<;>simp [h]
def okc (c:UInt8):Bool:=decide (32<=c.toNat/\c.toNat<=126)
def Gs (s:BA) (most:Int):Bool:=s.toList.all okc&&decide ((s.size:Int)<=most)
def okV (k n:Int) (s:BA):Bool:=
 if k=2 then decide (n=0)&&Gs s 200 else (s.toList== [])&&(if k=0 then decide (n=0) else if k=1 then decide (-1000000000000000<=n/\n<=1000000000000000) else if k=3 then decide (0<=n/\n<=1) else if k=4 then decide (1<=n/\n<=5) else false)
theorem G4 (n:Nat) (s:BA) (hb:s.size<=140737488355328):∀(m i M:Nat),s.size=i+m->m+1<=M->
  zO (CY n) M (s,(i:Int))=some (if (s.toList.drop i).all okc then .inr s else .inl false)
 |m,i,0,h1,h2=>by omega
 |0,i,M+1,h1,h2=>by
  rw [qe (r:= .inr s) (by simp [CY,qj,show ¬((i:Int)<s.size) by omega])];rw [List.drop_eq_nil_of_le (by rw [J6];omega)];rfl
 |m+1,i,M+1,h1,h2=>by
  obtain ⟨c,hc⟩:=JO (s:=s) (i:=i) (by omega);have hi:(i:Int)<s.size:=by omega
  rw [GJ hc];by_cases c1:(c.toNat:Int)<32
  ·rw [qe (r:= .inl false) (by simp [CY,qj,hi,hc,c1])];have:okc c=false:=by simp [okc];omega
   simp [this]
  ·by_cases c2:(c.toNat:Int)>126
   ·rw [qe (r:= .inl false) (by simp [CY,qj,hi,hc,c1,c2])];have:okc c=false:=by simp [okc];omega
    simp [this]
   ·have hw:IntKind.i64.wrap ((i:Int)+1)=((i+1:Nat):Int):=by rw [qp (by omega)];omega
    rw [CU (v':=(s,((i+1:Nat):Int))) (by simp [CY,qj,hi,hc,c1,c2,hw])];rw [G4 n s hb m (i+1) M (by omega) (by omega)];have:okc c=true:=by simp [okc];omega
    simp [this]
theorem HR (s:BA) (hb:s.size<=140737488355328):Ev (Da · s) (Gs s 200):=by
 refine ⟨s.size+2,λn hn=>?_⟩;obtain ⟨m,rfl,hm⟩:=up1 hn;have h:=G4 m s hb s.size 0 m (by omega) (by omega);simp only [Da,Ep,qj];simp only [Int.natCast_zero,List.drop_zero] at h;rw [h];cases hc:s.toList.all okc<;>simp [qj,Gs,hc]
theorem H5 (s:BA) (hb:s.size<=140737488351232):Ev (Da · s) (Gs s 200):=HR s (by omega)
theorem Hc (n:Nat) (s:BA) (y:Int) (hb:s.size<=140737488355328):∀(m i M:Nat),s.size=i+m->m+1<=M->
  zO (Cs n) M (s,y,(s.size:Int),(i:Int))=some (if (s.toList.drop i).all okc then .inr (s,y) else .inl false)
 |m,i,0,h1,h2=>by omega
 |0,i,M+1,h1,h2=>by
  rw [qe (r:= .inr (s,y)) (by simp [Cs,qj,show ¬((i:Int)<s.size) by omega])];rw [List.drop_eq_nil_of_le (by rw [J6];omega)];rfl
 |m+1,i,M+1,h1,h2=>by
  obtain ⟨c,hc⟩:=JO (s:=s) (i:=i) (by omega);have hi:(i:Int)<s.size:=by omega
  rw [GJ hc];by_cases c1:(c.toNat:Int)<32
  ·rw [qe (r:= .inl false) (by simp [Cs,qj,hi,hc,c1])];have:okc c=false:=by simp [okc];omega
   simp [this]
  ·by_cases c2:(c.toNat:Int)>126
   ·rw [qe (r:= .inl false) (by simp [Cs,qj,hi,hc,c1,c2])];have:okc c=false:=by simp [okc];omega
    simp [this]
   ·have hw:IntKind.i64.wrap ((i:Int)+1)=((i+1:Nat):Int):=by rw [qp (by omega)];omega
    rw [CU (v':=(s,y,(s.size:Int),((i+1:Nat):Int))) (by simp [Cs,qj,hi,hc,c1,c2,hw])];rw [Hc n s y hb m (i+1) M (by omega) (by omega)];have:okc c=true:=by simp [okc];omega
    simp [this]
theorem H6 (s:BA) (y:Int) (hb:s.size<=140737488355328):Ev (Dn · s y) (Gs s y):=by
 refine ⟨s.size+2,λn hn=>?_⟩;obtain ⟨m,rfl,hm⟩:=up1 hn;have h:=Hc m s y hb s.size 0 m (by omega) (by omega);simp only [Dn,FQ,qj];simp only [Int.natCast_zero,List.drop_zero] at h;rw [h];cases hc:s.toList.all okc<;>simp [qj,Gs,hc]
theorem Il (s:BA) (y:Int) (hb:s.size<=140737488351232):Ev (Dn · s y) (Gs s y):=H6 s y (by omega)
theorem H7 (k x:Int) (s:BA) (hb:s.size<=140737488351232):Ev (D5 · k x s) (okV k x s):=by
 obtain ⟨n1,h1⟩:=Cw x (-1000000000000000) 1000000000000000;obtain ⟨n2,h2⟩:=Cw x 0 1;obtain ⟨n3,h3⟩:=Cw x 1 5;obtain ⟨n4,h4⟩:=H5 s hb;refine ⟨n1+n2+n3+n4+1,λn hn=>?_⟩;obtain ⟨m,rfl,hm⟩:=up1 hn;have h1:=h1 m (by omega);dsimp only at h1;have h2:=h2 m (by omega);dsimp only at h2;have h3:=h3 m (by omega);dsimp only at h3;have h4:=h4 m (by omega);dsimp only at h4;simp only [D5,Er,DU,qj,h1,h2,h3,h4];simp only [okV,Gr];by_cases k2:k=2
 ·subst k2;by_cases x0:x=0<;>simp [x0]
 ·by_cases k0:k=0
  ·subst k0;by_cases x0:x=0<;>simp [x0]
  ·by_cases k1:k=1
   ·subst k1;by_cases hx: -1000000000000000<=x/\x<=1000000000000000<;>simp [hx]
   ·by_cases k3:k=3
    ·subst k3;by_cases hx:0<=x/\x<=1<;>simp [hx]
    ·by_cases k4:k=4
     ·subst k4;by_cases hx:1<=x/\x<=5<;>simp [hx]
     ·simp [k0,k1,k2,k3,k4]
theorem H8 (k x:Int) (s:BA) (hb:s.size<=140737488351232):Ev (D7 · k x s) (okV k x s):=by
 obtain ⟨n1,h1⟩:=qv x (-1000000000000000) 1000000000000000;obtain ⟨n2,h2⟩:=qv x 0 1;obtain ⟨n3,h3⟩:=qv x 1 5;obtain ⟨n4,h4⟩:=Il s 200 hb;refine ⟨n1+n2+n3+n4+1,λn hn=>?_⟩;obtain ⟨m,rfl,hm⟩:=up1 hn;have h1:=h1 m (by omega);dsimp only at h1;have h2:=h2 m (by omega);dsimp only at h2;have h3:=h3 m (by omega);dsimp only at h3;have h4:=h4 m (by omega);dsimp only at h4;simp only [D7,Ew,qj,h1,h2,h3,h4];simp only [okV,Gr];by_cases k2:k=2
 ·subst k2;by_cases x0:x=0<;>simp [x0]
 ·by_cases he:s.toList= []
  ·by_cases k0:k=0
   ·subst k0;by_cases x0:x=0<;>simp [x0,he]
   ·by_cases k1:k=1
    ·subst k1;simp [he]
    ·by_cases k3:k=3
     ·subst k3;simp [he]
     ·by_cases k4:k=4
      ·subst k4;simp [he]
      ·simp [k0,k1,k2,k3,k4,he]
  ·simp [k2,he]
def em:BA:=⟨#[]⟩
theorem H9 (x:Int):Ev (D6 · x) (4,x,em):=by
 refine ⟨1,λn hn=>?_⟩;obtain ⟨m,rfl,hm⟩:=up1 hn;simp only [D6,Eu,qj];rfl
theorem JK (x:Int):Ev (EA · x) (4,x,em):=by
 refine ⟨1,λn hn=>?_⟩;obtain ⟨m,rfl,hm⟩:=up1 hn;simp only [EA,Fo,qj];rfl
def Dl (c r:Int):Bool:=decide (1<=c/\c<=52)&&decide (1<=r/\r<=99)
def D1 (a b c d:Int):Bool:=Dl a b&&Dl c d&&decide (a<=c)&&decide (b<=d)
theorem FV (c r:Int):Ev (Dk · c r) (Dl c r):=by
 obtain ⟨n1,h1⟩:=Cw c 1 52;obtain ⟨n2,h2⟩:=Cw r 1 99;refine ⟨n1+n2+1,λn hn=>?_⟩;obtain ⟨m,rfl,hm⟩:=up1 hn;have h1:=h1 m (by omega);dsimp only at h1;have h2:=h2 m (by omega);dsimp only at h2;simp only [Dk,Fg,qj,h1,h2];unfold Dl;cases decide (1<=c/\c<=52)<;>simp
theorem GW (c r:Int):Ev (D8 · c r) (Dl c r):=by
 obtain ⟨n1,h1⟩:=qv c 1 52;obtain ⟨n2,h2⟩:=qv r 1 99;refine ⟨n1+n2+1,λn hn=>?_⟩;obtain ⟨m,rfl,hm⟩:=up1 hn;have h1:=h1 m (by omega);dsimp only at h1;have h2:=h2 m (by omega);dsimp only at h2;simp only [D8,Fi,qj,h1,h2];unfold Dl;cases decide (1<=c/\c<=52)<;>simp
theorem Im (a b c d:Int):Ev (EN · a b c d) (D1 a b c d):=by
 obtain ⟨n1,h1⟩:=FV a b;obtain ⟨n2,h2⟩:=FV c d;refine ⟨n1+n2+1,λn hn=>?_⟩;obtain ⟨m,rfl,hm⟩:=up1 hn;have h1:=h1 m (by omega);dsimp only at h1;have h2:=h2 m (by omega);dsimp only at h2;simp only [EN,FD,qj,h1,h2];unfold D1;cases Dl a b<;>cases Dl c d<;>by_cases h:a<=c<;>simp [h]
theorem EF (a b c d:Int):Ev (Do · a b c d) (D1 a b c d):=by
 obtain ⟨n1,h1⟩:=GW a b;obtain ⟨n2,h2⟩:=GW c d;refine ⟨n1+n2+1,λn hn=>?_⟩;obtain ⟨m,rfl,hm⟩:=up1 hn;have h1:=h1 m (by omega);dsimp only at h1;have h2:=h2 m (by omega);dsimp only at h2;simp only [Do,FR,qj,h1,h2];unfold D1;cases Dl a b<;>cases Dl c d<;>by_cases h:a<=c<;>simp [h]
def Kq (x y:Int):Int:=if x<y then-1 else if x>y then 1 else 0
def K1 (x y:BA):Int:=if Op.bytesLess x.toList y.toList=true then-1 else if x.toList=y.toList then 0 else 1
def KD:List Int->Int
 | []=>0
 |x::r=>if x≠0 then x else KD r
def K2 (k x:Int) (s:BA) (k' x':Int) (s':BA):Int:=KD [Kq k k',Kq x x',K1 s s']
def Kr (op o:Int):Bool:=if op=6 then o==0 else if op=7 then o !=0 else if op=8 then decide (o<0) else if op=9 then decide (o<=0) else if op=10 then decide (o>0) else decide (o≥0)
def K0 (op k x:Int) (s:BA) (k' x':Int) (s':BA):Int×Int×BA:=
 if okV k x s=true/\okV k' x' s'=true/\6<=op/\op<=11 then
  (if k=4 then (k,x,s) else if k'=4 then (k',x',s') else (3,if Kr op (K2 (if k=0 then k' else k) x s (if k'=0 then k else k') x' s')=true then 1 else 0,em))
 else (4,2,em)
theorem GX (n:Nat):∀(f:Nat) (v:Int×BA),v.1<10^f->v.1<=9223372036854775807->v.2.size+f<=1000->∃t:BA,t.size<=v.2.size+f/\∀M,f+1<=M->zO (Ct n) M v=some t
 |f,v,h1,h1',h2=>by
  by_cases h0:v.1>0
  ·cases f with
   |zero=>simp at h1;omega
   |succ f=>
    have e1:Int.tdiv v.1 10=v.1/10:=Int.tdiv_eq_ediv_of_nonneg (by omega);have hw:IntKind.i64.wrap (Int.tdiv v.1 10)=v.1/10:=by rw [e1];exact qp (by omega)
    have h3:v.1/10<10^f:=by
     have:(10:Int)^(f+1)=10^f*10:=Int.pow_succ 10 f;omega
    let d:BA:=⟨#[UInt8.ofNat (IntKind.u8.wrap (IntKind.i64.wrap ((48:Int)+(Int.tmod v.1 (10:Int))))).toNat]⟩
    have hs:(d++v.2).size=v.2.size+1:=by rw [CJ];show 1+v.2.size=_;omega
    obtain ⟨t,h4,h5⟩:=GX n f (v.1/10,d++v.2) h3 (by show v.1/10<=_;omega) (by show (d++v.2).size+f<=1000;omega);refine ⟨t,by have:t.size<=(d++v.2).size+f:=h4;omega,λM hM=>?_⟩;obtain ⟨M,rfl⟩:∃q,M=q+1:=⟨M-1,by omega⟩;rw [CU (v':=(v.1/10,d++v.2)) (by
     have hd:d.size=1:=rfl;have hc:d.size+v.2.size<=9223372036854775807:=by omega
     simp only [Ct,qj,bytesOf,zamW,hw];rw [if_pos (by simpa using h0),if_pos (by simp),if_pos (by simpa using hc)])]
    exact h5 M (by omega)
  ·refine ⟨v.2,by omega,λM hM=>?_⟩;obtain ⟨M,rfl⟩:∃q,M=q+1:=⟨M-1,by omega⟩;rw [qe (r:=v.2) (by
    simp only [Ct,qj];rw [if_neg (by simpa using h0)])]
theorem Hd (k:Int) (h:1<=k/\k<=9223372036854775807):∃t:BA,∀n,25<=n->Cp n k=some t:=by
 have p19:(10:Int)^19=10000000000000000000:=by decide
 obtain ⟨t,h1,h2⟩:=GX 0 19 (k,⟨#[]⟩) (by show k<10^19;omega) h.2 (by show (0:Nat)+19<=1000;decide);refine ⟨⟨#[109]⟩++t,λn hn=>?_⟩;obtain ⟨m,rfl,hm⟩:=up1 hn;have h3:zO (Ct m) m (k,⟨#[]⟩)=some t:=h2 m (by omega);simp only [Cp,Ef,qj,h3];have h1:t.size<=19:=h1;have hd:(⟨#[109]⟩:BA).size=1:=rfl;rw [if_neg (by simp;omega),if_pos (by simp only [dQ,hd];omega)]
noncomputable def mtx (k:Int):BA:=if h:1<=k/\k<=9223372036854775807 then Classical.choose (Hd k h) else ⟨#[]⟩
theorem KR {k:Int} (h:1<=k/\k<=9223372036854775807) {n:Nat} (hn:25<=n):Cp n k=some (mtx k):=by
 unfold mtx;rw [dif_pos h];exact Classical.choose_spec (Hd k h) n hn
abbrev Nd:=Int×Int×Int×Int×BA×Int×Int×Bool×Bool×Int×Int×Bool×Bool×List Int
def qk (x:Int):List PV:= [.i .i64 x]
def qb (c:Nd):List PV:= [.i .i64 c.1,.i .i64 c.2.1,.i .i64 c.2.2.1,.i .i64 c.2.2.2.1,.s c.2.2.2.2.1,.i .i64 c.2.2.2.2.2.1,.i .i64 c.2.2.2.2.2.2.1,.b c.2.2.2.2.2.2.2.1,.b c.2.2.2.2.2.2.2.2.1,.i .i64 c.2.2.2.2.2.2.2.2.2.1,.i .i64 c.2.2.2.2.2.2.2.2.2.2.1,.b c.2.2.2.2.2.2.2.2.2.2.2.1,.b c.2.2.2.2.2.2.2.2.2.2.2.2.1,.ls ((c.2.2.2.2.2.2.2.2.2.2.2.2.2).map qk)]
def kd (c:Nd):List Int:=c.2.2.2.2.2.2.2.2.2.2.2.2.2
theorem Jn {l:List Int} {i:Nat} {e:List PV} (h:(l.map qk)[i]?=some e):∃c,l[i]?=some c/\e=qk c:=by
 rw [zamS] at h;obtain ⟨c,h1,h2⟩:=zD.1 h;exact ⟨c,h1,h2.symm⟩
theorem Jo {l:List Nd} {i:Nat} {e:List PV} (h:(l.map qb)[i]?=some e):∃c,l[i]?=some c/\e=qb c:=by
 rw [zamS] at h;obtain ⟨c,h1,h2⟩:=zD.1 h;exact ⟨c,h1,h2.symm⟩
theorem Kc {rows:List (List PV)} (h:∀e∈rows,okR [.i .i64,.i .i64,.i .i64,.i .i64,.s,.i .i64,.i .i64,.b,.b,.i .i64,.i .i64,.b,.b,.sl 8 [.i .i64]] e):∃l:List Nd,rows=l.map qb/\∀c∈l,c.2.2.2.2.1.size<=140737488351232/\(kd c).length*8<=140737488351232:=by
 refine Ik (λe h=>?_) h;obtain ⟨c0,t0,rfl,p0,h0⟩:=zh h;obtain ⟨c1,t1,rfl,p1,h1⟩:=zh h0;obtain ⟨c2,t2,rfl,p2,h2⟩:=zh h1;obtain ⟨c3,t3,rfl,p3,h3⟩:=zh h2;obtain ⟨c4,t4,rfl,p4,h4⟩:=zh h3;obtain ⟨c5,t5,rfl,p5,h5⟩:=zh h4;obtain ⟨c6,t6,rfl,p6,h6⟩:=zh h5;obtain ⟨c7,t7,rfl,p7,h7⟩:=zh h6;obtain ⟨c8,t8,rfl,p8,h8⟩:=zh h7;obtain ⟨c9,t9,rfl,p9,h9⟩:=zh h8;obtain ⟨c10,t10,rfl,p10,h10⟩:=zh h9;obtain ⟨c11,t11,rfl,p11,h11⟩:=zh h10;obtain ⟨c12,t12,rfl,p12,h12⟩:=zh h11;obtain ⟨c13,t13,rfl,p13,h13⟩:=zh h12;obtain rfl:=hI h13;obtain ⟨x0,rfl,w0⟩:=eH p0;obtain ⟨x1,rfl,w1⟩:=eH p1;obtain ⟨x2,rfl,w2⟩:=eH p2;obtain ⟨x3,rfl,w3⟩:=eH p3;obtain ⟨x4,rfl,w4⟩:=CI p4;obtain ⟨x5,rfl,w5⟩:=eH p5;obtain ⟨x6,rfl,w6⟩:=eH p6;obtain ⟨x7,rfl⟩:=uN p7;obtain ⟨x8,rfl⟩:=uN p8;obtain ⟨x9,rfl,w9⟩:=eH p9;obtain ⟨x10,rfl,w10⟩:=eH p10;obtain ⟨x11,rfl⟩:=uN p11;obtain ⟨x12,rfl⟩:=uN p12;obtain ⟨x13,rfl,w13⟩:=AX p13;obtain ⟨ks,rfl,_⟩:=Ik (enc:=qk) (P:=λ_=>True) (λe h=>by
  obtain ⟨a,t,rfl,p,h⟩:=zh h;obtain rfl:=hI h;obtain ⟨y,rfl,_⟩:=eH p;exact ⟨y,rfl,trivial⟩) w13.2
 exact ⟨(x0,x1,x2,x3,x4,x5,x6,x7,x8,x9,x10,x11,x12,ks),rfl,w4,by simpa [kd] using w13.1⟩
theorem HS (l:List Int) (hb:l.length*8<=140737488351232):∀n,l.length+5<=n->Dq n (l.map qk)=some (l.length,l.map qk):=by
 intro n hn;obtain ⟨m,rfl,hm⟩:=up1 hn;simp only [Dq,EY,qj];have h:=Jm (B:=C0 m) (rows:=l.map qk) (z:= [.i .i64 0]) (r:=λacc=>((l.map qk).length,acc)) (M:=m)
  (λi acc e he ha hz=>by
   obtain ⟨c,hc,rfl⟩:=Jn he;have hi:i<l.length:=(zamJ.1 hc).1;have hi':(i:Int)<l.length:=by omega
   have hw:IntKind.i64.wrap ((i:Int)+1)=(i:Int)+1:=qp (by omega);have ha':acc.length=l.length:=by simpa using ha
   simp [C0,qj,hi',hc,qk,zF,hz,ha',hw,zA])
  (λacc ha=>by
   have ha':acc.length=l.length:=by simpa using ha
   simp [C0,qj])
  (by simp;omega)
 simp only [zamV,jM] at h⊢;rw [h];have h1:(8:Int)*(l.length:Int)<=140737488355328:=by omega
 have h2:(l.length:Int)<=9223372036854775807:=by omega
 simp [qj,h1,h2]
theorem HT (l:List Int) (hb:l.length<=140737488351232):∀n,l.length+5<=n->Dt n (l.map qk) (l.map qk)=some true:=by
 intro n hn;obtain ⟨m,rfl,hm⟩:=up1 hn;simp only [Dt,Ed,qj];have h:=Jf (B:=C3 m) (rows:=l.map qk) (r:= .inr ())
  (λi e he=>by
   obtain ⟨c,hc,rfl⟩:=Jn he;have hi:i<l.length:=(zamJ.1 hc).1;have hi':(i:Int)<l.length:=by omega
   have hw:IntKind.i64.wrap ((i:Int)+1)=(i:Int)+1:=qp (by omega);simp [C3,qj,hi',hc,qk,zF,hw])
  (by simp [C3,qj]) l.length 0 m (by simp) (by omega)
 simp only [Int.natCast_zero] at h;simp [h,qj]
theorem IA (c:Nd) (hb:(kd c).length<=140737488351232):∀n,(kd c).length+10<=n->Dd n c.1 c.2.1 c.2.2.1 c.2.2.2.1 c.2.2.2.2.1 c.2.2.2.2.2.1 c.2.2.2.2.2.2.1 c.2.2.2.2.2.2.2.1 c.2.2.2.2.2.2.2.2.1 c.2.2.2.2.2.2.2.2.2.1 c.2.2.2.2.2.2.2.2.2.2.1 c.2.2.2.2.2.2.2.2.2.2.2.1 c.2.2.2.2.2.2.2.2.2.2.2.2.1 ((c.2.2.2.2.2.2.2.2.2.2.2.2.2).map qk) c.1 c.2.1 c.2.2.1 c.2.2.2.1 c.2.2.2.2.1 c.2.2.2.2.2.1 c.2.2.2.2.2.2.1 c.2.2.2.2.2.2.2.1 c.2.2.2.2.2.2.2.2.1 c.2.2.2.2.2.2.2.2.2.1 c.2.2.2.2.2.2.2.2.2.2.1 c.2.2.2.2.2.2.2.2.2.2.2.1 c.2.2.2.2.2.2.2.2.2.2.2.2.1 ((c.2.2.2.2.2.2.2.2.2.2.2.2.2).map qk)=some true:=by
 intro n hn;obtain ⟨m,rfl,hm⟩:=up1 hn;have h:=HT (kd c) hb m (by omega);unfold kd at h;obtain ⟨q,rfl⟩:∃q,m=q+3:=⟨m-3,by omega⟩;have p1:∀a b f g,Dc (q+3) a b f g a b f g=some true:=λa b f g=>by
  simp [Dc,E0,Fq,Fp,qj]
 have p2:∀a b s,EC (q+3) a b s a b s=some true:=λa b s=>by
  simp [EC,Ez,qj]
 simp only [Dd,E1,qj,h,p1,p2];simp
theorem FZ (l:List Nd) (hb:l.length<=140737488351232) (hk:∀c∈l,(kd c).length<=140737488351232):Ev (Cv · (l.map qb) (l.map qb)) true:=by
 obtain ⟨n0,h0⟩:=DX (F:=λ(c:Nd) n=>Dd n c.1 c.2.1 c.2.2.1 c.2.2.2.1 c.2.2.2.2.1 c.2.2.2.2.2.1 c.2.2.2.2.2.2.1 c.2.2.2.2.2.2.2.1 c.2.2.2.2.2.2.2.2.1 c.2.2.2.2.2.2.2.2.2.1 c.2.2.2.2.2.2.2.2.2.2.1 c.2.2.2.2.2.2.2.2.2.2.2.1 c.2.2.2.2.2.2.2.2.2.2.2.2.1 ((c.2.2.2.2.2.2.2.2.2.2.2.2.2).map qk) c.1 c.2.1 c.2.2.1 c.2.2.2.1 c.2.2.2.2.1 c.2.2.2.2.2.1 c.2.2.2.2.2.2.1 c.2.2.2.2.2.2.2.1 c.2.2.2.2.2.2.2.2.1 c.2.2.2.2.2.2.2.2.2.1 c.2.2.2.2.2.2.2.2.2.2.1 c.2.2.2.2.2.2.2.2.2.2.2.1 c.2.2.2.2.2.2.2.2.2.2.2.2.1 ((c.2.2.2.2.2.2.2.2.2.2.2.2.2).map qk)) (f:=λ_=>true) l (λc hc=>⟨_,IA c (hk c hc)⟩);refine ⟨n0+l.length+5,λn hn=>?_⟩;obtain ⟨m,rfl,hm⟩:=up1 hn;simp only [Cv,Ee,qj];have h:=Jf (B:=C4 m) (rows:=l.map qb) (r:= .inr ())
  (λi e he=>by
   obtain ⟨c,hc,rfl⟩:=Jo he;have hi:i<l.length:=(zamJ.1 hc).1;have hi':(i:Int)<l.length:=by omega
   have hw:IntKind.i64.wrap ((i:Int)+1)=(i:Int)+1:=qp (by omega);have hf:=h0 m (by omega) c (zn hc);simp [C4,qj,hi',hc,qb,zF,bW,zW,z8,hf,hw])
  (by simp [C4,qj]) l.length 0 m (by simp) (by omega)
 simp only [Int.natCast_zero] at h;simp [h,qj]
def Fa (op n:Int):Bool:=if op=5 then decide (n=2\/n=3) else if 8<=op/\op<=10 then decide (n=1) else if 1<=op/\op<=7 then decide (1<=n/\n<=10) else false
theorem ten {op:Int} (h:1<=op/\op<=10):op=1\/op=2\/op=3\/op=4\/op=5\/op=6\/op=7\/op=8\/op=9\/op=10:=by omega
theorem Io (op n:Int):Ev (EO · op n) (Fa op n):=by
 refine ⟨1,λn hn=>?_⟩;obtain ⟨m,rfl,hm⟩:=up1 hn;simp only [EO,FE,qj];by_cases h:1<=op/\op<=10
 ·rcases ten h with rfl|rfl|rfl|rfl|rfl|rfl|rfl|rfl|rfl|rfl
  all_goals
   first
   |(by_cases h2:n=2<;>simp [Fa,h2];done)
   |(by_cases h1:n≥1<;>simp [Fa,h1];done)
   |(by_cases h1:n=1<;>simp [Fa,h1];done)
   |(by_cases h2:n=2<;>by_cases h3:n=3<;>simp [Fa,h2,h3];done)
   |(simp [Fa];done)
 ·have e1:¬op=1:=by omega
  have e2:¬op=2:=by omega
  have e3:¬op=3:=by omega
  have e4:¬op=4:=by omega
  have e5:¬op=5:=by omega
  have e6:¬op=6:=by omega
  have e7:¬op=7:=by omega
  have e8:¬op=8:=by omega
  have e9:¬op=9:=by omega
  have e10:¬op=10:=by omega
  have g1:¬(8<=op/\op<=10):=by omega
  have g2:¬(1<=op/\op<=7):=by omega
  simp [Fa,e1,e2,e3,e4,e5,e6,e7,e8,e9,e10,g1,g2]
def zV (k x:Int) (s:BA):Bool:=decide (k=0)&&(decide (x=0)&&(s.toList== []))
def zP (a b:Int) (f g:Bool):Bool:=decide (a=0)&&(decide (b=0)&&(!f&&!g))
def Dh (c:Nd):Bool:=
 if c.1=1 then decide (c.2.1=0)&&(zP c.2.2.2.2.2.1 c.2.2.2.2.2.2.1 c.2.2.2.2.2.2.2.1 c.2.2.2.2.2.2.2.2.1&&(zP c.2.2.2.2.2.2.2.2.2.1 c.2.2.2.2.2.2.2.2.2.2.1 c.2.2.2.2.2.2.2.2.2.2.2.1 c.2.2.2.2.2.2.2.2.2.2.2.2.1&&(decide ((kd c).length=0)&&(okV c.2.2.1 c.2.2.2.1 c.2.2.2.2.1&&(!decide (c.2.2.1=0)&&(!decide (c.2.2.1=1)||decide (c.2.2.2.1≥0))))))) else
 if c.1=2 then decide (c.2.1=0)&&(zV c.2.2.1 c.2.2.2.1 c.2.2.2.2.1&&(zP c.2.2.2.2.2.2.2.2.2.1 c.2.2.2.2.2.2.2.2.2.2.1 c.2.2.2.2.2.2.2.2.2.2.2.1 c.2.2.2.2.2.2.2.2.2.2.2.2.1&&(decide ((kd c).length=0)&&Dl c.2.2.2.2.2.1 c.2.2.2.2.2.2.1))) else
 if c.1=3 then decide (c.2.1=0)&&(zV c.2.2.1 c.2.2.2.1 c.2.2.2.2.1&&(decide ((kd c).length=0)&&D1 c.2.2.2.2.2.1 c.2.2.2.2.2.2.1 c.2.2.2.2.2.2.2.2.2.1 c.2.2.2.2.2.2.2.2.2.2.1)) else
 if c.1=4 then decide (c.2.1=0)&&(zV c.2.2.1 c.2.2.2.1 c.2.2.2.2.1&&(zP c.2.2.2.2.2.1 c.2.2.2.2.2.2.1 c.2.2.2.2.2.2.2.1 c.2.2.2.2.2.2.2.2.1&&(zP c.2.2.2.2.2.2.2.2.2.1 c.2.2.2.2.2.2.2.2.2.2.1 c.2.2.2.2.2.2.2.2.2.2.2.1 c.2.2.2.2.2.2.2.2.2.2.2.2.1&&decide ((kd c).length=1)))) else
 if c.1=5 then decide (1<=c.2.1/\c.2.1<=11)&&(zV c.2.2.1 c.2.2.2.1 c.2.2.2.2.1&&(zP c.2.2.2.2.2.1 c.2.2.2.2.2.2.1 c.2.2.2.2.2.2.2.1 c.2.2.2.2.2.2.2.2.1&&(zP c.2.2.2.2.2.2.2.2.2.1 c.2.2.2.2.2.2.2.2.2.2.1 c.2.2.2.2.2.2.2.2.2.2.2.1 c.2.2.2.2.2.2.2.2.2.2.2.2.1&&decide ((kd c).length=2)))) else
 if c.1=6 then Fa c.2.1 ((kd c).length:Int)&&(zV c.2.2.1 c.2.2.2.1 c.2.2.2.2.1&&(zP c.2.2.2.2.2.1 c.2.2.2.2.2.2.1 c.2.2.2.2.2.2.2.1 c.2.2.2.2.2.2.2.2.1&&zP c.2.2.2.2.2.2.2.2.2.1 c.2.2.2.2.2.2.2.2.2.2.1 c.2.2.2.2.2.2.2.2.2.2.2.1 c.2.2.2.2.2.2.2.2.2.2.2.2.1)) else false
theorem Ks (k x:Int) (s:BA):((k==(0:Int))&&((x==(0:Int))&&((s.toList==(⟨#[]⟩:BA).toList)&&true)))=zV k x s:=by
 rw [Gr];unfold zV;by_cases h:k=0<;>by_cases h2:x=0<;>simp [h,h2]
theorem Kt (k x:Int) (s:BA):(((0:Int)==k)&&(((0:Int)==x)&&(((⟨#[]⟩:BA).toList==s.toList)&&true)))=zV k x s:=by
 rw [<-Ks]
 congr 1
 ·exact Bool.beq_comm
 ·congr 1
  ·exact Bool.beq_comm
  ·congr 1
   exact Bool.beq_comm
theorem Ku (a b:Int) (f g:Bool):((a==(0:Int))&&((b==(0:Int))&&((f==false)&&((g==false)&&true))))=zP a b f g:=by
 unfold zP;by_cases h:a=0<;>by_cases h2:b=0<;>cases f<;>cases g<;>simp [h,h2]
theorem Kv (a b:Int) (f g:Bool):(((0:Int)==a)&&(((0:Int)==b)&&((false==f)&&((false==g)&&true))))=zP a b f g:=by
 rw [<-Ku]
 congr 1
 ·exact Bool.beq_comm
 ·congr 1
  ·exact Bool.beq_comm
  ·cases f<;>cases g<;>rfl
theorem Fb (c:Nd) (hb:c.2.2.2.2.1.size<=140737488351232):Ev (qd · c.1 c.2.1 c.2.2.1 c.2.2.2.1 c.2.2.2.2.1 c.2.2.2.2.2.1 c.2.2.2.2.2.2.1 c.2.2.2.2.2.2.2.1 c.2.2.2.2.2.2.2.2.1 c.2.2.2.2.2.2.2.2.2.1 c.2.2.2.2.2.2.2.2.2.2.1 c.2.2.2.2.2.2.2.2.2.2.2.1 c.2.2.2.2.2.2.2.2.2.2.2.2.1 ((c.2.2.2.2.2.2.2.2.2.2.2.2.2).map qk)) (Dh c):=by
 obtain ⟨n1,h1⟩:=H7 c.2.2.1 c.2.2.2.1 c.2.2.2.2.1 hb;obtain ⟨n2,h2⟩:=FV c.2.2.2.2.2.1 c.2.2.2.2.2.2.1;obtain ⟨n3,h3⟩:=Im c.2.2.2.2.2.1 c.2.2.2.2.2.2.1 c.2.2.2.2.2.2.2.2.2.1 c.2.2.2.2.2.2.2.2.2.2.1;obtain ⟨n4,h4⟩:=Cw c.2.1 1 11;obtain ⟨n5,h5⟩:=Io c.2.1 (((c.2.2.2.2.2.2.2.2.2.2.2.2.2).map qk).length:Int);refine ⟨n1+n2+n3+n4+n5+1,λn hn=>?_⟩;obtain ⟨m,rfl,hm⟩:=up1 hn;have h1:=h1 m (by omega);dsimp only at h1;have h2:=h2 m (by omega);dsimp only at h2;have h3:=h3 m (by omega);dsimp only at h3;have h4:=h4 m (by omega);dsimp only at h4;have h5:=h5 m (by omega);dsimp only at h5;simp only [qd,Ea,Du,qj,h1,h2,h3,h4,h5];have hk:((c.2.2.2.2.2.2.2.2.2.2.2.2.2).map qk).length=(kd c).length:=by rw [zamV];rfl
 simp only [Ks,Ku,hk];unfold Dh;by_cases k1:c.1=1
 ·simp only [k1,if_true,beq_self_eq_true];cases zP c.2.2.2.2.2.1 c.2.2.2.2.2.2.1 c.2.2.2.2.2.2.2.1 c.2.2.2.2.2.2.2.2.1<;>cases zP c.2.2.2.2.2.2.2.2.2.1 c.2.2.2.2.2.2.2.2.2.2.1 c.2.2.2.2.2.2.2.2.2.2.2.1 c.2.2.2.2.2.2.2.2.2.2.2.2.1<;>cases okV c.2.2.1 c.2.2.2.1 c.2.2.2.2.1<;>by_cases h0:c.2.1=0<;>by_cases h1:(kd c).length=0<;>by_cases h2:c.2.2.1=0<;>by_cases h3:c.2.2.1=1<;>simp [h0,h1,h2,h3]
 by_cases k2:c.1=2
 ·simp only [k2];cases zV c.2.2.1 c.2.2.2.1 c.2.2.2.2.1<;>cases zP c.2.2.2.2.2.2.2.2.2.1 c.2.2.2.2.2.2.2.2.2.2.1 c.2.2.2.2.2.2.2.2.2.2.2.1 c.2.2.2.2.2.2.2.2.2.2.2.2.1<;>cases Dl c.2.2.2.2.2.1 c.2.2.2.2.2.2.1<;>by_cases h0:c.2.1=0<;>by_cases h1:(kd c).length=0<;>simp [h0,h1]
 by_cases k3:c.1=3
 ·simp only [k3];cases zV c.2.2.1 c.2.2.2.1 c.2.2.2.2.1<;>cases D1 c.2.2.2.2.2.1 c.2.2.2.2.2.2.1 c.2.2.2.2.2.2.2.2.2.1 c.2.2.2.2.2.2.2.2.2.2.1<;>by_cases h0:c.2.1=0<;>by_cases h1:(kd c).length=0<;>simp [h0,h1]
 by_cases k4:c.1=4
 ·simp only [k4];cases zV c.2.2.1 c.2.2.2.1 c.2.2.2.2.1<;>cases zP c.2.2.2.2.2.1 c.2.2.2.2.2.2.1 c.2.2.2.2.2.2.2.1 c.2.2.2.2.2.2.2.2.1<;>cases zP c.2.2.2.2.2.2.2.2.2.1 c.2.2.2.2.2.2.2.2.2.2.1 c.2.2.2.2.2.2.2.2.2.2.2.1 c.2.2.2.2.2.2.2.2.2.2.2.2.1<;>by_cases h0:c.2.1=0<;>by_cases h1:(kd c).length=1<;>simp [h0,h1]<;>omega
 by_cases k5:c.1=5
 ·simp only [k5];cases zV c.2.2.1 c.2.2.2.1 c.2.2.2.2.1<;>cases zP c.2.2.2.2.2.1 c.2.2.2.2.2.2.1 c.2.2.2.2.2.2.2.1 c.2.2.2.2.2.2.2.2.1<;>cases zP c.2.2.2.2.2.2.2.2.2.1 c.2.2.2.2.2.2.2.2.2.2.1 c.2.2.2.2.2.2.2.2.2.2.2.1 c.2.2.2.2.2.2.2.2.2.2.2.2.1<;>by_cases h0:1<=c.2.1/\c.2.1<=11<;>by_cases h1:(kd c).length=2<;>simp [h0,h1]<;>omega
 by_cases k6:c.1=6
 ·simp only [k6];cases zV c.2.2.1 c.2.2.2.1 c.2.2.2.2.1<;>cases zP c.2.2.2.2.2.1 c.2.2.2.2.2.2.1 c.2.2.2.2.2.2.2.1 c.2.2.2.2.2.2.2.2.1<;>cases zP c.2.2.2.2.2.2.2.2.2.1 c.2.2.2.2.2.2.2.2.2.2.1 c.2.2.2.2.2.2.2.2.2.2.2.1 c.2.2.2.2.2.2.2.2.2.2.2.2.1<;>cases Fa c.2.1 ((kd c).length:Int)<;>simp
 simp [k1,k2,k3,k4,k5,k6]
theorem Ip (c:Nd):Ev (CS · c.1 c.2.1 c.2.2.1 c.2.2.2.1 c.2.2.2.2.1 c.2.2.2.2.2.1 c.2.2.2.2.2.2.1 c.2.2.2.2.2.2.2.1 c.2.2.2.2.2.2.2.2.1 c.2.2.2.2.2.2.2.2.2.1 c.2.2.2.2.2.2.2.2.2.2.1 c.2.2.2.2.2.2.2.2.2.2.2.1 c.2.2.2.2.2.2.2.2.2.2.2.2.1 ((c.2.2.2.2.2.2.2.2.2.2.2.2.2).map qk)) (if c.1=4 then decide (c.2.1=0)&&decide ((kd c).length=1) else if c.1=5 then decide (1<=c.2.1/\c.2.1<=11)&&decide ((kd c).length=2) else if c.1=6 then Fa c.2.1 ((kd c).length:Int) else decide (c.2.1=0)&&decide ((kd c).length=0)):=by
 obtain ⟨n1,h1⟩:=qv c.2.1 1 11;obtain ⟨n2,h2⟩:=qv c.2.1 1 10;obtain ⟨n3,h3⟩:=qv (((c.2.2.2.2.2.2.2.2.2.2.2.2.2).map qk).length:Int) 2 3;obtain ⟨n4,h4⟩:=qv (((c.2.2.2.2.2.2.2.2.2.2.2.2.2).map qk).length:Int) 1 10;refine ⟨n1+n2+n3+n4+1,λn hn=>?_⟩;obtain ⟨m,rfl,hm⟩:=up1 hn;have h1:=h1 m (by omega);dsimp only at h1;have h2:=h2 m (by omega);dsimp only at h2;have h3:=h3 m (by omega);dsimp only at h3;have h4:=h4 m (by omega);dsimp only at h4;simp only [CS,Dm,qj,h1,h2,h3,h4];have hk:((c.2.2.2.2.2.2.2.2.2.2.2.2.2).map qk).length=(kd c).length:=by rw [zamV];rfl
 simp only [hk];by_cases k4:c.1=4
 ·simp only [k4];by_cases h0:c.2.1=0<;>by_cases h1:(kd c).length=1<;>simp [h0,h1]<;>omega
 by_cases k5:c.1=5
 ·simp only [k5];by_cases h0:1<=c.2.1/\c.2.1<=11<;>by_cases h1:(kd c).length=2<;>simp [h0,h1]<;>omega
 by_cases k6:c.1=6
 ·simp only [k6];unfold Fa;by_cases h:1<=c.2.1/\c.2.1<=10
  ·by_cases h5:c.2.1=5
   ·have:(2<=((kd c).length:Int)/\((kd c).length:Int)<=3)↔(((kd c).length:Int)=2\/((kd c).length:Int)=3):=by omega
    simp [h5,this]
   ·by_cases h8:c.2.1≥8
    ·have g:8<=c.2.1/\c.2.1<=10:=by omega
     by_cases h1:((kd c).length:Int)=1<;>simp [h,h5,h8,g,h1]
    ·have g:¬(8<=c.2.1/\c.2.1<=10):=by omega
     have g':1<=c.2.1/\c.2.1<=7:=by omega
     simp [h,h5,h8,g,g']
  ·have h5:¬c.2.1=5:=by omega
   have g:¬(8<=c.2.1/\c.2.1<=10):=by omega
   have g':¬(1<=c.2.1/\c.2.1<=7):=by omega
   simp [h,h5,g,g']
 by_cases h0:c.2.1=0<;>by_cases h1:(kd c).length=0<;>simp [k4,k5,k6,h0,h1]<;>omega
theorem HU (c:Nd):Ev (qg · c.1 c.2.1 c.2.2.1 c.2.2.2.1 c.2.2.2.2.1 c.2.2.2.2.2.1 c.2.2.2.2.2.2.1 c.2.2.2.2.2.2.2.1 c.2.2.2.2.2.2.2.2.1 c.2.2.2.2.2.2.2.2.2.1 c.2.2.2.2.2.2.2.2.2.2.1 c.2.2.2.2.2.2.2.2.2.2.2.1 c.2.2.2.2.2.2.2.2.2.2.2.2.1 ((c.2.2.2.2.2.2.2.2.2.2.2.2.2).map qk)) (if c.1=2 then D1 c.2.2.2.2.2.1 c.2.2.2.2.2.2.1 c.2.2.2.2.2.1 c.2.2.2.2.2.2.1 else if c.1=3 then D1 c.2.2.2.2.2.1 c.2.2.2.2.2.2.1 c.2.2.2.2.2.2.2.2.2.1 c.2.2.2.2.2.2.2.2.2.2.1 else true):=by
 have g:Ev (CZ · c.1 c.2.1 c.2.2.1 c.2.2.2.1 c.2.2.2.2.1 c.2.2.2.2.2.1 c.2.2.2.2.2.2.1 c.2.2.2.2.2.2.2.1 c.2.2.2.2.2.2.2.2.1 c.2.2.2.2.2.2.2.2.2.1 c.2.2.2.2.2.2.2.2.2.2.1 c.2.2.2.2.2.2.2.2.2.2.2.1 c.2.2.2.2.2.2.2.2.2.2.2.2.1 ((c.2.2.2.2.2.2.2.2.2.2.2.2.2).map qk)) (if c.1=2 then (c.2.2.2.2.2.1,c.2.2.2.2.2.2.1,c.2.2.2.2.2.1,c.2.2.2.2.2.2.1) else (c.2.2.2.2.2.1,c.2.2.2.2.2.2.1,c.2.2.2.2.2.2.2.2.2.1,c.2.2.2.2.2.2.2.2.2.2.1)):=by
  refine ⟨1,λn hn=>?_⟩;obtain ⟨m,rfl,hm⟩:=up1 hn;simp only [CZ,C8,qj];by_cases k2:c.1=2<;>simp [k2]
 obtain ⟨n1,h1⟩:=g;obtain ⟨n2,h2⟩:=EF c.2.2.2.2.2.1 c.2.2.2.2.2.2.1 c.2.2.2.2.2.1 c.2.2.2.2.2.2.1;obtain ⟨n3,h3⟩:=EF c.2.2.2.2.2.1 c.2.2.2.2.2.2.1 c.2.2.2.2.2.2.2.2.2.1 c.2.2.2.2.2.2.2.2.2.2.1;refine ⟨n1+n2+n3+1,λn hn=>?_⟩;obtain ⟨m,rfl,hm⟩:=up1 hn;have h1:=h1 m (by omega);dsimp only at h1;have h2:=h2 m (by omega);dsimp only at h2;have h3:=h3 m (by omega);dsimp only at h3;simp only [qg,C6,qj,h1,h2,h3];by_cases k2:c.1=2
 ·simp [k2,h2]
 ·by_cases k3:c.1=3
  ·simp [k3,h3]
  ·simp [k2,k3]
theorem KS (a b:Int):D1 a b a b=Dl a b:=by
 unfold D1;cases Dl a b<;>simp
theorem JL (c:Nd) (hb:c.2.2.2.2.1.size<=140737488351232):Ev (DN · c.1 c.2.1 c.2.2.1 c.2.2.2.1 c.2.2.2.2.1 c.2.2.2.2.2.1 c.2.2.2.2.2.2.1 c.2.2.2.2.2.2.2.1 c.2.2.2.2.2.2.2.2.1 c.2.2.2.2.2.2.2.2.2.1 c.2.2.2.2.2.2.2.2.2.2.1 c.2.2.2.2.2.2.2.2.2.2.2.1 c.2.2.2.2.2.2.2.2.2.2.2.2.1 ((c.2.2.2.2.2.2.2.2.2.2.2.2.2).map qk)) (Dh c):=by
 obtain ⟨n1,g1⟩:=H8 c.2.2.1 c.2.2.2.1 c.2.2.2.2.1 hb;obtain ⟨n2,g2⟩:=HU c;obtain ⟨n3,g3⟩:=Ip c;refine ⟨n1+n2+n3+1,λn hn=>?_⟩;obtain ⟨m,rfl,hm⟩:=up1 hn;have g1:=g1 m (by omega);have g2:=g2 m (by omega);have g3:=g3 m (by omega);dsimp only at g1 g2 g3;rw [KS] at g2;simp only [DN,Dv,C7,DR,qj,g1,g2,g3,Kt,Kv];simp only [beq_self_eq_true,Bool.and_true,Bool.true_and];unfold Dh;by_cases k1:c.1=1
 ·have h5:(c.2.2.2.1≥0)=¬(c.2.2.2.1<0):=propext Int.not_lt.symm;simp only [k1,h5];cases zP c.2.2.2.2.2.1 c.2.2.2.2.2.2.1 c.2.2.2.2.2.2.2.1 c.2.2.2.2.2.2.2.2.1<;>cases zP c.2.2.2.2.2.2.2.2.2.1 c.2.2.2.2.2.2.2.2.2.2.1 c.2.2.2.2.2.2.2.2.2.2.2.1 c.2.2.2.2.2.2.2.2.2.2.2.2.1<;>cases okV c.2.2.1 c.2.2.2.1 c.2.2.2.2.1<;>by_cases h0:c.2.1=0<;>by_cases h1:(kd c).length=0<;>by_cases h2:c.2.2.1=0<;>by_cases h3:c.2.2.1=1<;>by_cases h4:c.2.2.2.1<0<;>simp [h0,h1,h2,h3,h4]<;>(try omega)
 by_cases k2:c.1=2
 ·simp only [k2];cases zV c.2.2.1 c.2.2.2.1 c.2.2.2.2.1<;>cases zP c.2.2.2.2.2.2.2.2.2.1 c.2.2.2.2.2.2.2.2.2.2.1 c.2.2.2.2.2.2.2.2.2.2.2.1 c.2.2.2.2.2.2.2.2.2.2.2.2.1<;>cases Dl c.2.2.2.2.2.1 c.2.2.2.2.2.2.1<;>by_cases h0:c.2.1=0<;>by_cases h1:(kd c).length=0<;>simp [h0,h1]
 by_cases k3:c.1=3
 ·simp only [k3];cases zV c.2.2.1 c.2.2.2.1 c.2.2.2.2.1<;>cases D1 c.2.2.2.2.2.1 c.2.2.2.2.2.2.1 c.2.2.2.2.2.2.2.2.2.1 c.2.2.2.2.2.2.2.2.2.2.1<;>by_cases h0:c.2.1=0<;>by_cases h1:(kd c).length=0<;>simp [h0,h1]
 by_cases k4:c.1=4
 ·simp only [k4];cases zV c.2.2.1 c.2.2.2.1 c.2.2.2.2.1<;>cases zP c.2.2.2.2.2.1 c.2.2.2.2.2.2.1 c.2.2.2.2.2.2.2.1 c.2.2.2.2.2.2.2.2.1<;>cases zP c.2.2.2.2.2.2.2.2.2.1 c.2.2.2.2.2.2.2.2.2.2.1 c.2.2.2.2.2.2.2.2.2.2.2.1 c.2.2.2.2.2.2.2.2.2.2.2.2.1<;>by_cases h0:c.2.1=0<;>by_cases h1:(kd c).length=1<;>simp [h0,h1]
 by_cases k5:c.1=5
 ·simp only [k5];cases zV c.2.2.1 c.2.2.2.1 c.2.2.2.2.1<;>cases zP c.2.2.2.2.2.1 c.2.2.2.2.2.2.1 c.2.2.2.2.2.2.2.1 c.2.2.2.2.2.2.2.2.1<;>cases zP c.2.2.2.2.2.2.2.2.2.1 c.2.2.2.2.2.2.2.2.2.2.1 c.2.2.2.2.2.2.2.2.2.2.2.1 c.2.2.2.2.2.2.2.2.2.2.2.2.1<;>by_cases h0:1<=c.2.1/\c.2.1<=11<;>by_cases h1:(kd c).length=2<;>simp [h0,h1]
 by_cases k6:c.1=6
 ·simp only [k6];cases zV c.2.2.1 c.2.2.2.1 c.2.2.2.2.1<;>cases zP c.2.2.2.2.2.1 c.2.2.2.2.2.2.1 c.2.2.2.2.2.2.2.1 c.2.2.2.2.2.2.2.2.1<;>cases zP c.2.2.2.2.2.2.2.2.2.1 c.2.2.2.2.2.2.2.2.2.2.1 c.2.2.2.2.2.2.2.2.2.2.2.1 c.2.2.2.2.2.2.2.2.2.2.2.2.1<;>cases Fa c.2.1 ((kd c).length:Int)<;>simp
 simp [k1,k2,k3,k4,k5,k6]
section
variable (own area call:Int->Bool) (kids:Int->List Int)
def goF (F:Int->Int) (n:Int):List Int->Int->Int
 | [],start=>start
 |k::r,start=>if k≠start-1\/k<0\/(area k=true/\call n=false) then-1 else if F k<0 then-1 else goF F n r (F k)
def DD:Nat->Int->Int
 |0,_=> -1
 |f+1,n=>if n<0\/own n=false then-1 else goF area call (DD f) n (kids n).reverse n
def goT (F:Int->Int):List Int->Int->Int
 | [],x=>x+1
 |k::r,x=>if x<0\/k≠x then-1 else if F x<0 then-1 else goT F r (F x-1)
def DI:Nat->Int->Int
 |0,_=> -1
 |f+1,n=>goT (DI f) (kids n).reverse (n-1)
def GF:List Int->Int
 | []=>0
 |x::r=>max x (GF r)
def Ca:Nat->Int->Int
 |0,_=>0
 |f+1,n=>GF ((kids n).map λk=>Ca f k)+1
def E2 (i:Int):Prop:=∀k∈kids i,0<=k/\k<=i-1/\¬(area k=true/\call i=false)
theorem Iq:∀(f:Nat) (n:Int),0<=n->DI kids f n<=n
 |0,n,h=>by rw [DI];omega
 |f+1,n,h=>by
  have go:∀(l:List Int) (x:Int),x+1<=n->-1<=x->goT (DI kids f) l x<=n:=by
   intro l
   induction l with
   |nil=>intro x h1 h2;rw [goT];omega
   |cons k r ih=>
    intro x h1 h2;rw [goT];split
    ·omega
    ·split
     ·omega
     ·have:=Iq f x (by omega);exact ih _ (by omega) (by omega)
  rw [DI];exact go _ _ (by omega) (by omega)
theorem KE {l:List Int} {b:Int} (h0:0<=b):GF l<=b↔∀x∈l,x<=b:=by
 induction l with
 |nil=>simp [GF,h0]
 |cons a r ih=>simp only [GF,zamT,forall_eq_or_imp];rw [Int.max_le,ih]
theorem Jp {n b:Int} {f:Nat} (h0:1<=b):Ca kids (f+1) n<=b↔∀k∈kids n,Ca kids f k<=b-1:=by
 rw [Ca]
 constructor
 ·intro h k hk;exact (KE (l:=(kids n).map λk=>Ca kids f k) (by omega)).1 (by omega) _ (List.mem_map_of_mem (f:=λk=>Ca kids f k) hk)
 ·intro h;have:=(KE (l:=(kids n).map λk=>Ca kids f k) (b:=b-1) (by omega)).2 (by
   intro x hx;obtain ⟨k,hk,rfl⟩:=List.mem_map.1 hx;exact h k hk)
  omega
theorem Jq:∀(f g:Nat) (n:Int),n<f->n<g->(∀i,0<=i->i<=n->E2 area call kids i)->0<=n->Ca kids f n=Ca kids g n
 |0,g,n,h1,h2,_,h3=>by omega
 |f+1,0,n,h1,h2,_,h3=>by omega
 |f+1,g+1,n,h1,h2,hk,h3=>by
  rw [Ca,Ca]
  congr 2
  apply List.map_congr_left;intro k hm;have:=hk n h3 (by omega) k hm;exact Jq f g k (by omega) (by omega) (λi h0 h1=>hk i h0 (by omega)) (by omega)
theorem KJ:∀(f:Nat) (n:Int),0<=n->n<f->1<=Ca kids f n
 |0,n,h,h'=>by omega
 |f+1,n,h,h'=>by
  rw [Ca];have:∀l:List Int,0<=GF l:=by
   intro l
   induction l with
   |nil=>exact Int.le_refl 0
   |cons a r ih=>simp only [GF];omega
  have:=this ((kids n).map λk=>Ca kids f k);omega
theorem Jh:∀(f g:Nat) (n:Int),0<=n->n<g->0<=DD own area call kids f n->
  DD own area call kids f n<=n/\DI kids g n=DD own area call kids f n/\(∀i,DD own area call kids f n<=i->i<=n->own i=true/\E2 area call kids i)/\(∀h:Nat,(∀i,0<=i->i<=n->E2 area call kids i)->n<h->Ca kids h n<=f)
 |0,g,n,h0,h1,h2=>by rw [DD] at h2;omega
 |f+1,0,n,h0,h1,h2=>by omega
 |f+1,g+1,n,h0,h1,h2=>by
  rw [DD] at h2⊢;split at h2
  ·omega
  ·rename_i hc;rw [if_neg hc];have go:∀(l:List Int) (s:Int),0<=s->s<=n->0<=goF area call (DD own area call kids f) n l s->
     goF area call (DD own area call kids f) n l s<=s/\goT (DI kids g) l (s-1)=goF area call (DD own area call kids f) n l s/\(∀i,goF area call (DD own area call kids f) n l s<=i->i<=s-1->own i=true/\E2 area call kids i)/\(∀k∈l,0<=k/\k<=n-1/\¬(area k=true/\call n=false))/\(∀h:Nat,(∀i,0<=i->i<=n->E2 area call kids i)->n<h->∀k∈l,Ca kids h k<=f):=by
    intro l
    induction l with
    |nil=>
     intro s h3 h4 h5;rw [goF] at h5⊢;rw [goT];refine ⟨by omega,by omega,λi _ _=>by omega,λk hk=>(by cases hk),λh _ _ k hk=>(by cases hk)⟩
    |cons k r ih=>
     intro s h3 h4 h5;rw [goF] at h5⊢;split at h5
     ·omega
     ·rename_i hd;rw [if_neg hd];split at h5
      ·omega
      ·rename_i he;rw [if_neg he];have hk:k=s-1:=by omega
       subst hk;obtain ⟨a1,a2,a3,a4⟩:=Jh f g (s-1) (by omega) (by omega) (by omega);obtain ⟨b1,b2,b3,b4,b5⟩:=ih _ (by omega) (by omega) h5;refine ⟨by omega,?_,?_,?_,?_⟩
       ·rw [goT,if_neg (by omega),a2,if_neg he,b2]
       ·intro i i1 i2;by_cases hi:DD own area call kids f (s-1)<=i
        ·exact a3 i hi i2
        ·exact b3 i i1 (by omega)
       ·intro k hk;rcases zamT.1 hk with rfl|hk
        ·exact ⟨by omega,by omega,λh=>hd (.inr (.inr h))⟩
        ·exact b4 k hk
       ·intro h hx hy k hk;rcases zamT.1 hk with rfl|hk
        ·exact a4 h (λi i1 i2=>hx i i1 (by omega)) (by omega)
        ·exact b5 h hx hy k hk
   obtain ⟨c1,c2,c3,c4,c5⟩:=go _ n h0 (Int.le_refl n) h2;have hown:own n=true:=by cases ho:own n with
    |true=>rfl
    |false=>exact absurd (.inr ho) hc
   refine ⟨c1,by rw [DI];exact c2,?_,?_⟩
   ·intro i i1 i2;by_cases hi:i=n
    ·subst hi;exact ⟨hown,λk hk=>c4 k (List.mem_reverse.2 hk)⟩
    ·exact c3 i i1 (by omega)
   ·intro h hx hy;cases h with
    |zero=>omega
    |succ h=>
     refine (Jp kids (by omega)).2 λk hk=>?_
     have hin:=hx n h0 (Int.le_refl n) k hk;have e:Ca kids h k=Ca kids (n.toNat+1) k:=Jq area call kids _ _ _ (by omega) (by omega) (λi i1 i2=>hx i i1 (by omega)) (by omega);rw [e];have:=c5 (n.toNat+1) hx (by omega) k (List.mem_reverse.2 hk);omega
theorem KF:∀(f g h:Nat) (n:Int),0<=n->n<g->n<h->(∀i,0<=i->i<=n->own i=true/\E2 area call kids i)->0<=DI kids g n->Ca kids h n<=f->DD own area call kids f n=DI kids g n
 |0,g,h,n,h0,h1,h1',h2,h3,h4=>by have:=KJ kids h n h0 h1';omega
 |f+1,0,h,n,h0,h1,_,h2,h3,h4=>by omega
 |f+1,g+1,0,n,h0,h1,_,h2,h3,h4=>by omega
 |f+1,g+1,h+1,n,h0,h1,h1',h2,h3,h4=>by
  have hd:=(Jp kids (b:=((f+1:Nat):Int)) (by omega)).1 h4;have go:∀(l:List Int) (s:Int),(∀k∈l,k∈kids n)->0<=s->s<=n->0<=goT (DI kids g) l (s-1)->goF area call (DD own area call kids f) n l s=goT (DI kids g) l (s-1):=by
   intro l
   induction l with
   |nil=>intro s _ _ _ _;rw [goF,goT];omega
   |cons k r ih=>
    intro s hm h3 h4 h5;rw [goT] at h5⊢;rw [goF];split at h5
    ·omega
    ·rename_i hc;rw [if_neg hc];split at h5
     ·omega
     ·rename_i he;rw [if_neg he];have hk:k=s-1:=by omega
      have hin:=(h2 n h0 (Int.le_refl n)).2 k (hm k (zamN ..));have hdk:=hd k (hm k (zamN ..));subst hk;have e:=KF f g h (s-1) (by omega) (by omega) (by omega) (λi i1 i2=>h2 i i1 (by omega)) (by omega) (by omega);have hb:¬(s-1≠s-1\/s-1<0\/(area (s-1)=true/\call n=false)):=λhx=>by
       rcases hx with hx|hx|hx
       ·exact hx rfl
       ·omega
       ·exact hin.2.2 hx
      rw [if_neg hb,e,if_neg he];have hle:=Iq kids g (s-1) (by omega);exact ih _ (λk hk=>hm k (zamR _ hk)) (by omega) (by omega) h5
  rw [DI] at h3;have hn:¬(n<0\/own n=false):=λhx=>by
   rcases hx with hx|hx
   ·omega
   ·rw [(h2 n h0 (Int.le_refl n)).1] at hx;cases hx
  rw [DD,DI,if_neg hn];exact go _ n (λk hk=>List.mem_reverse.1 hk) h0 (Int.le_refl n) h3
end
theorem Cb (c:Nd):(qb c).length=14:=rfl
theorem Cc (k:Int):(qk k).length=1:=rfl
theorem Cd (k:Int):zF .i64 (qk k) 0=some k:=rfl
theorem Ce (c:Nd):zF .i64 (qb c) 0=some c.1:=rfl
theorem Cf (c:Nd):zF .i64 (qb c) 1=some c.2.1:=rfl
theorem Cg (c:Nd):zF .i64 (qb c) 2=some c.2.2.1:=rfl
theorem Ch (c:Nd):zF .i64 (qb c) 3=some c.2.2.2.1:=rfl
theorem Ci (c:Nd):bW (qb c) 4=some c.2.2.2.2.1:=rfl
theorem Cj (c:Nd):zF .i64 (qb c) 5=some c.2.2.2.2.2.1:=rfl
theorem Ck (c:Nd):zF .i64 (qb c) 6=some c.2.2.2.2.2.2.1:=rfl
theorem Cm (c:Nd):zW (qb c) 7=some c.2.2.2.2.2.2.2.1:=rfl
theorem Cn (c:Nd):zW (qb c) 8=some c.2.2.2.2.2.2.2.2.1:=rfl
theorem Co (c:Nd):zF .i64 (qb c) 9=some c.2.2.2.2.2.2.2.2.2.1:=rfl
theorem qy (c:Nd):zF .i64 (qb c) 10=some c.2.2.2.2.2.2.2.2.2.2.1:=rfl
theorem qz (c:Nd):zW (qb c) 11=some c.2.2.2.2.2.2.2.2.2.2.2.1:=rfl
theorem q7 (c:Nd):zW (qb c) 12=some c.2.2.2.2.2.2.2.2.2.2.2.2.1:=rfl
theorem q8 (c:Nd):z8 (qb c) 13=some ((c.2.2.2.2.2.2.2.2.2.2.2.2.2).map qk):=rfl
def nd0:Nd:=(0,0,0,0,⟨#[]⟩,0,0,false,false,0,0,false,false,[])
def ndi (l:List Nd) (i:Int):Nd:=l.getD i.toNat nd0
def qf (l:List Nd) (i:Int):List Int:=kd (ndi l i)
def Ej (l:List Nd) (i:Int):Bool:=Dh (ndi l i)
def Cr (l:List Nd) (i:Int):Bool:=decide ((ndi l i).1=3)
def C5 (l:List Nd) (i:Int):Bool:=decide ((ndi l i).1=6)
theorem DY {l:List Nd} {i:Int} (h:0<=i/\i<l.length):l[i.toNat]?=some (ndi l i):=by
 have:i.toNat<l.length:=by omega
 unfold ndi;rw [zZ this,List.getD_eq_getElem?_getD,zZ this];rfl
theorem IC {l:List Nd} {i:Int} (h:0<=i/\i<l.length):ndi l i∈l:=zn (DY h)
theorem Jr {α:Type} {l:List α} {j:Nat} {k:α} (h:l[j]?=some k):(l.take (j+1)).reverse=k::(l.take j).reverse:=by
 rw [List.take_add_one,h];simp
theorem Js {R:Type} {F:Int->Nat->Option R} {f:Int->R} (x:Int) (h:∀y,0<=y->y<x->Ev (F y) (f y)):∃n0,∀n,n0<=n->∀y,0<=y->y<x->F y n=some (f y):=by
 obtain ⟨n0,h0⟩:=DX (F:=F) (f:=f) ((List.range x.toNat).map λ(i:Nat)=>(i:Int)) (λc hc=>by
  obtain ⟨i,hi,rfl⟩:=List.mem_map.1 hc;have:=List.mem_range.1 hi;exact h _ (Int.natCast_nonneg i) (by omega))
 refine ⟨n0,λn hn y h1 h2=>h0 n hn y (List.mem_map.2 ⟨y.toNat,List.mem_range.2 (by omega),by omega⟩)⟩
theorem JQ (l:List Nd) (x1:Int) (f n:Nat) (hx:0<=x1/\x1<l.length) (hl:l.length<=140737488351232) (hk:(kd (ndi l x1)).length<=140737488351232)
  (hrec:∀y:Int,0<=y->y<x1->qw n (l.map qb) y=some (DI (qf l) f y)):
  ∀(j M:Nat) (s:Int),j<=(kd (ndi l x1)).length->j+1<=M->-1<=s->s<x1->
   (∃x,zO (CQ (qw n) n) M (l.map qb,x1,s,(j:Int)-1)=some (.inr x)/\goT (DI (qf l) f) ((qf l x1).take j).reverse s=x+1/\-1<=x/\x<x1)\/
   (zO (CQ (qw n) n) M (l.map qb,x1,s,(j:Int)-1)=some (.inl (-1))/\goT (DI (qf l) f) ((qf l x1).take j).reverse s= -1)
 |0,0,s,h1,h2,h3,h4=>by omega
 |0,M+1,s,h1,h2,h3,h4=>by
  refine .inl ⟨s,?_,by simp [goT],h3,h4⟩;rw [qe (r:= .inr s) (by simp [-getElem?_pos,CQ,qj])]
 |j+1,0,s,h1,h2,h3,h4=>by omega
 |j+1,M+1,s,h1,h2,h3,h4=>by
  have hc:=DY hx;have hj:j<(kd (ndi l x1)).length:=by omega
  have hg:(qf l x1)[j]?=some (qf l x1)[j]:=zZ hj;have ih:=JQ l x1 f n hx hl hk hrec j M;rw [Jr hg];generalize (qf l x1)[j]=k at hg;have hi:(((j+1:Nat):Int)-1)=(j:Int):=by omega
  rw [hi,goT];have hg':(ndi l x1).2.2.2.2.2.2.2.2.2.2.2.2.2[j]?=some k:=hg;have hj':j<(ndi l x1).2.2.2.2.2.2.2.2.2.2.2.2.2.length:=hj;by_cases hs:s<0
  ·refine .inr ⟨?_,by rw [if_pos (.inl hs)]⟩;rw [qe (r:= .inl (-1)) (by simp [-getElem?_pos,CQ,qj,hs])]
  ·by_cases hks:k=s
   ·subst hks;have hr:=hrec k (by omega) h4;by_cases ht:DI (qf l) f k<0
    ·refine .inr ⟨?_,by rw [if_neg (by omega),if_pos ht]⟩;rw [qe (r:= .inl (-1)) (by simp [-getElem?_pos,CQ,qj,hs,hc,hx,Cb,Cc,Cd,Ce,Cf,Cg,Ch,Ci,Cj,Ck,Cm,Cn,Co,qy,qz,q7,q8,hg',hj',hr,ht])]
    ·have hle:=Iq (qf l) f k (by omega);have hw:IntKind.i64.wrap (DI (qf l) f k-1)=DI (qf l) f k-1:=qp (by omega);have hw2:IntKind.i64.wrap ((j:Int)-1)=(j:Int)-1:=qp (by omega);rw [if_neg (by omega),if_neg ht];rw [CU (v':=(l.map qb,x1,DI (qf l) f k-1,(j:Int)-1)) (by simp [-getElem?_pos,CQ,qj,hs,hc,hx,Cb,Cc,Cd,Ce,Cf,Cg,Ch,Ci,Cj,Ck,Cm,Cn,Co,qy,qz,q7,q8,hg',hj',hr,ht,hw,hw2])];exact ih _ (by omega) (by omega) (by omega) (by omega)
   ·refine .inr ⟨?_,by rw [if_pos (.inr hks)]⟩;rw [qe (r:= .inl (-1)) (by simp [-getElem?_pos,CQ,qj,hs,hc,hx,Cb,Cc,Cd,Ce,Cf,Cg,Ch,Ci,Cj,Ck,Cm,Cn,Co,qy,qz,q7,q8,hg',hj',hks])]
theorem GG (l:List Nd) (hl:l.length<=140737488351232) (hk:∀c∈l,(kd c).length<=140737488351232):∀(f:Nat) (x:Int),0<=x->x<l.length->x<f->Ev (qw · (l.map qb) x) (DI (qf l) f x)
 |0,x,h0,h1,h2=>by omega
 |f+1,x,h0,h1,h2=>by
  obtain ⟨n0,hn0⟩:=Js (F:=λy n=>qw n (l.map qb) y) (f:=λy=>DI (qf l) f y) x (λy h3 h4=>GG l hl hk f y h3 (by omega) (by omega));refine ⟨n0+(kd (ndi l x)).length+5,λn hn=>?_⟩;obtain ⟨m,rfl,hm⟩:=up1 hn;have hc:=DY (l:=l) (i:=x) ⟨h0,h1⟩;have hkx:=hk _ (IC (l:=l) ⟨h0,h1⟩);have hw:IntKind.i64.wrap (x-1)=x-1:=qp (by omega);have hw2:IntKind.i64.wrap (((kd (ndi l x)).length:Int)-1)=((kd (ndi l x)).length:Int)-1:=qp (by omega);have h:=JQ l x f m ⟨h0,h1⟩ hl hkx (hn0 m (by omega)) (kd (ndi l x)).length m (x-1) (zL _) (by omega) (by omega) (by omega);have e:(qf l x).take (kd (ndi l x)).length=qf l x:=List.take_length;rw [e] at h;rw [show DI (qf l) (f+1) x=goT (DI (qf l) f) (qf l x).reverse (x-1) from rfl];unfold kd at h hw2;dsimp only;simp only [qw,FG,qj];rcases h with ⟨y,g1,g2,g3,g4⟩|⟨g1,g2⟩
  ·have hw3:IntKind.i64.wrap (y+1)=y+1:=qp (by omega);rw [g2];simp [-getElem?_pos,qj,hc,h0,h1,Cb,Cc,Cd,Ce,Cf,Cg,Ch,Ci,Cj,Ck,Cm,Cn,Co,qy,qz,q7,q8,hw,hw2,g1,hw3]
  ·rw [g2];simp [-getElem?_pos,qj,hc,h0,h1,Cb,Cc,Cd,Ce,Cf,Cg,Ch,Ci,Cj,Ck,Cm,Cn,Co,qy,qz,q7,q8,hw,hw2,g1]
theorem HV (kids:Int->List Int):∀(f:Nat) (n:Int),0<=Ca kids f n/\Ca kids f n<=f
 |0,n=>by rw [Ca];omega
 |f+1,n=>by
  have:∀l:List Int,0<=GF (l.map λk=>Ca kids f k)/\GF (l.map λk=>Ca kids f k)<=f:=by
   intro l
   induction l with
   |nil=>exact ⟨Int.le_refl 0,Int.natCast_nonneg f⟩
   |cons a r ih=>have:=HV kids f a;simp only [zanE,GF];omega
  have:=this (kids n);rw [Ca];omega
theorem JR (l:List Nd) (x1:Int) (f n:Nat) (hx:0<=x1/\x1<l.length) (hf:f<=1000) (hk:(kd (ndi l x1)).length<=140737488351232)
  (hrec:∀k∈qf l x1,qx n (l.map qb) k=some (Ca (qf l) f k)):
  ∀(m i M:Nat) (a:Int),(kd (ndi l x1)).length=i+m->m+1<=M->0<=a->
   zO (DJ (qx n) n) M (l.map qb,x1,a,(i:Int))=some (max a (GF (((qf l x1).drop i).map λk=>Ca (qf l) f k)))
 |m,i,0,a,h1,h2,h3=>by omega
 |0,i,M+1,a,h1,h2,h3=>by
  have hc:=DY hx;have hi:¬i<(ndi l x1).2.2.2.2.2.2.2.2.2.2.2.2.2.length:=by unfold kd at h1;omega
  rw [qe (r:=a) (by simp [-getElem?_pos,DJ,qj,hc,hx,Cb,Cc,Cd,Ce,Cf,Cg,Ch,Ci,Cj,Ck,Cm,Cn,Co,qy,qz,q7,q8,hi])];rw [List.drop_eq_nil_of_le (by unfold qf;omega)];simp only [List.map_nil,GF]
  congr 1
  omega
 |m+1,i,M+1,a,h1,h2,h3=>by
  have hc:=DY hx;have hj:i<(kd (ndi l x1)).length:=by omega
  have hg:(qf l x1)[i]?=some (qf l x1)[i]:=zZ hj;rw [GJ hg];have hr:=hrec _ (zn hg);generalize (qf l x1)[i]=k at hg hr;have hg':(ndi l x1).2.2.2.2.2.2.2.2.2.2.2.2.2[i]?=some k:=hg;have hj':i<(ndi l x1).2.2.2.2.2.2.2.2.2.2.2.2.2.length:=hj;have hj'':(i:Int)<((ndi l x1).2.2.2.2.2.2.2.2.2.2.2.2.2.length:Int):=by omega
  have hw:IntKind.i64.wrap ((i:Int)+1)=((i+1:Nat):Int):=by rw [qp (by omega)];omega
  have hd:=HV (qf l) f k;rw [CU (v':=(l.map qb,x1,(if Ca (qf l) f k>a then Ca (qf l) f k else a),((i+1:Nat):Int))) (by simp [-getElem?_pos,DJ,qj,hc,hx,Cb,Cc,Cd,Ce,Cf,Cg,Ch,Ci,Cj,Ck,Cm,Cn,Co,qy,qz,q7,q8,hg',hj',hr,hw])];rw [JR l x1 f n hx hf hk hrec m (i+1) M _ (by omega) (by omega) (by split<;>omega)];simp only [zanE,GF]
  congr 1
  split<;>omega
theorem GH (l:List Nd) (hl:l.length<=60) (hk:∀c∈l,(kd c).length<=140737488351232) (hin:∀i:Int,0<=i->i<l.length->E2 (Cr l) (C5 l) (qf l) i):∀(f:Nat) (x:Int),f<=1000->0<=x->x<l.length->x<f->Ev (qx · (l.map qb) x) (Ca (qf l) f x)
 |0,x,hf,h0,h1,h2=>by omega
 |f+1,x,hf,h0,h1,h2=>by
  obtain ⟨n0,hn0⟩:=DX (F:=λy n=>qx n (l.map qb) y) (f:=λy=>Ca (qf l) f y) (qf l x) (λy hy=>by
   have:=hin x h0 h1 y hy;exact GH l hl hk hin f y (by omega) (by omega) (by omega) (by omega))
  refine ⟨n0+(kd (ndi l x)).length+5,λn hn=>?_⟩;obtain ⟨m,rfl,hm⟩:=up1 hn;have h:=JR l x f m ⟨h0,h1⟩ (by omega) (hk _ (IC (l:=l) ⟨h0,h1⟩)) (hn0 m (by omega)) (kd (ndi l x)).length 0 m 0 (by omega) (by omega) (by omega);have hd:=HV (qf l) (f+1) x;have e:max 0 (GF ((qf l x).map λk=>Ca (qf l) f k))+1=Ca (qf l) (f+1) x:=by
   rw [Ca];have:∀q:List Int,0<=GF q:=by
    intro q
    induction q with
    |nil=>exact Int.le_refl 0
    |cons a r ih=>simp only [GF];omega
   have:=this ((qf l x).map λk=>Ca (qf l) f k);omega
  rw [List.drop_zero] at h;simp only [Int.natCast_zero] at h;have hw:IntKind.i64.wrap (max 0 (GF ((qf l x).map λk=>Ca (qf l) f k))+1)=Ca (qf l) (f+1) x:=by rw [e,qp (by omega)]
  simp only [qx,FI,qj,h,hw]
def inB (l:List Nd) (i:Int):Bool:=(qf l i).all λk=>decide (0<=k/\k<=i-1)&&!(Cr l k&&!C5 l i)
theorem KG {l:List Nd} {i:Int}:inB l i=true↔E2 (Cr l) (C5 l) (qf l) i:=by
 unfold inB E2;rw [zamK];refine forall_congr' λk=>forall_congr' λhk=>?_
 cases Cr l k<;>cases C5 l i<;>simp
theorem Ji (l:List Nd) (x1:Int) (n:Nat) (hx:0<=x1/\x1<l.length) (hl:l.length<=60) (hk:(kd (ndi l x1)).length<=140737488351232):
  ∀(m i M:Nat),(kd (ndi l x1)).length=i+m->m+1<=M->
   zO (qq (n+1)) M (l.map qb,x1,(i:Int))=some (if ((qf l x1).drop i).all (λk=>decide (0<=k/\k<=x1-1)&&!(Cr l k&&!C5 l x1))=true then .inr (l.map qb,x1) else .inl false)
 |m,i,0,h1,h2=>by omega
 |0,i,M+1,h1,h2=>by
  have hc:=DY hx;have hi:¬i<(ndi l x1).2.2.2.2.2.2.2.2.2.2.2.2.2.length:=by unfold kd at h1;omega
  rw [qe (r:= .inr (l.map qb,x1)) (by simp [-getElem?_pos,qq,qj,hc,hx,Cb,Cc,Cd,Ce,Cf,Cg,Ch,Ci,Cj,Ck,Cm,Cn,Co,qy,qz,q7,q8,hi])];rw [List.drop_eq_nil_of_le (by unfold qf;omega)];rfl
 |m+1,i,M+1,h1,h2=>by
  have hc:=DY hx;have hj:i<(kd (ndi l x1)).length:=by omega
  have hg:(qf l x1)[i]?=some (qf l x1)[i]:=zZ hj;rw [GJ hg];generalize (qf l x1)[i]=k at hg;have hg':(ndi l x1).2.2.2.2.2.2.2.2.2.2.2.2.2[i]?=some k:=hg;have hj':i<(ndi l x1).2.2.2.2.2.2.2.2.2.2.2.2.2.length:=hj;have hw:IntKind.i64.wrap ((i:Int)+1)=((i+1:Nat):Int):=by rw [qp (by omega)];omega
  have hw2:IntKind.i64.wrap (x1-1)=x1-1:=qp (by omega);have hin:q9 (n+1) k 0 (x1-1)=some (decide (0<=k/\k<=x1-1)):=by
   simp only [q9,E4,qj];by_cases h:k≥0<;>simp [h]
  rw [zanC];by_cases hr:0<=k/\k<=x1-1
  ·have hck:=DY (l:=l) (i:=k) ⟨hr.1,by omega⟩;have hkl:k<(l.length:Int):=by omega
   by_cases ha:(ndi l k).1=3
   ·by_cases hcl:(ndi l x1).1=6
    ·rw [CU (v':=(l.map qb,x1,((i+1:Nat):Int))) (by simp [-getElem?_pos,qq,qj,hc,hx,Cb,Cc,Cd,Ce,Cf,Cg,Ch,Ci,Cj,Ck,Cm,Cn,Co,qy,qz,q7,q8,hg',hj',hw,hw2,hin,hr,hck,hkl,ha,hcl])];rw [Ji l x1 n hx hl hk m (i+1) M (by omega) (by omega)];simp [hr,Cr,C5,ha,hcl]
    ·rw [qe (r:= .inl false) (by simp [-getElem?_pos,qq,qj,hc,hx,Cb,Cc,Cd,Ce,Cf,Cg,Ch,Ci,Cj,Ck,Cm,Cn,Co,qy,qz,q7,q8,hg',hj',hw,hw2,hin,hr,hck,hkl,ha,hcl])];simp [hr,Cr,C5,ha,hcl]
   ·rw [CU (v':=(l.map qb,x1,((i+1:Nat):Int))) (by simp [-getElem?_pos,qq,qj,hc,hx,Cb,Cc,Cd,Ce,Cf,Cg,Ch,Ci,Cj,Ck,Cm,Cn,Co,qy,qz,q7,q8,hg',hj',hw,hw2,hin,hr,hck,hkl,ha])];rw [Ji l x1 n hx hl hk m (i+1) M (by omega) (by omega)];simp [hr,Cr,C5,ha]
  ·rw [qe (r:= .inl false) (by simp [-getElem?_pos,qq,qj,hc,hx,Cb,Cc,Cd,Ce,Cf,Cg,Ch,Ci,Cj,Ck,Cm,Cn,Co,qy,qz,q7,q8,hg',hj',hw2,hin,hr])];simp [hr]
def EQ (l:List Nd) (i m:Nat):Bool:=(List.range' i m).all λ(i:Nat)=>Ej l (i:Int)&&inB l (i:Int)
theorem FB {l:List Nd}:EQ l 0 l.length=true↔∀i:Int,0<=i->i<l.length->Ej l i=true/\E2 (Cr l) (C5 l) (qf l) i:=by
 unfold EQ;rw [zamK]
 constructor
 ·intro h i h0 h1;have:=h i.toNat (by rw [List.mem_range'];exact ⟨i.toNat,by omega,by omega⟩);rw [show ((i.toNat:Nat):Int)=i by omega,z9,KG] at this;exact this
 ·intro h i hi;rw [List.mem_range'] at hi;obtain ⟨j,hj,rfl⟩:=hi;rw [z9,KG];exact h _ (by omega) (by omega)
theorem KH (l:List Nd) (n:Nat) (hl:l.length<=60) (hk:∀c∈l,(kd c).length<=140737488351232) (hn:∀c∈l,(kd c).length+2<=n)
  (hok:∀c∈l,qd n c.1 c.2.1 c.2.2.1 c.2.2.2.1 c.2.2.2.2.1 c.2.2.2.2.2.1 c.2.2.2.2.2.2.1 c.2.2.2.2.2.2.2.1 c.2.2.2.2.2.2.2.2.1 c.2.2.2.2.2.2.2.2.2.1 c.2.2.2.2.2.2.2.2.2.2.1 c.2.2.2.2.2.2.2.2.2.2.2.1 c.2.2.2.2.2.2.2.2.2.2.2.2.1 ((c.2.2.2.2.2.2.2.2.2.2.2.2.2).map qk)=some (Dh c)):
  ∀(m i M:Nat),l.length=i+m->m+1<=M->
   zO (CR n) M (l.map qb,(i:Int))=some (if EQ l i m=true then .inr (l.map qb) else .inl false)
 |m,i,0,h1,h2=>by omega
 |0,i,M+1,h1,h2=>by
  have hi:¬(i:Int)<(l.length:Int):=by omega
  rw [qe (r:= .inr (l.map qb)) (by simp [-getElem?_pos,CR,qj,hi])];rfl
 |m+1,i,M+1,h1,h2=>by
  have hi:(i:Int)<(l.length:Int):=by omega
  have hx:0<=(i:Int)/\(i:Int)<l.length:=⟨by omega,hi⟩;have hc:=DY hx;have hm:=IC hx;have ho:=hok _ hm;have hw:IntKind.i64.wrap ((i:Int)+1)=((i+1:Nat):Int):=by rw [qp (by omega)];omega
  have hnn:=hn _ hm;obtain ⟨q,rfl⟩:∃q,n=q+1:=⟨n-1,by omega⟩;have hlp:=Ji l i q hx hl (hk _ hm) (kd (ndi l i)).length 0 (q+1) (by omega) (by omega);rw [List.drop_zero,show ((qf l (i:Int)).all λk=>decide (0<=k/\k<=(i:Int)-1)&&!(Cr l k&&!C5 l (i:Int)))=inB l i from rfl] at hlp;simp only [Int.natCast_zero] at hlp;have e:EQ l i (m+1)=(Ej l i&&inB l i&&EQ l (i+1) m):=by unfold EQ;rw [List.range'_succ,zanC]
  rw [e];rw [jM] at hc;cases hnb:Dh (ndi l i) with
  |false=>
   rw [hnb] at ho;rw [qe (r:= .inl false) (by simp [-getElem?_pos,CR,qj,hi,hc,Cb,Cc,Cd,Ce,Cf,Cg,Ch,Ci,Cj,Ck,Cm,Cn,Co,qy,qz,q7,q8,ho])];simp [Ej,hnb]
  |true=>
   rw [hnb] at ho;cases hib:inB l i with
   |false=>
    rw [hib] at hlp;rw [qe (r:= .inl false) (by simp [-getElem?_pos,CR,qj,hi,hc,Cb,Cc,Cd,Ce,Cf,Cg,Ch,Ci,Cj,Ck,Cm,Cn,Co,qy,qz,q7,q8,ho,hlp])];simp
   |true=>
    rw [hib] at hlp;rw [CU (v':=(l.map qb,((i+1:Nat):Int))) (by simp [-getElem?_pos,CR,qj,hi,hc,Cb,Cc,Cd,Ce,Cf,Cg,Ch,Ci,Cj,Ck,Cm,Cn,Co,qy,qz,q7,q8,ho,hlp,hw])];rw [KH l (q+1) hl hk hn hok m (i+1) M (by omega) (by omega)];simp [Ej,hnb]
def F0 (l:List Nd):Bool:=decide (1<=l.length/\l.length<=60)&&(EQ l 0 l.length&&(decide (DI (qf l) l.length ((l.length:Int)-1)=0)&&(!Cr l ((l.length:Int)-1)&&decide (Ca (qf l) l.length ((l.length:Int)-1)<=12))))
theorem G5 (l:List Nd) (hk:∀c∈l,(kd c).length<=140737488351232/\c.2.2.2.2.1.size<=140737488351232):Ev (Cx · (l.map qb)) (F0 l):=by
 by_cases h1:1<=l.length
 ·by_cases h60:l.length<=60
  ·have hk1:∀c∈l,(kd c).length<=140737488351232:=λc hc=>(hk c hc).1
   obtain ⟨n1,g1⟩:=DX (F:=λ(c:Nd) n=>qd n c.1 c.2.1 c.2.2.1 c.2.2.2.1 c.2.2.2.2.1 c.2.2.2.2.2.1 c.2.2.2.2.2.2.1 c.2.2.2.2.2.2.2.1 c.2.2.2.2.2.2.2.2.1 c.2.2.2.2.2.2.2.2.2.1 c.2.2.2.2.2.2.2.2.2.2.1 c.2.2.2.2.2.2.2.2.2.2.2.1 c.2.2.2.2.2.2.2.2.2.2.2.2.1 ((c.2.2.2.2.2.2.2.2.2.2.2.2.2).map qk)) (f:=Dh) l (λc hc=>Fb c (hk c hc).2);obtain ⟨n2,g2⟩:=DX (F:=λ(c:Nd) n=>if (kd c).length+2<=n then some () else none) (f:=λ_=>()) l (λc hc=>⟨(kd c).length+2,λn hn=>if_pos hn⟩);obtain ⟨n3,g3⟩:=GG l (by omega) hk1 l.length ((l.length:Int)-1) (by omega) (by omega) (by omega);obtain ⟨n4,g4⟩:∃n0,EQ l 0 l.length=true->∀n,n0<=n->qx n (l.map qb) ((l.length:Int)-1)=some (Ca (qf l) l.length ((l.length:Int)-1)):=by
    by_cases ho:EQ l 0 l.length=true
    ·obtain ⟨n4,g4⟩:=GH l h60 hk1 (λ(i:Int) h0 h1=>(FB.1 ho i h0 h1).2) l.length ((l.length:Int)-1) (by omega) (by omega) (by omega) (by omega);exact ⟨n4,λ_=>g4⟩
    ·exact ⟨0,λh=>absurd h ho⟩
   refine ⟨n1+n2+n3+n4+l.length+5,λn hn=>?_⟩;obtain ⟨m,rfl,hm⟩:=up1 hn;have hlp:=KH l m h60 hk1 (λc hc=>by
    have:=g2 m (by omega) c hc;split at this
    ·assumption
    ·cases this) (g1 m (by omega)) l.length 0 m (by omega) (by omega)
   have g3:=g3 m (by omega);dsimp only at g3;simp only [Int.natCast_zero] at hlp;have hw:IntKind.i64.wrap ((l.length:Int)-1)=(l.length:Int)-1:=qp (by omega);have hx:0<=(l.length:Int)-1/\(l.length:Int)-1<l.length:=by omega
   have hc:=DY hx;have a1:¬(l.length:Int)<1:=by omega
   have a2:¬(l.length:Int)>60:=by omega
   generalize hxe:(l.length:Int)-1=x at hw hx hc g3 g4⊢;simp only [Cx,DK,qj,zamV,dQ,a1,a2,if_false,hlp];unfold F0;rw [hxe];cases ho:EQ l 0 l.length with
   |false=>simp [qj]
   |true=>
    have g4:=g4 ho m (by omega);simp only [if_true,qj,zamV,hxe,hw,g3];by_cases ht:DI (qf l) l.length x=0
    ·by_cases ha:(ndi l x).1=3
     ·simp [-getElem?_pos,qj,ht,hx,hc,Cb,Cc,Cd,Ce,Cf,Cg,Ch,Ci,Cj,Ck,Cm,Cn,Co,qy,qz,q7,q8,ha,Cr]
     ·simp [-getElem?_pos,qj,ht,hx,hc,Cb,Cc,Cd,Ce,Cf,Cg,Ch,Ci,Cj,Ck,Cm,Cn,Co,qy,qz,q7,q8,ha,Cr,g4,h1,h60]
    ·simp [-getElem?_pos,qj,ht]
  ·refine ⟨1,λn hn=>?_⟩;obtain ⟨m,rfl,hm⟩:=up1 (n0:=0) hn;have a1:¬(l.length:Int)<1:=by omega
   have a2:(l.length:Int)>60:=by omega
   simp [-getElem?_pos,Cx,DK,qj,a1,a2,F0,h60]
 ·refine ⟨1,λn hn=>?_⟩;obtain ⟨m,rfl,hm⟩:=up1 (n0:=0) hn;have a1:(l.length:Int)<1:=by omega
  simp [-getElem?_pos,Cx,DK,qj,a1,F0,h1]
theorem JS (l:List Nd) (x1 d:Int) (f n:Nat) (hx:0<=x1/\x1<l.length) (hl:l.length<=140737488351232) (hd:0<=d/\d<=1000) (hk:(kd (ndi l x1)).length<=140737488351232)
  (hrec:∀y:Int,0<=y->y<x1->qt n (l.map qb) y (d+1)=some (DD (Ej l) (Cr l) (C5 l) (qf l) f y)):
  ∀(j M:Nat) (s:Int),j<=(kd (ndi l x1)).length->j+1<=M->0<=s->s<=x1->
   zO (ql (qt n) n) M (l.map qb,x1,d,s,(j:Int)-1)=some (.inr (goF (Cr l) (C5 l) (DD (Ej l) (Cr l) (C5 l) (qf l) f) x1 ((qf l x1).take j).reverse s))\/
   (zO (ql (qt n) n) M (l.map qb,x1,d,s,(j:Int)-1)=some (.inl (-1))/\goF (Cr l) (C5 l) (DD (Ej l) (Cr l) (C5 l) (qf l) f) x1 ((qf l x1).take j).reverse s= -1)
 |0,0,s,h1,h2,h3,h4=>by omega
 |0,M+1,s,h1,h2,h3,h4=>by
  refine .inl ?_;rw [qe (r:= .inr s) (by simp [-getElem?_pos,ql,qj])];simp [goF]
 |j+1,0,s,h1,h2,h3,h4=>by omega
 |j+1,M+1,s,h1,h2,h3,h4=>by
  have hc:=DY hx;have hj:j<(kd (ndi l x1)).length:=by omega
  have hg:(qf l x1)[j]?=some (qf l x1)[j]:=zZ hj;have ih:=JS l x1 d f n hx hl hd hk hrec j M;rw [Jr hg];generalize (qf l x1)[j]=k at hg;have hi:(((j+1:Nat):Int)-1)=(j:Int):=by omega
  rw [hi,goF];have hg':(ndi l x1).2.2.2.2.2.2.2.2.2.2.2.2.2[j]?=some k:=hg;have hj':j<(ndi l x1).2.2.2.2.2.2.2.2.2.2.2.2.2.length:=hj;have hws:IntKind.i64.wrap (s-1)=s-1:=qp (by omega);by_cases hks:k=s-1
  ·by_cases hk0:k<0
   ·refine .inr ⟨?_,by rw [if_pos (.inr (.inl hk0))]⟩;rw [qe (r:= .inl (-1)) (by simp [-getElem?_pos,ql,qj,hc,hx,Cb,Cc,Cd,Ce,Cf,Cg,Ch,Ci,Cj,Ck,Cm,Cn,Co,qy,qz,q7,q8,hg',hj',hks,hws,show s-1<0 by omega])]
   ·have hws':IntKind.i64.wrap (s-1)=k:=by rw [hws,hks]
    have hkx:0<=k/\k<l.length:=by omega
    have hck:=DY hkx;by_cases hac:Cr l k=true/\C5 l x1=false
    ·have ha:(ndi l k).1=3:=by simpa [Cr] using hac.1
     have hb:¬(ndi l x1).1=6:=by simpa [C5] using hac.2
     refine .inr ⟨?_,by rw [if_pos (.inr (.inr hac))]⟩;rw [qe (r:= .inl (-1)) (by simp [-getElem?_pos,ql,qj,hc,hx,Cb,Cc,Cd,Ce,Cf,Cg,Ch,Ci,Cj,Ck,Cm,Cn,Co,qy,qz,q7,q8,hg',hj',hws',hk0,hck,hkx,ha,hb])]
    ·have hr:=hrec k (by omega) (by omega);have hwd:IntKind.i64.wrap (d+1)=d+1:=qp (by omega);have hw2:IntKind.i64.wrap ((j:Int)-1)=(j:Int)-1:=qp (by omega);have hno:¬(k≠s-1\/k<0\/(Cr l k=true/\C5 l x1=false)):=λh=>by
      rcases h with h|h|h
      ·exact h hks
      ·exact hk0 h
      ·exact hac h
     have hcase:¬(ndi l k).1=3\/((ndi l k).1=3/\(ndi l x1).1=6):=by
      by_cases ha:(ndi l k).1=3
      ·refine .inr ⟨ha,?_⟩;refine Decidable.byContradiction λhb=>hac ⟨by simp [Cr,ha],by simp [C5,hb]⟩
      ·exact .inl ha
     rw [if_neg hno];by_cases ht:DD (Ej l) (Cr l) (C5 l) (qf l) f k<0
     ·refine .inr ⟨?_,by rw [if_pos ht]⟩;rcases hcase with ha|⟨ha,hb⟩
      ·rw [qe (r:= .inl (-1)) (by simp [-getElem?_pos,ql,qj,hc,hx,Cb,Cc,Cd,Ce,Cf,Cg,Ch,Ci,Cj,Ck,Cm,Cn,Co,qy,qz,q7,q8,hg',hj',hws',hk0,hck,hkx,ha,hwd,hr,ht])]
      ·rw [qe (r:= .inl (-1)) (by simp [-getElem?_pos,ql,qj,hc,hx,Cb,Cc,Cd,Ce,Cf,Cg,Ch,Ci,Cj,Ck,Cm,Cn,Co,qy,qz,q7,q8,hg',hj',hws',hk0,hck,hkx,ha,hb,hwd,hr,ht])]
     ·rw [if_neg ht];have hb1:=(Jh (Ej l) (Cr l) (C5 l) (qf l) f (k.toNat+1) k (by omega) (by omega) (by omega)).1;have hstep:zO (ql (qt n) n) (M+1) (l.map qb,x1,d,s,(j:Int))=zO (ql (qt n) n) M (l.map qb,x1,d,DD (Ej l) (Cr l) (C5 l) (qf l) f k,(j:Int)-1):=by
       rcases hcase with ha|⟨ha,hb⟩
       ·rw [CU (v':=(l.map qb,x1,d,DD (Ej l) (Cr l) (C5 l) (qf l) f k,(j:Int)-1)) (by simp [-getElem?_pos,ql,qj,hc,hx,Cb,Cc,Cd,Ce,Cf,Cg,Ch,Ci,Cj,Ck,Cm,Cn,Co,qy,qz,q7,q8,hg',hj',hws',hk0,hck,hkx,ha,hwd,hr,ht,hw2])]
       ·rw [CU (v':=(l.map qb,x1,d,DD (Ej l) (Cr l) (C5 l) (qf l) f k,(j:Int)-1)) (by simp [-getElem?_pos,ql,qj,hc,hx,Cb,Cc,Cd,Ce,Cf,Cg,Ch,Ci,Cj,Ck,Cm,Cn,Co,qy,qz,q7,q8,hg',hj',hws',hk0,hck,hkx,ha,hb,hwd,hr,ht,hw2])]
      rw [hstep];exact ih _ (by omega) (by omega) (by omega) (by omega)
  ·refine .inr ⟨?_,by rw [if_pos (.inl hks)]⟩;rw [qe (r:= .inl (-1)) (by simp [-getElem?_pos,ql,qj,hc,hx,Cb,Cc,Cd,Ce,Cf,Cg,Ch,Ci,Cj,Ck,Cm,Cn,Co,qy,qz,q7,q8,hg',hj',hws,hks])]
theorem G6 (l:List Nd) (hl:l.length<=140737488351232) (hk:∀c∈l,(kd c).length<=140737488351232/\c.2.2.2.2.1.size<=140737488351232):∀(f:Nat) (x d:Int),x<l.length->d=12-f->0<=d->Ev (qt · (l.map qb) x d) (DD (Ej l) (Cr l) (C5 l) (qf l) f x)
 |0,x,d,h1,h2,h3=>by
  refine ⟨1,λn hn=>?_⟩;obtain ⟨m,rfl,hm⟩:=up1 (n0:=0) hn;have a:d≥12:=by omega
  by_cases h:x<0<;>simp [-getElem?_pos,qt,ES,qj,h,a,DD]
 |f+1,x,d,h1,h2,h3=>by
  by_cases h0:x<0
  ·refine ⟨1,λn hn=>?_⟩;obtain ⟨m,rfl,hm⟩:=up1 (n0:=0) hn;simp [-getElem?_pos,qt,ES,qj,h0,DD]
  ·have hx:0<=x/\x<l.length:=by omega
   have hc:=DY hx;have hm':=IC hx;obtain ⟨n0,hn0⟩:=Js (F:=λy n=>qt n (l.map qb) y (d+1)) (f:=λy=>DD (Ej l) (Cr l) (C5 l) (qf l) f y) x (λy h3 h4=>G6 l hl hk f y (d+1) (by omega) (by omega) (by omega));obtain ⟨n1,g1⟩:=JL (ndi l x) (hk _ hm').2;refine ⟨n0+n1+(kd (ndi l x)).length+5,λn hn=>?_⟩;obtain ⟨m,rfl,hm⟩:=up1 hn;have g1:=g1 m (by omega);have h:=JS l x d f m hx hl (by omega) (hk _ hm').1 (hn0 m (by omega)) (kd (ndi l x)).length m x (zL _) (by omega) (by omega) (by omega);have e:(qf l x).take (kd (ndi l x)).length=qf l x:=List.take_length;rw [e] at h;have hw2:IntKind.i64.wrap (((kd (ndi l x)).length:Int)-1)=((kd (ndi l x)).length:Int)-1:=by
    have:=(hk _ hm').1;exact qp (by omega)
   have a:¬d≥12:=by omega
   unfold kd at h hw2;dsimp only at g1⊢;simp only [qt,ES,DD,qj];cases hnb:Dh (ndi l x) with
   |false=>
    rw [hnb] at g1;simp [-getElem?_pos,qj,h0,a,hc,hx,Cb,Cc,Cd,Ce,Cf,Cg,Ch,Ci,Cj,Ck,Cm,Cn,Co,qy,qz,q7,q8,g1,Ej,hnb]
   |true=>
    rw [hnb] at g1;rcases h with h|⟨h,h'⟩
    ·simp [-getElem?_pos,qj,h0,a,hc,hx,Cb,Cc,Cd,Ce,Cf,Cg,Ch,Ci,Cj,Ck,Cm,Cn,Co,qy,qz,q7,q8,g1,Ej,hnb,hw2,h]
    ·simp only [h'];simp [-getElem?_pos,qj,h0,a,hc,hx,Cb,Cc,Cd,Ce,Cf,Cg,Ch,Ci,Cj,Ck,Cm,Cn,Co,qy,qz,q7,q8,g1,Ej,hnb,hw2,h]
theorem KT {l:List Nd}:F0 l=(decide (1<=l.length/\l.length<=60)&&(!Cr l ((l.length:Int)-1)&&decide (DD (Ej l) (Cr l) (C5 l) (qf l) 12 ((l.length:Int)-1)=0))):=by
 rw [Bool.eq_iff_iff];unfold F0;simp only [z9,dQ]
 constructor
 ·intro ⟨h1,h2,h3,h4,h5⟩;refine ⟨h1,h4,?_⟩;rw [KF (Ej l) (Cr l) (C5 l) (qf l) 12 l.length l.length ((l.length:Int)-1) (by omega) (by omega) (by omega) (λi i0 i1=>FB.1 h2 i i0 (by omega)) (by omega) (by simpa using h5)];exact h3
 ·intro ⟨h1,h4,h5⟩;obtain ⟨b1,b2,b3,b4⟩:=Jh (Ej l) (Cr l) (C5 l) (qf l) 12 l.length ((l.length:Int)-1) (by omega) (by omega) (by omega);rw [h5] at b2 b3;refine ⟨h1,FB.2 (λi i0 i1=>b3 i i0 (by omega)),b2,h4,?_⟩;have:=b4 l.length (λi i0 i1=>(b3 i i0 i1).2) (by omega);simpa using this
theorem G7 (l:List Nd) (hl:l.length<=140737488351232) (hk:∀c∈l,(kd c).length<=140737488351232/\c.2.2.2.2.1.size<=140737488351232):Ev (Cy · (l.map qb)) (F0 l):=by
 rw [KT];by_cases h:1<=l.length/\l.length<=60
 ·obtain ⟨n1,g1⟩:=G6 l hl hk 12 ((l.length:Int)-1) 0 (by omega) (by omega) (by omega);obtain ⟨n2,g2⟩:=qv (l.length:Int) 1 60;refine ⟨n1+n2+1,λn hn=>?_⟩;obtain ⟨m,rfl,hm⟩:=up1 hn;have g1:=g1 m (by omega);have g2:=g2 m (by omega);dsimp only at g1 g2⊢;have hw:IntKind.i64.wrap ((l.length:Int)-1)=(l.length:Int)-1:=qp (by omega);have hx:0<=(l.length:Int)-1/\(l.length:Int)-1<l.length:=by omega
  have hc:=DY hx;have h':(1:Int)<=l.length/\(l.length:Int)<=60:=by omega
  generalize hxe:(l.length:Int)-1=x at hw hx hc g1⊢;by_cases ha:(ndi l x).1=3
  ·simp [-getElem?_pos,Cy,DL,qj,hxe,g2,h',hw,hx,hc,Cb,Cc,Cd,Ce,Cf,Cg,Ch,Ci,Cj,Ck,Cm,Cn,Co,qy,qz,q7,q8,ha,Cr]
  ·by_cases hf:DD (Ej l) (Cr l) (C5 l) (qf l) 12 x=0<;>simp [-getElem?_pos,Cy,DL,qj,hxe,g1,g2,h,h',hw,hx,hc,Cb,Cc,Cd,Ce,Cf,Cg,Ch,Ci,Cj,Ck,Cm,Cn,Co,qy,qz,q7,q8,ha,Cr,hf]
 ·obtain ⟨n2,g2⟩:=qv (l.length:Int) 1 60;refine ⟨n2+1,λn hn=>?_⟩;obtain ⟨m,rfl,hm⟩:=up1 hn;have g2:=g2 m (by omega);dsimp only at g2⊢;have h':¬((1:Int)<=l.length/\(l.length:Int)<=60):=by omega
  simp [-getElem?_pos,Cy,DL,qj,g2,h,h']
structure Fine (l:List Nd):Prop where
 len:l.length<=60
 own:∀i:Int,0<=i->i<l.length->Ej l i=true/\E2 (Cr l) (C5 l) (qf l) i
 sz:∀c∈l,(kd c).length<=140737488351232/\c.2.2.2.2.1.size<=140737488351232
abbrev PS:=List UInt8×Bool×List Nd
def wch (c:UInt8):Bool:=(decide (65<=c.toNat)&&decide (c.toNat<=90))||((decide (48<=c.toNat)&&decide (c.toNat<=57))||c==36)
def wr (r:List UInt8):List UInt8:=r.dropWhile wch
inductive PJ where
 |bin (least deep:Int)
 |loop (least deep a:Int)
 |un (deep:Int)
 |at (deep:Int)
 |call (op deep:Int)
 |args (op deep:Int) (kids:List Int)
inductive SJ where
 |row (level:Int)
 |rl (level a:Int)
 |one
 |call (op:Int) (kids:List Int)
 |arg
def Kl (c:Nd):Prop:=(kd c).length<=2000/\c.2.2.2.2.1.size<=2000
structure Gd (p:PS):Prop where
 r:p.1.length<=1000
 n:p.2.2.length<=60
 s:∀x∈p.2.2,Kl x
structure Go (k:Nat) (q q':PS):Prop where
 suf:q'.1<:+q.1
 sum:q'.2.2.length+q'.1.length+k<=q.2.2.length+q.1.length
 sm:(∀x∈q.2.2,Kl x)->∀x∈q'.2.2,Kl x
theorem Go.trans {a b:Nat} {p q r:PS} (h:Go a p q) (h':Go b q r):Go (a+b) p r:=⟨h'.suf.trans h.suf,by have:=h.sum;have:=h'.sum;omega,λe=>h'.sm (h.sm e)⟩
theorem Go.of (q:PS) {r:List UInt8} (b:Bool) {k:Nat} (h:r<:+q.1) (hk:r.length+k<=q.1.length):Go k q (r,b,q.2.2):=⟨h,by simp only;omega,id⟩
def Iv (s:List UInt8) (q:PS):Prop:=q.1<:+s/\q.2.2.length+q.1.length<=2000
theorem Iv.go {s:List UInt8} {k:Nat} {q q':PS} (h:Iv s q) (g:Go k q q'):Iv s q':=⟨g.suf.trans h.1,by have:=g.sum;have:=h.2;omega⟩
abbrev Cl:=Int×Int×BA
def lo (l:List Nd) (i:Int):Int:=DI (qf l) (i.toNat+1) i
def Dwx {β:Type} (Q:β->Prop) (R:Nat->Tr β):Prop:=∃x,Q x/\Ev (λn=>(R n).run) x
theorem EG {α β:Type} {Q:β->Prop} {F:Nat->Option α} {r:α} {K:Nat->α->Tr β} (h:Ev F r) (hk:Dwx Q λn=>K n r):Dwx Q λn=> .opt (F n) (K n):=by
 obtain ⟨x,q,n1,h1⟩:=hk;obtain ⟨n0,h0⟩:=h;exact ⟨x,q,n0+n1,λn hn=>qa (h0 n (by omega)) (h1 n (by omega))⟩
theorem Fc {β:Type} {Q:β->Prop} {b:Bool} {t e:Nat->Tr β} (h:b=true) (hk:Dwx Q t):Dwx Q λn=> .ask b (t n) (e n):=by
 obtain ⟨x,q,n1,h1⟩:=hk;exact ⟨x,q,n1,λn hn=>qc h (h1 n hn)⟩
theorem GI {β:Type} {Q:β->Prop} {b:Bool} {t e:Nat->Tr β} (h:b=false) (hk:Dwx Q e):Dwx Q λn=> .ask b (t n) (e n):=by
 obtain ⟨x,q,n1,h1⟩:=hk;exact ⟨x,q,n1,λn hn=>qm h (h1 n hn)⟩
theorem ER {α β:Type} {Q:β->Prop} {o:Option α} {r:α} {K:Nat->α->Tr β} (h:o=some r) (hk:Dwx Q λn=>K n r):Dwx Q λn=> .opt o (K n):=by
 obtain ⟨x,q,n1,h1⟩:=hk;exact ⟨x,q,n1,λn hn=>qa h (h1 n hn)⟩
theorem qu {β:Type} {Q:β->Prop} {x:β} (h:Q x):Dwx Q λ_=> .done x:=⟨x,h,0,λ_ _=>rfl⟩
theorem EH {β:Type} {Q:β->Prop} {F:Nat->Option β} {R:Nat->Tr β} (h:Dwx Q R) (hF:∀n,F (n+1)=(R n).run):∃x,Q x/\Ev F x:=by
 obtain ⟨x,q,n1,h1⟩:=h;refine ⟨x,q,n1+1,λn hn=>?_⟩;obtain ⟨m,rfl,hm⟩:=up1 hn;rw [hF];exact h1 m hm
theorem FC {β:Type} {F:Nat->Option β} {x:β} (h:∃y,y=x/\Ev F y):Ev F x:=by
 obtain ⟨y,rfl,h⟩:=h;exact h
def Jt {α R:Type} (f:Nat->α->Option R):Nat->List α->Option R
 |_,[]=>none
 |i,a::r=>match f i a with
  |some x=>some x
  |none=>Jt f (i+1) r
theorem Kw {V R α:Type} {B:V->Tr (V⊕R)} (st:Nat->V) (l:List α) (f:Nat->α->Option R) (z:R) (hs:∀i a,l[i]?=some a->(B (st i)).run=some (match f i a with|some r=> .inr r|none=> .inl (st (i+1))))
  (he:(B (st l.length)).run=some (.inr z)):∀(M:Nat),l.length+1<=M->zO B M (st 0)=some ((Jt f 0 l).getD z):=by
 have key:∀(r:List α) (i M:Nat),l.drop i=r->i+r.length=l.length->r.length+1<=M->zO B M (st i)=some ((Jt f i r).getD z):=by
  intro r
  induction r with
  |nil=>
   intro i M h1 h2 h3;obtain ⟨M,rfl⟩:∃q,M=q+1:=⟨M-1,by omega⟩;have e:i=l.length:=by simpa using h2
   subst e;rw [qe he];rfl
  |cons a r ih=>
   intro i M h1 h2 h3;obtain ⟨M,rfl⟩:∃q,M=q+1:=⟨M-1,by omega⟩;have hg:l[i]?=some a:=by rw [<-List.head?_drop,h1];rfl
   have hd:l.drop (i+1)=r:=by rw [<-List.tail_drop,h1];rfl
   have h4:=hs i a hg;simp only [zamM] at h2 h3;unfold Jt;cases hf:f i a with
   |some x=>rw [hf] at h4;rw [qe h4];rfl
   |none=>rw [hf] at h4;rw [CU h4];exact ih (i+1) M hd (by omega) (by omega)
 exact λM h=>key l 0 M rfl (by omega) h
theorem J7 {i:Nat} {k:Int} {l:List (List PV)} {e:List PV} (hk:k=(i:Int)) (h:l[i]?=some e):decide (0<=k/\k<l.length)=true/\l[k.toNat]?=some e:=by
 subst hk;have:=(zamJ.1 h).1;exact ⟨zo (by omega),by rw [jM];exact h⟩
abbrev Sm:=Int×Int×Int×BA×Int
theorem Ju {α β:Type} {g:α->β} {l:List α} {i:Nat} {a:α} (h:l[i]?=some a):(l.take (i+1)).map g=(l.take i).map g++ [g a]:=by
 rw [List.take_add_one,h,List.map_append];rfl
theorem HW {α R:Type}:∀(l:List α) (i:Nat),Jt (λ(_:Nat) (_:α)=>(none:Option R)) i l=none
 | [],i=>rfl
 |a::l,i=>HW l (i+1)
def Kx:Nd:=(1,0,4,3,em,0,0,false,false,0,0,false,false,[])
def plB (c:Nd):Bool:=if c.1=2 then Dl c.2.2.2.2.2.1 c.2.2.2.2.2.2.1 else if c.1=3 then D1 c.2.2.2.2.2.1 c.2.2.2.2.2.2.1 c.2.2.2.2.2.2.2.2.2.1 c.2.2.2.2.2.2.2.2.2.2.1 else true
def Km (c:Nd):Int×Int×Int×Int×BA×Int×Int×Bool×Bool×Int×Int×Bool×Bool×List (List PV):=(c.1,c.2.1,c.2.2.1,c.2.2.2.1,c.2.2.2.2.1,c.2.2.2.2.2.1,c.2.2.2.2.2.2.1,c.2.2.2.2.2.2.2.1,c.2.2.2.2.2.2.2.2.1,c.2.2.2.2.2.2.2.2.2.1,c.2.2.2.2.2.2.2.2.2.2.1,c.2.2.2.2.2.2.2.2.2.2.2.1,c.2.2.2.2.2.2.2.2.2.2.2.2.1,(kd c).map qk)
def chN (f:Nd->Nd) (c:Nd):Nd:=if c.1=2\/c.1=3 then (if plB (f c)=true then f c else Kx) else c
theorem Jv (a b:Int):D1 a b a b=Dl a b:=by
 unfold D1;rw [zo (Int.le_refl a),zo (Int.le_refl b)];cases Dl a b<;>rfl
theorem Ir (c:Nd):Ev (qg · c.1 c.2.1 c.2.2.1 c.2.2.2.1 c.2.2.2.2.1 c.2.2.2.2.2.1 c.2.2.2.2.2.2.1 c.2.2.2.2.2.2.2.1 c.2.2.2.2.2.2.2.2.1 c.2.2.2.2.2.2.2.2.2.1 c.2.2.2.2.2.2.2.2.2.2.1 c.2.2.2.2.2.2.2.2.2.2.2.1 c.2.2.2.2.2.2.2.2.2.2.2.2.1 ((kd c).map qk)) (plB c):=by
 obtain ⟨k,op,ck,cn,cs,ac,ar,af,ag,bc,br,bf,bg,ks⟩:=c;have ar2:k=2->Ev (CZ · k op ck cn cs ac ar af ag bc br bf bg (ks.map qk)) (ac,ar,ac,ar):=λh=>FC (EH (R:=λn=>C8 n k op ck cn cs ac ar af ag bc br bf bg (ks.map qk)) (Fc (zanG.2 h) (qu rfl)) λn=>rfl)
 have ar3:k≠2->Ev (CZ · k op ck cn cs ac ar af ag bc br bf bg (ks.map qk)) (ac,ar,bc,br):=λh=>FC (EH (R:=λn=>C8 n k op ck cn cs ac ar af ag bc br bf bg (ks.map qk)) (GI (zanF.2 h) (qu rfl)) λn=>rfl)
 refine FC (EH (R:=λn=>C6 n k op ck cn cs ac ar af ag bc br bf bg (ks.map qk)) ?_ λn=>rfl);unfold plB;dsimp only;by_cases h2:k=2
 ·rw [if_pos h2,<-Jv];exact GI (by subst h2;rfl) (EG (ar2 h2) (EG (EF ac ar ac ar) (qu rfl)))
 ·rw [if_neg h2];refine Fc (bne_iff_ne.2 h2) ?_;by_cases h3:k=3
  ·rw [if_pos h3];exact GI (by subst h3;rfl) (EG (ar3 h2) (EG (EF ac ar bc br) (qu rfl)))
  ·rw [if_neg h3];exact Fc (bne_iff_ne.2 h3) (qu rfl)
theorem Kd {op ck cn ac ar bc br:Int} {cs:BA} {af ag bf bg:Bool} {ks:List Int}:Dh (2,op,ck,cn,cs,ac,ar,af,ag,bc,br,bf,bg,ks)=(decide (op=0)&&(zV ck cn cs&&(zP bc br bf bg&&(decide (ks.length=0)&&Dl ac ar)))):=by
 unfold Dh;dsimp only;rw [if_neg (by decide),if_pos rfl];rfl
theorem Ke {op ck cn ac ar bc br:Int} {cs:BA} {af ag bf bg:Bool} {ks:List Int}:Dh (3,op,ck,cn,cs,ac,ar,af,ag,bc,br,bf,bg,ks)=(decide (op=0)&&(zV ck cn cs&&(decide (ks.length=0)&&D1 ac ar bc br))):=by
 unfold Dh;dsimp only;rw [if_neg (by decide),if_neg (by decide),if_pos rfl];rfl
theorem Di {l:List Nd} (h:F0 l=true):(1<=l.length/\l.length<=60)/\∀c∈l,Dh c=true:=by
 unfold F0 at h;simp only [z9,dQ] at h;refine ⟨h.1,λc hc=>?_⟩;obtain ⟨i,hi⟩:=List.mem_iff_getElem?.1 hc;have hil:=(zamJ.1 hi).1;have:=(FB.1 h.2.1 (i:Int) (by omega) (by omega)).1;unfold Ej at this;have e:ndi l (i:Int)=c:=by unfold ndi;simp [hi]
 rw [e] at this;exact this
structure PlaceCh (f:Nd->Nd):Prop where
 k:∀c,(f c).1=c.1
 n:∀c,Dh c=true->c.1=2\/c.1=3->Dh (f c)=plB (f c)
 kd:∀c,kd (f c)=kd c
abbrev Vs:=Int×List Int×List Cl
abbrev Br:=BA×Int
inductive Rch (sc:Nat->List Nat) (a:Nat):Nat->Prop
 |one {j:Nat}:j∈sc a->Rch sc a j
 |more {i j:Nat}:Rch sc a i->j∈sc i->Rch sc a j
def Fs (Q:List Nat):List Nat->List Nat
 | []=>Q
 |x::M=>Fs (if Q.contains x=true then Q else Q++ [x]) M
theorem EL {x:Nat}:∀(M Q:List Nat),x∈Fs Q M↔x∈Q\/x∈M
 | [],Q=>by simp [Fs]
 |y::M,Q=>by
  unfold Fs;rw [EL M];by_cases h:Q.contains y=true
  ·rw [if_pos h];have hy:y∈Q:=by simpa using h
   rw [zamT]
   constructor
   ·rintro (h|h)
    ·exact .inl h
    ·exact .inr (.inr h)
   ·rintro (h|rfl|h)
    ·exact .inl h
    ·exact .inl hy
    ·exact .inr h
  ·rw [if_neg h,List.mem_append,zamQ,zamT,or_assoc]
theorem G8:∀(M Q:List Nat),Q.Nodup->(Fs Q M).Nodup
 | [],Q,h=>h
 |y::M,Q,h=>by
  unfold Fs;refine G8 M _ ?_;by_cases hy:Q.contains y=true
  ·rw [if_pos hy];exact h
  ·rw [if_neg hy];have hy':y∉Q:=by simpa using hy
   rw [List.nodup_append];refine ⟨h,by simp,λa ha b hb=>?_⟩;rw [zamQ] at hb;subst hb;rintro rfl;exact hy' ha
theorem Gt:∀(M Q:List Nat) (k:Nat),k<Q.length->(Fs Q M)[k]?=Q[k]?
 | [],Q,k,h=>rfl
 |y::M,Q,k,h=>by
  unfold Fs;by_cases hy:Q.contains y=true
  ·rw [if_pos hy];exact Gt M Q k h
  ·rw [if_neg hy,Gt M _ k (by simp;omega),zanA h]
theorem J8:∀(n:Nat) (l:List Nat),l.Nodup->(∀x∈l,x<n)->l.length<=n
 |0,l,_,h=>by
  cases l with
  |nil=>simp
  |cons a l=>exact absurd (h a (zamN ..)) (Nat.not_lt_zero a)
 |n+1,l,hd,h=>by
  by_cases hn:n∈l
  ·have h1:=J8 n (l.erase n) (hd.erase n) λx hx=>by
    have h2:=(hd.mem_erase_iff).1 hx;have:=h x h2.2;omega
   rw [List.length_erase_of_mem hn] at h1;omega
  ·have:=J8 n l hd λx hx=>by
    have h2:=h x hx;have h3:x≠n:=λe=>hn (e▸hx)
    omega
   omega
structure QI (sc:Nat->List Nat) (a n:Nat) (Q:List Nat) (k:Nat):Prop where
 nd:Q.Nodup
 lt:∀x∈Q,x<n
 rc:∀x∈Q,Rch sc a x
 st:∀j∈sc a,j∈Q
 dn:∀i q,i<k->Q[i]?=some q->q≠a/\∀j∈sc q,j∈Q
theorem QI.len {sc:Nat->List Nat} {a n:Nat} {Q:List Nat} {k:Nat} (h:QI sc a n Q k):Q.length<=n:=J8 n Q h.nd h.lt
theorem QI.all {sc:Nat->List Nat} {a n:Nat} {Q:List Nat} (h:QI sc a n Q Q.length):¬Rch sc a a:=by
 have key:∀x,Rch sc a x->x∈Q:=λx hx=>by
  induction hx with
  |one h1=>exact h.st _ h1
  |more h1 h2 ih=>
   obtain ⟨i,hi,e⟩:=List.mem_iff_getElem.1 ih;exact (h.dn i _ hi (by rw [zZ hi,e])).2 _ h2
 intro hr;obtain ⟨i,hi,e⟩:=List.mem_iff_getElem.1 (key a hr);exact (h.dn i _ hi (by rw [zZ hi,e])).1 rfl
theorem QI.next {sc:Nat->List Nat} {a n:Nat} {Q:List Nat} {k q:Nat} (h:QI sc a n Q k) (hq:Q[k]?=some q) (hne:q≠a) (hs:∀j∈sc q,j<n):QI sc a n (Fs Q (sc q)) (k+1):=by
 have hk:=(zamJ.1 hq).1;have hm:=zn hq;refine ⟨G8 _ _ h.nd,λx hx=>?_,λx hx=>?_,λj hj=>(EL _ _).2 (.inl (h.st j hj)),λi r hi hr=>?_⟩
 ·rcases (EL _ _).1 hx with hx|hx
  ·exact h.lt x hx
  ·exact hs x hx
 ·rcases (EL _ _).1 hx with hx|hx
  ·exact h.rc x hx
  ·exact .more (h.rc q hm) hx
 ·rw [Gt _ _ i (by omega)] at hr;by_cases e:i=k
  ·subst e;rw [hq] at hr;cases hr;exact ⟨hne,λj hj=>(EL _ _).2 (.inr hj)⟩
  ·obtain ⟨h1,h2⟩:=h.dn i r (by omega) hr;exact ⟨h1,λj hj=>(EL _ _).2 (.inl (h2 j hj))⟩
theorem QI.start {sc:Nat->List Nat} {a n:Nat} (hd:(sc a).Nodup) (hs:∀j∈sc a,j<n):QI sc a n (sc a) 0:=⟨hd,hs,λx hx=> .one hx,λj hj=>hj,λi q hi=>absurd hi (Nat.not_lt_zero i)⟩
structure MI (sc:Nat->List Nat) (a n:Nat) (met:List Bool) (Q:List Nat) (k:Nat):Prop where
 ln:met.length=n
 kl:k<=Q.length
 lt:∀x∈Q,x<n
 rc:∀x∈Q,Rch sc a x
 st:∀j∈sc a,j∈Q
 mt:∀i,met[i]?=some true->∀j∈sc i,j∈Q
 dn:∀i q,i<k->Q[i]?=some q->q≠a/\met[q]?=some true
theorem MI.all {sc:Nat->List Nat} {a n:Nat} {met:List Bool} {Q:List Nat} (h:MI sc a n met Q Q.length):¬Rch sc a a:=by
 have key:∀x,Rch sc a x->x∈Q:=λx hx=>by
  induction hx with
  |one h1=>exact h.st _ h1
  |more h1 h2 ih=>
   obtain ⟨i,hi,e⟩:=List.mem_iff_getElem.1 ih;exact h.mt _ (h.dn i _ hi (by rw [zZ hi,e])).2 _ h2
 intro hr;obtain ⟨i,hi,e⟩:=List.mem_iff_getElem.1 (key a hr);exact (h.dn i _ hi (by rw [zZ hi,e])).1 rfl
theorem MI.start {sc:Nat->List Nat} {a n:Nat} (hs:∀j∈sc a,j<n):MI sc a n (List.replicate n false) (sc a) 0:=⟨by simp,Nat.zero_le _,hs,λx hx=> .one hx,λj hj=>hj,λi hi=>by
 obtain ⟨h1,h2⟩:=zamJ.1 hi;simp at h2,λi q hi=>absurd hi (Nat.not_lt_zero i)⟩
inductive Tch (bs:Nat->Prop) (sc:Nat->List Nat):Nat->Prop
 |zero {i:Nat}:bs i->Tch bs sc i
 |lean {i k:Nat}:k∈sc i->Tch bs sc k->Tch bs sc i
structure TI (bs:Nat->Prop) (sc:Nat->List Nat) (n:Nat) (o:List Bool):Prop where
 ln:o.length=n
 ok:∀i,o[i]?=some true->Tch bs sc i
 st:∀i,i<n->bs i->o[i]?=some true
theorem TI.set {bs:Nat->Prop} {sc:Nat->List Nat} {n:Nat} {o:List Bool} (h:TI bs sc n o) {i k:Nat} (hk:k∈sc i) (ho:o[k]?=some true):TI bs sc n (o.set i true):=by
 refine ⟨by rw [List.length_set];exact h.ln,λj hj=>?_,λj hj hb=>?_⟩
 ·by_cases e:i=j
  ·subst e;exact .lean hk (h.ok k ho)
  ·rw [List.getElem?_set_ne e] at hj;exact h.ok j hj
 ·by_cases e:i=j
  ·subst e;exact List.getElem?_set_self (by rw [h.ln];exact hj)
  ·rw [List.getElem?_set_ne e];exact h.st j hj hb
theorem TI.all {bs:Nat->Prop} {sc:Nat->List Nat} {n:Nat} {o:List Bool} (h:TI bs sc n o) (hn:∀i,∀k∈sc i,k<n) (hc:∀i,i<n->∀k∈sc i,o[k]?=some true->o[i]?=some true) {i:Nat} (hi:i<n):o[i]?=some true↔Tch bs sc i:=by
 refine ⟨h.ok i,λht=>?_⟩
 induction ht with
 |zero hb=>exact h.st _ hi hb
 |lean hk _ ih=>exact hc _ hi _ hk (ih (hn _ _ hk))
structure SI (hr b2:Nat->Bool) (sc:Nat->List Nat) (n:Nat) (A:List Nat):Prop where
 nd:A.Nodup
 lt:∀a∈A,a<n
 ok:∀a∈A,Tch (λi=>hr i=true\/b2 i=true) sc a
theorem SI.all {hr b2:Nat->Bool} {sc:Nat->List Nat} {n:Nat} {A:List Nat} (h:SI hr b2 sc n A) (hn:∀i,∀k∈sc i,k<n) (hb:∀i,∀k∈sc i,hr k=true->b2 i=true)
  (hc:∀i,i<n->(b2 i||A.any λk=>(sc i).contains k)=true->(hr i||A.contains i)=true) {i:Nat} (hi:i<n):(hr i||A.contains i)=true↔Tch (λi=>hr i=true\/b2 i=true) sc i:=by
 constructor
 ·intro h1;rcases Bool.or_eq_true_iff.1 h1 with h1|h1
  ·exact .zero (.inl h1)
  ·exact h.ok i (by simpa using h1)
 ·intro ht
  induction ht with
  |zero hq=>
   rcases hq with hq|hq
   ·rw [hq];rfl
   ·exact hc _ hi (by rw [hq];rfl)
  | @lean i k hk _ ih=>
   refine hc i hi ?_;rw [Bool.or_eq_true];rcases Bool.or_eq_true_iff.1 (ih (hn _ _ hk)) with h1|h1
   ·exact .inl (hb i k hk h1)
   ·exact .inr (List.any_eq_true.2 ⟨k,by simpa using h1,by simpa using hk⟩)
structure StOk (n:Nat) (c:Sm):Prop where
 k:c.1=1\/c.1=2\/c.1=3\/c.1=4\/c.1=5
 s:c.2.2.2.1.size<=200
 m:c.1=3\/c.1=4->1<=c.2.2.2.2/\c.2.2.2.2<=n
def Sml (x:Int):Prop:=1<=x/\x<=1000000000
structure VerT (v:Vs):Prop where
 id:Sml v.1
 up:∀u∈v.2.1,Sml u
 un:v.2.1.length<=2
 cn:v.2.2.length<=120
 cs:∀c∈v.2.2,c.2.2.size<=200
structure BrT (b:Br):Prop where
 id:Sml b.2
 nm:b.1.size<=12
theorem Jj (c:Nd) (hb:(kd c).length*8<=140737488351232):∀n,(kd c).length+10<=n->D4 n c.1 c.2.1 c.2.2.1 c.2.2.2.1 c.2.2.2.2.1 c.2.2.2.2.2.1 c.2.2.2.2.2.2.1 c.2.2.2.2.2.2.2.1 c.2.2.2.2.2.2.2.2.1 c.2.2.2.2.2.2.2.2.2.1 c.2.2.2.2.2.2.2.2.2.2.1 c.2.2.2.2.2.2.2.2.2.2.2.1 c.2.2.2.2.2.2.2.2.2.2.2.2.1 ((c.2.2.2.2.2.2.2.2.2.2.2.2.2).map qk)=some (c.1,c.2.1,c.2.2.1,c.2.2.2.1,c.2.2.2.2.1,c.2.2.2.2.2.1,c.2.2.2.2.2.2.1,c.2.2.2.2.2.2.2.1,c.2.2.2.2.2.2.2.2.1,c.2.2.2.2.2.2.2.2.2.1,c.2.2.2.2.2.2.2.2.2.2.1,c.2.2.2.2.2.2.2.2.2.2.2.1,c.2.2.2.2.2.2.2.2.2.2.2.2.1,(kd c).length,(c.2.2.2.2.2.2.2.2.2.2.2.2.2).map qk):=by
 intro n hn;obtain ⟨m,rfl,hm⟩:=up1 hn;have h:=HS (kd c) hb m (by omega);obtain ⟨q,rfl⟩:∃q,m=q+3:=⟨m-3,by omega⟩;have p1:∀a b f g,DZ (q+3) a b f g=some (a,b,f,g):=λa b f g=>by
  simp only [DZ,Eo,Ff,Fe,qj]
 have p2:∀a b s,D3 (q+3) a b s=some (a,b,s):=λa b s=>by
  simp only [D3,En,qj]
 refine qa (p2 _ _ _) (qa (p1 _ _ _ _) (qa (p1 _ _ _ _) (qa h rfl)))
theorem JM (l:List Nd) (hb:l.length*120<=140737488351232) (hk:∀c∈l,(kd c).length*8<=140737488351232):Ev (Cu · (l.map qb)) (l.length,l.map qb):=by
 obtain ⟨n0,h0⟩:=DX (F:=λ(c:Nd) n=>D4 n c.1 c.2.1 c.2.2.1 c.2.2.2.1 c.2.2.2.2.1 c.2.2.2.2.2.1 c.2.2.2.2.2.2.1 c.2.2.2.2.2.2.2.1 c.2.2.2.2.2.2.2.2.1 c.2.2.2.2.2.2.2.2.2.1 c.2.2.2.2.2.2.2.2.2.2.1 c.2.2.2.2.2.2.2.2.2.2.2.1 c.2.2.2.2.2.2.2.2.2.2.2.2.1 ((c.2.2.2.2.2.2.2.2.2.2.2.2.2).map qk)) (f:=λc=>(c.1,c.2.1,c.2.2.1,c.2.2.2.1,c.2.2.2.2.1,c.2.2.2.2.2.1,c.2.2.2.2.2.2.1,c.2.2.2.2.2.2.2.1,c.2.2.2.2.2.2.2.2.1,c.2.2.2.2.2.2.2.2.2.1,c.2.2.2.2.2.2.2.2.2.2.1,c.2.2.2.2.2.2.2.2.2.2.2.1,c.2.2.2.2.2.2.2.2.2.2.2.2.1,(kd c).length,(c.2.2.2.2.2.2.2.2.2.2.2.2.2).map qk)) l (λc hc=>⟨_,Jj c (hk c hc)⟩);refine ⟨n0+l.length+5,λn hn=>?_⟩;obtain ⟨m,rfl,hm⟩:=up1 hn;simp only [Cu,EZ,qj];have h:=Jm (B:=C1 m) (rows:=l.map qb) (z:= [.i .i64 0,.i .i64 0,.i .i64 0,.i .i64 0,.s ⟨#[]⟩,.i .i64 0,.i .i64 0,.b false,.b false,.i .i64 0,.i .i64 0,.b false,.b false,.nl]) (r:=λacc=>((l.map qb).length,acc)) (M:=m)
  (λi acc e he ha hz=>by
   obtain ⟨c,hc,rfl⟩:=Jo he;have hi:i<l.length:=(zamJ.1 hc).1;have hi':(i:Int)<l.length:=by omega
   have hw:IntKind.i64.wrap ((i:Int)+1)=(i:Int)+1:=qp (by omega);have ha':acc.length=l.length:=by simpa using ha
   have hf:=h0 m (by omega) c (zn hc);simp [C1,qj,hi',hc,qb,zF,bW,zW,z8,hf,hz,ha',hw,zA,nlB,kd])
  (λacc ha=>by
   have ha':acc.length=l.length:=by simpa using ha
   simp [C1,qj])
  (by simp;omega)
 simp only [zamV,jM] at h⊢;rw [h];have h1:(120:Int)*(l.length:Int)<=140737488355328:=by omega
 have h2:(l.length:Int)<=9223372036854775807:=by omega
 simp [qj,h1,h2]
def Wmk:Nat->Int->Int
 |0,k=>k
 |j+1,k=>IntKind.i64.wrap (Wmk j k+1)
theorem Ft:∀(j:Nat) (k:Int),0<=k->k+j<=1000000000000000000->Wmk j k=k+j
 |0,k,_,_=>by simp [Wmk]
 |j+1,k,h1,h2=>by
  unfold Wmk;rw [Ft j k h1 (by omega),qp (by omega)];omega
structure MA (A:List (List PV)) (e:List PV) (len i:Nat) (ks D:List (List PV)):Prop where
 maL:A.length=len
 maG:A[i]?=some e
 maN:e.length=14
 maK:e[13]?=some (.ls ks)
 maD:A.drop (i+1)=D
 maT:i<len
theorem MA.next {A:List (List PV)} {e:List PV} {len i:Nat} {ks D:List (List PV)} (h:MA A e len i ks D) {o:Nat} {x:PV} (ho:o<13):MA (A.set ((i:Nat):Int).toNat (zA e o [x])) (zA e o [x]) len i ks D:=by
 have hl:i<A.length:=by rw [h.maL];exact h.maT
 have hs:o+ [x].length<=e.length:=by rw [h.maN];simp;omega
 rw [jM];refine ⟨by rw [List.length_set];exact h.maL,List.getElem?_set_self hl,by rw [zf _ _ _ hs];exact h.maN,?_,?_,h.maT⟩
 ·rw [zi _ _ _ hs,if_neg (by simp;omega)];exact h.maK
 ·rw [List.drop_set_of_lt (by omega)];exact h.maD
def E3 (r:List Nd):Nat:=(r.map λc=>13+(kd c).length).sum
def Eg (r:List Nd):Nat:=(r.map λc=>(kd c).length).sum
theorem Jw:∀r:List Nd,E3 r=13*r.length+Eg r
 | []=>rfl
 |c::r=>by
  have h:=Jw r;unfold E3 Eg at h⊢;simp only [zanE,List.sum_cons,zamM];omega
theorem szn (n:Nat) (c:Nd) (x:Int) (hx:0<=x/\x<=1048576) (hs:c.2.2.2.2.1.size<=140737488351232) (hk:(kd c).length<=140737488351232):
  ∃r,Em (n+2) c.1 c.2.1 c.2.2.1 c.2.2.2.1 c.2.2.2.2.1 c.2.2.2.2.2.1 c.2.2.2.2.2.2.1 c.2.2.2.2.2.2.2.1 c.2.2.2.2.2.2.2.2.1 c.2.2.2.2.2.2.2.2.2.1 c.2.2.2.2.2.2.2.2.2.2.1 c.2.2.2.2.2.2.2.2.2.2.2.1 c.2.2.2.2.2.2.2.2.2.2.2.2.1 ((c.2.2.2.2.2.2.2.2.2.2.2.2.2).map qk) x=some r/\(0<=r->r+(kd c).length<=x):=by
 have w1:IntKind.i64.wrap (x-(c.2.2.2.2.1.size:Int))=x-c.2.2.2.2.1.size:=qp (by omega);have e1:El (n+1) c.2.2.1 c.2.2.2.1 c.2.2.2.2.1 x=some (if x-c.2.2.2.2.1.size<0 then-1 else x-c.2.2.2.2.1.size):=by
  show (D2 n c.2.2.1 c.2.2.2.1 c.2.2.2.2.1 x).run=_;unfold D2;rw [w1];by_cases h:x-(c.2.2.2.2.1.size:Int)<0
  ·rw [if_pos h];exact qc (zo h) rfl
  ·rw [if_neg h];exact qm (aP h) rfl
 by_cases h:x-(c.2.2.2.2.1.size:Int)<0
 ·rw [if_pos h] at e1;exact ⟨-1,qa e1 (qc rfl rfl),λh=>by omega⟩
 ·rw [if_neg h] at e1;have hkl:((c.2.2.2.2.2.2.2.2.2.2.2.2.2).map qk).length=(kd c).length:=by rw [zamV];rfl
  have w2:IntKind.i64.wrap (x-c.2.2.2.2.1.size-(((c.2.2.2.2.2.2.2.2.2.2.2.2.2).map qk).length:Int))=x-c.2.2.2.2.1.size-(kd c).length:=by rw [hkl];exact qp (by omega)
  have e2:EW (n+1) ((c.2.2.2.2.2.2.2.2.2.2.2.2.2).map qk) (x-c.2.2.2.2.1.size)=some (if x-c.2.2.2.2.1.size-(kd c).length<0 then-1 else x-c.2.2.2.2.1.size-(kd c).length):=by
   show (Dp n ((c.2.2.2.2.2.2.2.2.2.2.2.2.2).map qk) (x-c.2.2.2.2.1.size)).run=_;unfold Dp;rw [w2];by_cases h:x-(c.2.2.2.2.1.size:Int)-(kd c).length<0
   ·rw [if_pos h];exact qc (zo h) rfl
   ·rw [if_neg h];exact qm (aP h) rfl
  by_cases h2:x-(c.2.2.2.2.1.size:Int)-(kd c).length<0
  ·rw [if_pos h2] at e2;exact ⟨-1,qa e1 (qm (aP h) (qa e2 (qc rfl rfl))),λh=>by omega⟩
  ·rw [if_neg h2] at e2;exact ⟨_,qa e1 (qm (aP h) (qa e2 (qm (aP h2) rfl))),λ_=>by omega⟩
theorem Jx (q:Nat) (l:List Nd) (hb:l.length<=140737488351232) (hk:∀c∈l,(kd c).length<=140737488351232/\c.2.2.2.2.1.size<=140737488351232):∀(r:List Nd) (i:Nat) (x:Int) (M:Nat),i+r.length=l.length->l.drop i=r->0<=x/\x<=1048576->r.length+1<=M->
  (∃y,y<0/\zO (Cz (q+2)) M (l.map qb,x,(i:Int))=some (.inl y))\/∃y,Eg r<=x/\zO (Cz (q+2)) M (l.map qb,x,(i:Int))=some (.inr y)
 | [],i,x,M,h1,hd,hx,h4=>by
  obtain ⟨M,rfl⟩:∃q,M=q+1:=⟨M-1,by omega⟩;refine .inr ⟨x,by simp [Eg];omega,qe (qm (aP (by simp at h1⊢;omega)) rfl)⟩
 |c::r,i,x,M,h1,hd,hx,h4=>by
  obtain ⟨M,rfl⟩:∃q,M=q+1:=⟨M-1,by omega⟩;simp only [zamM] at h1 h4;have hlt:i<l.length:=by omega
  rw [List.drop_eq_getElem_cons hlt,List.cons.injEq] at hd;have he:l[i]?=some c:=by rw [zZ hlt,hd.1]
  have hmem:=zn he;obtain ⟨a1,a2⟩:=J7 (k:=(i:Int)) rfl (show (l.map qb)[i]?=some (qb c) by rw [zamS,he];rfl);have w:IntKind.i64.wrap ((i:Int)+1)=((i+1:Nat):Int):=by rw [qp (by omega)];omega
  obtain ⟨y,g1,g2⟩:=szn q c x hx (hk c hmem).2 (hk c hmem).1;have hkt:Eg (c::r)=(kd c).length+Eg r:=by simp [Eg]
  have go:∀{z},(Tr.ask (decide (y<0)) (.done (.inr (.inl (-1:Int)))) (.done (.inl (l.map qb,y,IntKind.i64.wrap ((i:Int)+1)))):Tr ((List (List PV)×Int×Int)⊕(Int⊕Int))).run=z->(Cz (q+2) (l.map qb,x,(i:Int))).run=z:=fun {z} h=>
   qc (zo (by simpa using hlt)) (qc a1 (qa a2 (qc rfl (qa rfl (qa rfl (qa rfl (qa rfl (qa rfl (qa rfl (qa rfl (qa rfl (qa rfl (qa rfl (qa rfl (qa rfl (qa rfl (qa rfl (qa g1 h))))))))))))))))))
  by_cases h0:y<0
  ·exact .inl ⟨-1,by decide,qe (go (qc (zo h0) rfl))⟩
  ·have:=g2 (by omega);rw [CU (go (qm (aP h0) rfl)),w];rcases Jx q l hb hk r (i+1) y M (by omega) hd.2 (by omega) (by omega) with h|⟨z,h5,h6⟩
   ·exact .inl h
   ·exact .inr ⟨z,by rw [hkt];omega,h6⟩
theorem JN (l:List Nd) (hb:l.length<=140737488351232) (hk:∀c∈l,(kd c).length<=140737488351232/\c.2.2.2.2.1.size<=140737488351232):∀n,l.length+5<=n->∃r,EX n (l.map qb) 1048576=some r/\(0<=r->l.length<=1048576/\Eg l<=1048576):=by
 intro n hn;obtain ⟨m,rfl,hm⟩:=up1 hn;obtain ⟨q,rfl⟩:∃q,m=q+2:=⟨m-2,by omega⟩;have w:IntKind.i64.wrap ((1048576:Int)-((l.map qb).length:Int))=1048576-l.length:=by rw [zamV];exact qp (by omega)
 by_cases h0:(1048576:Int)-l.length<0
 ·exact ⟨-1,qc (zo (by rw [w];exact h0)) rfl,λh=>by omega⟩
 ·rcases Jx q l hb hk l 0 (1048576-l.length) (q+2) (by omega) rfl (by omega) (by omega) with ⟨y,h1,h2⟩|⟨y,h1,h2⟩
  ·exact ⟨y,qm (aP (by rw [w];exact h0)) (qa (by rw [w];exact h2) rfl),λh=>by omega⟩
  ·exact ⟨y,qm (aP (by rw [w];exact h0)) (qa (by rw [w];exact h2) rfl),λ_=>by omega⟩
theorem KI {r:List Nd} {c:Nd} (h:c∈r):(kd c).length<=Eg r:=by
 induction r with
 |nil=>cases h
 |cons a r ih=>
  have e:Eg (a::r)=(kd a).length+Eg r:=by simp [Eg]
  rcases zamT.1 h with rfl|h
  ·omega
  ·have:=ih h;omega
structure RtS (c:Sm):Prop where
 k:c.1=1\/c.1=2\/c.1=3\/c.1=4\/c.1=5
 s:(10:UInt8)∉c.2.2.2.1.toList
 p:c.1=1\/c.1=2->Dl c.2.1 c.2.2.1=true/\c.2.2.2.2=0
 z:¬(c.1=1\/c.1=2)->c.2.1=0/\c.2.2.1=0
 m:c.1=3\/c.1=4->1<=c.2.2.2.2/\c.2.2.2.2<=30
 q:c.1=5->c.2.2.2.2=0
theorem Fu {c:Nd} (h:Dh c=true):(kd c).length<=2000:=by
 unfold Dh at h;split at h
 ·simp only [z9,dQ] at h;omega
 ·split at h
  ·simp only [z9,dQ] at h;omega
  ·split at h
   ·simp only [z9,dQ] at h;omega
   ·split at h
    ·simp only [z9,dQ] at h;omega
    ·split at h
     ·simp only [z9,dQ] at h;omega
     ·split at h
      ·rw [z9] at h;have h1:=h.1;unfold Fa at h1;split at h1
       ·simp only [dQ] at h1;omega
       ·split at h1
        ·simp only [dQ] at h1;omega
        ·split at h1
         ·simp only [dQ] at h1;omega
         ·cases h1
      ·cases h
theorem G9 (a:Nat):∀(b:Nat) (k:Int),Wmk a (Wmk b k)=Wmk (b+a) k:=by
 induction a with
 |zero=>intro b k;rfl
 |succ a ih=>intro b k;show IntKind.i64.wrap (Wmk a (Wmk b k)+1)=_;rw [ih];rfl
theorem Jy (j:Nat) (k:Int):Wmk j (IntKind.i64.wrap (k+1))=Wmk (j+1) k:=by
 have:=G9 j 1 k;rw [Nat.add_comm] at this;exact this
def EV:Int->Nat->List Int
 |_,0=> []
 |k,n+1=>k::EV (IntKind.i64.wrap (k+1)) n
theorem GK:∀(n:Nat) (k:Int),(EV k n).length=n
 |0,_=>rfl
 |n+1,k=>by simp [EV,GK n]
theorem Jz (n len:Nat) (hb:len<=140737488351232):∀(r pre:List Int) (k:Int) (M:Nat),pre.length+r.length=len->r.length+1<=M->
  zO (De n) M (len,k,(pre.length:Int),(pre++r).map qk)=some (Wmk r.length k,(pre++EV k r.length).map qk)
 | [],pre,k,M,h1,h4=>by
  obtain ⟨M,rfl⟩:∃q,M=q+1:=⟨M-1,by simp at h4;omega⟩;have h1:pre.length=len:=by simpa using h1
  rw [qe (r:=(k,(pre++ []).map qk)) (qm (aP (by dsimp only;omega)) rfl)];rfl
 |c::r,pre,k,M,h1,h4=>by
  obtain ⟨M,rfl⟩:∃q,M=q+1:=⟨M-1,by simp at h4;omega⟩;simp only [zamM] at h1 h4;have hl:((pre++c::r).map qk).length=len:=by simp;omega
  have hg:((pre++c::r).map qk)[pre.length]?=some (qk c):=by simp
  have wi:IntKind.i64.wrap ((pre.length:Int)+1)=((pre++ [k]).length:Int):=by rw [qp (by omega)];simp
  have e1:((pre++c::r).map qk).set pre.length (zA (qk c) 0 [.i .i64 k])=((pre++ [k])++r).map qk:=by
   rw [List.map_append,zanE,List.set_append_right (h:=by simp)];simp [zA,qk]
  rw [CU (v':=(len,IntKind.i64.wrap (k+1),((pre++ [k]).length:Int),((pre++ [k])++r).map qk)) (by
   refine qc (zo (by dsimp only;omega)) (qc (zo (by dsimp only;rw [hl];omega)) (qa (by dsimp only;rw [jM];exact hg) ?_));refine qc (zo (zL 1)) ?_;dsimp only;rw [wi,jM,e1];rfl)]
  rw [Jz n len hb r (pre++ [k]) (IntKind.i64.wrap (k+1)) M (by simp;omega) (by omega),Jy];simp [EV]
theorem J0 (ks:List Int) (hb:ks.length<=140737488351232) (k:Int) (n:Nat) (hn:ks.length+5<=n):C9 n ks.length k (ks.map qk)=some (Wmk ks.length k,(EV k ks.length).map qk):=by
 obtain ⟨m,rfl,hm⟩:=up1 hn;have h:=Jz m ks.length hb ks [] k m (by simp) (by omega);exact qa h rfl
theorem J1 (n:Nat):∀(r:Nat) (pre all:List Int) (k:Int) (M:Nat),all=pre++EV k r->all.length<=140737488351232->r+1<=M->
  zO (Df n) M (all.map qk,k,(pre.length:Int))=some (.inr (Wmk r k))
 |0,pre,all,k,M,h1,hb,h4=>by
  obtain ⟨M,rfl⟩:∃q,M=q+1:=⟨M-1,by omega⟩;have hp:all.length=pre.length:=by rw [h1];simp [EV]
  exact qe (qm (aP (by simp;omega)) rfl)
 |r+1,pre,all,k,M,h1,hb,h4=>by
  obtain ⟨M,rfl⟩:∃q,M=q+1:=⟨M-1,by omega⟩;have hlen:all.length=pre.length+(r+1):=by rw [h1];simp [EV,GK]
  have hg:(all.map qk)[pre.length]?=some (qk k):=by rw [h1];simp [EV]
  have wi:IntKind.i64.wrap ((pre.length:Int)+1)=((pre++ [k]).length:Int):=by rw [qp (by omega)];simp
  rw [CU (v':=(all.map qk,IntKind.i64.wrap (k+1),((pre++ [k]).length:Int))) (by
   refine qc (zo (by simp;omega)) (qc (zo (by simp;omega)) (qa (by dsimp only;rw [jM];exact hg) ?_));refine qc rfl (qa (x:=k) rfl (qm (bne_self_eq_false' _) ?_));rw [<-wi];rfl)]
  rw [J1 n r (pre++ [k]) all (IntKind.i64.wrap (k+1)) M (by rw [h1];simp [EV]) hb (by omega),Jy]
theorem J2 (m:Nat) (hb:m<=140737488351232) (k:Int) (n:Nat) (hn:m+5<=n):EE n ((EV k m).map qk) k=some (Wmk m k):=by
 obtain ⟨q,rfl,hm⟩:=up1 hn;have h:=J1 q m [] (EV k m) k q rfl (by rw [GK];exact hb) (by omega);exact qa h rfl
def b3 (x:Int):Bool:=Int.tmod x 3==0
noncomputable def Fv (k:Int) (c:Nd):Nd:=(Wmk 0 k,Wmk 1 k,Wmk 2 k,Wmk 3 k,mtx (Wmk 4 k),Wmk 5 k,Wmk 6 k,b3 (Wmk 7 k),b3 (Wmk 8 k),Wmk 9 k,Wmk 10 k,b3 (Wmk 11 k),b3 (Wmk 12 k),EV (Wmk 13 k) (kd c).length)
noncomputable def Gu:Int->List Nd->List Nd
 |_,[]=> []
 |k,c::r=>Fv k c::Gu (Wmk (kd c).length (Wmk 13 k)) r
theorem HA:∀(l:List Nd) (k:Int),(Gu k l).length=l.length
 | [],_=>rfl
 |c::r,k=>by simp [Gu,HA r]
structure MB (A:List (List PV)) (e:List PV) (i:Nat) (P D:List (List PV)):Prop where
 mbA:A=P++e::D
 mbP:P.length=i
theorem MB.next {A:List (List PV)} {e e':List PV} {i:Nat} {P D:List (List PV)} (h:MB A e i P D):MB (A.set ((i:Nat):Int).toNat e') e' i P D:=by
 rw [jM];refine ⟨?_,h.mbP⟩;rw [h.mbA,List.set_append_right (h:=by have:=h.mbP;omega),h.mbP,Nat.sub_self];rfl
theorem MB.nx {A:List (List PV)} {e:List PV} {i:Nat} {P D:List (List PV)} (h:MB A e i P D) {o:Nat} {x:PV} {e':List PV} (he:zA e o [x]=e'):MB (A.set ((i:Nat):Int).toNat (zA e o [x])) e' i P D:=by
 have:=h.next (e':=zA e o [x])
 rw [he] at this⊢;exact this
noncomputable def eP (k:Int) (c:Nd) (j:Nat):List PV:=(qb (Fv k c)).take j++(qb c).drop j
theorem Ko (k:Int) (c:Nd) {j:Nat} (hj:j<=14):(eP k c j).length=14:=by
 have h1:(qb (Fv k c)).length=14:=rfl;have h2:(qb c).length=14:=rfl;unfold eP;rw [zamO,List.length_take,List.length_drop,h1,h2];omega
theorem EM (k:Int) (c:Nd) {j:Nat} (hj:j<14) {x:PV} (hx:(qb (Fv k c))[j]?=some x):zA (eP k c j) j [x]=eP k c (j+1):=by
 have h1:(qb (Fv k c)).length=14:=rfl;have ht:((qb (Fv k c)).take j).length=j:=by rw [List.length_take,h1];omega
 unfold eP zA;have e1:((qb (Fv k c)).take j++(qb c).drop j).take j=(qb (Fv k c)).take j:=List.take_left' ht;have e2:((qb (Fv k c)).take j++(qb c).drop j).drop (j+ [x].length)=(qb c).drop (j+1):=by
  rw [List.drop_append,ht,List.drop_eq_nil_of_le (by rw [ht];simp),List.nil_append,List.drop_drop]
  congr 1
  simp
  try omega
 rw [e1,e2,List.take_add_one,hx];rfl
theorem Kf (k:Int) (c:Nd):(eP k c 13).set 13 (.ls ((EV (Wmk 13 k) (kd c).length).map qk))=qb (Fv k c):=rfl
theorem MB.get {A:List (List PV)} {e:List PV} {i:Nat} {P D:List (List PV)} (h:MB A e i P D):A[((i:Nat):Int).toNat]?=some e:=by
 rw [jM,h.mbA,zanB (by have:=h.mbP;omega),h.mbP,Nat.sub_self];rfl
theorem HX {X:Type} {A:List (List PV)} {e:List PV} {i len:Nat} {P D:List (List PV)} (h:MB A e i P D) (hl:P.length+(D.length+1)=len) {o:Nat} (ho:o+1<=e.length) {K:List PV->Tr X} {y:Option X} (hk:(K e).run=y):
  (Tr.ask (decide (len=A.length/\0<=((i:Nat):Int)/\((i:Nat):Int)<((len:Nat):Int))) (.opt (A[((i:Nat):Int).toNat]?) λe'=> .ask (decide (o+1<=e'.length)) (K e') .fail) .fail).run=y:=
 qc (zo ⟨by rw [h.mbA];simp;omega,by omega,by have:=h.mbP;omega⟩) (qa h.get (qc (zo ho) hk))
theorem K3 {X:Type} {A:List (List PV)} {e:List PV} {i len:Nat} {P D:List (List PV)} (h:MB A e i P D) (hl:P.length+(D.length+1)=len) {ks:List (List PV)} (hks:z8 e 13=some ks) {Fm:List (List PV)->List (List PV)->Option (Int×List (List PV))} {k':Int} {ks':List (List PV)} (hF:Fm ks ks=some (k',ks')) (hlk:ks'.length=ks.length) {K:Int×List (List PV)->List PV->Tr X} {y:Option X} (hk:(K (k',ks') e).run=y):
  (Tr.ask (decide (len=A.length/\0<=((i:Nat):Int)/\((i:Nat):Int)<((len:Nat):Int))) (.opt (A[((i:Nat):Int).toNat]?) λe1=> .opt (z8 e1 13) λy1=> .opt (A[((i:Nat):Int).toNat]?) λe2=> .opt (z8 e2 13) λy2=> .ask (decide (y1.length=y2.length)) (.opt (Fm y1 y2) λr=> .opt (A[((i:Nat):Int).toNat]?) λe3=> .ask (decide (r.2.length=y2.length)) (K r e3) .fail) .fail) .fail).run=y:=
 qc (zo ⟨by rw [h.mbA];simp;omega,by omega,by have:=h.mbP;omega⟩) (qa h.get (qa hks (qa h.get (qa hks (qc (zo rfl) (qa hF (qa h.get (qc (zo hlk) hk))))))))
set_option maxHeartbeats 2000000 in
theorem J3 (n len:Nat) (hb:len<=140737488351232) (hn:25<=n):∀(r pre:List Nd) (k:Int) (M:Nat),pre.length+r.length=len->1<=k->k+E3 r<=1000000000000000->(∀c∈r,(kd c).length+5<=n/\(kd c).length<=140737488351232)->r.length+1<=M->
  zO (CX n) M (len,k,(pre.length:Int),(pre++r).map qb)=some (Wmk (E3 r) k,(pre++Gu k r).map qb)
 | [],pre,k,M,h1,h2,h5,hc,h4=>by
  obtain ⟨M,rfl⟩:∃q,M=q+1:=⟨M-1,by omega⟩;have h1:pre.length=len:=by simpa using h1
  rw [qe (r:=(k,(pre++ []).map qb)) (qm (aP (by dsimp only;omega)) rfl)];rfl
 |c::r,pre,k,M,h1,h2,h5,hc,h4=>by
  obtain ⟨M,rfl⟩:∃q,M=q+1:=⟨M-1,by omega⟩;simp only [zamM] at h1 h4;have ht:E3 (c::r)=13+(kd c).length+E3 r:=by simp [E3]
  rw [ht] at h5;have hln:(pre.map qb).length+((r.map qb).length+1)=len:=by simp;omega
  have m0:MB ((pre++c::r).map qb) (qb c) pre.length (pre.map qb) (r.map qb):=⟨by simp,by simp⟩;have wi:IntKind.i64.wrap ((pre.length:Int)+1)=((pre++ [Fv k c]).length:Int):=by rw [qp (by omega)];simp
  have w4:=Ft 4 k (by omega) (by omega);have w13:=Ft 13 k (by omega) (by omega);have htx:Cp n (Wmk 4 k)=some (mtx (Wmk 4 k)):=KR (by omega) hn;obtain ⟨hk1,hk2⟩:=hc c (zamN ..);have q2:=J0 (kd c) hk2 (Wmk 13 k) n hk1;have hkl:((kd c).map qk).length=(kd c).length:=zamV ..;have fnn:∀{A13:List (List PV)},MB A13 (qb (Fv k c)) pre.length (pre.map qb) (r.map qb)->zO (CX n) M (len,Wmk (kd c).length (Wmk 13 k),IntKind.i64.wrap ((pre.length:Int)+1),A13)=some (Wmk (E3 (c::r)) k,(pre++Gu k (c::r)).map qb):=fun {A13} h=>by
   have w14:Wmk (kd c).length (Wmk 13 k)=k+13+(kd c).length:=by rw [Ft _ _ (by omega) (by omega),w13];omega
   have h6:=J3 n len hb hn r (pre++ [Fv k c]) (Wmk (kd c).length (Wmk 13 k)) M (by simp;omega) (by omega) (by omega) (λc' hc'=>hc c' (zamR _ hc')) (by omega);have eA:A13=((pre++ [Fv k c])++r).map qb:=by rw [h.mbA];simp
   rw [wi,eA,h6,G9,G9,ht,List.append_assoc,<-Nat.add_assoc];rfl
  have stp:∃v',(CX n (len,k,(pre.length:Int),(pre++c::r).map qb)).run=some (.inl v')/\zO (CX n) M v'=some (Wmk (E3 (c::r)) k,(pre++Gu k (c::r)).map qb):=by
   have m0:MB ((pre++c::r).map qb) (eP k c 0) pre.length (pre.map qb) (r.map qb):=m0;have m1:=m0.nx (EM k c (j:=0) (by decide) (x:= .i .i64 (Wmk 0 k)) rfl);have m2:=m1.nx (EM k c (j:=1) (by decide) (x:= .i .i64 (Wmk 1 k)) rfl);have m3:=m2.nx (EM k c (j:=2) (by decide) (x:= .i .i64 (Wmk 2 k)) rfl);have m4:=m3.nx (EM k c (j:=3) (by decide) (x:= .i .i64 (Wmk 3 k)) rfl);have m5:=m4.nx (EM k c (j:=4) (by decide) (x:= .s (mtx (Wmk 4 k))) rfl);have m6:=m5.nx (EM k c (j:=5) (by decide) (x:= .i .i64 (Wmk 5 k)) rfl);have m7:=m6.nx (EM k c (j:=6) (by decide) (x:= .i .i64 (Wmk 6 k)) rfl);have m8:=m7.nx (EM k c (j:=7) (by decide) (x:= .b (b3 (Wmk 7 k))) rfl);have m9:=m8.nx (EM k c (j:=8) (by decide) (x:= .b (b3 (Wmk 8 k))) rfl);have m10:=m9.nx (EM k c (j:=9) (by decide) (x:= .i .i64 (Wmk 9 k)) rfl);have m11:=m10.nx (EM k c (j:=10) (by decide) (x:= .i .i64 (Wmk 10 k)) rfl);have m12:=m11.nx (EM k c (j:=11) (by decide) (x:= .b (b3 (Wmk 11 k))) rfl);have m13:=m12.nx (EM k c (j:=12) (by decide) (x:= .b (b3 (Wmk 12 k))) rfl);have lnj:∀j,j+1<=14->j+1<=(eP k c j).length:=λj hj=>by rw [Ko k c (by omega)];exact hj
   refine ⟨?v,qc (zo (by dsimp only;omega)) ?w,?h⟩
   case w=>
    refine HX (o:=0) m0 hln (lnj 0 (by decide)) ?_;refine HX (o:=1) m1 hln (lnj 1 (by decide)) ?_;refine HX (o:=2) m2 hln (lnj 2 (by decide)) ?_;refine HX (o:=3) m3 hln (lnj 3 (by decide)) ?_;refine qa htx ?_;refine HX (o:=4) m4 hln (lnj 4 (by decide)) ?_;refine HX (o:=5) m5 hln (lnj 5 (by decide)) ?_;refine HX (o:=6) m6 hln (lnj 6 (by decide)) ?_;refine HX (o:=7) m7 hln (lnj 7 (by decide)) ?_;refine HX (o:=8) m8 hln (lnj 8 (by decide)) ?_;refine HX (o:=9) m9 hln (lnj 9 (by decide)) ?_;refine HX (o:=10) m10 hln (lnj 10 (by decide)) ?_;refine HX (o:=11) m11 hln (lnj 11 (by decide)) ?_;refine HX (o:=12) m12 hln (lnj 12 (by decide)) ?_;refine K3 m13 hln (ks:=(kd c).map qk) rfl (Fm:=λa b=>C9 n a.length (Wmk 13 k) b) (by show C9 n ((kd c).map qk).length (Wmk 13 k) ((kd c).map qk)=_;rw [hkl];exact q2) (by rw [zamV,GK,hkl]) ?z
    case z=>exact rfl
   case h=>exact fnn (Kf k c▸m13.next (e':=(eP k c 13).set 13 (.ls ((EV (Wmk 13 k) (kd c).length).map qk))))
  obtain ⟨v',h6,h7⟩:=stp;rw [CU h6,h7]
theorem JU (l:List Nd) (hl:l.length<=140737488351232) (hk:∀c∈l,(kd c).length<=140737488351232) (ht:E3 l<=100000000000000):∀n,Eg l+l.length+40<=n->DV n l.length 1 (l.map qb)=some (1+(E3 l:Int),(Gu 1 l).map qb):=by
 intro n hn;obtain ⟨m,rfl,hm⟩:=up1 hn;have h:=J3 m l.length hl (by omega) l [] 1 m (by simp) (by decide) (by omega) (λc hc=>⟨by have:=KI hc;omega,hk c hc⟩) (by omega);rw [Ft _ _ (by decide) (by omega)] at h;exact qa h rfl
theorem HB {X β:Type} {A:List (List PV)} {e:List PV} {i:Nat} (ha:A[i]?=some e) (hn:e.length=14) {f:List PV->Option β} {y:β} (hf:f e=some y) {K:β->Tr X} {z:Option X} (hk:(K y).run=z):
  (Tr.ask (decide (0<=((i:Nat):Int)/\((i:Nat):Int)<A.length)) (.opt (A[((i:Nat):Int).toNat]?) λe'=> .ask (decide (e'.length=14)) (.opt (f e') K) .fail) .fail).run=z:=by
 have hi:=(zamJ.1 ha).1;exact qc (zo ⟨by omega,by omega⟩) (qa (by rw [jM];exact ha) (qc (zo hn) (qa hf hk)))
theorem bnn (b:Bool):(!(b==b))=false:=by cases b<;>rfl
theorem bns (s:BA):(!(s.toList==s.toList))=false:=by simp
set_option maxHeartbeats 2000000 in
theorem J4 (n:Nat) (hn:25<=n):∀(r pre all:List Nd) (k:Int) (M:Nat),all=pre++Gu k r->all.length<=140737488351232->1<=k->k+E3 r<=1000000000000000->(∀c∈r,(kd c).length+5<=n/\(kd c).length<=140737488351232)->r.length+1<=M->
  zO (DC n) M (all.map qb,k,(pre.length:Int))=some (.inr (Wmk (E3 r) k))
 | [],pre,all,k,M,h1,hb,h2,h5,hc,h4=>by
  obtain ⟨M,rfl⟩:∃q,M=q+1:=⟨M-1,by simp at h4;omega⟩;have hp:all.length=pre.length:=by rw [h1];simp [Gu]
  exact qe (qm (aP (by simp;omega)) rfl)
 |c::r,pre,all,k,M,h1,hb,h2,h5,hc,h4=>by
  obtain ⟨M,rfl⟩:∃q,M=q+1:=⟨M-1,by simp at h4;omega⟩;simp only [zamM] at h4;have ht:E3 (c::r)=13+(kd c).length+E3 r:=by simp [E3]
  rw [ht] at h5;have hlen:all.length=pre.length+(r.length+1):=by rw [h1];simp [Gu,HA]
  have hg:(all.map qb)[pre.length]?=some (qb (Fv k c)):=by rw [h1];simp [Gu]
  have wi:IntKind.i64.wrap ((pre.length:Int)+1)=((pre++ [Fv k c]).length:Int):=by rw [qp (by omega)];simp
  have w4:=Ft 4 k (by omega) (by omega);have w13:=Ft 13 k (by omega) (by omega);have htx:Cp n (Wmk 4 k)=some (mtx (Wmk 4 k)):=KR (by omega) hn;obtain ⟨hk1,hk2⟩:=hc c (zamN ..);have q2:=J2 (kd c).length hk2 (Wmk 13 k) n hk1;have w14:Wmk (kd c).length (Wmk 13 k)=k+13+(kd c).length:=by rw [Ft _ _ (by omega) (by omega),w13];omega
  have hL:(qb (Fv k c)).length=14:=rfl;have stp:(DC n (all.map qb,k,(pre.length:Int))).run=some (.inl (all.map qb,Wmk (kd c).length (Wmk 13 k),((pre++ [Fv k c]).length:Int))):=by
   refine qc (zo (by simp;omega)) (HB hg hL (y:=Wmk 0 k) rfl (qm (bne_self_eq_false' _) ?_));refine HB hg hL (y:=Wmk 1 k) rfl (qm (bne_self_eq_false' _) ?_);refine HB hg hL (y:=Wmk 2 k) rfl (qm (bne_self_eq_false' _) ?_);refine HB hg hL (y:=Wmk 3 k) rfl (qm (bne_self_eq_false' _) ?_);refine HB hg hL (y:=mtx (Wmk 4 k)) rfl (qa htx (qm (bns _) ?_));refine HB hg hL (y:=Wmk 5 k) rfl (qm (bne_self_eq_false' _) ?_);refine HB hg hL (y:=Wmk 6 k) rfl (qm (bne_self_eq_false' _) ?_);refine HB hg hL (y:=b3 (Wmk 7 k)) rfl (qm (bnn _) ?_);refine HB hg hL (y:=b3 (Wmk 8 k)) rfl (qm (bnn _) ?_);refine HB hg hL (y:=Wmk 9 k) rfl (qm (bne_self_eq_false' _) ?_);refine HB hg hL (y:=Wmk 10 k) rfl (qm (bne_self_eq_false' _) ?_);refine HB hg hL (y:=b3 (Wmk 11 k)) rfl (qm (bnn _) ?_);refine HB hg hL (y:=b3 (Wmk 12 k)) rfl (qm (bnn _) ?_);refine HB hg hL (y:=(EV (Wmk 13 k) (kd c).length).map qk) rfl (qa q2 (qm (aP (by rw [w14];omega)) ?_));rw [<-wi];rfl
  rw [CU stp,J4 n hn r (pre++ [Fv k c]) all (Wmk (kd c).length (Wmk 13 k)) M (by rw [h1];simp [Gu]) hb (by omega) (by omega) (λc' hc'=>hc c' (zamR _ hc')) (by omega),G9,G9,ht,<-Nat.add_assoc]
theorem KL (l:List Nd) (hl:l.length<=140737488351232) (hk:∀c∈l,(kd c).length<=140737488351232) (ht:E3 l<=100000000000000):∀n,Eg l+l.length+40<=n->DW n ((Gu 1 l).map qb) 1=some (1+(E3 l:Int)):=by
 intro n hn;obtain ⟨m,rfl,hm⟩:=up1 hn;have h:=J4 m (by omega) l [] (Gu 1 l) 1 m rfl (by rw [HA];exact hl) (by decide) (by omega) (λc hc=>⟨by have:=KI hc;omega,hk c hc⟩) (by omega);rw [Ft _ _ (by decide) (by omega)] at h;exact qa h rfl
theorem Is (l:List Int) (hb:l.length<=1000000):Ev (qh · (l.map qk)) (l.length,l.map qk):=by
 refine FC (EH (R:=λn=>C2 n (l.map qk)) (Fc (zo ⟨rfl,by decide,by decide,by simp;omega,by simp [qk]⟩) (Fc ?_ (qu (by simp)))) λn=>rfl);cases l with
 |nil=>rfl
 |cons a r=>rfl
theorem Ek {m j:Nat} {acc ks:List (List PV)} (hm:m=acc.length) (hb:m<=1000) (hj:j=ks.length):decide (m=acc.length/\(m+1)*120<=140737488355328/\j=ks.length)=true:=zo ⟨hm,by omega,hj⟩
theorem ID {m:Nat} {acc:List (List PV)} (hm:m=acc.length) (hb:m<=1000):decide (m=acc.length/\(m+1)*120<=140737488355328)=true:=zo ⟨hm,by omega⟩
theorem HY:Ev (λn=>qi n) (1,0,4,3,em,0,0,false,false,0,0,false,false):=FC (EH (R:=λn=>FL n) (EG (H9 3) (qu rfl)) λn=>rfl)
theorem KU (m sz ty:Nat) (b:Bool) (g:List Nd):zd (⟨(.tup [(false,[(.own 0 0 0 m)]),(false,[(.p (.b b))])]),[],[⟨0,sz,ty,(.deep [(13,1,2)] (g.map qb))⟩]⟩:Res)=true:=by
 have h1:mJ (⟨0,sz,ty,(.deep [(13,1,2)] (g.map qb))⟩:Blk)=true:=by
  unfold mJ;simp only [List.all_map];refine zamK.2 λc _=>?_
  show kE [(13,1,2)] 0 (qb c)=true;have hk:((c.2.2.2.2.2.2.2.2.2.2.2.2.2).map qk).all (λe=>e.all λy=>(CV.p y).flat)=true:=by
   rw [List.all_map];exact zamK.2 λx _=>rfl
  unfold qb;simp only [kE,Go.Eng.look];simp [CV.flat];intro a _ y hy;simp only [qk,zamQ] at hy;subst hy;rfl
 simp only [zd,AV.cvs,List.flatMap_cons,List.flatMap_nil,zanC,List.all_nil,List.all_append,tA,CV.flat,h1,Bool.and_true,Bool.true_and]
theorem Kp {g:List Nd} (hl:g.length<=1000) (hk:∀c∈g,(kd c).length<=2000):E3 g<=10000000:=by
 have:∀r:List Nd,(∀c∈r,(kd c).length<=2000)->E3 r<=2013*r.length:=by
  intro r
  induction r with
  |nil=>intro _;exact zL _
  |cons c r ih=>
   intro h;have h1:=ih λx hx=>h x (zamR _ hx)
   have h2:=h c (zamN ..);unfold E3 at h1⊢;simp only [zanE,List.sum_cons,zamM];omega
 have:=this g hk;omega
structure Gn (g:List Nd):Prop where
 gnL:g.length<=1000
 gnK:∀c∈g,(kd c).length<=2000
def FW (cl:Bool) (row many o n:Int):Int:=if n<row then n else if cl=false then IntKind.i64.wrap (n+many) else if n<IntKind.i64.wrap (row+many) then o else IntKind.i64.wrap (n-many)
def evN (cl:Bool) (row many:Int) (c:Nd):Nd:=(c.1,c.2.1,c.2.2.1,c.2.2.2.1,c.2.2.2.2.1,c.2.2.2.2.2.1,FW cl row many (if c.1=3 then row else 0) c.2.2.2.2.2.2.1,c.2.2.2.2.2.2.2.1,c.2.2.2.2.2.2.2.2.1,c.2.2.2.2.2.2.2.2.2.1,(if c.1=3 then FW cl row many (row-1) c.2.2.2.2.2.2.2.2.2.2.1 else c.2.2.2.2.2.2.2.2.2.2.1),c.2.2.2.2.2.2.2.2.2.2.2.1,c.2.2.2.2.2.2.2.2.2.2.2.2.1,kd c)
def ocR (cl:Bool) (row many:Int) (l:List Nd):List Nd×Bool:=if F0 l=true/\(1<=row/\row<=99)/\(1<=many/\many<=99) then (l.map (chN (evN cl row many)),true) else ([],false)
theorem Kg (a:Int):Dl a 0=false:=by
 unfold Dl;rw [aP (p:=(1:Int)<=0/\(0:Int)<=99) (by omega),Bool.and_false]
theorem KV {cl:Bool} {row many:Int} {c:Nd} (h:Dh c=true) (hk:c.1=2\/c.1=3):Dh (evN cl row many c)=plB (evN cl row many c)/\plB c=true/\kd c= []:=by
 obtain ⟨k,op,ck,cn,cs,ac,ar,af,ag,bc,br,bf,bg,ks⟩:=c;dsimp only at hk;rcases hk with rfl|rfl
 ·unfold evN;dsimp only;rw [if_neg (by decide),if_neg (by decide)];rw [Kd] at h⊢;simp only [z9,dQ] at h;obtain ⟨h1,h2,h3,h4,h5⟩:=h;refine ⟨?_,h5,bA h4⟩;have hk0:(kd ((2,op,ck,cn,cs,ac,ar,af,ag,bc,br,bf,bg,ks):Nd)).length=0:=h4;rw [zo h1,h2,h3,zo hk0];rfl
 ·unfold evN;dsimp only;rw [if_pos rfl,if_pos rfl];rw [Ke] at h⊢;simp only [z9,dQ] at h;obtain ⟨h1,h2,h3,h4⟩:=h;refine ⟨?_,h4,bA h3⟩;have hk0:(kd ((3,op,ck,cn,cs,ac,ar,af,ag,bc,br,bf,bg,ks):Nd)).length=0:=h3;rw [zo h1,h2,zo hk0];rfl
theorem He (row many:Int) (hr:1<=row/\row<=99) (hm:1<=many/\many<=99) (o k op ck cn:Int) (cs:BA) (ac ar:Int) (af ag:Bool) (bc br:Int) (bf bg:Bool) (ks:List (List PV)):Ev (Dr · o row many k op ck cn cs ac ar af ag bc br bf bg ks) (k,op,ck,cn,cs,ac,FW true row many o ar,af,ag,bc,br,bf,bg,ks):=by
 have wq:IntKind.i64.wrap (row+many)=row+many:=qp (by omega);refine FC (EH (R:=λn=>Eb n o row many k op ck cn cs ac ar af ag bc br bf bg ks) (ER rfl (ER rfl ?_)) λn=>rfl);unfold FW;rw [wq];by_cases h1:ar≥row+many
 ·rw [if_neg (by omega),if_neg (by decide),if_neg (by omega)];exact Fc (zo h1) (ER rfl (qu rfl))
 ·refine GI (aP h1) (ER rfl ?_);by_cases h2:ar≥row
  ·rw [if_neg (by omega),if_neg (by decide),if_pos (by omega)];exact Fc (zo h2) (qu rfl)
  ·rw [if_pos (by omega)];exact GI (aP h2) (qu rfl)
theorem Jk (row many:Int) (hr:1<=row/\row<=99) (hm:1<=many/\many<=99) (o k op ck cn:Int) (cs:BA) (ac ar:Int) (af ag:Bool) (bc br:Int) (bf bg:Bool) (ks:List (List PV)):Ev (Dy · o row many k op ck cn cs ac ar af ag bc br bf bg ks) (k,op,ck,cn,cs,ac,ar,af,ag,bc,FW true row many o br,bf,bg,ks):=by
 have wq:IntKind.i64.wrap (row+many)=row+many:=qp (by omega);refine FC (EH (R:=λn=>Dw n o row many k op ck cn cs ac ar af ag bc br bf bg ks) (ER rfl (ER rfl ?_)) λn=>rfl);unfold FW;rw [wq];by_cases h1:br≥row+many
 ·rw [if_neg (by omega),if_neg (by decide),if_neg (by omega)];exact Fc (zo h1) (ER rfl (qu rfl))
 ·refine GI (aP h1) (ER rfl ?_);by_cases h2:br≥row
  ·rw [if_neg (by omega),if_neg (by decide),if_pos (by omega)];exact Fc (zo h2) (qu rfl)
  ·rw [if_pos (by omega)];exact GI (aP h2) (qu rfl)
theorem J5 (row many:Int) (hr:1<=row/\row<=99) (hm:1<=many/\many<=99) (c:Nd) (hk:c.1=2\/c.1=3):Ev (DO · c.1 c.2.1 c.2.2.1 c.2.2.2.1 c.2.2.2.2.1 c.2.2.2.2.2.1 c.2.2.2.2.2.2.1 c.2.2.2.2.2.2.2.1 c.2.2.2.2.2.2.2.2.1 c.2.2.2.2.2.2.2.2.2.1 c.2.2.2.2.2.2.2.2.2.2.1 c.2.2.2.2.2.2.2.2.2.2.2.1 c.2.2.2.2.2.2.2.2.2.2.2.2.1 ((kd c).map qk) row many row) (Km (evN true row many c)):=by
 obtain ⟨k,op,ck,cn,cs,ac,ar,af,ag,bc,br,bf,bg,ks⟩:=c;have wr:IntKind.i64.wrap (row-1)=row-1:=qp (by omega);refine FC (EH (R:=λn=>Ec n k op ck cn cs ac ar af ag bc br bf bg (ks.map qk) row many row) ?_ λn=>rfl);unfold Km evN;dsimp only at hk⊢;by_cases k2:k=2
 ·rw [if_neg (by omega),if_neg (by omega)];exact Fc (zanG.2 k2) (EG (He row many hr hm 0 k op ck cn cs ac ar af ag bc br bf bg (ks.map qk)) (qu rfl))
 ·have k3:k=3:=by omega
  rw [if_pos k3,if_pos k3];refine GI (zanF.2 k2) (ER rfl (EG (He row many hr hm row k op ck cn cs ac ar af ag bc br bf bg (ks.map qk)) (ER rfl ?_)));rw [wr];exact EG (Jk row many hr hm (row-1) k op ck cn cs ac (FW true row many row ar) af ag bc br bf bg (ks.map qk)) (qu rfl)
theorem IB (row many:Int) (hr:1<=row/\row<=99) (hm:1<=many/\many<=99) (l:List Nd) (hl:l.length<=1000) (hk:∀c∈l,(kd c).length<=1000000) (hB:∀c∈l,Dh c=true):Ev (Cq · (l.map qb) row many row) (l.length,(l.map (chN (evN true row many))).map qb):=by
 obtain ⟨n1,h1⟩:=DX (F:=λc n=>DO n c.1 c.2.1 c.2.2.1 c.2.2.2.1 c.2.2.2.2.1 c.2.2.2.2.2.1 c.2.2.2.2.2.2.1 c.2.2.2.2.2.2.2.1 c.2.2.2.2.2.2.2.2.1 c.2.2.2.2.2.2.2.2.2.1 c.2.2.2.2.2.2.2.2.2.2.1 c.2.2.2.2.2.2.2.2.2.2.2.1 c.2.2.2.2.2.2.2.2.2.2.2.2.1 ((kd c).map qk) row many row) (f:=λc=>Km (evN true row many c)) (l.filter λc=>decide (c.1=2\/c.1=3)) λc hc=>J5 row many hr hm c (by simpa using (List.mem_filter.1 hc).2)
 obtain ⟨n2,h2⟩:=DX (F:=λc n=>qg n (evN true row many c).1 (evN true row many c).2.1 (evN true row many c).2.2.1 (evN true row many c).2.2.2.1 (evN true row many c).2.2.2.2.1 (evN true row many c).2.2.2.2.2.1 (evN true row many c).2.2.2.2.2.2.1 (evN true row many c).2.2.2.2.2.2.2.1 (evN true row many c).2.2.2.2.2.2.2.2.1 (evN true row many c).2.2.2.2.2.2.2.2.2.1 (evN true row many c).2.2.2.2.2.2.2.2.2.2.1 (evN true row many c).2.2.2.2.2.2.2.2.2.2.2.1 (evN true row many c).2.2.2.2.2.2.2.2.2.2.2.2.1 ((kd (evN true row many c)).map qk)) (f:=λc=>plB (evN true row many c)) l λc _=>Ir (evN true row many c)
 obtain ⟨n3,h3⟩:=DX (F:=λc n=>qh n ((kd c).map qk)) (f:=λc=>((kd c).length,(kd c).map qk)) l λc hc=>Is (kd c) (hk c hc)
 obtain ⟨n4,h4⟩:=Is [] (by decide);obtain ⟨n5,h5⟩:=JK 3;refine ⟨n1+n2+n3+n4+n5+l.length+3,λn hn=>?_⟩;obtain ⟨m,rfl,hm⟩:=up1 hn;have h:=Kw (B:=CW m) (λi=>(row,many,row,i,l.map qb,((l.map qb).length:Int),(i:Int),(l.take i).map λc=>qb (chN (evN true row many) c))) l (λ_ _=>none) (l.length,l.map λc=>qb (chN (evN true row many) c))
  (λi c he=>by
   have hi:=(zamJ.1 he).1;have hmem:=zn he;have hg:(l.map qb)[i]?=some (qb c):=by rw [zamS,he];rfl
   obtain ⟨a1,a2⟩:=J7 rfl hg;have h1:=λhk=>h1 m (by omega) c (List.mem_filter.2 ⟨hmem,zo hk⟩)
   have h2:=h2 m (by omega) c hmem;have h3:=h3 m (by omega) c hmem;have h4:=h4 m (by omega);have h5:=h5 m (by omega);have ea:i=((l.take i).map λc=>qb (chN (evN true row many) c)).length:=by simp;omega
   have e1000:i<=1000:=by omega
   have w:IntKind.i64.wrap ((i:Int)+1)=((i+1:Nat):Int):=by rw [qp (by omega)];omega
   have fin:∀(e:List PV),e=qb (chN (evN true row many) c)->(some (Sum.inl (row,many,row,i+1,l.map qb,((l.map qb).length:Int),IntKind.i64.wrap ((i:Int)+1),((l.take i).map λc=>qb (chN (evN true row many) c))++ [e])):Option ((Int×Int×Int×Nat×List (List PV)×Int×Int×List (List PV))⊕(Nat×List (List PV))))=some (.inl (row,many,row,i+1,l.map qb,((l.map qb).length:Int),((i+1:Nat):Int),(l.take (i+1)).map λc=>qb (chN (evN true row many) c))):=λe he2=>by
    rw [w,Ju he,he2]
   refine qc (zo (by simpa using hi)) (qc a1 (qa a2 (qc rfl ?_)))
   iterate 14 refine qa rfl ?_
   by_cases k2:c.1=2
   ·refine qc (zanG.2 k2) (qa (h1 (.inl k2)) (qa h2 ?_));cases hp:plB (evN true row many c) with
    |false=>exact qc rfl (qa h5 (qa h4 (qc (Ek ea e1000 rfl) (fin _ (by unfold chN;rw [if_pos (.inl k2),hp];rfl)))))
    |true=>exact qm rfl (qa h3 (qc (Ek ea e1000 (by simp)) (fin _ (by unfold chN;rw [if_pos (.inl k2),hp];rfl))))
   ·refine qm (zanF.2 k2) ?_;by_cases k3:c.1=3
    ·refine qc (zanG.2 k3) (qa (h1 (.inr k3)) (qa h2 ?_));cases hp:plB (evN true row many c) with
     |false=>exact qc rfl (qa h5 (qa h4 (qc (Ek ea e1000 rfl) (fin _ (by unfold chN;rw [if_pos (.inr k3),hp];rfl)))))
     |true=>exact qm rfl (qa h3 (qc (Ek ea e1000 (by simp)) (fin _ (by unfold chN;rw [if_pos (.inr k3),hp];rfl))))
    ·refine qm (zanF.2 k3) ?_;exact qa h3 (qc (Ek ea e1000 (by simp)) (fin _ (by unfold chN;rw [if_neg (by omega)];rfl))))
  (qm (aP (by simp)) (by rw [List.take_length];rfl)) m (by omega)
 rw [HW] at h;refine qa h ?_;simp [Tr.run,List.map_map,Function.comp_def]
theorem GY (n row many:Int) (cl:Bool) (o:Int):Ev (qn · n row many cl o) (FW cl row many o n):=by
 refine FC (EH (R:=λm=>Fh m n row many cl o) ?_ λn=>rfl);unfold FW;by_cases h:n<row
 ·rw [if_pos h];exact Fc (zo h) (qu rfl)
 ·rw [if_neg h];refine GI (aP h) ?_;cases cl with
  |false=>rw [if_pos rfl];exact Fc rfl (qu rfl)
  |true=>
   rw [if_neg (by decide)];refine GI rfl ?_;by_cases h2:n<IntKind.i64.wrap (row+many)
   ·rw [if_pos h2];exact Fc (zo h2) (qu rfl)
   ·rw [if_neg h2];exact GI (aP h2) (qu rfl)
theorem It (row many:Int):Ev (FK · row many) (decide (1<=row/\row<=99)&&decide (1<=many/\many<=99)):=by
 refine FC (EH (R:=λm=>FJ m row many) (EG (Cw row 1 99) ?_) λn=>rfl);by_cases h:1<=row/\row<=99
 ·rw [zo h];exact Fc rfl (EG (Cw many 1 99) (qu rfl))
 ·rw [aP h];exact GI rfl (qu rfl)
theorem GZ (n:Int):Ev (Eh · n) (decide (1<=n/\n<=99)):=FC (EH (R:=λm=>Fl m n) (EG (qv n 1 99) (qu rfl)) λn=>rfl)
theorem Ky {cl:Bool} {row many:Int} {c:Nd} (h:c.1=3):evN cl row many c=(c.1,c.2.1,c.2.2.1,c.2.2.2.1,c.2.2.2.2.1,c.2.2.2.2.2.1,FW cl row many row c.2.2.2.2.2.2.1,c.2.2.2.2.2.2.2.1,c.2.2.2.2.2.2.2.2.1,c.2.2.2.2.2.2.2.2.2.1,FW cl row many (row-1) c.2.2.2.2.2.2.2.2.2.2.1,c.2.2.2.2.2.2.2.2.2.2.2.1,c.2.2.2.2.2.2.2.2.2.2.2.2.1,kd c):=by
 unfold evN;rw [if_pos h,if_pos h]
theorem Kz {cl:Bool} {row many:Int} {c:Nd} (h:c.1=2) (hg:FW cl row many row c.2.2.2.2.2.2.1=FW cl row many 0 c.2.2.2.2.2.2.1):evN cl row many c=(c.1,c.2.1,c.2.2.1,c.2.2.2.1,c.2.2.2.2.1,c.2.2.2.2.2.1,FW cl row many row c.2.2.2.2.2.2.1,c.2.2.2.2.2.2.2.1,c.2.2.2.2.2.2.2.2.1,c.2.2.2.2.2.2.2.2.2.1,c.2.2.2.2.2.2.2.2.2.2.1,c.2.2.2.2.2.2.2.2.2.2.2.1,c.2.2.2.2.2.2.2.2.2.2.2.2.1,kd c):=by
 unfold evN;rw [if_neg (by omega),if_neg (by omega),hg]
theorem Iu (cl:Bool) (row many:Int) (hr:1<=row/\row<=99) (hmy:1<=many/\many<=99) (l:List Nd) (hl:l.length<=1000) (hs:∀c∈l,(kd c).length<=2000/\c.2.2.2.2.1.size<=140737488351232) (hB:∀c∈l,Dh c=true):Ev (FM · (l.map qb) row many cl) (l.length,(l.map (chN (evN cl row many))).map qb):=by
 have wr:IntKind.i64.wrap (row-1)=row-1:=qp (by omega);have wq:IntKind.i64.wrap (row+many)=row+many:=qp (by omega);have wq1:IntKind.i64.wrap (row+many-1)=row+many-1:=qp (by omega);obtain ⟨n1,h1⟩:=DX (F:=λ(c:Nd) n=>qn n c.2.2.2.2.2.2.1 row many cl row) (f:=λc=>FW cl row many row c.2.2.2.2.2.2.1) l λc _=>GY ..
 obtain ⟨n2,h2⟩:=DX (F:=λ(c:Nd) n=>qn n c.2.2.2.2.2.2.2.2.2.2.1 row many cl (IntKind.i64.wrap (row-1))) (f:=λc=>FW cl row many (row-1) c.2.2.2.2.2.2.2.2.2.2.1) l λc _=>by rw [wr];exact GY ..
 obtain ⟨n3,h3⟩:=DX (F:=λ(c:Nd) n=>qd n (evN cl row many c).1 (evN cl row many c).2.1 (evN cl row many c).2.2.1 (evN cl row many c).2.2.2.1 (evN cl row many c).2.2.2.2.1 (evN cl row many c).2.2.2.2.2.1 (evN cl row many c).2.2.2.2.2.2.1 (evN cl row many c).2.2.2.2.2.2.2.1 (evN cl row many c).2.2.2.2.2.2.2.2.1 (evN cl row many c).2.2.2.2.2.2.2.2.2.1 (evN cl row many c).2.2.2.2.2.2.2.2.2.2.1 (evN cl row many c).2.2.2.2.2.2.2.2.2.2.2.1 (evN cl row many c).2.2.2.2.2.2.2.2.2.2.2.2.1 ((kd (evN cl row many c)).map qk)) (f:=λc=>Dh (evN cl row many c)) l λc hc=>Fb (evN cl row many c) (by have:=(hs c hc).2;show c.2.2.2.2.1.size<=_;omega)
 obtain ⟨n4,h4⟩:=DX (F:=λ(c:Nd) n=>q9 n c.2.2.2.2.2.2.1 row (IntKind.i64.wrap (IntKind.i64.wrap (row+many)-1))) (f:=λc=>decide (row<=c.2.2.2.2.2.2.1/\c.2.2.2.2.2.2.1<=row+many-1)) l λc _=>by rw [wq,wq1];exact Cw ..
 obtain ⟨n5,h5⟩:=HY;refine ⟨n1+n2+n3+n4+n5+l.length+3,λn hn=>?_⟩;obtain ⟨m,rfl,hm⟩:=up1 hn;have h:=Kw (B:=EK m) (λi=>(l.map qb,row,many,cl,i,(i:Int),(l.take i).map λc=>qb (chN (evN cl row many) c))) l (λ_ _=>none) (l.length,l.map λc=>qb (chN (evN cl row many) c))
  (λi c he=>by
   have hi:=(zamJ.1 he).1;have hmem:=zn he;have hg:(l.map qb)[i]?=some (qb c):=by rw [zamS,he];rfl
   obtain ⟨a1,a2⟩:=J7 rfl hg;have h1:=h1 m (by omega) c hmem;have h2:=h2 m (by omega) c hmem;have h3:=h3 m (by omega) c hmem;have h4:=h4 m (by omega) c hmem;have h5:=h5 m (by omega);have hkl:=(hs c hmem).1;have ea:i=((l.take i).map λc=>qb (chN (evN cl row many) c)).length:=by simp;omega
   have e1000:i<=1000:=by omega
   have w:IntKind.i64.wrap ((i:Int)+1)=((i+1:Nat):Int):=by rw [qp (by omega)];omega
   have fin:∀(e:List PV),e=qb (chN (evN cl row many) c)->(some (Sum.inl (l.map qb,row,many,cl,i+1,IntKind.i64.wrap ((i:Int)+1),((l.take i).map λc=>qb (chN (evN cl row many) c))++ [e])):Option ((List (List PV)×Int×Int×Bool×Nat×Int×List (List PV))⊕(Nat×List (List PV))))=some (.inl (l.map qb,row,many,cl,i+1,((i+1:Nat):Int),(l.take (i+1)).map λc=>qb (chN (evN cl row many) c))):=λe he2=>by
    rw [w,Ju he,he2]
   have kA:decide (0=([]:List (List PV)).length/\0<1/\0<8/\(0+((kd c).map qk).length)*8<=140737488355328/\((kd c).map qk).all (λe=>e.length==1)=true)=true:=zo ⟨rfl,by decide,by decide,by simp;omega,by simp [qk]⟩;have kB:decide ((0+((kd c).map qk).length)=(([]:List (List PV))++((kd c).map qk)).length)=true:=zo (by simp);refine qc (zo (by simpa using hi)) (qc a1 (qa a2 (qc rfl ?_)))
   iterate 14 refine qa rfl ?_
   refine qc kA ?_;by_cases k2:c.1=2
   ·refine qc (zanG.2 k2) (qc (zanG.2 k2) ?_);obtain ⟨b1,b2,b3⟩:=KV (cl:=cl) (row:=row) (many:=many) (hB c hmem) (.inl k2);rw [b1] at h3;by_cases hgone:cl=true/\row<=c.2.2.2.2.2.2.1/\c.2.2.2.2.2.2.1<=row+many-1
    ·have hp:plB (evN cl row many c)=false:=by
      unfold plB evN;dsimp only;rw [if_pos k2,if_neg (by omega)];have:FW cl row many 0 c.2.2.2.2.2.2.1=0:=by
       unfold FW;rw [if_neg (by omega),if_neg (by rw [hgone.1];decide),wq,if_pos (by omega)]
      rw [this,Kg]
     rw [zo hgone.2] at h4;exact qc hgone.1 (qa h4 (qa h1 (qm (zanF.2 (by omega)) (qc rfl (qa h5 (qc (ID ea e1000) (fin _ (by unfold chN;rw [if_pos (.inl k2),hp];rfl))))))))
    ·have hg0:FW cl row many row c.2.2.2.2.2.2.1=FW cl row many 0 c.2.2.2.2.2.2.1:=by
      unfold FW;by_cases q1:c.2.2.2.2.2.2.1<row
      ·rw [if_pos q1,if_pos q1]
      ·rw [if_neg q1,if_neg q1];by_cases q2:cl=false
       ·rw [if_pos q2,if_pos q2]
       ·rw [if_neg q2,if_neg q2,wq,if_neg (λq3=>hgone ⟨by simpa using q2,by omega,by omega⟩),if_neg (λq3=>hgone ⟨by simpa using q2,by omega,by omega⟩)]
     have hm2:=Kz (cl:=cl) (row:=row) (many:=many) k2 hg0;rw [hm2] at h3;cases cl with
     |false=>
      refine qm rfl (qa h1 (qm (zanF.2 (by omega)) (qc kB (qa h3 (qc rfl ?_)))));rw [<-hm2];cases hp:plB (evN false row many c) with
      |false=>exact qc rfl (qa h5 (qc (ID ea e1000) (fin _ (by unfold chN;rw [if_pos (.inl k2),hp];rfl))))
      |true=>exact qm rfl (qc (Ek ea e1000 (by simp)) (fin _ (by unfold chN;rw [if_pos (.inl k2),hp,if_pos rfl,hm2];rfl)))
     |true=>
      rw [aP (λq=>hgone ⟨rfl,q⟩)] at h4;refine qc rfl (qa h4 (qa h1 (qm (zanF.2 (by omega)) (qm rfl (qc kB (qa h3 (qc rfl ?_)))))));rw [<-hm2];cases hp:plB (evN true row many c) with
      |false=>exact qc rfl (qa h5 (qc (ID ea e1000) (fin _ (by unfold chN;rw [if_pos (.inl k2),hp];rfl))))
      |true=>exact qm rfl (qc (Ek ea e1000 (by simp)) (fin _ (by unfold chN;rw [if_pos (.inl k2),hp,if_pos rfl,hm2];rfl)))
   ·refine qm (zanF.2 k2) ?_;by_cases k3:c.1=3
    ·have hm3:=Ky (cl:=cl) (row:=row) (many:=many) (c:=c) k3;obtain ⟨b1,b2,b3⟩:=KV (cl:=cl) (row:=row) (many:=many) (hB c hmem) (.inr k3);rw [b1] at h3;rw [hm3] at h3;refine qc (zanG.2 k3) (qm (zanF.2 k2) (qa h1 (qc (zanG.2 k3) (qa h2 (qc kB (qa h3 (qc rfl ?_)))))));rw [<-hm3];cases hp:plB (evN cl row many c) with
     |false=>exact qc rfl (qa h5 (qc (ID ea e1000) (fin _ (by unfold chN;rw [if_pos (.inr k3),hp];rfl))))
     |true=>exact qm rfl (qc (Ek ea e1000 (by simp)) (fin _ (by unfold chN;rw [if_pos (.inr k3),hp,if_pos rfl,hm3];rfl)))
    ·exact qm (zanF.2 k3) (qc (Ek ea e1000 (by simp)) (fin _ (by unfold chN;rw [if_neg (by omega)];rfl))))
  (qm (aP (by simp)) (by rw [List.take_length];rfl)) m (by omega)
 rw [HW] at h;refine qa h ?_;simp [Tr.run,List.map_map,Function.comp_def]
theorem HZ (row many:Int) (l:List Nd) (hl:l.length<=140737488351232) (hs:∀c∈l,(kd c).length<=140737488351232/\c.2.2.2.2.1.size<=140737488351232):Ev (EP · (l.map qb) row many) ((ocR true row many l).1.length,(ocR true row many l).2,(ocR true row many l).1.map qb):=by
 refine FC (EH (R:=λn=>FU n (l.map qb) row many) (EG (G7 l hl hs) ?_) λn=>rfl);unfold ocR;cases hf:F0 l with
 |false=>rw [if_neg (by simp)];exact Fc rfl (qu rfl)
 |true=>
  refine GI rfl (EG (GZ row) ?_);by_cases hp:1<=row/\row<=99
  ·refine GI (by rw [zo hp];rfl) (EG (GZ many) ?_);by_cases hq:1<=many/\many<=99
   ·rw [if_pos ⟨rfl,hp,hq⟩];have h:=IB row many hp hq l (by have:=(Di hf).1.2;omega) (λc hc=>by have:=Fu ((Di hf).2 c hc);omega) (Di hf).2;exact GI (by rw [zo hq];rfl) (EG (FC (EH (F:=λn=>FT n (l.map qb) row many) (R:=λn=>FS n (l.map qb) row many) (EG h (qu rfl)) λn=>rfl)) (qu (by simp)))
   ·rw [if_neg (λh=>hq h.2.2)];exact Fc (by rw [aP hq];rfl) (qu rfl)
  ·rw [if_neg (λh=>hp h.2.1)];exact Fc (by rw [aP hp];rfl) (qu rfl)
theorem Ha (row many:Int) (l:List Nd) (hs:∀c∈l,(kd c).length<=140737488351232/\c.2.2.2.2.1.size<=140737488351232):Ev (FO · (l.map qb) row many) ((ocR true row many l).1.length,(ocR true row many l).2,(ocR true row many l).1.map qb):=by
 refine FC (EH (R:=λn=>FN n (l.map qb) row many) (EG (G5 l hs) ?_) λn=>rfl);unfold ocR;cases hf:F0 l with
 |false=>rw [if_neg (by simp)];exact Fc rfl (qu rfl)
 |true=>
  refine GI rfl (EG (It row many) ?_);by_cases hp:1<=row/\row<=99
  ·rw [zo hp];by_cases hq:1<=many/\many<=99
   ·rw [if_pos ⟨rfl,hp,hq⟩,zo hq];have h:=Iu true row many hp hq l (by have:=(Di hf).1.2;omega) (λc hc=>⟨Fu ((Di hf).2 c hc),(hs c hc).2⟩) (Di hf).2;exact GI rfl (EG h (qu (by simp)))
   ·rw [if_neg (λh=>hq h.2.2),aP hq];exact Fc rfl (qu rfl)
  ·rw [if_neg (λh=>hp h.2.1),aP hp];exact Fc rfl (qu rfl)
theorem law (rows:List (List PV)) (p q:Int) (w:rows.length*120<=140737488351232/\∀r∈rows,okR [.i .i64,.i .i64,.i .i64,.i .i64,.s,.i .i64,.i .i64,.b,.b,.i .i64,.i .i64,.b,.b,.sl 8 [.i .i64]] r) (w1:(Lit.int .i64 p).wf=true) (w2:(Lit.int .i64 q).wf=true):Ev (EU · rows p q) true:=by
 obtain ⟨l,rfl,hs⟩:=Kc w.2;have hl:l.length*120<=140737488351232:=by simpa using w.1
 have hk:∀c∈l,(kd c).length<=140737488351232/\c.2.2.2.2.1.size<=140737488351232:=λc hc=>⟨by have:=(hs c hc).2;omega,(hs c hc).1⟩
 obtain ⟨n1,t1⟩:=JM l hl (λc hc=>(hs c hc).2);have eL:decide ((l.length:Nat)=(l.map qb).length)=true:=zo (by simp);have hp:=Ha p q l hk;have hi:=HZ p q l (by omega) hk;have hG:Gn (ocR true p q l).1:=by
  unfold ocR;split
  ·rename_i hc;obtain ⟨⟨_,h60⟩,hnode⟩:=Di hc.1;refine ⟨by rw [zamV];omega,λc hcm=>?_⟩;obtain ⟨c0,h0,rfl⟩:=List.mem_map.1 hcm;have h1:=Fu (hnode c0 h0);unfold chN;split
   ·split
    ·exact h1
    ·exact Nat.zero_le _
   ·exact h1
  ·exact ⟨Nat.zero_le _,λc hcm=>by cases hcm⟩
 generalize ocR true p q l=gb at hp hi hG;obtain ⟨g,b⟩:=gb;simp only at hp hi hG;have hgl:=hG.gnL;have hgk:∀c∈g,(kd c).length<=140737488351232:=λc hc=>by have:=hG.gnK c hc;omega
 have htg:=Kp hG.gnL hG.gnK;have eG:decide ((g.length:Nat)=(g.map qb).length)=true:=zo (by simp);have eM:decide ((g.length:Nat)=((Gu 1 g).map qb).length)=true:=zo (by rw [zamV,HA]);obtain ⟨n2,hp⟩:=hp;obtain ⟨n3,hi⟩:=hi;obtain ⟨n4,hq⟩:=FZ g (by omega) hgk;obtain ⟨n7,hf⟩:=FZ l (by omega) (λc hc=>(hk c hc).1);have ap:=KU g.length 14 71 b g;refine ⟨n1+n2+n3+n4+n7+Eg l+Eg g+l.length+g.length+90,λn hn=>?_⟩;obtain ⟨m,rfl,hmm⟩:=up1 hn;have t1:=t1 m (by omega);have hp:=hp m (by omega);have hi:=hi m (by omega);have hq:=hq m (by omega);have hf:=hf m (by omega);have hm:=JU g (by omega) hgk (by omega) m (by omega);have hh:=KL g (by omega) hgk (by omega) m (by omega);obtain ⟨r,hr,hz⟩:=JN l (by omega) hk m (by omega);refine qa hr ?_;by_cases h0:r<0
 ·exact qc (zo h0) rfl
 obtain ⟨b1,b2⟩:=hz (by omega);have hA:=JU l (by omega) (λc hc=>(hk c hc).1) (by have:=Jw l;omega) m (by omega);have hk0:decide ((1:Int)+(E3 l:Int)<0)=false:=aP (by omega);have hlt:decide ((1:Int)+(E3 g:Int)<0)=false:=aP (by omega);refine qm (aP h0) (qa t1 (qc eL (qa hp (qc ap (qa t1 (qc eL (qa hi (qc ap (qc eG (qc eG (qa hq (qc (G3 _) (qm rfl (qm (bnn _) ?_))))))))))))));refine qa t1 (qc eL (qc eL (qa hf (qc (G3 _) (qm rfl (qc eL (qa hA (qm hk0 ?_))))))));refine qc eG (qc eG (qa hq (qc (G3 _) (qm rfl (qm (bnn _) (qc eG (qa hm (qc eM (qa hh (qc (Jg _) (qm hlt (qm (bne_self_eq_false' _) ?_))))))))))));refine qa t1 (qc eL (qa hi (qc ap (qc eG (qc eG (qa hq (qc (G3 _) (qm rfl (qm (bnn _) ?_)))))))));exact qc eM (qa hh (qc (Jg _) (qm hlt (qm (bne_self_eq_false' _) rfl))))
end Go.Proofs.Ytilkdjfhbahhdaa.KFnExactClosed

