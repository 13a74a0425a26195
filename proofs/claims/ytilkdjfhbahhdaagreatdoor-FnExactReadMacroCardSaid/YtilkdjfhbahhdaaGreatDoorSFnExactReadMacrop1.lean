import Derived.Test.YtilkdjfhbahhdaaGreatDoorTFnExactReadMacro
import Derived.Test.YtilkdjfhbahhdaaGreatDoorE32
import Derived.Lib.Strings
namespace Go.Proofs.YtilkdjfhbahhdaaGreatDoor.KFnExactReadMacro
open Go.Eng
set_option linter.unusedVariables false
set_option linter.unusedSimpArgs false
def Ev {R:Type} (F:Nat→Option R) (r:R):Prop:=∃n0,∀n,n0≤n→F n=some r
theorem qu (s:BA):s.toList.length=s.size:=by rw [Go.Lib.toList_data];rfl
theorem qp:(ByteArray.mk #[]).toList= []:=by decide+kernel
theorem qU {x:Int} (h: -9223372036854775808≤x∧x≤9223372036854775807):IntKind.i64.wrap x=x:=by
 unfold IntKind.wrap
 have e1:(2:Int)^(64-1)=9223372036854775808:=by decide
 have e2:(2:Int)^64=18446744073709551616:=by decide
 simp only [IntKind.signed,IntKind.bits,Bool.true_and,decide_eq_true_eq,e1,e2]
 split<;>omega
theorem qP1 {s:BA} {i:Nat} (h:i<s.size):∃c,s.toList[i]?=some c:=⟨_,ze (by rw [qu];exact h)⟩
theorem qEU {α:Type} {s:List α} {i:Nat} {c:α} (h:s[i]?=some c):s.drop i=c::s.drop (i+1):=by
 obtain ⟨h1,rfl⟩:=List.getElem?_eq_some_iff.1 h
 exact List.drop_eq_getElem_cons h1
theorem qT {V R:Type} {B:V→Tr (V⊕R)} {m:Nat} {v v':V} (h:(B v).run=some (.inl v')):zF B (m+1) v=zF B m v':=by simp only [zF,h]
theorem qP {V R:Type} {B:V→Tr (V⊕R)} {m:Nat} {v:V} {r:R} (h:(B v).run=some (.inr r)):zF B (m+1) v=some r:=by simp only [zF,h]
theorem up1 {n n0:Nat} (h:n0+1≤n):∃m,n=m+1∧n0≤m:=⟨n-1,by omega,by omega⟩
theorem qC {α:Type} (x:α):(Tr.done x).run=some x:=rfl
theorem qE {α:Type}:(Tr.fail:Tr α).run=none:=rfl
theorem qJ {α:Type} (b:Bool) (t f:Tr α):(Tr.ask b t f).run=if b=true then t.run else f.run:=by cases b<;>rfl
theorem qK {α β:Type} (o:Option β) (k:β→Tr α):(Tr.opt o k).run=o.bind fun x=>(k x).run:=by cases o<;>rfl
theorem qM {α β γ:Type} (x:β) (k:β→Tr α) (l:γ→Tr α):(Tr.alt (.inl x) k l).run=(k x).run:=rfl
theorem qN {α β γ:Type} (x:γ) (k:β→Tr α) (l:γ→Tr α):(Tr.alt (.inr x) k l).run=(l x).run:=rfl
theorem qAt {α R:Type} {F:α→Nat→Option R} {f:α→R}:∀(l:List α),(∀c∈l,Ev (F c) (f c))→∃n0,∀n,n0≤n→∀c∈l,F c n=some (f c)
 | [],_=>⟨0,fun n _ c hc=>by cases hc⟩
 |a::l,h=>by
  obtain ⟨n1,h1⟩:=h a (List.mem_cons_self ..)
  obtain ⟨n2,h2⟩:=qAt l fun c hc=>h c (List.mem_cons_of_mem _ hc)
  exact ⟨n1+n2,fun n hn c hc=>by
   rcases List.mem_cons.1 hc with rfl|hc
   ·exact h1 n (by omega)
   ·exact h2 n (by omega) c hc⟩
theorem qSC {R:Type} {B:List (List PV)×List (List PV)×Int→Tr ((List (List PV)×List (List PV)×Int)⊕R)} {rows:List (List PV)} {r:R}
  (hs:∀(i:Nat) (e:List PV),rows[i]?=some e→(B (rows,rows,(i:Int))).run=some (.inl (rows,rows,((i+1:Nat):Int)))) (he:(B (rows,rows,(rows.length:Int))).run=some (.inr r)):
  ∀(m i M:Nat),rows.length=i+m→m+1≤M→zF B M (rows,rows,(i:Int))=some r
 |m,i,0,h1,h2=>by omega
 |0,i,M+1,h1,h2=>by
  have hi:i=rows.length:=by omega
  subst hi
  rw [qP he]
 |m+1,i,M+1,h1,h2=>by
  have hg:=ze (l:=rows) (i:=i) (by omega)
  rw [qT (hs i _ hg)]
  exact qSC hs he m (i+1) M (by omega) (by omega)
theorem qA {α β:Type} {o:Option β} {x:β} {k:β→Tr α} {y:Option α} (h:o=some x) (h2:(k x).run=y):(Tr.opt o k).run=y:=by rw [h];exact h2
theorem qD {α:Type} {b:Bool} {t f:Tr α} {y:Option α} (h:b=true) (h2:t.run=y):(Tr.ask b t f).run=y:=by rw [h];exact h2
theorem qO {α:Type} {b:Bool} {t f:Tr α} {y:Option α} (h:b=false) (h2:f.run=y):(Tr.ask b t f).run=y:=by rw [h];exact h2
theorem qF (b:Bool):zAj (⟨(.c (.p (.b b))),[],[]⟩:Res)=true:=rfl
theorem qG (x:Int):zAj (⟨(.c (.p (.i .i64 x))),[],[]⟩:Res)=true:=rfl
theorem qH (x:BA):zAj (⟨(.c (.p (.s x))),[],[]⟩:Res)=true:=rfl
theorem qB7 (x lo hi:Int):Ev (qAj · x lo hi) (decide (lo≤x∧x≤hi)):=by
 refine ⟨1,fun n hn=>?_⟩
 obtain ⟨m,rfl,hm⟩:=up1 hn
 simp only [qAj,qGx,qC,qE,qJ,qK,qM,qN,zC,qF,qG,qH]
 by_cases h:x≥lo<;>simp [h]
theorem qAI (x lo hi:Int):Ev (qAG · x lo hi) (decide (lo≤x∧x≤hi)):=by
 refine ⟨1,fun n hn=>?_⟩
 obtain ⟨m,rfl,hm⟩:=up1 hn
 simp only [qAG,qHT,qC,qE,qJ,qK,qM,qN,zC,qF,qG,qH]
 by_cases h:x≥lo<;>simp [h]
def okc (c:UInt8):Bool:=decide (32≤c.toNat∧c.toNat≤126)
def qBd (s:BA) (most:Int):Bool:=s.toList.all okc&&decide ((s.size:Int)≤most)
def okV (k n:Int) (s:BA):Bool:=
 if k=2 then decide (n=0)&&qBd s 200 else (s.toList== [])&&(if k=0 then decide (n=0) else if k=1 then decide (-1000000000000000≤n∧n≤1000000000000000) else if k=3 then decide (0≤n∧n≤1) else if k=4 then decide (1≤n∧n≤5) else false)
theorem qL2 (n:Nat) (s:BA) (hb:s.size≤140737488355328):∀(m i M:Nat),s.size=i+m→m+1≤M→
  zF (qBQ n) M (s,(i:Int))=some (if (s.toList.drop i).all okc then .inr s else .inl false)
 |m,i,0,h1,h2=>by omega
 |0,i,M+1,h1,h2=>by
  rw [qP (r:= .inr s) (by simp [qBQ,qC,qE,qJ,qK,qM,qN,zC,qF,qG,qH,show ¬((i:Int)<s.size) by omega])]
  rw [List.drop_eq_nil_of_le (by rw [qu];omega)]
  rfl
 |m+1,i,M+1,h1,h2=>by
  obtain ⟨c,hc⟩:=qP1 (s:=s) (i:=i) (by omega)
  have hi:(i:Int)<s.size:=by omega
  rw [qEU hc]
  by_cases c1:(c.toNat:Int)<32
  ·rw [qP (r:= .inl false) (by simp [qBQ,qC,qE,qJ,qK,qM,qN,zC,qF,qG,qH,hi,hc,c1])]
   have:okc c=false:=by simp [okc];omega
   simp [this]
  ·by_cases c2:(c.toNat:Int)>126
   ·rw [qP (r:= .inl false) (by simp [qBQ,qC,qE,qJ,qK,qM,qN,zC,qF,qG,qH,hi,hc,c1,c2])]
    have:okc c=false:=by simp [okc];omega
    simp [this]
   ·have hw:IntKind.i64.wrap ((i:Int)+1)=((i+1:Nat):Int):=by rw [qU (by omega)];omega
    rw [qT (v':=(s,((i+1:Nat):Int))) (by simp [qBQ,qC,qE,qJ,qK,qM,qN,zC,qF,qG,qH,hi,hc,c1,c2,hw])]
    rw [qL2 n s hb m (i+1) M (by omega) (by omega)]
    have:okc c=true:=by simp [okc];omega
    simp [this]
theorem qH8 (s:BA) (hb:s.size≤140737488355328):Ev (qCG · s) (qBd s 200):=by
 refine ⟨s.size+2,fun n hn=>?_⟩
 obtain ⟨m,rfl,hm⟩:=up1 hn
 have h:=qL2 m s hb s.size 0 m (by omega) (by omega)
 simp only [qCG,qGA,qC,qE,qJ,qK,qM,qN,zC,qF,qG,qH]
 simp only [Int.natCast_zero,List.drop_zero] at h
 rw [h]
 cases hc:s.toList.all okc<;>simp [qC,qE,qJ,qK,qM,qN,zC,qF,qG,qH,qBd,hc]
theorem qI1 (s:BA) (hb:s.size≤140737488351232):Ev (qCG · s) (qBd s 200):=qH8 s (by omega)
theorem qNT (n:Nat) (s:BA) (y:Int) (hb:s.size≤140737488355328):∀(m i M:Nat),s.size=i+m→m+1≤M→
  zF (qBj n) M (s,y,(s.size:Int),(i:Int))=some (if (s.toList.drop i).all okc then .inr (s,y) else .inl false)
 |m,i,0,h1,h2=>by omega
 |0,i,M+1,h1,h2=>by
  rw [qP (r:= .inr (s,y)) (by simp [qBj,qC,qE,qJ,qK,qM,qN,zC,qF,qG,qH,show ¬((i:Int)<s.size) by omega])]
  rw [List.drop_eq_nil_of_le (by rw [qu];omega)]
  rfl
 |m+1,i,M+1,h1,h2=>by
  obtain ⟨c,hc⟩:=qP1 (s:=s) (i:=i) (by omega)
  have hi:(i:Int)<s.size:=by omega
  rw [qEU hc]
  by_cases c1:(c.toNat:Int)<32
  ·rw [qP (r:= .inl false) (by simp [qBj,qC,qE,qJ,qK,qM,qN,zC,qF,qG,qH,hi,hc,c1])]
   have:okc c=false:=by simp [okc];omega
   simp [this]
  ·by_cases c2:(c.toNat:Int)>126
   ·rw [qP (r:= .inl false) (by simp [qBj,qC,qE,qJ,qK,qM,qN,zC,qF,qG,qH,hi,hc,c1,c2])]
    have:okc c=false:=by simp [okc];omega
    simp [this]
   ·have hw:IntKind.i64.wrap ((i:Int)+1)=((i+1:Nat):Int):=by rw [qU (by omega)];omega
    rw [qT (v':=(s,y,(s.size:Int),((i+1:Nat):Int))) (by simp [qBj,qC,qE,qJ,qK,qM,qN,zC,qF,qG,qH,hi,hc,c1,c2,hw])]
    rw [qNT n s y hb m (i+1) M (by omega) (by omega)]
    have:okc c=true:=by simp [okc];omega
    simp [this]
theorem qI2 (s:BA) (y:Int) (hb:s.size≤140737488355328):Ev (qCk · s y) (qBd s y):=by
 refine ⟨s.size+2,fun n hn=>?_⟩
 obtain ⟨m,rfl,hm⟩:=up1 hn
 have h:=qNT m s y hb s.size 0 m (by omega) (by omega)
 simp only [qCk,qHU,qC,qE,qJ,qK,qM,qN,zC,qF,qG,qH]
 simp only [Int.natCast_zero,List.drop_zero] at h
 rw [h]
 cases hc:s.toList.all okc<;>simp [qC,qE,qJ,qK,qM,qN,zC,qF,qG,qH,qBd,hc]
theorem qJs (s:BA) (y:Int) (hb:s.size≤140737488351232):Ev (qCk · s y) (qBd s y):=qI2 s y (by omega)
theorem qAD (k x:Int) (s:BA) (hb:s.size≤140737488351232):Ev (qZ · k x s) (okV k x s):=by
 obtain ⟨n1,h1⟩:=qB7 x (-1000000000000000) 1000000000000000
 obtain ⟨n2,h2⟩:=qB7 x 0 1
 obtain ⟨n3,h3⟩:=qB7 x 1 5
 obtain ⟨n4,h4⟩:=qI1 s hb
 refine ⟨n1+n2+n3+n4+1,fun n hn=>?_⟩
 obtain ⟨m,rfl,hm⟩:=up1 hn
 have h1:=h1 m (by omega)
 dsimp only at h1
 have h2:=h2 m (by omega)
 dsimp only at h2
 have h3:=h3 m (by omega)
 dsimp only at h3
 have h4:=h4 m (by omega)
 dsimp only at h4
 simp only [qZ,qGC,qC,qE,qJ,qK,qM,qN,zC,qF,qG,qH,h1,h2,h3,h4]
 simp only [okV,qp]
 by_cases k2:k=2
 ·subst k2
  by_cases x0:x=0<;>simp [x0]
 ·by_cases k0:k=0
  ·subst k0
   by_cases x0:x=0<;>simp [x0]
  ·by_cases k1:k=1
   ·subst k1
    by_cases hx: -1000000000000000≤x∧x≤1000000000000000<;>simp [hx]
   ·by_cases k3:k=3
    ·subst k3
     by_cases hx:0≤x∧x≤1<;>simp [hx]
    ·by_cases k4:k=4
     ·subst k4
      by_cases hx:1≤x∧x≤5<;>simp [hx]
     ·simp [k0,k1,k2,k3,k4]
theorem qFp (k x:Int) (s:BA) (hb:s.size≤140737488351232):Ev (qAU · k x s) (okV k x s):=by
 obtain ⟨n1,h1⟩:=qAI x (-1000000000000000) 1000000000000000
 obtain ⟨n2,h2⟩:=qAI x 0 1
 obtain ⟨n3,h3⟩:=qAI x 1 5
 obtain ⟨n4,h4⟩:=qJs s 200 hb
 refine ⟨n1+n2+n3+n4+1,fun n hn=>?_⟩
 obtain ⟨m,rfl,hm⟩:=up1 hn
 have h1:=h1 m (by omega)
 dsimp only at h1
 have h2:=h2 m (by omega)
 dsimp only at h2
 have h3:=h3 m (by omega)
 dsimp only at h3
 have h4:=h4 m (by omega)
 dsimp only at h4
 simp only [qAU,qGV,qC,qE,qJ,qK,qM,qN,zC,qF,qG,qH,h1,h2,h3,h4]
 simp only [okV,qp]
 by_cases k2:k=2
 ·subst k2
  by_cases x0:x=0<;>simp [x0]
 ·by_cases he:s.toList= []
  ·by_cases k0:k=0
   ·subst k0
    by_cases x0:x=0<;>simp [x0,he]
   ·by_cases k1:k=1
    ·subst k1;simp [he]
    ·by_cases k3:k=3
     ·subst k3;simp [he]
     ·by_cases k4:k=4
      ·subst k4;simp [he]
      ·simp [k0,k1,k2,k3,k4,he]
  ·simp [k2,he]
abbrev V3:=Int×Int×BA
def em:BA:=⟨#[]⟩
theorem qOB (x:Int):Ev (qCy · x) (4,x,em):=by
 refine ⟨1,fun n hn=>?_⟩
 obtain ⟨m,rfl,hm⟩:=up1 hn
 simp only [qCy,qGE,qC,qE,qJ,qK,qM,qN,zC,qF,qG,qH]
 rfl
theorem qKq (x:Int):Ev (qBr · x) (4,x,em):=by
 refine ⟨1,fun n hn=>?_⟩
 obtain ⟨m,rfl,hm⟩:=up1 hn
 simp only [qBr,qIN,qC,qE,qJ,qK,qM,qN,zC,qF,qG,qH]
 rfl
theorem qJt (x:Int):Ev (qCl · x) (1,x,em):=by
 refine ⟨1,fun n hn=>?_⟩
 obtain ⟨m,rfl,hm⟩:=up1 hn
 simp only [qCl,qHV,qC,qE,qJ,qK,qM,qN,zC,qF,qG,qH]
 rfl
def qA1 (c r:Int):Bool:=decide (1≤c∧c≤52)&&decide (1≤r∧r≤99)
def qFq (a b c d:Int):Bool:=qA1 a b&&qA1 c d&&decide (a≤c)&&decide (b≤d)
theorem qCm (c r:Int):Ev (q9 · c r) (qA1 c r):=by
 obtain ⟨n1,h1⟩:=qB7 c 1 52
 obtain ⟨n2,h2⟩:=qB7 r 1 99
 refine ⟨n1+n2+1,fun n hn=>?_⟩
 obtain ⟨m,rfl,hm⟩:=up1 hn
 have h1:=h1 m (by omega)
 dsimp only at h1
 have h2:=h2 m (by omega)
 dsimp only at h2
 simp only [q9,qIH,qC,qE,qJ,qK,qM,qN,zC,qF,qG,qH,h1,h2]
 unfold qA1
 cases decide (1≤c∧c≤52)<;>simp
theorem qCn (c r:Int):Ev (qBV · c r) (qA1 c r):=by
 obtain ⟨n1,h1⟩:=qAI c 1 52
 obtain ⟨n2,h2⟩:=qAI r 1 99
 refine ⟨n1+n2+1,fun n hn=>?_⟩
 obtain ⟨m,rfl,hm⟩:=up1 hn
 have h1:=h1 m (by omega)
 dsimp only at h1
 have h2:=h2 m (by omega)
 dsimp only at h2
 simp only [qBV,qIK,qC,qE,qJ,qK,qM,qN,zC,qF,qG,qH,h1,h2]
 unfold qA1
 cases decide (1≤c∧c≤52)<;>simp
theorem qOw (a b c d:Int):Ev (qFP · a b c d) (qFq a b c d):=by
 obtain ⟨n1,h1⟩:=qCm a b
 obtain ⟨n2,h2⟩:=qCm c d
 refine ⟨n1+n2+1,fun n hn=>?_⟩
 obtain ⟨m,rfl,hm⟩:=up1 hn
 have h1:=h1 m (by omega)
 dsimp only at h1
 have h2:=h2 m (by omega)
 dsimp only at h2
 simp only [qFP,qHJ,qC,qE,qJ,qK,qM,qN,zC,qF,qG,qH,h1,h2]
 unfold qFq
 cases qA1 a b<;>cases qA1 c d<;>by_cases h:a≤c<;>simp [h]
theorem qJu (a b c d:Int):Ev (qD7 · a b c d) (qFq a b c d):=by
 obtain ⟨n1,h1⟩:=qCn a b
 obtain ⟨n2,h2⟩:=qCn c d
 refine ⟨n1+n2+1,fun n hn=>?_⟩
 obtain ⟨m,rfl,hm⟩:=up1 hn
 have h1:=h1 m (by omega)
 dsimp only at h1
 have h2:=h2 m (by omega)
 dsimp only at h2
 simp only [qD7,qHZ,qC,qE,qJ,qK,qM,qN,zC,qF,qG,qH,h1,h2]
 unfold qFq
 cases qA1 a b<;>cases qA1 c d<;>by_cases h:a≤c<;>simp [h]
def qUf (x y:Int):Int:=if x<y then-1 else if x>y then 1 else 0
def qUy (x y:BA):Int:=if Op.bytesLess x.toList y.toList=true then-1 else if x.toList=y.toList then 0 else 1
def qSD:List Int→Int
 | []=>0
 |x::r=>if x≠0 then x else qSD r
def qUz (k x:Int) (s:BA) (k' x':Int) (s':BA):Int:=qSD [qUf k k',qUf x x',qUy s s']
theorem qKr (b:Bool):Ev (qEq · b) (3,if b=true then 1 else 0,em):=by
 refine ⟨1,fun n hn=>?_⟩
 obtain ⟨m,rfl,hm⟩:=up1 hn
 simp only [qEq,qIO,qC,qE,qJ,qK,qM,qN,zC,qF,qG,qH]
 cases b<;>rfl
def qUg (op o:Int):Bool:=if op=6 then o==0 else if op=7 then o !=0 else if op=8 then decide (o<0) else if op=9 then decide (o≤0) else if op=10 then decide (o>0) else decide (o≥0)
def qTf (op k x:Int) (s:BA) (k' x':Int) (s':BA):Int×Int×BA:=
 if okV k x s=true∧okV k' x' s'=true∧6≤op∧op≤11 then
  (if k=4 then (k,x,s) else if k'=4 then (k',x',s') else (3,if qUg op (qUz (if k=0 then k' else k) x s (if k'=0 then k else k') x' s')=true then 1 else 0,em))
 else (4,2,em)
theorem qKs (n:Nat):∀(f:Nat) (v:Int×BA),v.1<10^f→v.1≤9223372036854775807→v.2.size+f≤1000→∃t:BA,t.size≤v.2.size+f∧∀M,f+1≤M→zF (qBo n) M v=some t
 |f,v,h1,h1',h2=>by
  by_cases h0:v.1>0
  ·cases f with
   |zero=>simp at h1;omega
   |succ f=>
    have e1:Int.tdiv v.1 10=v.1/10:=Int.tdiv_eq_ediv_of_nonneg (by omega)
    have hw:IntKind.i64.wrap (Int.tdiv v.1 10)=v.1/10:=by rw [e1];exact qU (by omega)
    have h3:v.1/10<10^f:=by
     have:(10:Int)^(f+1)=10^f*10:=Int.pow_succ 10 f
     omega
    let d:BA:=⟨#[UInt8.ofNat (IntKind.u8.wrap (IntKind.i64.wrap ((48:Int)+(Int.tmod v.1 (10:Int))))).toNat]⟩
    have hs:(d++v.2).size=v.2.size+1:=by rw [zh];show 1+v.2.size=_;omega
    obtain ⟨t,h4,h5⟩:=qKs n f (v.1/10,d++v.2) h3 (by show v.1/10≤_;omega) (by show (d++v.2).size+f≤1000;omega)
    refine ⟨t,by have:t.size≤(d++v.2).size+f:=h4;omega,fun M hM=>?_⟩
    obtain ⟨M,rfl⟩:∃q,M=q+1:=⟨M-1,by omega⟩
    rw [qT (v':=(v.1/10,d++v.2)) (by
     have hd:d.size=1:=rfl
     have hc:d.size+v.2.size≤9223372036854775807:=by omega
     simp only [qBo,qC,qE,qJ,qK,qM,qN,zC,qF,qG,qH,bytesOf,Option.map_some,hw]
     rw [if_pos (by simpa using h0),if_pos (by simp),if_pos (by simpa using hc)])]
    exact h5 M (by omega)
  ·refine ⟨v.2,by omega,fun M hM=>?_⟩
   obtain ⟨M,rfl⟩:∃q,M=q+1:=⟨M-1,by omega⟩
   rw [qP (r:=v.2) (by
    simp only [qBo,qC,qE,qJ,qK,qM,qN,zC,qF,qG,qH]
    rw [if_neg (by simpa using h0)])]
theorem qNU (k:Int) (h:1≤k∧k≤9223372036854775807):∃t:BA,∀n,25≤n→qCT n k=some t:=by
 have p19:(10:Int)^19=10000000000000000000:=by decide
 obtain ⟨t,h1,h2⟩:=qKs 0 19 (k,⟨#[]⟩) (by show k<10^19;omega) h.2 (by show (0:Nat)+19≤1000;decide)
 refine ⟨⟨#[109]⟩++t,fun n hn=>?_⟩
 obtain ⟨m,rfl,hm⟩:=up1 hn
 have h3:zF (qBo m) m (k,⟨#[]⟩)=some t:=h2 m (by omega)
 simp only [qCT,qFo,qC,qE,qJ,qK,qM,qN,zC,qF,qG,qH,h3]
 have h1:t.size≤19:=h1
 have hd:(⟨#[109]⟩:BA).size=1:=rfl
 rw [if_neg (by simp;omega),if_pos (by simp only [decide_eq_true_eq,hd];omega)]
noncomputable def mtx (k:Int):BA:=if h:1≤k∧k≤9223372036854775807 then Classical.choose (qNU k h) else ⟨#[]⟩
theorem qSz {k:Int} (h:1≤k∧k≤9223372036854775807) {n:Nat} (hn:25≤n):qCT n k=some (mtx k):=by
 unfold mtx
 rw [dif_pos h]
 exact Classical.choose_spec (qNU k h) n hn
def qC9 (x:Int):BA:=⟨(Lib.itoa x).toArray⟩
theorem qDJ (a b:BA):(a++b).data.toList=a.data.toList++b.data.toList:=by
 rw [ByteArray.data_append,Array.toList_append]
theorem qG7 {a b:BA} (h:a.data.toList=b.data.toList):a=b:=by
 cases a;cases b
 congr 1
 exact Array.toList_inj.1 h
theorem qDT {a b:BA} (h:a.toList=b.toList):a=b:=qG7 (by rw [←Go.Lib.toList_data,←Go.Lib.toList_data];exact h)
theorem qCt (a:BA):a.size=a.data.toList.length:=by rw [Array.length_toList];rfl
theorem u8w {q:Nat} (h:q<10):IntKind.u8.wrap (IntKind.i64.wrap (48+(q:Int)))=((48+q:Nat):Int):=by
 rw [qU (by omega)]
 unfold IntKind.wrap
 have e2:(2:Int)^8=256:=by decide
 simp only [IntKind.signed,IntKind.bits,Bool.false_and,Bool.false_eq_true,if_false,e2]
 omega
theorem qT5:∀(k v:Nat),1≤v→v<10^k→Lib.nDigits v≤k:=by
 intro k
 induction k with
 |zero=>intro v hv hv';simp at hv';omega
 |succ k ih=>
  intro v hv hv'
  by_cases h10:v<10
  ·rw [Lib.nDigits_small h10];omega
  ·rw [Lib.nDigits_big h10]
   have:=ih (v/10) (by omega) (by rw [Nat.pow_succ] at hv';omega)
   omega
theorem qG8 (u:Nat) (h:u≤1000000000000000000):(Lib.decDigits u).length≤19:=by
 have p:(10:Nat)^19=10000000000000000000:=by decide
 rw [Lib.decDigits_length]
 rcases Nat.lt_or_ge u 1 with h6|h6
 ·have:u=0:=by omega
  subst this
  rw [Lib.nDigits_small (by decide)]
  decide
 ·exact qT5 19 u h6 (by omega)
def qf (x:Int):BA:=if x=1 then ⟨#[35,68,73,86,33]⟩ else if x=2 then ⟨#[35,84,89,80,69,33]⟩ else if x=3 then ⟨#[35,82,69,70,33]⟩ else if x=4 then ⟨#[35,79,86,69,82,33]⟩ else if x=5 then ⟨#[35,67,89,67,76,69,33]⟩ else ⟨#[]⟩
theorem lt6 {x:Int} (h:0≤x∧x≤5):x=0∨x=1∨x=2∨x=3∨x=4∨x=5:=by omega
def qQ4 (x:Int):BA:=if x=1 then ⟨#[84,82,85,69]⟩ else ⟨#[70,65,76,83,69]⟩
theorem qS0 {x:Int} {s:BA} (h:okV 1 x s=true): -1000000000000000≤x∧x≤1000000000000000:=by
 simp [okV] at h;exact h.2
theorem qP2 {x:Int} {s:BA} (h:okV 2 x s=true):x=0∧(s.size:Int)≤200∧s.toList.all okc=true:=by
 simp only [okV,qBd,if_true,Bool.and_eq_true,decide_eq_true_eq] at h
 exact ⟨h.1,h.2.2,h.2.1⟩
theorem qUh {x:Int} {s:BA} (h:okV 3 x s=true):0≤x∧x≤1:=by
 simp [okV] at h;exact h.2
theorem qT6 {x:Int} {s:BA} (h:okV 4 x s=true):1≤x∧x≤5:=by
 simp [okV] at h;exact h.2
def qB4 (k x:Int) (s:BA):BA:=if k=1 then qC9 x else if k=2 then ⟨#[39]⟩++s else if k=3 then qQ4 x else if k=4 then qf x else ⟨#[]⟩
theorem qF7 {x:Int} (h: -1000000000000000000≤x∧x≤1000000000000000000):(qC9 x).size≤20:=by
 rw [qCt]
 show (Lib.itoa x).length≤20
 unfold Lib.itoa
 split
 ·have:=qG8 x.natAbs (by omega);simp;omega
 ·have:=qG8 x.toNat (by omega);omega
theorem qRn {k x:Int} {s:BA} (h:okV k x s=true):(qB4 k x s).size≤300:=by
 unfold qB4
 split
 ·rename_i k1;subst k1;have:=qS0 h;have:=qF7 (x:=x) (by omega);omega
 ·split
  ·rename_i k2;subst k2
   have:=qP2 h
   rw [zh]
   show 1+s.size≤300
   omega
  ·split
   ·unfold qQ4;split<;>decide
   ·split
    ·unfold qf
     repeat' split
     all_goals decide
    ·decide
def qBt (x:Int):BA:=if x<1∨x>52 then ⟨#[]⟩ else if x≤26 then ⟨#[UInt8.ofNat (64+x.toNat)]⟩ else ⟨#[65,UInt8.ofNat (65+(x.toNat-1)%26)]⟩
theorem qM8 (x:Int):(qBt x).size≤2:=by
 unfold qBt
 split
 ·decide
 ·split
  ·exact (show (1:Nat)≤2 by decide)
  ·exact (show (2:Nat)≤2 by decide)
theorem qQe {q:Int} (h:0≤q∧q<256):IntKind.u8.wrap q=q:=by
 unfold IntKind.wrap
 have e2:(2:Int)^8=256:=by decide
 simp only [IntKind.signed,IntKind.bits,Bool.false_and,Bool.false_eq_true,if_false,e2]
 omega
def qAY (c r:Int) (fc fr:Bool):BA:=if qA1 c r=true then ⟨((if fc=true then [36] else [])++(qBt c).data.toList++(if fr=true then [36] else [])++(qC9 r).data.toList).toArray⟩ else ⟨#[]⟩
theorem qLR {x:Int} (h:1≤x∧x≤99):(qC9 x).size≤20:=by
 rw [qCt]
 show (Lib.itoa x).length≤20
 unfold Lib.itoa
 rw [if_neg (by omega)]
 have:=qG8 x.toNat (by omega)
 omega
theorem qFc {c r:Int} (h:qA1 c r=true):(1≤c∧c≤52)∧(1≤r∧r≤99):=by
 simpa [qA1] using h
def qAr (c:UInt8):Bool:=decide (48≤c.toNat)&&decide (c.toNat≤57)
def qAk (acc:Nat) (l:List UInt8):Nat:=l.foldl (fun a c=>a*10+(c.toNat-48)) acc
theorem qGi (acc:Nat):qAk acc []=acc:=rfl
theorem qDs (acc:Nat) (c:UInt8) (r:List UInt8):qAk acc (c::r)=qAk (acc*10+(c.toNat-48)) r:=by simp only [qAk,List.foldl_cons]
theorem qQ5 (l:List UInt8) (acc:Nat) (c:UInt8):qAk acc (l++ [c])=qAk acc l*10+(c.toNat-48):=by
 simp only [qAk,List.foldl_append,List.foldl_cons,List.foldl_nil]
theorem qSE:∀(l:List UInt8) (acc:Nat),acc≤qAk acc l
 | [],acc=>by rw [qGi];exact Nat.le_refl _
 |c::r,acc=>by
  have h:=qSE r (acc*10+(c.toNat-48))
  have h2:acc≤acc*10+(c.toNat-48):=by omega
  rw [qDs]
  exact Nat.le_trans h2 h
theorem qQf {d:Nat} (h:d<10):(UInt8.ofNat (48+d)).toNat=48+d:=by
 rw [UInt8.toNat_ofNat'];omega
theorem qQ6 {d:Nat} (h:d<10):qAr (UInt8.ofNat (48+d))=true:=by
 unfold qAr
 rw [qQf h]
 simp
 omega
theorem qF8:∀u:Nat,(Lib.decDigits u).all qAr=true∧qAk 0 (Lib.decDigits u)=u∧Lib.decDigits u≠ []∧(10≤u→(Lib.decDigits u).head?≠some 48)∧(1≤u→(Lib.decDigits u).head?≠some 48):=by
 intro u
 induction u using Nat.strongRecOn with
 |_ u ih=>
  by_cases h:u<10
  ·rw [Lib.decDigits,dif_pos h]
   have h1:∀k,1≤k→k<10→UInt8.ofNat (48+k)≠48:=fun k hk hk' e=>by
    have:=congrArg UInt8.toNat e
    rw [qQf hk'] at this
    have h2:(48:UInt8).toNat=48:=rfl
    omega
   refine ⟨by simp only [List.all_cons,List.all_nil,qQ6 h,Bool.and_true],by rw [qDs,qGi,qQf h];omega,by simp,fun _=>by omega,fun hu=>?_⟩
   simp only [List.head?_cons,ne_eq,zQ]
   exact h1 u hu h
  ·obtain ⟨i1,i2,i3,i4,i5⟩:=ih (u/10) (by omega)
   rw [Lib.decDigits,dif_neg h]
   have hd:u%10<10:=by omega
   have hh:(Lib.decDigits (u/10)++ [UInt8.ofNat (48+u%10)]).head?=(Lib.decDigits (u/10)).head?:=by
    cases hq:Lib.decDigits (u/10) with
    |nil=>exact absurd hq i3
    |cons a b=>rfl
   refine ⟨by simp only [List.all_append,i1,List.all_cons,List.all_nil,qQ6 hd,Bool.and_true],by rw [qQ5,i2,qQf hd];omega,by simp,fun _=>?_,fun _=>?_⟩
   ·rw [hh];exact i5 (by omega)
   ·rw [hh];exact i5 (by omega)
def qFy (l:List UInt8):Bool:=!(l== [])&&l.all qAr&&(!(l.head?==some 48)||l.length==1)
theorem qP3 (u:Nat):qFy (Lib.decDigits u)=true:=by
 obtain ⟨h1,h2,h3,h4,h5⟩:=qF8 u
 simp only [qFy,h1,Bool.and_true,Bool.and_eq_true,Bool.not_eq_true',beq_eq_false_iff_ne,Bool.or_eq_true]
 refine ⟨h3,?_⟩
 by_cases hu:u<10
 ·right;rw [Lib.decDigits,dif_pos hu];rfl
 ·left;exact h4 (by omega)
theorem qM9:∀(n:Nat) (l:List UInt8),l.length=n→qFy l=true→Lib.decDigits (qAk 0 l)=l
 |0,l,hn,h=>by
  have:=zAi hn
  subst this
  simp [qFy] at h
 |n+1,l,hn,h=>by
  simp only [qFy,Bool.and_eq_true,Bool.not_eq_true',beq_eq_false_iff_ne,Bool.or_eq_true,beq_iff_eq] at h
  obtain ⟨⟨h1,h2⟩,h3⟩:=h
  obtain ⟨ini,c,rfl⟩:∃ini c,l=ini++ [c]:=⟨l.dropLast,l.getLast h1,(List.dropLast_concat_getLast h1).symm⟩
  simp only [List.all_append,Bool.and_eq_true,List.all_cons,List.all_nil,Bool.and_true] at h2
  obtain ⟨h2,hc⟩:=h2
  simp only [qAr,Bool.and_eq_true,decide_eq_true_eq] at hc
  have ec:UInt8.ofNat (48+(c.toNat-48))=c:=by
   have:48+(c.toNat-48)=c.toNat:=by omega
   rw [this];simp
  rw [qQ5]
  cases ini with
  |nil=>
   rw [qGi,Nat.zero_mul,Nat.zero_add,List.nil_append,Lib.decDigits,dif_pos (by omega),ec]
  |cons a b=>
   have hl:(a::b).length=n:=by simp at hn⊢;omega
   have h48:¬a=48:=by
    rcases h3 with h3|h3
    ·simpa using h3
    ·simp at h3
   have hcn:qFy (a::b)=true:=by
    simp only [qFy,h2,Bool.and_true,Bool.and_eq_true,Bool.not_eq_true',beq_eq_false_iff_ne,Bool.or_eq_true]
    exact ⟨by simp,.inl (by simpa using h48)⟩
   have ih:=qM9 n (a::b) hl hcn
   have hp:1≤qAk 0 (a::b):=by
    rcases Nat.eq_zero_or_pos (qAk 0 (a::b)) with h0|h0
    ·rw [h0,Lib.decDigits,dif_pos (by decide)] at ih
     have:a=48:=by
      have:=congrArg List.head? ih
      simpa using this.symm
     exact absurd this h48
    ·exact h0
   rw [Lib.decDigits,dif_neg (by omega)]
   have e1:(qAk 0 (a::b)*10+(c.toNat-48))/10=qAk 0 (a::b):=by omega
   have e2:(qAk 0 (a::b)*10+(c.toNat-48))%10=c.toNat-48:=by omega
   rw [e1,e2,ih,ec]
def l1I (l:List UInt8) (most:Int):Int×Bool:=if (l.length:Int)≤most∧qFy l=true then ((qAk 0 l:Int),true) else (0,false)
theorem qQg:∀(l:List UInt8) (acc k:Nat),l.all qAr=true→acc<10^k→qAk acc l<10^(k+l.length)
 | [],acc,k,_,h=>by rw [qGi];simpa using h
 |c::r,acc,k,hd,h=>by
  simp only [List.all_cons,Bool.and_eq_true] at hd
  have hc:=hd.1
  simp only [qAr,Bool.and_eq_true,decide_eq_true_eq] at hc
  have:=qQg r (acc*10+(c.toNat-48)) (k+1) hd.2 (by rw [Nat.pow_succ];omega)
  rw [qDs,List.length_cons,show k+(r.length+1)=k+1+r.length by omega]
  exact this
theorem qNA:∀(l:List UInt8) (acc:Nat),l.all qAr=true→qAk acc l≤1000000000000000000→Lib.parseUintM (2^64-1) acc l= .ok (qAk acc l)
 | [],acc,_,_=>by simp only [Lib.parseUintM,qGi]
 |c::r,acc,hd,h=>by
  simp only [List.all_cons,Bool.and_eq_true] at hd
  have hc:=hd.1
  simp only [qAr,Bool.and_eq_true,decide_eq_true_eq] at hc
  rw [qDs] at h⊢
  have g1:=qSE r (acc*10+(c.toNat-48))
  have p:(2:Nat)^64-1=18446744073709551615:=by decide
  simp only [Lib.parseUintM]
  rw [if_pos hc,if_neg (by omega),if_neg (by rw [p];omega)]
  exact qNA r _ hd.2 h
theorem qP4 {u:Nat} (h:u≤1000000000000000000):Lib.parseUintB 64 (Lib.decDigits u)= .ok u:=by
 obtain ⟨h1,h2,h3,_,_⟩:=qF8 u
 unfold Lib.parseUintB
 rw [if_neg h3,qNA _ 0 h1 (by rw [h2];exact h),h2]
theorem qOx (u:Nat):∃c r,Lib.decDigits u=c::r∧qAr c=true:=by
 obtain ⟨h1,_,h3,_,_⟩:=qF8 u
 cases hq:Lib.decDigits u with
 |nil=>exact absurd hq h3
 |cons c r=>
  rw [hq] at h1
  simp only [List.all_cons,Bool.and_eq_true] at h1
  exact ⟨c,r,rfl,h1.1⟩
theorem qOy {x:Int} (h: -1000000000000000≤x∧x≤1000000000000000):Lib.parseIntB 64 (Lib.itoa x)= .ok x:=by
 have p:(2:Nat)^(64-1)=9223372036854775808:=by decide
 by_cases hx:x<0
 ·have e:Lib.itoa x=45::Lib.decDigits x.natAbs:=by unfold Lib.itoa;rw [if_pos hx]
  have c45:(45:UInt8).toNat=45:=rfl
  rw [e]
  simp only [Lib.parseIntB,c45,or_true,if_true,qP4 (u:=x.natAbs) (by omega),p]
  rw [if_neg (by simp),if_neg (by omega)]
  congr 1
  omega
 ·have e:Lib.itoa x=Lib.decDigits x.toNat:=by unfold Lib.itoa;rw [if_neg hx]
  obtain ⟨c,r,hcr,hd⟩:=qOx x.toNat
  simp only [qAr,Bool.and_eq_true,decide_eq_true_eq] at hd
  rw [e,hcr]
  simp only [Lib.parseIntB]
  rw [if_neg (by omega),←hcr,qP4 (u:=x.toNat) (by omega)]
  simp only [p]
  rw [if_neg (by omega),if_neg (by omega),if_neg (by omega)]
  congr 1
  omega
def qQh (l:List UInt8):Option Int:=if l.head?=some 45 then (if (l1I (l.drop 1) 16).2=true∧(l1I (l.drop 1) 16).1≠0 then some (-(l1I (l.drop 1) 16).1) else none) else (if (l1I l 16).2=true then some (l1I l 16).1 else none)
theorem qOz {l:List UInt8} (h:(l1I l 16).2=true):l.length≤16∧qFy l=true∧(l1I l 16).1=(qAk 0 l:Int)∧Lib.decDigits (qAk 0 l)=l:=by
 unfold l1I at h⊢
 split at h
 ·rename_i hc
  rw [if_pos hc]
  exact ⟨by omega,hc.2,rfl,qM9 _ l rfl hc.2⟩
 ·cases h
theorem qSF {u:Nat} (h:u≤1000000000000000):l1I (Lib.decDigits u) 16=((u:Int),true):=by
 obtain ⟨h1,h2,h3,_,_⟩:=qF8 u
 have hl:(Lib.decDigits u).length≤16:=by
  rw [Lib.decDigits_length]
  have:Lib.nDigits 1000000000000000=16:=Lib.nDigits_unique 15 _ (by decide) (by decide)
  rcases Nat.lt_or_ge 16 (Lib.nDigits u) with h4|h4
  ·have h5:u<10^16:=by
    have:(10:Nat)^16=10000000000000000:=by decide
    omega
   exfalso
   rcases Nat.lt_or_ge u 1 with h6|h6
   ·have:u=0:=by omega
    subst this
    rw [Lib.nDigits_small (by decide)] at h4
    omega
   ·have key:∀(k v:Nat),1≤v→v<10^k→Lib.nDigits v≤k:=by
     intro k
     induction k with
     |zero=>intro v hv hv';simp at hv';omega
     |succ k ih=>
      intro v hv hv'
      by_cases h10:v<10
      ·rw [Lib.nDigits_small h10];omega
      ·rw [Lib.nDigits_big h10]
       have:=ih (v/10) (by omega) (by rw [Nat.pow_succ] at hv';omega)
       omega
    have:=key 16 u h6 h5
    omega
  ·exact h4
 unfold l1I
 rw [if_pos ⟨by omega,qP3 u⟩,h2]
theorem qSe {l:List UInt8} {x:Int} (h:qQh l=some x):l=Lib.itoa x:=by
 unfold qQh at h
 split at h
 ·rename_i h45
  split at h
  ·rename_i hc
   cases h
   obtain ⟨a1,a2,a3,a4⟩:=qOz hc.1
   have hne:=hc.2
   rw [a3] at hne⊢
   unfold Lib.itoa
   rw [if_pos (by omega)]
   have:(-(qAk 0 (l.drop 1):Int)).natAbs=qAk 0 (l.drop 1):=by omega
   rw [this,a4]
   cases l with
   |nil=>cases h45
   |cons c r=>simp at h45;simp [h45]
  ·cases h
 ·split at h
  ·rename_i hc
   cases h
   obtain ⟨a1,a2,a3,a4⟩:=qOz hc
   rw [a3]
   unfold Lib.itoa
   rw [if_neg (by omega),Int.toNat_natCast,a4]
  ·cases h
theorem qSf {x:Int} (h: -1000000000000000≤x∧x≤1000000000000000):qQh (Lib.itoa x)=some x:=by
 unfold qQh
 by_cases hx:x<0
 ·have e:Lib.itoa x=45::Lib.decDigits x.natAbs:=by unfold Lib.itoa;rw [if_pos hx]
  have e2:=qSF (u:=x.natAbs) (by omega)
  rw [e,List.head?_cons,if_pos rfl,List.drop_succ_cons,List.drop_zero,e2,if_pos ⟨rfl,by show ((x.natAbs:Nat):Int)≠0;omega⟩]
  congr 1
  show-((x.natAbs:Nat):Int)=x
  omega
 ·have e:Lib.itoa x=Lib.decDigits x.toNat:=by unfold Lib.itoa;rw [if_neg hx]
  have e2:=qSF (u:=x.toNat) (by omega)
  obtain ⟨c,r,hcr,hd⟩:=qOx x.toNat
  have h45:¬(Lib.decDigits x.toNat).head?=some 45:=by
   rw [hcr]
   simp only [List.head?_cons,zQ]
   intro hc
   subst hc
   simp [qAr] at hd
  rw [e,if_neg h45,e2,if_pos rfl]
  congr 1
  show ((x.toNat:Nat):Int)=x
  omega
def qBp (s:BA):Int:=match zK s 10 64 with
 |some (.inl v)=>v
 |some (.inr v)=>v
 |none=>0
theorem qNV {s:BA} {x:Int} (hs:s.toList=Lib.itoa x) (h: -1000000000000000≤x∧x≤1000000000000000):qBp s=x:=by
 have hd:s.data.toList=Lib.itoa x:=by rw [←Go.Lib.toList_data];exact hs
 have hsz:s.size≤281474976710656:=by
  rw [←qu,hs]
  unfold Lib.itoa
  split
  ·have:=qG8 x.natAbs (by omega);simp;omega
  ·have:=qG8 x.toNat (by omega);omega
 unfold qBp zK
 rw [if_pos ⟨rfl,rfl,hsz⟩,hd,qOy h]
def qEQ (s:BA):Int:=if (qf 5).toList=s.toList then 5 else if (qf 4).toList=s.toList then 4 else if (qf 3).toList=s.toList then 3 else if (qf 2).toList=s.toList then 2 else if (qf 1).toList=s.toList then 1 else 0
theorem qTg (s:BA):0≤qEQ s∧qEQ s≤5:=by
 unfold qEQ
 repeat' split
 all_goals decide
theorem qTh {s:BA} (h:¬qEQ s=0):qf (qEQ s)=s:=by
 unfold qEQ at h⊢
 by_cases h5:(qf 5).toList=s.toList
 ·rw [if_pos h5];exact qDT h5
 rw [if_neg h5] at h⊢
 by_cases h4:(qf 4).toList=s.toList
 ·rw [if_pos h4];exact qDT h4
 rw [if_neg h4] at h⊢
 by_cases h3:(qf 3).toList=s.toList
 ·rw [if_pos h3];exact qDT h3
 rw [if_neg h3] at h⊢
 by_cases h2:(qf 2).toList=s.toList
 ·rw [if_pos h2];exact qDT h2
 rw [if_neg h2] at h⊢
 by_cases h1:(qf 1).toList=s.toList
 ·rw [if_pos h1];exact qDT h1
 rw [if_neg h1] at h
 exact absurd rfl h
def qBH (s:BA):V3:=
 if s.toList.head?=some 39 then (2,0,⟨s.toList.tail.toArray⟩) else
 if s.toList= [70,65,76,83,69] then (3,0,em) else if s.toList= [84,82,85,69] then (3,1,em) else
 if s.toList.head?=some 35 then (if qEQ s=0 then (0,0,em) else (4,qEQ s,em)) else
 if s.toList= [] then (0,0,em) else (1,qBp s,em)
def qi (s:BA):Int×Int×BA×Bool:=if okV (qBH s).1 (qBH s).2.1 (qBH s).2.2=true∧(qB4 (qBH s).1 (qBH s).2.1 (qBH s).2.2).toList=s.toList then ((qBH s).1,(qBH s).2.1,(qBH s).2.2,true) else (0,0,⟨#[]⟩,false)
theorem qTi (c:UInt8) (k:Nat) (hk:k<256):((c.toNat:Int)==(k:Int))=(some c==some (UInt8.ofNat k)):=by
 by_cases e:c=UInt8.ofNat k
 ·subst e
  have:(UInt8.ofNat k).toNat=k:=by rw [UInt8.toNat_ofNat'];omega
  simp [this]
 ·have h1:¬(c.toNat:Int)=(k:Int):=fun h=>e (by
   have:c.toNat=k:=by omega
   rw [←this];simp)
  have h2:¬some c=some (UInt8.ofNat k):=fun h=>e (by simpa using h)
  rw [beq_eq_false_iff_ne.2 h1,beq_eq_false_iff_ne.2 h2]
theorem qBA (l:List UInt8):(⟨l.toArray⟩:BA).toList=l:=by rw [Go.Lib.toList_data]
theorem qO0 (n:Nat):∀(f u:Nat) (s:BA),u<10^(f+1)→u≤9223372036854775807→s.size+f≤1000→∃(q:Nat) (t:BA),q<10∧t.size≤s.size+f∧UInt8.ofNat (48+q)::t.data.toList=Lib.decDigits u++s.data.toList∧∀M,f+1≤M→zF (qDM n) M ((u:Int),s)=some ((q:Int),t)
 |f,u,s,h1,h2,h3=>by
  by_cases h:u<10
  ·refine ⟨u,s,h,by omega,by rw [Lib.decDigits,dif_pos h];rfl,fun M hM=>?_⟩
   obtain ⟨M,rfl⟩:∃k,M=k+1:=⟨M-1,by omega⟩
   have hc:¬(u:Int)≥10:=by omega
   rw [qP (r:=((u:Int),s)) (by simp [qDM,qC,qE,qJ,qK,qM,qN,zC,qF,qG,qH,hc])]
  ·cases f with
   |zero=>simp at h1;omega
   |succ f=>
    have e1:Int.tmod (u:Int) 10=((u%10:Nat):Int):=by rw [Int.tmod_eq_emod_of_nonneg (by omega)];omega
    have e2:IntKind.i64.wrap (Int.tdiv (u:Int) 10)=((u/10:Nat):Int):=by
     rw [Int.tdiv_eq_ediv_of_nonneg (by omega),qU (by omega)];omega
    have e3:=u8w (q:=u%10) (by omega)
    have h4:u/10<10^(f+1):=by
     have:10^(f+1+1)=10^(f+1)*10:=Nat.pow_succ 10 (f+1)
     omega
    let d:BA:=⟨#[UInt8.ofNat (48+u%10)]⟩
    have hd:d.size=1:=rfl
    have hs:(d++s).size=s.size+1:=by rw [zh];omega
    obtain ⟨q,t,g1,g2,g3,g4⟩:=qO0 n f (u/10) (d++s) h4 (by omega) (by omega)
    refine ⟨q,t,g1,by omega,?_,fun M hM=>?_⟩
    ·rw [g3,qDJ,Lib.decDigits.eq_1 u,dif_neg h]
     simp [d]
    ·obtain ⟨M,rfl⟩:∃k,M=k+1:=⟨M-1,by omega⟩
     have hc:(u:Int)≥10:=by omega
     have hz:d.size+s.size≤9223372036854775807:=by omega
     rw [qT (v':=(((u/10:Nat):Int),d++s)) (by
      simp only [qDM,qC,qE,qJ,qK,qM,qN,zC,qF,qG,qH,e1,e2,e3,bytesOf,Option.map_some,Int.toNat_natCast]
      rw [if_pos (by simpa using hc),if_pos (by simp),if_pos (zD hz)])]
     exact g4 M (by omega)
theorem qL3 (u:Nat) (h:u≤1000000000000000000):∀n,25≤n→qAT n (u:Int)=some (qC9 u):=by
 intro n hn
 obtain ⟨m,rfl,hm⟩:=up1 hn
 have p:(10:Nat)^(18+1)=10000000000000000000:=by decide
 obtain ⟨q,t,g1,g2,g3,g4⟩:=qO0 m 18 u ⟨#[]⟩ (by omega) (by omega) (by show 0+18≤1000;decide)
 have g4:=g4 m (by omega)
 have e3:=u8w g1
 have hc:¬(u:Int)<0:=by omega
 have hz:(⟨#[UInt8.ofNat (48+q)]⟩:BA).size+t.size≤9223372036854775807:=by
  have g2:t.size≤0+18:=g2
  show 1+t.size≤_
  omega
 simp only [qAT,qF0,qC,qE,qJ,qK,qM,qN,zC,qF,qG,qH,g4,e3,bytesOf,Option.map_some,Int.toNat_natCast]
 rw [if_neg (by simp),if_pos (by simp),if_pos (zD hz)]
 congr 1
 apply qG7
 rw [qDJ]
 have e:Lib.itoa (u:Int)=Lib.decDigits u:=by unfold Lib.itoa;rw [if_neg hc];simp
 show UInt8.ofNat (48+q)::t.data.toList=Lib.itoa (u:Int)
 rw [g3,e]
 simp
theorem qHc (x:Int) (h: -1000000000000000000≤x∧x≤1000000000000000000):Ev (qAT · x) (qC9 x):=by
 by_cases hx:x<0
 ·refine ⟨30,fun n hn=>?_⟩
  obtain ⟨m,rfl,hm⟩:=up1 hn
  have e1:IntKind.i64.wrap (0-x)=((x.natAbs:Nat):Int):=by rw [qU (by omega)];omega
  have g:=qL3 x.natAbs (by omega) m (by omega)
  have hl:=qG8 x.natAbs (by omega)
  have e0:Lib.itoa ((x.natAbs:Nat):Int)=Lib.decDigits x.natAbs:=by unfold Lib.itoa;rw [if_neg (by omega)];simp
  have hz:(⟨#[45]⟩:BA).size+(qC9 ((x.natAbs:Nat):Int)).size≤9223372036854775807:=by
   have:(qC9 ((x.natAbs:Nat):Int)).size=(Lib.decDigits x.natAbs).length:=by rw [qCt];simp [qC9,e0]
   show 1+_≤_
   omega
  simp only [qAT,qF0,qC,qE,qJ,qK,qM,qN,zC,qF,qG,qH,e1,g]
  rw [if_pos (by simpa using hx),if_pos (zD hz)]
  congr 1
  apply qG7
  rw [qDJ]
  have e:Lib.itoa x=45::Lib.decDigits x.natAbs:=by unfold Lib.itoa;rw [if_pos hx]
  show 45::(Lib.itoa ((x.natAbs:Nat):Int))=Lib.itoa x
  rw [e,e0]
 ·obtain ⟨u,rfl⟩:∃u:Nat,x=u:=⟨x.toNat,by omega⟩
  exact ⟨25,qL3 u (by omega)⟩
theorem qQi (x:Int) (h: -9223372036854775808≤x∧x≤9223372036854775807):Ev (qD1 · x 10) (qC9 x):=by
 refine ⟨1,fun n hn=>?_⟩
 obtain ⟨m,rfl,hm⟩:=up1 hn
 show zAH x 10=_
 unfold zAH
 rw [if_pos ⟨rfl,h⟩]
 rfl
theorem qEG (x:Int) (h: -9223372036854775808≤x∧x≤9223372036854775807):Ev (qAl · x) (qC9 x):=by
 obtain ⟨n1,h1⟩:=qQi x h
 refine ⟨n1+1,fun n hn=>?_⟩
 obtain ⟨m,rfl,hm⟩:=up1 hn
 have h1:=h1 m (by omega)
 dsimp only at h1
 simp only [qAl,qGO,qC,qE,qJ,qK,qM,qN,zC,qF,qG,qH,h1]
theorem qGj (x:Int) (h:0≤x∧x≤5):Ev (qBN · x) (qf x):=by
 refine ⟨1,fun n hn=>?_⟩
 obtain ⟨m,rfl,hm⟩:=up1 hn
 simp only [qBN,qHL,qC,qE,qJ,qK,qM,qN,zC,qF,qG,qH]
 rcases lt6 h with rfl|rfl|rfl|rfl|rfl|rfl<;>simp [zAG,qf]
theorem qEu (x:Int) (h:0≤x∧x≤5):Ev (qAm · x) (qf x):=by
 refine ⟨1,fun n hn=>?_⟩
 obtain ⟨m,rfl,hm⟩:=up1 hn
 simp only [qAm,qFC,qC,qE,qJ,qK,qM,qN,zC,qF,qG,qH]
 rcases lt6 h with rfl|rfl|rfl|rfl|rfl|rfl<;>simp [zAG,qf]
theorem qO1 (x:Int):Ev (qFR · x) (qQ4 x):=by
 refine ⟨1,fun n hn=>?_⟩
 obtain ⟨m,rfl,hm⟩:=up1 hn
 simp only [qFR,qHR,qC,qE,qJ,qK,qM,qN,zC,qF,qG,qH]
 by_cases h:x=1<;>simp [qQ4,h]
theorem qDV (k x:Int) (s:BA) (hb:s.size≤140737488351232):Ev (qAR · k x s) (if okV k x s=true then qB4 k x s else ⟨#[]⟩):=by
 cases ho:okV k x s with
 |false=>
  obtain ⟨n1,h1⟩:=qAD k x s hb
  refine ⟨n1+1,fun n hn=>?_⟩
  obtain ⟨m,rfl,hm⟩:=up1 hn
  have h1:=h1 m (by omega)
  dsimp only at h1
  simp only [qAR,qBK,qC,qE,qJ,qK,qM,qN,zC,qF,qG,qH,h1]
  simp [ho]
 |true=>
  by_cases k1:k=1
  ·subst k1
   have:=qS0 ho
   obtain ⟨n1,h1⟩:=qAD 1 x s hb
   obtain ⟨n2,h2⟩:=qHc x (by omega)
   refine ⟨n1+n2+1,fun n hn=>?_⟩
   obtain ⟨m,rfl,hm⟩:=up1 hn
   have h1:=h1 m (by omega)
   dsimp only at h1
   have h2:=h2 m (by omega)
   dsimp only at h2
   simp only [qAR,qBK,qC,qE,qJ,qK,qM,qN,zC,qF,qG,qH,h1,h2]
   simp [ho,qB4]
  ·by_cases k2:k=2
   ·subst k2
    have:=qP2 ho
    have hz:(⟨#[39]⟩:BA).size+s.size≤9223372036854775807:=by show 1+s.size≤_;omega
    obtain ⟨n1,h1⟩:=qAD 2 x s hb
    refine ⟨n1+1,fun n hn=>?_⟩
    obtain ⟨m,rfl,hm⟩:=up1 hn
    have h1:=h1 m (by omega)
    dsimp only at h1
    simp only [qAR,qBK,qC,qE,qJ,qK,qM,qN,zC,qF,qG,qH,h1]
    simp [ho,qB4,hz]
   ·by_cases k3:k=3
    ·subst k3
     obtain ⟨n1,h1⟩:=qAD 3 x s hb
     obtain ⟨n2,h2⟩:=qO1 x
     refine ⟨n1+n2+1,fun n hn=>?_⟩
     obtain ⟨m,rfl,hm⟩:=up1 hn
     have h1:=h1 m (by omega)
     dsimp only at h1
     have h2:=h2 m (by omega)
     dsimp only at h2
     simp only [qAR,qBK,qC,qE,qJ,qK,qM,qN,zC,qF,qG,qH,h1,h2]
     simp [ho,qB4]
    ·by_cases k4:k=4
     ·subst k4
      have:=qT6 ho
      obtain ⟨n1,h1⟩:=qAD 4 x s hb
      obtain ⟨n2,h2⟩:=qGj x (by omega)
      refine ⟨n1+n2+1,fun n hn=>?_⟩
      obtain ⟨m,rfl,hm⟩:=up1 hn
      have h1:=h1 m (by omega)
      dsimp only at h1
      have h2:=h2 m (by omega)
      dsimp only at h2
      simp only [qAR,qBK,qC,qE,qJ,qK,qM,qN,zC,qF,qG,qH,h1,h2]
      simp [ho,qB4]
     ·obtain ⟨n1,h1⟩:=qAD k x s hb
      refine ⟨n1+1,fun n hn=>?_⟩
      obtain ⟨m,rfl,hm⟩:=up1 hn
      have h1:=h1 m (by omega)
      dsimp only at h1
      simp only [qAR,qBK,qC,qE,qJ,qK,qM,qN,zC,qF,qG,qH,h1]
      simp [ho,qB4,k1,k2,k3,k4]
theorem qG9 (k x:Int) (s:BA) (ho:okV k x s=true):Ev (qq · k x s) (qB4 k x s):=by
 by_cases k1:k=1
 ·subst k1
  have:=qS0 ho
  obtain ⟨n1,h1⟩:=qEG x (by omega)
  refine ⟨n1+1,fun n hn=>?_⟩
  obtain ⟨m,rfl,hm⟩:=up1 hn
  have h1:=h1 m (by omega)
  dsimp only at h1
  simp only [qq,qBl,qC,qE,qJ,qK,qM,qN,zC,qF,qG,qH,h1]
  simp [qB4]
 ·by_cases k2:k=2
  ·subst k2
   have:=qP2 ho
   have hz:(⟨#[39]⟩:BA).size+s.size≤9223372036854775807:=by show 1+s.size≤_;omega
   refine ⟨1,fun n hn=>?_⟩
   obtain ⟨m,rfl,hm⟩:=up1 hn
   simp only [qq,qBl,qC,qE,qJ,qK,qM,qN,zC,qF,qG,qH]
   simp [qB4,hz]
  ·by_cases k3:k=3
   ·subst k3
    have:=qUh ho
    refine ⟨1,fun n hn=>?_⟩
    obtain ⟨m,rfl,hm⟩:=up1 hn
    simp only [qq,qBl,qC,qE,qJ,qK,qM,qN,zC,qF,qG,qH]
    have c:x=0∨x=1:=by omega
    rcases c with rfl|rfl<;>simp [zAG,qB4,qQ4]
   ·by_cases k4:k=4
    ·subst k4
     have:=qT6 ho
     obtain ⟨n1,h1⟩:=qEu x (by omega)
     refine ⟨n1+1,fun n hn=>?_⟩
     obtain ⟨m,rfl,hm⟩:=up1 hn
     have h1:=h1 m (by omega)
     dsimp only at h1
     simp only [qq,qBl,qC,qE,qJ,qK,qM,qN,zC,qF,qG,qH,h1]
     simp [qB4]
    ·refine ⟨1,fun n hn=>?_⟩
     obtain ⟨m,rfl,hm⟩:=up1 hn
     simp only [qq,qBl,qC,qE,qJ,qK,qM,qN,zC,qF,qG,qH]
     simp [qB4,k1,k2,k3,k4]
theorem qI3 (x:Int):Ev (qBv · x) (qBt x):=by
 by_cases h:1≤x∧x≤52
 ·by_cases h26:x≤26
  ·have w1:IntKind.i64.wrap (65+x)=65+x:=qU (by omega)
   have w2:IntKind.i64.wrap (65+x-1)=65+x-1:=qU (by omega)
   have w3:IntKind.u8.wrap (65+x-1)=65+x-1:=qQe (by omega)
   have e:(65+x-1).toNat=64+x.toNat:=by omega
   obtain ⟨n1,h1⟩:=qAI x 1 52
   refine ⟨n1+1,fun n hn=>?_⟩
   obtain ⟨m,rfl,hm⟩:=up1 hn
   have h1:=h1 m (by omega)
   dsimp only at h1
   simp only [qBv,qDZ,qC,qE,qJ,qK,qM,qN,zC,qF,qG,qH,h1]
   simp only [w1,w2,w3,bytesOf,Option.map_some,e]
   simp [h,h26,qBt,show ¬x<1 by omega,show ¬52<x by omega]
  ·have w1:IntKind.i64.wrap (x-1)=x-1:=qU (by omega)
   have e1:Int.tdiv (x-1) 26=1:=by rw [Int.tdiv_eq_ediv_of_nonneg (by omega)];omega
   have e2:Int.tmod (x-1) 26=(((x.toNat-1)%26:Nat):Int):=by rw [Int.tmod_eq_emod_of_nonneg (by omega)];omega
   have w2:IntKind.u8.wrap (IntKind.i64.wrap (IntKind.i64.wrap (65+IntKind.i64.wrap 1)-1))=65:=by decide
   have w3:IntKind.i64.wrap (65+(((x.toNat-1)%26:Nat):Int))=65+(((x.toNat-1)%26:Nat):Int):=qU (by omega)
   have w4:IntKind.u8.wrap (65+(((x.toNat-1)%26:Nat):Int))=65+(((x.toNat-1)%26:Nat):Int):=qQe (by omega)
   have e3:(65+(((x.toNat-1)%26:Nat):Int)).toNat=65+(x.toNat-1)%26:=by omega
   obtain ⟨n1,h1⟩:=qAI x 1 52
   refine ⟨n1+1,fun n hn=>?_⟩
   obtain ⟨m,rfl,hm⟩:=up1 hn
   have h1:=h1 m (by omega)
   dsimp only at h1
   simp only [qBv,qDZ,qC,qE,qJ,qK,qM,qN,zC,qF,qG,qH,h1]
   simp only [w1,e1,e2,w2,w3,w4,e3,bytesOf,Option.map_some]
   simp [h,h26,qBt,show ¬x<1 by omega,show ¬52<x by omega]
 ·have hx:x<1∨x>52:=by omega
  obtain ⟨n1,h1⟩:=qAI x 1 52
  refine ⟨n1+1,fun n hn=>?_⟩
  obtain ⟨m,rfl,hm⟩:=up1 hn
  have h1:=h1 m (by omega)
  dsimp only at h1
  simp only [qBv,qDZ,qC,qE,qJ,qK,qM,qN,zC,qF,qG,qH,h1]
  simp [h,qBt,hx]
theorem qP5 (n x:Nat) (s:BA) (h:1≤x∧x≤1000) (hs:s.size≤100):(qBP n ((x:Int),s)).run=some (.inl ((((x-1)/26:Nat):Int),(⟨#[UInt8.ofNat (65+(x-1)%26)]⟩:BA)++s)):=by
 have w1:IntKind.i64.wrap ((x:Int)-1)=((x-1:Nat):Int):=by rw [qU (by omega)];omega
 have e1:Int.tdiv ((x-1:Nat):Int) 26=(((x-1)/26:Nat):Int):=by rw [Int.tdiv_eq_ediv_of_nonneg (by omega)];omega
 have e2:Int.tmod ((x-1:Nat):Int) 26=(((x-1)%26:Nat):Int):=by rw [Int.tmod_eq_emod_of_nonneg (by omega)];omega
 have w2:IntKind.i64.wrap (((x-1)/26:Nat):Int)=(((x-1)/26:Nat):Int):=qU (by omega)
 have w3:IntKind.i64.wrap (65+(((x-1)%26:Nat):Int))=65+(((x-1)%26:Nat):Int):=qU (by omega)
 have w4:IntKind.u8.wrap (65+(((x-1)%26:Nat):Int))=65+(((x-1)%26:Nat):Int):=qQe (by omega)
 have e3:(65+(((x-1)%26:Nat):Int)).toNat=65+(x-1)%26:=by omega
 have hz:(⟨#[UInt8.ofNat (65+(x-1)%26)]⟩:BA).size+s.size≤9223372036854775807:=by show 1+s.size≤_;omega
 have hc:(x:Int)>0:=by omega
 simp only [qBP,qC,qE,qJ,qK,qM,qN,zC,qF,qG,qH,w1,e1,e2,w2,w3,w4,e3,bytesOf,Option.map_some]
 rw [if_pos (zD hc),if_pos (by simp),if_pos (zD hz)]
theorem qQ7 (n:Nat) (s:BA):(qBP n (((0:Nat):Int),s)).run=some (.inr s):=by
 simp [qBP,qC,qE,qJ,qK,qM,qN,zC,qF,qG,qH]
theorem qI4 (x:Int):Ev (qCw · x) (qBt x):=by
 by_cases h:1≤x∧x≤52
 ·obtain ⟨n1,h1⟩:=qB7 x 1 52
  refine ⟨n1+10,fun n hn=>?_⟩
  obtain ⟨m,rfl,hm⟩:=up1 hn
  have h1:=h1 m (by omega)
  dsimp only at h1
  obtain ⟨u,rfl⟩:∃u:Nat,x=u:=⟨x.toNat,by omega⟩
  obtain ⟨M,hM⟩:∃M,m=M+3:=⟨m-3,by omega⟩
  have key:zF (qBP m) m ((u:Int),(⟨#[]⟩:BA))=some (qBt u):=by
   rw [hM,qT (qP5 _ u ⟨#[]⟩ (by omega) (by decide))]
   by_cases h26:u≤26
   ·have e:(u-1)/26=0:=by omega
    have e2:65+(u-1)%26=64+u:=by omega
    rw [e,qP (qQ7 _ _),e2]
    congr 1
    apply qG7
    rw [qDJ]
    simp [qBt,show ¬(u:Int)<1 by omega,show ¬(52:Int)<u by omega,show (u:Int)≤26 by omega]
   ·have e:(u-1)/26=1:=by omega
    have e4:(⟨#[UInt8.ofNat (65+(u-1)%26)]⟩++(⟨#[]⟩:BA)).size≤100:=by rw [zh];show 1+0≤100;decide
    rw [e,qT (qP5 _ 1 _ (by decide) e4)]
    have e3:(1-1)/26=0:=by decide
    rw [e3,qP (qQ7 _ _)]
    congr 1
    apply qG7
    rw [qDJ,qDJ]
    simp [qBt,show ¬(u:Int)<1 by omega,show ¬(52:Int)<u by omega,show ¬(u:Int)≤26 by omega]
  simp only [qCw,qEa,qC,qE,qJ,qK,qM,qN,zC,qF,qG,qH,h1,key]
  simp [h]
 ·have hx:x<1∨x>52:=by omega
  obtain ⟨n1,h1⟩:=qB7 x 1 52
  refine ⟨n1+1,fun n hn=>?_⟩
  obtain ⟨m,rfl,hm⟩:=up1 hn
  have h1:=h1 m (by omega)
  dsimp only at h1
  simp only [qCw,qEa,qC,qE,qJ,qK,qM,qN,zC,qF,qG,qH,h1]
  simp [h,qBt,hx]
theorem qDW (c r:Int) (fc fr:Bool):Ev (qA9 · c r fc fr) (qAY c r fc fr):=by
 cases ho:qA1 c r with
 |false=>
  obtain ⟨n1,h1⟩:=qCm c r
  refine ⟨n1+1,fun n hn=>?_⟩
  obtain ⟨m,rfl,hm⟩:=up1 hn
  have h1:=h1 m (by omega)
  dsimp only at h1
  simp only [qA9,qDn,qC,qE,qJ,qK,qM,qN,zC,qF,qG,qH,h1]
  simp [ho,qAY]
 |true=>
  have h:=qFc ho
  have s1:=qM8 c
  have s2:=qLR h.2
  have d1:(⟨#[36]⟩:BA).size=1:=rfl
  have z1:(⟨#[36]⟩:BA).size+(qBt c).size≤9223372036854775807:=by omega
  have z2:((⟨#[36]⟩:BA)++qBt c).size+(⟨#[36]⟩:BA).size≤9223372036854775807:=by rw [zh];omega
  have z3:(((⟨#[36]⟩:BA)++qBt c)++(⟨#[36]⟩:BA)).size+(qC9 r).size≤9223372036854775807:=by rw [zh,zh];omega
  have z4:((⟨#[36]⟩:BA)++qBt c).size+(qC9 r).size≤9223372036854775807:=by rw [zh];omega
  have z5:(qBt c).size+(⟨#[36]⟩:BA).size≤9223372036854775807:=by omega
  have z6:(qBt c++(⟨#[36]⟩:BA)).size+(qC9 r).size≤9223372036854775807:=by rw [zh];omega
  have z7:(qBt c).size+(qC9 r).size≤9223372036854775807:=by omega
  obtain ⟨n1,h1⟩:=qCm c r
  obtain ⟨n2,h2⟩:=qI4 c
  obtain ⟨n3,h3⟩:=qHc r (by omega)
  refine ⟨n1+n2+n3+1,fun n hn=>?_⟩
  obtain ⟨m,rfl,hm⟩:=up1 hn
  have h1:=h1 m (by omega)
  dsimp only at h1
  have h2:=h2 m (by omega)
  dsimp only at h2
  have h3:=h3 m (by omega)
  dsimp only at h3
  simp only [qA9,qDn,qC,qE,qJ,qK,qM,qN,zC,qF,qG,qH,h1,h2,h3]
  simp only [ho,zD z1,zD z2,zD z3,zD z4,zD z5,zD z6,zD z7,if_true,Bool.not_true,Bool.false_eq_true,if_false]
  cases fc<;>cases fr<;>simp only [if_true,if_false,Bool.false_eq_true,zQ]<;>apply qG7<;>simp [qAY,ho,qDJ]
theorem qCf (c r:Int) (fc fr:Bool):Ev (qAw · c r fc fr) (qAY c r fc fr):=by
 cases ho:qA1 c r with
 |false=>
  obtain ⟨n1,h1⟩:=qCn c r
  refine ⟨n1+1,fun n hn=>?_⟩
  obtain ⟨m,rfl,hm⟩:=up1 hn
  have h1:=h1 m (by omega)
  dsimp only at h1
  simp only [qAw,qDo,qC,qE,qJ,qK,qM,qN,zC,qF,qG,qH,h1]
  simp [ho,qAY]
 |true=>
  have h:=qFc ho
  have s1:=qM8 c
  have s2:=qLR h.2
  have d1:(⟨#[36]⟩:BA).size=1:=rfl
  have d0:(⟨#[]⟩:BA).size=0:=rfl
  have z1:(⟨#[36]⟩:BA).size+(qBt c).size≤9223372036854775807:=by omega
  have z2:((⟨#[36]⟩:BA)++qBt c).size+(⟨#[36]⟩:BA).size≤9223372036854775807:=by rw [zh];omega
  have z3:(((⟨#[36]⟩:BA)++qBt c)++(⟨#[36]⟩:BA)).size+(qC9 r).size≤9223372036854775807:=by rw [zh,zh];omega
  have z4:((⟨#[36]⟩:BA)++qBt c).size+(qC9 r).size≤9223372036854775807:=by rw [zh];omega
  have y1:(⟨#[]⟩:BA).size+(qBt c).size≤9223372036854775807:=by omega
  have y2:((⟨#[]⟩:BA)++qBt c).size+(⟨#[36]⟩:BA).size≤9223372036854775807:=by rw [zh];omega
  have y3:(((⟨#[]⟩:BA)++qBt c)++(⟨#[36]⟩:BA)).size+(qC9 r).size≤9223372036854775807:=by rw [zh,zh];omega
  have y4:((⟨#[]⟩:BA)++qBt c).size+(qC9 r).size≤9223372036854775807:=by rw [zh];omega
  obtain ⟨n1,h1⟩:=qCn c r
  obtain ⟨n2,h2⟩:=qI3 c
  obtain ⟨n3,h3⟩:=qEG r (by omega)
  refine ⟨n1+n2+n3+1,fun n hn=>?_⟩
  obtain ⟨m,rfl,hm⟩:=up1 hn
  have h1:=h1 m (by omega)
  dsimp only at h1
  have h2:=h2 m (by omega)
  dsimp only at h2
  have h3:=h3 m (by omega)
  dsimp only at h3
  simp only [qAw,qDo,qC,qE,qJ,qK,qM,qN,zC,qF,qG,qH,h1,h2,h3]
  simp only [ho,zD z1,zD z2,zD z3,zD z4,zD y1,zD y2,zD y3,zD y4,if_true,Bool.not_true,Bool.false_eq_true,if_false]
  cases fc<;>cases fr<;>simp only [if_true,if_false,Bool.false_eq_true,zQ]<;>apply qG7<;>simp [qAY,ho,qDJ]
theorem qO2 (n:Nat) (s:BA):∀(r pre:List UInt8) (acc M:Nat),s.toList=pre++r→acc<10^pre.length→pre.length+r.length≤17→r.length+1≤M→
  zF (qBa n) M (s,(acc:Int),(pre.length:Int))=some (if r.all qAr=true then .inr ((qAk acc r:Nat):Int) else .inl (0,false))
 |r,pre,acc,0,h1,h2,h3,h4=>by omega
 | [],pre,acc,M+1,h1,h2,h3,h4=>by
  have hs:s.size=pre.length:=by rw [←qu,h1];simp
  rw [qP (r:= .inr (acc:Int)) (by simp [qBa,qC,qE,qJ,qK,qM,qN,zC,qF,qG,qH,hs])]
  simp [qGi]
 |c::r,pre,acc,M+1,h1,h2,h3,h4=>by
  have hs:s.size=pre.length+(r.length+1):=by rw [←qu,h1];simp
  have hi:(pre.length:Int)<s.size:=by omega
  have hg:s.toList[pre.length]?=some c:=by rw [h1];simp
  simp only [List.length_cons] at h3 h4
  by_cases c1:(c.toNat:Int)<48
  ·rw [qP (r:= .inl (0,false)) (by simp [qBa,qC,qE,qJ,qK,qM,qN,zC,qF,qG,qH,hi,hg,c1])]
   have:qAr c=false:=by simp [qAr];omega
   simp [this]
  ·by_cases c2:(c.toNat:Int)>57
   ·rw [qP (r:= .inl (0,false)) (by simp [qBa,qC,qE,qJ,qK,qM,qN,zC,qF,qG,qH,hi,hg,c1,c2])]
    have:qAr c=false:=by simp [qAr];omega
    simp [this]
   ·have hc:qAr c=true:=by simp [qAr];omega
    have hp:10^pre.length≤10^16:=Nat.pow_le_pow_right (by decide) (by omega)
    have p16:(10:Nat)^16=10000000000000000:=by decide
    have w1:IntKind.i64.wrap ((acc:Int)*10)=(acc:Int)*10:=qU (by omega)
    have w2:IntKind.u8.wrap ((c.toNat:Int)-48)=((c.toNat-48:Nat):Int):=by rw [qQe (by omega)];omega
    have w3:IntKind.i64.wrap ((c.toNat-48:Nat):Int)=((c.toNat-48:Nat):Int):=qU (by omega)
    have w4:IntKind.i64.wrap ((acc:Int)*10+((c.toNat-48:Nat):Int))=((acc*10+(c.toNat-48):Nat):Int):=by rw [qU (by omega)];omega
    have w5:IntKind.i64.wrap ((pre.length:Int)+1)=(pre.length:Int)+1:=qU (by omega)
    have e0:((pre++ [c]).length:Int)=(pre.length:Int)+1:=by simp
    rw [qT (v':=(s,((acc*10+(c.toNat-48):Nat):Int),((pre++ [c]).length:Int))) (by
     rw [e0]
     simp [qBa,qC,qE,qJ,qK,qM,qN,zC,qF,qG,qH,hi,hg,c1,c2,w1,w2,w3,w4,w5])]
    rw [qO2 n s r (pre++ [c]) (acc*10+(c.toNat-48)) M (by rw [h1];simp) (by rw [List.length_append,List.length_singleton,Nat.pow_succ];omega) (by simp;omega) (by omega)]
    simp [hc,qDs]
theorem qDR (s:BA) (most:Int) (hm:most≤16):Ev (qm · s most) (l1I s.toList most):=by
 have hsz:s.size=s.toList.length:=(qu s).symm
 by_cases h0:s.toList= []
 ·have hz:s.size=0:=by rw [hsz,h0];rfl
  refine ⟨1,fun n hn=>?_⟩
  obtain ⟨m,rfl,hm⟩:=up1 hn
  simp only [qm,qEb,qC,qE,qJ,qK,qM,qN,zC,qF,qG,qH]
  simp [hz,h0,l1I,qFy]
 ·obtain ⟨c,r,hcr⟩:∃c r,s.toList=c::r:=by
   cases hq:s.toList with
   |nil=>exact absurd hq h0
   |cons a b=>exact ⟨a,b,rfl⟩
  have hl:s.size=r.length+1:=by rw [hsz,hcr];rfl
  have z1:¬(s.size:Int)<1:=by omega
  by_cases h1:(s.size:Int)>most
  ·refine ⟨1,fun n hn=>?_⟩
   obtain ⟨m,rfl,hm⟩:=up1 hn
   simp only [qm,qEb,qC,qE,qJ,qK,qM,qN,zC,qF,qG,qH]
   have:¬((s.toList.length:Int)≤most):=by rw [←hsz];omega
   simp [z1,h1,l1I,this]
  ·have hle:(s.toList.length:Int)≤most:=by rw [←hsz];omega
   refine ⟨30,fun n hn=>?_⟩
   obtain ⟨m,rfl,hm'⟩:=up1 hn
   have hg:s.toList[0]?=some c:=by rw [hcr];rfl
   have lp:=qO2 m s s.toList [] 0 m rfl (by decide) (by simp;omega) (by omega)
   simp only [List.length_nil,Int.natCast_zero] at lp
   have c48:((c.toNat:Int)==48)=(c==48):=by
    by_cases e:c=48
    ·subst e;rfl
    ·have:¬(c.toNat:Int)=48:=fun h=>e (UInt8.toNat_inj.1 (by show c.toNat=48;omega))
     rw [beq_eq_false_iff_ne.2 this,beq_eq_false_iff_ne.2 e]
   simp only [qm,qEb,qC,qE,qJ,qK,qM,qN,zC,qF,qG,qH,lp,Int.toNat_zero,hg,c48]
   rw [if_neg (by simpa using z1),if_neg (by simpa using h1),if_pos (by simp)]
   have ne:(s.toList== [])=false:=by simpa using h0
   have hd:s.toList.head?=some c:=by rw [hcr];rfl
   by_cases hc:c=48
   ·subst hc
    by_cases h2:(s.size:Int)>1
    ·have:¬s.toList.length=1:=by omega
     simp [h2,l1I,qFy,hd,this]
    ·have:s.toList.length=1:=by omega
     cases hall:s.toList.all qAr<;>simp [h2,l1I,qFy,hd,this,hall,ne,hle,qC,qE,qJ,qK,qM,qN,zC,qF,qG,qH]
     ·omega
   ·have:(some c==some 48)=false:=by simpa using hc
    cases hall:s.toList.all qAr<;>simp [hc,l1I,qFy,hd,this,hall,ne,hle,qC,qE,qJ,qK,qM,qN,zC,qF,qG,qH]
theorem qNW (s:BA) (h:s.size≤281474976710656):Ev (qAX · s 10 64) (.inl (qBp s))∨Ev (qAX · s 10 64) (.inr (qBp s)):=by
 have key:∃r,zK s 10 64=some r:=by
  unfold zK
  rw [if_pos ⟨rfl,rfl,h⟩]
  split<;>exact ⟨_,rfl⟩
 obtain ⟨r,hr⟩:=key
 have e:Ev (qAX · s 10 64) r:=⟨1,fun n hn=>by
  obtain ⟨m,rfl,hm⟩:=up1 hn
  exact hr⟩
 rcases r with v|v
 ·exact .inl (by unfold qBp;rw [hr];exact e)
 ·exact .inr (by unfold qBp;rw [hr];exact e)
theorem qF1 (s:BA) (c:UInt8):Ev (qAF · s ⟨#[c]⟩) (if s.toList.head?=some c then (⟨s.toList.tail.toArray⟩,true) else (s,false)):=by
 refine ⟨1,fun n hn=>?_⟩
 obtain ⟨m,rfl,hm⟩:=up1 hn
 show zu s ⟨#[c]⟩=_
 unfold zu Lib.trimPrefix Lib.hasPrefix
 rw [←Go.Lib.toList_data s]
 have es:(⟨s.toList.toArray⟩:BA)=s:=qG7 (by rw [←Go.Lib.toList_data s])
 generalize s.toList=l at*
 cases l with
 |nil=>simp [es]
 |cons a r=>
  by_cases h:a=c
  ·subst h;simp
  ·have:¬c=a:=fun e=>h e.symm
   simp [h,this,es,List.isPrefixOf]
theorem qQj (s:BA) (c:UInt8):Ev (qk · s ⟨#[c]⟩) (s.toList.head?==some c):=by
 refine ⟨2,fun n hn=>?_⟩
 obtain ⟨m,rfl,hm⟩:=up1 hn
 obtain ⟨m,rfl,hm⟩:=up1 hm
 have z:(⟨#[c]⟩:BA).size=1:=rfl
 have tc:(⟨#[c]⟩:BA).toList= [c]:=by rw [Go.Lib.toList_data]
 have hsz:s.size=s.toList.length:=(qu s).symm
 simp only [qk,qB0,qAA,qA0,qC,qE,qJ,qK,qM,qN,zC,qF,qG,qH,z,tc]
 cases hq:s.toList with
 |nil=>
  have:s.size=0:=by rw [hsz,hq];rfl
  simp [this]
 |cons a r=>
  have h1:(1:Int)≤s.size:=by rw [hsz,hq];simp;omega
  have e:(s.extract 0 1).toList= [a]:=by
   rw [Go.Lib.toList_data,ByteArray.data_extract,Array.toList_extract]
   rw [Go.Lib.toList_data] at hq
   simp [hq]
  have h2:1≤s.size:=by omega
  simp [h1,h2,e]
theorem qQk (n:Nat) (s:BA) (a b:Int) (c:BA) (i:Int) (v:V3) (hi:1≤i∧i≤5) (h1:qAm n i=some (qf i)) (h2:qBr n i=some (4,i,em)):
  (qBD n (s,i,a,b,c,v.1,v.2.1,v.2.2)).run=some (.inl (s,i+1,a,b,c,if (qf i).toList=s.toList then (4,i,em) else v)):=by
 have w1:IntKind.i64.wrap (i+1)=i+1:=qU (by omega)
 simp only [qBD,qC,qE,qJ,qK,qM,qN,zC,qF,qG,qH,h1,h2,w1]
 rw [if_pos (zD hi.2)]
 by_cases h:(qf i).toList=s.toList<;>simp [h]
def qLS (s:BA):Nat→Int→V3→V3
 |0,_,v=>v
 |k+1,i,v=>qLS s k (i+1) (if (qf i).toList=s.toList then (4,i,em) else v)
theorem qS1 (s:BA):qLS s 5 1 (0,0,em)=if qEQ s=0 then (0,0,em) else (4,qEQ s,em):=by
 have a2:(1:Int)+1=2:=by decide
 have a3:(2:Int)+1=3:=by decide
 have a4:(3:Int)+1=4:=by decide
 have a5:(4:Int)+1=5:=by decide
 simp only [qLS,qEQ,a2,a3,a4,a5]
 by_cases h5:(qf 5).toList=s.toList
 ·simp [h5]
 by_cases h4:(qf 4).toList=s.toList
 ·simp [h5,h4]
 by_cases h3:(qf 3).toList=s.toList
 ·simp [h5,h4,h3]
 by_cases h2:(qf 2).toList=s.toList
 ·simp [h5,h4,h3,h2]
 by_cases h1:(qf 1).toList=s.toList<;>simp [h5,h4,h3,h2,h1]
theorem qL4 (n:Nat) (s:BA) (a b:Int) (c:BA) (h1:∀i,0≤i∧i≤5→qAm n i=some (qf i)) (h2:∀i,1≤i∧i≤5→qBr n i=some (4,i,em)):
  ∀(k:Nat) (i:Int) (v:V3) (M:Nat),i+k=6→1≤i→k+1≤M→zF (qBD n) M (s,i,a,b,c,v.1,v.2.1,v.2.2)=some (s,a,b,c,(qLS s k i v).1,(qLS s k i v).2.1,(qLS s k i v).2.2)
 |k,i,v,0,e,h,hM=>by omega
 |0,i,v,M+1,e,h,hM=>by
  have hi:¬i≤5:=by omega
  rw [qP (r:=(s,a,b,c,v.1,v.2.1,v.2.2)) (by simp [qBD,qC,qE,qJ,qK,qM,qN,zC,qF,qG,qH,hi])]
  rfl
 |k+1,i,v,M+1,e,h,hM=>by
  rw [qT (qQk n s a b c i v (by omega) (h1 i (by omega)) (h2 i (by omega)))]
  exact qL4 n s a b c h1 h2 k (i+1) _ M (by omega) (by omega) (by omega)
theorem qP6:okV 0 0 em=true:=by simp [okV,em,qp]
theorem qNX:qB4 0 0 em=⟨#[]⟩:=rfl
theorem qF2 {R:Type} {F:Nat→Int→Option R} {f:Int→R} {lo:Int} (h0:0≤lo) (h:∀i,lo≤i∧i≤5→Ev (F · i) (f i)):∃n0,∀n,n0≤n→∀i,lo≤i∧i≤5→F n i=some (f i):=by
 obtain ⟨n0,h1⟩:=qAt (F:=fun i n=>if lo≤i∧i≤5 then F n i else some (f i)) (f:=f) [0,1,2,3,4,5] (fun i _=>by
  by_cases hi:lo≤i∧i≤5
  ·obtain ⟨n0,h1⟩:=h i hi
   exact ⟨n0,fun n hn=>by simp only [if_pos hi];exact h1 n hn⟩
  ·exact ⟨0,fun n _=>by simp only [if_neg hi]⟩)
 refine ⟨n0,fun n hn i hi=>?_⟩
 have:=h1 n hn i (by
  have c:i=0∨i=1∨i=2∨i=3∨i=4∨i=5:=by omega
  rcases c with rfl|rfl|rfl|rfl|rfl|rfl<;>simp)
 simp only [if_pos hi] at this
 exact this
theorem qHA (s:BA) (hb:s.size≤1048576):Ev (qe · s) (qi s):=by
 have te:(⟨#[]⟩:BA).toList= []:=qp
 have tF:(⟨#[70,65,76,83,69]⟩:BA).toList= [70,65,76,83,69]:=by rw [Go.Lib.toList_data]
 have tT:(⟨#[84,82,85,69]⟩:BA).toList= [84,82,85,69]:=by rw [Go.Lib.toList_data]
 have fin:∀k x (t:BA),qBH s=(k,x,t)→t.size≤140737488351232→∃n0,∀n,n0≤n→qAU n k x t=some (okV k x t)∧(okV k x t=true→qq n k x t=some (qB4 k x t)):=fun k x t _ ht=>by
  obtain ⟨n1,h1⟩:=qFp k x t ht
  by_cases ho:okV k x t=true
  ·obtain ⟨n2,h2⟩:=qG9 k x t ho
   exact ⟨n1+n2,fun n hn=>⟨h1 n (by omega),fun _=>h2 n (by omega)⟩⟩
  ·exact ⟨n1,fun n hn=>⟨h1 n hn,fun h=>absurd h ho⟩⟩
 have rd:∀k x (t:BA),qBH s=(k,x,t)→qi s=if okV k x t=true∧(qB4 k x t).toList=s.toList then (k,x,t,true) else (0,0,⟨#[]⟩,false):=fun k x t h=>by unfold qi;rw [h]
 by_cases h39:s.toList.head?=some 39
 ·have hc:qBH s=(2,0,⟨s.toList.tail.toArray⟩):=by unfold qBH;rw [if_pos h39]
  have hsz:(⟨s.toList.tail.toArray⟩:BA).size≤140737488351232:=by rw [qCt];simp only [List.length_tail];rw [qu];omega
  obtain ⟨n0,hf⟩:=fin _ _ _ hc hsz
  rw [rd _ _ _ hc]
  obtain ⟨n1,h1⟩:=qF1 s 39
  refine ⟨n0+n1+1,fun n hn=>?_⟩
  obtain ⟨m,rfl,hm⟩:=up1 hn
  have h1:=h1 m (by omega)
  obtain ⟨g1,g2⟩:=hf m (by omega)
  dsimp only at h1
  simp only [qe,qBL,qC,qE,qJ,qK,qM,qN,zC,qF,qG,qH,h1,if_pos h39,g1]
  cases ho:okV 2 0 (⟨s.toList.tail.toArray⟩:BA) with
  |false=>simp
  |true=>
   simp only [g2 ho]
   by_cases e:(qB4 2 0 (⟨s.toList.tail.toArray⟩:BA)).toList=s.toList<;>simp [e]
 ·have cut:=qF1 s 39
  rw [if_neg h39] at cut
  by_cases hF:s.toList= [70,65,76,83,69]
  ·have hc:qBH s=(3,0,em):=by unfold qBH;rw [if_neg h39,if_pos hF]
   have hT:¬s.toList= [84,82,85,69]:=by rw [hF];decide
   obtain ⟨n0,hf⟩:=fin _ _ _ hc (by decide)
   rw [rd _ _ _ hc]
   obtain ⟨n1,h1⟩:=cut
   obtain ⟨n2,h2⟩:=qKr false
   refine ⟨n0+n1+n2+1,fun n hn=>?_⟩
   obtain ⟨m,rfl,hm⟩:=up1 hn
   have h1:=h1 m (by omega)
   have h2:=h2 m (by omega)
   obtain ⟨g1,g2⟩:=hf m (by omega)
   dsimp only at h1 h2
   simp only [Bool.false_eq_true,if_false] at h2
   have bT:(s.toList== [84,82,85,69])=false:=by simpa using hT
   have bF:(s.toList== [70,65,76,83,69])=true:=by simpa using hF
   simp only [qe,qBL,qC,qE,qJ,qK,qM,qN,zC,qF,qG,qH,h1,tF,tT,bT,bF,h2,g1]
   cases ho:okV 3 0 em with
   |false=>simp
   |true=>
    simp only [g2 ho]
    by_cases e:(qB4 3 0 em).toList=s.toList<;>simp [e]
  ·by_cases hT:s.toList= [84,82,85,69]
   ·have hc:qBH s=(3,1,em):=by unfold qBH;rw [if_neg h39,if_neg hF,if_pos hT]
    obtain ⟨n0,hf⟩:=fin _ _ _ hc (by decide)
    rw [rd _ _ _ hc]
    obtain ⟨n1,h1⟩:=cut
    obtain ⟨n2,h2⟩:=qKr true
    refine ⟨n0+n1+n2+1,fun n hn=>?_⟩
    obtain ⟨m,rfl,hm⟩:=up1 hn
    have h1:=h1 m (by omega)
    have h2:=h2 m (by omega)
    obtain ⟨g1,g2⟩:=hf m (by omega)
    dsimp only at h1 h2
    simp only [if_true] at h2
    have bT:(s.toList== [84,82,85,69])=true:=by simpa using hT
    have bF:(s.toList== [70,65,76,83,69])=false:=by simpa using hF
    simp only [qe,qBL,qC,qE,qJ,qK,qM,qN,zC,qF,qG,qH,h1,tF,tT,bT,bF,h2,g1]
    cases ho:okV 3 1 em with
    |false=>simp
    |true=>
     simp only [g2 ho]
     by_cases e:(qB4 3 1 em).toList=s.toList<;>simp [e]
   ·have bT:(s.toList== [84,82,85,69])=false:=by simpa using hT
    have bF:(s.toList== [70,65,76,83,69])=false:=by simpa using hF
    have pre:=qQj s 35
    by_cases h35:s.toList.head?=some 35
    ·have hc:qBH s=(if qEQ s=0 then (0,0,em) else (4,qEQ s,em)):=by unfold qBH;rw [if_neg h39,if_neg hF,if_neg hT,if_pos h35]
     have main:∀k x (t:BA),qBH s=(k,x,t)→qLS s 5 1 (0,0,em)=(k,x,t)→t.size≤140737488351232→Ev (qe · s) (qi s):=fun k x t hc hu ht=>by
      obtain ⟨n0,hf⟩:=fin _ _ _ hc ht
      rw [rd _ _ _ hc]
      obtain ⟨n1,h1⟩:=cut
      obtain ⟨n2,h2⟩:=pre
      obtain ⟨n3,h3⟩:=qF2 (F:=qAm) (f:=qf) (lo:=0) (by decide) qEu
      obtain ⟨n4,h4⟩:=qF2 (F:=qBr) (f:=fun i=>(4,i,em)) (lo:=1) (by decide) (fun i _=>qKq i)
      refine ⟨n0+n1+n2+n3+n4+10,fun n hn=>?_⟩
      obtain ⟨m,rfl,hm⟩:=up1 hn
      have h1:=h1 m (by omega)
      have h2:=h2 m (by omega)
      have lp:=qL4 m s 0 0 ⟨#[]⟩ (h3 m (by omega)) (h4 m (by omega)) 5 1 (0,0,em) m (by decide) (by decide) (by omega)
      rw [hu] at lp
      obtain ⟨g1,g2⟩:=hf m (by omega)
      dsimp only [em] at h1 h2 lp g1 g2
      have b35:(s.toList.head?==some 35)=true:=by simpa using h35
      simp only [qe,qBL,qC,qE,qJ,qK,qM,qN,zC,qF,qG,qH,h1,tF,tT,bT,bF,h2,b35,lp,g1]
      cases ho:okV k x t with
      |false=>simp
      |true=>
       simp only [g2 ho]
       by_cases e:(qB4 k x t).toList=s.toList<;>simp [e]
     by_cases hz:qEQ s=0
     ·rw [if_pos hz] at hc
      exact main _ _ _ hc (by rw [qS1,if_pos hz]) (show (0:Nat)≤140737488351232 by decide)
     ·rw [if_neg hz] at hc
      exact main _ _ _ hc (by rw [qS1,if_neg hz]) (show (0:Nat)≤140737488351232 by decide)
    ·have b35:(s.toList.head?==some 35)=false:=by simpa using h35
     by_cases h0:s.toList= []
     ·have hc:qBH s=(0,0,em):=by unfold qBH;rw [if_neg h39,if_neg hF,if_neg hT,if_neg h35,if_pos h0]
      obtain ⟨n0,hf⟩:=fin _ _ _ hc (by decide)
      rw [rd _ _ _ hc]
      obtain ⟨n1,h1⟩:=cut
      obtain ⟨n2,h2⟩:=pre
      refine ⟨n0+n1+n2+1,fun n hn=>?_⟩
      obtain ⟨m,rfl,hm⟩:=up1 hn
      have h1:=h1 m (by omega)
      have h2:=h2 m (by omega)
      obtain ⟨g1,g2⟩:=hf m (by omega)
      dsimp only [em] at h1 h2 g1 g2
      have b0:(!(s.toList== []))=false:=by simpa using h0
      simp only [qe,qBL,qC,qE,qJ,qK,qM,qN,zC,qF,qG,qH,h1,tF,tT,bT,bF,h2,b35,te,b0,g1]
      have ho:=qP6
      dsimp only [em] at ho
      simp only [g2 ho,ho]
      by_cases e:(qB4 0 0 (⟨#[]⟩:BA)).toList=s.toList<;>simp [em,ho,e]
     ·have hc:qBH s=(1,qBp s,em):=by unfold qBH;rw [if_neg h39,if_neg hF,if_neg hT,if_neg h35,if_neg h0]
      obtain ⟨n0,hf⟩:=fin _ _ _ hc (by decide)
      rw [rd _ _ _ hc]
      obtain ⟨n1,h1⟩:=cut
      obtain ⟨n2,h2⟩:=pre
      obtain ⟨n4,h4⟩:=qJt (qBp s)
      have b0:(!(s.toList== []))=true:=by simpa using h0
      rcases qNW s (by omega) with ⟨n3,h3⟩|⟨n3,h3⟩
      all_goals
       refine ⟨n0+n1+n2+n3+n4+1,fun n hn=>?_⟩
       obtain ⟨m,rfl,hm⟩:=up1 hn
       have h1:=h1 m (by omega)
       have h2:=h2 m (by omega)
       have h3:=h3 m (by omega)
       have h4:=h4 m (by omega)
       obtain ⟨g1,g2⟩:=hf m (by omega)
       dsimp only at h1 h2 h3 h4
       simp only [qe,qBL,qC,qE,qJ,qK,qM,qN,zC,qF,qG,qH,h1,tF,tT,bT,bF,h2,b35,te,b0,h3,h4,g1]
       cases ho:okV 1 (qBp s) em with
       |false=>simp
       |true=>
        simp only [g2 ho]
        by_cases e:(qB4 1 (qBp s) em).toList=s.toList<;>simp [e]
theorem qL5 (n:Nat) (s:BA) (a b:Int) (c:BA) (h1:∀i,0≤i∧i≤5→qBN n i=some (qf i)):
  ∀(k:Nat) (i x:Int) (M:Nat),i+k=6→1≤i→k+1≤M→(qLS s k i (4,x,em)).1=4∧(qLS s k i (4,x,em)).2.2=em∧zF (qBR n) M (s,i,a,b,c,4,x,⟨#[]⟩)=some (a,b,c,4,(qLS s k i (4,x,em)).2.1,⟨#[]⟩)
 |k,i,x,0,e,h,hM=>by omega
 |0,i,x,M+1,e,h,hM=>by
  have hi:¬i≤5:=by omega
  refine ⟨rfl,rfl,?_⟩
  rw [qP (r:=(a,b,c,4,x,⟨#[]⟩)) (by simp [qBR,qC,qE,qJ,qK,qM,qN,zC,qF,qG,qH,hi])]
  rfl
 |k+1,i,x,M+1,e,h,hM=>by
  have hi:i≤5:=by omega
  have g:=h1 i (by omega)
  have w1:IntKind.i64.wrap (i+1)=i+1:=qU (by omega)
  have hu:qLS s (k+1) i (4,x,em)=qLS s k (i+1) (4,if (qf i).toList=s.toList then i else x,em):=by
   simp only [qLS]
   split<;>rfl
  rw [hu,qT (v':=(s,i+1,a,b,c,4,(if (qf i).toList=s.toList then i else x),⟨#[]⟩)) (by
   simp only [qBR,qC,qE,qJ,qK,qM,qN,zC,qF,qG,qH,g,w1]
   rw [if_pos (zD hi)]
   by_cases hq:(qf i).toList=s.toList<;>simp [hq])]
  exact qL5 n s a b c h1 k (i+1) _ M (by omega) (by omega) (by omega)
theorem qTj (s:BA):qLS s 5 1 (4,0,em)=(4,qEQ s,em):=by
 have a2:(1:Int)+1=2:=by decide
 have a3:(2:Int)+1=3:=by decide
 have a4:(3:Int)+1=4:=by decide
 have a5:(4:Int)+1=5:=by decide
 simp only [qLS,qEQ,a2,a3,a4,a5]
 by_cases h5:(qf 5).toList=s.toList
 ·simp [h5]
 by_cases h4:(qf 4).toList=s.toList
 ·simp [h5,h4]
 by_cases h3:(qf 3).toList=s.toList
 ·simp [h5,h4,h3]
 by_cases h2:(qf 2).toList=s.toList
 ·simp [h5,h4,h3,h2]
 by_cases h1:(qf 1).toList=s.toList<;>simp [h5,h4,h3,h2,h1]
theorem qUi (s:BA):(s.extract (1:Int).toNat ((s.size:Int)).toNat).toList=s.toList.tail:=by
 have e1:(1:Int).toNat=1:=rfl
 rw [Int.toNat_natCast,e1,Go.Lib.toList_data,ByteArray.data_extract,Array.toList_extract,Go.Lib.toList_data]
 have hl:s.data.toList.length=s.size:=by rw [←qCt]
 show (s.data.toList.drop 1).take (s.size-1)=s.data.toList.tail
 rw [List.take_of_length_le (by rw [List.length_drop,hl];exact Nat.le_refl _),List.drop_one]
theorem qS2 {s:BA} {c:UInt8} {r:List UInt8} (h:s.toList=c::r):s.toList[((0:Int)).toNat]?=some c:=by rw [h];rfl
theorem qSG {x:Int}:okV 1 x em=decide (-1000000000000000≤x∧x≤1000000000000000):=by
 simp [okV,em,qp]
theorem qSg {s:BA} (h39:¬s.toList.head?=some 39) (hF:¬s.toList= [70,65,76,83,69]) (hT:¬s.toList= [84,82,85,69]) (h35:¬s.toList.head?=some 35) (h0:¬s.toList= []):
  qi s=match qQh s.toList with
   |some x=>if okV 1 x em=true then (1,x,em,true) else (0,0,⟨#[]⟩,false)
   |none=>(0,0,⟨#[]⟩,false):=by
 have hc:qBH s=(1,qBp s,em):=by unfold qBH;rw [if_neg h39,if_neg hF,if_neg hT,if_neg h35,if_neg h0]
 have rd:qi s=if okV 1 (qBp s) em=true∧(qB4 1 (qBp s) em).toList=s.toList then (1,qBp s,em,true) else (0,0,⟨#[]⟩,false):=by unfold qi;rw [hc]
 have tx:∀x,(qB4 1 x em).toList=Lib.itoa x:=fun x=>by
  rw [Go.Lib.toList_data];simp [qB4,qC9]
 have back:okV 1 (qBp s) em=true∧(qB4 1 (qBp s) em).toList=s.toList→qQh s.toList=some (qBp s):=fun ⟨a,b⟩=>by
  rw [tx] at b
  rw [qSG] at a
  rw [←b]
  exact qSf (by simpa using a)
 rw [rd]
 cases hn:qQh s.toList with
 |none=>
  rw [if_neg (fun h=>by rw [back h] at hn;cases hn)]
 |some x=>
  by_cases hx:okV 1 x em=true
  ·have hi:=qSe hn
   have hr: -1000000000000000≤x∧x≤1000000000000000:=by rw [qSG] at hx;simpa using hx
   have hp:=qNV hi hr
   dsimp only
   rw [hp,if_pos ⟨hx,by rw [tx,hi]⟩,if_pos hx]
  ·dsimp only
   rw [if_neg hx,if_neg (fun h=>by
    have:=back h
    rw [hn] at this
    cases this
    exact hx h.1)]
theorem qSh (s:BA) {c:UInt8} {r:List UInt8} (hcr:s.toList=c::r):qQh s.toList=if c=45 then (if (l1I s.toList.tail 16).2=true∧(l1I s.toList.tail 16).1≠0 then some (-(l1I s.toList.tail 16).1) else none) else (if (l1I s.toList 16).2=true then some (l1I s.toList 16).1 else none):=by
 unfold qQh
 rw [hcr]
 simp only [List.head?_cons,zQ,List.drop_one]
theorem qHB (s:BA) (hb:s.size≤1048576):Ev (qAH · s) (qi s):=by
 have te:(⟨#[]⟩:BA).toList= []:=qp
 have tF:(⟨#[70,65,76,83,69]⟩:BA).toList= [70,65,76,83,69]:=by rw [Go.Lib.toList_data]
 have tT:(⟨#[84,82,85,69]⟩:BA).toList= [84,82,85,69]:=by rw [Go.Lib.toList_data]
 have hsz:s.size=s.toList.length:=(qu s).symm
 by_cases h0:s.toList= []
 ·have hv:qi s=(0,0,⟨#[]⟩,true):=by
   have hc:qBH s=(0,0,em):=by unfold qBH;rw [h0];simp
   unfold qi
   rw [hc,if_pos ⟨qP6,by rw [qNX,h0];exact te⟩]
   rfl
  rw [hv]
  refine ⟨1,fun n hn=>?_⟩
  obtain ⟨m,rfl,hm⟩:=up1 hn
  simp only [qAH,qA5,qC,qE,qJ,qK,qM,qN,zC,qF,qG,qH]
  simp [h0,te]
 ·obtain ⟨c,r,hcr⟩:∃c r,s.toList=c::r:=by
   cases hq:s.toList with
   |nil=>exact absurd hq h0
   |cons a b=>exact ⟨a,b,rfl⟩
  have hg:=qS2 hcr
  have hd:s.toList.head?=some c:=by rw [hcr];rfl
  have b0:(s.toList== [])=false:=by simpa using h0
  have s1:(1:Int)≤(s.size:Int):=by rw [hsz,hcr];simp;omega
  have k39:=qTi c 39 (by decide)
  have k35:=qTi c 35 (by decide)
  have k45:=qTi c 45 (by decide)
  have u39:UInt8.ofNat 39=39:=rfl
  have u35:UInt8.ofNat 35=35:=rfl
  have u45:UInt8.ofNat 45=45:=rfl
  rw [u39] at k39
  rw [u35] at k35
  rw [u45] at k45
  have q39:((39:Nat):Int)=39:=rfl
  have q35:((35:Nat):Int)=35:=rfl
  have q45:((45:Nat):Int)=45:=rfl
  rw [q39] at k39
  rw [q35] at k35
  rw [q45] at k45
  by_cases h39:c=39
  ·have hx:(⟨s.toList.tail.toArray⟩:BA)=s.extract (1:Int).toNat ((s.size:Int)).toNat:=qDT (by rw [qUi];rw [Go.Lib.toList_data])
   have hc:qBH s=(2,0,s.extract (1:Int).toNat ((s.size:Int)).toNat):=by unfold qBH;rw [if_pos (by rw [hd,h39]),hx]
   have hz:(s.extract (1:Int).toNat ((s.size:Int)).toNat).size≤140737488351232:=by rw [←hx,qCt];simp only [List.length_tail];rw [qu];omega
   have hvt:(qB4 2 0 (s.extract (1:Int).toNat ((s.size:Int)).toNat)).toList=s.toList:=by
    rw [←hx,Go.Lib.toList_data]
    show ((⟨#[39]⟩:BA)++_).data.toList=_
    rw [qDJ,hcr,h39]
    rfl
   have hv:qi s=if okV 2 0 (s.extract (1:Int).toNat ((s.size:Int)).toNat)=true then (2,0,s.extract (1:Int).toNat ((s.size:Int)).toNat,true) else (0,0,⟨#[]⟩,false):=by
    unfold qi
    rw [hc]
    simp only [hvt,and_true]
   rw [hv]
   have e39:(some c==some 39)=true:=by rw [h39];rfl
   obtain ⟨n1,h1⟩:=qAD 2 0 (s.extract (1:Int).toNat ((s.size:Int)).toNat) hz
   refine ⟨n1+1,fun n hn=>?_⟩
   obtain ⟨m,rfl,hm⟩:=up1 hn
   have h1:=h1 m (by omega)
   dsimp only at h1
   simp only [qAH,qA5,qC,qE,qJ,qK,qM,qN,zC,qF,qG,qH,h1]
   simp only [qC,qE,qJ,qK,qM,qN,zC,qF,qG,qH,te,b0,hg,k39,e39]
   cases ho:okV 2 0 (s.extract (1:Int).toNat ((s.size:Int)).toNat)<;>simp [s1]
  ·have n39:¬s.toList.head?=some 39:=by rw [hd];simpa using h39
   have e39:(some c==some 39)=false:=by simpa using h39
   by_cases hT:s.toList= [84,82,85,69]
   ·have hF:¬s.toList= [70,65,76,83,69]:=by rw [hT];decide
    have hc:qBH s=(3,1,em):=by unfold qBH;rw [if_neg n39,if_neg hF,if_pos hT]
    have ho:okV 3 1 em=true:=by simp [okV,em,qp]
    have hv:qi s=(3,1,⟨#[]⟩,true):=by
     unfold qi
     rw [hc,if_pos ⟨ho,by rw [hT];exact tT⟩]
     rfl
    rw [hv]
    have bT:(s.toList== [84,82,85,69])=true:=by simpa using hT
    obtain ⟨n1,h1⟩:=qAD 3 1 ⟨#[]⟩ (by decide)
    refine ⟨n1+1,fun n hn=>?_⟩
    obtain ⟨m,rfl,hm⟩:=up1 hn
    have h1:=h1 m (by omega)
    dsimp only at h1
    simp only [qAH,qA5,qC,qE,qJ,qK,qM,qN,zC,qF,qG,qH,h1]
    dsimp only [em] at ho
    simp only [qC,qE,qJ,qK,qM,qN,zC,qF,qG,qH,te,b0,hg,k39,e39,tT,bT,ho]
    simp
   ·have bT:(s.toList== [84,82,85,69])=false:=by simpa using hT
    by_cases hF:s.toList= [70,65,76,83,69]
    ·have hc:qBH s=(3,0,em):=by unfold qBH;rw [if_neg n39,if_pos hF]
     have ho:okV 3 0 em=true:=by simp [okV,em,qp]
     have hv:qi s=(3,0,⟨#[]⟩,true):=by
      unfold qi
      rw [hc,if_pos ⟨ho,by rw [hF];exact tF⟩]
      rfl
     rw [hv]
     have bF:(s.toList== [70,65,76,83,69])=true:=by simpa using hF
     obtain ⟨n1,h1⟩:=qAD 3 0 ⟨#[]⟩ (by decide)
     refine ⟨n1+1,fun n hn=>?_⟩
     obtain ⟨m,rfl,hm⟩:=up1 hn
     have h1:=h1 m (by omega)
     dsimp only at h1
     simp only [qAH,qA5,qC,qE,qJ,qK,qM,qN,zC,qF,qG,qH,h1]
     dsimp only [em] at ho
     simp only [qC,qE,qJ,qK,qM,qN,zC,qF,qG,qH,te,b0,hg,k39,e39,tT,bT,tF,bF,ho]
     simp
    ·have bF:(s.toList== [70,65,76,83,69])=false:=by simpa using hF
     by_cases h35:c=35
     ·have n35:s.toList.head?=some 35:=by rw [hd,h35]
      have e35:(some c==some 35)=true:=by rw [h35];rfl
      have hc:qBH s=(if qEQ s=0 then (0,0,em) else (4,qEQ s,em)):=by unfold qBH;rw [if_neg n39,if_neg hF,if_neg hT,if_pos n35]
      have hin:=qTg s
      have ho:okV 4 (qEQ s) (⟨#[]⟩:BA)=!(qEQ s==0):=by
       by_cases hz:qEQ s=0
       ·simp [okV,qp,hz]
       ·have hr:1≤qEQ s∧qEQ s≤5:=by omega
        simp [okV,qp,hr,hz]
      have hv:qi s=if qEQ s=0 then (0,0,⟨#[]⟩,false) else (4,qEQ s,⟨#[]⟩,true):=by
       unfold qi
       rw [hc]
       by_cases hz:qEQ s=0
       ·simp only [if_pos hz]
        rw [if_neg (fun h=>h0 (by rw [←h.2,qNX];exact te))]
       ·simp only [if_neg hz]
        have ho':okV 4 (qEQ s) em=true:=by show okV 4 (qEQ s) ⟨#[]⟩=true;rw [ho];simpa using hz
        rw [if_pos ⟨ho',by show (qf (qEQ s)).toList=s.toList;rw [qTh hz]⟩]
        rfl
      rw [hv]
      obtain ⟨n1,h1⟩:=qAD 4 (qEQ s) ⟨#[]⟩ (by decide)
      obtain ⟨n3,h3⟩:=qF2 (F:=qBN) (f:=qf) (lo:=0) (by decide) qGj
      refine ⟨n1+n3+10,fun n hn=>?_⟩
      obtain ⟨m,rfl,hm⟩:=up1 hn
      have h1:=h1 m (by omega)
      dsimp only at h1
      obtain ⟨_,_,lp⟩:=qL5 m s 0 0 ⟨#[]⟩ (h3 m (by omega)) 5 1 0 m (by decide) (by decide) (by omega)
      rw [qTj] at lp
      simp only [qAH,qA5,qC,qE,qJ,qK,qM,qN,zC,qF,qG,qH,te,b0,hg,k39,e39,tT,bT,tF,bF,k35,e35,lp,h1,ho]
      by_cases hz:qEQ s=0<;>simp [hz]
     ·have n35:¬s.toList.head?=some 35:=by rw [hd];simpa using h35
      have e35:(some c==some 35)=false:=by simpa using h35
      rw [qSg n39 hF hT n35 h0,qSh s hcr]
      dsimp only [em]
      by_cases h45:c=45
      ·have e45:(some c==some 45)=true:=by rw [h45];rfl
       have g16:∀{q:List UInt8},(l1I q 16).2=true→(0≤(l1I q 16).1∧(l1I q 16).1≤10000000000000000):=fun {q} hq=>by
        have p16:(10:Nat)^16=10000000000000000:=by decide
        obtain ⟨a1,a2,a3,a4⟩:=qOz hq
        rw [a3]
        simp only [qFy,Bool.and_eq_true] at a2
        have:=qQg q 0 0 a2.1.2 (by decide)
        have h2:(10:Nat)^(0+q.length)≤10^16:=Nat.pow_le_pow_right (by decide) (by omega)
        omega
       have hl:=qDR (s.extract (1:Int).toNat ((s.size:Int)).toNat) 16 (by decide)
       rw [qUi] at hl
       have hrange:= @g16 s.toList.tail
       generalize l1I s.toList.tail 16=q at*
       obtain ⟨x,ok⟩:=q
       have w1:ok=true→IntKind.i64.wrap (0-x)= -x:=fun h=>by
        have:=hrange h
        dsimp only at this
        rw [Int.zero_sub];exact qU (by omega)
       obtain ⟨n1,h1⟩:=hl
       obtain ⟨n2,h2⟩:=qAD 1 (-x) ⟨#[]⟩ (by decide)
       refine ⟨n1+n2+1,fun n hn=>?_⟩
       obtain ⟨m,rfl,hm⟩:=up1 hn
       have h1:=h1 m (by omega)
       dsimp only at h1
       have h2:=h2 m (by omega)
       dsimp only at h2
       simp only [qAH,qA5,qC,qE,qJ,qK,qM,qN,zC,qF,qG,qH,h1,h2]
       simp only [qC,qE,qJ,qK,qM,qN,zC,qF,qG,qH,te,b0,hg,k39,e39,tT,bT,tF,bF,k35,e35,k45,e45,h45,if_true]
       cases ok with
       |false=>simp [s1]
       |true=>
        simp only [qC,qE,qJ,qK,qM,qN,zC,qF,qG,qH,w1 rfl,h2]
        by_cases hx:x=0
        ·simp [s1,hx]
        ·cases ho:okV 1 (-x) (⟨#[]⟩:BA)<;>simp [s1,hx,ho]
      ·have e45:(some c==some 45)=false:=by simpa using h45
       have hl:=qDR s 16 (by decide)
       generalize l1I s.toList 16=q at*
       obtain ⟨x,ok⟩:=q
       obtain ⟨n1,h1⟩:=hl
       obtain ⟨n2,h2⟩:=qAD 1 x ⟨#[]⟩ (by decide)
       refine ⟨n1+n2+1,fun n hn=>?_⟩
       obtain ⟨m,rfl,hm⟩:=up1 hn
       have h1:=h1 m (by omega)
       dsimp only at h1
       have h2:=h2 m (by omega)
       dsimp only at h2
       simp only [qAH,qA5,qC,qE,qJ,qK,qM,qN,zC,qF,qG,qH,h1,h2]
       simp only [qC,qE,qJ,qK,qM,qN,zC,qF,qG,qH,te,b0,hg,k39,e39,tT,bT,tF,bF,k35,e35,k45,e45,if_neg h45]
       cases ok with
       |false=>simp
       |true=>cases ho:okV 1 x (⟨#[]⟩:BA)<;>simp [ho]
def rcK (s:BA):Nat→Int→Int
 |0,_=>0
 |k+1,i=>if (qBt i).toList=s.toList then i else rcK s k (i+1)
def qEv (s:BA):Int:=rcK s 52 1
theorem qS3 (s:BA):∀(k:Nat) (i:Int),1≤rcK s k i→(qBt (rcK s k i)).toList=s.toList
 |0,i,h=>by simp [rcK] at h
 |k+1,i,h=>by
  simp only [rcK] at h⊢
  by_cases e:(qBt i).toList=s.toList
  ·rw [if_pos e];exact e
  ·rw [if_neg e] at h⊢;exact qS3 s k (i+1) h
def qFK (c:UInt8):Bool:=decide (65≤c.toNat)&&decide (c.toNat≤90)
def qW (l:List UInt8):List UInt8:=if l.head?=some 36 then l.tail else l
def qQ (l:List UInt8):List UInt8:=l.takeWhile qFK
def qh (l:List UInt8):List UInt8:=l.dropWhile qFK
def qAN (s:BA):Int×Int×Bool×Bool×Bool:=
 if (l1I (qW (qh (qW s.toList))) 2).2=true∧qA1 (qEv ⟨(qQ (qW s.toList)).toArray⟩) (l1I (qW (qh (qW s.toList))) 2).1=true then
  (qEv ⟨(qQ (qW s.toList)).toArray⟩,(l1I (qW (qh (qW s.toList))) 2).1,s.toList.head?==some 36,(qh (qW s.toList)).head?==some 36,true) else (0,0,false,false,false)
theorem qLT {R:Type} {B:BA×Int→Tr ((BA×Int)⊕(Int⊕Unit))} {s:BA} (hs:∀i:Int,1≤i∧i≤52→(B (s,i)).run=some (if (qBt i).toList=s.toList then .inr (.inl i) else .inl (s,i+1))) (he:(B (s,53)).run=some (.inr (.inr ()))):
  ∀(k:Nat) (i:Int) (M:Nat),1≤i→i+k=53→k+1≤M→zF B M (s,i)=some (if rcK s k i=0 then .inr () else .inl (rcK s k i))
 |k,i,0,h1,h2,h3=>by omega
 |0,i,M+1,h1,h2,h3=>by
  have:i=53:=by omega
  subst this
  rw [qP he]
  rfl
 |k+1,i,M+1,h1,h2,h3=>by
  have h:=hs i ⟨h1,by omega⟩
  by_cases e:(qBt i).toList=s.toList
  ·rw [if_pos e] at h
   rw [qP h]
   simp only [rcK,if_pos e]
   rw [if_neg (by omega)]
  ·rw [if_neg e] at h
   rw [qT h]
   simp only [rcK,if_neg e]
   exact qLT (R:=R) hs he k (i+1) M (by omega) (by omega) (by omega)
theorem qSH {F:Nat→Int→Option BA} (h:∀i,Ev (F · i) (qBt i)):∃n0,∀n,n0≤n→∀i,1≤i∧i≤52→F n i=some (qBt i):=by
 obtain ⟨n0,h1⟩:=qAt (F:=fun (i:Nat) n=>F n (i:Int)) (f:=fun i=>qBt (i:Int)) (List.range 53) (fun i _=>h i)
 refine ⟨n0,fun n hn i hi=>?_⟩
 have:=h1 n hn i.toNat (by rw [List.mem_range];omega)
 rwa [Int.toNat_of_nonneg (by omega)] at this
theorem qOC (s:BA):Ev (qCF · s) (qEv s):=by
 obtain ⟨n0,h⟩:=qSH qI4
 refine ⟨n0+60,fun n hn=>?_⟩
 obtain ⟨m,rfl,hm⟩:=up1 hn
 have hc:=h m (by omega)
 have lp:=qLT (R:=Unit) (B:=qCU m) (s:=s) (fun i hi=>by
  have g:=hc i hi
  have w1:IntKind.i64.wrap (i+1)=i+1:=qU (by omega)
  simp only [qCU,qC,qE,qJ,qK,qM,qN,zC,qF,qG,qH,g,w1]
  rw [if_pos (zD hi.2)]
  by_cases e:(qBt i).toList=s.toList<;>simp [e]) (by simp [qCU,qC,qE,qJ,qK,qM,qN,zC,qF,qG,qH]) 52 1 m (by decide) (by decide) (by omega)
 simp only [qCF,qF9,qC,qE,qJ,qK,qM,qN,zC,qF,qG,qH,lp]
 show _=some (rcK s 52 1)
 by_cases e:rcK s 52 1=0
 ·rw [if_pos e,e];rfl
 ·rw [if_neg e];rfl
theorem qOD (s:BA):Ev (qEj · s) (qEv s):=by
 obtain ⟨n0,h⟩:=qSH qI3
 refine ⟨n0+60,fun n hn=>?_⟩
 obtain ⟨m,rfl,hm⟩:=up1 hn
 have hc:=h m (by omega)
 have lp:=qLT (R:=Unit) (B:=qCZ m) (s:=s) (fun i hi=>by
  have g:=hc i hi
  have w1:IntKind.i64.wrap (i+1)=i+1:=qU (by omega)
  simp only [qCZ,qC,qE,qJ,qK,qM,qN,zC,qF,qG,qH,g,w1]
  rw [if_pos (zD hi.2)]
  by_cases e:(qBt i).toList=s.toList<;>simp [e]) (by simp [qCZ,qC,qE,qJ,qK,qM,qN,zC,qF,qG,qH]) 52 1 m (by decide) (by decide) (by omega)
 simp only [qEj,qGN,qC,qE,qJ,qK,qM,qN,zC,qF,qG,qH,lp]
 show _=some (rcK s 52 1)
 by_cases e:rcK s 52 1=0
 ·rw [if_pos e,e];rfl
 ·rw [if_neg e];rfl
theorem qBw (b:BA):b.size=b.toList.length:=(qu b).symm
theorem qO3 (b:BA) (k:Nat):(b.extract 0 k).toList=b.toList.take k:=by
 rw [Go.Lib.toList_data,ByteArray.data_extract,Array.toList_extract,Go.Lib.toList_data]
 show (b.data.toList.drop 0).take (k-0)=_
 simp
theorem qEw (b:BA) (k:Nat):(b.extract k b.size).toList=b.toList.drop k:=by
 rw [Go.Lib.toList_data,ByteArray.data_extract,Array.toList_extract,Go.Lib.toList_data]
 have hl:b.data.toList.length=b.size:=by rw [←qCt]
 show (b.data.toList.drop k).take (b.size-k)=_
 rw [List.take_of_length_le (by rw [List.length_drop,hl];exact Nat.le_refl _)]
theorem qL6 (l:List UInt8):l.take (qQ l).length=qQ l:=by
 have h:=List.takeWhile_append_dropWhile (p:=qFK) (l:=l)
 have h2:(List.takeWhile qFK l++List.dropWhile qFK l).take (List.takeWhile qFK l).length=List.takeWhile qFK l:=List.take_left ..
 rw [h] at h2
 exact h2
theorem qIZ (l:List UInt8):l.drop (qQ l).length=qh l:=by
 have h:=List.takeWhile_append_dropWhile (p:=qFK) (l:=l)
 have h2:(List.takeWhile qFK l++List.dropWhile qFK l).drop (List.takeWhile qFK l).length=List.dropWhile qFK l:=List.drop_left ..
 rw [h] at h2
 exact h2
theorem qNY (l:List UInt8):(qQ l).length≤l.length:=by
 have h:=congrArg List.length (List.takeWhile_append_dropWhile (p:=qFK) (l:=l))
 rw [List.length_append] at h
 unfold qQ
 omega
theorem qL7 (n:Nat) (b:BA) (fc:Bool) (hb:b.size≤1048576):∀(r pre:List UInt8) (M:Nat),b.toList=pre++r→r.length+1≤M→
  zF (qAL n) M (b,(pre.length:Int),0,0,false,false,0,0,fc,false)=some (b,((pre.length+(qQ r).length:Nat):Int),0,0,false,false,0,0,fc,false)
 |r,pre,0,h1,h2=>by omega
 | [],pre,M+1,h1,h2=>by
  have hi:¬(pre.length:Int)<b.size:=by rw [qBw,h1];simp
  rw [qP (r:=(b,(pre.length:Int),0,0,false,false,0,0,fc,false)) (by simp [qAL,qC,qE,qJ,qK,qM,qN,zC,qF,qG,qH,hi])]
  simp [qQ]
 |c::r,pre,M+1,h1,h2=>by
  have hl:b.size=pre.length+(r.length+1):=by rw [qBw,h1];simp
  have hi:(pre.length:Int)<b.size:=by omega
  have hg:b.toList[pre.length]?=some c:=by rw [h1];simp
  have w1:IntKind.i64.wrap ((pre.length:Int)+1)=(pre.length:Int)+1:=qU (by omega)
  by_cases hc:qFK c=true
  ·have hc':65≤c.toNat∧c.toNat≤90:=by simpa [qFK] using hc
   have c1:(c.toNat:Int)≥65:=by omega
   have c2:(c.toNat:Int)≤90:=by omega
   have e0:((pre++ [c]).length:Int)=(pre.length:Int)+1:=by simp
   rw [qT (v':=(b,((pre++ [c]).length:Int),0,0,false,false,0,0,fc,false)) (by
    rw [e0]
    simp [qAL,qC,qE,qJ,qK,qM,qN,zC,qF,qG,qH,hi,hg,c1,c2,w1])]
   rw [qL7 n b fc hb r (pre++ [c]) M (by rw [h1];simp) (by simp at h2;omega)]
   simp [qQ,hc]
   omega
  ·rw [qP (r:=(b,(pre.length:Int),0,0,false,false,0,0,fc,false)) (by
    by_cases c1:(c.toNat:Int)≥65
    ·have c2:¬(c.toNat:Int)≤90:=fun h=>hc (by simp [qFK];omega)
     simp [qAL,qC,qE,qJ,qK,qM,qN,zC,qF,qG,qH,hi,hg,c1,c2]
    ·simp [qAL,qC,qE,qJ,qK,qM,qN,zC,qF,qG,qH,hi,hg,c1])]
   simp [qQ,hc]
theorem qHC (s:BA) (hb:s.size≤1048576):Ev (qAQ · s) (qAN s):=by
 have main:∀(b:BA) (fc:Bool),b.size≤1048576→b.toList=qW s.toList→fc=(s.toList.head?==some 36)→
   ∃n0,∀m,n0≤m→zF (qAL m) m (b,0,0,0,false,false,0,0,fc,false)=some (b,((qQ (qW s.toList)).length:Int),0,0,false,false,0,0,fc,false)∧
    qCF m (b.extract 0 (qQ (qW s.toList)).length)=some (qEv ⟨(qQ (qW s.toList)).toArray⟩)∧
    qm m (b.extract (qQ (qW s.toList)).length b.size) 2=some (l1I (qh (qW s.toList)) 2)∧
    qm m ((b.extract (qQ (qW s.toList)).length b.size).extract 1 (b.extract (qQ (qW s.toList)).length b.size).size) 2=some (l1I (qh (qW s.toList)).tail 2):=fun b fc hb hl _=>by
  have x1:b.extract 0 (qQ (qW s.toList)).length=⟨(qQ (qW s.toList)).toArray⟩:=qDT (by rw [qO3,hl,qL6,qBA (qQ (qW s.toList))])
  have x2:(b.extract (qQ (qW s.toList)).length b.size).toList=qh (qW s.toList):=by rw [qEw,hl,qIZ]
  have x3:((b.extract (qQ (qW s.toList)).length b.size).extract 1 (b.extract (qQ (qW s.toList)).length b.size).size).toList=(qh (qW s.toList)).tail:=by rw [qEw,x2,List.drop_one]
  obtain ⟨n1,h1⟩:=qOC (b.extract 0 (qQ (qW s.toList)).length)
  obtain ⟨n2,h2⟩:=qDR (b.extract (qQ (qW s.toList)).length b.size) 2 (by decide)
  obtain ⟨n3,h3⟩:=qDR ((b.extract (qQ (qW s.toList)).length b.size).extract 1 (b.extract (qQ (qW s.toList)).length b.size).size) 2 (by decide)
  rw [x1] at h1
  rw [x2] at h2
  rw [x3] at h3
  refine ⟨n1+n2+n3+b.size+2,fun m hm=>⟨?_,by rw [x1];exact h1 m (by omega),h2 m (by omega),h3 m (by omega)⟩⟩
  have:=qL7 m b fc hb b.toList [] m rfl (by rw [←qBw];omega)
  simp only [List.length_nil,Int.natCast_zero,Nat.zero_add] at this
  rw [this,hl]
 have z:∀(b:BA),b.toList=qW s.toList→((qQ (qW s.toList)).length:Int)≤b.size:=fun b hl=>by
  have:=qNY (qW s.toList)
  rw [←hl] at this⊢
  rw [qBw]
  omega
 have k36:∀c:UInt8,((c.toNat:Int)==36)=(some c==some 36):=fun c=>by
  have h:=qTi c 36 (by decide)
  have u:UInt8.ofNat 36=36:=rfl
  rw [u] at h
  exact h
 unfold qAN
 have part:∀(b:BA) (fc:Bool),b.size≤1048576→b.toList=qW s.toList→fc=(s.toList.head?==some 36)→
   ((fc=true∧b=s.extract 1 s.size∧∃c r,s.toList=c::r∧c=36)∨(fc=false∧b=s∧∀c r,s.toList=c::r→(some c==some (36:UInt8))=false))→
   Ev (qAQ · s) (if (l1I (qW (qh (qW s.toList))) 2).2=true∧qA1 (qEv ⟨(qQ (qW s.toList)).toArray⟩) (l1I (qW (qh (qW s.toList))) 2).1=true then
    (qEv ⟨(qQ (qW s.toList)).toArray⟩,(l1I (qW (qh (qW s.toList))) 2).1,s.toList.head?==some 36,(qh (qW s.toList)).head?==some 36,true) else (0,0,false,false,false)):=fun b fc hb2 hl hfc hcase=>by
  obtain ⟨n0,hm0⟩:=main b fc hb2 hl hfc
  have hz:=z b hl
  obtain ⟨n2,h2⟩:=qCm (qEv ⟨(qQ (qW s.toList)).toArray⟩) (l1I (qW (qh (qW s.toList))) 2).1
  have x2:(b.extract (qQ (qW s.toList)).length b.size).toList=qh (qW s.toList):=by rw [qEw,hl,qIZ]
  rw [←hfc]
  refine ⟨n0+n2+1,fun n hn=>?_⟩
  obtain ⟨m,rfl,hm⟩:=up1 hn
  obtain ⟨g1,g2,g3,g4⟩:=hm0 m (by omega)
  have h2:=h2 m (by omega)
  dsimp only at h2
  have e1:(1:Int).toNat=1:=rfl
  have e0:(0:Int).toNat=0:=rfl
  have start:∀q,(qCC m s).run=q→qAQ (m+1) s=q:=fun q h=>h
  apply start
  rcases hcase with ⟨rfl,rfl,c,r,hcr,rfl⟩|⟨rfl,rfl,hno⟩
  ·have hsz:(s.size:Int)>0:=by rw [qBw,hcr];simp<;>omega
   have hs1:(1:Int)≤s.size:=by omega
   have hg:s.toList[0]?=some 36:=by rw [hcr];rfl
   have bs:(s.extract 1 s.size).size=s.size-1:=by rw [qBw,qEw,List.length_drop,←qBw]
   have zn:(qQ (qW s.toList)).length≤s.size-1:=by rw [←bs];omega
   have sn:0<s.size:=by omega
   have c36:((((36:UInt8)).toNat:Int)==36)=true:=rfl
   simp only [qCC,qC,qE,qJ,qK,qM,qN,zC,qF,qG,qH,Int.toNat_natCast,e0,e1,hg,c36,g1,g2]
   cases hq:qh (qW s.toList) with
   |nil=>
    have y0:((s.extract 1 s.size).extract (qQ (qW s.toList)).length (s.extract 1 s.size).size).size=0:=by rw [qBw,x2,hq];rfl
    have hoff:qW (qh (qW s.toList))= []:=by rw [hq];rfl
    rw [hoff] at h2
    rw [hq] at g3
    simp only [y0,g3,h2,qC,qE,qJ,qK,qM,qN,zC,qF,qG,qH]
    have hoff':qW ([]:List UInt8)= []:=rfl
    rw [hoff']
    generalize l1I ([]:List UInt8) 2=q at*
    obtain ⟨x,ok⟩:=q
    cases ok<;>cases hk:qA1 (qEv ⟨(qQ (qW s.toList)).toArray⟩) x<;>simp [hz,hsz,hs1,zn,sn]
   |cons d w=>
    have y0:(((s.extract 1 s.size).extract (qQ (qW s.toList)).length (s.extract 1 s.size).size).size:Int)>0:=by rw [qBw,x2,hq];simp<;>omega
    have y1:(1:Int)≤((s.extract 1 s.size).extract (qQ (qW s.toList)).length (s.extract 1 s.size).size).size:=by omega
    have ys:((s.extract 1 s.size).extract (qQ (qW s.toList)).length (s.extract 1 s.size).size).size=(s.extract 1 s.size).size-(qQ (qW s.toList)).length:=by rw [qBw,qEw,List.length_drop,←qBw]
    have yn:(qQ (qW s.toList)).length<(s.size-1):=by rw [←bs];omega
    have yn2:1≤(s.size-1)-(qQ (qW s.toList)).length:=by omega
    have yn3:0<(s.size-1)-(qQ (qW s.toList)).length:=by omega
    have yn4:(1:Int)≤(((s.size-1)-(qQ (qW s.toList)).length:Nat):Int):=by omega
    have yg:((s.extract 1 s.size).extract (qQ (qW s.toList)).length (s.extract 1 s.size).size).toList[0]?=some d:=by rw [x2,hq];rfl
    rw [hq] at g3 g4 h2
    simp only [yg,k36 d,qC,qE,qJ,qK,qM,qN,zC,qF,qG,qH]
    by_cases hd:d=36
    ·have hoff:qW (d::w)=w:=by unfold qW;rw [if_pos (by rw [hd];rfl)];rfl
     rw [hoff] at h2⊢
     have e36:(some d==some (36:UInt8))=true:=by rw [hd];rfl
     simp only [List.tail_cons] at g4
     simp only [e36,g4,h2,List.head?_cons,qC,qE,qJ,qK,qM,qN,zC,qF,qG,qH]
     generalize l1I w 2=q at*
     obtain ⟨x,ok⟩:=q
     cases ok<;>cases hk:qA1 (qEv ⟨(qQ (qW s.toList)).toArray⟩) x<;>simp [hz,hsz,hs1,y0,y1,zn,sn,yn,yn2,yn3,yn4]
    ·have hoff:qW (d::w)=d::w:=by unfold qW;rw [if_neg (by simpa using hd)]
     rw [hoff] at h2⊢
     have e36:(some d==some (36:UInt8))=false:=by simpa using hd
     simp only [e36,g3,h2,List.head?_cons,qC,qE,qJ,qK,qM,qN,zC,qF,qG,qH]
     generalize l1I (d::w) 2=q at*
     obtain ⟨x,ok⟩:=q
     cases ok<;>cases hk:qA1 (qEv ⟨(qQ (qW s.toList)).toArray⟩) x<;>simp [hz,hsz,hs1,y0,y1,zn,sn,yn,yn2,yn3,yn4]
  ·by_cases hs0:(b.size:Int)>0
   ·obtain ⟨c,r,hcr⟩:∃c r,b.toList=c::r:=by
     cases hq:b.toList with
     |nil=>rw [qBw,hq] at hs0;simp at hs0
     |cons a l=>exact ⟨a,l,rfl⟩
    have hg:b.toList[0]?=some c:=by rw [hcr];rfl
    have hc:=hno c r hcr
    have hsz:(b.size:Int)>0:=hs0
    have hs1:(1:Int)≤b.size:=by omega
    have zn:(qQ (qW b.toList)).length≤b.size:=by omega
    have sn:0<b.size:=by omega
    simp only [qCC,qC,qE,qJ,qK,qM,qN,zC,qF,qG,qH,Int.toNat_natCast,e0,e1,hg,k36 c,hc,g1,g2]
    cases hq:qh (qW b.toList) with
    |nil=>
     have y0:(b.extract (qQ (qW b.toList)).length b.size).size=0:=by rw [qBw,x2,hq];rfl
     have hoff:qW (qh (qW b.toList))= []:=by rw [hq];rfl
     rw [hoff] at h2
     rw [hq] at g3
     simp only [y0,g3,h2,qC,qE,qJ,qK,qM,qN,zC,qF,qG,qH]
     have hoff':qW ([]:List UInt8)= []:=rfl
     rw [hoff']
     generalize l1I ([]:List UInt8) 2=q at*
     obtain ⟨x,ok⟩:=q
     cases ok<;>cases hk:qA1 (qEv ⟨(qQ (qW b.toList)).toArray⟩) x<;>simp [hz,hsz,hs1,zn,sn]
    |cons d w=>
     have y0:((b.extract (qQ (qW b.toList)).length b.size).size:Int)>0:=by rw [qBw,x2,hq];simp<;>omega
     have y1:(1:Int)≤(b.extract (qQ (qW b.toList)).length b.size).size:=by omega
     have ys:(b.extract (qQ (qW b.toList)).length b.size).size=b.size-(qQ (qW b.toList)).length:=by rw [qBw,qEw,List.length_drop,←qBw]
     have yn:(qQ (qW b.toList)).length<b.size:=by omega
     have yn2:1≤b.size-(qQ (qW b.toList)).length:=by omega
     have yn3:0<b.size-(qQ (qW b.toList)).length:=by omega
     have yn4:(1:Int)≤((b.size-(qQ (qW b.toList)).length:Nat):Int):=by omega
     have yg:(b.extract (qQ (qW b.toList)).length b.size).toList[0]?=some d:=by rw [x2,hq];rfl
     rw [hq] at g3 g4 h2
     simp only [yg,k36 d,qC,qE,qJ,qK,qM,qN,zC,qF,qG,qH]
     by_cases hd:d=36
     ·have hoff:qW (d::w)=w:=by unfold qW;rw [if_pos (by rw [hd];rfl)];rfl
      rw [hoff] at h2⊢
      have e36:(some d==some (36:UInt8))=true:=by rw [hd];rfl
      simp only [List.tail_cons] at g4
      simp only [e36,g4,h2,List.head?_cons,qC,qE,qJ,qK,qM,qN,zC,qF,qG,qH]
      generalize l1I w 2=q at*
      obtain ⟨x,ok⟩:=q
      cases ok<;>cases hk:qA1 (qEv ⟨(qQ (qW b.toList)).toArray⟩) x<;>simp [hz,hsz,hs1,y0,y1,zn,sn,yn,yn2,yn3,yn4]
     ·have hoff:qW (d::w)=d::w:=by unfold qW;rw [if_neg (by simpa using hd)]
      rw [hoff] at h2⊢
      have e36:(some d==some (36:UInt8))=false:=by simpa using hd
      simp only [e36,g3,h2,List.head?_cons,qC,qE,qJ,qK,qM,qN,zC,qF,qG,qH]
      generalize l1I (d::w) 2=q at*
      obtain ⟨x,ok⟩:=q
      cases ok<;>cases hk:qA1 (qEv ⟨(qQ (qW b.toList)).toArray⟩) x<;>simp [hz,hsz,hs1,y0,y1,zn,sn,yn,yn2,yn3,yn4]
   ·have hsz:¬(b.size:Int)>0:=hs0
    have hs1:True:=trivial
    have zn:(qQ (qW b.toList)).length≤b.size:=by omega
    have sn:b.size=0:=by omega
    have lb:b.toList= []:=zAi (by rw [←qBw];omega)
    have hb0:qh (qW b.toList)= []:=by rw [lb];rfl
    have ln:qQ (qW b.toList)= []:=by rw [lb];rfl
    simp only [qCC,qC,qE,qJ,qK,qM,qN,zC,qF,qG,qH,Int.toNat_natCast,e0,e1,g1,g2]
    cases hq:qh (qW b.toList) with
    |nil=>
     have y0:(b.extract (qQ (qW b.toList)).length b.size).size=0:=by rw [qBw,x2,hq];rfl
     have hoff:qW (qh (qW b.toList))= []:=by rw [hq];rfl
     rw [hoff] at h2
     rw [hq] at g3
     simp only [y0,g3,h2,qC,qE,qJ,qK,qM,qN,zC,qF,qG,qH]
     have hoff':qW ([]:List UInt8)= []:=rfl
     rw [hoff']
     generalize l1I ([]:List UInt8) 2=q at*
     obtain ⟨x,ok⟩:=q
     cases ok<;>cases hk:qA1 (qEv ⟨(qQ (qW b.toList)).toArray⟩) x<;>simp [hz,hsz,hs1,zn,sn,ln]
    |cons d w=>rw [hb0] at hq;cases hq
 by_cases h36:s.toList.head?=some 36
 ·have ho:qW s.toList=s.toList.tail:=by unfold qW;rw [if_pos h36]
  have ht:(s.extract 1 s.size).toList=s.toList.tail:=by rw [qEw,List.drop_one]
  obtain ⟨c,r,hcr⟩:∃c r,s.toList=c::r:=by
   cases hq:s.toList with
   |nil=>rw [hq] at h36;cases h36
   |cons a l=>exact ⟨a,l,rfl⟩
  refine part (s.extract 1 s.size) true (by rw [qBw,ht,List.length_tail,←qBw];omega) (by rw [ht,ho]) (by rw [h36];rfl) (.inl ⟨rfl,rfl,c,r,hcr,?_⟩)
  rw [hcr] at h36
  simpa using h36
 ·have ho:qW s.toList=s.toList:=by unfold qW;rw [if_neg h36]
  refine part s false hb ho.symm (by symm;simpa using h36) (.inr ⟨rfl,rfl,fun c r hcr=>?_⟩)
  rw [hcr] at h36
  simpa using h36
def upS:BA:=⟨#[65,66,67,68,69,70,71,72,73,74,75,76,77,78,79,80,81,82,83,84,85,86,87,88,89,90]⟩
theorem qUE:∀i:Fin 256,(upS.data.toList.contains (UInt8.ofNat i.val))=(decide (65≤i.val)&&decide (i.val≤90)):=by decide+kernel
theorem qUj (c:UInt8):(upS.data.toList.contains c)=qFK c:=by
 have h:=qUE ⟨c.toNat,UInt8.toNat_lt c⟩
 have e:UInt8.ofNat c.toNat=c:=by simp
 simp only [e] at h
 exact h
theorem qS4:(upS.data.toList.all fun b=>decide (b.toNat<128))=true:=by decide+kernel
theorem qQ8 (s:BA):Ev (qBI · s ⟨#[65,66,67,68,69,70,71,72,73,74,75,76,77,78,79,80,81,82,83,84,85,86,87,88,89,90]⟩) ⟨(qh s.toList).toArray⟩:=by
 refine ⟨1,fun n hn=>?_⟩
 obtain ⟨m,rfl,hm⟩:=up1 hn
 show zZ s upS=_
 unfold zZ
 rw [if_pos ⟨by decide,qS4⟩]
 unfold Lib.trimLeftS qh
 rw [Go.Lib.toList_data]
 have:(fun c=>upS.data.toList.contains c)=qFK:=funext qUj
 rw [this]
theorem qQ9 (s:BA):Ev (qAF · s ⟨#[36]⟩) (⟨(qW s.toList).toArray⟩,s.toList.head?==some 36):=by
 have h:=qF1 s 36
 have es:(⟨s.toList.toArray⟩:BA)=s:=qDT (qBA s.toList)
 by_cases e:s.toList.head?=some 36
 ·rw [if_pos e] at h
  have:(s.toList.head?==some 36)=true:=by simpa using e
  unfold qW
  rw [if_pos e,this]
  exact h
 ·rw [if_neg e] at h
  have:(s.toList.head?==some 36)=false:=by simpa using e
  unfold qW
  rw [if_neg e,this,es]
  exact h
theorem qQl {r:Int} (h:1≤r∧r≤99):l1I (Lib.itoa r) 2=(r,true):=by
 have e:Lib.itoa r=Lib.decDigits r.toNat:=by unfold Lib.itoa;rw [if_neg (by omega)]
 obtain ⟨h1,h2,h3,_,_⟩:=qF8 r.toNat
 have hl:(Lib.decDigits r.toNat).length≤2:=by
  rw [Lib.decDigits_length]
  exact qT5 2 r.toNat (by omega) (by
   have:(10:Nat)^2=100:=by decide
   omega)
 rw [e]
 unfold l1I
 rw [if_pos ⟨by omega,qP3 _⟩,h2]
 congr 1
 omega
theorem qUk {l:List UInt8} (h:(l1I l 2).2=true):(l1I l 2).1=(qAk 0 l:Int)∧Lib.decDigits (qAk 0 l)=l:=by
 unfold l1I at h⊢
 split at h
 ·rename_i hc
  rw [if_pos hc]
  exact ⟨rfl,qM9 _ l rfl hc.2⟩
 ·cases h
theorem qS5 (s:BA):qAN s=if qA1 (qEv ⟨(qQ (qW s.toList)).toArray⟩) (qBp ⟨(qW (qh (qW s.toList))).toArray⟩)=true∧
  (qAY (qEv ⟨(qQ (qW s.toList)).toArray⟩) (qBp ⟨(qW (qh (qW s.toList))).toArray⟩) (s.toList.head?==some 36) ((qh (qW s.toList)).head?==some 36)).toList=s.toList then
   (qEv ⟨(qQ (qW s.toList)).toArray⟩,qBp ⟨(qW (qh (qW s.toList))).toArray⟩,s.toList.head?==some 36,(qh (qW s.toList)).head?==some 36,true) else (0,0,false,false,false):=by
 have hoff:∀l:List UInt8,l=(if (l.head?==some 36)=true then [36] else [])++qW l:=fun l=>by
  unfold qW
  cases l with
  |nil=>rfl
  |cons c r=>
   by_cases e:c=36
   ·subst e;simp
   ·simp [e]
 have hsplit:qW s.toList=qQ (qW s.toList)++qh (qW s.toList):=(List.takeWhile_append_dropWhile (p:=qFK) (l:=qW s.toList)).symm
 have hs:s.toList=(if (s.toList.head?==some 36)=true then [36] else [])++qQ (qW s.toList)++(if ((qh (qW s.toList)).head?==some 36)=true then [36] else [])++qW (qh (qW s.toList)):=by
  conv=>lhs;rw [hoff s.toList,hsplit,hoff (qh (qW s.toList))]
  simp only [List.append_assoc]
 unfold qAN
 generalize hL:qQ (qW s.toList)=L at*
 generalize hR:qW (qh (qW s.toList))=R at*
 generalize (s.toList.head?==some 36)=fc at*
 generalize ((qh (qW s.toList)).head?==some 36)=fr at*
 have col:∀r,qA1 (qEv ⟨L.toArray⟩) r=true→(qBt (qEv ⟨L.toArray⟩)).data.toList=L:=fun r h=>by
  have:=qS3 (⟨L.toArray⟩:BA) 52 1 (qFc h).1.1
  rw [qBA L,Go.Lib.toList_data] at this
  exact this
 have pl:∀r,qA1 (qEv ⟨L.toArray⟩) r=true→(qAY (qEv ⟨L.toArray⟩) r fc fr).toList=(if fc=true then [36] else [])++L++(if fr=true then [36] else [])++Lib.itoa r:=fun r h=>by
  rw [Go.Lib.toList_data]
  unfold qAY
  rw [if_pos h,col r h]
  simp [qC9]
 have tR:(⟨R.toArray⟩:BA).toList=R:=qBA R
 by_cases hA:(l1I R 2).2=true∧qA1 (qEv ⟨L.toArray⟩) (l1I R 2).1=true
 ·obtain ⟨a1,a2⟩:=qUk hA.1
  have hr:=(qFc hA.2).2
  have hi:R=Lib.itoa (l1I R 2).1:=by
   rw [a1]
   unfold Lib.itoa
   rw [if_neg (by omega),Int.toNat_natCast,a2]
  have hp:qBp ⟨R.toArray⟩=(l1I R 2).1:=qNV (by rw [tR];exact hi) (by omega)
  rw [if_pos hA,hp,if_pos ⟨hA.2,by rw [pl _ hA.2,←hi];exact hs.symm⟩]
 ·rw [if_neg hA,if_neg]
  rintro ⟨h1,h2⟩
  rw [pl _ h1] at h2
  have h3:R=Lib.itoa (qBp ⟨R.toArray⟩):=by
   rw [hs] at h2
   exact (List.append_cancel_left h2).symm
  have h4:=qQl (qFc h1).2
  rw [←h3] at h4
  exact hA (by rw [h4];exact ⟨rfl,h1⟩)
theorem qHD (s:BA) (hb:s.size≤1048576):Ev (qAS · s) (qAN s):=by
 rw [qS5]
 have hlen:=qNY (qW s.toList)
 have lo:(qW s.toList).length≤s.size:=by
  unfold qW
  rw [qBw]
  split
  ·rw [List.length_tail];omega
  ·exact Nat.le_refl _
 have l2:(qh (qW s.toList)).length+(qQ (qW s.toList)).length=(qW s.toList).length:=by
  have h:=congrArg List.length (List.takeWhile_append_dropWhile (p:=qFK) (l:=qW s.toList))
  rw [List.length_append] at h
  unfold qh qQ
  omega
 have z1:(⟨(qW s.toList).toArray⟩:BA).size=(qW s.toList).length:=by rw [qBw,qBA (qW s.toList)]
 have z2:(⟨(qh (qW s.toList)).toArray⟩:BA).size=(qh (qW s.toList)).length:=by rw [qBw,qBA (qh (qW s.toList))]
 have w1:IntKind.i64.wrap (((qW s.toList).length:Int)-(qh (qW s.toList)).length)=((qQ (qW s.toList)).length:Int):=by rw [qU (by omega)];omega
 have x1:(⟨(qW s.toList).toArray⟩:BA).extract 0 (qQ (qW s.toList)).length=⟨(qQ (qW s.toList)).toArray⟩:=qDT (by rw [qO3,qBA (qW s.toList),qL6,qBA (qQ (qW s.toList))])
 have x2:(⟨(qW s.toList).toArray⟩:BA).extract (qQ (qW s.toList)).length (qW s.toList).length=⟨(qh (qW s.toList)).toArray⟩:=qDT (by rw [←z1,qEw,qBA (qW s.toList),qIZ,qBA (qh (qW s.toList))])
 have lr:(⟨(qW (qh (qW s.toList))).toArray⟩:BA).size≤281474976710656:=by
  rw [qBw,qBA (qW (qh (qW s.toList)))]
  have:(qW (qh (qW s.toList))).length≤(qh (qW s.toList)).length:=by
   generalize qh (qW s.toList)=q
   unfold qW
   split
   ·rw [List.length_tail];omega
   ·exact Nat.le_refl _
  omega
 obtain ⟨n1,h1⟩:=qQ9 s
 obtain ⟨n2,h2⟩:=qQ8 ⟨(qW s.toList).toArray⟩
 rw [qBA (qW s.toList)] at h2
 obtain ⟨n3,h3⟩:=qOD ⟨(qQ (qW s.toList)).toArray⟩
 obtain ⟨n4,h4⟩:=qQ9 ⟨(qh (qW s.toList)).toArray⟩
 rw [qBA (qh (qW s.toList))] at h4
 generalize qW s.toList=A at*
 generalize qh A=Bq at*
 generalize qQ A=L at*
 generalize qW Bq=R at*
 generalize (s.toList.head?==some 36)=fc at*
 generalize (Bq.head?==some 36)=fr at*
 obtain ⟨n5,h5⟩:=qCn (qEv ⟨L.toArray⟩) (qBp ⟨R.toArray⟩)
 obtain ⟨n6,h6⟩:=qCf (qEv ⟨L.toArray⟩) (qBp ⟨R.toArray⟩) fc fr
 have e0:(0:Int).toNat=0:=rfl
 have c1:L.length≤A.length:=by omega
 rcases qNW ⟨R.toArray⟩ lr with ⟨n7,h7⟩|⟨n7,h7⟩
 all_goals
  refine ⟨n1+n2+n3+n4+n5+n6+n7+1,fun n hn=>?_⟩
  obtain ⟨m,rfl,hm⟩:=up1 hn
  have h1:=h1 m (by omega)
  have h2:=h2 m (by omega)
  have h3:=h3 m (by omega)
  have h4:=h4 m (by omega)
  have h5:=h5 m (by omega)
  have h6:=h6 m (by omega)
  have h7:=h7 m (by omega)
  dsimp only at h1 h2 h3 h4 h5 h6 h7
  simp only [qAS,qFB,qC,qE,qJ,qK,qM,qN,zC,qF,qG,qH,h1,h2,z1,z2,w1,Int.toNat_natCast,e0,x1,x2,h3,h4,h5,h6,h7]
  cases hk:qA1 (qEv ⟨L.toArray⟩) (qBp ⟨R.toArray⟩) with
  |false=>simp [c1]
  |true=>by_cases e:(qAY (qEv ⟨L.toArray⟩) (qBp ⟨R.toArray⟩) fc fr).toList=s.toList<;>simp [c1,e]
theorem qS6:∀i:Fin 52,qEv (qBt ((i.val:Int)+1))=(i.val:Int)+1:=by decide+kernel
theorem qSi {c:Int} (h:1≤c∧c≤52):qEv (qBt c)=c:=by
 have:=qS6 ⟨(c-1).toNat,by omega⟩
 have e:(((c-1).toNat:Nat):Int)+1=c:=by omega
 simpa only [e] using this
theorem qS7:∀i:Fin 52,(qBt ((i.val:Int)+1)).data.toList.all qFK=true∧(qBt ((i.val:Int)+1)).data.toList.head?≠some 36∧(qBt ((i.val:Int)+1)).data.toList≠ []:=by decide+kernel
theorem qSI {c:Int} (h:1≤c∧c≤52):(qBt c).data.toList.all qFK=true∧(qBt c).data.toList.head?≠some 36∧(qBt c).data.toList≠ []:=by
 have:=qS7 ⟨(c-1).toNat,by omega⟩
 have e:(((c-1).toNat:Nat):Int)+1=c:=by omega
 simpa only [e] using this
theorem qRA {l r:List UInt8} (h:l.all qFK=true) (h2:∀c,r.head?=some c→qFK c=false):qQ (l++r)=l∧qh (l++r)=r:=by
 unfold qQ qh
 rw [List.all_eq_true] at h
 rw [List.takeWhile_append_of_pos h,List.dropWhile_append_of_pos h]
 cases r with
 |nil=>simp
 |cons c r=>simp [h2 c rfl]
theorem qRB (l:List UInt8):qW (36::l)=l:=rfl
theorem qS8 {l:List UInt8} (h:l.head?≠some 36):qW l=l:=by unfold qW;rw [if_neg h]
theorem qO4 {c r:Int} {fc fr:Bool} (h:qA1 c r=true):qAN (qAY c r fc fr)=(c,r,fc,fr,true):=by
 obtain ⟨hc,hr⟩:=qFc h
 obtain ⟨u1,u2,u3⟩:=qSI hc
 have ht:(qAY c r fc fr).toList=(if fc=true then [36] else [])++((qBt c).data.toList++((if fr=true then [36] else [])++Lib.itoa r)):=by
  rw [Go.Lib.toList_data]
  simp [qAY,h,qC9]
 have hi:∃d w,Lib.itoa r=d::w∧qAr d=true:=by
  unfold Lib.itoa
  rw [if_neg (by omega)]
  exact qOx _
 obtain ⟨d,w,hdw,hd⟩:=hi
 have hd1:qFK d=false:=by
  simp only [qAr,Bool.and_eq_true,decide_eq_true_eq] at hd
  simp [qFK];omega
 have hd2:d≠36:=fun e=>by rw [e] at hd;cases hd
 have e1:qW (qAY c r fc fr).toList=(qBt c).data.toList++((if fr=true then [36] else [])++Lib.itoa r):=by
  rw [ht]
  cases fc with
  |true=>exact qRB _
  |false=>
   refine qS8 ?_
   cases hq:(qBt c).data.toList with
   |nil=>exact absurd hq u3
   |cons a b=>rw [hq] at u2;simpa using u2
 have e2:=qRA (l:=(qBt c).data.toList) (r:=(if fr=true then [36] else [])++Lib.itoa r) u1 (fun q hq=>by
  cases fr with
  |true=>simp at hq;rw [←hq];decide
  |false=>simp [hdw] at hq;rw [←hq];exact hd1)
 have e3:qW ((if fr=true then [36] else [])++Lib.itoa r)=Lib.itoa r:=by
  cases fr with
  |true=>exact qRB _
  |false=>exact qS8 (by simp [hdw,hd2])
 unfold qAN
 rw [e1,e2.1,e2.2,e3,qQl hr]
 have hm:(⟨((qBt c).data.toList).toArray⟩:BA)=qBt c:=by simp
 rw [hm,qSi hc,if_pos ⟨rfl,h⟩]
 have q1:((qAY c r fc fr).toList.head?==some 36)=fc:=by
  rw [ht]
  cases fc with
  |true=>rfl
  |false=>
   cases hq:(qBt c).data.toList with
   |nil=>exact absurd hq u3
   |cons a b=>rw [hq] at u2;simpa using u2
 have q2:(((if fr=true then [36] else [])++Lib.itoa r).head?==some (36:UInt8))=fr:=by
  cases fr with
  |true=>rfl
  |false=>simp [hdw,hd2]
 rw [q1,q2]
theorem qDi (c r:Int) (fc fr:Bool):(qAY c r fc fr).size≤30:=by
 unfold qAY
 split
 ·rename_i h
  have h1:=qM8 c
  have h2:=qLR (qFc h).2
  rw [qCt]
  cases fc<;>cases fr<;>simp<;>omega
 ·decide
abbrev Nd:=Int×Int×Int×Int×BA×Int×Int×Bool×Bool×Int×Int×Bool×Bool×List Int
def qBB (x:Int):List PV:= [.i .i64 x]
def qb (c:Nd):List PV:= [.i .i64 c.1,.i .i64 c.2.1,.i .i64 c.2.2.1,.i .i64 c.2.2.2.1,.s c.2.2.2.2.1,.i .i64 c.2.2.2.2.2.1,.i .i64 c.2.2.2.2.2.2.1,.b c.2.2.2.2.2.2.2.1,.b c.2.2.2.2.2.2.2.2.1,.i .i64 c.2.2.2.2.2.2.2.2.2.1,.i .i64 c.2.2.2.2.2.2.2.2.2.2.1,.b c.2.2.2.2.2.2.2.2.2.2.2.1,.b c.2.2.2.2.2.2.2.2.2.2.2.2.1,.ls ((c.2.2.2.2.2.2.2.2.2.2.2.2.2).map qBB)]
def kd (c:Nd):List Int:=c.2.2.2.2.2.2.2.2.2.2.2.2.2
def qH9 (op n:Int):Bool:=if op=5 then decide (n=2∨n=3) else if 8≤op∧op≤10 then decide (n=1) else if 1≤op∧op≤7 then decide (1≤n∧n≤10) else false
theorem ten {op:Int} (h:1≤op∧op≤10):op=1∨op=2∨op=3∨op=4∨op=5∨op=6∨op=7∨op=8∨op=9∨op=10:=by omega
theorem qO5 (op n:Int):Ev (qFQ · op n) (qH9 op n):=by
 refine ⟨1,fun n hn=>?_⟩
 obtain ⟨m,rfl,hm⟩:=up1 hn
 simp only [qFQ,qHK,qC,qE,qJ,qK,qM,qN,zC,qF,qG,qH]
 by_cases h:1≤op∧op≤10
 ·rcases ten h with rfl|rfl|rfl|rfl|rfl|rfl|rfl|rfl|rfl|rfl
  all_goals
   first
   |(by_cases h2:n=2<;>simp [qH9,h2];done)
   |(by_cases h1:n≥1<;>simp [qH9,h1];done)
   |(by_cases h1:n=1<;>simp [qH9,h1];done)
   |(by_cases h2:n=2<;>by_cases h3:n=3<;>simp [qH9,h2,h3];done)
   |(simp [qH9];done)
 ·have e1:¬op=1:=by omega
  have e2:¬op=2:=by omega
  have e3:¬op=3:=by omega
  have e4:¬op=4:=by omega
  have e5:¬op=5:=by omega
  have e6:¬op=6:=by omega
  have e7:¬op=7:=by omega
  have e8:¬op=8:=by omega
  have e9:¬op=9:=by omega
  have e10:¬op=10:=by omega
  have g1:¬(8≤op∧op≤10):=by omega
  have g2:¬(1≤op∧op≤7):=by omega
  simp [qH9,e1,e2,e3,e4,e5,e6,e7,e8,e9,e10,g1,g2]
def zV (k x:Int) (s:BA):Bool:=decide (k=0)&&(decide (x=0)&&(s.toList== []))
def zP (a b:Int) (f g:Bool):Bool:=decide (a=0)&&(decide (b=0)&&(!f&&!g))
def qE0 (c:Nd):Bool:=
 if c.1=1 then decide (c.2.1=0)&&(zP c.2.2.2.2.2.1 c.2.2.2.2.2.2.1 c.2.2.2.2.2.2.2.1 c.2.2.2.2.2.2.2.2.1&&(zP c.2.2.2.2.2.2.2.2.2.1 c.2.2.2.2.2.2.2.2.2.2.1 c.2.2.2.2.2.2.2.2.2.2.2.1 c.2.2.2.2.2.2.2.2.2.2.2.2.1&&(decide ((kd c).length=0)&&(okV c.2.2.1 c.2.2.2.1 c.2.2.2.2.1&&(!decide (c.2.2.1=0)&&(!decide (c.2.2.1=1)||decide (c.2.2.2.1≥0))))))) else
 if c.1=2 then decide (c.2.1=0)&&(zV c.2.2.1 c.2.2.2.1 c.2.2.2.2.1&&(zP c.2.2.2.2.2.2.2.2.2.1 c.2.2.2.2.2.2.2.2.2.2.1 c.2.2.2.2.2.2.2.2.2.2.2.1 c.2.2.2.2.2.2.2.2.2.2.2.2.1&&(decide ((kd c).length=0)&&qA1 c.2.2.2.2.2.1 c.2.2.2.2.2.2.1))) else
 if c.1=3 then decide (c.2.1=0)&&(zV c.2.2.1 c.2.2.2.1 c.2.2.2.2.1&&(decide ((kd c).length=0)&&qFq c.2.2.2.2.2.1 c.2.2.2.2.2.2.1 c.2.2.2.2.2.2.2.2.2.1 c.2.2.2.2.2.2.2.2.2.2.1)) else
 if c.1=4 then decide (c.2.1=0)&&(zV c.2.2.1 c.2.2.2.1 c.2.2.2.2.1&&(zP c.2.2.2.2.2.1 c.2.2.2.2.2.2.1 c.2.2.2.2.2.2.2.1 c.2.2.2.2.2.2.2.2.1&&(zP c.2.2.2.2.2.2.2.2.2.1 c.2.2.2.2.2.2.2.2.2.2.1 c.2.2.2.2.2.2.2.2.2.2.2.1 c.2.2.2.2.2.2.2.2.2.2.2.2.1&&decide ((kd c).length=1)))) else
 if c.1=5 then decide (1≤c.2.1∧c.2.1≤11)&&(zV c.2.2.1 c.2.2.2.1 c.2.2.2.2.1&&(zP c.2.2.2.2.2.1 c.2.2.2.2.2.2.1 c.2.2.2.2.2.2.2.1 c.2.2.2.2.2.2.2.2.1&&(zP c.2.2.2.2.2.2.2.2.2.1 c.2.2.2.2.2.2.2.2.2.2.1 c.2.2.2.2.2.2.2.2.2.2.2.1 c.2.2.2.2.2.2.2.2.2.2.2.2.1&&decide ((kd c).length=2)))) else
 if c.1=6 then qH9 c.2.1 ((kd c).length:Int)&&(zV c.2.2.1 c.2.2.2.1 c.2.2.2.2.1&&(zP c.2.2.2.2.2.1 c.2.2.2.2.2.2.1 c.2.2.2.2.2.2.2.1 c.2.2.2.2.2.2.2.2.1&&zP c.2.2.2.2.2.2.2.2.2.1 c.2.2.2.2.2.2.2.2.2.2.1 c.2.2.2.2.2.2.2.2.2.2.2.1 c.2.2.2.2.2.2.2.2.2.2.2.2.1)) else false
theorem qUl (k x:Int) (s:BA):((k==(0:Int))&&((x==(0:Int))&&((s.toList==(⟨#[]⟩:BA).toList)&&true)))=zV k x s:=by
 rw [qp]
 unfold zV
 by_cases h:k=0<;>by_cases h2:x=0<;>simp [h,h2]
theorem qUm (k x:Int) (s:BA):(((0:Int)==k)&&(((0:Int)==x)&&(((⟨#[]⟩:BA).toList==s.toList)&&true)))=zV k x s:=by
 rw [←qUl]
 congr 1
 ·exact Bool.beq_comm
 ·congr 1
  ·exact Bool.beq_comm
  ·congr 1
   exact Bool.beq_comm
theorem qUn (a b:Int) (f g:Bool):((a==(0:Int))&&((b==(0:Int))&&((f==false)&&((g==false)&&true))))=zP a b f g:=by
 unfold zP
 by_cases h:a=0<;>by_cases h2:b=0<;>cases f<;>cases g<;>simp [h,h2]
theorem qUo (a b:Int) (f g:Bool):(((0:Int)==a)&&(((0:Int)==b)&&((false==f)&&((false==g)&&true))))=zP a b f g:=by
 rw [←qUn]
 congr 1
 ·exact Bool.beq_comm
 ·congr 1
  ·exact Bool.beq_comm
  ·cases f<;>cases g<;>rfl
theorem qIA (c:Nd) (hb:c.2.2.2.2.1.size≤140737488351232):Ev (qBy · c.1 c.2.1 c.2.2.1 c.2.2.2.1 c.2.2.2.2.1 c.2.2.2.2.2.1 c.2.2.2.2.2.2.1 c.2.2.2.2.2.2.2.1 c.2.2.2.2.2.2.2.2.1 c.2.2.2.2.2.2.2.2.2.1 c.2.2.2.2.2.2.2.2.2.2.1 c.2.2.2.2.2.2.2.2.2.2.2.1 c.2.2.2.2.2.2.2.2.2.2.2.2.1 ((c.2.2.2.2.2.2.2.2.2.2.2.2.2).map qBB)) (qE0 c):=by
 obtain ⟨n1,h1⟩:=qAD c.2.2.1 c.2.2.2.1 c.2.2.2.2.1 hb
 obtain ⟨n2,h2⟩:=qCm c.2.2.2.2.2.1 c.2.2.2.2.2.2.1
 obtain ⟨n3,h3⟩:=qOw c.2.2.2.2.2.1 c.2.2.2.2.2.2.1 c.2.2.2.2.2.2.2.2.2.1 c.2.2.2.2.2.2.2.2.2.2.1
 obtain ⟨n4,h4⟩:=qB7 c.2.1 1 11
 obtain ⟨n5,h5⟩:=qO5 c.2.1 (((c.2.2.2.2.2.2.2.2.2.2.2.2.2).map qBB).length:Int)
 refine ⟨n1+n2+n3+n4+n5+1,fun n hn=>?_⟩
 obtain ⟨m,rfl,hm⟩:=up1 hn
 have h1:=h1 m (by omega)
 dsimp only at h1
 have h2:=h2 m (by omega)
 dsimp only at h2
 have h3:=h3 m (by omega)
 dsimp only at h3
 have h4:=h4 m (by omega)
 dsimp only at h4
 have h5:=h5 m (by omega)
 dsimp only at h5
 simp only [qBy,qFj,qC,qE,qJ,qK,qM,qN,zC,qF,qG,qH,h1,h2,h3,h4,h5]
 have hk:((c.2.2.2.2.2.2.2.2.2.2.2.2.2).map qBB).length=(kd c).length:=by rw [List.length_map];rfl
 simp only [qUl,qUn,hk]
 unfold qE0
 by_cases k1:c.1=1
 ·simp only [k1,if_true,beq_self_eq_true]
  cases zP c.2.2.2.2.2.1 c.2.2.2.2.2.2.1 c.2.2.2.2.2.2.2.1 c.2.2.2.2.2.2.2.2.1<;>cases zP c.2.2.2.2.2.2.2.2.2.1 c.2.2.2.2.2.2.2.2.2.2.1 c.2.2.2.2.2.2.2.2.2.2.2.1 c.2.2.2.2.2.2.2.2.2.2.2.2.1<;>cases okV c.2.2.1 c.2.2.2.1 c.2.2.2.2.1<;>by_cases h0:c.2.1=0<;>by_cases h1:(kd c).length=0<;>by_cases h2:c.2.2.1=0<;>by_cases h3:c.2.2.1=1<;>simp [h0,h1,h2,h3]
 by_cases k2:c.1=2
 ·simp only [k2]
  cases zV c.2.2.1 c.2.2.2.1 c.2.2.2.2.1<;>cases zP c.2.2.2.2.2.2.2.2.2.1 c.2.2.2.2.2.2.2.2.2.2.1 c.2.2.2.2.2.2.2.2.2.2.2.1 c.2.2.2.2.2.2.2.2.2.2.2.2.1<;>cases qA1 c.2.2.2.2.2.1 c.2.2.2.2.2.2.1<;>by_cases h0:c.2.1=0<;>by_cases h1:(kd c).length=0<;>simp [h0,h1]
 by_cases k3:c.1=3
 ·simp only [k3]
  cases zV c.2.2.1 c.2.2.2.1 c.2.2.2.2.1<;>cases qFq c.2.2.2.2.2.1 c.2.2.2.2.2.2.1 c.2.2.2.2.2.2.2.2.2.1 c.2.2.2.2.2.2.2.2.2.2.1<;>by_cases h0:c.2.1=0<;>by_cases h1:(kd c).length=0<;>simp [h0,h1]
 by_cases k4:c.1=4
 ·simp only [k4]
  cases zV c.2.2.1 c.2.2.2.1 c.2.2.2.2.1<;>cases zP c.2.2.2.2.2.1 c.2.2.2.2.2.2.1 c.2.2.2.2.2.2.2.1 c.2.2.2.2.2.2.2.2.1<;>cases zP c.2.2.2.2.2.2.2.2.2.1 c.2.2.2.2.2.2.2.2.2.2.1 c.2.2.2.2.2.2.2.2.2.2.2.1 c.2.2.2.2.2.2.2.2.2.2.2.2.1<;>by_cases h0:c.2.1=0<;>by_cases h1:(kd c).length=1<;>simp [h0,h1]<;>omega
 by_cases k5:c.1=5
 ·simp only [k5]
  cases zV c.2.2.1 c.2.2.2.1 c.2.2.2.2.1<;>cases zP c.2.2.2.2.2.1 c.2.2.2.2.2.2.1 c.2.2.2.2.2.2.2.1 c.2.2.2.2.2.2.2.2.1<;>cases zP c.2.2.2.2.2.2.2.2.2.1 c.2.2.2.2.2.2.2.2.2.2.1 c.2.2.2.2.2.2.2.2.2.2.2.1 c.2.2.2.2.2.2.2.2.2.2.2.2.1<;>by_cases h0:1≤c.2.1∧c.2.1≤11<;>by_cases h1:(kd c).length=2<;>simp [h0,h1]<;>omega
 by_cases k6:c.1=6
 ·simp only [k6]
  cases zV c.2.2.1 c.2.2.2.1 c.2.2.2.2.1<;>cases zP c.2.2.2.2.2.1 c.2.2.2.2.2.2.1 c.2.2.2.2.2.2.2.1 c.2.2.2.2.2.2.2.2.1<;>cases zP c.2.2.2.2.2.2.2.2.2.1 c.2.2.2.2.2.2.2.2.2.2.1 c.2.2.2.2.2.2.2.2.2.2.2.1 c.2.2.2.2.2.2.2.2.2.2.2.2.1<;>cases qH9 c.2.1 ((kd c).length:Int)<;>simp
 simp [k1,k2,k3,k4,k5,k6]
theorem qO6 (c:Nd):Ev (qAM · c.1 c.2.1 c.2.2.1 c.2.2.2.1 c.2.2.2.2.1 c.2.2.2.2.2.1 c.2.2.2.2.2.2.1 c.2.2.2.2.2.2.2.1 c.2.2.2.2.2.2.2.2.1 c.2.2.2.2.2.2.2.2.2.1 c.2.2.2.2.2.2.2.2.2.2.1 c.2.2.2.2.2.2.2.2.2.2.2.1 c.2.2.2.2.2.2.2.2.2.2.2.2.1 ((c.2.2.2.2.2.2.2.2.2.2.2.2.2).map qBB)) (if c.1=4 then decide (c.2.1=0)&&decide ((kd c).length=1) else if c.1=5 then decide (1≤c.2.1∧c.2.1≤11)&&decide ((kd c).length=2) else if c.1=6 then qH9 c.2.1 ((kd c).length:Int) else decide (c.2.1=0)&&decide ((kd c).length=0)):=by
 obtain ⟨n1,h1⟩:=qAI c.2.1 1 11
 obtain ⟨n2,h2⟩:=qAI c.2.1 1 10
 obtain ⟨n3,h3⟩:=qAI (((c.2.2.2.2.2.2.2.2.2.2.2.2.2).map qBB).length:Int) 2 3
 obtain ⟨n4,h4⟩:=qAI (((c.2.2.2.2.2.2.2.2.2.2.2.2.2).map qBB).length:Int) 1 10
 refine ⟨n1+n2+n3+n4+1,fun n hn=>?_⟩
 obtain ⟨m,rfl,hm⟩:=up1 hn
 have h1:=h1 m (by omega)
 dsimp only at h1
 have h2:=h2 m (by omega)
 dsimp only at h2
 have h3:=h3 m (by omega)
 dsimp only at h3
 have h4:=h4 m (by omega)
 dsimp only at h4
 simp only [qAM,qD2,qC,qE,qJ,qK,qM,qN,zC,qF,qG,qH,h1,h2,h3,h4]
 have hk:((c.2.2.2.2.2.2.2.2.2.2.2.2.2).map qBB).length=(kd c).length:=by rw [List.length_map];rfl
 simp only [hk]
 by_cases k4:c.1=4
 ·simp only [k4]
  by_cases h0:c.2.1=0<;>by_cases h1:(kd c).length=1<;>simp [h0,h1]<;>omega
 by_cases k5:c.1=5
 ·simp only [k5]
  by_cases h0:1≤c.2.1∧c.2.1≤11<;>by_cases h1:(kd c).length=2<;>simp [h0,h1]<;>omega
 by_cases k6:c.1=6
 ·simp only [k6]
  unfold qH9
  by_cases h:1≤c.2.1∧c.2.1≤10
  ·by_cases h5:c.2.1=5
   ·have:(2≤((kd c).length:Int)∧((kd c).length:Int)≤3)↔(((kd c).length:Int)=2∨((kd c).length:Int)=3):=by omega
    simp [h5,this]
   ·by_cases h8:c.2.1≥8
    ·have g:8≤c.2.1∧c.2.1≤10:=by omega
     by_cases h1:((kd c).length:Int)=1<;>simp [h,h5,h8,g,h1]
    ·have g:¬(8≤c.2.1∧c.2.1≤10):=by omega
     have g':1≤c.2.1∧c.2.1≤7:=by omega
     simp [h,h5,h8,g,g']
  ·have h5:¬c.2.1=5:=by omega
   have g:¬(8≤c.2.1∧c.2.1≤10):=by omega
   have g':¬(1≤c.2.1∧c.2.1≤7):=by omega
   simp [h,h5,g,g']
 by_cases h0:c.2.1=0<;>by_cases h1:(kd c).length=0<;>simp [k4,k5,k6,h0,h1]<;>omega
theorem qNB (c:Nd):Ev (qAC · c.1 c.2.1 c.2.2.1 c.2.2.2.1 c.2.2.2.2.1 c.2.2.2.2.2.1 c.2.2.2.2.2.2.1 c.2.2.2.2.2.2.2.1 c.2.2.2.2.2.2.2.2.1 c.2.2.2.2.2.2.2.2.2.1 c.2.2.2.2.2.2.2.2.2.2.1 c.2.2.2.2.2.2.2.2.2.2.2.1 c.2.2.2.2.2.2.2.2.2.2.2.2.1 ((c.2.2.2.2.2.2.2.2.2.2.2.2.2).map qBB)) (if c.1=2 then qFq c.2.2.2.2.2.1 c.2.2.2.2.2.2.1 c.2.2.2.2.2.1 c.2.2.2.2.2.2.1 else if c.1=3 then qFq c.2.2.2.2.2.1 c.2.2.2.2.2.2.1 c.2.2.2.2.2.2.2.2.2.1 c.2.2.2.2.2.2.2.2.2.2.1 else true):=by
 have g:Ev (qCd · c.1 c.2.1 c.2.2.1 c.2.2.2.1 c.2.2.2.2.1 c.2.2.2.2.2.1 c.2.2.2.2.2.2.1 c.2.2.2.2.2.2.2.1 c.2.2.2.2.2.2.2.2.1 c.2.2.2.2.2.2.2.2.2.1 c.2.2.2.2.2.2.2.2.2.2.1 c.2.2.2.2.2.2.2.2.2.2.2.1 c.2.2.2.2.2.2.2.2.2.2.2.2.1 ((c.2.2.2.2.2.2.2.2.2.2.2.2.2).map qBB)) (if c.1=2 then (c.2.2.2.2.2.1,c.2.2.2.2.2.2.1,c.2.2.2.2.2.1,c.2.2.2.2.2.2.1) else (c.2.2.2.2.2.1,c.2.2.2.2.2.2.1,c.2.2.2.2.2.2.2.2.2.1,c.2.2.2.2.2.2.2.2.2.2.1)):=by
  refine ⟨1,fun n hn=>?_⟩
  obtain ⟨m,rfl,hm⟩:=up1 hn
  simp only [qCd,qEs,qC,qE,qJ,qK,qM,qN,zC,qF,qG,qH]
  by_cases k2:c.1=2<;>simp [k2]
 obtain ⟨n1,h1⟩:=g
 obtain ⟨n2,h2⟩:=qJu c.2.2.2.2.2.1 c.2.2.2.2.2.2.1 c.2.2.2.2.2.1 c.2.2.2.2.2.2.1
 obtain ⟨n3,h3⟩:=qJu c.2.2.2.2.2.1 c.2.2.2.2.2.2.1 c.2.2.2.2.2.2.2.2.2.1 c.2.2.2.2.2.2.2.2.2.2.1
 refine ⟨n1+n2+n3+1,fun n hn=>?_⟩
 obtain ⟨m,rfl,hm⟩:=up1 hn
 have h1:=h1 m (by omega)
 dsimp only at h1
 have h2:=h2 m (by omega)
 dsimp only at h2
 have h3:=h3 m (by omega)
 dsimp only at h3
 simp only [qAC,qDS,qC,qE,qJ,qK,qM,qN,zC,qF,qG,qH,h1,h2,h3]
 by_cases k2:c.1=2
 ·simp [k2,h2]
 ·by_cases k3:c.1=3
  ·simp [k3,h3]
  ·simp [k2,k3]
theorem qS9 (a b:Int):qFq a b a b=qA1 a b:=by
 unfold qFq
 cases qA1 a b<;>simp
theorem qPv (c:Nd) (hb:c.2.2.2.2.1.size≤140737488351232):Ev (qDG · c.1 c.2.1 c.2.2.1 c.2.2.2.1 c.2.2.2.2.1 c.2.2.2.2.2.1 c.2.2.2.2.2.2.1 c.2.2.2.2.2.2.2.1 c.2.2.2.2.2.2.2.2.1 c.2.2.2.2.2.2.2.2.2.1 c.2.2.2.2.2.2.2.2.2.2.1 c.2.2.2.2.2.2.2.2.2.2.2.1 c.2.2.2.2.2.2.2.2.2.2.2.2.1 ((c.2.2.2.2.2.2.2.2.2.2.2.2.2).map qBB)) (qE0 c):=by
 obtain ⟨n1,g1⟩:=qFp c.2.2.1 c.2.2.2.1 c.2.2.2.2.1 hb
 obtain ⟨n2,g2⟩:=qNB c
 obtain ⟨n3,g3⟩:=qO6 c
 refine ⟨n1+n2+n3+1,fun n hn=>?_⟩
 obtain ⟨m,rfl,hm⟩:=up1 hn
 have g1:=g1 m (by omega)
 have g2:=g2 m (by omega)
 have g3:=g3 m (by omega)
 dsimp only at g1 g2 g3
 rw [qS9] at g2
 simp only [qDG,qEL,qC,qE,qJ,qK,qM,qN,zC,qF,qG,qH,g1,g2,g3,qUm,qUo]
 simp only [beq_self_eq_true,Bool.and_true,Bool.true_and]
 unfold qE0
 by_cases k1:c.1=1
 ·have h5:(c.2.2.2.1≥0)=¬(c.2.2.2.1<0):=propext Int.not_lt.symm
  simp only [k1,h5]
  cases zP c.2.2.2.2.2.1 c.2.2.2.2.2.2.1 c.2.2.2.2.2.2.2.1 c.2.2.2.2.2.2.2.2.1<;>cases zP c.2.2.2.2.2.2.2.2.2.1 c.2.2.2.2.2.2.2.2.2.2.1 c.2.2.2.2.2.2.2.2.2.2.2.1 c.2.2.2.2.2.2.2.2.2.2.2.2.1<;>cases okV c.2.2.1 c.2.2.2.1 c.2.2.2.2.1<;>by_cases h0:c.2.1=0<;>by_cases h1:(kd c).length=0<;>by_cases h2:c.2.2.1=0<;>by_cases h3:c.2.2.1=1<;>by_cases h4:c.2.2.2.1<0<;>simp [h0,h1,h2,h3,h4]<;>(try omega)
 by_cases k2:c.1=2
 ·simp only [k2]
  cases zV c.2.2.1 c.2.2.2.1 c.2.2.2.2.1<;>cases zP c.2.2.2.2.2.2.2.2.2.1 c.2.2.2.2.2.2.2.2.2.2.1 c.2.2.2.2.2.2.2.2.2.2.2.1 c.2.2.2.2.2.2.2.2.2.2.2.2.1<;>cases qA1 c.2.2.2.2.2.1 c.2.2.2.2.2.2.1<;>by_cases h0:c.2.1=0<;>by_cases h1:(kd c).length=0<;>simp [h0,h1]
 by_cases k3:c.1=3
 ·simp only [k3]
  cases zV c.2.2.1 c.2.2.2.1 c.2.2.2.2.1<;>cases qFq c.2.2.2.2.2.1 c.2.2.2.2.2.2.1 c.2.2.2.2.2.2.2.2.2.1 c.2.2.2.2.2.2.2.2.2.2.1<;>by_cases h0:c.2.1=0<;>by_cases h1:(kd c).length=0<;>simp [h0,h1]
 by_cases k4:c.1=4
 ·simp only [k4]
  cases zV c.2.2.1 c.2.2.2.1 c.2.2.2.2.1<;>cases zP c.2.2.2.2.2.1 c.2.2.2.2.2.2.1 c.2.2.2.2.2.2.2.1 c.2.2.2.2.2.2.2.2.1<;>cases zP c.2.2.2.2.2.2.2.2.2.1 c.2.2.2.2.2.2.2.2.2.2.1 c.2.2.2.2.2.2.2.2.2.2.2.1 c.2.2.2.2.2.2.2.2.2.2.2.2.1<;>by_cases h0:c.2.1=0<;>by_cases h1:(kd c).length=1<;>simp [h0,h1]
 by_cases k5:c.1=5
 ·simp only [k5]
  cases zV c.2.2.1 c.2.2.2.1 c.2.2.2.2.1<;>cases zP c.2.2.2.2.2.1 c.2.2.2.2.2.2.1 c.2.2.2.2.2.2.2.1 c.2.2.2.2.2.2.2.2.1<;>cases zP c.2.2.2.2.2.2.2.2.2.1 c.2.2.2.2.2.2.2.2.2.2.1 c.2.2.2.2.2.2.2.2.2.2.2.1 c.2.2.2.2.2.2.2.2.2.2.2.2.1<;>by_cases h0:1≤c.2.1∧c.2.1≤11<;>by_cases h1:(kd c).length=2<;>simp [h0,h1]
 by_cases k6:c.1=6
 ·simp only [k6]
  cases zV c.2.2.1 c.2.2.2.1 c.2.2.2.2.1<;>cases zP c.2.2.2.2.2.1 c.2.2.2.2.2.2.1 c.2.2.2.2.2.2.2.1 c.2.2.2.2.2.2.2.2.1<;>cases zP c.2.2.2.2.2.2.2.2.2.1 c.2.2.2.2.2.2.2.2.2.2.1 c.2.2.2.2.2.2.2.2.2.2.2.1 c.2.2.2.2.2.2.2.2.2.2.2.2.1<;>cases qH9 c.2.1 ((kd c).length:Int)<;>simp
 simp [k1,k2,k3,k4,k5,k6]
section
variable (own area call:Int→Bool) (kids:Int→List Int)
def goF (F:Int→Int) (n:Int):List Int→Int→Int
 | [],start=>start
 |k::r,start=>if k≠start-1∨k<0∨(area k=true∧call n=false) then-1 else if F k<0 then-1 else goF F n r (F k)
def qCg:Nat→Int→Int
 |0,_=> -1
 |f+1,n=>if n<0∨own n=false then-1 else goF area call (qCg f) n (kids n).reverse n
def goT (F:Int→Int):List Int→Int→Int
 | [],x=>x+1
 |k::r,x=>if x<0∨k≠x then-1 else if F x<0 then-1 else goT F r (F x-1)
def qCp:Nat→Int→Int
 |0,_=> -1
 |f+1,n=>goT (qCp f) (kids n).reverse (n-1)
def qJv:List Int→Int
 | []=>0
 |x::r=>max x (qJv r)
def qA3:Nat→Int→Int
 |0,_=>0
 |f+1,n=>qJv ((kids n).map fun k=>qA3 f k)+1
def qGk (i:Int):Prop:=∀k∈kids i,0≤k∧k≤i-1∧¬(area k=true∧call i=false)
theorem qO7:∀(f:Nat) (n:Int),0≤n→qCp kids f n≤n
 |0,n,h=>by rw [qCp];omega
 |f+1,n,h=>by
  have go:∀(l:List Int) (x:Int),x+1≤n→-1≤x→goT (qCp kids f) l x≤n:=by
   intro l
   induction l with
   |nil=>intro x h1 h2;rw [goT];omega
   |cons k r ih=>
    intro x h1 h2
    rw [goT]
    split
    ·omega
    ·split
     ·omega
     ·have:=qO7 f x (by omega)
      exact ih _ (by omega) (by omega)
  rw [qCp]
  exact go _ _ (by omega) (by omega)
theorem qSJ {l:List Int} {b:Int} (h0:0≤b):qJv l≤b↔∀x∈l,x≤b:=by
 induction l with
 |nil=>simp [qJv,h0]
 |cons a r ih=>simp only [qJv,List.mem_cons,forall_eq_or_imp];rw [Int.max_le,ih]
theorem qO8 {n b:Int} {f:Nat} (h0:1≤b):qA3 kids (f+1) n≤b↔∀k∈kids n,qA3 kids f k≤b-1:=by
 rw [qA3]
 constructor
 ·intro h k hk
  exact (qSJ (l:=(kids n).map fun k=>qA3 kids f k) (by omega)).1 (by omega) _ (List.mem_map_of_mem (f:=fun k=>qA3 kids f k) hk)
 ·intro h
  have:=(qSJ (l:=(kids n).map fun k=>qA3 kids f k) (b:=b-1) (by omega)).2 (by
   intro x hx
   obtain ⟨k,hk,rfl⟩:=List.mem_map.1 hx
   exact h k hk)
  omega
theorem qO9:∀(f g:Nat) (n:Int),n<f→n<g→(∀i,0≤i→i≤n→qGk area call kids i)→0≤n→qA3 kids f n=qA3 kids g n
 |0,g,n,h1,h2,_,h3=>by omega
 |f+1,0,n,h1,h2,_,h3=>by omega
 |f+1,g+1,n,h1,h2,hk,h3=>by
  rw [qA3,qA3]
  congr 2
  apply List.map_congr_left
  intro k hm
  have:=hk n h3 (by omega) k hm
  exact qO9 f g k (by omega) (by omega) (fun i h0 h1=>hk i h0 (by omega)) (by omega)
theorem qNC:∀(f:Nat) (n:Int),0≤n→n<f→1≤qA3 kids f n
 |0,n,h,h'=>by omega
 |f+1,n,h,h'=>by
  rw [qA3]
  have:∀l:List Int,0≤qJv l:=by
   intro l
   induction l with
   |nil=>exact Int.le_refl 0
   |cons a r ih=>simp only [qJv];omega
  have:=this ((kids n).map fun k=>qA3 kids f k)
  omega
theorem qQm:∀(f g:Nat) (n:Int),0≤n→n<g→0≤qCg own area call kids f n→
  qCg own area call kids f n≤n∧qCp kids g n=qCg own area call kids f n∧(∀i,qCg own area call kids f n≤i→i≤n→own i=true∧qGk area call kids i)∧(∀h:Nat,(∀i,0≤i→i≤n→qGk area call kids i)→n<h→qA3 kids h n≤f)
 |0,g,n,h0,h1,h2=>by rw [qCg] at h2;omega
 |f+1,0,n,h0,h1,h2=>by omega
 |f+1,g+1,n,h0,h1,h2=>by
  rw [qCg] at h2⊢
  split at h2
  ·omega
  ·rename_i hc
   rw [if_neg hc]
   have go:∀(l:List Int) (s:Int),0≤s→s≤n→0≤goF area call (qCg own area call kids f) n l s→
     goF area call (qCg own area call kids f) n l s≤s∧goT (qCp kids g) l (s-1)=goF area call (qCg own area call kids f) n l s∧(∀i,goF area call (qCg own area call kids f) n l s≤i→i≤s-1→own i=true∧qGk area call kids i)∧(∀k∈l,0≤k∧k≤n-1∧¬(area k=true∧call n=false))∧(∀h:Nat,(∀i,0≤i→i≤n→qGk area call kids i)→n<h→∀k∈l,qA3 kids h k≤f):=by
    intro l
    induction l with
    |nil=>
     intro s h3 h4 h5
     rw [goF] at h5⊢
     rw [goT]
     refine ⟨by omega,by omega,fun i _ _=>by omega,fun k hk=>(by cases hk),fun h _ _ k hk=>(by cases hk)⟩
    |cons k r ih=>
     intro s h3 h4 h5
     rw [goF] at h5⊢
     split at h5
     ·omega
     ·rename_i hd
      rw [if_neg hd]
      split at h5
      ·omega
      ·rename_i he
       rw [if_neg he]
       have hk:k=s-1:=by omega
       subst hk
       obtain ⟨a1,a2,a3,a4⟩:=qQm f g (s-1) (by omega) (by omega) (by omega)
       obtain ⟨b1,b2,b3,b4,b5⟩:=ih _ (by omega) (by omega) h5
       refine ⟨by omega,?_,?_,?_,?_⟩
       ·rw [goT,if_neg (by omega),a2,if_neg he,b2]
       ·intro i i1 i2
        by_cases hi:qCg own area call kids f (s-1)≤i
        ·exact a3 i hi i2
        ·exact b3 i i1 (by omega)
       ·intro k hk
        rcases List.mem_cons.1 hk with rfl|hk
        ·exact ⟨by omega,by omega,fun h=>hd (.inr (.inr h))⟩
        ·exact b4 k hk
       ·intro h hx hy k hk
        rcases List.mem_cons.1 hk with rfl|hk
        ·exact a4 h (fun i i1 i2=>hx i i1 (by omega)) (by omega)
        ·exact b5 h hx hy k hk
   obtain ⟨c1,c2,c3,c4,c5⟩:=go _ n h0 (Int.le_refl n) h2
   have hown:own n=true:=by cases ho:own n with
    |true=>rfl
    |false=>exact absurd (.inr ho) hc
   refine ⟨c1,by rw [qCp];exact c2,?_,?_⟩
   ·intro i i1 i2
    by_cases hi:i=n
    ·subst hi
     exact ⟨hown,fun k hk=>c4 k (List.mem_reverse.2 hk)⟩
    ·exact c3 i i1 (by omega)
   ·intro h hx hy
    cases h with
    |zero=>omega
    |succ h=>
     refine (qO8 kids (by omega)).2 fun k hk=>?_
     have hin:=hx n h0 (Int.le_refl n) k hk
     have e:qA3 kids h k=qA3 kids (n.toNat+1) k:=qO9 area call kids _ _ _ (by omega) (by omega) (fun i i1 i2=>hx i i1 (by omega)) (by omega)
     rw [e]
     have:=c5 (n.toNat+1) hx (by omega) k (List.mem_reverse.2 hk)
     omega
theorem qSK:∀(f g h:Nat) (n:Int),0≤n→n<g→n<h→(∀i,0≤i→i≤n→own i=true∧qGk area call kids i)→0≤qCp kids g n→qA3 kids h n≤f→qCg own area call kids f n=qCp kids g n
 |0,g,h,n,h0,h1,h1',h2,h3,h4=>by have:=qNC kids h n h0 h1';omega
 |f+1,0,h,n,h0,h1,_,h2,h3,h4=>by omega
 |f+1,g+1,0,n,h0,h1,_,h2,h3,h4=>by omega
 |f+1,g+1,h+1,n,h0,h1,h1',h2,h3,h4=>by
  have hd:=(qO8 kids (b:=((f+1:Nat):Int)) (by omega)).1 h4
  have go:∀(l:List Int) (s:Int),(∀k∈l,k∈kids n)→0≤s→s≤n→0≤goT (qCp kids g) l (s-1)→goF area call (qCg own area call kids f) n l s=goT (qCp kids g) l (s-1):=by
   intro l
   induction l with
   |nil=>intro s _ _ _ _;rw [goF,goT];omega
   |cons k r ih=>
    intro s hm h3 h4 h5
    rw [goT] at h5⊢
    rw [goF]
    split at h5
    ·omega
    ·rename_i hc
     rw [if_neg hc]
     split at h5
     ·omega
     ·rename_i he
      rw [if_neg he]
      have hk:k=s-1:=by omega
      have hin:=(h2 n h0 (Int.le_refl n)).2 k (hm k (List.mem_cons_self ..))
      have hdk:=hd k (hm k (List.mem_cons_self ..))
      subst hk
      have e:=qSK f g h (s-1) (by omega) (by omega) (by omega) (fun i i1 i2=>h2 i i1 (by omega)) (by omega) (by omega)
      have hb:¬(s-1≠s-1∨s-1<0∨(area (s-1)=true∧call n=false)):=fun hx=>by
       rcases hx with hx|hx|hx
       ·exact hx rfl
       ·omega
       ·exact hin.2.2 hx
      rw [if_neg hb,e,if_neg he]
      have hle:=qO7 kids g (s-1) (by omega)
      exact ih _ (fun k hk=>hm k (List.mem_cons_of_mem _ hk)) (by omega) (by omega) h5
  rw [qCp] at h3
  have hn:¬(n<0∨own n=false):=fun hx=>by
   rcases hx with hx|hx
   ·omega
   ·rw [(h2 n h0 (Int.le_refl n)).1] at hx;cases hx
  rw [qCg,qCp,if_neg hn]
  exact go _ n (fun k hk=>List.mem_reverse.1 hk) h0 (Int.le_refl n) h3
end
theorem qBX (c:Nd):(qb c).length=14:=rfl
theorem qBF (k:Int):(qBB k).length=1:=rfl
theorem qAs (k:Int):zI .i64 (qBB k) 0=some k:=rfl
theorem qAZ (c:Nd):zI .i64 (qb c) 0=some c.1:=rfl
theorem qAa (c:Nd):zI .i64 (qb c) 1=some c.2.1:=rfl
theorem qAb (c:Nd):zI .i64 (qb c) 2=some c.2.2.1:=rfl
theorem qAc (c:Nd):zI .i64 (qb c) 3=some c.2.2.2.1:=rfl
theorem qAd (c:Nd):zAG (qb c) 4=some c.2.2.2.2.1:=rfl
theorem qAe (c:Nd):zI .i64 (qb c) 5=some c.2.2.2.2.2.1:=rfl
theorem qAf (c:Nd):zI .i64 (qb c) 6=some c.2.2.2.2.2.2.1:=rfl
theorem qAg (c:Nd):zAn (qb c) 7=some c.2.2.2.2.2.2.2.1:=rfl
theorem qAh (c:Nd):zAn (qb c) 8=some c.2.2.2.2.2.2.2.2.1:=rfl
theorem qAi (c:Nd):zI .i64 (qb c) 9=some c.2.2.2.2.2.2.2.2.2.1:=rfl
theorem qx (c:Nd):zI .i64 (qb c) 10=some c.2.2.2.2.2.2.2.2.2.2.1:=rfl
theorem qy (c:Nd):zAn (qb c) 11=some c.2.2.2.2.2.2.2.2.2.2.2.1:=rfl
theorem qz (c:Nd):zAn (qb c) 12=some c.2.2.2.2.2.2.2.2.2.2.2.2.1:=rfl
theorem q7 (c:Nd):zA9 (qb c) 13=some ((c.2.2.2.2.2.2.2.2.2.2.2.2.2).map qBB):=rfl
def nd0:Nd:=(0,0,0,0,⟨#[]⟩,0,0,false,false,0,0,false,false,[])
def ndi (l:List Nd) (i:Int):Nd:=l.getD i.toNat nd0
def qX (l:List Nd) (i:Int):List Int:=kd (ndi l i)
def qF3 (l:List Nd) (i:Int):Bool:=qE0 (ndi l i)
def qBb (l:List Nd) (i:Int):Bool:=decide ((ndi l i).1=3)
def qCA (l:List Nd) (i:Int):Bool:=decide ((ndi l i).1=6)
theorem qCu {l:List Nd} {i:Int} (h:0≤i∧i<l.length):l[i.toNat]?=some (ndi l i):=by
 have:i.toNat<l.length:=by omega
 unfold ndi
 rw [ze this,List.getD_eq_getElem?_getD,ze this]
 rfl
theorem qIa {l:List Nd} {i:Int} (h:0≤i∧i<l.length):ndi l i∈l:=zy (qCu h)
theorem qRC {α:Type} {l:List α} {j:Nat} {k:α} (h:l[j]?=some k):(l.take (j+1)).reverse=k::(l.take j).reverse:=by
 rw [List.take_add_one,h]
 simp
theorem qRD {R:Type} {F:Int→Nat→Option R} {f:Int→R} (x:Int) (h:∀y,0≤y→y<x→Ev (F y) (f y)):∃n0,∀n,n0≤n→∀y,0≤y→y<x→F y n=some (f y):=by
 obtain ⟨n0,h0⟩:=qAt (F:=F) (f:=f) ((List.range x.toNat).map fun (i:Nat)=>(i:Int)) (fun c hc=>by
  obtain ⟨i,hi,rfl⟩:=List.mem_map.1 hc
  have:=List.mem_range.1 hi
  exact h _ (Int.natCast_nonneg i) (by omega))
 refine ⟨n0,fun n hn y h1 h2=>h0 n hn y (List.mem_map.2 ⟨y.toNat,List.mem_range.2 (by omega),by omega⟩)⟩
theorem qP7 (l:List Nd) (x1:Int) (f n:Nat) (hx:0≤x1∧x1<l.length) (hl:l.length≤140737488351232) (hk:(kd (ndi l x1)).length≤140737488351232)
  (hrec:∀y:Int,0≤y→y<x1→qAu n (l.map qb) y=some (qCp (qX l) f y)):
  ∀(j M:Nat) (s:Int),j≤(kd (ndi l x1)).length→j+1≤M→-1≤s→s<x1→
   (∃x,zF (qA8 (qAu n) n) M (l.map qb,x1,s,(j:Int)-1)=some (.inr x)∧goT (qCp (qX l) f) ((qX l x1).take j).reverse s=x+1∧-1≤x∧x<x1)∨
   (zF (qA8 (qAu n) n) M (l.map qb,x1,s,(j:Int)-1)=some (.inl (-1))∧goT (qCp (qX l) f) ((qX l x1).take j).reverse s= -1)
 |0,0,s,h1,h2,h3,h4=>by omega
 |0,M+1,s,h1,h2,h3,h4=>by
  refine .inl ⟨s,?_,by simp [goT],h3,h4⟩
  rw [qP (r:= .inr s) (by simp [-getElem?_pos,qA8,qC,qE,qJ,qK,qM,qN,zC,qF,qG,qH])]
 |j+1,0,s,h1,h2,h3,h4=>by omega
 |j+1,M+1,s,h1,h2,h3,h4=>by
  have hc:=qCu hx
  have hj:j<(kd (ndi l x1)).length:=by omega
  have hg:(qX l x1)[j]?=some (qX l x1)[j]:=ze hj
  have ih:=qP7 l x1 f n hx hl hk hrec j M
  rw [qRC hg]
  generalize (qX l x1)[j]=k at hg
  have hi:(((j+1:Nat):Int)-1)=(j:Int):=by omega
  rw [hi,goT]
  have hg':(ndi l x1).2.2.2.2.2.2.2.2.2.2.2.2.2[j]?=some k:=hg
  have hj':j<(ndi l x1).2.2.2.2.2.2.2.2.2.2.2.2.2.length:=hj
  by_cases hs:s<0
  ·refine .inr ⟨?_,by rw [if_pos (.inl hs)]⟩
   rw [qP (r:= .inl (-1)) (by simp [-getElem?_pos,qA8,qC,qE,qJ,qK,qM,qN,zC,qF,qG,qH,hs])]
  ·by_cases hks:k=s
   ·subst hks
    have hr:=hrec k (by omega) h4
    by_cases ht:qCp (qX l) f k<0
    ·refine .inr ⟨?_,by rw [if_neg (by omega),if_pos ht]⟩
     rw [qP (r:= .inl (-1)) (by simp [-getElem?_pos,qA8,qC,qE,qJ,qK,qM,qN,zC,qF,qG,qH,hs,hc,hx,qBX,qBF,qAs,qAZ,qAa,qAb,qAc,qAd,qAe,qAf,qAg,qAh,qAi,qx,qy,qz,q7,hg',hj',hr,ht])]
    ·have hle:=qO7 (qX l) f k (by omega)
     have hw:IntKind.i64.wrap (qCp (qX l) f k-1)=qCp (qX l) f k-1:=qU (by omega)
     have hw2:IntKind.i64.wrap ((j:Int)-1)=(j:Int)-1:=qU (by omega)
     rw [if_neg (by omega),if_neg ht]
     rw [qT (v':=(l.map qb,x1,qCp (qX l) f k-1,(j:Int)-1)) (by simp [-getElem?_pos,qA8,qC,qE,qJ,qK,qM,qN,zC,qF,qG,qH,hs,hc,hx,qBX,qBF,qAs,qAZ,qAa,qAb,qAc,qAd,qAe,qAf,qAg,qAh,qAi,qx,qy,qz,q7,hg',hj',hr,ht,hw,hw2])]
     exact ih _ (by omega) (by omega) (by omega) (by omega)
   ·refine .inr ⟨?_,by rw [if_pos (.inr hks)]⟩
    rw [qP (r:= .inl (-1)) (by simp [-getElem?_pos,qA8,qC,qE,qJ,qK,qM,qN,zC,qF,qG,qH,hs,hc,hx,qBX,qBF,qAs,qAZ,qAa,qAb,qAc,qAd,qAe,qAf,qAg,qAh,qAi,qx,qy,qz,q7,hg',hj',hks])]
theorem qJw (l:List Nd) (hl:l.length≤140737488351232) (hk:∀c∈l,(kd c).length≤140737488351232):∀(f:Nat) (x:Int),0≤x→x<l.length→x<f→Ev (qAu · (l.map qb) x) (qCp (qX l) f x)
 |0,x,h0,h1,h2=>by omega
 |f+1,x,h0,h1,h2=>by
  obtain ⟨n0,hn0⟩:=qRD (F:=fun y n=>qAu n (l.map qb) y) (f:=fun y=>qCp (qX l) f y) x (fun y h3 h4=>qJw l hl hk f y h3 (by omega) (by omega))
  refine ⟨n0+(kd (ndi l x)).length+5,fun n hn=>?_⟩
  obtain ⟨m,rfl,hm⟩:=up1 hn
  have hc:=qCu (l:=l) (i:=x) ⟨h0,h1⟩
  have hkx:=hk _ (qIa (l:=l) ⟨h0,h1⟩)
  have hw:IntKind.i64.wrap (x-1)=x-1:=qU (by omega)
  have hw2:IntKind.i64.wrap (((kd (ndi l x)).length:Int)-1)=((kd (ndi l x)).length:Int)-1:=qU (by omega)
  have h:=qP7 l x f m ⟨h0,h1⟩ hl hkx (hn0 m (by omega)) (kd (ndi l x)).length m (x-1) (Nat.le_refl _) (by omega) (by omega) (by omega)
  have e:(qX l x).take (kd (ndi l x)).length=qX l x:=List.take_length
  rw [e] at h
  rw [show qCp (qX l) (f+1) x=goT (qCp (qX l) f) (qX l x).reverse (x-1) from rfl]
  unfold kd at h hw2
  dsimp only
  simp only [qAu,qHO,qC,qE,qJ,qK,qM,qN,zC,qF,qG,qH]
  rcases h with ⟨y,g1,g2,g3,g4⟩|⟨g1,g2⟩
  ·have hw3:IntKind.i64.wrap (y+1)=y+1:=qU (by omega)
   rw [g2]
   simp [-getElem?_pos,qC,qE,qJ,qK,qM,qN,zC,qF,qG,qH,hc,h0,h1,qBX,qBF,qAs,qAZ,qAa,qAb,qAc,qAd,qAe,qAf,qAg,qAh,qAi,qx,qy,qz,q7,hw,hw2,g1,hw3]
  ·rw [g2]
   simp [-getElem?_pos,qC,qE,qJ,qK,qM,qN,zC,qF,qG,qH,hc,h0,h1,qBX,qBF,qAs,qAZ,qAa,qAb,qAc,qAd,qAe,qAf,qAg,qAh,qAi,qx,qy,qz,q7,hw,hw2,g1]
theorem qND (kids:Int→List Int):∀(f:Nat) (n:Int),0≤qA3 kids f n∧qA3 kids f n≤f
 |0,n=>by rw [qA3];omega
 |f+1,n=>by
  have:∀l:List Int,0≤qJv (l.map fun k=>qA3 kids f k)∧qJv (l.map fun k=>qA3 kids f k)≤f:=by
   intro l
   induction l with
   |nil=>exact ⟨Int.le_refl 0,Int.natCast_nonneg f⟩
   |cons a r ih=>have:=qND kids f a;simp only [List.map_cons,qJv];omega
  have:=this (kids n)
  rw [qA3]
  omega
theorem qP8 (l:List Nd) (x1:Int) (f n:Nat) (hx:0≤x1∧x1<l.length) (hf:f≤1000) (hk:(kd (ndi l x1)).length≤140737488351232)
  (hrec:∀k∈qX l x1,qAv n (l.map qb) k=some (qA3 (qX l) f k)):
  ∀(m i M:Nat) (a:Int),(kd (ndi l x1)).length=i+m→m+1≤M→0≤a→
   zF (qC0 (qAv n) n) M (l.map qb,x1,a,(i:Int))=some (max a (qJv (((qX l x1).drop i).map fun k=>qA3 (qX l) f k)))
 |m,i,0,a,h1,h2,h3=>by omega
 |0,i,M+1,a,h1,h2,h3=>by
  have hc:=qCu hx
  have hi:¬i<(ndi l x1).2.2.2.2.2.2.2.2.2.2.2.2.2.length:=by unfold kd at h1;omega
  rw [qP (r:=a) (by simp [-getElem?_pos,qC0,qC,qE,qJ,qK,qM,qN,zC,qF,qG,qH,hc,hx,qBX,qBF,qAs,qAZ,qAa,qAb,qAc,qAd,qAe,qAf,qAg,qAh,qAi,qx,qy,qz,q7,hi])]
  rw [List.drop_eq_nil_of_le (by unfold qX;omega)]
  simp only [List.map_nil,qJv]
  congr 1
  omega
 |m+1,i,M+1,a,h1,h2,h3=>by
  have hc:=qCu hx
  have hj:i<(kd (ndi l x1)).length:=by omega
  have hg:(qX l x1)[i]?=some (qX l x1)[i]:=ze hj
  rw [qEU hg]
  have hr:=hrec _ (zy hg)
  generalize (qX l x1)[i]=k at hg hr
  have hg':(ndi l x1).2.2.2.2.2.2.2.2.2.2.2.2.2[i]?=some k:=hg
  have hj':i<(ndi l x1).2.2.2.2.2.2.2.2.2.2.2.2.2.length:=hj
  have hj'':(i:Int)<((ndi l x1).2.2.2.2.2.2.2.2.2.2.2.2.2.length:Int):=by omega
  have hw:IntKind.i64.wrap ((i:Int)+1)=((i+1:Nat):Int):=by rw [qU (by omega)];omega
  have hd:=qND (qX l) f k
  rw [qT (v':=(l.map qb,x1,(if qA3 (qX l) f k>a then qA3 (qX l) f k else a),((i+1:Nat):Int))) (by simp [-getElem?_pos,qC0,qC,qE,qJ,qK,qM,qN,zC,qF,qG,qH,hc,hx,qBX,qBF,qAs,qAZ,qAa,qAb,qAc,qAd,qAe,qAf,qAg,qAh,qAi,qx,qy,qz,q7,hg',hj',hr,hw])]
  rw [qP8 l x1 f n hx hf hk hrec m (i+1) M _ (by omega) (by omega) (by split<;>omega)]
  simp only [List.map_cons,qJv]
  congr 1
  split<;>omega
theorem qJx (l:List Nd) (hl:l.length≤60) (hk:∀c∈l,(kd c).length≤140737488351232) (hin:∀i:Int,0≤i→i<l.length→qGk (qBb l) (qCA l) (qX l) i):∀(f:Nat) (x:Int),f≤1000→0≤x→x<l.length→x<f→Ev (qAv · (l.map qb) x) (qA3 (qX l) f x)
 |0,x,hf,h0,h1,h2=>by omega
 |f+1,x,hf,h0,h1,h2=>by
  obtain ⟨n0,hn0⟩:=qAt (F:=fun y n=>qAv n (l.map qb) y) (f:=fun y=>qA3 (qX l) f y) (qX l x) (fun y hy=>by
   have:=hin x h0 h1 y hy
   exact qJx l hl hk hin f y (by omega) (by omega) (by omega) (by omega))
  refine ⟨n0+(kd (ndi l x)).length+5,fun n hn=>?_⟩
  obtain ⟨m,rfl,hm⟩:=up1 hn
  have h:=qP8 l x f m ⟨h0,h1⟩ (by omega) (hk _ (qIa (l:=l) ⟨h0,h1⟩)) (hn0 m (by omega)) (kd (ndi l x)).length 0 m 0 (by omega) (by omega) (by omega)
  have hd:=qND (qX l) (f+1) x
  have e:max 0 (qJv ((qX l x).map fun k=>qA3 (qX l) f k))+1=qA3 (qX l) (f+1) x:=by
   rw [qA3]
   have:∀q:List Int,0≤qJv q:=by
    intro q
    induction q with
    |nil=>exact Int.le_refl 0
    |cons a r ih=>simp only [qJv];omega
   have:=this ((qX l x).map fun k=>qA3 (qX l) f k)
   omega
  rw [List.drop_zero] at h
  simp only [Int.natCast_zero] at h
  have hw:IntKind.i64.wrap (max 0 (qJv ((qX l x).map fun k=>qA3 (qX l) f k))+1)=qA3 (qX l) (f+1) x:=by rw [e,qU (by omega)]
  simp only [qAv,qHQ,qC,qE,qJ,qK,qM,qN,zC,qF,qG,qH,h,hw]
def inB (l:List Nd) (i:Int):Bool:=(qX l i).all fun k=>decide (0≤k∧k≤i-1)&&!(qBb l k&&!qCA l i)
theorem qSL {l:List Nd} {i:Int}:inB l i=true↔qGk (qBb l) (qCA l) (qX l) i:=by
 unfold inB qGk
 rw [List.all_eq_true]
 refine forall_congr' fun k=>forall_congr' fun hk=>?_
 cases qBb l k<;>cases qCA l i<;>simp
theorem qQn (l:List Nd) (x1:Int) (n:Nat) (hx:0≤x1∧x1<l.length) (hl:l.length≤60) (hk:(kd (ndi l x1)).length≤140737488351232):
  ∀(m i M:Nat),(kd (ndi l x1)).length=i+m→m+1≤M→
   zF (qAn (n+1)) M (l.map qb,x1,(i:Int))=some (if ((qX l x1).drop i).all (fun k=>decide (0≤k∧k≤x1-1)&&!(qBb l k&&!qCA l x1))=true then .inr (l.map qb,x1) else .inl false)
 |m,i,0,h1,h2=>by omega
 |0,i,M+1,h1,h2=>by
  have hc:=qCu hx
  have hi:¬i<(ndi l x1).2.2.2.2.2.2.2.2.2.2.2.2.2.length:=by unfold kd at h1;omega
  rw [qP (r:= .inr (l.map qb,x1)) (by simp [-getElem?_pos,qAn,qC,qE,qJ,qK,qM,qN,zC,qF,qG,qH,hc,hx,qBX,qBF,qAs,qAZ,qAa,qAb,qAc,qAd,qAe,qAf,qAg,qAh,qAi,qx,qy,qz,q7,hi])]
  rw [List.drop_eq_nil_of_le (by unfold qX;omega)]
  rfl
 |m+1,i,M+1,h1,h2=>by
  have hc:=qCu hx
  have hj:i<(kd (ndi l x1)).length:=by omega
  have hg:(qX l x1)[i]?=some (qX l x1)[i]:=ze hj
  rw [qEU hg]
  generalize (qX l x1)[i]=k at hg
  have hg':(ndi l x1).2.2.2.2.2.2.2.2.2.2.2.2.2[i]?=some k:=hg
  have hj':i<(ndi l x1).2.2.2.2.2.2.2.2.2.2.2.2.2.length:=hj
  have hw:IntKind.i64.wrap ((i:Int)+1)=((i+1:Nat):Int):=by rw [qU (by omega)];omega
  have hw2:IntKind.i64.wrap (x1-1)=x1-1:=qU (by omega)
  have hin:qAj (n+1) k 0 (x1-1)=some (decide (0≤k∧k≤x1-1)):=by
   simp only [qAj,qGx,qC,qE,qJ,qK,qM,qN,zC,qF,qG,qH]
   by_cases h:k≥0<;>simp [h]
  rw [List.all_cons]
  by_cases hr:0≤k∧k≤x1-1
  ·have hck:=qCu (l:=l) (i:=k) ⟨hr.1,by omega⟩
   have hkl:k<(l.length:Int):=by omega
   by_cases ha:(ndi l k).1=3
   ·by_cases hcl:(ndi l x1).1=6
    ·rw [qT (v':=(l.map qb,x1,((i+1:Nat):Int))) (by simp [-getElem?_pos,qAn,qC,qE,qJ,qK,qM,qN,zC,qF,qG,qH,hc,hx,qBX,qBF,qAs,qAZ,qAa,qAb,qAc,qAd,qAe,qAf,qAg,qAh,qAi,qx,qy,qz,q7,hg',hj',hw,hw2,hin,hr,hck,hkl,ha,hcl])]
     rw [qQn l x1 n hx hl hk m (i+1) M (by omega) (by omega)]
     simp [hr,qBb,qCA,ha,hcl]
    ·rw [qP (r:= .inl false) (by simp [-getElem?_pos,qAn,qC,qE,qJ,qK,qM,qN,zC,qF,qG,qH,hc,hx,qBX,qBF,qAs,qAZ,qAa,qAb,qAc,qAd,qAe,qAf,qAg,qAh,qAi,qx,qy,qz,q7,hg',hj',hw,hw2,hin,hr,hck,hkl,ha,hcl])]
     simp [hr,qBb,qCA,ha,hcl]
   ·rw [qT (v':=(l.map qb,x1,((i+1:Nat):Int))) (by simp [-getElem?_pos,qAn,qC,qE,qJ,qK,qM,qN,zC,qF,qG,qH,hc,hx,qBX,qBF,qAs,qAZ,qAa,qAb,qAc,qAd,qAe,qAf,qAg,qAh,qAi,qx,qy,qz,q7,hg',hj',hw,hw2,hin,hr,hck,hkl,ha])]
    rw [qQn l x1 n hx hl hk m (i+1) M (by omega) (by omega)]
    simp [hr,qBb,qCA,ha]
  ·rw [qP (r:= .inl false) (by simp [-getElem?_pos,qAn,qC,qE,qJ,qK,qM,qN,zC,qF,qG,qH,hc,hx,qBX,qBF,qAs,qAZ,qAa,qAb,qAc,qAd,qAe,qAf,qAg,qAh,qAi,qx,qy,qz,q7,hg',hj',hw2,hin,hr])]
   simp [hr]
def qFU (l:List Nd) (i m:Nat):Bool:=(List.range' i m).all fun (i:Nat)=>qF3 l (i:Int)&&inB l (i:Int)
theorem qFd {l:List Nd}:qFU l 0 l.length=true↔∀i:Int,0≤i→i<l.length→qF3 l i=true∧qGk (qBb l) (qCA l) (qX l) i:=by
 unfold qFU
 rw [List.all_eq_true]
 constructor
 ·intro h i h0 h1
  have:=h i.toNat (by rw [List.mem_range'];exact ⟨i.toNat,by omega,by omega⟩)
  rw [show ((i.toNat:Nat):Int)=i by omega,Bool.and_eq_true,qSL] at this
  exact this
 ·intro h i hi
  rw [List.mem_range'] at hi
  obtain ⟨j,hj,rfl⟩:=hi
  rw [Bool.and_eq_true,qSL]
  exact h _ (by omega) (by omega)
theorem qSM (l:List Nd) (n:Nat) (hl:l.length≤60) (hk:∀c∈l,(kd c).length≤140737488351232) (hn:∀c∈l,(kd c).length+2≤n)
  (hok:∀c∈l,qBy n c.1 c.2.1 c.2.2.1 c.2.2.2.1 c.2.2.2.2.1 c.2.2.2.2.2.1 c.2.2.2.2.2.2.1 c.2.2.2.2.2.2.2.1 c.2.2.2.2.2.2.2.2.1 c.2.2.2.2.2.2.2.2.2.1 c.2.2.2.2.2.2.2.2.2.2.1 c.2.2.2.2.2.2.2.2.2.2.2.1 c.2.2.2.2.2.2.2.2.2.2.2.2.1 ((c.2.2.2.2.2.2.2.2.2.2.2.2.2).map qBB)=some (qE0 c)):
  ∀(m i M:Nat),l.length=i+m→m+1≤M→
   zF (qBC n) M (l.map qb,(i:Int))=some (if qFU l i m=true then .inr (l.map qb) else .inl false)
 |m,i,0,h1,h2=>by omega
 |0,i,M+1,h1,h2=>by
  have hi:¬(i:Int)<(l.length:Int):=by omega
  rw [qP (r:= .inr (l.map qb)) (by simp [-getElem?_pos,qBC,qC,qE,qJ,qK,qM,qN,zC,qF,qG,qH,hi])]
  rfl
 |m+1,i,M+1,h1,h2=>by
  have hi:(i:Int)<(l.length:Int):=by omega
  have hx:0≤(i:Int)∧(i:Int)<l.length:=⟨by omega,hi⟩
  have hc:=qCu hx
  have hm:=qIa hx
  have ho:=hok _ hm
  have hw:IntKind.i64.wrap ((i:Int)+1)=((i+1:Nat):Int):=by rw [qU (by omega)];omega
  have hnn:=hn _ hm
  obtain ⟨q,rfl⟩:∃q,n=q+1:=⟨n-1,by omega⟩
  have hlp:=qQn l i q hx hl (hk _ hm) (kd (ndi l i)).length 0 (q+1) (by omega) (by omega)
  rw [List.drop_zero,show ((qX l (i:Int)).all fun k=>decide (0≤k∧k≤(i:Int)-1)&&!(qBb l k&&!qCA l (i:Int)))=inB l i from rfl] at hlp
  simp only [Int.natCast_zero] at hlp
  have e:qFU l i (m+1)=(qF3 l i&&inB l i&&qFU l (i+1) m):=by unfold qFU;rw [List.range'_succ,List.all_cons]
  rw [e]
  rw [Int.toNat_natCast] at hc
  cases hnb:qE0 (ndi l i) with
  |false=>
   rw [hnb] at ho
   rw [qP (r:= .inl false) (by simp [-getElem?_pos,qBC,qC,qE,qJ,qK,qM,qN,zC,qF,qG,qH,hi,hc,qBX,qBF,qAs,qAZ,qAa,qAb,qAc,qAd,qAe,qAf,qAg,qAh,qAi,qx,qy,qz,q7,ho])]
   simp [qF3,hnb]
  |true=>
   rw [hnb] at ho
   cases hib:inB l i with
   |false=>
    rw [hib] at hlp
    rw [qP (r:= .inl false) (by simp [-getElem?_pos,qBC,qC,qE,qJ,qK,qM,qN,zC,qF,qG,qH,hi,hc,qBX,qBF,qAs,qAZ,qAa,qAb,qAc,qAd,qAe,qAf,qAg,qAh,qAi,qx,qy,qz,q7,ho,hlp])]
    simp
   |true=>
    rw [hib] at hlp
    rw [qT (v':=(l.map qb,((i+1:Nat):Int))) (by simp [-getElem?_pos,qBC,qC,qE,qJ,qK,qM,qN,zC,qF,qG,qH,hi,hc,qBX,qBF,qAs,qAZ,qAa,qAb,qAc,qAd,qAe,qAf,qAg,qAh,qAi,qx,qy,qz,q7,ho,hlp,hw])]
    rw [qSM l (q+1) hl hk hn hok m (i+1) M (by omega) (by omega)]
    simp [qF3,hnb]
def qFe (l:List Nd):Bool:=decide (1≤l.length∧l.length≤60)&&(qFU l 0 l.length&&(decide (qCp (qX l) l.length ((l.length:Int)-1)=0)&&(!qBb l ((l.length:Int)-1)&&decide (qA3 (qX l) l.length ((l.length:Int)-1)≤12))))
theorem qHE (l:List Nd) (hk:∀c∈l,(kd c).length≤140737488351232∧c.2.2.2.2.1.size≤140737488351232):Ev (qBg · (l.map qb)) (qFe l):=by
 by_cases h1:1≤l.length
 ·by_cases h60:l.length≤60
  ·have hk1:∀c∈l,(kd c).length≤140737488351232:=fun c hc=>(hk c hc).1
   obtain ⟨n1,g1⟩:=qAt (F:=fun (c:Nd) n=>qBy n c.1 c.2.1 c.2.2.1 c.2.2.2.1 c.2.2.2.2.1 c.2.2.2.2.2.1 c.2.2.2.2.2.2.1 c.2.2.2.2.2.2.2.1 c.2.2.2.2.2.2.2.2.1 c.2.2.2.2.2.2.2.2.2.1 c.2.2.2.2.2.2.2.2.2.2.1 c.2.2.2.2.2.2.2.2.2.2.2.1 c.2.2.2.2.2.2.2.2.2.2.2.2.1 ((c.2.2.2.2.2.2.2.2.2.2.2.2.2).map qBB)) (f:=qE0) l (fun c hc=>qIA c (hk c hc).2)
   obtain ⟨n2,g2⟩:=qAt (F:=fun (c:Nd) n=>if (kd c).length+2≤n then some () else none) (f:=fun _=>()) l (fun c hc=>⟨(kd c).length+2,fun n hn=>if_pos hn⟩)
   obtain ⟨n3,g3⟩:=qJw l (by omega) hk1 l.length ((l.length:Int)-1) (by omega) (by omega) (by omega)
   obtain ⟨n4,g4⟩:∃n0,qFU l 0 l.length=true→∀n,n0≤n→qAv n (l.map qb) ((l.length:Int)-1)=some (qA3 (qX l) l.length ((l.length:Int)-1)):=by
    by_cases ho:qFU l 0 l.length=true
    ·obtain ⟨n4,g4⟩:=qJx l h60 hk1 (fun (i:Int) h0 h1=>(qFd.1 ho i h0 h1).2) l.length ((l.length:Int)-1) (by omega) (by omega) (by omega) (by omega)
     exact ⟨n4,fun _=>g4⟩
    ·exact ⟨0,fun h=>absurd h ho⟩
   refine ⟨n1+n2+n3+n4+l.length+5,fun n hn=>?_⟩
   obtain ⟨m,rfl,hm⟩:=up1 hn
   have hlp:=qSM l m h60 hk1 (fun c hc=>by
    have:=g2 m (by omega) c hc
    split at this
    ·assumption
    ·cases this) (g1 m (by omega)) l.length 0 m (by omega) (by omega)
   have g3:=g3 m (by omega)
   dsimp only at g3
   simp only [Int.natCast_zero] at hlp
   have hw:IntKind.i64.wrap ((l.length:Int)-1)=(l.length:Int)-1:=qU (by omega)
   have hx:0≤(l.length:Int)-1∧(l.length:Int)-1<l.length:=by omega
   have hc:=qCu hx
   have a1:¬(l.length:Int)<1:=by omega
   have a2:¬(l.length:Int)>60:=by omega
   generalize hxe:(l.length:Int)-1=x at hw hx hc g3 g4⊢
   simp only [qBg,qC1,qC,qE,qJ,qK,qM,qN,zC,qF,qG,qH,List.length_map,decide_eq_true_eq,a1,a2,if_false,hlp]
   unfold qFe
   rw [hxe]
   cases ho:qFU l 0 l.length with
   |false=>simp [qC,qE,qJ,qK,qM,qN,zC,qF,qG,qH]
   |true=>
    have g4:=g4 ho m (by omega)
    simp only [if_true,qC,qE,qJ,qK,qM,qN,zC,qF,qG,qH,List.length_map,hxe,hw,g3]
    by_cases ht:qCp (qX l) l.length x=0
    ·by_cases ha:(ndi l x).1=3
     ·simp [-getElem?_pos,qC,qE,qJ,qK,qM,qN,zC,qF,qG,qH,ht,hx,hc,qBX,qBF,qAs,qAZ,qAa,qAb,qAc,qAd,qAe,qAf,qAg,qAh,qAi,qx,qy,qz,q7,ha,qBb]
     ·simp [-getElem?_pos,qC,qE,qJ,qK,qM,qN,zC,qF,qG,qH,ht,hx,hc,qBX,qBF,qAs,qAZ,qAa,qAb,qAc,qAd,qAe,qAf,qAg,qAh,qAi,qx,qy,qz,q7,ha,qBb,g4,h1,h60]
    ·simp [-getElem?_pos,qC,qE,qJ,qK,qM,qN,zC,qF,qG,qH,ht]
  ·refine ⟨1,fun n hn=>?_⟩
   obtain ⟨m,rfl,hm⟩:=up1 (n0:=0) hn
   have a1:¬(l.length:Int)<1:=by omega
   have a2:(l.length:Int)>60:=by omega
   simp [-getElem?_pos,qBg,qC1,qC,qE,qJ,qK,qM,qN,zC,qF,qG,qH,a1,a2,qFe,h60]
 ·refine ⟨1,fun n hn=>?_⟩
  obtain ⟨m,rfl,hm⟩:=up1 (n0:=0) hn
  have a1:(l.length:Int)<1:=by omega
  simp [-getElem?_pos,qBg,qC1,qC,qE,qJ,qK,qM,qN,zC,qF,qG,qH,a1,qFe,h1]
theorem qP9 (l:List Nd) (x1 d:Int) (f n:Nat) (hx:0≤x1∧x1<l.length) (hl:l.length≤140737488351232) (hd:0≤d∧d≤1000) (hk:(kd (ndi l x1)).length≤140737488351232)
  (hrec:∀y:Int,0≤y→y<x1→qAo n (l.map qb) y (d+1)=some (qCg (qF3 l) (qBb l) (qCA l) (qX l) f y)):
  ∀(j M:Nat) (s:Int),j≤(kd (ndi l x1)).length→j+1≤M→0≤s→s≤x1→
   zF (qAV (qAo n) n) M (l.map qb,x1,d,s,(j:Int)-1)=some (.inr (goF (qBb l) (qCA l) (qCg (qF3 l) (qBb l) (qCA l) (qX l) f) x1 ((qX l x1).take j).reverse s))∨
   (zF (qAV (qAo n) n) M (l.map qb,x1,d,s,(j:Int)-1)=some (.inl (-1))∧goF (qBb l) (qCA l) (qCg (qF3 l) (qBb l) (qCA l) (qX l) f) x1 ((qX l x1).take j).reverse s= -1)
 |0,0,s,h1,h2,h3,h4=>by omega
 |0,M+1,s,h1,h2,h3,h4=>by
  refine .inl ?_
  rw [qP (r:= .inr s) (by simp [-getElem?_pos,qAV,qC,qE,qJ,qK,qM,qN,zC,qF,qG,qH])]
  simp [goF]
 |j+1,0,s,h1,h2,h3,h4=>by omega
 |j+1,M+1,s,h1,h2,h3,h4=>by
  have hc:=qCu hx
  have hj:j<(kd (ndi l x1)).length:=by omega
  have hg:(qX l x1)[j]?=some (qX l x1)[j]:=ze hj
  have ih:=qP9 l x1 d f n hx hl hd hk hrec j M
  rw [qRC hg]
  generalize (qX l x1)[j]=k at hg
  have hi:(((j+1:Nat):Int)-1)=(j:Int):=by omega
  rw [hi,goF]
  have hg':(ndi l x1).2.2.2.2.2.2.2.2.2.2.2.2.2[j]?=some k:=hg
  have hj':j<(ndi l x1).2.2.2.2.2.2.2.2.2.2.2.2.2.length:=hj
  have hws:IntKind.i64.wrap (s-1)=s-1:=qU (by omega)
  by_cases hks:k=s-1
  ·by_cases hk0:k<0
   ·refine .inr ⟨?_,by rw [if_pos (.inr (.inl hk0))]⟩
    rw [qP (r:= .inl (-1)) (by simp [-getElem?_pos,qAV,qC,qE,qJ,qK,qM,qN,zC,qF,qG,qH,hc,hx,qBX,qBF,qAs,qAZ,qAa,qAb,qAc,qAd,qAe,qAf,qAg,qAh,qAi,qx,qy,qz,q7,hg',hj',hks,hws,show s-1<0 by omega])]
   ·have hws':IntKind.i64.wrap (s-1)=k:=by rw [hws,hks]
    have hkx:0≤k∧k<l.length:=by omega
    have hck:=qCu hkx
    by_cases hac:qBb l k=true∧qCA l x1=false
    ·have ha:(ndi l k).1=3:=by simpa [qBb] using hac.1
     have hb:¬(ndi l x1).1=6:=by simpa [qCA] using hac.2
     refine .inr ⟨?_,by rw [if_pos (.inr (.inr hac))]⟩
     rw [qP (r:= .inl (-1)) (by simp [-getElem?_pos,qAV,qC,qE,qJ,qK,qM,qN,zC,qF,qG,qH,hc,hx,qBX,qBF,qAs,qAZ,qAa,qAb,qAc,qAd,qAe,qAf,qAg,qAh,qAi,qx,qy,qz,q7,hg',hj',hws',hk0,hck,hkx,ha,hb])]
    ·have hr:=hrec k (by omega) (by omega)
     have hwd:IntKind.i64.wrap (d+1)=d+1:=qU (by omega)
     have hw2:IntKind.i64.wrap ((j:Int)-1)=(j:Int)-1:=qU (by omega)
     have hno:¬(k≠s-1∨k<0∨(qBb l k=true∧qCA l x1=false)):=fun h=>by
      rcases h with h|h|h
      ·exact h hks
      ·exact hk0 h
      ·exact hac h
     have hcase:¬(ndi l k).1=3∨((ndi l k).1=3∧(ndi l x1).1=6):=by
      by_cases ha:(ndi l k).1=3
      ·refine .inr ⟨ha,?_⟩
       refine Decidable.byContradiction fun hb=>hac ⟨by simp [qBb,ha],by simp [qCA,hb]⟩
      ·exact .inl ha
     rw [if_neg hno]
     by_cases ht:qCg (qF3 l) (qBb l) (qCA l) (qX l) f k<0
     ·refine .inr ⟨?_,by rw [if_pos ht]⟩
      rcases hcase with ha|⟨ha,hb⟩
      ·rw [qP (r:= .inl (-1)) (by simp [-getElem?_pos,qAV,qC,qE,qJ,qK,qM,qN,zC,qF,qG,qH,hc,hx,qBX,qBF,qAs,qAZ,qAa,qAb,qAc,qAd,qAe,qAf,qAg,qAh,qAi,qx,qy,qz,q7,hg',hj',hws',hk0,hck,hkx,ha,hwd,hr,ht])]
      ·rw [qP (r:= .inl (-1)) (by simp [-getElem?_pos,qAV,qC,qE,qJ,qK,qM,qN,zC,qF,qG,qH,hc,hx,qBX,qBF,qAs,qAZ,qAa,qAb,qAc,qAd,qAe,qAf,qAg,qAh,qAi,qx,qy,qz,q7,hg',hj',hws',hk0,hck,hkx,ha,hb,hwd,hr,ht])]
     ·rw [if_neg ht]
      have hb1:=(qQm (qF3 l) (qBb l) (qCA l) (qX l) f (k.toNat+1) k (by omega) (by omega) (by omega)).1
      have hstep:zF (qAV (qAo n) n) (M+1) (l.map qb,x1,d,s,(j:Int))=zF (qAV (qAo n) n) M (l.map qb,x1,d,qCg (qF3 l) (qBb l) (qCA l) (qX l) f k,(j:Int)-1):=by
       rcases hcase with ha|⟨ha,hb⟩
       ·rw [qT (v':=(l.map qb,x1,d,qCg (qF3 l) (qBb l) (qCA l) (qX l) f k,(j:Int)-1)) (by simp [-getElem?_pos,qAV,qC,qE,qJ,qK,qM,qN,zC,qF,qG,qH,hc,hx,qBX,qBF,qAs,qAZ,qAa,qAb,qAc,qAd,qAe,qAf,qAg,qAh,qAi,qx,qy,qz,q7,hg',hj',hws',hk0,hck,hkx,ha,hwd,hr,ht,hw2])]
       ·rw [qT (v':=(l.map qb,x1,d,qCg (qF3 l) (qBb l) (qCA l) (qX l) f k,(j:Int)-1)) (by simp [-getElem?_pos,qAV,qC,qE,qJ,qK,qM,qN,zC,qF,qG,qH,hc,hx,qBX,qBF,qAs,qAZ,qAa,qAb,qAc,qAd,qAe,qAf,qAg,qAh,qAi,qx,qy,qz,q7,hg',hj',hws',hk0,hck,hkx,ha,hb,hwd,hr,ht,hw2])]
      rw [hstep]
      exact ih _ (by omega) (by omega) (by omega) (by omega)
  ·refine .inr ⟨?_,by rw [if_pos (.inl hks)]⟩
   rw [qP (r:= .inl (-1)) (by simp [-getElem?_pos,qAV,qC,qE,qJ,qK,qM,qN,zC,qF,qG,qH,hc,hx,qBX,qBF,qAs,qAZ,qAa,qAb,qAc,qAd,qAe,qAf,qAg,qAh,qAi,qx,qy,qz,q7,hg',hj',hws,hks])]
theorem qL8 (l:List Nd) (hl:l.length≤140737488351232) (hk:∀c∈l,(kd c).length≤140737488351232∧c.2.2.2.2.1.size≤140737488351232):∀(f:Nat) (x d:Int),x<l.length→d=12-f→0≤d→Ev (qAo · (l.map qb) x d) (qCg (qF3 l) (qBb l) (qCA l) (qX l) f x)
 |0,x,d,h1,h2,h3=>by
  refine ⟨1,fun n hn=>?_⟩
  obtain ⟨m,rfl,hm⟩:=up1 (n0:=0) hn
  have a:d≥12:=by omega
  by_cases h:x<0<;>simp [-getElem?_pos,qAo,qFZ,qC,qE,qJ,qK,qM,qN,zC,qF,qG,qH,h,a,qCg]
 |f+1,x,d,h1,h2,h3=>by
  by_cases h0:x<0
  ·refine ⟨1,fun n hn=>?_⟩
   obtain ⟨m,rfl,hm⟩:=up1 (n0:=0) hn
   simp [-getElem?_pos,qAo,qFZ,qC,qE,qJ,qK,qM,qN,zC,qF,qG,qH,h0,qCg]
  ·have hx:0≤x∧x<l.length:=by omega
   have hc:=qCu hx
   have hm':=qIa hx
   obtain ⟨n0,hn0⟩:=qRD (F:=fun y n=>qAo n (l.map qb) y (d+1)) (f:=fun y=>qCg (qF3 l) (qBb l) (qCA l) (qX l) f y) x (fun y h3 h4=>qL8 l hl hk f y (d+1) (by omega) (by omega) (by omega))
   obtain ⟨n1,g1⟩:=qPv (ndi l x) (hk _ hm').2
   refine ⟨n0+n1+(kd (ndi l x)).length+5,fun n hn=>?_⟩
   obtain ⟨m,rfl,hm⟩:=up1 hn
   have g1:=g1 m (by omega)
   have h:=qP9 l x d f m hx hl (by omega) (hk _ hm').1 (hn0 m (by omega)) (kd (ndi l x)).length m x (Nat.le_refl _) (by omega) (by omega) (by omega)
   have e:(qX l x).take (kd (ndi l x)).length=qX l x:=List.take_length
   rw [e] at h
   have hw2:IntKind.i64.wrap (((kd (ndi l x)).length:Int)-1)=((kd (ndi l x)).length:Int)-1:=by
    have:=(hk _ hm').1
    exact qU (by omega)
   have a:¬d≥12:=by omega
   unfold kd at h hw2
   dsimp only at g1⊢
   simp only [qAo,qFZ,qCg,qC,qE,qJ,qK,qM,qN,zC,qF,qG,qH]
   cases hnb:qE0 (ndi l x) with
   |false=>
    rw [hnb] at g1
    simp [-getElem?_pos,qC,qE,qJ,qK,qM,qN,zC,qF,qG,qH,h0,a,hc,hx,qBX,qBF,qAs,qAZ,qAa,qAb,qAc,qAd,qAe,qAf,qAg,qAh,qAi,qx,qy,qz,q7,g1,qF3,hnb]
   |true=>
    rw [hnb] at g1
    rcases h with h|⟨h,h'⟩
    ·simp [-getElem?_pos,qC,qE,qJ,qK,qM,qN,zC,qF,qG,qH,h0,a,hc,hx,qBX,qBF,qAs,qAZ,qAa,qAb,qAc,qAd,qAe,qAf,qAg,qAh,qAi,qx,qy,qz,q7,g1,qF3,hnb,hw2,h]
    ·simp only [h']
     simp [-getElem?_pos,qC,qE,qJ,qK,qM,qN,zC,qF,qG,qH,h0,a,hc,hx,qBX,qBF,qAs,qAZ,qAa,qAb,qAc,qAd,qAe,qAf,qAg,qAh,qAi,qx,qy,qz,q7,g1,qF3,hnb,hw2,h]
theorem qTA {l:List Nd}:qFe l=(decide (1≤l.length∧l.length≤60)&&(!qBb l ((l.length:Int)-1)&&decide (qCg (qF3 l) (qBb l) (qCA l) (qX l) 12 ((l.length:Int)-1)=0))):=by
 rw [Bool.eq_iff_iff]
 unfold qFe
 simp only [Bool.and_eq_true,decide_eq_true_eq]
 constructor
 ·intro ⟨h1,h2,h3,h4,h5⟩
  refine ⟨h1,h4,?_⟩
  rw [qSK (qF3 l) (qBb l) (qCA l) (qX l) 12 l.length l.length ((l.length:Int)-1) (by omega) (by omega) (by omega) (fun i i0 i1=>qFd.1 h2 i i0 (by omega)) (by omega) (by simpa using h5)]
  exact h3
 ·intro ⟨h1,h4,h5⟩
  obtain ⟨b1,b2,b3,b4⟩:=qQm (qF3 l) (qBb l) (qCA l) (qX l) 12 l.length ((l.length:Int)-1) (by omega) (by omega) (by omega)
  rw [h5] at b2 b3
  refine ⟨h1,qFd.2 (fun i i0 i1=>b3 i i0 (by omega)),b2,h4,?_⟩
  have:=b4 l.length (fun i i0 i1=>(b3 i i0 i1).2) (by omega)
  simpa using this
theorem qHF (l:List Nd) (hl:l.length≤140737488351232) (hk:∀c∈l,(kd c).length≤140737488351232∧c.2.2.2.2.1.size≤140737488351232):Ev (qBm · (l.map qb)) (qFe l):=by
 rw [qTA]
 by_cases h:1≤l.length∧l.length≤60
 ·obtain ⟨n1,g1⟩:=qL8 l hl hk 12 ((l.length:Int)-1) 0 (by omega) (by omega) (by omega)
  obtain ⟨n2,g2⟩:=qAI (l.length:Int) 1 60
  refine ⟨n1+n2+1,fun n hn=>?_⟩
  obtain ⟨m,rfl,hm⟩:=up1 hn
  have g1:=g1 m (by omega)
  have g2:=g2 m (by omega)
  dsimp only at g1 g2⊢
  have hw:IntKind.i64.wrap ((l.length:Int)-1)=(l.length:Int)-1:=qU (by omega)
  have hx:0≤(l.length:Int)-1∧(l.length:Int)-1<l.length:=by omega
  have hc:=qCu hx
  have h':(1:Int)≤l.length∧(l.length:Int)≤60:=by omega
  generalize hxe:(l.length:Int)-1=x at hw hx hc g1⊢
  by_cases ha:(ndi l x).1=3
  ·simp [-getElem?_pos,qBm,qC6,qC,qE,qJ,qK,qM,qN,zC,qF,qG,qH,hxe,g2,h',hw,hx,hc,qBX,qBF,qAs,qAZ,qAa,qAb,qAc,qAd,qAe,qAf,qAg,qAh,qAi,qx,qy,qz,q7,ha,qBb]
  ·by_cases hf:qCg (qF3 l) (qBb l) (qCA l) (qX l) 12 x=0<;>simp [-getElem?_pos,qBm,qC6,qC,qE,qJ,qK,qM,qN,zC,qF,qG,qH,hxe,g1,g2,h,h',hw,hx,hc,qBX,qBF,qAs,qAZ,qAa,qAb,qAc,qAd,qAe,qAf,qAg,qAh,qAi,qx,qy,qz,q7,ha,qBb,hf]
 ·obtain ⟨n2,g2⟩:=qAI (l.length:Int) 1 60
  refine ⟨n2+1,fun n hn=>?_⟩
  obtain ⟨m,rfl,hm⟩:=up1 hn
  have g2:=g2 m (by omega)
  dsimp only at g2⊢
  have h':¬((1:Int)≤l.length∧(l.length:Int)≤60):=by omega
  simp [-getElem?_pos,qBm,qC6,qC,qE,qJ,qK,qM,qN,zC,qF,qG,qH,g2,h,h']
def qBe (l:List UInt8):List UInt8:=l.flatMap fun c=>if c=34 then [34,34] else [c]
def qNE (s:BA):BA:=⟨(34::qBe s.toList++ [34]).toArray⟩
theorem qGl (c:UInt8) (l:List UInt8):qBe (c::l)=(if c=34 then [34,34] else [c])++qBe l:=by simp [qBe]
theorem qQA (l r:List UInt8):qBe (l++r)=qBe l++qBe r:=by simp [qBe]
theorem qIB:∀l:List UInt8,(qBe l).length≤2*l.length
 | []=>by simp [qBe]
 |c::l=>by
  have:=qIB l
  rw [qGl]
  by_cases h:c=34<;>simp [h]<;>omega
theorem qKt:∀s:List UInt8,Lib.replaceK [34] [34,34] (Lib.count s [34]) s=qBe s
 | []=>by
  rw [Lib.count_miss (by rfl)]
  rfl
 |b::l=>by
  have ih:=qKt l
  by_cases hb:b=34
  ·subst hb
   have h0:Lib.index (34::l) [34]=((0:Nat):Int):=by simp [Lib.index,List.isPrefixOf]
   rw [Lib.count_hit (by simp) h0,Nat.add_comm,Lib.replaceK_hit _ _ _ _ 0 h0]
   simp only [List.take_zero,List.nil_append,Nat.zero_add,List.length_singleton,List.drop_succ_cons,List.drop_zero]
   rw [ih,qGl,if_pos rfl]
  ·have hix:Lib.index (b::l) [34]=if Lib.index l [34]== -1 then-1 else Lib.index l [34]+1:=by
    have:((34:UInt8)==b)=false:=by simpa using fun e=>hb e.symm
    simp [Lib.index,List.isPrefixOf,this]
   rw [qGl,if_neg hb]
   by_cases hm:Lib.index l [34]= -1
   ·rw [hm] at hix
    rw [Lib.count_miss hm] at ih
    rw [Lib.count_miss (by rw [hix];rfl)]
    rw [Lib.replaceK] at ih⊢
    rw [←ih]
    rfl
   ·have hge:=Lib.index_ge l [34]
    obtain ⟨i,hi⟩:∃i:Nat,Lib.index l [34]=i:=⟨(Lib.index l [34]).toNat,by omega⟩
    have hix':Lib.index (b::l) [34]=((i+1:Nat):Int):=by
     rw [hix,if_neg (by simp [hm]),hi]
     omega
    rw [Lib.count_hit (by simp) hi,Nat.add_comm,Lib.replaceK_hit _ _ _ _ i hi] at ih
    rw [Lib.count_hit (by simp) hix',Nat.add_comm,Lib.replaceK_hit _ _ _ _ (i+1) hix']
    rw [←ih]
    simp only [List.length_singleton,List.take_succ_cons,List.drop_succ_cons,List.cons_append,List.singleton_append,List.nil_append]
theorem qNF (s:List UInt8):Lib.replaceAll s [34] [34,34]=qBe s:=by
 have h1:(([34]:List UInt8)== [34,34])=false:=by decide
 have h2:Lib.replaceNum s [34] (-1)=Lib.count s [34]:=by unfold Lib.replaceNum;rw [if_pos (.inl (by decide))]
 unfold Lib.replaceAll Lib.replace
 rw [h1,h2]
 exact qKt s
theorem zGK {s:BA} {i:Nat} {c:UInt8} (h:s.toList[i]?=some c):s.extract i (i+1)=⟨#[c]⟩:=by
 apply qG7
 rw [Go.Lib.toList_data] at h
 rw [ByteArray.data_extract,Array.toList_extract]
 show (s.data.toList.drop i).take (i+1-i)=_
 rw [qEU h,Nat.add_sub_cancel_left]
 rfl
theorem qRo (n:Nat) (s A:BA) (i:Nat) (c:UInt8) (hg:s.toList[i]?=some c) (hi:i<s.size) (hA:A.size≤10000) (hs:s.size≤1000):
  (qBS n (s,A,(i:Int))).run=some (.inl (s,if c=34 then (A++⟨#[34]⟩)++⟨#[c]⟩ else A++⟨#[c]⟩,((i+1:Nat):Int))):=by
 have hi':(i:Int)<s.size:=by omega
 have w1:IntKind.i64.wrap ((i:Int)+1)=((i+1:Nat):Int):=by rw [qU (by omega)];omega
 have hx:=zGK hg
 have d1:(⟨#[34]⟩:BA).size=1:=rfl
 have d2:(⟨#[c]⟩:BA).size=1:=rfl
 have y1:(0:Int)≤(i:Int)∧(i:Int)≤((i+1:Nat):Int)∧((i+1:Nat):Int)≤s.size:=by omega
 have y0:(0:Int)≤(i:Int):=by omega
 have z1:A.size+(⟨#[34]⟩:BA).size≤9223372036854775807:=by omega
 have z2:(A++(⟨#[34]⟩:BA)).size+(⟨#[c]⟩:BA).size≤9223372036854775807:=by rw [zh];omega
 have z3:A.size+(⟨#[c]⟩:BA).size≤9223372036854775807:=by omega
 by_cases hc:c=34
 ·have hb:((c.toNat:Int)==(34:Int))=true:=by rw [hc];rfl
  rw [if_pos hc]
  simp only [qBS,qC,qE,qJ,qK,qM,qN,zC,qF,qG,qH,zD hi',zD y0,Int.toNat_natCast,hg,hb,zD z1,w1,zD y1,hx,zD z2,if_true]
 ·have hb:((c.toNat:Int)==(34:Int))=false:=by
   have:c.toNat≠34:=fun e=>hc (UInt8.toNat_inj.1 e)
   simp
   omega
  simp only [qBS,qC,qE,qJ,qK,qM,qN,zC,qF,qG,qH,zD hi',zD y0,Int.toNat_natCast,hg,hb,w1,zD y1,hx,zD z3,if_true,hc,if_false,Bool.false_eq_true]
theorem qPA (n:Nat) (s:BA) (hs:s.size≤1000):∀(r pre:List UInt8) (M:Nat),s.toList=pre++r→r.length+1≤M→
  zF (qBS n) M (s,⟨(34::qBe pre).toArray⟩,(pre.length:Int))=some ⟨(34::qBe s.toList).toArray⟩
 |r,pre,0,h1,h2=>by omega
 | [],pre,M+1,h1,h2=>by
  have hi:¬(pre.length:Int)<s.size:=by rw [qBw,h1];simp
  rw [h1,List.append_nil]
  generalize (⟨(34::qBe pre).toArray⟩:BA)=A
  rw [qP (r:=A) (by simp [qBS,qC,qE,qJ,qK,qM,qN,zC,qF,qG,qH,hi])]
 |c::r,pre,M+1,h1,h2=>by
  have hl:s.size=pre.length+(r.length+1):=by rw [qBw,h1];simp
  have hg:s.toList[pre.length]?=some c:=by rw [h1];simp
  have hq:=qIB pre
  have hA:(⟨(34::qBe pre).toArray⟩:BA).size≤10000:=by
   rw [qCt]
   simp
   omega
  rw [qT (qRo n s _ pre.length c hg (by omega) hA hs)]
  have e:(if c=34 then ((⟨(34::qBe pre).toArray⟩:BA)++⟨#[34]⟩)++⟨#[c]⟩ else (⟨(34::qBe pre).toArray⟩:BA)++⟨#[c]⟩)=⟨(34::qBe (pre++ [c])).toArray⟩:=by
   apply qG7
   by_cases hc:c=34
   ·rw [if_pos hc,qDJ,qDJ,qQA,qGl,if_pos hc,hc]
    simp [qBe]
   ·rw [if_neg hc,qDJ,qQA,qGl,if_neg hc]
    simp [qBe]
  rw [e]
  have h:=qPA n s hs r (pre++ [c]) M (by rw [h1];simp) (by simp at h2;omega)
  rw [show ((pre++ [c]).length:Int)=((pre.length+1:Nat):Int) by simp] at h
  exact h
theorem qRp (s:BA):(qNE s).size≤2*s.size+2:=by
 have:=qIB s.toList
 rw [qu] at this
 rw [qCt]
 simp [qNE]
 omega
theorem qOE (s:BA) (hs:s.size≤1000):Ev (qEf · s) (qNE s):=by
 refine ⟨s.size+5,fun n hn=>?_⟩
 obtain ⟨m,rfl,hm⟩:=up1 hn
 have h:=qPA m s hs s.toList [] m rfl (by rw [qu];omega)
 simp only [List.length_nil,Int.natCast_zero] at h
 have e0:(⟨(34::qBe []).toArray⟩:BA)=⟨#[34]⟩:=rfl
 rw [e0] at h
 have hz:(⟨(34::qBe s.toList).toArray⟩:BA).size+(⟨#[34]⟩:BA).size≤9223372036854775807:=by
  have:=qIB s.toList
  rw [qu] at this
  have d1:(⟨#[34]⟩:BA).size=1:=rfl
  rw [qCt,d1]
  simp
  omega
 simp only [qEf,qGJ,qC,qE,qJ,qK,qM,qN,zC,qF,qG,qH,h,zD hz,if_true]
 congr 1
theorem qPw (s:BA) (hs:s.size≤1000):Ev (qDe · s ⟨#[34]⟩ ⟨#[34,34]⟩) ⟨(qBe s.toList).toArray⟩:=by
 refine ⟨1,fun n hn=>?_⟩
 obtain ⟨m,rfl,hm⟩:=up1 (n0:=0) hn
 show zAC s ⟨#[34]⟩ ⟨#[34,34]⟩=_
 have hc:=Lib.countB_mul_le (⟨#[34]⟩:BA) (by decide) s.size s (Nat.le_refl _)
 have d1:(⟨#[34]⟩:BA).size=1:=rfl
 have d2:(⟨#[34,34]⟩:BA).size=2:=rfl
 unfold zAC
 rw [d1] at hc
 rw [if_pos (by rw [d1,d2];omega)]
 congr 3
 rw [←Go.Lib.toList_data]
 exact qNF _
def lvl (op:Int):Int:=if op≥6 then 1 else if op=5 then 2 else if op≥3 then 4 else 3
theorem qRq (op:Int):1≤lvl op∧lvl op≤4:=by
 unfold lvl
 split
 ·omega
 ·split
  ·omega
  ·split<;>omega
theorem qI5 (op:Int):Ev (qCH · op) (lvl op):=by
 refine ⟨1,fun n hn=>?_⟩
 obtain ⟨m,rfl,hm⟩:=up1 hn
 simp only [qCH,qGF,qC,qE,qJ,qK,qM,qN,zC,qF,qG,qH]
 unfold lvl
 by_cases h1:op≥6
 ·simp [h1]
 ·by_cases h2:op=5
  ·simp [h2]
  ·by_cases h3:op≥3<;>simp [h1,h2,h3]
theorem qTk {op:Int} (h:1≤op∧op≤11):op=1∨op=2∨op=3∨op=4∨op=5∨op=6∨op=7∨op=8∨op=9∨op=10∨op=11:=by omega
theorem qKu (op:Int) (h:1≤op∧op≤11):Ev (qDp · op) (lvl op):=by
 refine ⟨1,fun n hn=>?_⟩
 obtain ⟨m,rfl,hm⟩:=up1 hn
 simp only [qDp,qIR,qC,qE,qJ,qK,qM,qN,zC,qF,qG,qH]
 rcases qTk h with rfl|rfl|rfl|rfl|rfl|rfl|rfl|rfl|rfl|rfl|rfl<;>rfl
def qAO (op:Int):BA:=if op=1 then ⟨#[43]⟩ else if op=2 then ⟨#[45]⟩ else if op=3 then ⟨#[42]⟩ else if op=4 then ⟨#[47]⟩ else if op=5 then ⟨#[38]⟩ else if op=6 then ⟨#[61]⟩ else if op=7 then ⟨#[60,62]⟩ else if op=8 then ⟨#[60]⟩ else if op=9 then ⟨#[60,61]⟩ else if op=10 then ⟨#[62]⟩ else ⟨#[62,61]⟩
def fnS (op:Int):BA:=if op=1 then ⟨#[83,85,77]⟩ else if op=2 then ⟨#[77,73,78]⟩ else if op=3 then ⟨#[77,65,88]⟩ else if op=4 then ⟨#[67,79,85,78,84]⟩ else if op=5 then ⟨#[73,70]⟩ else if op=6 then ⟨#[65,78,68]⟩ else if op=7 then ⟨#[79,82]⟩ else if op=8 then ⟨#[78,79,84]⟩ else if op=9 then ⟨#[65,66,83]⟩ else ⟨#[76,69,78]⟩
theorem qLU {op:Int} (h:1≤op∧op≤11):(qAO op).size≤2:=by
 rcases qTk h with rfl|rfl|rfl|rfl|rfl|rfl|rfl|rfl|rfl|rfl|rfl<;>decide
theorem qPB {op:Int} (h:1≤op∧op≤10):(fnS op).size≤5:=by
 rcases ten h with rfl|rfl|rfl|rfl|rfl|rfl|rfl|rfl|rfl|rfl<;>decide
theorem qJy (op:Int) (h:1≤op∧op≤11):Ev (qCj · op) (qAO op):=by
 refine ⟨1,fun n hn=>?_⟩
 obtain ⟨m,rfl,hm⟩:=up1 hn
 simp only [qCj,qHM,qC,qE,qJ,qK,qM,qN,zC,qF,qG,qH]
 rcases qTk h with rfl|rfl|rfl|rfl|rfl|rfl|rfl|rfl|rfl|rfl|rfl<;>rfl
theorem qGm (op:Int) (h:1≤op∧op≤11):Ev (qBO · op) (qAO op):=by
 refine ⟨1,fun n hn=>?_⟩
 obtain ⟨m,rfl,hm⟩:=up1 hn
 simp only [qBO,qHX,qC,qE,qJ,qK,qM,qN,zC,qF,qG,qH]
 rcases qTk h with rfl|rfl|rfl|rfl|rfl|rfl|rfl|rfl|rfl|rfl|rfl<;>rfl
theorem qL9 (op:Int) (h:1≤op∧op≤10):Ev (qCV · op) (fnS op):=by
 refine ⟨1,fun n hn=>?_⟩
 obtain ⟨m,rfl,hm⟩:=up1 hn
 simp only [qCV,qJQ,qC,qE,qJ,qK,qM,qN,zC,qF,qG,qH]
 rcases ten h with rfl|rfl|rfl|rfl|rfl|rfl|rfl|rfl|rfl|rfl<;>rfl
theorem qJz (op:Int) (h:1≤op∧op≤10):Ev (qB9 · op) (fnS op):=by
 refine ⟨1,fun n hn=>?_⟩
 obtain ⟨m,rfl,hm⟩:=up1 hn
 simp only [qB9,qHW,qC,qE,qJ,qK,qM,qN,zC,qF,qG,qH]
 rcases ten h with rfl|rfl|rfl|rfl|rfl|rfl|rfl|rfl|rfl|rfl<;>rfl
def qPC (xs:List BA):BA:=⟨(Lib.join (xs.map (·.data.toList)) [44]).toArray⟩
def par (b:Bool) (s:BA):BA:=if b=true then ((⟨#[40]⟩:BA)++s)++⟨#[41]⟩ else s
def kid (c:Nd) (j:Nat):Int:=(kd c).getD j 0
def qt (l:List Nd):Nat→Int→Int→BA
 |0,_,_=>⟨#[]⟩
 |f+1,i,t=>
  if (ndi l i).1=1 then (if (ndi l i).2.2.1=2 then qNE (ndi l i).2.2.2.2.1 else qB4 (ndi l i).2.2.1 (ndi l i).2.2.2.1 (ndi l i).2.2.2.2.1)
  else if (ndi l i).1=2 then qAY (ndi l i).2.2.2.2.2.1 (ndi l i).2.2.2.2.2.2.1 (ndi l i).2.2.2.2.2.2.2.1 (ndi l i).2.2.2.2.2.2.2.2.1
  else if (ndi l i).1=3 then (qAY (ndi l i).2.2.2.2.2.1 (ndi l i).2.2.2.2.2.2.1 (ndi l i).2.2.2.2.2.2.2.1 (ndi l i).2.2.2.2.2.2.2.2.1++⟨#[58]⟩)++qAY (ndi l i).2.2.2.2.2.2.2.2.2.1 (ndi l i).2.2.2.2.2.2.2.2.2.2.1 (ndi l i).2.2.2.2.2.2.2.2.2.2.2.1 (ndi l i).2.2.2.2.2.2.2.2.2.2.2.2.1
  else if (ndi l i).1=4 then (⟨#[45]⟩:BA)++qt l f (kid (ndi l i) 0) 5
  else if (ndi l i).1=5 then par (decide (lvl (ndi l i).2.1<t)) ((qt l f (kid (ndi l i) 0) (lvl (ndi l i).2.1)++qAO (ndi l i).2.1)++qt l f (kid (ndi l i) 1) (lvl (ndi l i).2.1+1))
  else ((fnS (ndi l i).2.1++⟨#[40]⟩)++qPC ((qX l i).map fun k=>qt l f k 1))++⟨#[41]⟩
theorem qSN (l:List Nd) (f:Nat) (i:Int):qt l f i 0=qt l f i 1:=by
 cases f with
 |zero=>rfl
 |succ f=>
  have h:=qRq (ndi l i).2.1
  have e:decide (lvl (ndi l i).2.1<0)=decide (lvl (ndi l i).2.1<1):=by
   rw [zx (by omega),zx (by omega)]
  simp only [qt,e]
theorem qJ0 {c:Nd} (h:qE0 c=true):(c.1=1∧okV c.2.2.1 c.2.2.2.1 c.2.2.2.2.1=true)∨c.1=2∨c.1=3∨(c.1=4∧(kd c).length=1)∨(c.1=5∧(1≤c.2.1∧c.2.1≤11)∧(kd c).length=2)∨(c.1=6∧(1≤c.2.1∧c.2.1≤10)∧(1≤(kd c).length∧(kd c).length≤10)):=by
 unfold qE0 at h
 by_cases k1:c.1=1
 ·rw [if_pos k1] at h
  simp only [Bool.and_eq_true] at h
  exact .inl ⟨k1,h.2.2.2.2.1⟩
 rw [if_neg k1] at h
 by_cases k2:c.1=2
 ·exact .inr (.inl k2)
 rw [if_neg k2] at h
 by_cases k3:c.1=3
 ·exact .inr (.inr (.inl k3))
 rw [if_neg k3] at h
 by_cases k4:c.1=4
 ·rw [if_pos k4] at h
  simp only [Bool.and_eq_true,decide_eq_true_eq] at h
  exact .inr (.inr (.inr (.inl ⟨k4,h.2.2.2.2⟩)))
 rw [if_neg k4] at h
 by_cases k5:c.1=5
 ·rw [if_pos k5] at h
  simp only [Bool.and_eq_true,decide_eq_true_eq] at h
  exact .inr (.inr (.inr (.inr (.inl ⟨k5,h.1,h.2.2.2.2⟩))))
 rw [if_neg k5] at h
 by_cases k6:c.1=6
 ·rw [if_pos k6] at h
  simp only [Bool.and_eq_true] at h
  have ha:=h.1
  unfold qH9 at ha
  refine .inr (.inr (.inr (.inr (.inr ⟨k6,?_⟩))))
  by_cases h5:c.2.1=5
  ·rw [if_pos h5] at ha
   have:=of_decide_eq_true ha
   omega
  ·rw [if_neg h5] at ha
   by_cases h8:8≤c.2.1∧c.2.1≤10
   ·rw [if_pos h8] at ha
    have:=of_decide_eq_true ha
    omega
   ·rw [if_neg h8] at ha
    by_cases h1:1≤c.2.1∧c.2.1≤7
    ·rw [if_pos h1] at ha
     have:=of_decide_eq_true ha
     omega
    ·rw [if_neg h1] at ha
     cases ha
 ·rw [if_neg k6] at h
  cases h
def szB:Nat→Nat
 |0=>37
 |f+1=>11*szB f
theorem qTl:∀f:Fin 13,szB f.val≤120000000000000:=by decide
theorem qTB {f:Nat} (h:f≤12):szB f≤120000000000000:=qTl ⟨f,by omega⟩
theorem qTC:∀f:Nat,37≤szB f
 |0=>Nat.le_refl _
 |f+1=>by have:=qTC f;simp only [szB];omega
theorem qKv (x:List UInt8) (r:List (List UInt8)) (sep:List UInt8):Lib.joinTail sep (x::r)=sep++x++Lib.joinTail sep r:=by simp [Lib.joinTail]
theorem qMA:∀(xs:List BA) (b:Nat),(∀x∈xs,x.size≤b)→(Lib.joinTail [44] (xs.map (·.data.toList))).length≤xs.length*(b+1)
 | [],b,h=>by simp [Lib.joinTail]
 |x::r,b,h=>by
  have ih:=qMA r b fun y hy=>h y (List.mem_cons_of_mem _ hy)
  have hx:=h x (List.mem_cons_self ..)
  rw [qCt] at hx
  rw [List.map_cons,qKv,List.length_append,List.length_append,List.length_singleton,List.length_cons,Nat.add_mul]
  omega
theorem qLV {xs:List BA} {b:Nat} (h:∀x∈xs,x.size≤b):(qPC xs).size≤xs.length*(b+1):=by
 rw [qCt]
 show (Lib.join (xs.map (·.data.toList)) [44]).length≤_
 cases xs with
 |nil=>simp [Lib.join_nil]
 |cons x r=>
  have h1:=qMA r b fun y hy=>h y (List.mem_cons_of_mem _ hy)
  have hx:=h x (List.mem_cons_self ..)
  rw [qCt] at hx
  rw [List.map_cons,Lib.join_cons,List.length_append,List.length_cons,Nat.add_mul]
  omega
structure Fine (l:List Nd):Prop where
 len:l.length≤60
 own:∀i:Int,0≤i→i<l.length→qF3 l i=true∧qGk (qBb l) (qCA l) (qX l) i
 sz:∀c∈l,(kd c).length≤140737488351232∧c.2.2.2.2.1.size≤140737488351232
theorem Fine.kid {l:List Nd} (h:Fine l) {f:Nat} {i k:Int} (hi:0≤i∧i<l.length) (hd:qA3 (qX l) (i.toNat+1) i≤(f+1:Nat)) (hk:k∈qX l i):(0≤k∧k<l.length)∧qA3 (qX l) (k.toNat+1) k≤f:=by
 have hin:=(h.own i hi.1 hi.2).2 k hk
 have h1:=(qO8 (qX l) (n:=i) (b:=((f+1:Nat):Int)) (f:=i.toNat) (by omega)).1 hd k hk
 refine ⟨by omega,?_⟩
 rw [qO9 (qBb l) (qCA l) (qX l) (k.toNat+1) i.toNat k (by omega) (by omega) (fun j j0 j1=>(h.own j j0 (by omega)).2) (by omega)]
 omega
theorem qNG {l:List Nd} (h:Fine l):∀(f:Nat) (i t:Int),f≤12→(0≤i∧i<l.length)→qA3 (qX l) (i.toNat+1) i≤f→(qt l f i t).size≤szB f
 |0,i,t,hf,hi,hd=>by show (⟨#[]⟩:BA).size≤_;exact Nat.zero_le _
 |f+1,i,t,hf,hi,hd=>by
  have ih:=fun k hk t'=>qNG h f k t' (by omega) (h.kid hi hd hk).1 (h.kid hi hd hk).2
  have hs:=qTC f
  have hp:∀a b c d,(qAY a b c d).size≤30:=qDi
  have hz:=(h.sz _ (qIa hi)).2
  have d1:(⟨#[58]⟩:BA).size=1:=rfl
  have d2:(⟨#[45]⟩:BA).size=1:=rfl
  have d3:(⟨#[40]⟩:BA).size=1:=rfl
  have d4:(⟨#[41]⟩:BA).size=1:=rfl
  have hk0:∀j,j<(kd (ndi l i)).length→kid (ndi l i) j∈qX l i:=fun j hj=>by
   unfold kid
   rw [List.getD_eq_getElem?_getD,ze hj]
   exact List.getElem_mem hj
  rw [szB,qt]
  rcases qJ0 (h.own i hi.1 hi.2).1 with ⟨k,hv⟩|k|k|⟨k,hk⟩|⟨k,ho,hk⟩|⟨k,ho,hk⟩
  ·rw [if_pos k]
   by_cases k2:(ndi l i).2.2.1=2
   ·rw [if_pos k2]
    rw [k2] at hv
    have:=(qP2 hv).2.1
    have:=qRp (ndi l i).2.2.2.2.1
    omega
   ·rw [if_neg k2]
    have:=qRn hv
    omega
  ·rw [if_neg (by omega),if_pos k]
   have:=hp (ndi l i).2.2.2.2.2.1 (ndi l i).2.2.2.2.2.2.1 (ndi l i).2.2.2.2.2.2.2.1 (ndi l i).2.2.2.2.2.2.2.2.1
   omega
  ·rw [if_neg (by omega),if_neg (by omega),if_pos k,zh,zh]
   have h1:=hp (ndi l i).2.2.2.2.2.1 (ndi l i).2.2.2.2.2.2.1 (ndi l i).2.2.2.2.2.2.2.1 (ndi l i).2.2.2.2.2.2.2.2.1
   have h2:=hp (ndi l i).2.2.2.2.2.2.2.2.2.1 (ndi l i).2.2.2.2.2.2.2.2.2.2.1 (ndi l i).2.2.2.2.2.2.2.2.2.2.2.1 (ndi l i).2.2.2.2.2.2.2.2.2.2.2.2.1
   omega
  ·rw [if_neg (by omega),if_neg (by omega),if_neg (by omega),if_pos k,zh]
   have:=ih _ (hk0 0 (by omega)) 5
   omega
  ·rw [if_neg (by omega),if_neg (by omega),if_neg (by omega),if_neg (by omega),if_pos k]
   have h1:=ih _ (hk0 0 (by omega)) (lvl (ndi l i).2.1)
   have h2:=ih _ (hk0 1 (by omega)) (lvl (ndi l i).2.1+1)
   have h3:=qLU ho
   unfold par
   split
   ·rw [zh,zh,zh,zh]
    omega
   ·rw [zh,zh]
    omega
  ·rw [if_neg (by omega),if_neg (by omega),if_neg (by omega),if_neg (by omega),if_neg (by omega)]
   rw [zh,zh,zh]
   have h1:=qPB ho
   have h2:=qLV (xs:=(qX l i).map fun k=>qt l f k 1) (b:=szB f) (fun x hx=>by
    obtain ⟨k,hk,rfl⟩:=List.mem_map.1 hx
    exact ih k hk 1)
   have h3:(qX l i).length≤10:=hk.2
   have h4:(qX l i).length*(szB f+1)≤10*(szB f+1):=Nat.mul_le_mul_right _ h3
   rw [List.length_map] at h2
   omega
abbrev R14:=Int×Int×Int×Int×BA×Int×Int×Bool×Bool×Int×Int×Bool×Bool×List (List PV)
theorem qPD (rec:List (List PV)→Int→Int→Option BA) (n:Nat) (rows:List (List PV)) (A t:BA) (R:R14) (i:Nat) (k:Int) (hg:R.2.2.2.2.2.2.2.2.2.2.2.2.2[i]?=some (qBB k)) (hr:rec rows k 0=some t) (hA:A.size≤2000000000000000) (ht:t.size≤120000000000000) (hi:i≤1000):
  (qBT rec n (rows,A,(i:Int),R)).run=some (.inl (rows,(if i=0 then A++t else (A++(⟨#[44]⟩:BA))++t),((i+1:Nat):Int),R)):=by
 obtain ⟨a0,a1,a2,a3,a4,a5,a6,a7,a8,a9,a10,a11,a12,a13⟩:=R
 have hl:i<a13.length:=(List.getElem?_eq_some_iff.1 hg).1
 have h1:(i:Int)<(a13.length:Int):=by omega
 have h2:0≤(i:Int)∧(i:Int)<(a13.length:Int):=by omega
 have w1:IntKind.i64.wrap ((i:Int)+1)=((i+1:Nat):Int):=by rw [qU (by omega)];omega
 have d1:(⟨#[44]⟩:BA).size=1:=rfl
 have z1:A.size+(⟨#[44]⟩:BA).size≤9223372036854775807:=by omega
 have z2:(A++(⟨#[44]⟩:BA)).size+t.size≤9223372036854775807:=by rw [zh];omega
 have z3:A.size+t.size≤9223372036854775807:=by omega
 by_cases h0:i=0
 ·subst h0
  simp only [qBT,qC,qE,qJ,qK,qM,qN,zC,qF,qG,qH,zD h1,Int.natCast_zero,gt_iff_lt,Int.lt_irrefl,decide_false,Bool.false_eq_true,if_false,if_true] at*
  simp only [zD h1,zD h2,if_true,Int.toNat_zero,hg,zC,qBF,qAs,decide_true,hr,zD z3,w1]
 ·have hp:(i:Int)>0:=by omega
  simp only [qBT,qC,qE,qJ,qK,qM,qN,zC,qF,qG,qH,zD h1,zD hp,if_true,zD z1,zD h2,Int.toNat_natCast,hg,qBF,qAs,decide_true,hr,zD z2,w1,h0,if_false]
theorem qQB (l:List Nd) (f n:Nat) (R:R14) (b:Nat) (hb:b≤120000000000000) (ks:List Int) (hks:R.2.2.2.2.2.2.2.2.2.2.2.2.2=ks.map qBB) (hk10:ks.length≤10)
  (hr:∀k∈ks,ql n (l.map qb) k 0=some (qt l f k 1)∧(qt l f k 1).size≤b):
  ∀(r pre:List Int) (A:BA) (M:Nat),ks=pre++r→r.length+1≤M→A.size≤100+pre.length*(b+1)→
   zF (qBT (ql n) n) M (l.map qb,A,(pre.length:Int),R)=some ⟨(A.data.toList++(if pre.length=0 then Lib.join (r.map fun k=>(qt l f k 1).data.toList) [44] else Lib.joinTail [44] (r.map fun k=>(qt l f k 1).data.toList))).toArray⟩
 |r,pre,A,0,h1,h2,h3=>by omega
 | [],pre,A,M+1,h1,h2,h3=>by
  obtain ⟨a0,a1,a2,a3,a4,a5,a6,a7,a8,a9,a10,a11,a12,a13⟩:=R
  simp only at hks
  subst hks
  have hi:¬(pre.length:Int)<((ks.map qBB).length:Int):=by rw [List.length_map,h1];simp
  rw [qP (r:=A) (by simp only [qBT,qC,qE,qJ,qK,qM,qN,zC,qF,qG,qH,zx hi,Bool.false_eq_true,if_false])]
  congr 1
  apply qG7
  simp [Lib.joinTail,Lib.join_nil]
 |k::r,pre,A,M+1,h1,h2,h3=>by
  have hm:k∈ks:=by rw [h1];simp
  obtain ⟨g1,g2⟩:=hr k hm
  have hpl:pre.length+(r.length+1)=ks.length:=by rw [h1];simp
  have hmul:pre.length*(b+1)≤10*(b+1):=Nat.mul_le_mul_right _ (by omega)
  have hg:R.2.2.2.2.2.2.2.2.2.2.2.2.2[pre.length]?=some (qBB k):=by rw [hks,h1,List.getElem?_map];simp
  rw [qT (qPD (ql n) n (l.map qb) A (qt l f k 1) R pre.length k hg g1 (by omega) (by omega) (by omega))]
  have h:=qQB l f n R b hb ks hks hk10 hr r (pre++ [k]) (if pre.length=0 then A++qt l f k 1 else (A++(⟨#[44]⟩:BA))++qt l f k 1) M (by rw [h1];simp) (by simp at h2;omega) (by
   have d1:(⟨#[44]⟩:BA).size=1:=rfl
   rw [List.length_append,List.length_singleton,Nat.add_mul]
   split
   ·rw [zh];omega
   ·rw [zh,zh];omega)
  rw [show ((pre++ [k]).length:Int)=((pre.length+1:Nat):Int) by simp] at h
  rw [h]
  congr 1
  apply qG7
  have e:(pre++ [k]).length≠0:=by simp
  simp only [if_neg e]
  by_cases h0:pre.length=0
  ·simp only [if_pos h0,qDJ,List.map_cons,Lib.join_cons,List.append_assoc]
  ·simp only [if_neg h0,qDJ,List.map_cons,qKv,List.append_assoc,List.cons_append,List.nil_append]
set_option maxHeartbeats 4000000 in
theorem qKe {l:List Nd} (h:Fine l) (f:Nat) (i t:Int) (hf:f+1≤12) (hx:0≤i∧i<l.length) (hd:qA3 (qX l) (i.toNat+1) i≤(f+1:Nat)) (ih:∀k∈qX l i,∀t',Ev (ql · (l.map qb) k t') (qt l f k t')):Ev (ql · (l.map qb) i t) (qt l (f+1) i t):=by
  have ih:=fun k hk t'=>ih k hk t'
  have isz:=fun k hk t'=>qNG h f k t' (by omega) (h.kid hx hd hk).1 (h.kid hx hd hk).2
  have hs:=qTB (f:=f) (by omega)
  have hcr:(l.map qb)[i.toNat]?=some (qb (ndi l i)):=by rw [List.getElem?_map,qCu hx];rfl
  have hxb:0≤i∧i<((l.map qb).length:Int):=by rw [List.length_map];exact hx
  have hz:=(h.sz _ (qIa hx)).2
  have hp:∀a b c d,(qAY a b c d).size≤30:=qDi
  have d1:(⟨#[58]⟩:BA).size=1:=rfl
  have d2:(⟨#[45]⟩:BA).size=1:=rfl
  have d3:(⟨#[40]⟩:BA).size=1:=rfl
  have d4:(⟨#[41]⟩:BA).size=1:=rfl
  have hk0:∀j,j<(kd (ndi l i)).length→kid (ndi l i) j∈qX l i∧(List.map qBB (ndi l i).2.2.2.2.2.2.2.2.2.2.2.2.2)[j]?=some (qBB (kid (ndi l i) j)):=fun j hj=>by
   unfold kid
   rw [List.getD_eq_getElem?_getD,ze hj]
   refine ⟨List.getElem_mem hj,?_⟩
   rw [List.getElem?_map]
   show ((kd (ndi l i))[j]?).map qBB=_
   rw [ze hj]
   rfl
  have hkl:(List.map qBB (ndi l i).2.2.2.2.2.2.2.2.2.2.2.2.2).length=(kd (ndi l i)).length:=by rw [List.length_map];rfl
  rcases qJ0 (h.own i hx.1 hx.2).1 with ⟨k,hv⟩|k|k|⟨k,hk⟩|⟨k,ho,hk⟩|⟨k,ho,hk⟩
  ·by_cases k2:(ndi l i).2.2.1=2
   ·have hv2:okV 2 (ndi l i).2.2.2.1 (ndi l i).2.2.2.2.1=true:=by rw [←k2];exact hv
    obtain ⟨n1,g1⟩:=qOE (ndi l i).2.2.2.2.1 (by have:=(qP2 hv2).2.1;omega)
    refine ⟨n1+1,fun n hn=>?_⟩
    obtain ⟨m,rfl,hm⟩:=up1 hn
    have g1:=g1 m (by omega)
    dsimp only at g1⊢
    show (qBq (ql m) m (l.map qb) i t).run=_
    refine qD (zD hxb) (qA hcr (qD rfl (qA (qAZ _) (qA (qAa _) (qA (qAb _) (qA (qAc _) (qA (qAd _) (qA (qAe _) (qA (qAf _) (qA (qAg _) (qA (qAh _) (qA (qAi _) (qA (qx _) (qA (qy _) (qA (qz _) (qA (q7 _) ?_))))))))))))))))
    refine qD (by rw [k];rfl) (qD (by rw [k2];rfl) (qA g1 ?_))
    rw [qC,qt,if_pos k,if_pos k2]
   ·obtain ⟨n1,g1⟩:=qDV (ndi l i).2.2.1 (ndi l i).2.2.2.1 (ndi l i).2.2.2.2.1 hz
    have kb:((ndi l i).2.2.1==(2:Int))=false:=by simpa using k2
    refine ⟨n1+1,fun n hn=>?_⟩
    obtain ⟨m,rfl,hm⟩:=up1 hn
    have g1:=g1 m (by omega)
    rw [hv] at g1
    dsimp only at g1⊢
    simp only [if_true] at g1
    show (qBq (ql m) m (l.map qb) i t).run=_
    refine qD (zD hxb) (qA hcr (qD rfl (qA (qAZ _) (qA (qAa _) (qA (qAb _) (qA (qAc _) (qA (qAd _) (qA (qAe _) (qA (qAf _) (qA (qAg _) (qA (qAh _) (qA (qAi _) (qA (qx _) (qA (qy _) (qA (qz _) (qA (q7 _) ?_))))))))))))))))
    refine qD (by rw [k];rfl) (qO kb (qA g1 ?_))
    rw [qC,qt,if_pos k,if_neg k2]
  ·obtain ⟨n1,g1⟩:=qDW (ndi l i).2.2.2.2.2.1 (ndi l i).2.2.2.2.2.2.1 (ndi l i).2.2.2.2.2.2.2.1 (ndi l i).2.2.2.2.2.2.2.2.1
   refine ⟨n1+1,fun n hn=>?_⟩
   obtain ⟨m,rfl,hm⟩:=up1 hn
   have g1:=g1 m (by omega)
   dsimp only at g1⊢
   show (qBq (ql m) m (l.map qb) i t).run=_
   refine qD (zD hxb) (qA hcr (qD rfl (qA (qAZ _) (qA (qAa _) (qA (qAb _) (qA (qAc _) (qA (qAd _) (qA (qAe _) (qA (qAf _) (qA (qAg _) (qA (qAh _) (qA (qAi _) (qA (qx _) (qA (qy _) (qA (qz _) (qA (q7 _) ?_))))))))))))))))
   refine qO (by rw [k];rfl) (qD (by rw [k];rfl) (qA g1 ?_))
   rw [qC,qt,if_neg (by omega),if_pos k]
  ·obtain ⟨n1,g1⟩:=qDW (ndi l i).2.2.2.2.2.1 (ndi l i).2.2.2.2.2.2.1 (ndi l i).2.2.2.2.2.2.2.1 (ndi l i).2.2.2.2.2.2.2.2.1
   obtain ⟨n2,g2⟩:=qDW (ndi l i).2.2.2.2.2.2.2.2.2.1 (ndi l i).2.2.2.2.2.2.2.2.2.2.1 (ndi l i).2.2.2.2.2.2.2.2.2.2.2.1 (ndi l i).2.2.2.2.2.2.2.2.2.2.2.2.1
   have h1:=hp (ndi l i).2.2.2.2.2.1 (ndi l i).2.2.2.2.2.2.1 (ndi l i).2.2.2.2.2.2.2.1 (ndi l i).2.2.2.2.2.2.2.2.1
   have h2:=hp (ndi l i).2.2.2.2.2.2.2.2.2.1 (ndi l i).2.2.2.2.2.2.2.2.2.2.1 (ndi l i).2.2.2.2.2.2.2.2.2.2.2.1 (ndi l i).2.2.2.2.2.2.2.2.2.2.2.2.1
   have z1:(qAY (ndi l i).2.2.2.2.2.1 (ndi l i).2.2.2.2.2.2.1 (ndi l i).2.2.2.2.2.2.2.1 (ndi l i).2.2.2.2.2.2.2.2.1).size+(⟨#[58]⟩:BA).size≤9223372036854775807:=by omega
   have z2:(qAY (ndi l i).2.2.2.2.2.1 (ndi l i).2.2.2.2.2.2.1 (ndi l i).2.2.2.2.2.2.2.1 (ndi l i).2.2.2.2.2.2.2.2.1++(⟨#[58]⟩:BA)).size+(qAY (ndi l i).2.2.2.2.2.2.2.2.2.1 (ndi l i).2.2.2.2.2.2.2.2.2.2.1 (ndi l i).2.2.2.2.2.2.2.2.2.2.2.1 (ndi l i).2.2.2.2.2.2.2.2.2.2.2.2.1).size≤9223372036854775807:=by rw [zh];omega
   refine ⟨n1+n2+1,fun n hn=>?_⟩
   obtain ⟨m,rfl,hm⟩:=up1 hn
   have g1:=g1 m (by omega)
   have g2:=g2 m (by omega)
   dsimp only at g1 g2⊢
   show (qBq (ql m) m (l.map qb) i t).run=_
   refine qD (zD hxb) (qA hcr (qD rfl (qA (qAZ _) (qA (qAa _) (qA (qAb _) (qA (qAc _) (qA (qAd _) (qA (qAe _) (qA (qAf _) (qA (qAg _) (qA (qAh _) (qA (qAi _) (qA (qx _) (qA (qy _) (qA (qz _) (qA (q7 _) ?_))))))))))))))))
   refine qO (by rw [k];rfl) (qO (by rw [k];rfl) (qD (by rw [k];rfl) (qA g1 (qD (zD z1) (qA g2 (qD (zD z2) ?_))))))
   rw [qC,qt,if_neg (by omega),if_neg (by omega),if_pos k]
  ·obtain ⟨m0,c0⟩:=hk0 0 (by omega)
   obtain ⟨n1,g1⟩:=ih _ m0 5
   have h1:=isz _ m0 5
   have z1:(⟨#[45]⟩:BA).size+(qt l f (kid (ndi l i) 0) 5).size≤9223372036854775807:=by omega
   have y1:(0:Int)≤(0:Int)∧(0:Int)<((List.map qBB (ndi l i).2.2.2.2.2.2.2.2.2.2.2.2.2).length:Int):=by rw [hkl];omega
   refine ⟨n1+1,fun n hn=>?_⟩
   obtain ⟨m,rfl,hm⟩:=up1 hn
   have g1:=g1 m (by omega)
   dsimp only at g1⊢
   have e0:((0:Int)).toNat=0:=rfl
   show (qBq (ql m) m (l.map qb) i t).run=_
   refine qD (zD hxb) (qA hcr (qD rfl (qA (qAZ _) (qA (qAa _) (qA (qAb _) (qA (qAc _) (qA (qAd _) (qA (qAe _) (qA (qAf _) (qA (qAg _) (qA (qAh _) (qA (qAi _) (qA (qx _) (qA (qy _) (qA (qz _) (qA (q7 _) ?_))))))))))))))))
   refine qO (by rw [k];rfl) (qO (by rw [k];rfl) (qO (by rw [k];rfl) (qD (by rw [k];rfl) (qD (zD y1) (qA c0 (qD rfl (qA (qAs _) (qA g1 (qD (zD z1) ?_)))))))))
   rw [qC,qt,if_neg (by omega),if_neg (by omega),if_neg (by omega),if_pos k]
  ·obtain ⟨m0,c0⟩:=hk0 0 (by omega)
   obtain ⟨m1,c1⟩:=hk0 1 (by omega)
   have hlv:=qRq (ndi l i).2.1
   obtain ⟨n1,g1⟩:=ih _ m0 (lvl (ndi l i).2.1)
   obtain ⟨n2,g2⟩:=ih _ m1 (lvl (ndi l i).2.1+1)
   obtain ⟨n3,g3⟩:=qI5 (ndi l i).2.1
   obtain ⟨n4,g4⟩:=qJy (ndi l i).2.1 ho
   have h1:=isz _ m0 (lvl (ndi l i).2.1)
   have h2:=isz _ m1 (lvl (ndi l i).2.1+1)
   have h3:=qLU ho
   have hw:IntKind.i64.wrap (lvl (ndi l i).2.1+1)=lvl (ndi l i).2.1+1:=qU (by omega)
   have y1:(0:Int)≤(0:Int)∧(0:Int)<((List.map qBB (ndi l i).2.2.2.2.2.2.2.2.2.2.2.2.2).length:Int):=by rw [hkl];omega
   have y2:(0:Int)≤(1:Int)∧(1:Int)<((List.map qBB (ndi l i).2.2.2.2.2.2.2.2.2.2.2.2.2).length:Int):=by rw [hkl];omega
   refine ⟨n1+n2+n3+n4+1,fun n hn=>?_⟩
   obtain ⟨m,rfl,hm⟩:=up1 hn
   have g1:=g1 m (by omega)
   have g2:=g2 m (by omega)
   have g3:=g3 m (by omega)
   have g4:=g4 m (by omega)
   dsimp only at g1 g2 g3 g4⊢
   have e0:((0:Int)).toNat=0:=rfl
   have e1:((1:Int)).toNat=1:=rfl
   show (qBq (ql m) m (l.map qb) i t).run=_
   refine qD (zD hxb) (qA hcr (qD rfl (qA (qAZ _) (qA (qAa _) (qA (qAb _) (qA (qAc _) (qA (qAd _) (qA (qAe _) (qA (qAf _) (qA (qAg _) (qA (qAh _) (qA (qAi _) (qA (qx _) (qA (qy _) (qA (qz _) (qA (q7 _) ?_))))))))))))))))
   have z1:(qt l f (kid (ndi l i) 0) (lvl (ndi l i).2.1)).size+(qAO (ndi l i).2.1).size≤9223372036854775807:=by omega
   have z2:(qt l f (kid (ndi l i) 0) (lvl (ndi l i).2.1)++qAO (ndi l i).2.1).size+(qt l f (kid (ndi l i) 1) (lvl (ndi l i).2.1+1)).size≤9223372036854775807:=by rw [zh];omega
   have z3:(⟨#[40]⟩:BA).size+((qt l f (kid (ndi l i) 0) (lvl (ndi l i).2.1)++qAO (ndi l i).2.1)++qt l f (kid (ndi l i) 1) (lvl (ndi l i).2.1+1)).size≤9223372036854775807:=by rw [zh,zh];omega
   have z4:((⟨#[40]⟩:BA)++((qt l f (kid (ndi l i) 0) (lvl (ndi l i).2.1)++qAO (ndi l i).2.1)++qt l f (kid (ndi l i) 1) (lvl (ndi l i).2.1+1))).size+(⟨#[41]⟩:BA).size≤9223372036854775807:=by rw [zh,zh,zh];omega
   have g2:ql m (l.map qb) (kid (ndi l i) 1) (IntKind.i64.wrap (lvl (ndi l i).2.1+1))=some (qt l f (kid (ndi l i) 1) (lvl (ndi l i).2.1+1)):=by rw [hw];exact g2
   refine qO (by rw [k];rfl) (qO (by rw [k];rfl) (qO (by rw [k];rfl) (qO (by rw [k];rfl) (qD (by rw [k];rfl) (qA g3 (qD (zD y1) (qA c0 (qD rfl (qA (qAs _) (qD (zD y2) (qA c1 (qD rfl (qA (qAs _) (qA g1 (qA g4 (qD (zD z1) (qA g2 (qD (zD z2) ?_))))))))))))))))))
   rw [qt,if_neg (by omega),if_neg (by omega),if_neg (by omega),if_neg (by omega),if_pos k]
   unfold par
   by_cases ht:lvl (ndi l i).2.1<t
   ·refine qD (zD ht) (qD (zD z3) (qD (zD z4) ?_))
    rw [qC,if_pos (zD ht)]
   ·refine qO (zx ht) ?_
    rw [qC,if_neg (by simpa using ht)]
  ·obtain ⟨n0,g0⟩:=qAt (F:=fun k n=>ql n (l.map qb) k 0) (f:=fun k=>qt l f k 1) (qX l i) (fun k hk=>by
    have:=ih k hk 0
    rw [qSN] at this
    exact this)
   obtain ⟨n1,g1⟩:=qL9 (ndi l i).2.1 ho
   have h1:=qPB ho
   refine ⟨n0+n1+20,fun n hn=>?_⟩
   obtain ⟨m,rfl,hm⟩:=up1 hn
   have g0:=g0 m (by omega)
   have g1:=g1 m (by omega)
   have hj:=qQB l f m ((ndi l i).1,(ndi l i).2.1,(ndi l i).2.2.1,(ndi l i).2.2.2.1,(ndi l i).2.2.2.2.1,(ndi l i).2.2.2.2.2.1,(ndi l i).2.2.2.2.2.2.1,(ndi l i).2.2.2.2.2.2.2.1,(ndi l i).2.2.2.2.2.2.2.2.1,(ndi l i).2.2.2.2.2.2.2.2.2.1,(ndi l i).2.2.2.2.2.2.2.2.2.2.1,(ndi l i).2.2.2.2.2.2.2.2.2.2.2.1,(ndi l i).2.2.2.2.2.2.2.2.2.2.2.2.1,(kd (ndi l i)).map qBB) (szB f) hs (kd (ndi l i)) rfl hk.2 (fun k hk=>⟨g0 k hk,isz k hk 1⟩) (kd (ndi l i)) [] (fnS (ndi l i).2.1++(⟨#[40]⟩:BA)) m rfl (by omega) (by rw [zh];omega)
   simp only [List.length_nil,Int.natCast_zero,if_true] at hj
   have hjs:=qLV (xs:=(qX l i).map fun k=>qt l f k 1) (b:=szB f) (fun x hx=>by
    obtain ⟨k,hk,rfl⟩:=List.mem_map.1 hx
    exact isz k hk 1)
   have h3:(qX l i).length≤10:=hk.2
   have h4:(qX l i).length*(szB f+1)≤10*(szB f+1):=Nat.mul_le_mul_right _ h3
   rw [List.length_map] at hjs
   have ej:(⟨((fnS (ndi l i).2.1++(⟨#[40]⟩:BA)).data.toList++Lib.join ((kd (ndi l i)).map fun k=>(qt l f k 1).data.toList) [44]).toArray⟩:BA)=(fnS (ndi l i).2.1++(⟨#[40]⟩:BA))++qPC ((qX l i).map fun k=>qt l f k 1):=by
    apply qG7
    rw [qDJ]
    simp [qPC,qX,Function.comp_def]
   rw [ej] at hj
   obtain ⟨J,hJ⟩:∃J,qPC ((qX l i).map fun k=>qt l f k 1)=J:=⟨_,rfl⟩
   rw [hJ] at hj hjs
   have z1:(fnS (ndi l i).2.1).size+(⟨#[40]⟩:BA).size≤9223372036854775807:=by omega
   have z2:((fnS (ndi l i).2.1++(⟨#[40]⟩:BA))++J).size+(⟨#[41]⟩:BA).size≤9223372036854775807:=by rw [zh,zh];omega
   unfold kd at hj
   dsimp only at g1⊢
   show (qBq (ql m) m (l.map qb) i t).run=_
   refine qD (zD hxb) (qA hcr (qD rfl (qA (qAZ _) (qA (qAa _) (qA (qAb _) (qA (qAc _) (qA (qAd _) (qA (qAe _) (qA (qAf _) (qA (qAg _) (qA (qAh _) (qA (qAi _) (qA (qx _) (qA (qy _) (qA (qz _) (qA (q7 _) ?_))))))))))))))))
   refine qO (by rw [k];rfl) (qO (by rw [k];rfl) (qO (by rw [k];rfl) (qO (by rw [k];rfl) (qO (by rw [k];rfl) (qA g1 (qD (zD z1) (qA hj (qD (zD z2) ?_))))))))
   rw [qC,qt,if_neg (by omega),if_neg (by omega),if_neg (by omega),if_neg (by omega),if_neg (by omega),hJ]
theorem qJ1 {l:List Nd} (h:Fine l):∀(f:Nat) (i t:Int),f≤12→(0≤i∧i<l.length)→qA3 (qX l) (i.toNat+1) i≤f→Ev (ql · (l.map qb) i t) (qt l f i t)
 |0,i,t,hf,hx,hd=>by
  have:=qNC (qX l) (i.toNat+1) i hx.1 (by omega)
  omega
 |f+1,i,t,hf,hx,hd=>qKe h f i t hf hx hd fun k hk t'=>qJ1 h f k t' (by omega) (h.kid hx hd hk).1 (h.kid hx hd hk).2
theorem qSj:∀f:Fin 12,szB f.val≤12000000000000:=by decide
theorem qTD {f:Nat} (h:f≤11):szB f≤12000000000000:=qSj ⟨f,by omega⟩
theorem qRE:∀xs:List BA,zCA (xs.map fun x=> [PV.s x])=some xs
 | []=>rfl
 |x::r=>by simp only [List.map_cons,zCA,qRE r,Option.map_some]
theorem qQC (rec:List (List PV)→Int→Int→Option BA) (n:Nat) (rows:List (List PV)) (T:Int→BA) (a0 a1 a2 a3:Int) (a4:BA) (a5 a6:Int) (a7 a8:Bool) (a9 a10:Int) (a11 a12:Bool) (a13:List (List PV)) (ks:List Int) (hk10:ks.length≤10)
  (hr:∀k∈ks,rec rows k 1=some (T k)):
  ∀(r pre:List Int) (M:Nat),ks=pre++r→r.length+1≤M→
   zF (qBW rec n) M (rows,pre.length,ks.map qBB,((ks.map qBB).length:Int),(pre.length:Int),a0,a1,a2,a3,a4,a5,a6,a7,a8,a9,a10,a11,a12,a13,pre.map fun k=> [PV.s (T k)])=some (ks.length,a0,a1,a2,a3,a4,a5,a6,a7,a8,a9,a10,a11,a12,a13,ks.map fun k=> [PV.s (T k)])
 |r,pre,0,h1,h2=>by omega
 | [],pre,M+1,h1,h2=>by
  have hi:¬(pre.length:Int)<((ks.map qBB).length:Int):=by rw [List.length_map,h1];simp
  have e:pre=ks:=by rw [h1];simp
  rw [qP (r:=(pre.length,a0,a1,a2,a3,a4,a5,a6,a7,a8,a9,a10,a11,a12,a13,pre.map fun k=> [PV.s (T k)])) (by simp only [qBW,qC,qE,qJ,qK,qM,qN,zC,qF,qG,qH,zx hi,Bool.false_eq_true,if_false])]
  rw [e]
 |k::r,pre,M+1,h1,h2=>by
  have hm:k∈ks:=by rw [h1];simp
  have g1:=hr k hm
  have hpl:pre.length+(r.length+1)=ks.length:=by rw [h1];simp
  have hg:(ks.map qBB)[pre.length]?=some (qBB k):=by rw [h1,List.getElem?_map];simp
  have hi:(pre.length:Int)<((ks.map qBB).length:Int):=by rw [List.length_map];omega
  have h3:0≤(pre.length:Int)∧(pre.length:Int)<((ks.map qBB).length:Int):=by omega
  have w1:IntKind.i64.wrap ((pre.length:Int)+1)=((pre.length+1:Nat):Int):=by rw [qU (by omega)];omega
  have hc:pre.length=(pre.map fun k=> [PV.s (T k)]).length∧0<1∧0<16∧(pre.length+([[PV.s (T k)]]:List (List PV)).length)*16≤140737488355328∧([[PV.s (T k)]]:List (List PV)).all (fun e=>e.length==1)=true:=by
   refine ⟨by simp,by decide,by decide,?_,rfl⟩
   rw [List.length_singleton]
   omega
  have h1l:decide (1=([[PV.s (T k)]]:List (List PV)).length)=true:=rfl
  rw [qT (v':=(rows,pre.length+1,ks.map qBB,((ks.map qBB).length:Int),((pre.length+1:Nat):Int),a0,a1,a2,a3,a4,a5,a6,a7,a8,a9,a10,a11,a12,a13,(pre.map fun k=> [PV.s (T k)])++ [[PV.s (T k)]])) (by
   simp only [qBW,qC,qE,qJ,qK,qM,qN,zC,qF,qG,qH,zD hi,if_true,zD h3,Int.toNat_natCast,hg,qBF,qAs,decide_true,g1,h1l,zD hc,w1])]
  have h:=qQC rec n rows T a0 a1 a2 a3 a4 a5 a6 a7 a8 a9 a10 a11 a12 a13 ks hk10 hr r (pre++ [k]) M (by rw [h1];simp) (by simp at h2;omega)
  simp only [List.map_append,List.map_cons,List.map_nil,List.length_append,List.length_singleton] at h⊢
  exact h
set_option maxHeartbeats 4000000 in
theorem qHd {l:List Nd} (h:Fine l) (f:Nat) (i t:Int) (hf:f+1≤12) (hx:0≤i∧i<l.length) (hd:qA3 (qX l) (i.toNat+1) i≤(f+1:Nat)) (ih:∀k∈qX l i,∀t',Ev (qa · (l.map qb) k t') (qt l f k t')):Ev (qa · (l.map qb) i t) (qt l (f+1) i t):=by
  have ih:=fun k hk t'=>ih k hk t'
  have isz:=fun k hk t'=>qNG h f k t' (by omega) (h.kid hx hd hk).1 (h.kid hx hd hk).2
  have hs:=qTB (f:=f) (by omega)
  have hcr:(l.map qb)[i.toNat]?=some (qb (ndi l i)):=by rw [List.getElem?_map,qCu hx];rfl
  have hxb:0≤i∧i<((l.map qb).length:Int):=by rw [List.length_map];exact hx
  have hz:=(h.sz _ (qIa hx)).2
  have hp:∀a b c d,(qAY a b c d).size≤30:=qDi
  have d1:(⟨#[58]⟩:BA).size=1:=rfl
  have d2:(⟨#[45]⟩:BA).size=1:=rfl
  have d3:(⟨#[40]⟩:BA).size=1:=rfl
  have d4:(⟨#[41]⟩:BA).size=1:=rfl
  have hk0:∀j,j<(kd (ndi l i)).length→kid (ndi l i) j∈qX l i∧(List.map qBB (ndi l i).2.2.2.2.2.2.2.2.2.2.2.2.2)[j]?=some (qBB (kid (ndi l i) j)):=fun j hj=>by
   unfold kid
   rw [List.getD_eq_getElem?_getD,ze hj]
   refine ⟨List.getElem_mem hj,?_⟩
   rw [List.getElem?_map]
   show ((kd (ndi l i))[j]?).map qBB=_
   rw [ze hj]
   rfl
  have hkl:(List.map qBB (ndi l i).2.2.2.2.2.2.2.2.2.2.2.2.2).length=(kd (ndi l i)).length:=by rw [List.length_map];rfl
  rcases qJ0 (h.own i hx.1 hx.2).1 with ⟨k,hv⟩|k|k|⟨k,hk⟩|⟨k,ho,hk⟩|⟨k,ho,hk⟩
  ·by_cases k2:(ndi l i).2.2.1=2
   ·have hv2:okV 2 (ndi l i).2.2.2.1 (ndi l i).2.2.2.2.1=true:=by rw [←k2];exact hv
    have hq:=(qP2 hv2).2.1
    obtain ⟨n1,g1⟩:=qPw (ndi l i).2.2.2.2.1 (by omega)
    have h1:=qIB (ndi l i).2.2.2.2.1.toList
    rw [qu] at h1
    have h2:(⟨(qBe (ndi l i).2.2.2.2.1.toList).toArray⟩:BA).size=(qBe (ndi l i).2.2.2.2.1.toList).length:=by rw [qCt]
    have e:((⟨#[34]⟩:BA)++⟨(qBe (ndi l i).2.2.2.2.1.toList).toArray⟩)++(⟨#[34]⟩:BA)=qNE (ndi l i).2.2.2.2.1:=by
     apply qG7
     rw [qDJ,qDJ]
     simp [qNE]
    have d5:(⟨#[34]⟩:BA).size=1:=rfl
    refine ⟨n1+1,fun n hn=>?_⟩
    obtain ⟨m,rfl,hm⟩:=up1 hn
    have g1:=g1 m (by omega)
    dsimp only at g1⊢
    obtain ⟨q,hqe⟩:∃q,(⟨(qBe (ndi l i).2.2.2.2.1.toList).toArray⟩:BA)=q:=⟨_,rfl⟩
    rw [hqe] at g1 h2 e
    have z1:(⟨#[34]⟩:BA).size+q.size≤9223372036854775807:=by omega
    have z2:((⟨#[34]⟩:BA)++q).size+(⟨#[34]⟩:BA).size≤9223372036854775807:=by rw [zh];omega
    show (qAq (qa m) m (l.map qb) i t).run=_
    refine qD (zD hxb) (qA hcr (qD rfl (qA (qAZ _) (qA (qAa _) (qA (qAb _) (qA (qAc _) (qA (qAd _) (qA (qAe _) (qA (qAf _) (qA (qAg _) (qA (qAh _) (qA (qAi _) (qA (qx _) (qA (qy _) (qA (qz _) (qA (q7 _) ?_))))))))))))))))
    refine qD (by rw [k];rfl) (qD (by rw [k2];rfl) (qA g1 (qD (zD z1) (qD (zD z2) ?_))))
    rw [qC,qt,if_pos k,if_pos k2,e]
   ·obtain ⟨n1,g1⟩:=qG9 (ndi l i).2.2.1 (ndi l i).2.2.2.1 (ndi l i).2.2.2.2.1 hv
    have kb:((ndi l i).2.2.1==(2:Int))=false:=by simpa using k2
    refine ⟨n1+1,fun n hn=>?_⟩
    obtain ⟨m,rfl,hm⟩:=up1 hn
    have g1:=g1 m (by omega)
    dsimp only at g1⊢
    show (qAq (qa m) m (l.map qb) i t).run=_
    refine qD (zD hxb) (qA hcr (qD rfl (qA (qAZ _) (qA (qAa _) (qA (qAb _) (qA (qAc _) (qA (qAd _) (qA (qAe _) (qA (qAf _) (qA (qAg _) (qA (qAh _) (qA (qAi _) (qA (qx _) (qA (qy _) (qA (qz _) (qA (q7 _) ?_))))))))))))))))
    refine qD (by rw [k];rfl) (qO kb (qA g1 ?_))
    rw [qC,qt,if_pos k,if_neg k2]
  ·obtain ⟨n1,g1⟩:=qCf (ndi l i).2.2.2.2.2.1 (ndi l i).2.2.2.2.2.2.1 (ndi l i).2.2.2.2.2.2.2.1 (ndi l i).2.2.2.2.2.2.2.2.1
   refine ⟨n1+1,fun n hn=>?_⟩
   obtain ⟨m,rfl,hm⟩:=up1 hn
   have g1:=g1 m (by omega)
   dsimp only at g1⊢
   show (qAq (qa m) m (l.map qb) i t).run=_
   refine qD (zD hxb) (qA hcr (qD rfl (qA (qAZ _) (qA (qAa _) (qA (qAb _) (qA (qAc _) (qA (qAd _) (qA (qAe _) (qA (qAf _) (qA (qAg _) (qA (qAh _) (qA (qAi _) (qA (qx _) (qA (qy _) (qA (qz _) (qA (q7 _) ?_))))))))))))))))
   refine qO (by rw [k];rfl) (qD (by rw [k];rfl) (qA g1 ?_))
   rw [qC,qt,if_neg (by omega),if_pos k]
  ·obtain ⟨n1,g1⟩:=qCf (ndi l i).2.2.2.2.2.1 (ndi l i).2.2.2.2.2.2.1 (ndi l i).2.2.2.2.2.2.2.1 (ndi l i).2.2.2.2.2.2.2.2.1
   obtain ⟨n2,g2⟩:=qCf (ndi l i).2.2.2.2.2.2.2.2.2.1 (ndi l i).2.2.2.2.2.2.2.2.2.2.1 (ndi l i).2.2.2.2.2.2.2.2.2.2.2.1 (ndi l i).2.2.2.2.2.2.2.2.2.2.2.2.1
   have h1:=hp (ndi l i).2.2.2.2.2.1 (ndi l i).2.2.2.2.2.2.1 (ndi l i).2.2.2.2.2.2.2.1 (ndi l i).2.2.2.2.2.2.2.2.1
   have h2:=hp (ndi l i).2.2.2.2.2.2.2.2.2.1 (ndi l i).2.2.2.2.2.2.2.2.2.2.1 (ndi l i).2.2.2.2.2.2.2.2.2.2.2.1 (ndi l i).2.2.2.2.2.2.2.2.2.2.2.2.1
   have z1:(qAY (ndi l i).2.2.2.2.2.1 (ndi l i).2.2.2.2.2.2.1 (ndi l i).2.2.2.2.2.2.2.1 (ndi l i).2.2.2.2.2.2.2.2.1).size+(⟨#[58]⟩:BA).size≤9223372036854775807:=by omega
   have z2:(qAY (ndi l i).2.2.2.2.2.1 (ndi l i).2.2.2.2.2.2.1 (ndi l i).2.2.2.2.2.2.2.1 (ndi l i).2.2.2.2.2.2.2.2.1++(⟨#[58]⟩:BA)).size+(qAY (ndi l i).2.2.2.2.2.2.2.2.2.1 (ndi l i).2.2.2.2.2.2.2.2.2.2.1 (ndi l i).2.2.2.2.2.2.2.2.2.2.2.1 (ndi l i).2.2.2.2.2.2.2.2.2.2.2.2.1).size≤9223372036854775807:=by rw [zh];omega
   refine ⟨n1+n2+1,fun n hn=>?_⟩
   obtain ⟨m,rfl,hm⟩:=up1 hn
   have g1:=g1 m (by omega)
   have g2:=g2 m (by omega)
   dsimp only at g1 g2⊢
   show (qAq (qa m) m (l.map qb) i t).run=_
   refine qD (zD hxb) (qA hcr (qD rfl (qA (qAZ _) (qA (qAa _) (qA (qAb _) (qA (qAc _) (qA (qAd _) (qA (qAe _) (qA (qAf _) (qA (qAg _) (qA (qAh _) (qA (qAi _) (qA (qx _) (qA (qy _) (qA (qz _) (qA (q7 _) ?_))))))))))))))))
   refine qO (by rw [k];rfl) (qO (by rw [k];rfl) (qD (by rw [k];rfl) (qA g1 (qD (zD z1) (qA g2 (qD (zD z2) ?_))))))
   rw [qC,qt,if_neg (by omega),if_neg (by omega),if_pos k]
  ·obtain ⟨m0,c0⟩:=hk0 0 (by omega)
   obtain ⟨n1,g1⟩:=ih _ m0 5
   have h1:=isz _ m0 5
   have z1:(⟨#[45]⟩:BA).size+(qt l f (kid (ndi l i) 0) 5).size≤9223372036854775807:=by omega
   have y1:(0:Int)≤(0:Int)∧(0:Int)<((List.map qBB (ndi l i).2.2.2.2.2.2.2.2.2.2.2.2.2).length:Int):=by rw [hkl];omega
   refine ⟨n1+1,fun n hn=>?_⟩
   obtain ⟨m,rfl,hm⟩:=up1 hn
   have g1:=g1 m (by omega)
   dsimp only at g1⊢
   have e0:((0:Int)).toNat=0:=rfl
   show (qAq (qa m) m (l.map qb) i t).run=_
   refine qD (zD hxb) (qA hcr (qD rfl (qA (qAZ _) (qA (qAa _) (qA (qAb _) (qA (qAc _) (qA (qAd _) (qA (qAe _) (qA (qAf _) (qA (qAg _) (qA (qAh _) (qA (qAi _) (qA (qx _) (qA (qy _) (qA (qz _) (qA (q7 _) ?_))))))))))))))))
   refine qO (by rw [k];rfl) (qO (by rw [k];rfl) (qO (by rw [k];rfl) (qD (by rw [k];rfl) (qD (zD y1) (qA c0 (qD rfl (qA (qAs _) (qA g1 (qD (zD z1) ?_)))))))))
   rw [qC,qt,if_neg (by omega),if_neg (by omega),if_neg (by omega),if_pos k]
  ·obtain ⟨m0,c0⟩:=hk0 0 (by omega)
   obtain ⟨m1,c1⟩:=hk0 1 (by omega)
   have hlv:=qRq (ndi l i).2.1
   obtain ⟨n1,g1⟩:=ih _ m0 (lvl (ndi l i).2.1)
   obtain ⟨n2,g2⟩:=ih _ m1 (lvl (ndi l i).2.1+1)
   obtain ⟨n3,g3⟩:=qKu (ndi l i).2.1 ho
   obtain ⟨n4,g4⟩:=qGm (ndi l i).2.1 ho
   have h1:=isz _ m0 (lvl (ndi l i).2.1)
   have h2:=isz _ m1 (lvl (ndi l i).2.1+1)
   have h3:=qLU ho
   have hw:IntKind.i64.wrap (lvl (ndi l i).2.1+1)=lvl (ndi l i).2.1+1:=qU (by omega)
   have y1:(0:Int)≤(0:Int)∧(0:Int)<((List.map qBB (ndi l i).2.2.2.2.2.2.2.2.2.2.2.2.2).length:Int):=by rw [hkl];omega
   have y2:(0:Int)≤(1:Int)∧(1:Int)<((List.map qBB (ndi l i).2.2.2.2.2.2.2.2.2.2.2.2.2).length:Int):=by rw [hkl];omega
   refine ⟨n1+n2+n3+n4+1,fun n hn=>?_⟩
   obtain ⟨m,rfl,hm⟩:=up1 hn
   have g1:=g1 m (by omega)
   have g2:=g2 m (by omega)
   have g3:=g3 m (by omega)
   have g4:=g4 m (by omega)
   dsimp only at g1 g2 g3 g4⊢
   have e0:((0:Int)).toNat=0:=rfl
   have e1:((1:Int)).toNat=1:=rfl
   show (qAq (qa m) m (l.map qb) i t).run=_
   refine qD (zD hxb) (qA hcr (qD rfl (qA (qAZ _) (qA (qAa _) (qA (qAb _) (qA (qAc _) (qA (qAd _) (qA (qAe _) (qA (qAf _) (qA (qAg _) (qA (qAh _) (qA (qAi _) (qA (qx _) (qA (qy _) (qA (qz _) (qA (q7 _) ?_))))))))))))))))
   have z1:(qt l f (kid (ndi l i) 0) (lvl (ndi l i).2.1)).size+(qAO (ndi l i).2.1).size≤9223372036854775807:=by omega
   have z2:(qt l f (kid (ndi l i) 0) (lvl (ndi l i).2.1)++qAO (ndi l i).2.1).size+(qt l f (kid (ndi l i) 1) (lvl (ndi l i).2.1+1)).size≤9223372036854775807:=by rw [zh];omega
   have z3:(⟨#[40]⟩:BA).size+((qt l f (kid (ndi l i) 0) (lvl (ndi l i).2.1)++qAO (ndi l i).2.1)++qt l f (kid (ndi l i) 1) (lvl (ndi l i).2.1+1)).size≤9223372036854775807:=by rw [zh,zh];omega
   have z4:((⟨#[40]⟩:BA)++((qt l f (kid (ndi l i) 0) (lvl (ndi l i).2.1)++qAO (ndi l i).2.1)++qt l f (kid (ndi l i) 1) (lvl (ndi l i).2.1+1))).size+(⟨#[41]⟩:BA).size≤9223372036854775807:=by rw [zh,zh,zh];omega
   have g2:qa m (l.map qb) (kid (ndi l i) 1) (IntKind.i64.wrap (lvl (ndi l i).2.1+1))=some (qt l f (kid (ndi l i) 1) (lvl (ndi l i).2.1+1)):=by rw [hw];exact g2
   refine qO (by rw [k];rfl) (qO (by rw [k];rfl) (qO (by rw [k];rfl) (qO (by rw [k];rfl) (qD (by rw [k];rfl) (qA g3 (qD (zD y1) (qA c0 (qD rfl (qA (qAs _) (qD (zD y2) (qA c1 (qD rfl (qA (qAs _) (qA g1 (qA g4 (qD (zD z1) (qA g2 (qD (zD z2) ?_))))))))))))))))))
   rw [qt,if_neg (by omega),if_neg (by omega),if_neg (by omega),if_neg (by omega),if_pos k]
   unfold par
   by_cases ht:lvl (ndi l i).2.1<t
   ·refine qD (zD ht) (qD (zD z3) (qD (zD z4) ?_))
    rw [qC,if_pos (zD ht)]
   ·refine qO (zx ht) ?_
    rw [qC,if_neg (by simpa using ht)]
  ·obtain ⟨n0,g0⟩:=qAt (F:=fun k n=>qa n (l.map qb) k 1) (f:=fun k=>qt l f k 1) (qX l i) (fun k hk=>ih k hk 1)
   obtain ⟨n1,g1⟩:=qJz (ndi l i).2.1 ho
   have h1:=qPB ho
   have hs11:=qTD (f:=f) (by omega)
   have h3:(qX l i).length≤10:=hk.2
   have hjs:=qLV (xs:=(qX l i).map fun k=>qt l f k 1) (b:=szB f) (fun x hx=>by
    obtain ⟨k,hk,rfl⟩:=List.mem_map.1 hx
    exact isz k hk 1)
   have h4:(qX l i).length*(szB f+1)≤10*(szB f+1):=Nat.mul_le_mul_right _ h3
   rw [List.length_map] at hjs
   have gj:∀n,1≤n→qGb n (((qX l i).map fun k=>qt l f k 1).map fun x=> [PV.s x]) ⟨#[44]⟩=some (qPC ((qX l i).map fun k=>qt l f k 1)):=fun n hn=>by
    obtain ⟨m,rfl,_⟩:=up1 (n0:=0) hn
    show zBC _ _=_
    unfold zBC
    rw [qRE,zC,if_pos]
    ·rfl
    ·rw [qCt] at hjs
     refine ⟨by rw [List.length_map];omega,?_⟩
     have:(Lib.join (((qX l i).map fun k=>qt l f k 1).map (·.data.toList)) [44]).length≤(qX l i).length*(szB f+1):=hjs
     show (Lib.join (((qX l i).map fun k=>qt l f k 1).map (·.data.toList)) [44]).length≤_
     omega
   refine ⟨n0+n1+20,fun n hn=>?_⟩
   obtain ⟨m,rfl,hm⟩:=up1 hn
   have g0:=g0 m (by omega)
   have g1:=g1 m (by omega)
   have gj:=gj m (by omega)
   have hj:=qQC (qa m) m (l.map qb) (fun k=>qt l f k 1) (ndi l i).1 (ndi l i).2.1 (ndi l i).2.2.1 (ndi l i).2.2.2.1 (ndi l i).2.2.2.2.1 (ndi l i).2.2.2.2.2.1 (ndi l i).2.2.2.2.2.2.1 (ndi l i).2.2.2.2.2.2.2.1 (ndi l i).2.2.2.2.2.2.2.2.1 (ndi l i).2.2.2.2.2.2.2.2.2.1 (ndi l i).2.2.2.2.2.2.2.2.2.2.1 (ndi l i).2.2.2.2.2.2.2.2.2.2.2.1 (ndi l i).2.2.2.2.2.2.2.2.2.2.2.2.1 ((kd (ndi l i)).map qBB) (kd (ndi l i)) hk.2 g0 (kd (ndi l i)) [] m rfl (by omega)
   simp only [List.length_nil,Int.natCast_zero,List.map_nil,List.length_map] at hj
   obtain ⟨J,hJ⟩:∃J,qPC ((qX l i).map fun k=>qt l f k 1)=J:=⟨_,rfl⟩
   rw [hJ] at gj hjs
   have z1:(fnS (ndi l i).2.1).size+(⟨#[40]⟩:BA).size≤9223372036854775807:=by omega
   have z2:(fnS (ndi l i).2.1++(⟨#[40]⟩:BA)).size+J.size≤9223372036854775807:=by rw [zh];omega
   have z3:((fnS (ndi l i).2.1++(⟨#[40]⟩:BA))++J).size+(⟨#[41]⟩:BA).size≤9223372036854775807:=by rw [zh,zh];omega
   unfold qX at gj
   unfold kd at hj gj
   dsimp only at g1⊢
   rw [List.map_map] at gj
   have hkl':(((ndi l i).2.2.2.2.2.2.2.2.2.2.2.2.2.map qBB).length:Int)=((ndi l i).2.2.2.2.2.2.2.2.2.2.2.2.2.length:Int):=by rw [List.length_map]
   have hll:decide ((ndi l i).2.2.2.2.2.2.2.2.2.2.2.2.2.length=(List.map ((fun x=> [PV.s x])∘fun k=>qt l f k 1) (ndi l i).2.2.2.2.2.2.2.2.2.2.2.2.2).length)=true:=by simp
   have hmm:(List.map (fun k=> [PV.s (qt l f k 1)]) (ndi l i).2.2.2.2.2.2.2.2.2.2.2.2.2)=List.map ((fun x=> [PV.s x])∘fun k=>qt l f k 1) (ndi l i).2.2.2.2.2.2.2.2.2.2.2.2.2:=rfl
   rw [hmm] at hj
   rw [←hkl'] at hj
   show (qAq (qa m) m (l.map qb) i t).run=_
   refine qD (zD hxb) (qA hcr (qD rfl (qA (qAZ _) (qA (qAa _) (qA (qAb _) (qA (qAc _) (qA (qAd _) (qA (qAe _) (qA (qAf _) (qA (qAg _) (qA (qAh _) (qA (qAi _) (qA (qx _) (qA (qy _) (qA (qz _) (qA (q7 _) ?_))))))))))))))))
   refine qO (by rw [k];rfl) (qO (by rw [k];rfl) (qO (by rw [k];rfl) (qO (by rw [k];rfl) (qO (by rw [k];rfl) (qA hj (qA g1 (qD (zD z1) (qD hll (qA gj (qD rfl (qD (zD z2) (qD (zD z3) ?_))))))))))))
   rw [qC,qt,if_neg (by omega),if_neg (by omega),if_neg (by omega),if_neg (by omega),if_neg (by omega),hJ]
theorem qFz {l:List Nd} (h:Fine l):∀(f:Nat) (i t:Int),f≤12→(0≤i∧i<l.length)→qA3 (qX l) (i.toNat+1) i≤f→Ev (qa · (l.map qb) i t) (qt l f i t)
 |0,i,t,hf,hx,hd=>by
  have:=qNC (qX l) (i.toNat+1) i hx.1 (by omega)
  omega
 |f+1,i,t,hf,hx,hd=>qHd h f i t hf hx hd fun k hk t'=>qFz h f k t' (by omega) (h.kid hx hd hk).1 (h.kid hx hd hk).2
def qDC (l:List Nd):BA:=if qFe l=true then (if ((qt l 12 ((l.length:Int)-1) 1).size:Int)>200 then ⟨#[]⟩ else qt l 12 ((l.length:Int)-1) 1) else ⟨#[]⟩
theorem qSO {l:List Nd} (h:qFe l=true) (hk:∀c∈l,(kd c).length≤140737488351232∧c.2.2.2.2.1.size≤140737488351232):Fine l∧(0≤(l.length:Int)-1∧(l.length:Int)-1<l.length)∧qA3 (qX l) (((l.length:Int)-1).toNat+1) ((l.length:Int)-1)≤(12:Nat):=by
 unfold qFe at h
 simp only [Bool.and_eq_true,decide_eq_true_eq] at h
 obtain ⟨h1,h2,h3,h4,h5⟩:=h
 have e:((l.length:Int)-1).toNat+1=l.length:=by omega
 rw [e]
 exact ⟨⟨h1.2,qFd.1 h2,hk⟩,by omega,h5⟩
theorem qKf (l:List Nd) (hl:l.length≤140737488351232) (hk:∀c∈l,(kd c).length≤140737488351232∧c.2.2.2.2.1.size≤140737488351232):Ev (qBh · (l.map qb)) (qDC l):=by
 obtain ⟨n1,g1⟩:=qHE l hk
 unfold qDC
 cases hf:qFe l with
 |false=>
  rw [hf] at g1
  refine ⟨n1+1,fun n hn=>?_⟩
  obtain ⟨m,rfl,hm⟩:=up1 hn
  have g1:=g1 m (by omega)
  dsimp only at g1⊢
  simp [qBh,qDE,qC,qE,qJ,qK,qM,qN,zC,qF,qG,qH,g1]
 |true=>
  rw [hf] at g1
  obtain ⟨q1,q2,q3⟩:=qSO hf hk
  obtain ⟨n2,g2⟩:=qJ1 q1 12 ((l.length:Int)-1) 0 (by decide) q2 q3
  rw [qSN] at g2
  have hw:IntKind.i64.wrap ((l.length:Int)-1)=(l.length:Int)-1:=qU (by omega)
  refine ⟨n1+n2+1,fun n hn=>?_⟩
  obtain ⟨m,rfl,hm⟩:=up1 hn
  have g1:=g1 m (by omega)
  have g2:=g2 m (by omega)
  dsimp only at g1 g2⊢
  generalize qt l 12 ((l.length:Int)-1) 1=t at*
  simp only [qBh,qDE,qC,qE,qJ,qK,qM,qN,zC,qF,qG,qH,g1,List.length_map,hw,g2]
  by_cases h2:(t.size:Int)>200<;>simp [h2]
theorem qKg (l:List Nd) (hl:l.length≤140737488351232) (hk:∀c∈l,(kd c).length≤140737488351232∧c.2.2.2.2.1.size≤140737488351232):Ev (qBn · (l.map qb)) (qDC l):=by
 obtain ⟨n1,g1⟩:=qHF l hl hk
 unfold qDC
 cases hf:qFe l with
 |false=>
  rw [hf] at g1
  refine ⟨n1+1,fun n hn=>?_⟩
  obtain ⟨m,rfl,hm⟩:=up1 hn
  have g1:=g1 m (by omega)
  dsimp only at g1⊢
  simp [qBn,qDH,qC,qE,qJ,qK,qM,qN,zC,qF,qG,qH,g1]
 |true=>
  rw [hf] at g1
  obtain ⟨q1,q2,q3⟩:=qSO hf hk
  obtain ⟨n2,g2⟩:=qFz q1 12 ((l.length:Int)-1) 1 (by decide) q2 q3
  have hw:IntKind.i64.wrap ((l.length:Int)-1)=(l.length:Int)-1:=qU (by omega)
  refine ⟨n1+n2+1,fun n hn=>?_⟩
  obtain ⟨m,rfl,hm⟩:=up1 hn
  have g1:=g1 m (by omega)
  have g2:=g2 m (by omega)
  dsimp only at g1 g2⊢
  generalize qt l 12 ((l.length:Int)-1) 1=t at*
  simp only [qBn,qDH,qC,qE,qJ,qK,qM,qN,zC,qF,qG,qH,g1,List.length_map,hw,g2]
  by_cases h2:(t.size:Int)>200<;>simp [h2]
abbrev PS:=List UInt8×Bool×List Nd
def tb (r:List UInt8):List UInt8:=r.dropWhile (· ==32)
def wch (c:UInt8):Bool:=(decide (65≤c.toNat)&&decide (c.toNat≤90))||((decide (48≤c.toNat)&&decide (c.toNat≤57))||c==36)
def wd (r:List UInt8):List UInt8:=r.takeWhile wch
def wr (r:List UInt8):List UInt8:=r.dropWhile wch
def BR (r:List UInt8):BA:=⟨r.toArray⟩
def qER:List (List UInt8):= [[60,62],[60,61],[62,61],[60],[62],[61],[38],[43],[45],[42],[47],[40],[41],[44],[58]]
def sgn (r:List UInt8):List UInt8:=match qER.find? (fun w=>w.isPrefixOf r) with|some w=>w|none=> []
def nd1 (v:V3):Nd:=(1,0,v.1,v.2.1,v.2.2,0,0,false,false,0,0,false,false,[])
def ndK (k op:Int) (kids:List Int):Nd:=(k,op,0,0,em,0,0,false,false,0,0,false,false,kids)
def ndC (p:Int×Int×Bool×Bool×Bool):Nd:=(2,0,0,0,em,p.1,p.2.1,p.2.2.1,p.2.2.2.1,0,0,false,false,[])
def ndA (p q:Int×Int×Bool×Bool×Bool):Nd:=(3,0,0,0,em,p.1,p.2.1,p.2.2.1,p.2.2.2.1,q.1,q.2.1,q.2.2.1,q.2.2.2.1,[])
def qB5:List UInt8→List UInt8→Option (List UInt8×List UInt8)
 |_,[]=>none
 |acc,c::t=>if c=34 then (match t with
   |d::t'=>if d=34 then qB5 (acc++ [34]) t' else some (acc,t)
   | []=>some (acc,[])) else qB5 (acc++ [c]) t
def qI6 (r:List UInt8):Int→Nat→Option Int
 |_,0=>none
 |n,k+1=>if (qf n).toList.isPrefixOf r=true then some n else qI6 r (n+1) k
def qF4 (w:List UInt8):Int→Nat→Option Int
 |_,0=>none
 |n,k+1=>if (fnS n).toList=w then some n else qF4 w (n+1) k
def qAy (r:List UInt8):Int:=
 if sgn r= [43] then 1 else if sgn r= [45] then 2 else if sgn r= [42] then 3 else if sgn r= [47] then 4 else if sgn r= [38] then 5 else if sgn r= [61] then 6 else
 if sgn r= [60,62] then 7 else if sgn r= [60] then 8 else if sgn r= [60,61] then 9 else if sgn r= [62] then 10 else if sgn r= [62,61] then 11 else 0
def qY (w:List UInt8) (p:PS):Bool×PS:=if sgn (tb p.1)=w then (true,(tb p.1).drop w.length,p.2) else (false,tb p.1,p.2)
def qDO (x:Nd) (p:PS):Int×PS:=if p.2.1=true∨60≤p.2.2.length then ((p.2.2.length:Int)-1,p.1,true,p.2.2) else ((p.2.2.length:Int),p.1,false,p.2.2++ [x])
def qRr (p:PS):PS:=(p.1,true,p.2.2)
def qCK (w:List UInt8) (p:PS):PS:=if p.2.1=true then p else if (qY w p).1=true then (qY w p).2 else qRr (qY w p).2
def qBG (p:PS):Option Nd×PS:=
 let w:=wd (tb p.1)
 let p1:PS:=(wr (tb p.1),p.2)
 if (qAN (BR w)).2.2.2.2=true∧(qY [58] p1).1=true then
  let p2:=(qY [58] p1).2
  let w2:=wd (tb p2.1)
  (some (ndA (qAN (BR w)) (qAN (BR w2))),wr (tb p2.1),p2.2.1||!(qAN (BR w2)).2.2.2.2,p2.2.2)
 else (none,p)
def qEV (o:Option Nd×PS) (g:PS→Int×PS):Int×PS:=match o.1 with
 |some x=>qDO x o.2
 |none=>g o.2
inductive PJ where
 |bin (least deep:Int)
 |loop (least deep a:Int)
 |un (deep:Int)
 |at (deep:Int)
 |call (op deep:Int)
 |args (op deep:Int) (kids:List Int)
def pP:Nat→PJ→PS→Int×PS
 |0,_,p=>(0,p)
 |f+1,.bin least deep,p=>pP f (.loop least deep (pP f (.un deep) p).1) (pP f (.un deep) p).2
 |f+1,.loop least deep a,p=>
  if p.2.1=true then (a,p) else
  if qAy (tb p.1)=0∨lvl (qAy (tb p.1))<least then (a,tb p.1,p.2) else
  let p1:PS:=((tb p.1).drop (sgn (tb p.1)).length,p.2)
  let q:=pP f (.bin (lvl (qAy (tb p.1))+1) deep) p1
  let c:=qDO (ndK 5 (qAy (tb p.1)) [a,q.1]) q.2
  pP f (.loop least deep c.1) c.2
 |f+1,.un deep,p=>
  if deep>400∨p.2.1=true then (-1,qRr p) else
  if (qY [45] p).1=true then
   let q:=pP f (.un (deep+1)) (qY [45] p).2
   qDO (ndK 4 0 [q.1]) q.2
  else pP f (.at deep) (qY [45] p).2
 |f+1,.at deep,p=>
  let r:=tb p.1
  if r.head?=some 34 then (match qB5 [] r.tail with
   |none=>(-1,r,true,p.2.2)
   |some (s,t)=>qDO (nd1 (2,0,BR s)) (t,p.2))
  else match (if r.head?=some 35 then qI6 r 1 5 else none) with
  |some n=>qDO (nd1 (4,n,em)) (r.drop (qf n).size,p.2)
  |none=>
   if r.head?≠some 35∧(qY [40] p).1=true then
    let q:=pP f (.bin 1 (deep+1)) (qY [40] p).2
    (q.1,qCK [41] q.2)
   else
    let w:=wd r
    let p2:PS:=(wr r,p.2)
    if (qi (BR w)).2.2.2=true∧((qi (BR w)).1=1∨(qi (BR w)).1=3) then qDO (nd1 ((qi (BR w)).1,(qi (BR w)).2.1,(qi (BR w)).2.2.1)) p2
    else if (qAN (BR w)).2.2.2.2=true then qDO (ndC (qAN (BR w))) p2
    else match qF4 w 1 10 with
    |some op=>pP f (.call op deep) p2
    |none=>(-1,qRr p2)
 |f+1,.call op deep,p=>pP f (.args op deep []) (qCK [40] p)
 |f+1,.args op deep kids,p=>
  if p.2.1=true then qDO (ndK 6 op kids) p else
  let q:=qEV (qBG p) (fun p=>pP f (.bin 1 (deep+1)) p)
  if (qY [44] q.2).1=true then pP f (.args op deep (kids++ [q.1])) (qY [44] q.2).2
  else qDO (ndK 6 op (kids++ [q.1])) (qCK [41] (qY [44] q.2).2)
def sIs (w:List UInt8) (q:PS):Bool×PS:=if q.2.1=true then (false,tb q.1,q.2) else if w.isPrefixOf (tb q.1)=true then (true,(tb q.1).drop w.length,q.2) else (false,tb q.1,q.2)
def qD8 (x:Nd) (q:PS):Int×PS:=((q.2.2.length:Int),q.1,(if 60<q.2.2.length+1∨qE0 x=false then true else q.2.1),q.2.2++ [x])
def qLW (q:PS):PS:=(q.1,true,q.2.2)
def qB8:List Int:= [7,9,11,6,8,10,1,2,3,4,5]
def qDt (level:Int) (r:List UInt8):List Int→Int
 | []=>0
 |o::l=>if lvl o=level∧(qAO o).toList.isPrefixOf r=true then o else qDt level r l
def sOp (level:Int) (q:PS):Int×PS:=
 if q.2.1=true then (0,tb q.1,q.2) else
 (qDt level (tb q.1) qB8,(if qDt level (tb q.1) qB8=0 then tb q.1 else (tb q.1).drop (qAO (qDt level (tb q.1) qB8)).size),q.2)
def qRF (r:List UInt8):Int→Nat→Option Int
 |_,0=>none
 |n,k+1=>if (qf n).toList.tail.isPrefixOf r=true then some n else qRF r (n+1) k
inductive SJ where
 |row (level:Int)
 |rl (level a:Int)
 |one
 |call (op:Int) (kids:List Int)
 |arg
def sP:Nat→SJ→PS→Int×PS
 |0,_,q=>(0,q)
 |f+1,.row level,q=>
  if q.2.1=true then (0,q) else
  if level=5 then sP f .one q else
  sP f (.rl level (sP f (.row (level+1)) q).1) (sP f (.row (level+1)) q).2
 |f+1,.rl level a,q=>
  if q.2.1=true then (a,q) else
  let o:=sOp level q
  if o.1=0 then (a,o.2) else
  let b:=sP f (.row (level+1)) o.2
  let c:=qD8 (ndK 5 o.1 [a,b.1]) b.2
  sP f (.rl level c.1) c.2
 |f+1,.one,q=>
  if (sIs [45] q).1=true then
   let b:=sP f (.row 5) (sIs [45] q).2
   qD8 (ndK 4 0 [b.1]) b.2
  else if (sIs [40] (sIs [45] q).2).1=true then
   let b:=sP f (.row 1) (sIs [40] (sIs [45] q).2).2
   (b.1,if (sIs [41] b.2).1=true then (sIs [41] b.2).2 else qLW (sIs [41] b.2).2)
  else
   let q2:PS:=(tb q.1,q.2)
   if (sIs [34] q2).1=true then (match qB5 [] (sIs [34] q2).2.1 with
    |none=>(0,[],true,q.2.2)
    |some (s,t)=>qD8 (nd1 (2,0,BR s)) (t,q.2))
   else if (sIs [35] q2).1=true then (match qRF (sIs [35] q2).2.1 1 5 with
    |some n=>qD8 (nd1 (4,n,em)) ((sIs [35] q2).2.1.drop ((qf n).size-1),q.2)
    |none=>(0,(sIs [35] q2).2.1,true,q.2.2))
   else
    let w:=wd (tb q.1)
    let q3:PS:=(wr (tb q.1),q.2)
    match qF4 w 1 10 with
    |some op=>if (sIs [40] q3).1=true then sP f (.call op []) (sIs [40] q3).2 else (0,qLW (sIs [40] q3).2)
    |none=>
     if (qi (BR w)).2.2.2=true∧w≠ [] then qD8 (nd1 ((qi (BR w)).1,(qi (BR w)).2.1,(qi (BR w)).2.2.1)) q3
     else if (qAN (BR w)).2.2.2.2=true then qD8 (ndC (qAN (BR w))) q3
     else (0,qLW q3)
 |f+1,.call op kids,q=>
  if q.2.1=true then (0,q) else
  let a:=sP f .arg q
  if (sIs [41] a.2).1=true then qD8 (ndK 6 op (kids++ [a.1])) (sIs [41] a.2).2
  else sP f (.call op (kids++ [a.1])) (if (sIs [44] (sIs [41] a.2).2).1=true then (sIs [44] (sIs [41] a.2).2).2 else qLW (sIs [44] (sIs [41] a.2).2).2)
 |f+1,.arg,q=>
  let w:=wd (tb q.1)
  let q1:PS:=(wr (tb q.1),q.2)
  if (qAN (BR w)).2.2.2.2=true∧(sIs [58] q1).1=true then
   let q2:=(sIs [58] q1).2
   let w2:=wd (tb q2.1)
   if (qAN (BR w2)).2.2.2.2=true then qD8 (ndA (qAN (BR w)) (qAN (BR w2))) (wr (tb q2.1),q2.2) else (0,wr (tb q2.1),true,q2.2.2)
  else sP f (.row 1) (tb q.1,q.2)
theorem qCR:∀r:List UInt8,tb (tb r)=tb r
 | []=>rfl
 |c::r=>by
  unfold tb
  by_cases h:(c==32)=true
  ·simp only [List.dropWhile_cons,h,if_true];exact qCR r
  ·simp [List.dropWhile_cons,h]
theorem q8:∀r:List UInt8,(tb r).length≤r.length
 | []=>Nat.le_refl _
 |c::r=>by
  unfold tb
  by_cases h:(c==32)=true
  ·simp only [List.dropWhile_cons,h,if_true];exact Nat.le_succ_of_le (q8 r)
  ·simp [List.dropWhile_cons,h]
theorem qQD {p:UInt8→Bool}:∀r:List UInt8,(r.dropWhile p).length≤r.length
 | []=>Nat.le_refl _
 |c::r=>by
  by_cases h:p c=true
  ·simp only [List.dropWhile_cons,h,if_true];exact Nat.le_succ_of_le (qQD r)
  ·simp [List.dropWhile_cons,h]
theorem qGn (r:List UInt8):(wr r).length≤r.length:=qQD r
theorem wdr (r:List UInt8):wd r++wr r=r:=List.takeWhile_append_dropWhile
theorem qQo (c:UInt8) (t:List UInt8) (h1:c≠60) (h2:c≠62):sgn (c::t)=if c∈([61,38,43,45,42,47,40,41,44,58]:List UInt8) then [c] else []:=by
 have e1:(60==c)=false:=by simpa using fun e=>h1 e.symm
 have e2:(62==c)=false:=by simpa using fun e=>h2 e.symm
 by_cases h:c∈([61,38,43,45,42,47,40,41,44,58]:List UInt8)
 ·rw [if_pos h]
  simp only [List.mem_cons,List.not_mem_nil,or_false] at h
  rcases h with rfl|rfl|rfl|rfl|rfl|rfl|rfl|rfl|rfl|rfl<;>rfl
 ·rw [if_neg h]
  simp only [List.mem_cons,List.not_mem_nil,or_false,not_or] at h
  obtain ⟨a1,a2,a3,a4,a5,a6,a7,a8,a9,a10⟩:=h
  have f:∀d:UInt8,c≠d→(d==c)=false:=fun d hd=>by simpa using fun e=>hd e.symm
  simp [sgn,qER,List.find?,List.isPrefixOf,e1,e2,f _ a1,f _ a2,f _ a3,f _ a4,f _ a5,f _ a6,f _ a7,f _ a8,f _ a9,f _ a10]
theorem qPE (t:List UInt8):sgn (60::t)=if t.head?=some 62 then [60,62] else if t.head?=some 61 then [60,61] else [60]:=by
 cases t with
 |nil=>rfl
 |cons d t=>
  by_cases h:d=62
  ·subst h;rfl
  ·by_cases h2:d=61
   ·subst h2;rfl
   ·have e1:(62==d)=false:=by simpa using fun e=>h e.symm
    have e2:(61==d)=false:=by simpa using fun e=>h2 e.symm
    simp [sgn,qER,List.find?,List.isPrefixOf,e1,e2,h,h2]
theorem qQp (t:List UInt8):sgn (62::t)=if t.head?=some 61 then [62,61] else [62]:=by
 cases t with
 |nil=>rfl
 |cons d t=>
  by_cases h2:d=61
  ·subst h2;rfl
  ·have e2:(61==d)=false:=by simpa using fun e=>h2 e.symm
   simp [sgn,qER,List.find?,List.isPrefixOf,e2,h2]
theorem qUp {c:UInt8} (hc:c∈([45,40,41,44,58]:List UInt8)) (r:List UInt8):(sgn r= [c])↔([c].isPrefixOf r=true):=by
 cases r with
 |nil=>
  have:sgn []= []:=rfl
  rw [this]
  simp [List.isPrefixOf]
 |cons d t=>
  have hcc:c≠60∧c≠62∧c∈([61,38,43,45,42,47,40,41,44,58]:List UInt8):=by
   simp only [List.mem_cons,List.not_mem_nil,or_false] at hc
   rcases hc with rfl|rfl|rfl|rfl|rfl<;>decide
  have e:([c].isPrefixOf (d::t)=true)↔c=d:=by simp [List.isPrefixOf]
  rw [e]
  by_cases h1:d=60
  ·subst h1
   rw [qPE]
   constructor
   ·intro h;split at h
    ·cases h
    ·split at h
     ·cases h
     ·simp only [List.cons.injEq,and_true] at h;exact absurd h.symm hcc.1
   ·intro h;exact absurd h hcc.1
  ·by_cases h2:d=62
   ·subst h2
    rw [qQp]
    constructor
    ·intro h;split at h
     ·cases h
     ·simp only [List.cons.injEq,and_true] at h;exact absurd h.symm hcc.2.1
    ·intro h;exact absurd h hcc.2.1
   ·rw [qQo d t h1 h2]
    constructor
    ·intro h;split at h
     ·simp only [List.cons.injEq,and_true] at h;exact h.symm
     ·cases h
    ·intro h;subst h;rw [if_pos hcc.2.2]
theorem qTm {c:UInt8} (hc:c∈([45,40,41,44,58]:List UInt8)) {p q:PS} (hb:q.2.1=false) (ht:tb p.1=tb q.1):(qY [c] p).1=(sIs [c] q).1∧(qY [c] p).2.1=(sIs [c] q).2.1∧(qY [c] p).2.2=p.2∧(sIs [c] q).2.2=q.2:=by
 have h:=qUp hc (tb q.1)
 unfold qY sIs
 rw [ht,hb]
 by_cases hs:sgn (tb q.1)= [c]
 ·rw [if_pos hs,if_neg (by simp),if_pos (h.1 hs)]
  exact ⟨rfl,rfl,rfl,rfl⟩
 ·rw [if_neg hs,if_neg (by simp),if_neg (fun e=>hs (h.2 e))]
  exact ⟨rfl,rfl,rfl,rfl⟩
theorem qDj {w:List UInt8} (hw:w≠ []) {p:PS} (h:(qY w p).1=true):(qY w p).2.1.length<(tb p.1).length:=by
 unfold qY at h⊢
 by_cases hs:sgn (tb p.1)=w
 ·rw [if_pos hs]
  have hp:w.isPrefixOf (tb p.1)=true:=by
   unfold sgn at hs
   split at hs
   ·rename_i x hx
    subst hs
    have:=List.find?_some hx
    simpa using this
   ·exact absurd hs.symm hw
  obtain ⟨t,ht⟩:=List.isPrefixOf_iff_prefix.1 hp
  have h0:0<w.length:=List.length_pos_iff.2 hw
  have h1:=congrArg List.length ht
  simp only [List.length_append] at h1
  simp only [List.length_drop]
  omega
 ·rw [if_neg hs] at h;cases h
theorem qIb (w:List UInt8) (p:PS):(qY w p).2.1.length≤(tb p.1).length:=by
 unfold qY
 split
 ·simp
 ·exact Nat.le_refl _
theorem qSP (r:List UInt8):(qAy r=0)∨(1≤qAy r∧qAy r≤11∧sgn r=(qAO (qAy r)).toList):=by
 unfold qAy
 repeat' (split; · rename_i h;right;rw [h];exact ⟨by decide,by decide,by decide+kernel⟩)
 left;rfl
theorem sg1:(qAO 1).toList= [43]:=by decide+kernel
theorem sg2:(qAO 2).toList= [45]:=by decide+kernel
theorem sg3:(qAO 3).toList= [42]:=by decide+kernel
theorem sg4:(qAO 4).toList= [47]:=by decide+kernel
theorem sg5:(qAO 5).toList= [38]:=by decide+kernel
theorem sg6:(qAO 6).toList= [61]:=by decide+kernel
theorem sg7:(qAO 7).toList= [60,62]:=by decide+kernel
theorem sg8:(qAO 8).toList= [60]:=by decide+kernel
theorem sg9:(qAO 9).toList= [60,61]:=by decide+kernel
theorem qTE:(qAO 10).toList= [62]:=by decide+kernel
theorem qTF:(qAO 11).toList= [62,61]:=by decide+kernel
theorem qHe (r:List UInt8):qDt 1 r qB8=if [60,62].isPrefixOf r=true then 7 else if [60,61].isPrefixOf r=true then 9 else if [62,61].isPrefixOf r=true then 11 else if [61].isPrefixOf r=true then 6 else if [60].isPrefixOf r=true then 8 else if [62].isPrefixOf r=true then 10 else 0:=by
 simp [qDt,qB8,lvl,sg1,sg2,sg3,sg4,sg5,sg6,sg7,sg8,sg9,qTE,qTF]
theorem qHf (r:List UInt8):qDt 2 r qB8=if [38].isPrefixOf r=true then 5 else 0:=by
 simp [qDt,qB8,lvl,sg1,sg2,sg3,sg4,sg5,sg6,sg7,sg8,sg9,qTE,qTF]
theorem qHg (r:List UInt8):qDt 3 r qB8=if [43].isPrefixOf r=true then 1 else if [45].isPrefixOf r=true then 2 else 0:=by
 simp [qDt,qB8,lvl,sg1,sg2,sg3,sg4,sg5,sg6,sg7,sg8,sg9,qTE,qTF]
theorem qHh (r:List UInt8):qDt 4 r qB8=if [42].isPrefixOf r=true then 3 else if [47].isPrefixOf r=true then 4 else 0:=by
 simp [qDt,qB8,lvl,sg1,sg2,sg3,sg4,sg5,sg6,sg7,sg8,sg9,qTE,qTF]
theorem qTn {m:Int} (hm:1≤m∧m≤4) (r:List UInt8):qDt m r qB8=if qAy r≠0∧lvl (qAy r)=m then qAy r else 0:=by
 have hm:m=1∨m=2∨m=3∨m=4:=by omega
 cases r with
 |nil=>rcases hm with rfl|rfl|rfl|rfl<;>simp [qHe,qHf,qHg,qHh,qAy,sgn,qER,List.find?,List.isPrefixOf]
 |cons c t=>
  have f:∀d:UInt8,c≠d→(d==c)=false:=fun d hd=>by simpa using fun e=>hd e.symm
  by_cases h1:c=60
  ·subst h1
   cases t with
   |nil=>rcases hm with rfl|rfl|rfl|rfl<;>simp [qHe,qHf,qHg,qHh,qAy,qPE,List.isPrefixOf,lvl]
   |cons d t=>
    have g:∀e:UInt8,d≠e→(e==d)=false:=fun e hd=>by simpa using fun x=>hd x.symm
    by_cases hd:d=62
    ·subst hd;rcases hm with rfl|rfl|rfl|rfl<;>simp [qHe,qHf,qHg,qHh,qAy,qPE,List.isPrefixOf,lvl]
    ·by_cases hd2:d=61
     ·subst hd2;rcases hm with rfl|rfl|rfl|rfl<;>simp [qHe,qHf,qHg,qHh,qAy,qPE,List.isPrefixOf,lvl]
     ·rcases hm with rfl|rfl|rfl|rfl<;>simp [qHe,qHf,qHg,qHh,qAy,qPE,List.isPrefixOf,lvl,hd,hd2,g _ hd,g _ hd2]
  ·by_cases h2:c=62
   ·subst h2
    cases t with
    |nil=>rcases hm with rfl|rfl|rfl|rfl<;>simp [qHe,qHf,qHg,qHh,qAy,qQp,List.isPrefixOf,lvl]
    |cons d t=>
     have g:∀e:UInt8,d≠e→(e==d)=false:=fun e hd=>by simpa using fun x=>hd x.symm
     by_cases hd2:d=61
     ·subst hd2;rcases hm with rfl|rfl|rfl|rfl<;>simp [qHe,qHf,qHg,qHh,qAy,qQp,List.isPrefixOf,lvl]
     ·rcases hm with rfl|rfl|rfl|rfl<;>simp [qHe,qHf,qHg,qHh,qAy,qQp,List.isPrefixOf,lvl,hd2,g _ hd2]
   ·by_cases h:c∈([61,38,43,45,42,47,40,41,44,58]:List UInt8)
    ·have hs:sgn (c::t)= [c]:=by rw [qQo c t h1 h2,if_pos h]
     simp only [List.mem_cons,List.not_mem_nil,or_false] at h
     rcases h with rfl|rfl|rfl|rfl|rfl|rfl|rfl|rfl|rfl|rfl<;>rcases hm with rfl|rfl|rfl|rfl<;>
      simp [qHe,qHf,qHg,qHh,qAy,hs,List.isPrefixOf,lvl]
    ·have hs:sgn (c::t)= []:=by rw [qQo c t h1 h2,if_neg h]
     simp only [List.mem_cons,List.not_mem_nil,or_false,not_or] at h
     obtain ⟨a1,a2,a3,a4,a5,a6,a7,a8,a9,a10⟩:=h
     rcases hm with rfl|rfl|rfl|rfl<;>
      simp [qHe,qHf,qHg,qHh,qAy,hs,List.isPrefixOf,f _ h1,f _ h2,f _ a1,f _ a2,f _ a3,f _ a4,f _ a5,f _ a6]
theorem qRs {op:Int}:1≤lvl op∧lvl op≤4:=by unfold lvl;split<;>(try split)<;>(try split)<;>omega
def qMB (p:PS):Prop:=p.2.1=true∨∃x∈p.2.2,qE0 x=false
theorem qCh {x:Nd} {p:PS} (h:qMB p):qMB (qDO x p).2:=by
 unfold qDO
 split
 ·exact .inl rfl
 ·rename_i hn
  rcases h with h|⟨y,hy,hb⟩
  ·exact absurd (.inl h) hn
  ·exact .inr ⟨y,List.mem_append_left _ hy,hb⟩
theorem qEW {w:List UInt8} {p:PS} (h:qMB p):qMB (qY w p).2:=by unfold qY;split<;>exact h
theorem qFf (p:PS):qMB (qRr p):= .inl rfl
theorem qIC {w:List UInt8} {p:PS} (h:qMB p):qMB (qCK w p):=by
 unfold qCK
 split
 ·exact h
 ·split
  ·exact qEW h
  ·exact qFf _
theorem qQE {p:PS} (h:qMB p):qMB (qBG p).2:=by
 unfold qBG
 simp only
 split
 ·rcases h with h|h
  ·left
   simp only [Bool.or_eq_true]
   left
   have:(qY [58] (wr (tb p.1),p.2)).2.2=p.2:=by unfold qY;split<;>rfl
   rw [this];exact h
  ·right
   have:(qY [58] (wr (tb p.1),p.2)).2.2=p.2:=by unfold qY;split<;>rfl
   simp only [this]
   exact h
 ·exact h
theorem qCv:∀(f:Nat) (j:PJ) (p:PS),qMB p→qMB (pP f j p).2
 |0,j,p,h=>h
 |f+1,.bin least deep,p,h=>by
  simp only [pP]
  exact qCv f _ _ (qCv f _ _ h)
 |f+1,.loop least deep a,p,h=>by
  simp only [pP]
  split
  ·exact h
  ·split
   ·exact h
   ·exact qCv f _ _ (qCh (qCv f _ _ h))
 |f+1,.un deep,p,h=>by
  simp only [pP]
  split
  ·exact qFf _
  ·split
   ·exact qCh (qCv f _ _ (qEW h))
   ·exact qCv f _ _ (qEW h)
 |f+1,.at deep,p,h=>by
  simp only [pP]
  split
  ·split
   ·exact .inl rfl
   ·exact qCh h
  ·split
   ·exact qCh h
   ·split
    ·exact qIC (qCv f _ _ (qEW h))
    ·split
     ·exact qCh h
     ·split
      ·exact qCh h
      ·split
       ·exact qCv f _ _ h
       ·exact qFf _
 |f+1,.call op deep,p,h=>by
  simp only [pP]
  exact qCv f _ _ (qIC h)
 |f+1,.args op deep kids,p,h=>by
  simp only [pP]
  have hq:qMB (qEV (qBG p) (fun p=>pP f (.bin 1 (deep+1)) p)).2:=by
   unfold qEV
   split
   ·exact qCh (qQE h)
   ·exact qCv f _ _ (qQE h)
  revert hq
  generalize qEV (qBG p) (fun p=>pP f (.bin 1 (deep+1)) p)=q
  intro hq
  split
  ·exact qCh h
  ·split
   ·exact qCv f _ _ (qEW hq)
   ·exact qCh (qIC (qEW hq))
theorem qA4 (x:Nd) (p:PS):(qDO x p).2.1=p.1:=by unfold qDO;split<;>rfl
theorem qDu (w:List UInt8) (p:PS):(tb (qY w p).2.1).length≤(tb p.1).length:=by
 unfold qY
 split
 ·refine Nat.le_trans (q8 _) ?_
  simp
 ·simp only;rw [qCR];exact Nat.le_refl _
theorem qJ9 (w:List UInt8) (p:PS):(tb (qCK w p).1).length≤(tb p.1).length:=by
 unfold qCK
 split
 ·exact Nat.le_refl _
 ·split
  ·exact qDu w p
  ·exact qDu w p
theorem qID (p:PS):(tb (qBG p).2.1).length≤(tb p.1).length:=by
 unfold qBG
 simp only
 split
 ·simp only
  refine Nat.le_trans (q8 _) (Nat.le_trans (qGn _) (Nat.le_trans (qDu [58] _) ?_))
  exact Nat.le_trans (q8 _) (qGn _)
 ·exact Nat.le_refl _
theorem qKA:∀(acc r:List UInt8) {s t:List UInt8},qB5 acc r=some (s,t)→t.length<r.length
 |acc,[],s,t,h=>by simp [qB5] at h
 |acc,c::r,s,t,h=>by
  unfold qB5 at h
  by_cases hc:c=34
  ·rw [if_pos hc] at h
   match r,h with
   | [],h=>simp only [zQ,Prod.mk.injEq] at h;rw [←h.2];simp
   |d::t',h=>
    simp only at h
    by_cases hd:d=34
    ·rw [if_pos hd] at h
     have:=qKA _ t' h
     simp only [List.length_cons];omega
    ·rw [if_neg hd] at h
     simp only [zQ,Prod.mk.injEq] at h
     rw [←h.2];simp
  ·rw [if_neg hc] at h
   have:=qKA _ r h
   simp only [List.length_cons];omega
theorem qDk:∀(f:Nat) (j:PJ) (p:PS),(tb (pP f j p).2.1).length≤(tb p.1).length
 |0,j,p=>Nat.le_refl _
 |f+1,.bin least deep,p=>by
  simp only [pP]
  exact Nat.le_trans (qDk f _ _) (qDk f _ _)
 |f+1,.loop least deep a,p=>by
  simp only [pP]
  split
  ·exact Nat.le_refl _
  ·split
   ·simp only;rw [qCR];exact Nat.le_refl _
   ·refine Nat.le_trans (qDk f _ _) ?_
    rw [qA4]
    refine Nat.le_trans (qDk f _ _) (Nat.le_trans (q8 _) ?_)
    simp
 |f+1,.un deep,p=>by
  simp only [pP]
  split
  ·exact Nat.le_refl _
  ·split
   ·rw [qA4]
    exact Nat.le_trans (qDk f _ _) (qDu _ _)
   ·exact Nat.le_trans (qDk f _ _) (qDu _ _)
 |f+1,.at deep,p=>by
  simp only [pP]
  split
  ·split
   ·simp only;rw [qCR];exact Nat.le_refl _
   ·rename_i s t hq
    rw [qA4]
    have:=qKA _ _ hq
    refine Nat.le_trans (q8 _) ?_
    have h2:((tb p.1).tail).length≤(tb p.1).length:=by simp
    simp only;omega
  ·split
   ·rw [qA4]
    refine Nat.le_trans (q8 _) ?_
    simp
   ·split
    ·exact Nat.le_trans (qJ9 _ _) (Nat.le_trans (qDk f _ _) (qDu _ _))
    ·have hw:(tb (wr (tb p.1))).length≤(tb p.1).length:=Nat.le_trans (q8 _) (qGn _)
     split
     ·rw [qA4];exact hw
     ·split
      ·rw [qA4];exact hw
      ·split
       ·exact Nat.le_trans (qDk f _ _) hw
       ·exact hw
 |f+1,.call op deep,p=>by
  simp only [pP]
  exact Nat.le_trans (qDk f _ _) (qJ9 _ _)
 |f+1,.args op deep kids,p=>by
  simp only [pP]
  have hq:(tb (qEV (qBG p) (fun p=>pP f (.bin 1 (deep+1)) p)).2.1).length≤(tb p.1).length:=by
   unfold qEV
   split
   ·rw [qA4];exact qID p
   ·exact Nat.le_trans (qDk f _ _) (qID p)
  revert hq
  generalize qEV (qBG p) (fun p=>pP f (.bin 1 (deep+1)) p)=q
  intro hq
  split
  ·rw [qA4];exact Nat.le_refl _
  ·split
   ·exact Nat.le_trans (qDk f _ _) (Nat.le_trans (qDu _ _) hq)
   ·rw [qA4]
    exact Nat.le_trans (qJ9 _ _) (Nat.le_trans (qDu _ _) hq)
structure RdOK:Prop where
 v:∀w:List UInt8,w.all wch=true→w≠ []→(qi (BR w)).2.2.2=true→(qi (BR w)).1=1∨(qi (BR w)).1=3
 v0:¬((qi (BR [])).1=1∨(qi (BR [])).1=3)
 p0:(qAN (BR [])).2.2.2.2=false
 f:∀w op,qF4 w 1 10=some op→(qi (BR w)).2.2.2=false∧(qAN (BR w)).2.2.2.2=false
 f0:qF4 [] 1 10=none
 n:∀n:Int,1≤n∧n≤5→∃t,(qf n).toList=35::t
def Lk (p q:PS):Prop:=p.2.1=false∧q.2.1=false∧p.2.2=q.2.2∧tb p.1=tb q.1
def Sim (a b:Int×PS):Prop:=(a.1=b.1∧Lk a.2 b.2)∨(b.2.2.1=true∧qMB a.2)
def qUq (least:Int) (p:PS):Prop:=qAy (tb p.1)=0∨lvl (qAy (tb p.1))<least
def SimP (least:Int) (a b:Int×PS):Prop:=(a.1=b.1∧Lk a.2 b.2∧qUq least a.2)∨(b.2.2.1=true∧qMB a.2)
theorem SimP.sim {least:Int} {a b:Int×PS} (h:SimP least a b):Sim a b:=h.elim (fun h=> .inl ⟨h.1,h.2.1⟩) .inr
theorem qMC {x:Nd} {q:PS} (h:q.2.1=true):(qD8 x q).2.2.1=true:=by
 unfold qD8;simp only;split
 ·rfl
 ·exact h
theorem qIc {w:List UInt8} {q:PS} (h:q.2.1=true):sIs w q=(false,tb q.1,q.2):=by unfold sIs;rw [if_pos h]
theorem qNH:∀(g:Nat) (j:SJ) (q:PS),q.2.1=true→(sP g j q).2.2.1=true
 |0,j,q,h=>h
 |g+1,.row level,q,h=>by simp only [sP];rw [if_pos h];exact h
 |g+1,.rl level a,q,h=>by simp only [sP];rw [if_pos h];exact h
 |g+1,.one,q,h=>by
  simp only [sP]
  rw [qIc (w:= [45]) h]
  simp only [Bool.false_eq_true,if_false]
  rw [qIc (w:= [40]) (q:=(tb q.1,q.2)) h]
  simp only [Bool.false_eq_true,if_false]
  rw [qIc (w:= [34]) (q:=(tb q.1,q.2)) h]
  simp only [Bool.false_eq_true,if_false]
  rw [qIc (w:= [35]) (q:=(tb q.1,q.2)) h]
  simp only [Bool.false_eq_true,if_false]
  split
  ·rw [qIc (w:= [40]) (q:=(wr (tb q.1),q.2)) h]
   simp [qLW]
  ·split
   ·exact qMC h
   ·split
    ·exact qMC h
    ·rfl
 |g+1,.call op kids,q,h=>by simp only [sP];rw [if_pos h];exact h
 |g+1,.arg,q,h=>by
  simp only [sP]
  rw [qIc (w:= [58]) (q:=(wr (tb q.1),q.2)) h]
  simp only [Bool.false_eq_true,and_false,if_false]
  exact qNH g _ _ h
theorem qId {x:Nd} {p q:PS} (h:Lk p q):Sim (qDO x p) (qD8 x q):=by
 obtain ⟨h1,h2,h3,h4⟩:=h
 unfold qDO qD8
 rw [h1,h2,h3]
 by_cases hl:60≤q.2.2.length
 ·refine .inr ⟨?_,.inl ?_⟩
  ·simp only;rw [if_pos (.inl (by omega))]
  ·rw [if_pos (.inr hl)]
 ·rw [if_neg (by simp;omega)]
  by_cases hn:qE0 x=false
  ·exact .inr ⟨by simp only;rw [if_pos (.inr hn)],.inr ⟨x,by simp,hn⟩⟩
  ·refine .inl ⟨rfl,rfl,?_,rfl,h4⟩
   simp only
   rw [if_neg]
   intro e
   rcases e with e|e
   ·omega
   ·exact hn e
theorem qRG {a b:Int×PS} (f:Int→Nd) (h:Sim a b):Sim (qDO (f a.1) a.2) (qD8 (f b.1) b.2):=by
 rcases h with ⟨h1,h2⟩|⟨h1,h2⟩
 ·rw [h1];exact qId h2
 ·exact .inr ⟨qMC h1,qCh h2⟩
theorem qKB {c:UInt8} (hc:c∈([45,40,41,44,58]:List UInt8)) {p q:PS} (h:Lk p q):(qY [c] p).1=(sIs [c] q).1∧Lk (qY [c] p).2 (sIs [c] q).2:=by
 obtain ⟨h1,h2,h3,h4⟩:=h
 obtain ⟨e1,e2,e3,e4⟩:=qTm hc h2 h4
 refine ⟨e1,?_,?_,?_,?_⟩
 ·rw [e3];exact h1
 ·rw [e4];exact h2
 ·rw [e3,e4];exact h3
 ·rw [e2]
theorem qRH {c:UInt8} (hc:c∈([45,40,41,44,58]:List UInt8)) {a b:Int×PS} (h:Sim a b):Sim (a.1,qCK [c] a.2) (b.1,if (sIs [c] b.2).1=true then (sIs [c] b.2).2 else qLW (sIs [c] b.2).2):=by
 rcases h with ⟨h1,h2⟩|⟨h1,h2⟩
 ·obtain ⟨e1,e2⟩:=qKB hc h2
  unfold qCK
  rw [if_neg (by rw [h2.1];simp),e1]
  by_cases ht:(sIs [c] b.2).1=true
  ·rw [if_pos ht,if_pos ht]
   exact .inl ⟨h1,e2⟩
  ·rw [if_neg ht,if_neg ht]
   exact .inr ⟨rfl,qFf _⟩
 ·refine .inr ⟨?_,qIC h2⟩
  rw [qIc h1]
  simp [qLW]
def qJK (G:Nat) (least:Int):Nat→Int×PS→Int×PS→Prop
 |0,x,res=>res=x
 |m+1,x,res=>if ((m:Int)+1)<least then res=x else ∃g,G≤g∧qJK G least m (sP g (.rl ((m:Int)+1) x.1) x.2) res
theorem qNI {G G':Nat} (h:G'≤G) {least:Int}:∀(m:Nat) {x res:Int×PS},qJK G least m x res→qJK G' least m x res
 |0,x,res,ht=>ht
 |m+1,x,res,ht=>by
  unfold qJK at ht⊢
  split
  ·rename_i hc;rw [if_pos hc] at ht;exact ht
  ·rename_i hc
   rw [if_neg hc] at ht
   obtain ⟨g,h1,h2⟩:=ht
   exact ⟨g,Nat.le_trans h h1,qNI h m h2⟩
theorem qMD {G:Nat} {least:Int}:∀(m:Nat) {x res:Int×PS},x.2.2.1=true→qJK G least m x res→res.2.2.1=true
 |0,x,res,hb,ht=>by unfold qJK at ht;rw [ht];exact hb
 |m+1,x,res,hb,ht=>by
  unfold qJK at ht
  split at ht
  ·rw [ht];exact hb
  ·obtain ⟨g,_,h2⟩:=ht
   exact qMD m (qNH g _ _ hb) h2
theorem qQF {G:Nat} {l:Nat} (hl0:1≤l) {g:Nat} (hg:G≤g):∀(m:Nat) {x y:Int×PS},l≤m→qJK G ((l:Int)+1) m x y→qJK G (l:Int) m x (sP g (.rl (l:Int) y.1) y.2)
 |0,x,y,hl,ht=>by omega
 |m+1,x,y,hl,ht=>by
  unfold qJK at ht⊢
  rw [if_neg (by omega)]
  by_cases e:l=m+1
  ·subst e
   rw [if_pos (by omega)] at ht
   subst ht
   refine ⟨g,hg,?_⟩
   have key:∀{z:Int×PS},qJK G ((m+1:Nat):Int) m z z:=fun {z}=>by
    cases m with
    |zero=>rfl
    |succ k=>unfold qJK;rw [if_pos (by omega)]
   exact key
  ·rw [if_neg (by omega)] at ht
   obtain ⟨g',h1,h2⟩:=ht
   exact ⟨g',h1,qQF hl0 hg m (by omega) h2⟩
theorem qRI {G:Nat} {q:PS} (hq:q.2.1=false):∀(k:Nat),k≤4→∀g,G+k≤g→∃g5,G≤g5∧qJK G (5-(k:Int)) 4 (sP g5 (.row 5) q) (sP g (.row (5-(k:Int))) q)
 |0,_,g,hg=>⟨g,hg,by
  unfold qJK
  rw [if_pos (by decide)]
  simp⟩
 |k+1,hk,0,hg=>by omega
 |k+1,hk,g+1,hg=>by
  obtain ⟨g5,h1,h2⟩:=qRI (G:=G) hq k (by omega) g (by omega)
  refine ⟨g5,h1,?_⟩
  have e:(5-((k+1:Nat):Int))=((4-k:Nat):Int):=by omega
  have e1:(5-(k:Int))=((4-k:Nat):Int)+1:=by omega
  rw [e1] at h2
  rw [e]
  have:=qQF (G:=G) (l:=4-k) (by omega) (g:=g) (by omega) 4 (by omega) h2
  have e2:sP (g+1) (.row ((4-k:Nat):Int)) q=sP g (.rl ((4-k:Nat):Int) (sP g (.row (((4-k:Nat):Int)+1)) q).1) (sP g (.row (((4-k:Nat):Int)+1)) q).2:=by
   simp only [sP]
   rw [if_neg (by rw [hq];simp),if_neg (by omega)]
  rw [e2]
  exact this
theorem qTG (H:RdOK) {r:List UInt8} (h:r.head?=some 35):∀(k:Nat) (n:Int),1≤n→n+k≤6→qRF r.tail n k=qI6 r n k
 |0,n,_,_=>rfl
 |k+1,n,h1,h2=>by
  obtain ⟨t,ht⟩:=H.n n ⟨h1,by omega⟩
  cases r with
  |nil=>cases h
  |cons c r=>
   simp only [List.head?_cons,zQ] at h
   subst h
   simp only [qRF,qI6,ht,List.tail_cons]
   have ih:=qTG H (r:=35::r) rfl k (n+1) (by omega) (by omega)
   simp only [List.tail_cons] at ih
   rw [ih]
   simp [List.isPrefixOf]
theorem qRJ {r:List UInt8}:∀(k:Nat) (n:Int) {m:Int},qI6 r n k=some m→n≤m∧m<n+k
 |0,n,m,h=>by cases h
 |k+1,n,m,h=>by
  simp only [qI6] at h
  split at h
  ·simp only [zQ] at h;omega
  ·have:=qRJ k (n+1) h;omega
theorem qEx (c:UInt8) (r:List UInt8):([c].isPrefixOf r=true)↔r.head?=some c:=by
 cases r with
 |nil=>simp [List.isPrefixOf]
 |cons d t=>simp [List.isPrefixOf];exact eq_comm
theorem qME {c:UInt8} {q:PS} (hb:q.2.1=false):(sIs [c] q).1=true↔(tb q.1).head?=some c:=by
 unfold sIs
 rw [if_neg (by rw [hb];simp)]
 split
 ·rename_i h;exact ⟨fun _=>(qEx c _).1 h,fun _=>rfl⟩
 ·rename_i h;exact ⟨fun e=>(by cases e),fun e=>absurd ((qEx c _).2 e) h⟩
theorem qRt (r:List UInt8):(wd r).all wch=true:=by
 unfold wd
 induction r with
 |nil=>rfl
 |cons c r ih=>
  by_cases h:wch c=true
  ·simp only [List.takeWhile_cons,h,if_true,List.all_cons,Bool.true_and];exact ih
  ·simp [List.takeWhile_cons,h]
def qTo (N:Nat):Prop:=∀(p q:PS) (deep:Int) (f g:Nat),Lk p q→(tb p.1).length=N→0≤deep→deep+N≤400→20*N+4≤f→20*N+5≤g→Sim (pP f (.un deep) p) (sP g (.row 5) q)
def qTp (N:Nat):Prop:=∀(m:Nat),m≤4→∀(p q:PS) (deep least a:Int) (f:Nat) (res:Int×PS),Lk p q→(tb p.1).length=N→1≤least→0≤deep→deep+N≤400→20*N+5≤f→
 (qAy (tb p.1)=0∨lvl (qAy (tb p.1))≤m)→qJK (20*N+5) least m (a,q) res→SimP least (pP f (.loop least deep a) p) res
def qTH (N:Nat):Prop:=∀(p q:PS) (deep:Int) (k f g:Nat),k≤4→Lk p q→(tb p.1).length=N→0≤deep→deep+N≤400→20*N+6≤f→20*N+10≤g→SimP (5-(k:Int)) (pP f (.bin (5-(k:Int)) deep) p) (sP g (.row (5-(k:Int))) q)
def qTq (N:Nat):Prop:=∀(p q:PS) (deep op:Int) (kids:List Int) (f g:Nat),Lk p q→(tb p.1).length=N→0≤deep→deep+N+1≤400→20*N+8≤f→20*N+12≤g→Sim (pP f (.args op deep kids) p) (sP g (.call op kids) q)
theorem qU0 (N:Nat) (hB:∀M,M<N→qTH M) (hT:∀M,M<N→qTp M):qTp N:=by
 intro m
 induction m with
 |zero=>
  intro hm p q deep least a f res hl hN hle hd hdN hf hpk ht
  have h0:qAy (tb p.1)=0:=by
   rcases hpk with h|h
   ·exact h
   ·have:=(qRs (op:=qAy (tb p.1))).1
    omega
  cases f with
  |zero=>omega
  |succ f=>
   simp only [pP]
   rw [if_neg (by rw [hl.1];simp),if_pos (.inl h0)]
   unfold qJK at ht
   subst ht
   refine .inl ⟨rfl,⟨hl.1,hl.2.1,hl.2.2.1,?_⟩,.inl ?_⟩
   ·simp only;rw [qCR];exact hl.2.2.2
   ·simp only;rw [qCR];exact h0
 |succ m ih=>
  intro hm p q deep least a f res hl hN hle hd hdN hf hpk ht
  unfold qJK at ht
  by_cases hc:(m:Int)+1<least
  ·rw [if_pos hc] at ht
   subst ht
   cases f with
   |zero=>omega
   |succ f=>
    have hst:qAy (tb p.1)=0∨lvl (qAy (tb p.1))<least:=by
     rcases hpk with h|h
     ·exact .inl h
     ·right;push_cast at h;omega
    simp only [pP]
    rw [if_neg (by rw [hl.1];simp),if_pos hst]
    refine .inl ⟨rfl,⟨hl.1,hl.2.1,hl.2.2.1,?_⟩,?_⟩
    ·simp only;rw [qCR];exact hl.2.2.2
    ·unfold qUq;simp only;rw [qCR];exact hst
  ·rw [if_neg hc] at ht
   obtain ⟨g,hg,ht⟩:=ht
   cases g with
   |zero=>omega
   |succ g=>
    have hin:=qTn (m:=(m:Int)+1) (by omega) (tb q.1)
    have hpq:tb p.1=tb q.1:=hl.2.2.2
    simp only [sP] at ht
    rw [if_neg (by rw [hl.2.1];simp)] at ht
    have ho:sOp ((m:Int)+1) q=(qDt ((m:Int)+1) (tb q.1) qB8,(if qDt ((m:Int)+1) (tb q.1) qB8=0 then tb q.1 else (tb q.1).drop (qAO (qDt ((m:Int)+1) (tb q.1) qB8)).size),q.2):=by
     unfold sOp;rw [if_neg (by rw [hl.2.1];simp)]
    by_cases hop:qAy (tb q.1)≠0∧lvl (qAy (tb q.1))=(m:Int)+1
    ·rw [if_pos hop] at hin
     rw [hin,if_neg hop.1] at ho
     rw [ho] at ht
     simp only at ht
     rw [if_neg hop.1] at ht
     cases f with
     |zero=>omega
     |succ f=>
      simp only [pP]
      rw [if_neg (by rw [hl.1];simp),if_neg (by rw [hpq];exact fun e=>e.elim (fun e=>hop.1 e) (fun e=>by have:=hop.2;omega))]
      rw [hpq]
      rcases qSP (tb q.1) with h0|⟨_,_,hsg⟩
      ·exact absurd h0 hop.1
      have hsz:(sgn (tb q.1)).length=(qAO (qAy (tb q.1))).size:=by rw [hsg,qu]
      have hpos:0<(sgn (tb q.1)).length:=by
       cases hh:sgn (tb q.1) with
       |nil=>
        exfalso
        apply hop.1
        unfold qAy
        rw [hh]
        simp
       |cons c t=>simp
      have hdrop:(tb ((tb q.1).drop (sgn (tb q.1)).length)).length<N:=by
       have h1:=q8 ((tb q.1).drop (sgn (tb q.1)).length)
       have h2:(sgn (tb q.1)).length≤(tb q.1).length∨(tb q.1).length<(sgn (tb q.1)).length:=by omega
       rw [List.length_drop] at h1
       have h3:(tb q.1).length=N:=by rw [←hpq];exact hN
       have h4:0<N:=by
        rcases Nat.eq_zero_or_pos N with h|h
        ·exfalso
         rw [h] at h3
         have:tb q.1= []:=zAi h3
         apply hop.1
         rw [this];rfl
        ·exact h
       omega
      have hlk:Lk ((tb q.1).drop (sgn (tb q.1)).length,p.2) ((tb q.1).drop (qAO (qAy (tb q.1))).size,q.2):=⟨hl.1,hl.2.1,hl.2.2.1,by simp only;rw [hsz]⟩
      have hb:=hB _ hdrop ((tb q.1).drop (sgn (tb q.1)).length,p.2) ((tb q.1).drop (qAO (qAy (tb q.1))).size,q.2) deep (3-m) f g (by omega) hlk rfl hd (by omega) (by omega) (by omega)
      have e5:(5-((3-m:Nat):Int))=(m:Int)+1+1:=by omega
      rw [e5] at hb
      rw [hop.2]
      have hlenA:=qDk f (.bin ((m:Int)+1+1) deep) ((tb q.1).drop (sgn (tb q.1)).length,p.2)
      generalize pP f (.bin ((m:Int)+1+1) deep) ((tb q.1).drop (sgn (tb q.1)).length,p.2)=A at hb hlenA⊢
      generalize hBB:sP g (.row ((m:Int)+1+1)) ((tb q.1).drop (qAO (qAy (tb q.1))).size,q.2)=B at hb ht
      rcases hb with ⟨b1,b2,b3⟩|⟨b1,b2⟩
      ·rw [b1]
       have hs:=qId (x:=ndK 5 (qAy (tb q.1)) [a,B.1]) b2
       generalize hC:qDO (ndK 5 (qAy (tb q.1)) [a,B.1]) A.2=C at hs⊢
       generalize qD8 (ndK 5 (qAy (tb q.1)) [a,B.1]) B.2=D at hs ht
       rcases hs with ⟨c1,c2⟩|⟨c1,c2⟩
       ·have hrC:C.2.1=A.2.1:=by rw [←hC];exact qA4 _ _
        have hN3:(tb C.2.1).length<N:=by
         rw [hrC]
         exact Nat.lt_of_le_of_lt hlenA hdrop
        refine hT _ hN3 (m+1) hm C.2 D.2 deep least C.1 f res c2 rfl hle hd (by omega) (by omega) ?_ ?_
        ·rw [hrC]
         rcases b3 with h|h
         ·exact .inl h
         ·right;push_cast;omega
        ·rw [c1]
         unfold qJK
         rw [if_neg hc]
         exact ⟨g,by omega,qNI (by omega) m ht⟩
       ·exact .inr ⟨qMD _ (qNH g _ _ c1) ht,qCv f _ _ c2⟩
      ·exact .inr ⟨qMD _ (qNH g _ _ (qMC b1)) ht,qCv f _ _ (qCh b2)⟩
    ·rw [if_neg hop] at hin
     rw [hin,if_pos rfl] at ho
     rw [ho] at ht
     simp only at ht
     rw [if_pos trivial] at ht
     refine ih (by omega) p (tb q.1,q.2) deep least a f res ⟨hl.1,hl.2.1,hl.2.2.1,by simp only;rw [qCR];exact hpq⟩ hN hle hd hdN hf ?_ ht
     rw [hpq]
     rw [hpq] at hpk
     by_cases h0:qAy (tb q.1)=0
     ·exact .inl h0
     ·right
      rcases hpk with h|h
      ·exact absurd h h0
      ·have:lvl (qAy (tb q.1))≠(m:Int)+1:=fun e=>hop ⟨h0,e⟩
       push_cast at h
       omega
theorem qTr (N:Nat) (hA:qTo N) (hT:∀M,M≤N→qTp M):qTH N:=by
 intro p q deep k f g hk hl hN hd hdN hf hg
 obtain ⟨g5,hg5,ht⟩:=qRI (G:=20*N+5) hl.2.1 k hk g (by omega)
 cases f with
 |zero=>omega
 |succ f=>
  simp only [pP]
  have ha:=hA p q deep f g5 hl hN hd hdN (by omega) hg5
  have hlen:=qDk f (.un deep) p
  generalize pP f (.un deep) p=A at ha hlen⊢
  generalize sP g5 (.row 5) q=B at ha ht
  rcases ha with ⟨h1,h2⟩|⟨h1,h2⟩
  ·have hM:(tb A.2.1).length≤N:=by omega
   refine hT _ hM 4 (by omega) A.2 B.2 deep (5-(k:Int)) A.1 f _ h2 rfl (by omega) hd (by omega) (by omega) (.inr ?_) ?_
   ·have:=(qRs (op:=qAy (tb A.2.1))).2;omega
   ·rw [h1];exact qNI (by omega) 4 ht
  ·exact .inr ⟨qMD 4 h1 ht,qCv f _ _ h2⟩
theorem qTs (H:RdOK) (N:Nat) (hB:qTH N) (hC:∀M,M<N→qTq M):qTq N:=by
 intro p q deep op kids f g hl hN hd hdN hf hg
 cases f with
 |zero=>omega
 |succ f=>
 cases g with
 |zero=>omega
 |succ g=>
 cases g with
 |zero=>omega
 |succ g=>
 have hpq:=hl.2.2.2
 have hpb:¬p.2.1=true:=by rw [hl.1];simp
 have hqb:¬q.2.1=true:=by rw [hl.2.1];simp
 have harg:Sim (qEV (qBG p) (fun p=>pP f (.bin 1 (deep+1)) p)) (sP (g+1) .arg q)∧(tb (qEV (qBG p) (fun p=>pP f (.bin 1 (deep+1)) p)).2.1).length≤N:=by
  refine ⟨?_,?_⟩
  ·have hw:Lk (wr (tb p.1),p.2) (wr (tb q.1),q.2):=⟨hl.1,hl.2.1,hl.2.2.1,by rw [hpq]⟩
   obtain ⟨e1,e2⟩:=qKB (c:=58) (by decide) hw
   simp only [sP]
   unfold qEV qBG
   simp only
   rw [hpq] at e1 e2⊢
   by_cases hc:(qAN (BR (wd (tb q.1)))).2.2.2.2=true∧(qY [58] (wr (tb q.1),p.2)).1=true
   ·rw [if_pos hc,if_pos ⟨hc.1,e1▸hc.2⟩]
    simp only
    rw [e2.2.2.2]
    by_cases h2:(qAN (BR (wd (tb (sIs [58] (wr (tb q.1),q.2)).2.1)))).2.2.2.2=true
    ·rw [if_pos h2,h2]
     simp only [Bool.not_true,Bool.or_false]
     exact qId ⟨e2.1,e2.2.1,e2.2.2.1,rfl⟩
    ·rw [if_neg h2]
     refine .inr ⟨rfl,qCh (.inl ?_)⟩
     simp only
     have h2:(qAN (BR (wd (tb (sIs [58] (wr (tb q.1),q.2)).2.1)))).2.2.2.2=false:=by simpa using h2
     rw [h2];simp
   ·rw [if_neg hc,if_neg (fun e=>hc ⟨e.1,e1.symm▸e.2⟩)]
    simp only
    have:=hB p (tb q.1,q.2) (deep+1) 4 f g (by omega) ⟨hl.1,hl.2.1,hl.2.2.1,by simp only;rw [qCR];exact hpq⟩ hN (by omega) (by omega) (by omega) (by omega)
    exact this.sim
  ·unfold qEV
   split
   ·rw [qA4];have:=qID p;omega
   ·have h1:=qDk f (.bin 1 (deep+1)) (qBG p).2
    have h2:=qID p
    exact Nat.le_trans h1 (by omega)
 obtain ⟨harg,hal⟩:=harg
 simp only [pP]
 rw [if_neg hpb]
 have hs:sP (g+1+1) (.call op kids) q=(if (sIs [41] (sP (g+1) .arg q).2).1=true then qD8 (ndK 6 op (kids++ [(sP (g+1) .arg q).1])) (sIs [41] (sP (g+1) .arg q).2).2
  else sP (g+1) (.call op (kids++ [(sP (g+1) .arg q).1])) (if (sIs [44] (sIs [41] (sP (g+1) .arg q).2).2).1=true then (sIs [44] (sIs [41] (sP (g+1) .arg q).2).2).2 else qLW (sIs [44] (sIs [41] (sP (g+1) .arg q).2).2).2)):=by
  rw [sP]
  rw [if_neg hqb]
 rw [hs]
 generalize qEV (qBG p) (fun p=>pP f (.bin 1 (deep+1)) p)=Q at harg hal⊢
 generalize sP (g+1) .arg q=A at harg⊢
 rcases harg with ⟨h1,h2⟩|⟨h1,h2⟩
 ·have hb2:=h2.2.1
  obtain ⟨c1,c2⟩:=qKB (c:=44) (by decide) h2
  have i41:=qME (c:=41) hb2
  have i44:=qME (c:=44) hb2
  by_cases hc:(qY [44] Q.2).1=true
  ·rw [if_pos hc]
   have hh:=i44.1 (c1▸hc)
   have n41:¬(sIs [41] A.2).1=true:=fun e=>by rw [i41.1 e] at hh;cases hh
   rw [if_neg n41]
   have e41:(sIs [41] A.2).2=(tb A.2.1,A.2.2):=by
    unfold sIs at n41⊢
    rw [if_neg (by rw [hb2];simp)] at n41⊢
    split
    ·rename_i hx;rw [if_pos hx] at n41;exact absurd rfl n41
    ·rfl
   rw [e41]
   have e44:sIs [44] (tb A.2.1,A.2.2)=sIs [44] A.2:=by unfold sIs;simp only [qCR]
   rw [e44,if_pos (c1▸hc),h1]
   have hlt:=qDj (w:= [44]) (by simp) hc
   have htb:=q8 (qY [44] Q.2).2.1
   exact hC _ (by omega) (qY [44] Q.2).2 (sIs [44] A.2).2 deep op _ f (g+1) c2 rfl hd (by omega) (by omega) (by omega)
  ·rw [if_neg hc]
   have et:(qY [44] Q.2).2=(tb Q.2.1,Q.2.2):=by
    unfold qY at hc⊢
    split
    ·rename_i hx;rw [if_pos hx] at hc;exact absurd rfl hc
    ·rfl
   rw [et]
   have hl2:Lk (tb Q.2.1,Q.2.2) A.2:=⟨h2.1,h2.2.1,h2.2.2.1,by simp only;rw [qCR];exact h2.2.2.2⟩
   have hm:=qRH (c:=41) (by decide) (a:=(A.1,(tb Q.2.1,Q.2.2))) (b:=(A.1,A.2)) (.inl ⟨rfl,hl2⟩)
   by_cases h41:(sIs [41] A.2).1=true
   ·rw [if_pos h41]
    simp only [h41,if_true] at hm
    have:=qRG (fun _=>ndK 6 op (kids++ [A.1])) hm
    rw [h1]
    exact this
   ·rw [if_neg h41]
    have e41:(sIs [41] A.2).2=(tb A.2.1,A.2.2):=by
     unfold sIs at h41⊢
     rw [if_neg (by rw [hb2];simp)] at h41⊢
     split
     ·rename_i hx;rw [if_pos hx] at h41;exact absurd rfl h41
     ·rfl
    have e44:sIs [44] (tb A.2.1,A.2.2)=sIs [44] A.2:=by unfold sIs;simp only [qCR]
    rw [e41,e44,if_neg (c1▸hc)]
    refine .inr ⟨qNH _ _ _ rfl,qCh ?_⟩
    simp only [if_neg h41] at hm
    rcases hm with ⟨_,_,hb,_⟩|⟨_,hdm⟩
    ·simp [qLW] at hb
    ·exact hdm
 ·have e41:sIs [41] A.2=(false,tb A.2.1,A.2.2):=qIc h1
  have e44:sIs [44] (tb A.2.1,A.2.2)=(false,tb (tb A.2.1),A.2.2):=qIc h1
  rw [e41]
  simp only [Bool.false_eq_true,if_false]
  rw [e44]
  simp only [Bool.false_eq_true,if_false]
  refine .inr ⟨qNH _ _ _ rfl,?_⟩
  split
  ·exact qCv f _ _ (qEW h2)
  ·exact qCh (qIC (qEW h2))
theorem qRK {c d:UInt8} (h:c≠d) {r:List UInt8} (hr:r.head?=some c):¬r.head?=some d:=by rw [hr];simpa using h
theorem qTt (H:RdOK) (N:Nat) (hA:∀M,M<N→qTo M) (hB:∀M,M<N→qTH M) (hC:∀M,M<N→qTq M):qTo N:=by
 intro p q deep f g hl hN hd hdN hf hg
 cases f with
 |zero=>omega
 |succ f=>
 cases f with
 |zero=>omega
 |succ f=>
 cases g with
 |zero=>omega
 |succ g=>
 cases g with
 |zero=>omega
 |succ g=>
 have hpq:=hl.2.2.2
 have hpb:¬p.2.1=true:=by rw [hl.1];simp
 have hqb:¬q.2.1=true:=by rw [hl.2.1];simp
 have hq0:=hl.2.1
 have hs:sP (g+1+1) (.row 5) q=sP (g+1) .one q:=by
  rw [sP,if_neg hqb,if_pos rfl]
 rw [hs]
 obtain ⟨e1,e2⟩:=qKB (c:=45) (by decide) hl
 rw [pP]
 rw [if_neg (by intro e;rcases e with e|e;omega;exact hpb e)]
 by_cases hc:(qY [45] p).1=true
 ·rw [if_pos hc]
  simp only [sP]
  rw [if_pos (e1▸hc)]
  have hlt:=qDj (w:= [45]) (by simp) hc
  have htb:=q8 (qY [45] p).2.1
  exact qRG (fun k=>ndK 4 0 [k]) (hA _ (by omega) _ _ (deep+1) (f+1) g e2 rfl (by omega) (by omega) (by omega) (by omega))
 ·rw [if_neg hc]
  have hp':(qY [45] p).2=(tb p.1,p.2):=by
   unfold qY at hc⊢
   split
   ·rename_i hx;rw [if_pos hx] at hc;exact absurd rfl hc
   ·rfl
  have hq':(sIs [45] q).2=(tb q.1,q.2):=by
   have hc:¬(sIs [45] q).1=true:=e1▸hc
   unfold sIs at hc⊢
   rw [if_neg hqb] at hc⊢
   split
   ·rename_i hx;rw [if_pos hx] at hc;exact absurd rfl hc
   ·rfl
  rw [hp']
  simp only [sP]
  rw [if_neg (e1▸hc),hq']
  simp only [pP,qCR]
  have hl2:Lk (tb p.1,p.2) (tb q.1,q.2):=⟨hl.1,hl.2.1,hl.2.2.1,by simp only [qCR];exact hpq⟩
  obtain ⟨f1,f2⟩:=qKB (c:=40) (by decide) hl2
  have i40:=qME (c:=40) (q:=(tb q.1,q.2)) hq0
  have i34:=qME (c:=34) (q:=(tb q.1,q.2)) hq0
  have i35:=qME (c:=35) (q:=(tb q.1,q.2)) hq0
  simp only [qCR] at i40 i34 i35
  rw [hpq] at hN f1 f2⊢
  by_cases h34:(tb q.1).head?=some 34
  ·rw [if_pos h34,if_neg (fun e=>qRK (by decide) h34 (i40.1 e)),if_pos (i34.2 h34)]
   have es:(sIs [34] (tb q.1,q.2)).2.1=(tb q.1).tail:=by
    have:=i34.2 h34
    unfold sIs at this⊢
    rw [if_neg hqb] at this⊢
    simp only [qCR] at this⊢
    split
    ·simp
    ·rename_i hx;rw [if_neg hx] at this;cases this
   rw [es]
   cases hqr:qB5 [] (tb q.1).tail with
   |none=>exact .inr ⟨rfl,.inl rfl⟩
   |some st=>
    obtain ⟨s,t⟩:=st
    exact qId ⟨hl.1,hl.2.1,hl.2.2.1,rfl⟩
  ·rw [if_neg h34]
   by_cases h35:(tb q.1).head?=some 35
   ·rw [if_pos h35,if_neg (fun e=>qRK (by decide) h35 (i40.1 e)),if_neg (fun e=>h34 (i34.1 e)),if_pos (i35.2 h35)]
    have es:(sIs [35] (tb q.1,q.2)).2.1=(tb q.1).tail:=by
     have:=i35.2 h35
     unfold sIs at this⊢
     rw [if_neg hqb] at this⊢
     simp only [qCR] at this⊢
     split
     ·simp
     ·rename_i hx;rw [if_neg hx] at this;cases this
    rw [es,qTG H h35 5 1 (by omega) (by omega)]
    cases he:qI6 (tb q.1) 1 5 with
    |some n=>
     simp only
     obtain ⟨t,ht⟩:=H.n n (by have:=qRJ 5 1 he;omega)
     have hsz:(qf n).size=t.length+1:=by rw [←qu,ht];rfl
     refine qId ⟨hl.1,hl.2.1,hl.2.2.1,?_⟩
     simp only
     rw [hsz]
     cases hr:tb q.1 with
     |nil=>rw [hr] at h35;cases h35
     |cons c r=>rfl
    |none=>
     simp only
     rw [if_neg (fun e=>e.1 h35)]
     have hw:wd (tb q.1)= []:=by
      cases hr:tb q.1 with
      |nil=>rw [hr] at h35;cases h35
      |cons c r=>
       rw [hr] at h35
       simp only [List.head?_cons,zQ] at h35
       subst h35
       rfl
     rw [hw,if_neg (fun e=>H.v0 e.2),if_neg (by rw [H.p0];simp),H.f0]
     exact .inr ⟨rfl,qFf _⟩
   ·rw [if_neg h35]
    simp only
    by_cases h40:(qY [40] (tb q.1,p.2)).1=true
    ·rw [if_pos ⟨h35,h40⟩,if_pos (f1▸h40)]
     have hlt:=qDj (w:= [40]) (by simp) h40
     simp only [qCR] at hlt
     have htb:=q8 (qY [40] (tb q.1,p.2)).2.1
     have hb:=(hB _ (by omega) _ _ (deep+1) 4 f g (by omega) f2 rfl (by omega) (by omega) (by omega) (by omega)).sim
     have e5:(5-((4:Nat):Int))=1:=by omega
     rw [e5] at hb
     exact qRH (by decide) hb
    ·have n40:¬(sIs [40] (tb q.1,q.2)).1=true:=f1▸h40
     have n34:¬(sIs [34] (tb q.1,q.2)).1=true:=fun e=>h34 (i34.1 e)
     have n35:¬(sIs [35] (tb q.1,q.2)).1=true:=fun e=>h35 (i35.1 e)
     rw [if_neg (fun e=>h40 e.2),if_neg n40,if_neg n34,if_neg n35]
     have hl3:Lk (wr (tb q.1),p.2) (wr (tb q.1),q.2):=⟨hl.1,hl.2.1,hl.2.2.1,rfl⟩
     cases hfn:qF4 (wd (tb q.1)) 1 10 with
     |some op=>
      simp only
      obtain ⟨z1,z2⟩:=H.f _ _ hfn
      rw [if_neg (by rw [z1];simp),if_neg (by rw [z2];simp)]
      have hne:1≤(wd (tb q.1)).length:=by
       cases hw:wd (tb q.1) with
       |nil=>rw [hw,H.f0] at hfn;cases hfn
       |cons c t=>simp
      have hlen:(wr (tb q.1)).length+1≤N:=by
       have:=congrArg List.length (wdr (tb q.1))
       simp only [List.length_append] at this
       omega
      obtain ⟨k1,k2⟩:=qKB (c:=40) (by decide) hl3
      cases f with
      |zero=>omega
      |succ f=>
       simp only [pP]
       by_cases ht:(sIs [40] (wr (tb q.1),q.2)).1=true
       ·rw [if_pos ht]
        have em:qCK [40] (wr (tb q.1),p.2)=(qY [40] (wr (tb q.1),p.2)).2:=by
         unfold qCK
         rw [if_neg hpb,if_pos (k1▸ht)]
        rw [em]
        have hlt:=qDj (w:= [40]) (by simp) (k1.symm▸ht)
        have h2:=q8 (wr (tb q.1))
        have h3:=q8 (qY [40] (wr (tb q.1),p.2)).2.1
        simp only at hlt
        exact hC _ (by omega) _ _ deep op [] f g k2 rfl hd (by omega) (by omega) (by omega)
       ·rw [if_neg ht]
        have em:qCK [40] (wr (tb q.1),p.2)=qRr (qY [40] (wr (tb q.1),p.2)).2:=by
         unfold qCK
         rw [if_neg hpb,if_neg (k1▸ht)]
        rw [em]
        exact .inr ⟨rfl,qCv f _ _ (qFf _)⟩
     |none=>
      simp only
      by_cases hw0:wd (tb q.1)= []
      ·rw [hw0,if_neg (fun e=>H.v0 e.2),if_neg (by rw [H.p0];simp),if_neg (fun e=>e.2 rfl),if_neg (by rw [H.p0];simp)]
       exact .inr ⟨rfl,qFf _⟩
      ·by_cases hv:(qi (BR (wd (tb q.1)))).2.2.2=true
       ·rw [if_pos ⟨hv,H.v _ (qRt _) hw0 hv⟩,if_pos ⟨hv,hw0⟩]
        exact qId hl3
       ·have nv1:¬((qi (BR (wd (tb q.1)))).2.2.2=true∧((qi (BR (wd (tb q.1)))).1=1∨(qi (BR (wd (tb q.1)))).1=3)):=fun e=>hv e.1
        have nv2:¬((qi (BR (wd (tb q.1)))).2.2.2=true∧wd (tb q.1)≠ []):=fun e=>hv e.1
        rw [if_neg nv1,if_neg nv2]
        by_cases hp:(qAN (BR (wd (tb q.1)))).2.2.2.2=true
        ·rw [if_pos hp,if_pos hp]
         exact qId hl3
        ·rw [if_neg hp,if_neg hp]
         exact .inr ⟨rfl,qFf _⟩
theorem qTu (H:RdOK) (N:Nat):qTo N∧qTp N∧qTH N∧qTq N:=by
 induction N using Nat.strongRecOn with
 |ind N ih=>
  have hA:=qTt H N (fun M h=>(ih M h).1) (fun M h=>(ih M h).2.2.1) (fun M h=>(ih M h).2.2.2)
  have hT:=qU0 N (fun M h=>(ih M h).2.2.1) (fun M h=>(ih M h).2.1)
  have hB:=qTr N hA (fun M h=>(Nat.lt_or_eq_of_le h).elim (fun h=>(ih M h).2.1) (fun h=>h▸hT))
  exact ⟨hA,hT,hB,qTs H N hB (fun M h=>(ih M h).2.2.2)⟩
theorem qAP (r:List UInt8):(BR r).toList=r:=qBA r
theorem qc (r:List UInt8):(BR r).size=r.length:=by rw [←qu,qAP]
theorem qI7 (s:BA):BR s.toList=s:=qDT (qAP _)
theorem qFr (r:List UInt8) (a b:Nat):(BR r).extract a b=BR ((r.take b).drop a):=by
 refine qDT ?_
 rw [qAP,Go.Lib.toList_data,ByteArray.data_extract,Array.toList_extract]
 simp [BR,List.extract_eq_take_drop,List.drop_take]
theorem qNJ (a b:List UInt8):BR a++BR b=BR (a++b):=by
 refine qDT ?_
 rw [qAP,Go.Lib.toList_data]
 simp [BR]
theorem qUF:∀i:Fin 256,((⟨#[32]⟩:BA).data.toList.contains (UInt8.ofNat i.val))=(UInt8.ofNat i.val==32):=by decide+kernel
def wcS:BA:=⟨#[65,66,67,68,69,70,71,72,73,74,75,76,77,78,79,80,81,82,83,84,85,86,87,88,89,90,48,49,50,51,52,53,54,55,56,57,36]⟩
theorem qUG:∀i:Fin 256,(wcS.data.toList.contains (UInt8.ofNat i.val))=wch (UInt8.ofNat i.val):=by decide+kernel
theorem qRu {f g:UInt8→Bool} (h:∀i:Fin 256,f (UInt8.ofNat i.val)=g (UInt8.ofNat i.val)) (c:UInt8):f c=g c:=by
 have h:=h ⟨c.toNat,UInt8.toNat_lt c⟩
 have e:UInt8.ofNat c.toNat=c:=by simp
 simp only [e] at h
 exact h
theorem qSk (r:List UInt8):Ev (qBI · (BR r) ⟨#[32]⟩) (BR (tb r)):=by
 refine ⟨1,fun n hn=>?_⟩
 obtain ⟨m,rfl,hm⟩:=up1 hn
 show zZ (BR r) ⟨#[32]⟩=_
 unfold zZ
 rw [if_pos ⟨by decide,by decide+kernel⟩]
 unfold Lib.trimLeftS tb
 have:(fun c=>(⟨#[32]⟩:BA).data.toList.contains c)=(fun c=>c==32):=funext (qRu qUF)
 rw [this]
 rfl
end Go.Proofs.YtilkdjfhbahhdaaGreatDoor.KFnExactReadMacro

