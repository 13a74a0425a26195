import Derived.Test.YthhngmnbcmkhpaaGreatDoorTFnFormulaTexts
import Derived.Test.YthhngmnbcmkhpaaGreatDoorE32
import Derived.Lib.Strings
namespace Go.Proofs.YthhngmnbcmkhpaaGreatDoor.KFnFormulaTexts
open Go.Eng
set_option linter.unusedVariables false
set_option linter.unusedSimpArgs false
def Ev {R:Type} (F:Nat→Option R) (r:R):Prop:=∃n0,∀n,n0≤n→F n=some r
theorem qAl (s:ByteArray):s.toList.length=s.size:=by rw [Go.Lib.toList_data];rfl
theorem q9:(ByteArray.mk #[]).toList= []:=by decide+kernel
theorem qb {x:Int} (h: -9223372036854775808≤x∧x≤9223372036854775807):IntKind.i64.wrap x=x:=by
 unfold IntKind.wrap
 have e1:(2:Int)^(64-1)=9223372036854775808:=by decide
 have e2:(2:Int)^64=18446744073709551616:=by decide
 simp only [IntKind.signed,IntKind.bits,Bool.true_and,decide_eq_true_eq,e1,e2]
 split<;>omega
theorem qLa (x:Int): -9223372036854775808≤IntKind.i64.wrap x∧IntKind.i64.wrap x≤9223372036854775807:=by
 unfold IntKind.wrap
 have e1:(2:Int)^(64-1)=9223372036854775808:=by decide
 have e2:(2:Int)^64=18446744073709551616:=by decide
 simp only [IntKind.signed,IntKind.bits,Bool.true_and,decide_eq_true_eq,e1,e2]
 split<;>omega
theorem qNf {s:ByteArray} {i:Nat} (h:i<s.size):∃c,s.toList[i]?=some c:=⟨_,List.getElem?_eq_getElem (by rw [qAl];exact h)⟩
theorem qEj {α:Type} {s:List α} {i:Nat} {c:α} (h:s[i]?=some c):s.drop i=c::s.drop (i+1):=by
 obtain ⟨h1,rfl⟩:=List.getElem?_eq_some_iff.1 h
 exact List.drop_eq_getElem_cons h1
theorem qc {V R:Type} {B:V→Tr (V⊕R)} {m:Nat} {v v':V} (h:(B v).run=some (.inl v')):zD B (m+1) v=zD B m v':=by simp only [zD,h]
theorem qP {V R:Type} {B:V→Tr (V⊕R)} {m:Nat} {v:V} {r:R} (h:(B v).run=some (.inr r)):zD B (m+1) v=some r:=by simp only [zD,h]
theorem up1 {n n0:Nat} (h:n0+1≤n):∃m,n=m+1∧n0≤m:=⟨n-1,by omega,by omega⟩
theorem qC {α:Type} (x:α):(Tr.done x).run=some x:=rfl
theorem qD {α:Type}:(Tr.fail:Tr α).run=none:=rfl
theorem qF {α:Type} (b:Bool) (t f:Tr α):(Tr.ask b t f).run=if b=true then t.run else f.run:=by cases b<;>rfl
theorem qG {α β:Type} (o:Option β) (k:β→Tr α):(Tr.opt o k).run=o.bind fun x=>(k x).run:=by cases o<;>rfl
theorem qH {α β γ:Type} (x:β) (k:β→Tr α) (l:γ→Tr α):(Tr.alt (.inl x) k l).run=(k x).run:=rfl
theorem qJ {α β γ:Type} (x:γ) (k:β→Tr α) (l:γ→Tr α):(Tr.alt (.inr x) k l).run=(l x).run:=rfl
theorem qCG {α R:Type} {F:α→Nat→Option R} {f:α→R}:∀(l:List α),(∀c∈l,Ev (F c) (f c))→∃n0,∀n,n0≤n→∀c∈l,F c n=some (f c)
 | [],_=>⟨0,fun n _ c hc=>by cases hc⟩
 |a::l,h=>by
  obtain ⟨n1,h1⟩:=h a (List.mem_cons_self ..)
  obtain ⟨n2,h2⟩:=qCG l fun c hc=>h c (List.mem_cons_of_mem _ hc)
  exact ⟨n1+n2,fun n hn c hc=>by
   rcases List.mem_cons.1 hc with rfl|hc
   ·exact h1 n (by omega)
   ·exact h2 n (by omega) c hc⟩
theorem qOK {R:Type} {B:List (List PV)×List (List PV)×Int→Tr ((List (List PV)×List (List PV)×Int)⊕R)} {rows:List (List PV)} {r:R}
  (hs:∀(i:Nat) (e:List PV),rows[i]?=some e→(B (rows,rows,(i:Int))).run=some (.inl (rows,rows,((i+1:Nat):Int)))) (he:(B (rows,rows,(rows.length:Int))).run=some (.inr r)):
  ∀(m i M:Nat),rows.length=i+m→m+1≤M→zD B M (rows,rows,(i:Int))=some r
 |m,i,0,h1,h2=>by omega
 |0,i,M+1,h1,h2=>by
  have hi:i=rows.length:=by omega
  subst hi
  rw [qP he]
 |m+1,i,M+1,h1,h2=>by
  have hg:=List.getElem?_eq_getElem (l:=rows) (i:=i) (by omega)
  rw [qc (hs i _ hg)]
  exact qOK hs he m (i+1) M (by omega) (by omega)
theorem qA {α β:Type} {o:Option β} {x:β} {k:β→Tr α} {y:Option α} (h:o=some x) (h2:(k x).run=y):(Tr.opt o k).run=y:=by rw [h];exact h2
theorem qN {α:Type} {b:Bool} {t f:Tr α} {y:Option α} (h:b=true) (h2:t.run=y):(Tr.ask b t f).run=y:=by rw [h];exact h2
theorem qO {α:Type} {b:Bool} {t f:Tr α} {y:Option α} (h:b=false) (h2:f.run=y):(Tr.ask b t f).run=y:=by rw [h];exact h2
theorem qE (b:Bool):zA3 (⟨(.c (.p (.b b))),[],[]⟩:Res)=true:=rfl
theorem qK (x:Int):zA3 (⟨(.c (.p (.i .i64 x))),[],[]⟩:Res)=true:=rfl
theorem qM (x:ByteArray):zA3 (⟨(.c (.p (.s x))),[],[]⟩:Res)=true:=rfl
theorem qCV (x lo hi:Int):Ev (qBI · x lo hi) (decide (lo≤x∧x≤hi)):=by
 refine ⟨1,fun n hn=>?_⟩
 obtain ⟨m,rfl,hm⟩:=up1 hn
 simp only [qBI,qF8,qC,qD,qF,qG,qH,qJ,Option.bind_some,qE,qK,qM]
 by_cases h:x≥lo<;>simp [h]
theorem qAM (x lo hi:Int):Ev (qAf · x lo hi) (decide (lo≤x∧x≤hi)):=by
 refine ⟨1,fun n hn=>?_⟩
 obtain ⟨m,rfl,hm⟩:=up1 hn
 simp only [qAf,qGW,qC,qD,qF,qG,qH,qJ,Option.bind_some,qE,qK,qM]
 by_cases h:x≥lo<;>simp [h]
def okc (c:UInt8):Bool:=decide (32≤c.toNat∧c.toNat≤126)
def qDj (s:ByteArray) (most:Int):Bool:=s.toList.all okc&&decide ((s.size:Int)≤most)
def okV (k n:Int) (s:ByteArray):Bool:=
 if k=2 then decide (n=0)&&qDj s 200 else (s.toList== [])&&(if k=0 then decide (n=0) else if k=1 then decide (-1000000000000000≤n∧n≤1000000000000000) else if k=3 then decide (0≤n∧n≤1) else if k=4 then decide (1≤n∧n≤5) else false)
theorem qKW (n:Nat) (s:ByteArray) (hb:s.size≤140737488355328):∀(m i M:Nat),s.size=i+m→m+1≤M→
  zD (qBP n) M (s,(i:Int))=some (if (s.toList.drop i).all okc then .inr s else .inl false)
 |m,i,0,h1,h2=>by omega
 |0,i,M+1,h1,h2=>by
  rw [qP (r:= .inr s) (by simp [qBP,qC,qD,qF,qG,qH,qJ,Option.bind_some,qE,qK,qM,show ¬((i:Int)<s.size) by omega])]
  rw [List.drop_eq_nil_of_le (by rw [qAl];omega)]
  rfl
 |m+1,i,M+1,h1,h2=>by
  obtain ⟨c,hc⟩:=qNf (s:=s) (i:=i) (by omega)
  have hi:(i:Int)<s.size:=by omega
  rw [qEj hc]
  by_cases c1:(c.toNat:Int)<32
  ·rw [qP (r:= .inl false) (by simp [qBP,qC,qD,qF,qG,qH,qJ,Option.bind_some,qE,qK,qM,hi,hc,c1])]
   have:okc c=false:=by simp [okc];omega
   simp [this]
  ·by_cases c2:(c.toNat:Int)>126
   ·rw [qP (r:= .inl false) (by simp [qBP,qC,qD,qF,qG,qH,qJ,Option.bind_some,qE,qK,qM,hi,hc,c1,c2])]
    have:okc c=false:=by simp [okc];omega
    simp [this]
   ·have hw:IntKind.i64.wrap ((i:Int)+1)=((i+1:Nat):Int):=by rw [qb (by omega)];omega
    rw [qc (v':=(s,((i+1:Nat):Int))) (by simp [qBP,qC,qD,qF,qG,qH,qJ,Option.bind_some,qE,qK,qM,hi,hc,c1,c2,hw])]
    rw [qKW n s hb m (i+1) M (by omega) (by omega)]
    have:okc c=true:=by simp [okc];omega
    simp [this]
theorem qLb (s:ByteArray) (hb:s.size≤140737488355328):Ev (qCk · s) (qDj s 200):=by
 refine ⟨s.size+2,fun n hn=>?_⟩
 obtain ⟨m,rfl,hm⟩:=up1 hn
 have h:=qKW m s hb s.size 0 m (by omega) (by omega)
 simp only [qCk,qFW,qC,qD,qF,qG,qH,qJ,Option.bind_some,qE,qK,qM]
 simp only [Int.natCast_zero,List.drop_zero] at h
 rw [h]
 cases hc:s.toList.all okc<;>simp [qC,qD,qF,qG,qH,qJ,Option.bind_some,qE,qK,qM,qDj,hc]
theorem qHu (s:ByteArray) (hb:s.size≤140737488351232):Ev (qCk · s) (qDj s 200):=qLb s (by omega)
theorem qLv (n:Nat) (s:ByteArray) (y:Int) (hb:s.size≤140737488355328):∀(m i M:Nat),s.size=i+m→m+1≤M→
  zD (qBa n) M (s,y,(s.size:Int),(i:Int))=some (if (s.toList.drop i).all okc then .inr (s,y) else .inl false)
 |m,i,0,h1,h2=>by omega
 |0,i,M+1,h1,h2=>by
  rw [qP (r:= .inr (s,y)) (by simp [qBa,qC,qD,qF,qG,qH,qJ,Option.bind_some,qE,qK,qM,show ¬((i:Int)<s.size) by omega])]
  rw [List.drop_eq_nil_of_le (by rw [qAl];omega)]
  rfl
 |m+1,i,M+1,h1,h2=>by
  obtain ⟨c,hc⟩:=qNf (s:=s) (i:=i) (by omega)
  have hi:(i:Int)<s.size:=by omega
  rw [qEj hc]
  by_cases c1:(c.toNat:Int)<32
  ·rw [qP (r:= .inl false) (by simp [qBa,qC,qD,qF,qG,qH,qJ,Option.bind_some,qE,qK,qM,hi,hc,c1])]
   have:okc c=false:=by simp [okc];omega
   simp [this]
  ·by_cases c2:(c.toNat:Int)>126
   ·rw [qP (r:= .inl false) (by simp [qBa,qC,qD,qF,qG,qH,qJ,Option.bind_some,qE,qK,qM,hi,hc,c1,c2])]
    have:okc c=false:=by simp [okc];omega
    simp [this]
   ·have hw:IntKind.i64.wrap ((i:Int)+1)=((i+1:Nat):Int):=by rw [qb (by omega)];omega
    rw [qc (v':=(s,y,(s.size:Int),((i+1:Nat):Int))) (by simp [qBa,qC,qD,qF,qG,qH,qJ,Option.bind_some,qE,qK,qM,hi,hc,c1,c2,hw])]
    rw [qLv n s y hb m (i+1) M (by omega) (by omega)]
    have:okc c=true:=by simp [okc];omega
    simp [this]
theorem qMN (s:ByteArray) (y:Int) (hb:s.size≤140737488355328):Ev (qC7 · s y) (qDj s y):=by
 refine ⟨s.size+2,fun n hn=>?_⟩
 obtain ⟨m,rfl,hm⟩:=up1 hn
 have h:=qLv m s y hb s.size 0 m (by omega) (by omega)
 simp only [qC7,qGX,qC,qD,qF,qG,qH,qJ,Option.bind_some,qE,qK,qM]
 simp only [Int.natCast_zero,List.drop_zero] at h
 rw [h]
 cases hc:s.toList.all okc<;>simp [qC,qD,qF,qG,qH,qJ,Option.bind_some,qE,qK,qM,qDj,hc]
theorem qIW (s:ByteArray) (y:Int) (hb:s.size≤140737488351232):Ev (qC7 · s y) (qDj s y):=qMN s y (by omega)
theorem qAI (k x:Int) (s:ByteArray) (hb:s.size≤140737488351232):Ev (qn · k x s) (okV k x s):=by
 obtain ⟨n1,h1⟩:=qCV x (-1000000000000000) 1000000000000000
 obtain ⟨n2,h2⟩:=qCV x 0 1
 obtain ⟨n3,h3⟩:=qCV x 1 5
 obtain ⟨n4,h4⟩:=qHu s hb
 refine ⟨n1+n2+n3+n4+1,fun n hn=>?_⟩
 obtain ⟨m,rfl,hm⟩:=up1 hn
 have h1:=h1 m (by omega)
 dsimp only at h1
 have h2:=h2 m (by omega)
 dsimp only at h2
 have h3:=h3 m (by omega)
 dsimp only at h3
 have h4:=h4 m (by omega)
 dsimp only at h4
 simp only [qn,qFY,qC,qD,qF,qG,qH,qJ,Option.bind_some,qE,qK,qM,h1,h2,h3,h4]
 simp only [okV,q9]
 by_cases k2:k=2
 ·subst k2
  by_cases x0:x=0<;>simp [x0]
 ·by_cases k0:k=0
  ·subst k0
   by_cases x0:x=0<;>simp [x0]
  ·by_cases k1:k=1
   ·subst k1
    by_cases hx: -1000000000000000≤x∧x≤1000000000000000<;>simp [hx]
   ·by_cases k3:k=3
    ·subst k3
     by_cases hx:0≤x∧x≤1<;>simp [hx]
    ·by_cases k4:k=4
     ·subst k4
      by_cases hx:1≤x∧x≤5<;>simp [hx]
     ·simp [k0,k1,k2,k3,k4]
theorem qHv (k x:Int) (s:ByteArray) (hb:s.size≤140737488351232):Ev (qAk · k x s) (okV k x s):=by
 obtain ⟨n1,h1⟩:=qAM x (-1000000000000000) 1000000000000000
 obtain ⟨n2,h2⟩:=qAM x 0 1
 obtain ⟨n3,h3⟩:=qAM x 1 5
 obtain ⟨n4,h4⟩:=qIW s 200 hb
 refine ⟨n1+n2+n3+n4+1,fun n hn=>?_⟩
 obtain ⟨m,rfl,hm⟩:=up1 hn
 have h1:=h1 m (by omega)
 dsimp only at h1
 have h2:=h2 m (by omega)
 dsimp only at h2
 have h3:=h3 m (by omega)
 dsimp only at h3
 have h4:=h4 m (by omega)
 dsimp only at h4
 simp only [qAk,qFg,qC,qD,qF,qG,qH,qJ,Option.bind_some,qE,qK,qM,h1,h2,h3,h4]
 simp only [okV,q9]
 by_cases k2:k=2
 ·subst k2
  by_cases x0:x=0<;>simp [x0]
 ·by_cases he:s.toList= []
  ·by_cases k0:k=0
   ·subst k0
    by_cases x0:x=0<;>simp [x0,he]
   ·by_cases k1:k=1
    ·subst k1;simp [he]
    ·by_cases k3:k=3
     ·subst k3;simp [he]
     ·by_cases k4:k=4
      ·subst k4;simp [he]
      ·simp [k0,k1,k2,k3,k4,he]
  ·simp [k2,he]
abbrev V3:=Int×Int×ByteArray
def em:ByteArray:=⟨#[]⟩
theorem qMO (x:Int):Ev (qCm · x) (4,x,em):=by
 refine ⟨1,fun n hn=>?_⟩
 obtain ⟨m,rfl,hm⟩:=up1 hn
 simp only [qCm,qFa,qC,qD,qF,qG,qH,qJ,Option.bind_some,qE,qK,qM]
 rfl
theorem qJT (x:Int):Ev (qBi · x) (4,x,em):=by
 refine ⟨1,fun n hn=>?_⟩
 obtain ⟨m,rfl,hm⟩:=up1 hn
 simp only [qBi,qHQ,qC,qD,qF,qG,qH,qJ,Option.bind_some,qE,qK,qM]
 rfl
theorem qMw (x:Int):Ev (qDm · x) (1,x,em):=by
 refine ⟨1,fun n hn=>?_⟩
 obtain ⟨m,rfl,hm⟩:=up1 hn
 simp only [qDm,qGd,qC,qD,qF,qG,qH,qJ,Option.bind_some,qE,qK,qM]
 rfl
def qAw (c r:Int):Bool:=decide (1≤c∧c≤52)&&decide (1≤r∧r≤99)
def qEN (a b c d:Int):Bool:=qAw a b&&qAw c d&&decide (a≤c)&&decide (b≤d)
theorem qC8 (c r:Int):Ev (qAa · c r) (qAw c r):=by
 obtain ⟨n1,h1⟩:=qCV c 1 52
 obtain ⟨n2,h2⟩:=qCV r 1 99
 refine ⟨n1+n2+1,fun n hn=>?_⟩
 obtain ⟨m,rfl,hm⟩:=up1 hn
 have h1:=h1 m (by omega)
 dsimp only at h1
 have h2:=h2 m (by omega)
 dsimp only at h2
 simp only [qAa,qHE,qC,qD,qF,qG,qH,qJ,Option.bind_some,qE,qK,qM,h1,h2]
 unfold qAw
 cases decide (1≤c∧c≤52)<;>simp
theorem qDn (c r:Int):Ev (qCR · c r) (qAw c r):=by
 obtain ⟨n1,h1⟩:=qAM c 1 52
 obtain ⟨n2,h2⟩:=qAM r 1 99
 refine ⟨n1+n2+1,fun n hn=>?_⟩
 obtain ⟨m,rfl,hm⟩:=up1 hn
 have h1:=h1 m (by omega)
 dsimp only at h1
 have h2:=h2 m (by omega)
 dsimp only at h2
 simp only [qCR,qHJ,qC,qD,qF,qG,qH,qJ,Option.bind_some,qE,qK,qM,h1,h2]
 unfold qAw
 cases decide (1≤c∧c≤52)<;>simp
theorem qMx (a b c d:Int):Ev (qEp · a b c d) (qEN a b c d):=by
 obtain ⟨n1,h1⟩:=qC8 a b
 obtain ⟨n2,h2⟩:=qC8 c d
 refine ⟨n1+n2+1,fun n hn=>?_⟩
 obtain ⟨m,rfl,hm⟩:=up1 hn
 have h1:=h1 m (by omega)
 dsimp only at h1
 have h2:=h2 m (by omega)
 dsimp only at h2
 simp only [qEp,qGP,qC,qD,qF,qG,qH,qJ,Option.bind_some,qE,qK,qM,h1,h2]
 unfold qEN
 cases qAw a b<;>cases qAw c d<;>by_cases h:a≤c<;>simp [h]
theorem qIX (a b c d:Int):Ev (qDl · a b c d) (qEN a b c d):=by
 obtain ⟨n1,h1⟩:=qDn a b
 obtain ⟨n2,h2⟩:=qDn c d
 refine ⟨n1+n2+1,fun n hn=>?_⟩
 obtain ⟨m,rfl,hm⟩:=up1 hn
 have h1:=h1 m (by omega)
 dsimp only at h1
 have h2:=h2 m (by omega)
 dsimp only at h2
 simp only [qDl,qGZ,qC,qD,qF,qG,qH,qJ,Option.bind_some,qE,qK,qM,h1,h2]
 unfold qEN
 cases qAw a b<;>cases qAw c d<;>by_cases h:a≤c<;>simp [h]
def qR0 (x y:Int):Int:=if x<y then-1 else if x>y then 1 else 0
def qSQ (x y:ByteArray):Int:=if Op.bytesLess x.toList y.toList=true then-1 else if x.toList=y.toList then 0 else 1
def qPf:List Int→Int
 | []=>0
 |x::r=>if x≠0 then x else qPf r
def qSR (k x:Int) (s:ByteArray) (k' x':Int) (s':ByteArray):Int:=qPf [qR0 k k',qR0 x x',qSQ s s']
theorem qJU (b:Bool):Ev (qEJ · b) (3,if b=true then 1 else 0,em):=by
 refine ⟨1,fun n hn=>?_⟩
 obtain ⟨m,rfl,hm⟩:=up1 hn
 simp only [qEJ,qHR,qC,qD,qF,qG,qH,qJ,Option.bind_some,qE,qK,qM]
 cases b<;>rfl
def qR1 (op o:Int):Bool:=if op=6 then o==0 else if op=7 then o !=0 else if op=8 then decide (o<0) else if op=9 then decide (o≤0) else if op=10 then decide (o>0) else decide (o≥0)
def qSP (op k x:Int) (s:ByteArray) (k' x':Int) (s':ByteArray):Int×Int×ByteArray:=
 if okV k x s=true∧okV k' x' s'=true∧6≤op∧op≤11 then
  (if k=4 then (k,x,s) else if k'=4 then (k',x',s') else (3,if qR1 op (qSR (if k=0 then k' else k) x s (if k'=0 then k else k') x' s')=true then 1 else 0,em))
 else (4,2,em)
theorem qDo {R:Type} {F:Nat→Option R} {r:R} {k:Nat} (h:∀n,k≤n→F n=some r):Ev F r:=⟨k,h⟩
theorem wf8 {x:Int} (h:(Lit.int .u8 x).wf=true):0≤x∧x≤255:=by
 simp only [Lit.wf,Bool.and_eq_true,decide_eq_true_eq] at h
 have h1:IntKind.u8.min=0:=by decide
 have h2:IntKind.u8.max=255:=by decide
 omega
theorem qR2 {x:Int} (h:0≤x∧x≤18446744073709551615):IntKind.u64.wrap x=x:=by
 unfold IntKind.wrap
 have e2:(2:Int)^64=18446744073709551616:=by decide
 simp only [IntKind.signed,IntKind.bits,Bool.false_and,Bool.false_eq_true,if_false,e2]
 omega
def qIY (l:List (List PV)):Prop:=l.length≤1048576∧∀e∈l,∃b:Int,e= [.i .u8 b]∧0≤b∧b≤255
theorem qQ2 {l:List (List PV)} (w:∀r∈l,okR [.i .u8] r) (h:¬(l.length:Int)>1048576):qIY l:=by
 refine ⟨by omega,fun e he=>?_⟩
 obtain ⟨x,r,rfl,h1,h2⟩:=zFp (w e he)
 obtain ⟨n,rfl,h3⟩:=zKC h1
 obtain rfl:=zGt h2
 exact ⟨n,rfl,wf8 h3⟩
theorem qOn (l:List (List PV)):Ev (qHD · l) (decide ((l.length:Int)>1048576)):=by
 refine ⟨1,fun n hn=>?_⟩
 obtain ⟨m,rfl,hm⟩:=up1 hn
 simp only [qHD,qJa,qC,qD,qF,qG,qH,qJ,Option.bind_some,qE,qK,qM]
theorem qQ3 (l:List (List PV)):∀n,1≤n→qEn n l=some (l,0):=fun n hn=>by
 obtain ⟨m,rfl,_⟩:=up1 hn
 simp [qEn,qGN,qC,qD,qF,qG,qH,qJ,Option.bind_some,qE,qK,qM]
theorem qOL {l:List (List PV)} {p:Int} (hl:qIY l) (hp:0≤p∧p≤l.length):∃(a p':Int),(0≤p'∧p'≤l.length)∧(0≤a∧a≤255)∧∀n,1≤n→qBH n l p=some (a,l,p'):=by
 have h1:=hl.1
 by_cases h:p≥l.length
 ·refine ⟨0,p,hp,by decide,fun n hn=>?_⟩
  obtain ⟨m,rfl,_⟩:=up1 hn
  simp [qBH,qDQ,qC,qD,qF,qG,qH,qJ,Option.bind_some,qE,qK,qM,h]
 ·have hlt:p.toNat<l.length:=by omega
  obtain ⟨b,hb,b0,b1⟩:=hl.2 _ (List.getElem_mem hlt)
  have hg:l[p.toNat]?=some [.i .u8 b]:=by rw [List.getElem?_eq_getElem hlt,hb]
  refine ⟨b,p+1,by omega,⟨b0,b1⟩,fun n hn=>?_⟩
  obtain ⟨m,rfl,_⟩:=up1 hn
  have w1:IntKind.i64.wrap (p+1)=p+1:=qb (by omega)
  have w2:IntKind.i64.wrap p=p:=qb (by omega)
  have w3:IntKind.i64.wrap b=b:=qb (by omega)
  have hp2:p<l.length:=by omega
  simp [qBH,qDQ,qC,qD,qF,qG,qH,qJ,Option.bind_some,qE,qK,qM,h,w1,w2,w3,hp.1,hp2,hg,hb,zE]
theorem qCW {l:List (List PV)} {p:Int} (k:Int) (hk:1<k∧k≤1000000) (hl:qIY l) (hp:0≤p∧p≤l.length):∃(a p':Int),(0≤p'∧p'≤l.length)∧(0≤a∧a<k)∧∀n,2≤n→qT n k l p=some (a,l,p'):=by
 obtain ⟨a,p',h1,h2,h3⟩:=qOL hl hp
 have k1:¬k≤1:=by omega
 have k3:¬k=0:=by omega
 by_cases k2:k≤256
 ·have e:Int.tmod a k=a%k:=Int.tmod_eq_emod_of_nonneg h2.1
  refine ⟨a%k,p',h1,⟨Int.emod_nonneg a (by omega),Int.emod_lt_of_pos a (by omega)⟩,fun n hn=>?_⟩
  obtain ⟨m,rfl,hm⟩:=up1 hn
  have h3:=h3 m (by omega)
  simp [qT,qCJ,qC,qD,qF,qG,qH,qJ,Option.bind_some,qE,qK,qM,h3,k1,k2,k3,e]
 ·obtain ⟨b,p2,g1,g2,g3⟩:=qOL hl h1
  have w1:IntKind.i64.wrap (a*256)=a*256:=qb (by omega)
  have w2:IntKind.i64.wrap (a*256+b)=a*256+b:=qb (by omega)
  have e:Int.tmod (a*256+b) k=(a*256+b)%k:=Int.tmod_eq_emod_of_nonneg (by omega)
  refine ⟨(a*256+b)%k,p2,g1,⟨Int.emod_nonneg _ (by omega),Int.emod_lt_of_pos _ (by omega)⟩,fun n hn=>?_⟩
  obtain ⟨m,rfl,hm⟩:=up1 hn
  have h3:=h3 m (by omega)
  have g3:=g3 m (by omega)
  simp [qT,qCJ,qC,qD,qF,qG,qH,qJ,Option.bind_some,qE,qK,qM,h3,g3,k1,k2,k3,e,w1,w2]
theorem qFQ {l:List (List PV)} {p:Int} (k:Int) (hk:1<k∧k≤1000000) (hl:qIY l) (hp:0≤p∧p≤l.length):∃(b:Bool) (p':Int),(0≤p'∧p'≤l.length)∧∀n,3≤n→qY n k l p=some (b,l,p'):=by
 obtain ⟨a,p',h1,h2,h3⟩:=qCW k hk hl hp
 refine ⟨a==IntKind.i64.wrap (k-1),p',h1,fun n hn=>?_⟩
 obtain ⟨m,rfl,hm⟩:=up1 hn
 have h3:=h3 m (by omega)
 simp [qY,qEc,qC,qD,qF,qG,qH,qJ,Option.bind_some,qE,qK,qM,h3]
theorem qNg {l:List (List PV)} (hl:qIY l):∀(m:Nat) (i:Nat) (v p:Int),i+m=8→(0≤p∧p≤l.length)→∃(r p':Int),(0≤p'∧p'≤l.length)∧∀n M,1≤n→m+1≤M→zD (qBt n) M (v,(i:Int),l,p)=some (r,l,p')
 |0,i,v,p,h,hp=>by
  refine ⟨v,p,hp,fun n M hn hM=>?_⟩
  obtain ⟨M,rfl⟩:∃q,M=q+1:=⟨M-1,by omega⟩
  have hi:¬(i:Int)<8:=by omega
  rw [qP (r:=(v,l,p)) (by simp [qBt,qC,qD,qF,qG,qH,qJ,Option.bind_some,qE,qK,qM,hi])]
 |m+1,i,v,p,h,hp=>by
  obtain ⟨a,p1,h1,h2,h3⟩:=qOL hl hp
  obtain ⟨r,p2,h4,h5⟩:=qNg hl m (i+1) (IntKind.u64.wrap ((BitVec.ofInt IntKind.u64.bits (IntKind.u64.wrap (v*(2:Int)^(8:Nat)))|||BitVec.ofInt IntKind.u64.bits (IntKind.u64.wrap a)).toNat:Int)) p1 (by omega) h1
  refine ⟨r,p2,h4,fun n M hn hM=>?_⟩
  obtain ⟨M,rfl⟩:∃q,M=q+1:=⟨M-1,by omega⟩
  have hi:(i:Int)<8:=by omega
  have w1:IntKind.i64.wrap ((i:Int)+1)=((i+1:Nat):Int):=by rw [qb (by omega)];omega
  have h3:=h3 n hn
  rw [qc (v':=(IntKind.u64.wrap ((BitVec.ofInt IntKind.u64.bits (IntKind.u64.wrap (v*(2:Int)^(8:Nat)))|||BitVec.ofInt IntKind.u64.bits (IntKind.u64.wrap a)).toNat:Int),((i+1:Nat):Int),l,p1)) (by
   simp only [qBt,qC,qD,qF,qG,qH,qJ,Option.bind_some,qE,qK,qM,h3,w1]
   rw [if_pos (by simpa using hi)])]
  exact h5 n M hn (by omega)
theorem qQ4 {l:List (List PV)} {p:Int} (hl:qIY l) (hp:0≤p∧p≤l.length):∃(r p':Int),(0≤p'∧p'≤l.length)∧∀n,10≤n→qDS n l p=some (r,l,p'):=by
 obtain ⟨r,p',h1,h2⟩:=qNg hl 8 0 0 p rfl hp
 refine ⟨r,p',h1,fun n hn=>?_⟩
 obtain ⟨m,rfl,hm⟩:=up1 hn
 have h2:=h2 m m (by omega) (by omega)
 simp only [Int.natCast_zero] at h2
 simp only [qDS,qEd,qC,qD,qF,qG,qH,qJ,Option.bind_some,qE,qK,qM,h2]
theorem qQ5 {l:List (List PV)} {p:Int} (lo hi:Int) (hk: -1000≤lo∧lo≤hi∧hi≤1000) (hl:qIY l) (hp:0≤p∧p≤l.length):∃(x p':Int),(0≤p'∧p'≤l.length)∧(-9223372036854775808≤x∧x≤9223372036854775807)∧∀n,11≤n→qB3 n lo hi l p=some (x,l,p'):=by
 obtain ⟨a,p1,h1,h2,h3⟩:=qCW 8 (by decide) hl hp
 by_cases a0:a=0
 ·refine ⟨lo,p1,h1,by omega,fun n hn=>?_⟩
  obtain ⟨m,rfl,hm⟩:=up1 hn
  have h3:=h3 m (by omega)
  simp [qB3,qCj,qC,qD,qF,qG,qH,qJ,Option.bind_some,qE,qK,qM,h3,a0]
 ·by_cases a1:a=1
  ·refine ⟨hi,p1,h1,by omega,fun n hn=>?_⟩
   obtain ⟨m,rfl,hm⟩:=up1 hn
   have h3:=h3 m (by omega)
   simp [qB3,qCj,qC,qD,qF,qG,qH,qJ,Option.bind_some,qE,qK,qM,h3,a1]
  ·obtain ⟨r,p2,h4,h5⟩:=qQ4 hl h1
   refine ⟨_,p2,h4,qLa (lo+IntKind.i64.wrap (Int.tmod (Int.fdiv r ((2:Int)^(1:Nat))) (IntKind.u64.wrap (IntKind.i64.wrap (IntKind.i64.wrap (hi-lo)+1))))),fun n hn=>?_⟩
   obtain ⟨m,rfl,hm⟩:=up1 hn
   have h3:=h3 m (by omega)
   have h5:=h5 m (by omega)
   have c1:¬hi<lo:=by omega
   have w1:IntKind.i64.wrap (hi-lo)=hi-lo:=qb (by omega)
   have w2:IntKind.i64.wrap (hi-lo+1)=hi-lo+1:=qb (by omega)
   have w3:IntKind.u64.wrap (hi-lo+1)=hi-lo+1:=qR2 (by omega)
   have w4:¬hi-lo+1=0:=by omega
   simp only [qB3,qCj,qC,qD,qF,qG,qH,qJ,Option.bind_some,qE,qK,qM,h3,h5,w1,w2,w3]
   simp [a0,a1,c1,w4]
theorem qMy {l:List (List PV)} {p:Int} (lo hi:Int) (hk: -1000≤lo∧lo≤hi∧hi≤1000) (hl:qIY l) (hp:0≤p∧p≤l.length):∃(x p':Int),(0≤p'∧p'≤l.length)∧(-9223372036854775808≤x∧x≤9223372036854775807)∧∀n,12≤n→qAc n lo hi l p=some (x,l,p'):=by
 obtain ⟨b,p1,h1,h2⟩:=qFQ 24 (by decide) hl hp
 cases b with
 |true=>
  obtain ⟨a,p2,h3,h4,h5⟩:=qCW 4 (by decide) hl h1
  have c:a=0∨a=1∨a=2∨a=3:=by omega
  rcases c with rfl|rfl|rfl|rfl
  ·refine ⟨IntKind.i64.wrap (lo-1),p2,h3,qLa _,fun n hn=>?_⟩
   obtain ⟨m,rfl,hm⟩:=up1 hn
   have h2:=h2 m (by omega)
   have h5:=h5 m (by omega)
   simp [qAc,qBr,qC,qD,qF,qG,qH,qJ,Option.bind_some,qE,qK,qM,h2,h5,zE]
  ·refine ⟨IntKind.i64.wrap (hi+1),p2,h3,qLa _,fun n hn=>?_⟩
   obtain ⟨m,rfl,hm⟩:=up1 hn
   have h2:=h2 m (by omega)
   have h5:=h5 m (by omega)
   simp [qAc,qBr,qC,qD,qF,qG,qH,qJ,Option.bind_some,qE,qK,qM,h2,h5,zE]
  ·refine ⟨-9223372036854775808,p2,h3,by decide,fun n hn=>?_⟩
   obtain ⟨m,rfl,hm⟩:=up1 hn
   have h2:=h2 m (by omega)
   have h5:=h5 m (by omega)
   simp [qAc,qBr,qC,qD,qF,qG,qH,qJ,Option.bind_some,qE,qK,qM,h2,h5,zE]
  ·refine ⟨9223372036854775807,p2,h3,by decide,fun n hn=>?_⟩
   obtain ⟨m,rfl,hm⟩:=up1 hn
   have h2:=h2 m (by omega)
   have h5:=h5 m (by omega)
   simp [qAc,qBr,qC,qD,qF,qG,qH,qJ,Option.bind_some,qE,qK,qM,h2,h5,zE]
 |false=>
  obtain ⟨x,p2,h3,h4,h5⟩:=qQ5 lo hi hk hl h1
  refine ⟨x,p2,h3,h4,fun n hn=>?_⟩
  obtain ⟨m,rfl,hm⟩:=up1 hn
  have h2:=h2 m (by omega)
  have h5:=h5 m (by omega)
  simp [qAc,qBr,qC,qD,qF,qG,qH,qJ,Option.bind_some,qE,qK,qM,h2,h5]
theorem qNh {a b c d:Int} (h:qEN a b c d=true):(1≤a∧a≤52)∧(1≤b∧b≤99)∧(1≤c∧c≤52)∧(1≤d∧d≤99)∧a≤c∧b≤d:=by
 simp only [qEN,qAw,Bool.and_eq_true,decide_eq_true_eq] at h
 obtain ⟨⟨⟨⟨h1,h2⟩,h3,h4⟩,h5⟩,h6⟩:=h
 exact ⟨h1,h2,h3,h4,h5,h6⟩
theorem qOM {l:List (List PV)} {p:Int} (hl:qIY l) (hp:0≤p∧p≤l.length):∃(a b p':Int),(0≤p'∧p'≤l.length)∧∀n,3≤n→qAG n l p=some (a,b,l,p'):=by
 obtain ⟨a,p1,h1,h2,h3⟩:=qCW 3 (by decide) hl hp
 obtain ⟨b,p2,h4,h5,h6⟩:=qCW 4 (by decide) hl h1
 refine ⟨IntKind.i64.wrap (1+a),IntKind.i64.wrap (1+b),p2,h4,fun n hn=>?_⟩
 obtain ⟨m,rfl,hm⟩:=up1 hn
 have h3:=h3 m (by omega)
 have h6:=h6 m (by omega)
 simp [qAG,qE8,qC,qD,qF,qG,qH,qJ,Option.bind_some,qE,qK,qM,h3,h6]
theorem qQ6 {l:List (List PV)} {p:Int} (hl:qIY l) (hp:0≤p∧p≤l.length):∃(a b c d p':Int),(0≤p'∧p'≤l.length)∧∀n,13≤n→qB4 n l p=some (a,b,c,d,l,p'):=by
 obtain ⟨a,b,p1,h1,h2⟩:=qOM hl hp
 obtain ⟨c,d,p2,h3,h4⟩:=qOM hl h1
 obtain ⟨o,p3,h5,h6⟩:=qFQ 20 (by decide) hl h3
 cases o with
 |true=>
  obtain ⟨x,p4,h7,_,h8⟩:=qMy 1 99 (by decide) hl h5
  refine ⟨(if c<a then c else a),(if d<b then d else b),(if c>a then c else a),x,p4,h7,fun n hn=>?_⟩
  obtain ⟨m,rfl,hm⟩:=up1 hn
  have h2:=h2 m (by omega)
  have h4:=h4 m (by omega)
  have h6:=h6 m (by omega)
  have h8:=h8 m (by omega)
  simp [qB4,qDT,qC,qD,qF,qG,qH,qJ,Option.bind_some,qE,qK,qM,h2,h4,h6,h8]
 |false=>
  refine ⟨(if c<a then c else a),(if d<b then d else b),(if c>a then c else a),(if d>b then d else b),p3,h5,fun n hn=>?_⟩
  obtain ⟨m,rfl,hm⟩:=up1 hn
  have h2:=h2 m (by omega)
  have h4:=h4 m (by omega)
  have h6:=h6 m (by omega)
  simp [qB4,qDT,qC,qD,qF,qG,qH,qJ,Option.bind_some,qE,qK,qM,h2,h4,h6]
def qEX (x:Int):ByteArray:=⟨(Lib.itoa x).toArray⟩
theorem qC2 (a b:ByteArray):(a++b).data.toList=a.data.toList++b.data.toList:=by
 rw [ByteArray.data_append,Array.toList_append]
theorem qGH {a b:ByteArray} (h:a.data.toList=b.data.toList):a=b:=by
 cases a;cases b
 congr 1
 exact Array.toList_inj.1 h
theorem qDL {a b:ByteArray} (h:a.toList=b.toList):a=b:=qGH (by rw [←Go.Lib.toList_data,←Go.Lib.toList_data];exact h)
theorem qCg (a:ByteArray):a.size=a.data.toList.length:=by rw [Array.length_toList];rfl
theorem u8w {q:Nat} (h:q<10):IntKind.u8.wrap (IntKind.i64.wrap (48+(q:Int)))=((48+q:Nat):Int):=by
 rw [qb (by omega)]
 unfold IntKind.wrap
 have e2:(2:Int)^8=256:=by decide
 simp only [IntKind.signed,IntKind.bits,Bool.false_and,Bool.false_eq_true,if_false,e2]
 omega
theorem qRc:∀(k v:Nat),1≤v→v<10^k→Lib.nDigits v≤k:=by
 intro k
 induction k with
 |zero=>intro v hv hv';simp at hv';omega
 |succ k ih=>
  intro v hv hv'
  by_cases h10:v<10
  ·rw [Lib.nDigits_small h10];omega
  ·rw [Lib.nDigits_big h10]
   have:=ih (v/10) (by omega) (by rw [Nat.pow_succ] at hv';omega)
   omega
theorem qIp (u:Nat) (h:u≤1000000000000000000):(Lib.decDigits u).length≤19:=by
 have p:(10:Nat)^19=10000000000000000000:=by decide
 rw [Lib.decDigits_length]
 rcases Nat.lt_or_ge u 1 with h6|h6
 ·have:u=0:=by omega
  subst this
  rw [Lib.nDigits_small (by decide)]
  decide
 ·exact qRc 19 u h6 (by omega)
def qZ (x:Int):ByteArray:=if x=1 then ⟨#[35,68,73,86,33]⟩ else if x=2 then ⟨#[35,84,89,80,69,33]⟩ else if x=3 then ⟨#[35,82,69,70,33]⟩ else if x=4 then ⟨#[35,79,86,69,82,33]⟩ else if x=5 then ⟨#[35,67,89,67,76,69,33]⟩ else ⟨#[]⟩
theorem lt6 {x:Int} (h:0≤x∧x≤5):x=0∨x=1∨x=2∨x=3∨x=4∨x=5:=by omega
def qOo (x:Int):ByteArray:=if x=1 then ⟨#[84,82,85,69]⟩ else ⟨#[70,65,76,83,69]⟩
theorem qPg {x:Int} {s:ByteArray} (h:okV 1 x s=true): -1000000000000000≤x∧x≤1000000000000000:=by
 simp [okV] at h;exact h.2
theorem qKX {x:Int} {s:ByteArray} (h:okV 2 x s=true):x=0∧(s.size:Int)≤200∧s.toList.all okc=true:=by
 simp only [okV,qDj,if_true,Bool.and_eq_true,decide_eq_true_eq] at h
 exact ⟨h.1,h.2.2,h.2.1⟩
theorem qNi {x:Int} {s:ByteArray} (h:okV 3 x s=true):0≤x∧x≤1:=by
 simp [okV] at h;exact h.2
theorem qNj {x:Int} {s:ByteArray} (h:okV 4 x s=true):1≤x∧x≤5:=by
 simp [okV] at h;exact h.2
def qAA (k x:Int) (s:ByteArray):ByteArray:=if k=1 then qEX x else if k=2 then ⟨#[39]⟩++s else if k=3 then qOo x else if k=4 then qZ x else ⟨#[]⟩
theorem qNk {x:Int} (h: -1000000000000000000≤x∧x≤1000000000000000000):(qEX x).size≤20:=by
 rw [qCg]
 show (Lib.itoa x).length≤20
 unfold Lib.itoa
 split
 ·have:=qIp x.natAbs (by omega);simp;omega
 ·have:=qIp x.toNat (by omega);omega
theorem qPO {k x:Int} {s:ByteArray} (h:okV k x s=true):(qAA k x s).size≤300:=by
 unfold qAA
 split
 ·rename_i k1;subst k1;have:=qPg h;have:=qNk (x:=x) (by omega);omega
 ·split
  ·rename_i k2;subst k2
   have:=qKX h
   rw [ByteArray.size_append]
   show 1+s.size≤300
   omega
  ·split
   ·unfold qOo;split<;>decide
   ·split
    ·unfold qZ
     repeat' split
     all_goals decide
    ·decide
def qBW (x:Int):ByteArray:=if x<1∨x>52 then ⟨#[]⟩ else if x≤26 then ⟨#[UInt8.ofNat (64+x.toNat)]⟩ else ⟨#[65,UInt8.ofNat (65+(x.toNat-1)%26)]⟩
theorem qLc (x:Int):(qBW x).size≤2:=by
 unfold qBW
 split
 ·decide
 ·split
  ·exact (show (1:Nat)≤2 by decide)
  ·exact (show (2:Nat)≤2 by decide)
theorem qON {q:Int} (h:0≤q∧q<256):IntKind.u8.wrap q=q:=by
 unfold IntKind.wrap
 have e2:(2:Int)^8=256:=by decide
 simp only [IntKind.signed,IntKind.bits,Bool.false_and,Bool.false_eq_true,if_false,e2]
 omega
def qAO (c r:Int) (fc fr:Bool):ByteArray:=if qAw c r=true then ⟨((if fc=true then [36] else [])++(qBW c).data.toList++(if fr=true then [36] else [])++(qEX r).data.toList).toArray⟩ else ⟨#[]⟩
theorem qJz {x:Int} (h:1≤x∧x≤99):(qEX x).size≤20:=by
 rw [qCg]
 show (Lib.itoa x).length≤20
 unfold Lib.itoa
 rw [if_neg (by omega)]
 have:=qIp x.toNat (by omega)
 omega
theorem qEO {c r:Int} (h:qAw c r=true):(1≤c∧c≤52)∧(1≤r∧r≤99):=by
 simpa [qAw] using h
def qB1 (c:UInt8):Bool:=decide (48≤c.toNat)&&decide (c.toNat≤57)
def qCu (acc:Nat) (l:List UInt8):Nat:=l.foldl (fun a c=>a*10+(c.toNat-48)) acc
theorem qG5 (acc:Nat):qCu acc []=acc:=rfl
theorem qG6 (acc:Nat) (c:UInt8) (r:List UInt8):qCu acc (c::r)=qCu (acc*10+(c.toNat-48)) r:=by simp only [qCu,List.foldl_cons]
theorem qOp (l:List UInt8) (acc:Nat) (c:UInt8):qCu acc (l++ [c])=qCu acc l*10+(c.toNat-48):=by
 simp only [qCu,List.foldl_append,List.foldl_cons,List.foldl_nil]
theorem qPh:∀(l:List UInt8) (acc:Nat),acc≤qCu acc l
 | [],acc=>by rw [qG5];exact Nat.le_refl _
 |c::r,acc=>by
  have h:=qPh r (acc*10+(c.toNat-48))
  have h2:acc≤acc*10+(c.toNat-48):=by omega
  rw [qG6]
  exact Nat.le_trans h2 h
theorem qOO {d:Nat} (h:d<10):(UInt8.ofNat (48+d)).toNat=48+d:=by
 rw [UInt8.toNat_ofNat'];omega
theorem qOq {d:Nat} (h:d<10):qB1 (UInt8.ofNat (48+d))=true:=by
 unfold qB1
 rw [qOO h]
 simp
 omega
theorem qD3:∀u:Nat,(Lib.decDigits u).all qB1=true∧qCu 0 (Lib.decDigits u)=u∧Lib.decDigits u≠ []∧(10≤u→(Lib.decDigits u).head?≠some 48)∧(1≤u→(Lib.decDigits u).head?≠some 48):=by
 intro u
 induction u using Nat.strongRecOn with
 |_ u ih=>
  by_cases h:u<10
  ·rw [Lib.decDigits,dif_pos h]
   have h1:∀k,1≤k→k<10→UInt8.ofNat (48+k)≠48:=fun k hk hk' e=>by
    have:=congrArg UInt8.toNat e
    rw [qOO hk'] at this
    have h2:(48:UInt8).toNat=48:=rfl
    omega
   refine ⟨by simp only [List.all_cons,List.all_nil,qOq h,Bool.and_true],by rw [qG6,qG5,qOO h];omega,by simp,fun _=>by omega,fun hu=>?_⟩
   simp only [List.head?_cons,ne_eq,Option.some.injEq]
   exact h1 u hu h
  ·obtain ⟨i1,i2,i3,i4,i5⟩:=ih (u/10) (by omega)
   rw [Lib.decDigits,dif_neg h]
   have hd:u%10<10:=by omega
   have hh:(Lib.decDigits (u/10)++ [UInt8.ofNat (48+u%10)]).head?=(Lib.decDigits (u/10)).head?:=by
    cases hq:Lib.decDigits (u/10) with
    |nil=>exact absurd hq i3
    |cons a b=>rfl
   refine ⟨by simp only [List.all_append,i1,List.all_cons,List.all_nil,qOq hd,Bool.and_true],by rw [qOp,i2,qOO hd];omega,by simp,fun _=>?_,fun _=>?_⟩
   ·rw [hh];exact i5 (by omega)
   ·rw [hh];exact i5 (by omega)
def qGI (l:List UInt8):Bool:=!(l== [])&&l.all qB1&&(!(l.head?==some 48)||l.length==1)
theorem qNl (u:Nat):qGI (Lib.decDigits u)=true:=by
 obtain ⟨h1,h2,h3,h4,h5⟩:=qD3 u
 simp only [qGI,h1,Bool.and_true,Bool.and_eq_true,Bool.not_eq_true',beq_eq_false_iff_ne,Bool.or_eq_true]
 refine ⟨h3,?_⟩
 by_cases hu:u<10
 ·right;rw [Lib.decDigits,dif_pos hu];rfl
 ·left;exact h4 (by omega)
theorem qLd:∀(n:Nat) (l:List UInt8),l.length=n→qGI l=true→Lib.decDigits (qCu 0 l)=l
 |0,l,hn,h=>by
  have:=List.eq_nil_of_length_eq_zero hn
  subst this
  simp [qGI] at h
 |n+1,l,hn,h=>by
  simp only [qGI,Bool.and_eq_true,Bool.not_eq_true',beq_eq_false_iff_ne,Bool.or_eq_true,beq_iff_eq] at h
  obtain ⟨⟨h1,h2⟩,h3⟩:=h
  obtain ⟨ini,c,rfl⟩:∃ini c,l=ini++ [c]:=⟨l.dropLast,l.getLast h1,(List.dropLast_concat_getLast h1).symm⟩
  simp only [List.all_append,Bool.and_eq_true,List.all_cons,List.all_nil,Bool.and_true] at h2
  obtain ⟨h2,hc⟩:=h2
  simp only [qB1,Bool.and_eq_true,decide_eq_true_eq] at hc
  have ec:UInt8.ofNat (48+(c.toNat-48))=c:=by
   have:48+(c.toNat-48)=c.toNat:=by omega
   rw [this];simp
  rw [qOp]
  cases ini with
  |nil=>
   rw [qG5,Nat.zero_mul,Nat.zero_add,List.nil_append,Lib.decDigits,dif_pos (by omega),ec]
  |cons a b=>
   have hl:(a::b).length=n:=by simp at hn⊢;omega
   have h48:¬a=48:=by
    rcases h3 with h3|h3
    ·simpa using h3
    ·simp at h3
   have hcn:qGI (a::b)=true:=by
    simp only [qGI,h2,Bool.and_true,Bool.and_eq_true,Bool.not_eq_true',beq_eq_false_iff_ne,Bool.or_eq_true]
    exact ⟨by simp,.inl (by simpa using h48)⟩
   have ih:=qLd n (a::b) hl hcn
   have hp:1≤qCu 0 (a::b):=by
    rcases Nat.eq_zero_or_pos (qCu 0 (a::b)) with h0|h0
    ·rw [h0,Lib.decDigits,dif_pos (by decide)] at ih
     have:a=48:=by
      have:=congrArg List.head? ih
      simpa using this.symm
     exact absurd this h48
    ·exact h0
   rw [Lib.decDigits,dif_neg (by omega)]
   have e1:(qCu 0 (a::b)*10+(c.toNat-48))/10=qCu 0 (a::b):=by omega
   have e2:(qCu 0 (a::b)*10+(c.toNat-48))%10=c.toNat-48:=by omega
   rw [e1,e2,ih,ec]
def l1I (l:List UInt8) (most:Int):Int×Bool:=if (l.length:Int)≤most∧qGI l=true then ((qCu 0 l:Int),true) else (0,false)
theorem qPi:∀(l:List UInt8) (acc k:Nat),l.all qB1=true→acc<10^k→qCu acc l<10^(k+l.length)
 | [],acc,k,_,h=>by rw [qG5];simpa using h
 |c::r,acc,k,hd,h=>by
  simp only [List.all_cons,Bool.and_eq_true] at hd
  have hc:=hd.1
  simp only [qB1,Bool.and_eq_true,decide_eq_true_eq] at hc
  have:=qPi r (acc*10+(c.toNat-48)) (k+1) hd.2 (by rw [Nat.pow_succ];omega)
  rw [qG6,List.length_cons,show k+(r.length+1)=k+1+r.length by omega]
  exact this
theorem qNm:∀(l:List UInt8) (acc:Nat),l.all qB1=true→qCu acc l≤1000000000000000000→Lib.parseUintM (2^64-1) acc l= .ok (qCu acc l)
 | [],acc,_,_=>by simp only [Lib.parseUintM,qG5]
 |c::r,acc,hd,h=>by
  simp only [List.all_cons,Bool.and_eq_true] at hd
  have hc:=hd.1
  simp only [qB1,Bool.and_eq_true,decide_eq_true_eq] at hc
  rw [qG6] at h⊢
  have g1:=qPh r (acc*10+(c.toNat-48))
  have p:(2:Nat)^64-1=18446744073709551615:=by decide
  simp only [Lib.parseUintM]
  rw [if_pos hc,if_neg (by omega),if_neg (by rw [p];omega)]
  exact qNm r _ hd.2 h
theorem qNn {u:Nat} (h:u≤1000000000000000000):Lib.parseUintB 64 (Lib.decDigits u)= .ok u:=by
 obtain ⟨h1,h2,h3,_,_⟩:=qD3 u
 unfold Lib.parseUintB
 rw [if_neg h3,qNm _ 0 h1 (by rw [h2];exact h),h2]
theorem qKY (u:Nat):∃c r,Lib.decDigits u=c::r∧qB1 c=true:=by
 obtain ⟨h1,_,h3,_,_⟩:=qD3 u
 cases hq:Lib.decDigits u with
 |nil=>exact absurd hq h3
 |cons c r=>
  rw [hq] at h1
  simp only [List.all_cons,Bool.and_eq_true] at h1
  exact ⟨c,r,rfl,h1.1⟩
theorem qPP {x:Int} (h: -1000000000000000≤x∧x≤1000000000000000):Lib.parseIntB 64 (Lib.itoa x)= .ok x:=by
 have p:(2:Nat)^(64-1)=9223372036854775808:=by decide
 by_cases hx:x<0
 ·have e:Lib.itoa x=45::Lib.decDigits x.natAbs:=by unfold Lib.itoa;rw [if_pos hx]
  have c45:(45:UInt8).toNat=45:=rfl
  rw [e]
  simp only [Lib.parseIntB,c45,or_true,if_true,qNn (u:=x.natAbs) (by omega),p]
  rw [if_neg (by simp),if_neg (by omega)]
  congr 1
  omega
 ·have e:Lib.itoa x=Lib.decDigits x.toNat:=by unfold Lib.itoa;rw [if_neg hx]
  obtain ⟨c,r,hcr,hd⟩:=qKY x.toNat
  simp only [qB1,Bool.and_eq_true,decide_eq_true_eq] at hd
  rw [e,hcr]
  simp only [Lib.parseIntB]
  rw [if_neg (by omega),←hcr,qNn (u:=x.toNat) (by omega)]
  simp only [p]
  rw [if_neg (by omega),if_neg (by omega),if_neg (by omega)]
  congr 1
  omega
def qOP (l:List UInt8):Option Int:=if l.head?=some 45 then (if (l1I (l.drop 1) 16).2=true∧(l1I (l.drop 1) 16).1≠0 then some (-(l1I (l.drop 1) 16).1) else none) else (if (l1I l 16).2=true then some (l1I l 16).1 else none)
theorem qMz {l:List UInt8} (h:(l1I l 16).2=true):l.length≤16∧qGI l=true∧(l1I l 16).1=(qCu 0 l:Int)∧Lib.decDigits (qCu 0 l)=l:=by
 unfold l1I at h⊢
 split at h
 ·rename_i hc
  rw [if_pos hc]
  exact ⟨by omega,hc.2,rfl,qLd _ l rfl hc.2⟩
 ·cases h
theorem qPj {u:Nat} (h:u≤1000000000000000):l1I (Lib.decDigits u) 16=((u:Int),true):=by
 obtain ⟨h1,h2,h3,_,_⟩:=qD3 u
 have hl:(Lib.decDigits u).length≤16:=by
  rw [Lib.decDigits_length]
  have:Lib.nDigits 1000000000000000=16:=Lib.nDigits_unique 15 _ (by decide) (by decide)
  rcases Nat.lt_or_ge 16 (Lib.nDigits u) with h4|h4
  ·have h5:u<10^16:=by
    have:(10:Nat)^16=10000000000000000:=by decide
    omega
   exfalso
   rcases Nat.lt_or_ge u 1 with h6|h6
   ·have:u=0:=by omega
    subst this
    rw [Lib.nDigits_small (by decide)] at h4
    omega
   ·have key:∀(k v:Nat),1≤v→v<10^k→Lib.nDigits v≤k:=by
     intro k
     induction k with
     |zero=>intro v hv hv';simp at hv';omega
     |succ k ih=>
      intro v hv hv'
      by_cases h10:v<10
      ·rw [Lib.nDigits_small h10];omega
      ·rw [Lib.nDigits_big h10]
       have:=ih (v/10) (by omega) (by rw [Nat.pow_succ] at hv';omega)
       omega
    have:=key 16 u h6 h5
    omega
  ·exact h4
 unfold l1I
 rw [if_pos ⟨by omega,qNl u⟩,h2]
theorem qP8 {l:List UInt8} {x:Int} (h:qOP l=some x):l=Lib.itoa x:=by
 unfold qOP at h
 split at h
 ·rename_i h45
  split at h
  ·rename_i hc
   cases h
   obtain ⟨a1,a2,a3,a4⟩:=qMz hc.1
   have hne:=hc.2
   rw [a3] at hne⊢
   unfold Lib.itoa
   rw [if_pos (by omega)]
   have:(-(qCu 0 (l.drop 1):Int)).natAbs=qCu 0 (l.drop 1):=by omega
   rw [this,a4]
   cases l with
   |nil=>cases h45
   |cons c r=>simp at h45;simp [h45]
  ·cases h
 ·split at h
  ·rename_i hc
   cases h
   obtain ⟨a1,a2,a3,a4⟩:=qMz hc
   rw [a3]
   unfold Lib.itoa
   rw [if_neg (by omega),Int.toNat_natCast,a4]
  ·cases h
theorem qP9 {x:Int} (h: -1000000000000000≤x∧x≤1000000000000000):qOP (Lib.itoa x)=some x:=by
 unfold qOP
 by_cases hx:x<0
 ·have e:Lib.itoa x=45::Lib.decDigits x.natAbs:=by unfold Lib.itoa;rw [if_pos hx]
  have e2:=qPj (u:=x.natAbs) (by omega)
  rw [e,List.head?_cons,if_pos rfl,List.drop_succ_cons,List.drop_zero,e2,if_pos ⟨rfl,by show ((x.natAbs:Nat):Int)≠0;omega⟩]
  congr 1
  show-((x.natAbs:Nat):Int)=x
  omega
 ·have e:Lib.itoa x=Lib.decDigits x.toNat:=by unfold Lib.itoa;rw [if_neg hx]
  have e2:=qPj (u:=x.toNat) (by omega)
  obtain ⟨c,r,hcr,hd⟩:=qKY x.toNat
  have h45:¬(Lib.decDigits x.toNat).head?=some 45:=by
   rw [hcr]
   simp only [List.head?_cons,Option.some.injEq]
   intro hc
   subst hc
   simp [qB1] at hd
  rw [e,if_neg h45,e2,if_pos rfl]
  congr 1
  show ((x.toNat:Nat):Int)=x
  omega
def qBe (s:ByteArray):Int:=match zQ s 10 64 with
 |some (.inl v)=>v
 |some (.inr v)=>v
 |none=>0
theorem qIZ {s:ByteArray} {x:Int} (hs:s.toList=Lib.itoa x) (h: -1000000000000000≤x∧x≤1000000000000000):qBe s=x:=by
 have hd:s.data.toList=Lib.itoa x:=by rw [←Go.Lib.toList_data];exact hs
 have hsz:s.size≤281474976710656:=by
  rw [←qAl,hs]
  unfold Lib.itoa
  split
  ·have:=qIp x.natAbs (by omega);simp;omega
  ·have:=qIp x.toNat (by omega);omega
 unfold qBe zQ
 rw [if_pos ⟨rfl,rfl,hsz⟩,hd,qPP h]
def qDp (s:ByteArray):Int:=if (qZ 5).toList=s.toList then 5 else if (qZ 4).toList=s.toList then 4 else if (qZ 3).toList=s.toList then 3 else if (qZ 2).toList=s.toList then 2 else if (qZ 1).toList=s.toList then 1 else 0
theorem qQ7 (s:ByteArray):0≤qDp s∧qDp s≤5:=by
 unfold qDp
 repeat' split
 all_goals decide
theorem qQ8 {s:ByteArray} (h:¬qDp s=0):qZ (qDp s)=s:=by
 unfold qDp at h⊢
 by_cases h5:(qZ 5).toList=s.toList
 ·rw [if_pos h5];exact qDL h5
 rw [if_neg h5] at h⊢
 by_cases h4:(qZ 4).toList=s.toList
 ·rw [if_pos h4];exact qDL h4
 rw [if_neg h4] at h⊢
 by_cases h3:(qZ 3).toList=s.toList
 ·rw [if_pos h3];exact qDL h3
 rw [if_neg h3] at h⊢
 by_cases h2:(qZ 2).toList=s.toList
 ·rw [if_pos h2];exact qDL h2
 rw [if_neg h2] at h⊢
 by_cases h1:(qZ 1).toList=s.toList
 ·rw [if_pos h1];exact qDL h1
 rw [if_neg h1] at h
 exact absurd rfl h
theorem qSS {i:Int} (h:1≤i∧i≤5):i=1∨i=2∨i=3∨i=4∨i=5:=by omega
def qAx (s:ByteArray):V3:=
 if s.toList.head?=some 39 then (2,0,⟨s.toList.tail.toArray⟩) else
 if s.toList= [70,65,76,83,69] then (3,0,em) else if s.toList= [84,82,85,69] then (3,1,em) else
 if s.toList.head?=some 35 then (if qDp s=0 then (0,0,em) else (4,qDp s,em)) else
 if s.toList= [] then (0,0,em) else (1,qBe s,em)
def qh (s:ByteArray):Int×Int×ByteArray×Bool:=if okV (qAx s).1 (qAx s).2.1 (qAx s).2.2=true∧(qAA (qAx s).1 (qAx s).2.1 (qAx s).2.2).toList=s.toList then ((qAx s).1,(qAx s).2.1,(qAx s).2.2,true) else (0,0,⟨#[]⟩,false)
theorem qQ9 (c:UInt8) (k:Nat) (hk:k<256):((c.toNat:Int)==(k:Int))=(some c==some (UInt8.ofNat k)):=by
 by_cases e:c=UInt8.ofNat k
 ·subst e
  have:(UInt8.ofNat k).toNat=k:=by rw [UInt8.toNat_ofNat'];omega
  simp [this]
 ·have h1:¬(c.toNat:Int)=(k:Int):=fun h=>e (by
   have:c.toNat=k:=by omega
   rw [←this];simp)
  have h2:¬some c=some (UInt8.ofNat k):=fun h=>e (by simpa using h)
  rw [beq_eq_false_iff_ne.2 h1,beq_eq_false_iff_ne.2 h2]
theorem qAr (l:List UInt8):(⟨l.toArray⟩:ByteArray).toList=l:=by rw [Go.Lib.toList_data]
theorem qM0 (n:Nat):∀(f u:Nat) (s:ByteArray),u<10^(f+1)→u≤9223372036854775807→s.size+f≤1000→∃(q:Nat) (t:ByteArray),q<10∧t.size≤s.size+f∧UInt8.ofNat (48+q)::t.data.toList=Lib.decDigits u++s.data.toList∧∀M,f+1≤M→zD (qC5 n) M ((u:Int),s)=some ((q:Int),t)
 |f,u,s,h1,h2,h3=>by
  by_cases h:u<10
  ·refine ⟨u,s,h,by omega,by rw [Lib.decDigits,dif_pos h];rfl,fun M hM=>?_⟩
   obtain ⟨M,rfl⟩:∃k,M=k+1:=⟨M-1,by omega⟩
   have hc:¬(u:Int)≥10:=by omega
   rw [qP (r:=((u:Int),s)) (by simp [qC5,qC,qD,qF,qG,qH,qJ,Option.bind_some,qE,qK,qM,hc])]
  ·cases f with
   |zero=>simp at h1;omega
   |succ f=>
    have e1:Int.tmod (u:Int) 10=((u%10:Nat):Int):=by rw [Int.tmod_eq_emod_of_nonneg (by omega)];omega
    have e2:IntKind.i64.wrap (Int.tdiv (u:Int) 10)=((u/10:Nat):Int):=by
     rw [Int.tdiv_eq_ediv_of_nonneg (by omega),qb (by omega)];omega
    have e3:=u8w (q:=u%10) (by omega)
    have h4:u/10<10^(f+1):=by
     have:10^(f+1+1)=10^(f+1)*10:=Nat.pow_succ 10 (f+1)
     omega
    let d:ByteArray:=⟨#[UInt8.ofNat (48+u%10)]⟩
    have hd:d.size=1:=rfl
    have hs:(d++s).size=s.size+1:=by rw [ByteArray.size_append];omega
    obtain ⟨q,t,g1,g2,g3,g4⟩:=qM0 n f (u/10) (d++s) h4 (by omega) (by omega)
    refine ⟨q,t,g1,by omega,?_,fun M hM=>?_⟩
    ·rw [g3,qC2,Lib.decDigits.eq_1 u,dif_neg h]
     simp [d]
    ·obtain ⟨M,rfl⟩:∃k,M=k+1:=⟨M-1,by omega⟩
     have hc:(u:Int)≥10:=by omega
     have hz:d.size+s.size≤9223372036854775807:=by omega
     rw [qc (v':=(((u/10:Nat):Int),d++s)) (by
      simp only [qC5,qC,qD,qF,qG,qH,qJ,Option.bind_some,qE,qK,qM,e1,e2,e3,bytesOf,Option.map_some,Int.toNat_natCast]
      rw [if_pos (by simpa using hc),if_pos (by simp),if_pos (decide_eq_true hz)])]
     exact g4 M (by omega)
theorem qKZ (u:Nat) (h:u≤1000000000000000000):∀n,25≤n→qAJ n (u:Int)=some (qEX u):=by
 intro n hn
 obtain ⟨m,rfl,hm⟩:=up1 hn
 have p:(10:Nat)^(18+1)=10000000000000000000:=by decide
 obtain ⟨q,t,g1,g2,g3,g4⟩:=qM0 m 18 u ⟨#[]⟩ (by omega) (by omega) (by show 0+18≤1000;decide)
 have g4:=g4 m (by omega)
 have e3:=u8w g1
 have hc:¬(u:Int)<0:=by omega
 have hz:(⟨#[UInt8.ofNat (48+q)]⟩:ByteArray).size+t.size≤9223372036854775807:=by
  have g2:t.size≤0+18:=g2
  show 1+t.size≤_
  omega
 simp only [qAJ,qFP,qC,qD,qF,qG,qH,qJ,Option.bind_some,qE,qK,qM,g4,e3,bytesOf,Option.map_some,Int.toNat_natCast]
 rw [if_neg (by simp),if_pos (by simp),if_pos (decide_eq_true hz)]
 congr 1
 apply qGH
 rw [qC2]
 have e:Lib.itoa (u:Int)=Lib.decDigits u:=by unfold Lib.itoa;rw [if_neg hc];simp
 show UInt8.ofNat (48+q)::t.data.toList=Lib.itoa (u:Int)
 rw [g3,e]
 simp
theorem qGh (x:Int) (h: -1000000000000000000≤x∧x≤1000000000000000000):Ev (qAJ · x) (qEX x):=by
 by_cases hx:x<0
 ·refine ⟨30,fun n hn=>?_⟩
  obtain ⟨m,rfl,hm⟩:=up1 hn
  have e1:IntKind.i64.wrap (0-x)=((x.natAbs:Nat):Int):=by rw [qb (by omega)];omega
  have g:=qKZ x.natAbs (by omega) m (by omega)
  have hl:=qIp x.natAbs (by omega)
  have e0:Lib.itoa ((x.natAbs:Nat):Int)=Lib.decDigits x.natAbs:=by unfold Lib.itoa;rw [if_neg (by omega)];simp
  have hz:(⟨#[45]⟩:ByteArray).size+(qEX ((x.natAbs:Nat):Int)).size≤9223372036854775807:=by
   have:(qEX ((x.natAbs:Nat):Int)).size=(Lib.decDigits x.natAbs).length:=by rw [qCg];simp [qEX,e0]
   show 1+_≤_
   omega
  simp only [qAJ,qFP,qC,qD,qF,qG,qH,qJ,Option.bind_some,qE,qK,qM,e1,g]
  rw [if_pos (by simpa using hx),if_pos (decide_eq_true hz)]
  congr 1
  apply qGH
  rw [qC2]
  have e:Lib.itoa x=45::Lib.decDigits x.natAbs:=by unfold Lib.itoa;rw [if_pos hx]
  show 45::(Lib.itoa ((x.natAbs:Nat):Int))=Lib.itoa x
  rw [e,e0]
 ·obtain ⟨u,rfl⟩:∃u:Nat,x=u:=⟨x.toNat,by omega⟩
  exact ⟨25,qKZ u (by omega)⟩
theorem qOQ (x:Int) (h: -9223372036854775808≤x∧x≤9223372036854775807):Ev (qDf · x 10) (qEX x):=by
 refine ⟨1,fun n hn=>?_⟩
 obtain ⟨m,rfl,hm⟩:=up1 hn
 show za x 10=_
 unfold za
 rw [if_pos ⟨rfl,h⟩]
 rfl
theorem qHw (x:Int) (h: -9223372036854775808≤x∧x≤9223372036854775807):Ev (qBl · x) (qEX x):=by
 obtain ⟨n1,h1⟩:=qOQ x h
 refine ⟨n1+1,fun n hn=>?_⟩
 obtain ⟨m,rfl,hm⟩:=up1 hn
 have h1:=h1 m (by omega)
 dsimp only at h1
 simp only [qBl,qFh,qC,qD,qF,qG,qH,qJ,Option.bind_some,qE,qK,qM,h1]
theorem qFx (x:Int) (h:0≤x∧x≤5):Ev (qBM · x) (qZ x):=by
 refine ⟨1,fun n hn=>?_⟩
 obtain ⟨m,rfl,hm⟩:=up1 hn
 simp only [qBM,qGR,qC,qD,qF,qG,qH,qJ,Option.bind_some,qE,qK,qM]
 rcases lt6 h with rfl|rfl|rfl|rfl|rfl|rfl<;>simp [zu,qZ]
theorem qEP (x:Int) (h:0≤x∧x≤5):Ev (qAd · x) (qZ x):=by
 refine ⟨1,fun n hn=>?_⟩
 obtain ⟨m,rfl,hm⟩:=up1 hn
 simp only [qAd,qEh,qC,qD,qF,qG,qH,qJ,Option.bind_some,qE,qK,qM]
 rcases lt6 h with rfl|rfl|rfl|rfl|rfl|rfl<;>simp [zu,qZ]
theorem qM1 (x:Int):Ev (qEr · x) (qOo x):=by
 refine ⟨1,fun n hn=>?_⟩
 obtain ⟨m,rfl,hm⟩:=up1 hn
 simp only [qEr,qGf,qC,qD,qF,qG,qH,qJ,Option.bind_some,qE,qK,qM]
 by_cases h:x=1<;>simp [qOo,h]
theorem qKa (k x:Int) (s:ByteArray) (hb:s.size≤140737488351232):Ev (qA8 · k x s) (if okV k x s=true then qAA k x s else ⟨#[]⟩):=by
 cases ho:okV k x s with
 |false=>
  obtain ⟨n1,h1⟩:=qAI k x s hb
  refine ⟨n1+1,fun n hn=>?_⟩
  obtain ⟨m,rfl,hm⟩:=up1 hn
  have h1:=h1 m (by omega)
  dsimp only at h1
  simp only [qA8,qBL,qC,qD,qF,qG,qH,qJ,Option.bind_some,qE,qK,qM,h1]
  simp [ho]
 |true=>
  by_cases k1:k=1
  ·subst k1
   have:=qPg ho
   obtain ⟨n1,h1⟩:=qAI 1 x s hb
   obtain ⟨n2,h2⟩:=qGh x (by omega)
   refine ⟨n1+n2+1,fun n hn=>?_⟩
   obtain ⟨m,rfl,hm⟩:=up1 hn
   have h1:=h1 m (by omega)
   dsimp only at h1
   have h2:=h2 m (by omega)
   dsimp only at h2
   simp only [qA8,qBL,qC,qD,qF,qG,qH,qJ,Option.bind_some,qE,qK,qM,h1,h2]
   simp [ho,qAA]
  ·by_cases k2:k=2
   ·subst k2
    have:=qKX ho
    have hz:(⟨#[39]⟩:ByteArray).size+s.size≤9223372036854775807:=by show 1+s.size≤_;omega
    obtain ⟨n1,h1⟩:=qAI 2 x s hb
    refine ⟨n1+1,fun n hn=>?_⟩
    obtain ⟨m,rfl,hm⟩:=up1 hn
    have h1:=h1 m (by omega)
    dsimp only at h1
    simp only [qA8,qBL,qC,qD,qF,qG,qH,qJ,Option.bind_some,qE,qK,qM,h1]
    simp [ho,qAA,hz]
   ·by_cases k3:k=3
    ·subst k3
     obtain ⟨n1,h1⟩:=qAI 3 x s hb
     obtain ⟨n2,h2⟩:=qM1 x
     refine ⟨n1+n2+1,fun n hn=>?_⟩
     obtain ⟨m,rfl,hm⟩:=up1 hn
     have h1:=h1 m (by omega)
     dsimp only at h1
     have h2:=h2 m (by omega)
     dsimp only at h2
     simp only [qA8,qBL,qC,qD,qF,qG,qH,qJ,Option.bind_some,qE,qK,qM,h1,h2]
     simp [ho,qAA]
    ·by_cases k4:k=4
     ·subst k4
      have:=qNj ho
      obtain ⟨n1,h1⟩:=qAI 4 x s hb
      obtain ⟨n2,h2⟩:=qFx x (by omega)
      refine ⟨n1+n2+1,fun n hn=>?_⟩
      obtain ⟨m,rfl,hm⟩:=up1 hn
      have h1:=h1 m (by omega)
      dsimp only at h1
      have h2:=h2 m (by omega)
      dsimp only at h2
      simp only [qA8,qBL,qC,qD,qF,qG,qH,qJ,Option.bind_some,qE,qK,qM,h1,h2]
      simp [ho,qAA]
     ·obtain ⟨n1,h1⟩:=qAI k x s hb
      refine ⟨n1+1,fun n hn=>?_⟩
      obtain ⟨m,rfl,hm⟩:=up1 hn
      have h1:=h1 m (by omega)
      dsimp only at h1
      simp only [qA8,qBL,qC,qD,qF,qG,qH,qJ,Option.bind_some,qE,qK,qM,h1]
      simp [ho,qAA,k1,k2,k3,k4]
theorem qGJ (k x:Int) (s:ByteArray) (ho:okV k x s=true):Ev (qq · k x s) (qAA k x s):=by
 by_cases k1:k=1
 ·subst k1
  have:=qPg ho
  obtain ⟨n1,h1⟩:=qHw x (by omega)
  refine ⟨n1+1,fun n hn=>?_⟩
  obtain ⟨m,rfl,hm⟩:=up1 hn
  have h1:=h1 m (by omega)
  dsimp only at h1
  simp only [qq,qBb,qC,qD,qF,qG,qH,qJ,Option.bind_some,qE,qK,qM,h1]
  simp [qAA]
 ·by_cases k2:k=2
  ·subst k2
   have:=qKX ho
   have hz:(⟨#[39]⟩:ByteArray).size+s.size≤9223372036854775807:=by show 1+s.size≤_;omega
   refine ⟨1,fun n hn=>?_⟩
   obtain ⟨m,rfl,hm⟩:=up1 hn
   simp only [qq,qBb,qC,qD,qF,qG,qH,qJ,Option.bind_some,qE,qK,qM]
   simp [qAA,hz]
  ·by_cases k3:k=3
   ·subst k3
    have:=qNi ho
    refine ⟨1,fun n hn=>?_⟩
    obtain ⟨m,rfl,hm⟩:=up1 hn
    simp only [qq,qBb,qC,qD,qF,qG,qH,qJ,Option.bind_some,qE,qK,qM]
    have c:x=0∨x=1:=by omega
    rcases c with rfl|rfl<;>simp [zu,qAA,qOo]
   ·by_cases k4:k=4
    ·subst k4
     have:=qNj ho
     obtain ⟨n1,h1⟩:=qEP x (by omega)
     refine ⟨n1+1,fun n hn=>?_⟩
     obtain ⟨m,rfl,hm⟩:=up1 hn
     have h1:=h1 m (by omega)
     dsimp only at h1
     simp only [qq,qBb,qC,qD,qF,qG,qH,qJ,Option.bind_some,qE,qK,qM,h1]
     simp [qAA]
    ·refine ⟨1,fun n hn=>?_⟩
     obtain ⟨m,rfl,hm⟩:=up1 hn
     simp only [qq,qBb,qC,qD,qF,qG,qH,qJ,Option.bind_some,qE,qK,qM]
     simp [qAA,k1,k2,k3,k4]
theorem qHx (x:Int):Ev (qBm · x) (qBW x):=by
 by_cases h:1≤x∧x≤52
 ·by_cases h26:x≤26
  ·have w1:IntKind.i64.wrap (65+x)=65+x:=qb (by omega)
   have w2:IntKind.i64.wrap (65+x-1)=65+x-1:=qb (by omega)
   have w3:IntKind.u8.wrap (65+x-1)=65+x-1:=qON (by omega)
   have e:(65+x-1).toNat=64+x.toNat:=by omega
   obtain ⟨n1,h1⟩:=qAM x 1 52
   refine ⟨n1+1,fun n hn=>?_⟩
   obtain ⟨m,rfl,hm⟩:=up1 hn
   have h1:=h1 m (by omega)
   dsimp only at h1
   simp only [qBm,qDG,qC,qD,qF,qG,qH,qJ,Option.bind_some,qE,qK,qM,h1]
   simp only [w1,w2,w3,bytesOf,Option.map_some,e]
   simp [h,h26,qBW,show ¬x<1 by omega,show ¬52<x by omega]
  ·have w1:IntKind.i64.wrap (x-1)=x-1:=qb (by omega)
   have e1:Int.tdiv (x-1) 26=1:=by rw [Int.tdiv_eq_ediv_of_nonneg (by omega)];omega
   have e2:Int.tmod (x-1) 26=(((x.toNat-1)%26:Nat):Int):=by rw [Int.tmod_eq_emod_of_nonneg (by omega)];omega
   have w2:IntKind.u8.wrap (IntKind.i64.wrap (IntKind.i64.wrap (65+IntKind.i64.wrap 1)-1))=65:=by decide
   have w3:IntKind.i64.wrap (65+(((x.toNat-1)%26:Nat):Int))=65+(((x.toNat-1)%26:Nat):Int):=qb (by omega)
   have w4:IntKind.u8.wrap (65+(((x.toNat-1)%26:Nat):Int))=65+(((x.toNat-1)%26:Nat):Int):=qON (by omega)
   have e3:(65+(((x.toNat-1)%26:Nat):Int)).toNat=65+(x.toNat-1)%26:=by omega
   obtain ⟨n1,h1⟩:=qAM x 1 52
   refine ⟨n1+1,fun n hn=>?_⟩
   obtain ⟨m,rfl,hm⟩:=up1 hn
   have h1:=h1 m (by omega)
   dsimp only at h1
   simp only [qBm,qDG,qC,qD,qF,qG,qH,qJ,Option.bind_some,qE,qK,qM,h1]
   simp only [w1,e1,e2,w2,w3,w4,e3,bytesOf,Option.map_some]
   simp [h,h26,qBW,show ¬x<1 by omega,show ¬52<x by omega]
 ·have hx:x<1∨x>52:=by omega
  obtain ⟨n1,h1⟩:=qAM x 1 52
  refine ⟨n1+1,fun n hn=>?_⟩
  obtain ⟨m,rfl,hm⟩:=up1 hn
  have h1:=h1 m (by omega)
  dsimp only at h1
  simp only [qBm,qDG,qC,qD,qF,qG,qH,qJ,Option.bind_some,qE,qK,qM,h1]
  simp [h,qBW,hx]
theorem qNo (n x:Nat) (s:ByteArray) (h:1≤x∧x≤1000) (hs:s.size≤100):(qBO n ((x:Int),s)).run=some (.inl ((((x-1)/26:Nat):Int),(⟨#[UInt8.ofNat (65+(x-1)%26)]⟩:ByteArray)++s)):=by
 have w1:IntKind.i64.wrap ((x:Int)-1)=((x-1:Nat):Int):=by rw [qb (by omega)];omega
 have e1:Int.tdiv ((x-1:Nat):Int) 26=(((x-1)/26:Nat):Int):=by rw [Int.tdiv_eq_ediv_of_nonneg (by omega)];omega
 have e2:Int.tmod ((x-1:Nat):Int) 26=(((x-1)%26:Nat):Int):=by rw [Int.tmod_eq_emod_of_nonneg (by omega)];omega
 have w2:IntKind.i64.wrap (((x-1)/26:Nat):Int)=(((x-1)/26:Nat):Int):=qb (by omega)
 have w3:IntKind.i64.wrap (65+(((x-1)%26:Nat):Int))=65+(((x-1)%26:Nat):Int):=qb (by omega)
 have w4:IntKind.u8.wrap (65+(((x-1)%26:Nat):Int))=65+(((x-1)%26:Nat):Int):=qON (by omega)
 have e3:(65+(((x-1)%26:Nat):Int)).toNat=65+(x-1)%26:=by omega
 have hz:(⟨#[UInt8.ofNat (65+(x-1)%26)]⟩:ByteArray).size+s.size≤9223372036854775807:=by show 1+s.size≤_;omega
 have hc:(x:Int)>0:=by omega
 simp only [qBO,qC,qD,qF,qG,qH,qJ,Option.bind_some,qE,qK,qM,w1,e1,e2,w2,w3,w4,e3,bytesOf,Option.map_some]
 rw [if_pos (decide_eq_true hc),if_pos (by simp),if_pos (decide_eq_true hz)]
theorem qOr (n:Nat) (s:ByteArray):(qBO n (((0:Nat):Int),s)).run=some (.inr s):=by
 simp [qBO,qC,qD,qF,qG,qH,qJ,Option.bind_some,qE,qK,qM]
theorem qHy (x:Int):Ev (qCi · x) (qBW x):=by
 by_cases h:1≤x∧x≤52
 ·obtain ⟨n1,h1⟩:=qCV x 1 52
  refine ⟨n1+10,fun n hn=>?_⟩
  obtain ⟨m,rfl,hm⟩:=up1 hn
  have h1:=h1 m (by omega)
  dsimp only at h1
  obtain ⟨u,rfl⟩:∃u:Nat,x=u:=⟨x.toNat,by omega⟩
  obtain ⟨M,hM⟩:∃M,m=M+3:=⟨m-3,by omega⟩
  have key:zD (qBO m) m ((u:Int),(⟨#[]⟩:ByteArray))=some (qBW u):=by
   rw [hM,qc (qNo _ u ⟨#[]⟩ (by omega) (by decide))]
   by_cases h26:u≤26
   ·have e:(u-1)/26=0:=by omega
    have e2:65+(u-1)%26=64+u:=by omega
    rw [e,qP (qOr _ _),e2]
    congr 1
    apply qGH
    rw [qC2]
    simp [qBW,show ¬(u:Int)<1 by omega,show ¬(52:Int)<u by omega,show (u:Int)≤26 by omega]
   ·have e:(u-1)/26=1:=by omega
    have e4:(⟨#[UInt8.ofNat (65+(u-1)%26)]⟩++(⟨#[]⟩:ByteArray)).size≤100:=by rw [ByteArray.size_append];show 1+0≤100;decide
    rw [e,qc (qNo _ 1 _ (by decide) e4)]
    have e3:(1-1)/26=0:=by decide
    rw [e3,qP (qOr _ _)]
    congr 1
    apply qGH
    rw [qC2,qC2]
    simp [qBW,show ¬(u:Int)<1 by omega,show ¬(52:Int)<u by omega,show ¬(u:Int)≤26 by omega]
  simp only [qCi,qD9,qC,qD,qF,qG,qH,qJ,Option.bind_some,qE,qK,qM,h1,key]
  simp [h]
 ·have hx:x<1∨x>52:=by omega
  obtain ⟨n1,h1⟩:=qCV x 1 52
  refine ⟨n1+1,fun n hn=>?_⟩
  obtain ⟨m,rfl,hm⟩:=up1 hn
  have h1:=h1 m (by omega)
  dsimp only at h1
  simp only [qCi,qD9,qC,qD,qF,qG,qH,qJ,Option.bind_some,qE,qK,qM,h1]
  simp [h,qBW,hx]
theorem qBq (c r:Int) (fc fr:Bool):Ev (qd · c r fc fr) (qAO c r fc fr):=by
 cases ho:qAw c r with
 |false=>
  obtain ⟨n1,h1⟩:=qC8 c r
  refine ⟨n1+1,fun n hn=>?_⟩
  obtain ⟨m,rfl,hm⟩:=up1 hn
  have h1:=h1 m (by omega)
  dsimp only at h1
  simp only [qd,qDR,qC,qD,qF,qG,qH,qJ,Option.bind_some,qE,qK,qM,h1]
  simp [ho,qAO]
 |true=>
  have h:=qEO ho
  have s1:=qLc c
  have s2:=qJz h.2
  have d1:(⟨#[36]⟩:ByteArray).size=1:=rfl
  have z1:(⟨#[36]⟩:ByteArray).size+(qBW c).size≤9223372036854775807:=by omega
  have z2:((⟨#[36]⟩:ByteArray)++qBW c).size+(⟨#[36]⟩:ByteArray).size≤9223372036854775807:=by rw [ByteArray.size_append];omega
  have z3:(((⟨#[36]⟩:ByteArray)++qBW c)++(⟨#[36]⟩:ByteArray)).size+(qEX r).size≤9223372036854775807:=by rw [ByteArray.size_append,ByteArray.size_append];omega
  have z4:((⟨#[36]⟩:ByteArray)++qBW c).size+(qEX r).size≤9223372036854775807:=by rw [ByteArray.size_append];omega
  have z5:(qBW c).size+(⟨#[36]⟩:ByteArray).size≤9223372036854775807:=by omega
  have z6:(qBW c++(⟨#[36]⟩:ByteArray)).size+(qEX r).size≤9223372036854775807:=by rw [ByteArray.size_append];omega
  have z7:(qBW c).size+(qEX r).size≤9223372036854775807:=by omega
  obtain ⟨n1,h1⟩:=qC8 c r
  obtain ⟨n2,h2⟩:=qHy c
  obtain ⟨n3,h3⟩:=qGh r (by omega)
  refine ⟨n1+n2+n3+1,fun n hn=>?_⟩
  obtain ⟨m,rfl,hm⟩:=up1 hn
  have h1:=h1 m (by omega)
  dsimp only at h1
  have h2:=h2 m (by omega)
  dsimp only at h2
  have h3:=h3 m (by omega)
  dsimp only at h3
  simp only [qd,qDR,qC,qD,qF,qG,qH,qJ,Option.bind_some,qE,qK,qM,h1,h2,h3]
  simp only [ho,decide_eq_true z1,decide_eq_true z2,decide_eq_true z3,decide_eq_true z4,decide_eq_true z5,decide_eq_true z6,decide_eq_true z7,if_true,Bool.not_true,Bool.false_eq_true,if_false]
  cases fc<;>cases fr<;>simp only [if_true,if_false,Bool.false_eq_true,Option.some.injEq]<;>apply qGH<;>simp [qAO,ho,qC2]
theorem qDC (c r:Int) (fc fr:Bool):Ev (qA7 · c r fc fr) (qAO c r fc fr):=by
 cases ho:qAw c r with
 |false=>
  obtain ⟨n1,h1⟩:=qDn c r
  refine ⟨n1+1,fun n hn=>?_⟩
  obtain ⟨m,rfl,hm⟩:=up1 hn
  have h1:=h1 m (by omega)
  dsimp only at h1
  simp only [qA7,qDU,qC,qD,qF,qG,qH,qJ,Option.bind_some,qE,qK,qM,h1]
  simp [ho,qAO]
 |true=>
  have h:=qEO ho
  have s1:=qLc c
  have s2:=qJz h.2
  have d1:(⟨#[36]⟩:ByteArray).size=1:=rfl
  have d0:(⟨#[]⟩:ByteArray).size=0:=rfl
  have z1:(⟨#[36]⟩:ByteArray).size+(qBW c).size≤9223372036854775807:=by omega
  have z2:((⟨#[36]⟩:ByteArray)++qBW c).size+(⟨#[36]⟩:ByteArray).size≤9223372036854775807:=by rw [ByteArray.size_append];omega
  have z3:(((⟨#[36]⟩:ByteArray)++qBW c)++(⟨#[36]⟩:ByteArray)).size+(qEX r).size≤9223372036854775807:=by rw [ByteArray.size_append,ByteArray.size_append];omega
  have z4:((⟨#[36]⟩:ByteArray)++qBW c).size+(qEX r).size≤9223372036854775807:=by rw [ByteArray.size_append];omega
  have y1:(⟨#[]⟩:ByteArray).size+(qBW c).size≤9223372036854775807:=by omega
  have y2:((⟨#[]⟩:ByteArray)++qBW c).size+(⟨#[36]⟩:ByteArray).size≤9223372036854775807:=by rw [ByteArray.size_append];omega
  have y3:(((⟨#[]⟩:ByteArray)++qBW c)++(⟨#[36]⟩:ByteArray)).size+(qEX r).size≤9223372036854775807:=by rw [ByteArray.size_append,ByteArray.size_append];omega
  have y4:((⟨#[]⟩:ByteArray)++qBW c).size+(qEX r).size≤9223372036854775807:=by rw [ByteArray.size_append];omega
  obtain ⟨n1,h1⟩:=qDn c r
  obtain ⟨n2,h2⟩:=qHx c
  obtain ⟨n3,h3⟩:=qHw r (by omega)
  refine ⟨n1+n2+n3+1,fun n hn=>?_⟩
  obtain ⟨m,rfl,hm⟩:=up1 hn
  have h1:=h1 m (by omega)
  dsimp only at h1
  have h2:=h2 m (by omega)
  dsimp only at h2
  have h3:=h3 m (by omega)
  dsimp only at h3
  simp only [qA7,qDU,qC,qD,qF,qG,qH,qJ,Option.bind_some,qE,qK,qM,h1,h2,h3]
  simp only [ho,decide_eq_true z1,decide_eq_true z2,decide_eq_true z3,decide_eq_true z4,decide_eq_true y1,decide_eq_true y2,decide_eq_true y3,decide_eq_true y4,if_true,Bool.not_true,Bool.false_eq_true,if_false]
  cases fc<;>cases fr<;>simp only [if_true,if_false,Bool.false_eq_true,Option.some.injEq]<;>apply qGH<;>simp [qAO,ho,qC2]
theorem qM2 (n:Nat) (s:ByteArray):∀(r pre:List UInt8) (acc M:Nat),s.toList=pre++r→acc<10^pre.length→pre.length+r.length≤17→r.length+1≤M→
  zD (qBV n) M (s,(acc:Int),(pre.length:Int))=some (if r.all qB1=true then .inr ((qCu acc r:Nat):Int) else .inl (0,false))
 |r,pre,acc,0,h1,h2,h3,h4=>by omega
 | [],pre,acc,M+1,h1,h2,h3,h4=>by
  have hs:s.size=pre.length:=by rw [←qAl,h1];simp
  rw [qP (r:= .inr (acc:Int)) (by simp [qBV,qC,qD,qF,qG,qH,qJ,Option.bind_some,qE,qK,qM,hs])]
  simp [qG5]
 |c::r,pre,acc,M+1,h1,h2,h3,h4=>by
  have hs:s.size=pre.length+(r.length+1):=by rw [←qAl,h1];simp
  have hi:(pre.length:Int)<s.size:=by omega
  have hg:s.toList[pre.length]?=some c:=by rw [h1];simp
  simp only [List.length_cons] at h3 h4
  by_cases c1:(c.toNat:Int)<48
  ·rw [qP (r:= .inl (0,false)) (by simp [qBV,qC,qD,qF,qG,qH,qJ,Option.bind_some,qE,qK,qM,hi,hg,c1])]
   have:qB1 c=false:=by simp [qB1];omega
   simp [this]
  ·by_cases c2:(c.toNat:Int)>57
   ·rw [qP (r:= .inl (0,false)) (by simp [qBV,qC,qD,qF,qG,qH,qJ,Option.bind_some,qE,qK,qM,hi,hg,c1,c2])]
    have:qB1 c=false:=by simp [qB1];omega
    simp [this]
   ·have hc:qB1 c=true:=by simp [qB1];omega
    have hp:10^pre.length≤10^16:=Nat.pow_le_pow_right (by decide) (by omega)
    have p16:(10:Nat)^16=10000000000000000:=by decide
    have w1:IntKind.i64.wrap ((acc:Int)*10)=(acc:Int)*10:=qb (by omega)
    have w2:IntKind.u8.wrap ((c.toNat:Int)-48)=((c.toNat-48:Nat):Int):=by rw [qON (by omega)];omega
    have w3:IntKind.i64.wrap ((c.toNat-48:Nat):Int)=((c.toNat-48:Nat):Int):=qb (by omega)
    have w4:IntKind.i64.wrap ((acc:Int)*10+((c.toNat-48:Nat):Int))=((acc*10+(c.toNat-48):Nat):Int):=by rw [qb (by omega)];omega
    have w5:IntKind.i64.wrap ((pre.length:Int)+1)=(pre.length:Int)+1:=qb (by omega)
    have e0:((pre++ [c]).length:Int)=(pre.length:Int)+1:=by simp
    rw [qc (v':=(s,((acc*10+(c.toNat-48):Nat):Int),((pre++ [c]).length:Int))) (by
     rw [e0]
     simp [qBV,qC,qD,qF,qG,qH,qJ,Option.bind_some,qE,qK,qM,hi,hg,c1,c2,w1,w2,w3,w4,w5])]
    rw [qM2 n s r (pre++ [c]) (acc*10+(c.toNat-48)) M (by rw [h1];simp) (by rw [List.length_append,List.length_singleton,Nat.pow_succ];omega) (by simp;omega) (by omega)]
    simp [hc,qG6]
theorem qEs (s:ByteArray) (most:Int) (hm:most≤16):Ev (qAC · s most) (l1I s.toList most):=by
 have hsz:s.size=s.toList.length:=(qAl s).symm
 by_cases h0:s.toList= []
 ·have hz:s.size=0:=by rw [hsz,h0];rfl
  refine ⟨1,fun n hn=>?_⟩
  obtain ⟨m,rfl,hm⟩:=up1 hn
  simp only [qAC,qEA,qC,qD,qF,qG,qH,qJ,Option.bind_some,qE,qK,qM]
  simp [hz,h0,l1I,qGI]
 ·obtain ⟨c,r,hcr⟩:∃c r,s.toList=c::r:=by
   cases hq:s.toList with
   |nil=>exact absurd hq h0
   |cons a b=>exact ⟨a,b,rfl⟩
  have hl:s.size=r.length+1:=by rw [hsz,hcr];rfl
  have z1:¬(s.size:Int)<1:=by omega
  by_cases h1:(s.size:Int)>most
  ·refine ⟨1,fun n hn=>?_⟩
   obtain ⟨m,rfl,hm⟩:=up1 hn
   simp only [qAC,qEA,qC,qD,qF,qG,qH,qJ,Option.bind_some,qE,qK,qM]
   have:¬((s.toList.length:Int)≤most):=by rw [←hsz];omega
   simp [z1,h1,l1I,this]
  ·have hle:(s.toList.length:Int)≤most:=by rw [←hsz];omega
   refine ⟨30,fun n hn=>?_⟩
   obtain ⟨m,rfl,hm'⟩:=up1 hn
   have hg:s.toList[0]?=some c:=by rw [hcr];rfl
   have lp:=qM2 m s s.toList [] 0 m rfl (by decide) (by simp;omega) (by omega)
   simp only [List.length_nil,Int.natCast_zero] at lp
   have c48:((c.toNat:Int)==48)=(c==48):=by
    by_cases e:c=48
    ·subst e;rfl
    ·have:¬(c.toNat:Int)=48:=fun h=>e (UInt8.toNat_inj.1 (by show c.toNat=48;omega))
     rw [beq_eq_false_iff_ne.2 this,beq_eq_false_iff_ne.2 e]
   simp only [qAC,qEA,qC,qD,qF,qG,qH,qJ,Option.bind_some,qE,qK,qM,lp,Int.toNat_zero,hg,c48]
   rw [if_neg (by simpa using z1),if_neg (by simpa using h1),if_pos (by simp)]
   have ne:(s.toList== [])=false:=by simpa using h0
   have hd:s.toList.head?=some c:=by rw [hcr];rfl
   by_cases hc:c=48
   ·subst hc
    by_cases h2:(s.size:Int)>1
    ·have:¬s.toList.length=1:=by omega
     simp [h2,l1I,qGI,hd,this]
    ·have:s.toList.length=1:=by omega
     cases hall:s.toList.all qB1<;>simp [h2,l1I,qGI,hd,this,hall,ne,hle,qC,qD,qF,qG,qH,qJ,Option.bind_some,qE,qK,qM]
     ·omega
   ·have:(some c==some 48)=false:=by simpa using hc
    cases hall:s.toList.all qB1<;>simp [hc,l1I,qGI,hd,this,hall,ne,hle,qC,qD,qF,qG,qH,qJ,Option.bind_some,qE,qK,qM]
theorem qLw (s:ByteArray) (h:s.size≤281474976710656):Ev (qBd · s 10 64) (.inl (qBe s))∨Ev (qBd · s 10 64) (.inr (qBe s)):=by
 have key:∃r,zQ s 10 64=some r:=by
  unfold zQ
  rw [if_pos ⟨rfl,rfl,h⟩]
  split<;>exact ⟨_,rfl⟩
 obtain ⟨r,hr⟩:=key
 have e:Ev (qBd · s 10 64) r:=⟨1,fun n hn=>by
  obtain ⟨m,rfl,hm⟩:=up1 hn
  exact hr⟩
 rcases r with v|v
 ·exact .inl (by unfold qBe;rw [hr];exact e)
 ·exact .inr (by unfold qBe;rw [hr];exact e)
theorem qHX (s:ByteArray) (c:UInt8):Ev (qAb · s ⟨#[c]⟩) (if s.toList.head?=some c then (⟨s.toList.tail.toArray⟩,true) else (s,false)):=by
 refine ⟨1,fun n hn=>?_⟩
 obtain ⟨m,rfl,hm⟩:=up1 hn
 show zT s ⟨#[c]⟩=_
 unfold zT Lib.trimPrefix Lib.hasPrefix
 rw [←Go.Lib.toList_data s]
 have es:(⟨s.toList.toArray⟩:ByteArray)=s:=qGH (by rw [←Go.Lib.toList_data s])
 generalize s.toList=l at*
 cases l with
 |nil=>simp [es]
 |cons a r=>
  by_cases h:a=c
  ·subst h;simp
  ·have:¬c=a:=fun e=>h e.symm
   simp [h,this,es,List.isPrefixOf]
theorem qOR (s:ByteArray) (c:UInt8):Ev (qr · s ⟨#[c]⟩) (s.toList.head?==some c):=by
 refine ⟨2,fun n hn=>?_⟩
 obtain ⟨m,rfl,hm⟩:=up1 hn
 obtain ⟨m,rfl,hm⟩:=up1 hm
 have z:(⟨#[c]⟩:ByteArray).size=1:=rfl
 have tc:(⟨#[c]⟩:ByteArray).toList= [c]:=by rw [Go.Lib.toList_data]
 have hsz:s.size=s.toList.length:=(qAl s).symm
 simp only [qr,qCf,qAv,qAu,qC,qD,qF,qG,qH,qJ,Option.bind_some,qE,qK,qM,z,tc]
 cases hq:s.toList with
 |nil=>
  have:s.size=0:=by rw [hsz,hq];rfl
  simp [this]
 |cons a r=>
  have h1:(1:Int)≤s.size:=by rw [hsz,hq];simp;omega
  have e:(s.extract 0 1).toList= [a]:=by
   rw [Go.Lib.toList_data,ByteArray.data_extract,Array.toList_extract]
   rw [Go.Lib.toList_data] at hq
   simp [hq]
  have h2:1≤s.size:=by omega
  simp [h1,h2,e]
theorem qOS (n:Nat) (s:ByteArray) (a b:Int) (c:ByteArray) (i:Int) (v:V3) (hi:1≤i∧i≤5) (h1:qAd n i=some (qZ i)) (h2:qBi n i=some (4,i,em)):
  (qBC n (s,i,a,b,c,v.1,v.2.1,v.2.2)).run=some (.inl (s,i+1,a,b,c,if (qZ i).toList=s.toList then (4,i,em) else v)):=by
 have w1:IntKind.i64.wrap (i+1)=i+1:=qb (by omega)
 simp only [qBC,qC,qD,qF,qG,qH,qJ,Option.bind_some,qE,qK,qM,h1,h2,w1]
 rw [if_pos (decide_eq_true hi.2)]
 by_cases h:(qZ i).toList=s.toList<;>simp [h]
def qJ0 (s:ByteArray):Nat→Int→V3→V3
 |0,_,v=>v
 |k+1,i,v=>qJ0 s k (i+1) (if (qZ i).toList=s.toList then (4,i,em) else v)
theorem qQS (s:ByteArray):qJ0 s 5 1 (0,0,em)=if qDp s=0 then (0,0,em) else (4,qDp s,em):=by
 have a2:(1:Int)+1=2:=by decide
 have a3:(2:Int)+1=3:=by decide
 have a4:(3:Int)+1=4:=by decide
 have a5:(4:Int)+1=5:=by decide
 simp only [qJ0,qDp,a2,a3,a4,a5]
 by_cases h5:(qZ 5).toList=s.toList
 ·simp [h5]
 by_cases h4:(qZ 4).toList=s.toList
 ·simp [h5,h4]
 by_cases h3:(qZ 3).toList=s.toList
 ·simp [h5,h4,h3]
 by_cases h2:(qZ 2).toList=s.toList
 ·simp [h5,h4,h3,h2]
 by_cases h1:(qZ 1).toList=s.toList<;>simp [h5,h4,h3,h2,h1]
theorem qKb (n:Nat) (s:ByteArray) (a b:Int) (c:ByteArray) (h1:∀i,0≤i∧i≤5→qAd n i=some (qZ i)) (h2:∀i,1≤i∧i≤5→qBi n i=some (4,i,em)):
  ∀(k:Nat) (i:Int) (v:V3) (M:Nat),i+k=6→1≤i→k+1≤M→zD (qBC n) M (s,i,a,b,c,v.1,v.2.1,v.2.2)=some (s,a,b,c,(qJ0 s k i v).1,(qJ0 s k i v).2.1,(qJ0 s k i v).2.2)
 |k,i,v,0,e,h,hM=>by omega
 |0,i,v,M+1,e,h,hM=>by
  have hi:¬i≤5:=by omega
  rw [qP (r:=(s,a,b,c,v.1,v.2.1,v.2.2)) (by simp [qBC,qC,qD,qF,qG,qH,qJ,Option.bind_some,qE,qK,qM,hi])]
  rfl
 |k+1,i,v,M+1,e,h,hM=>by
  rw [qc (qOS n s a b c i v (by omega) (h1 i (by omega)) (h2 i (by omega)))]
  exact qKb n s a b c h1 h2 k (i+1) _ M (by omega) (by omega) (by omega)
theorem qNp:okV 0 0 em=true:=by simp [okV,em,q9]
theorem qLx:qAA 0 0 em=⟨#[]⟩:=rfl
theorem qFR {R:Type} {F:Nat→Int→Option R} {f:Int→R} {lo:Int} (h0:0≤lo) (h:∀i,lo≤i∧i≤5→Ev (F · i) (f i)):∃n0,∀n,n0≤n→∀i,lo≤i∧i≤5→F n i=some (f i):=by
 obtain ⟨n0,h1⟩:=qCG (F:=fun i n=>if lo≤i∧i≤5 then F n i else some (f i)) (f:=f) [0,1,2,3,4,5] (fun i _=>by
  by_cases hi:lo≤i∧i≤5
  ·obtain ⟨n0,h1⟩:=h i hi
   exact ⟨n0,fun n hn=>by simp only [if_pos hi];exact h1 n hn⟩
  ·exact ⟨0,fun n _=>by simp only [if_neg hi]⟩)
 refine ⟨n0,fun n hn i hi=>?_⟩
 have:=h1 n hn i (by
  have c:i=0∨i=1∨i=2∨i=3∨i=4∨i=5:=by omega
  rcases c with rfl|rfl|rfl|rfl|rfl|rfl<;>simp)
 simp only [if_pos hi] at this
 exact this
theorem qKc (s:ByteArray) (hb:s.size≤1048576):Ev (qAB · s) (qh s):=by
 have te:(⟨#[]⟩:ByteArray).toList= []:=q9
 have tF:(⟨#[70,65,76,83,69]⟩:ByteArray).toList= [70,65,76,83,69]:=by rw [Go.Lib.toList_data]
 have tT:(⟨#[84,82,85,69]⟩:ByteArray).toList= [84,82,85,69]:=by rw [Go.Lib.toList_data]
 have fin:∀k x (t:ByteArray),qAx s=(k,x,t)→t.size≤140737488351232→∃n0,∀n,n0≤n→qAk n k x t=some (okV k x t)∧(okV k x t=true→qq n k x t=some (qAA k x t)):=fun k x t _ ht=>by
  obtain ⟨n1,h1⟩:=qHv k x t ht
  by_cases ho:okV k x t=true
  ·obtain ⟨n2,h2⟩:=qGJ k x t ho
   exact ⟨n1+n2,fun n hn=>⟨h1 n (by omega),fun _=>h2 n (by omega)⟩⟩
  ·exact ⟨n1,fun n hn=>⟨h1 n hn,fun h=>absurd h ho⟩⟩
 have rd:∀k x (t:ByteArray),qAx s=(k,x,t)→qh s=if okV k x t=true∧(qAA k x t).toList=s.toList then (k,x,t,true) else (0,0,⟨#[]⟩,false):=fun k x t h=>by unfold qh;rw [h]
 by_cases h39:s.toList.head?=some 39
 ·have hc:qAx s=(2,0,⟨s.toList.tail.toArray⟩):=by unfold qAx;rw [if_pos h39]
  have hsz:(⟨s.toList.tail.toArray⟩:ByteArray).size≤140737488351232:=by rw [qCg];simp only [List.length_tail];rw [qAl];omega
  obtain ⟨n0,hf⟩:=fin _ _ _ hc hsz
  rw [rd _ _ _ hc]
  obtain ⟨n1,h1⟩:=qHX s 39
  refine ⟨n0+n1+1,fun n hn=>?_⟩
  obtain ⟨m,rfl,hm⟩:=up1 hn
  have h1:=h1 m (by omega)
  obtain ⟨g1,g2⟩:=hf m (by omega)
  dsimp only at h1
  simp only [qAB,qBK,qC,qD,qF,qG,qH,qJ,Option.bind_some,qE,qK,qM,h1,if_pos h39,g1]
  cases ho:okV 2 0 (⟨s.toList.tail.toArray⟩:ByteArray) with
  |false=>simp
  |true=>
   simp only [g2 ho]
   by_cases e:(qAA 2 0 (⟨s.toList.tail.toArray⟩:ByteArray)).toList=s.toList<;>simp [e]
 ·have cut:=qHX s 39
  rw [if_neg h39] at cut
  by_cases hF:s.toList= [70,65,76,83,69]
  ·have hc:qAx s=(3,0,em):=by unfold qAx;rw [if_neg h39,if_pos hF]
   have hT:¬s.toList= [84,82,85,69]:=by rw [hF];decide
   obtain ⟨n0,hf⟩:=fin _ _ _ hc (by decide)
   rw [rd _ _ _ hc]
   obtain ⟨n1,h1⟩:=cut
   obtain ⟨n2,h2⟩:=qJU false
   refine ⟨n0+n1+n2+1,fun n hn=>?_⟩
   obtain ⟨m,rfl,hm⟩:=up1 hn
   have h1:=h1 m (by omega)
   have h2:=h2 m (by omega)
   obtain ⟨g1,g2⟩:=hf m (by omega)
   dsimp only at h1 h2
   simp only [Bool.false_eq_true,if_false] at h2
   have bT:(s.toList== [84,82,85,69])=false:=by simpa using hT
   have bF:(s.toList== [70,65,76,83,69])=true:=by simpa using hF
   simp only [qAB,qBK,qC,qD,qF,qG,qH,qJ,Option.bind_some,qE,qK,qM,h1,tF,tT,bT,bF,h2,g1]
   cases ho:okV 3 0 em with
   |false=>simp
   |true=>
    simp only [g2 ho]
    by_cases e:(qAA 3 0 em).toList=s.toList<;>simp [e]
  ·by_cases hT:s.toList= [84,82,85,69]
   ·have hc:qAx s=(3,1,em):=by unfold qAx;rw [if_neg h39,if_neg hF,if_pos hT]
    obtain ⟨n0,hf⟩:=fin _ _ _ hc (by decide)
    rw [rd _ _ _ hc]
    obtain ⟨n1,h1⟩:=cut
    obtain ⟨n2,h2⟩:=qJU true
    refine ⟨n0+n1+n2+1,fun n hn=>?_⟩
    obtain ⟨m,rfl,hm⟩:=up1 hn
    have h1:=h1 m (by omega)
    have h2:=h2 m (by omega)
    obtain ⟨g1,g2⟩:=hf m (by omega)
    dsimp only at h1 h2
    simp only [if_true] at h2
    have bT:(s.toList== [84,82,85,69])=true:=by simpa using hT
    have bF:(s.toList== [70,65,76,83,69])=false:=by simpa using hF
    simp only [qAB,qBK,qC,qD,qF,qG,qH,qJ,Option.bind_some,qE,qK,qM,h1,tF,tT,bT,bF,h2,g1]
    cases ho:okV 3 1 em with
    |false=>simp
    |true=>
     simp only [g2 ho]
     by_cases e:(qAA 3 1 em).toList=s.toList<;>simp [e]
   ·have bT:(s.toList== [84,82,85,69])=false:=by simpa using hT
    have bF:(s.toList== [70,65,76,83,69])=false:=by simpa using hF
    have pre:=qOR s 35
    by_cases h35:s.toList.head?=some 35
    ·have hc:qAx s=(if qDp s=0 then (0,0,em) else (4,qDp s,em)):=by unfold qAx;rw [if_neg h39,if_neg hF,if_neg hT,if_pos h35]
     have main:∀k x (t:ByteArray),qAx s=(k,x,t)→qJ0 s 5 1 (0,0,em)=(k,x,t)→t.size≤140737488351232→Ev (qAB · s) (qh s):=fun k x t hc hu ht=>by
      obtain ⟨n0,hf⟩:=fin _ _ _ hc ht
      rw [rd _ _ _ hc]
      obtain ⟨n1,h1⟩:=cut
      obtain ⟨n2,h2⟩:=pre
      obtain ⟨n3,h3⟩:=qFR (F:=qAd) (f:=qZ) (lo:=0) (by decide) qEP
      obtain ⟨n4,h4⟩:=qFR (F:=qBi) (f:=fun i=>(4,i,em)) (lo:=1) (by decide) (fun i _=>qJT i)
      refine ⟨n0+n1+n2+n3+n4+10,fun n hn=>?_⟩
      obtain ⟨m,rfl,hm⟩:=up1 hn
      have h1:=h1 m (by omega)
      have h2:=h2 m (by omega)
      have lp:=qKb m s 0 0 ⟨#[]⟩ (h3 m (by omega)) (h4 m (by omega)) 5 1 (0,0,em) m (by decide) (by decide) (by omega)
      rw [hu] at lp
      obtain ⟨g1,g2⟩:=hf m (by omega)
      dsimp only [em] at h1 h2 lp g1 g2
      have b35:(s.toList.head?==some 35)=true:=by simpa using h35
      simp only [qAB,qBK,qC,qD,qF,qG,qH,qJ,Option.bind_some,qE,qK,qM,h1,tF,tT,bT,bF,h2,b35,lp,g1]
      cases ho:okV k x t with
      |false=>simp
      |true=>
       simp only [g2 ho]
       by_cases e:(qAA k x t).toList=s.toList<;>simp [e]
     by_cases hz:qDp s=0
     ·rw [if_pos hz] at hc
      exact main _ _ _ hc (by rw [qQS,if_pos hz]) (show (0:Nat)≤140737488351232 by decide)
     ·rw [if_neg hz] at hc
      exact main _ _ _ hc (by rw [qQS,if_neg hz]) (show (0:Nat)≤140737488351232 by decide)
    ·have b35:(s.toList.head?==some 35)=false:=by simpa using h35
     by_cases h0:s.toList= []
     ·have hc:qAx s=(0,0,em):=by unfold qAx;rw [if_neg h39,if_neg hF,if_neg hT,if_neg h35,if_pos h0]
      obtain ⟨n0,hf⟩:=fin _ _ _ hc (by decide)
      rw [rd _ _ _ hc]
      obtain ⟨n1,h1⟩:=cut
      obtain ⟨n2,h2⟩:=pre
      refine ⟨n0+n1+n2+1,fun n hn=>?_⟩
      obtain ⟨m,rfl,hm⟩:=up1 hn
      have h1:=h1 m (by omega)
      have h2:=h2 m (by omega)
      obtain ⟨g1,g2⟩:=hf m (by omega)
      dsimp only [em] at h1 h2 g1 g2
      have b0:(!(s.toList== []))=false:=by simpa using h0
      simp only [qAB,qBK,qC,qD,qF,qG,qH,qJ,Option.bind_some,qE,qK,qM,h1,tF,tT,bT,bF,h2,b35,te,b0,g1]
      have ho:=qNp
      dsimp only [em] at ho
      simp only [g2 ho,ho]
      by_cases e:(qAA 0 0 (⟨#[]⟩:ByteArray)).toList=s.toList<;>simp [em,ho,e]
     ·have hc:qAx s=(1,qBe s,em):=by unfold qAx;rw [if_neg h39,if_neg hF,if_neg hT,if_neg h35,if_neg h0]
      obtain ⟨n0,hf⟩:=fin _ _ _ hc (by decide)
      rw [rd _ _ _ hc]
      obtain ⟨n1,h1⟩:=cut
      obtain ⟨n2,h2⟩:=pre
      obtain ⟨n4,h4⟩:=qMw (qBe s)
      have b0:(!(s.toList== []))=true:=by simpa using h0
      rcases qLw s (by omega) with ⟨n3,h3⟩|⟨n3,h3⟩
      all_goals
       refine ⟨n0+n1+n2+n3+n4+1,fun n hn=>?_⟩
       obtain ⟨m,rfl,hm⟩:=up1 hn
       have h1:=h1 m (by omega)
       have h2:=h2 m (by omega)
       have h3:=h3 m (by omega)
       have h4:=h4 m (by omega)
       obtain ⟨g1,g2⟩:=hf m (by omega)
       dsimp only at h1 h2 h3 h4
       simp only [qAB,qBK,qC,qD,qF,qG,qH,qJ,Option.bind_some,qE,qK,qM,h1,tF,tT,bT,bF,h2,b35,te,b0,h3,h4,g1]
       cases ho:okV 1 (qBe s) em with
       |false=>simp
       |true=>
        simp only [g2 ho]
        by_cases e:(qAA 1 (qBe s) em).toList=s.toList<;>simp [e]
theorem qKd (n:Nat) (s:ByteArray) (a b:Int) (c:ByteArray) (h1:∀i,0≤i∧i≤5→qBM n i=some (qZ i)):
  ∀(k:Nat) (i x:Int) (M:Nat),i+k=6→1≤i→k+1≤M→(qJ0 s k i (4,x,em)).1=4∧(qJ0 s k i (4,x,em)).2.2=em∧zD (qBQ n) M (s,i,a,b,c,4,x,⟨#[]⟩)=some (a,b,c,4,(qJ0 s k i (4,x,em)).2.1,⟨#[]⟩)
 |k,i,x,0,e,h,hM=>by omega
 |0,i,x,M+1,e,h,hM=>by
  have hi:¬i≤5:=by omega
  refine ⟨rfl,rfl,?_⟩
  rw [qP (r:=(a,b,c,4,x,⟨#[]⟩)) (by simp [qBQ,qC,qD,qF,qG,qH,qJ,Option.bind_some,qE,qK,qM,hi])]
  rfl
 |k+1,i,x,M+1,e,h,hM=>by
  have hi:i≤5:=by omega
  have g:=h1 i (by omega)
  have w1:IntKind.i64.wrap (i+1)=i+1:=qb (by omega)
  have hu:qJ0 s (k+1) i (4,x,em)=qJ0 s k (i+1) (4,if (qZ i).toList=s.toList then i else x,em):=by
   simp only [qJ0]
   split<;>rfl
  rw [hu,qc (v':=(s,i+1,a,b,c,4,(if (qZ i).toList=s.toList then i else x),⟨#[]⟩)) (by
   simp only [qBQ,qC,qD,qF,qG,qH,qJ,Option.bind_some,qE,qK,qM,g,w1]
   rw [if_pos (decide_eq_true hi)]
   by_cases hq:(qZ i).toList=s.toList<;>simp [hq])]
  exact qKd n s a b c h1 k (i+1) _ M (by omega) (by omega) (by omega)
theorem qRA (s:ByteArray):qJ0 s 5 1 (4,0,em)=(4,qDp s,em):=by
 have a2:(1:Int)+1=2:=by decide
 have a3:(2:Int)+1=3:=by decide
 have a4:(3:Int)+1=4:=by decide
 have a5:(4:Int)+1=5:=by decide
 simp only [qJ0,qDp,a2,a3,a4,a5]
 by_cases h5:(qZ 5).toList=s.toList
 ·simp [h5]
 by_cases h4:(qZ 4).toList=s.toList
 ·simp [h5,h4]
 by_cases h3:(qZ 3).toList=s.toList
 ·simp [h5,h4,h3]
 by_cases h2:(qZ 2).toList=s.toList
 ·simp [h5,h4,h3,h2]
 by_cases h1:(qZ 1).toList=s.toList<;>simp [h5,h4,h3,h2,h1]
theorem qR3 (s:ByteArray):(s.extract (1:Int).toNat ((s.size:Int)).toNat).toList=s.toList.tail:=by
 have e1:(1:Int).toNat=1:=rfl
 rw [Int.toNat_natCast,e1,Go.Lib.toList_data,ByteArray.data_extract,Array.toList_extract,Go.Lib.toList_data]
 have hl:s.data.toList.length=s.size:=by rw [←qCg]
 show (s.data.toList.drop 1).take (s.size-1)=s.data.toList.tail
 rw [List.take_of_length_le (by rw [List.length_drop,hl];exact Nat.le_refl _),List.drop_one]
theorem qQT {s:ByteArray} {c:UInt8} {r:List UInt8} (h:s.toList=c::r):s.toList[((0:Int)).toNat]?=some c:=by rw [h];rfl
theorem qPk {x:Int}:okV 1 x em=decide (-1000000000000000≤x∧x≤1000000000000000):=by
 simp [okV,em,q9]
theorem qQA {s:ByteArray} (h39:¬s.toList.head?=some 39) (hF:¬s.toList= [70,65,76,83,69]) (hT:¬s.toList= [84,82,85,69]) (h35:¬s.toList.head?=some 35) (h0:¬s.toList= []):
  qh s=match qOP s.toList with
   |some x=>if okV 1 x em=true then (1,x,em,true) else (0,0,⟨#[]⟩,false)
   |none=>(0,0,⟨#[]⟩,false):=by
 have hc:qAx s=(1,qBe s,em):=by unfold qAx;rw [if_neg h39,if_neg hF,if_neg hT,if_neg h35,if_neg h0]
 have rd:qh s=if okV 1 (qBe s) em=true∧(qAA 1 (qBe s) em).toList=s.toList then (1,qBe s,em,true) else (0,0,⟨#[]⟩,false):=by unfold qh;rw [hc]
 have tx:∀x,(qAA 1 x em).toList=Lib.itoa x:=fun x=>by
  rw [Go.Lib.toList_data];simp [qAA,qEX]
 have back:okV 1 (qBe s) em=true∧(qAA 1 (qBe s) em).toList=s.toList→qOP s.toList=some (qBe s):=fun ⟨a,b⟩=>by
  rw [tx] at b
  rw [qPk] at a
  rw [←b]
  exact qP9 (by simpa using a)
 rw [rd]
 cases hn:qOP s.toList with
 |none=>
  rw [if_neg (fun h=>by rw [back h] at hn;cases hn)]
 |some x=>
  by_cases hx:okV 1 x em=true
  ·have hi:=qP8 hn
   have hr: -1000000000000000≤x∧x≤1000000000000000:=by rw [qPk] at hx;simpa using hx
   have hp:=qIZ hi hr
   dsimp only
   rw [hp,if_pos ⟨hx,by rw [tx,hi]⟩,if_pos hx]
  ·dsimp only
   rw [if_neg hx,if_neg (fun h=>by
    have:=back h
    rw [hn] at this
    cases this
    exact hx h.1)]
theorem qQB (s:ByteArray) {c:UInt8} {r:List UInt8} (hcr:s.toList=c::r):qOP s.toList=if c=45 then (if (l1I s.toList.tail 16).2=true∧(l1I s.toList.tail 16).1≠0 then some (-(l1I s.toList.tail 16).1) else none) else (if (l1I s.toList 16).2=true then some (l1I s.toList 16).1 else none):=by
 unfold qOP
 rw [hcr]
 simp only [List.head?_cons,Option.some.injEq,List.drop_one]
theorem qKe (s:ByteArray) (hb:s.size≤1048576):Ev (qAH · s) (qh s):=by
 have te:(⟨#[]⟩:ByteArray).toList= []:=q9
 have tF:(⟨#[70,65,76,83,69]⟩:ByteArray).toList= [70,65,76,83,69]:=by rw [Go.Lib.toList_data]
 have tT:(⟨#[84,82,85,69]⟩:ByteArray).toList= [84,82,85,69]:=by rw [Go.Lib.toList_data]
 have hsz:s.size=s.toList.length:=(qAl s).symm
 by_cases h0:s.toList= []
 ·have hv:qh s=(0,0,⟨#[]⟩,true):=by
   have hc:qAx s=(0,0,em):=by unfold qAx;rw [h0];simp
   unfold qh
   rw [hc,if_pos ⟨qNp,by rw [qLx,h0];exact te⟩]
   rfl
  rw [hv]
  refine ⟨1,fun n hn=>?_⟩
  obtain ⟨m,rfl,hm⟩:=up1 hn
  simp only [qAH,qA3,qC,qD,qF,qG,qH,qJ,Option.bind_some,qE,qK,qM]
  simp [h0,te]
 ·obtain ⟨c,r,hcr⟩:∃c r,s.toList=c::r:=by
   cases hq:s.toList with
   |nil=>exact absurd hq h0
   |cons a b=>exact ⟨a,b,rfl⟩
  have hg:=qQT hcr
  have hd:s.toList.head?=some c:=by rw [hcr];rfl
  have b0:(s.toList== [])=false:=by simpa using h0
  have s1:(1:Int)≤(s.size:Int):=by rw [hsz,hcr];simp;omega
  have k39:=qQ9 c 39 (by decide)
  have k35:=qQ9 c 35 (by decide)
  have k45:=qQ9 c 45 (by decide)
  have u39:UInt8.ofNat 39=39:=rfl
  have u35:UInt8.ofNat 35=35:=rfl
  have u45:UInt8.ofNat 45=45:=rfl
  rw [u39] at k39
  rw [u35] at k35
  rw [u45] at k45
  have q39:((39:Nat):Int)=39:=rfl
  have q35:((35:Nat):Int)=35:=rfl
  have q45:((45:Nat):Int)=45:=rfl
  rw [q39] at k39
  rw [q35] at k35
  rw [q45] at k45
  by_cases h39:c=39
  ·have hx:(⟨s.toList.tail.toArray⟩:ByteArray)=s.extract (1:Int).toNat ((s.size:Int)).toNat:=qDL (by rw [qR3];rw [Go.Lib.toList_data])
   have hc:qAx s=(2,0,s.extract (1:Int).toNat ((s.size:Int)).toNat):=by unfold qAx;rw [if_pos (by rw [hd,h39]),hx]
   have hz:(s.extract (1:Int).toNat ((s.size:Int)).toNat).size≤140737488351232:=by rw [←hx,qCg];simp only [List.length_tail];rw [qAl];omega
   have hvt:(qAA 2 0 (s.extract (1:Int).toNat ((s.size:Int)).toNat)).toList=s.toList:=by
    rw [←hx,Go.Lib.toList_data]
    show ((⟨#[39]⟩:ByteArray)++_).data.toList=_
    rw [qC2,hcr,h39]
    rfl
   have hv:qh s=if okV 2 0 (s.extract (1:Int).toNat ((s.size:Int)).toNat)=true then (2,0,s.extract (1:Int).toNat ((s.size:Int)).toNat,true) else (0,0,⟨#[]⟩,false):=by
    unfold qh
    rw [hc]
    simp only [hvt,and_true]
   rw [hv]
   have e39:(some c==some 39)=true:=by rw [h39];rfl
   obtain ⟨n1,h1⟩:=qAI 2 0 (s.extract (1:Int).toNat ((s.size:Int)).toNat) hz
   refine ⟨n1+1,fun n hn=>?_⟩
   obtain ⟨m,rfl,hm⟩:=up1 hn
   have h1:=h1 m (by omega)
   dsimp only at h1
   simp only [qAH,qA3,qC,qD,qF,qG,qH,qJ,Option.bind_some,qE,qK,qM,h1]
   simp only [qC,qD,qF,qG,qH,qJ,Option.bind_some,qE,qK,qM,te,b0,hg,k39,e39]
   cases ho:okV 2 0 (s.extract (1:Int).toNat ((s.size:Int)).toNat)<;>simp [s1]
  ·have n39:¬s.toList.head?=some 39:=by rw [hd];simpa using h39
   have e39:(some c==some 39)=false:=by simpa using h39
   by_cases hT:s.toList= [84,82,85,69]
   ·have hF:¬s.toList= [70,65,76,83,69]:=by rw [hT];decide
    have hc:qAx s=(3,1,em):=by unfold qAx;rw [if_neg n39,if_neg hF,if_pos hT]
    have ho:okV 3 1 em=true:=by simp [okV,em,q9]
    have hv:qh s=(3,1,⟨#[]⟩,true):=by
     unfold qh
     rw [hc,if_pos ⟨ho,by rw [hT];exact tT⟩]
     rfl
    rw [hv]
    have bT:(s.toList== [84,82,85,69])=true:=by simpa using hT
    obtain ⟨n1,h1⟩:=qAI 3 1 ⟨#[]⟩ (by decide)
    refine ⟨n1+1,fun n hn=>?_⟩
    obtain ⟨m,rfl,hm⟩:=up1 hn
    have h1:=h1 m (by omega)
    dsimp only at h1
    simp only [qAH,qA3,qC,qD,qF,qG,qH,qJ,Option.bind_some,qE,qK,qM,h1]
    dsimp only [em] at ho
    simp only [qC,qD,qF,qG,qH,qJ,Option.bind_some,qE,qK,qM,te,b0,hg,k39,e39,tT,bT,ho]
    simp
   ·have bT:(s.toList== [84,82,85,69])=false:=by simpa using hT
    by_cases hF:s.toList= [70,65,76,83,69]
    ·have hc:qAx s=(3,0,em):=by unfold qAx;rw [if_neg n39,if_pos hF]
     have ho:okV 3 0 em=true:=by simp [okV,em,q9]
     have hv:qh s=(3,0,⟨#[]⟩,true):=by
      unfold qh
      rw [hc,if_pos ⟨ho,by rw [hF];exact tF⟩]
      rfl
     rw [hv]
     have bF:(s.toList== [70,65,76,83,69])=true:=by simpa using hF
     obtain ⟨n1,h1⟩:=qAI 3 0 ⟨#[]⟩ (by decide)
     refine ⟨n1+1,fun n hn=>?_⟩
     obtain ⟨m,rfl,hm⟩:=up1 hn
     have h1:=h1 m (by omega)
     dsimp only at h1
     simp only [qAH,qA3,qC,qD,qF,qG,qH,qJ,Option.bind_some,qE,qK,qM,h1]
     dsimp only [em] at ho
     simp only [qC,qD,qF,qG,qH,qJ,Option.bind_some,qE,qK,qM,te,b0,hg,k39,e39,tT,bT,tF,bF,ho]
     simp
    ·have bF:(s.toList== [70,65,76,83,69])=false:=by simpa using hF
     by_cases h35:c=35
     ·have n35:s.toList.head?=some 35:=by rw [hd,h35]
      have e35:(some c==some 35)=true:=by rw [h35];rfl
      have hc:qAx s=(if qDp s=0 then (0,0,em) else (4,qDp s,em)):=by unfold qAx;rw [if_neg n39,if_neg hF,if_neg hT,if_pos n35]
      have hin:=qQ7 s
      have ho:okV 4 (qDp s) (⟨#[]⟩:ByteArray)=!(qDp s==0):=by
       by_cases hz:qDp s=0
       ·simp [okV,q9,hz]
       ·have hr:1≤qDp s∧qDp s≤5:=by omega
        simp [okV,q9,hr,hz]
      have hv:qh s=if qDp s=0 then (0,0,⟨#[]⟩,false) else (4,qDp s,⟨#[]⟩,true):=by
       unfold qh
       rw [hc]
       by_cases hz:qDp s=0
       ·simp only [if_pos hz]
        rw [if_neg (fun h=>h0 (by rw [←h.2,qLx];exact te))]
       ·simp only [if_neg hz]
        have ho':okV 4 (qDp s) em=true:=by show okV 4 (qDp s) ⟨#[]⟩=true;rw [ho];simpa using hz
        rw [if_pos ⟨ho',by show (qZ (qDp s)).toList=s.toList;rw [qQ8 hz]⟩]
        rfl
      rw [hv]
      obtain ⟨n1,h1⟩:=qAI 4 (qDp s) ⟨#[]⟩ (by decide)
      obtain ⟨n3,h3⟩:=qFR (F:=qBM) (f:=qZ) (lo:=0) (by decide) qFx
      refine ⟨n1+n3+10,fun n hn=>?_⟩
      obtain ⟨m,rfl,hm⟩:=up1 hn
      have h1:=h1 m (by omega)
      dsimp only at h1
      obtain ⟨_,_,lp⟩:=qKd m s 0 0 ⟨#[]⟩ (h3 m (by omega)) 5 1 0 m (by decide) (by decide) (by omega)
      rw [qRA] at lp
      simp only [qAH,qA3,qC,qD,qF,qG,qH,qJ,Option.bind_some,qE,qK,qM,te,b0,hg,k39,e39,tT,bT,tF,bF,k35,e35,lp,h1,ho]
      by_cases hz:qDp s=0<;>simp [hz]
     ·have n35:¬s.toList.head?=some 35:=by rw [hd];simpa using h35
      have e35:(some c==some 35)=false:=by simpa using h35
      rw [qQA n39 hF hT n35 h0,qQB s hcr]
      dsimp only [em]
      by_cases h45:c=45
      ·have e45:(some c==some 45)=true:=by rw [h45];rfl
       have g16:∀{q:List UInt8},(l1I q 16).2=true→(0≤(l1I q 16).1∧(l1I q 16).1≤10000000000000000):=fun {q} hq=>by
        have p16:(10:Nat)^16=10000000000000000:=by decide
        obtain ⟨a1,a2,a3,a4⟩:=qMz hq
        rw [a3]
        simp only [qGI,Bool.and_eq_true] at a2
        have:=qPi q 0 0 a2.1.2 (by decide)
        have h2:(10:Nat)^(0+q.length)≤10^16:=Nat.pow_le_pow_right (by decide) (by omega)
        omega
       have hl:=qEs (s.extract (1:Int).toNat ((s.size:Int)).toNat) 16 (by decide)
       rw [qR3] at hl
       have hrange:= @g16 s.toList.tail
       generalize l1I s.toList.tail 16=q at*
       obtain ⟨x,ok⟩:=q
       have w1:ok=true→IntKind.i64.wrap (0-x)= -x:=fun h=>by
        have:=hrange h
        dsimp only at this
        rw [Int.zero_sub];exact qb (by omega)
       obtain ⟨n1,h1⟩:=hl
       obtain ⟨n2,h2⟩:=qAI 1 (-x) ⟨#[]⟩ (by decide)
       refine ⟨n1+n2+1,fun n hn=>?_⟩
       obtain ⟨m,rfl,hm⟩:=up1 hn
       have h1:=h1 m (by omega)
       dsimp only at h1
       have h2:=h2 m (by omega)
       dsimp only at h2
       simp only [qAH,qA3,qC,qD,qF,qG,qH,qJ,Option.bind_some,qE,qK,qM,h1,h2]
       simp only [qC,qD,qF,qG,qH,qJ,Option.bind_some,qE,qK,qM,te,b0,hg,k39,e39,tT,bT,tF,bF,k35,e35,k45,e45,h45,if_true]
       cases ok with
       |false=>simp [s1]
       |true=>
        simp only [qC,qD,qF,qG,qH,qJ,Option.bind_some,qE,qK,qM,w1 rfl,h2]
        by_cases hx:x=0
        ·simp [s1,hx]
        ·cases ho:okV 1 (-x) (⟨#[]⟩:ByteArray)<;>simp [s1,hx,ho]
      ·have e45:(some c==some 45)=false:=by simpa using h45
       have hl:=qEs s 16 (by decide)
       generalize l1I s.toList 16=q at*
       obtain ⟨x,ok⟩:=q
       obtain ⟨n1,h1⟩:=hl
       obtain ⟨n2,h2⟩:=qAI 1 x ⟨#[]⟩ (by decide)
       refine ⟨n1+n2+1,fun n hn=>?_⟩
       obtain ⟨m,rfl,hm⟩:=up1 hn
       have h1:=h1 m (by omega)
       dsimp only at h1
       have h2:=h2 m (by omega)
       dsimp only at h2
       simp only [qAH,qA3,qC,qD,qF,qG,qH,qJ,Option.bind_some,qE,qK,qM,h1,h2]
       simp only [qC,qD,qF,qG,qH,qJ,Option.bind_some,qE,qK,qM,te,b0,hg,k39,e39,tT,bT,tF,bF,k35,e35,k45,e45,if_neg h45]
       cases ok with
       |false=>simp
       |true=>cases ho:okV 1 x (⟨#[]⟩:ByteArray)<;>simp [ho]
theorem qGi {k x:Int} {s:ByteArray} (h:okV k x s=true) (h2:¬k=2):s=em:=by
 unfold okV at h
 rw [if_neg h2] at h
 simp only [Bool.and_eq_true,beq_iff_eq] at h
 exact qDL (by rw [h.1];exact q9.symm)
theorem qPl {k x:Int} {s:ByteArray} (h:okV k x s=true):k=0∨k=1∨k=2∨k=3∨k=4:=by
 by_cases k2:k=2
 ·omega
 ·unfold okV at h
  rw [if_neg k2] at h
  simp only [Bool.and_eq_true] at h
  have h:=h.2
  by_cases k0:k=0
  ·omega
  ·by_cases k1:k=1
   ·omega
   ·by_cases k3:k=3
    ·omega
    ·by_cases k4:k=4
     ·omega
     ·simp [k0,k1,k3,k4] at h
theorem qNq {k x:Int} {s:ByteArray} (h:okV k x s=true):qh (qAA k x s)=(k,x,s,true):=by
 have key:qAx (qAA k x s)=(k,x,s)→qh (qAA k x s)=(k,x,s,true):=fun hc=>by
  unfold qh
  rw [hc,if_pos ⟨h,rfl⟩]
 apply key
 rcases qPl h with rfl|rfl|rfl|rfl|rfl
 ·have he:=qGi h (by decide)
  subst he
  have hx:x=0:=by simpa [okV,em,q9] using h
  subst hx
  have:(qAA 0 0 em).toList= []:=q9
  unfold qAx
  rw [this]
  rfl
 ·have he:=qGi h (by decide)
  subst he
  have hr:=qPg h
  have ht:(qAA 1 x em).toList=Lib.itoa x:=by rw [Go.Lib.toList_data];simp [qAA,qEX]
  have hp:=qIZ ht hr
  obtain ⟨c,r,hcr,hc⟩:∃c r,Lib.itoa x=c::r∧(c=45∨qB1 c=true):=by
   unfold Lib.itoa
   split
   ·exact ⟨45,_,rfl,.inl rfl⟩
   ·obtain ⟨c,r,h1,h2⟩:=qKY x.toNat
    exact ⟨c,r,h1,.inr h2⟩
  have hn:∀q:UInt8,qB1 q=false→q≠45→c≠q:=fun q h1 h2 e=>by
   subst e
   rcases hc with hc|hc
   ·exact h2 hc
   ·rw [h1] at hc;cases hc
  have n39:=hn 39 (by decide) (by decide)
  have n35:=hn 35 (by decide) (by decide)
  have n70:=hn 70 (by decide) (by decide)
  have n84:=hn 84 (by decide) (by decide)
  unfold qAx
  rw [hp,ht,hcr]
  simp [n39,n35,n70,n84]
 ·have h2:=qKX h
  obtain ⟨rfl,_,_⟩:=h2
  have ht:(qAA 2 0 s).toList=39::s.toList:=by
   rw [Go.Lib.toList_data]
   show ((⟨#[39]⟩:ByteArray)++s).data.toList=_
   rw [qC2,Go.Lib.toList_data]
   rfl
  have es:(⟨s.toList.toArray⟩:ByteArray)=s:=qDL (qAr _)
  unfold qAx
  rw [ht]
  simp [es]
 ·have he:=qGi h (by decide)
  subst he
  have hr:=qNi h
  have c:x=0∨x=1:=by omega
  rcases c with rfl|rfl
  ·have ht:(qAA 3 0 em).toList= [70,65,76,83,69]:=by rw [Go.Lib.toList_data];rfl
   unfold qAx
   rw [ht]
   rfl
  ·have ht:(qAA 3 1 em).toList= [84,82,85,69]:=by rw [Go.Lib.toList_data];rfl
   unfold qAx
   rw [ht]
   rfl
 ·have he:=qGi h (by decide)
  subst he
  have hr:=qNj h
  have t1:(qZ 1).toList= [35,68,73,86,33]:=by rw [Go.Lib.toList_data];rfl
  have t2:(qZ 2).toList= [35,84,89,80,69,33]:=by rw [Go.Lib.toList_data];rfl
  have t3:(qZ 3).toList= [35,82,69,70,33]:=by rw [Go.Lib.toList_data];rfl
  have t4:(qZ 4).toList= [35,79,86,69,82,33]:=by rw [Go.Lib.toList_data];rfl
  have t5:(qZ 5).toList= [35,67,89,67,76,69,33]:=by rw [Go.Lib.toList_data];rfl
  have hx:qAA 4 x em=qZ x:=rfl
  rw [hx]
  rcases qSS hr with rfl|rfl|rfl|rfl|rfl
  all_goals
   unfold qAx qDp
   simp [t1,t2,t3,t4,t5]
def rcK (s:ByteArray):Nat→Int→Int
 |0,_=>0
 |k+1,i=>if (qBW i).toList=s.toList then i else rcK s k (i+1)
def qEQ (s:ByteArray):Int:=rcK s 52 1
theorem qQU (s:ByteArray):∀(k:Nat) (i:Int),1≤rcK s k i→(qBW (rcK s k i)).toList=s.toList
 |0,i,h=>by simp [rcK] at h
 |k+1,i,h=>by
  simp only [rcK] at h⊢
  by_cases e:(qBW i).toList=s.toList
  ·rw [if_pos e];exact e
  ·rw [if_neg e] at h⊢;exact qQU s k (i+1) h
def qD7 (c:UInt8):Bool:=decide (65≤c.toNat)&&decide (c.toNat≤90)
def qW (l:List UInt8):List UInt8:=if l.head?=some 36 then l.tail else l
def qQ (l:List UInt8):List UInt8:=l.takeWhile qD7
def qf (l:List UInt8):List UInt8:=l.dropWhile qD7
def qAt (s:ByteArray):Int×Int×Bool×Bool×Bool:=
 if (l1I (qW (qf (qW s.toList))) 2).2=true∧qAw (qEQ ⟨(qQ (qW s.toList)).toArray⟩) (l1I (qW (qf (qW s.toList))) 2).1=true then
  (qEQ ⟨(qQ (qW s.toList)).toArray⟩,(l1I (qW (qf (qW s.toList))) 2).1,s.toList.head?==some 36,(qf (qW s.toList)).head?==some 36,true) else (0,0,false,false,false)
theorem qJ1 {R:Type} {B:ByteArray×Int→Tr ((ByteArray×Int)⊕(Int⊕Unit))} {s:ByteArray} (hs:∀i:Int,1≤i∧i≤52→(B (s,i)).run=some (if (qBW i).toList=s.toList then .inr (.inl i) else .inl (s,i+1))) (he:(B (s,53)).run=some (.inr (.inr ()))):
  ∀(k:Nat) (i:Int) (M:Nat),1≤i→i+k=53→k+1≤M→zD B M (s,i)=some (if rcK s k i=0 then .inr () else .inl (rcK s k i))
 |k,i,0,h1,h2,h3=>by omega
 |0,i,M+1,h1,h2,h3=>by
  have:i=53:=by omega
  subst this
  rw [qP he]
  rfl
 |k+1,i,M+1,h1,h2,h3=>by
  have h:=hs i ⟨h1,by omega⟩
  by_cases e:(qBW i).toList=s.toList
  ·rw [if_pos e] at h
   rw [qP h]
   simp only [rcK,if_pos e]
   rw [if_neg (by omega)]
  ·rw [if_neg e] at h
   rw [qc h]
   simp only [rcK,if_neg e]
   exact qJ1 (R:=R) hs he k (i+1) M (by omega) (by omega) (by omega)
theorem qPm {F:Nat→Int→Option ByteArray} (h:∀i,Ev (F · i) (qBW i)):∃n0,∀n,n0≤n→∀i,1≤i∧i≤52→F n i=some (qBW i):=by
 obtain ⟨n0,h1⟩:=qCG (F:=fun (i:Nat) n=>F n (i:Int)) (f:=fun i=>qBW (i:Int)) (List.range 53) (fun i _=>h i)
 refine ⟨n0,fun n hn i hi=>?_⟩
 have:=h1 n hn i.toNat (by rw [List.mem_range];omega)
 rwa [Int.toNat_of_nonneg (by omega)] at this
theorem qMP (s:ByteArray):Ev (qB6 · s) (qEQ s):=by
 obtain ⟨n0,h⟩:=qPm qHy
 refine ⟨n0+60,fun n hn=>?_⟩
 obtain ⟨m,rfl,hm⟩:=up1 hn
 have hc:=h m (by omega)
 have lp:=qJ1 (R:=Unit) (B:=qCN m) (s:=s) (fun i hi=>by
  have g:=hc i hi
  have w1:IntKind.i64.wrap (i+1)=i+1:=qb (by omega)
  simp only [qCN,qC,qD,qF,qG,qH,qJ,Option.bind_some,qE,qK,qM,g,w1]
  rw [if_pos (decide_eq_true hi.2)]
  by_cases e:(qBW i).toList=s.toList<;>simp [e]) (by simp [qCN,qC,qD,qF,qG,qH,qJ,Option.bind_some,qE,qK,qM]) 52 1 m (by decide) (by decide) (by omega)
 simp only [qB6,qFb,qC,qD,qF,qG,qH,qJ,Option.bind_some,qE,qK,qM,lp]
 show _=some (rcK s 52 1)
 by_cases e:rcK s 52 1=0
 ·rw [if_pos e,e];rfl
 ·rw [if_neg e];rfl
theorem qMQ (s:ByteArray):Ev (qEK · s) (qEQ s):=by
 obtain ⟨n0,h⟩:=qPm qHx
 refine ⟨n0+60,fun n hn=>?_⟩
 obtain ⟨m,rfl,hm⟩:=up1 hn
 have hc:=h m (by omega)
 have lp:=qJ1 (R:=Unit) (B:=qCT m) (s:=s) (fun i hi=>by
  have g:=hc i hi
  have w1:IntKind.i64.wrap (i+1)=i+1:=qb (by omega)
  simp only [qCT,qC,qD,qF,qG,qH,qJ,Option.bind_some,qE,qK,qM,g,w1]
  rw [if_pos (decide_eq_true hi.2)]
  by_cases e:(qBW i).toList=s.toList<;>simp [e]) (by simp [qCT,qC,qD,qF,qG,qH,qJ,Option.bind_some,qE,qK,qM]) 52 1 m (by decide) (by decide) (by omega)
 simp only [qEK,qFp,qC,qD,qF,qG,qH,qJ,Option.bind_some,qE,qK,qM,lp]
 show _=some (rcK s 52 1)
 by_cases e:rcK s 52 1=0
 ·rw [if_pos e,e];rfl
 ·rw [if_neg e];rfl
theorem qBn (b:ByteArray):b.size=b.toList.length:=(qAl b).symm
theorem qOs (b:ByteArray) (k:Nat):(b.extract 0 k).toList=b.toList.take k:=by
 rw [Go.Lib.toList_data,ByteArray.data_extract,Array.toList_extract,Go.Lib.toList_data]
 show (b.data.toList.drop 0).take (k-0)=_
 simp
theorem qE1 (b:ByteArray) (k:Nat):(b.extract k b.size).toList=b.toList.drop k:=by
 rw [Go.Lib.toList_data,ByteArray.data_extract,Array.toList_extract,Go.Lib.toList_data]
 have hl:b.data.toList.length=b.size:=by rw [←qCg]
 show (b.data.toList.drop k).take (b.size-k)=_
 rw [List.take_of_length_le (by rw [List.length_drop,hl];exact Nat.le_refl _)]
theorem qKf (l:List UInt8):l.take (qQ l).length=qQ l:=by
 have h:=List.takeWhile_append_dropWhile (p:=qD7) (l:=l)
 have h2:(List.takeWhile qD7 l++List.dropWhile qD7 l).take (List.takeWhile qD7 l).length=List.takeWhile qD7 l:=List.take_left ..
 rw [h] at h2
 exact h2
theorem qHY (l:List UInt8):l.drop (qQ l).length=qf l:=by
 have h:=List.takeWhile_append_dropWhile (p:=qD7) (l:=l)
 have h2:(List.takeWhile qD7 l++List.dropWhile qD7 l).drop (List.takeWhile qD7 l).length=List.dropWhile qD7 l:=List.drop_left ..
 rw [h] at h2
 exact h2
theorem qLy (l:List UInt8):(qQ l).length≤l.length:=by
 have h:=congrArg List.length (List.takeWhile_append_dropWhile (p:=qD7) (l:=l))
 rw [List.length_append] at h
 unfold qQ
 omega
theorem qKg (n:Nat) (b:ByteArray) (fc:Bool) (hb:b.size≤1048576):∀(r pre:List UInt8) (M:Nat),b.toList=pre++r→r.length+1≤M→
  zD (qAE n) M (b,(pre.length:Int),0,0,false,false,0,0,fc,false)=some (b,((pre.length+(qQ r).length:Nat):Int),0,0,false,false,0,0,fc,false)
 |r,pre,0,h1,h2=>by omega
 | [],pre,M+1,h1,h2=>by
  have hi:¬(pre.length:Int)<b.size:=by rw [qBn,h1];simp
  rw [qP (r:=(b,(pre.length:Int),0,0,false,false,0,0,fc,false)) (by simp [qAE,qC,qD,qF,qG,qH,qJ,Option.bind_some,qE,qK,qM,hi])]
  simp [qQ]
 |c::r,pre,M+1,h1,h2=>by
  have hl:b.size=pre.length+(r.length+1):=by rw [qBn,h1];simp
  have hi:(pre.length:Int)<b.size:=by omega
  have hg:b.toList[pre.length]?=some c:=by rw [h1];simp
  have w1:IntKind.i64.wrap ((pre.length:Int)+1)=(pre.length:Int)+1:=qb (by omega)
  by_cases hc:qD7 c=true
  ·have hc':65≤c.toNat∧c.toNat≤90:=by simpa [qD7] using hc
   have c1:(c.toNat:Int)≥65:=by omega
   have c2:(c.toNat:Int)≤90:=by omega
   have e0:((pre++ [c]).length:Int)=(pre.length:Int)+1:=by simp
   rw [qc (v':=(b,((pre++ [c]).length:Int),0,0,false,false,0,0,fc,false)) (by
    rw [e0]
    simp [qAE,qC,qD,qF,qG,qH,qJ,Option.bind_some,qE,qK,qM,hi,hg,c1,c2,w1])]
   rw [qKg n b fc hb r (pre++ [c]) M (by rw [h1];simp) (by simp at h2;omega)]
   simp [qQ,hc]
   omega
  ·rw [qP (r:=(b,(pre.length:Int),0,0,false,false,0,0,fc,false)) (by
    by_cases c1:(c.toNat:Int)≥65
    ·have c2:¬(c.toNat:Int)≤90:=fun h=>hc (by simp [qD7];omega)
     simp [qAE,qC,qD,qF,qG,qH,qJ,Option.bind_some,qE,qK,qM,hi,hg,c1,c2]
    ·simp [qAE,qC,qD,qF,qG,qH,qJ,Option.bind_some,qE,qK,qM,hi,hg,c1])]
   simp [qQ,hc]
theorem qKh (s:ByteArray) (hb:s.size≤1048576):Ev (qAn · s) (qAt s):=by
 have main:∀(b:ByteArray) (fc:Bool),b.size≤1048576→b.toList=qW s.toList→fc=(s.toList.head?==some 36)→
   ∃n0,∀m,n0≤m→zD (qAE m) m (b,0,0,0,false,false,0,0,fc,false)=some (b,((qQ (qW s.toList)).length:Int),0,0,false,false,0,0,fc,false)∧
    qB6 m (b.extract 0 (qQ (qW s.toList)).length)=some (qEQ ⟨(qQ (qW s.toList)).toArray⟩)∧
    qAC m (b.extract (qQ (qW s.toList)).length b.size) 2=some (l1I (qf (qW s.toList)) 2)∧
    qAC m ((b.extract (qQ (qW s.toList)).length b.size).extract 1 (b.extract (qQ (qW s.toList)).length b.size).size) 2=some (l1I (qf (qW s.toList)).tail 2):=fun b fc hb hl _=>by
  have x1:b.extract 0 (qQ (qW s.toList)).length=⟨(qQ (qW s.toList)).toArray⟩:=qDL (by rw [qOs,hl,qKf,qAr (qQ (qW s.toList))])
  have x2:(b.extract (qQ (qW s.toList)).length b.size).toList=qf (qW s.toList):=by rw [qE1,hl,qHY]
  have x3:((b.extract (qQ (qW s.toList)).length b.size).extract 1 (b.extract (qQ (qW s.toList)).length b.size).size).toList=(qf (qW s.toList)).tail:=by rw [qE1,x2,List.drop_one]
  obtain ⟨n1,h1⟩:=qMP (b.extract 0 (qQ (qW s.toList)).length)
  obtain ⟨n2,h2⟩:=qEs (b.extract (qQ (qW s.toList)).length b.size) 2 (by decide)
  obtain ⟨n3,h3⟩:=qEs ((b.extract (qQ (qW s.toList)).length b.size).extract 1 (b.extract (qQ (qW s.toList)).length b.size).size) 2 (by decide)
  rw [x1] at h1
  rw [x2] at h2
  rw [x3] at h3
  refine ⟨n1+n2+n3+b.size+2,fun m hm=>⟨?_,by rw [x1];exact h1 m (by omega),h2 m (by omega),h3 m (by omega)⟩⟩
  have:=qKg m b fc hb b.toList [] m rfl (by rw [←qBn];omega)
  simp only [List.length_nil,Int.natCast_zero,Nat.zero_add] at this
  rw [this,hl]
 have z:∀(b:ByteArray),b.toList=qW s.toList→((qQ (qW s.toList)).length:Int)≤b.size:=fun b hl=>by
  have:=qLy (qW s.toList)
  rw [←hl] at this⊢
  rw [qBn]
  omega
 have k36:∀c:UInt8,((c.toNat:Int)==36)=(some c==some 36):=fun c=>by
  have h:=qQ9 c 36 (by decide)
  have u:UInt8.ofNat 36=36:=rfl
  rw [u] at h
  exact h
 unfold qAt
 have part:∀(b:ByteArray) (fc:Bool),b.size≤1048576→b.toList=qW s.toList→fc=(s.toList.head?==some 36)→
   ((fc=true∧b=s.extract 1 s.size∧∃c r,s.toList=c::r∧c=36)∨(fc=false∧b=s∧∀c r,s.toList=c::r→(some c==some (36:UInt8))=false))→
   Ev (qAn · s) (if (l1I (qW (qf (qW s.toList))) 2).2=true∧qAw (qEQ ⟨(qQ (qW s.toList)).toArray⟩) (l1I (qW (qf (qW s.toList))) 2).1=true then
    (qEQ ⟨(qQ (qW s.toList)).toArray⟩,(l1I (qW (qf (qW s.toList))) 2).1,s.toList.head?==some 36,(qf (qW s.toList)).head?==some 36,true) else (0,0,false,false,false)):=fun b fc hb2 hl hfc hcase=>by
  obtain ⟨n0,hm0⟩:=main b fc hb2 hl hfc
  have hz:=z b hl
  obtain ⟨n2,h2⟩:=qC8 (qEQ ⟨(qQ (qW s.toList)).toArray⟩) (l1I (qW (qf (qW s.toList))) 2).1
  have x2:(b.extract (qQ (qW s.toList)).length b.size).toList=qf (qW s.toList):=by rw [qE1,hl,qHY]
  rw [←hfc]
  refine ⟨n0+n2+1,fun n hn=>?_⟩
  obtain ⟨m,rfl,hm⟩:=up1 hn
  obtain ⟨g1,g2,g3,g4⟩:=hm0 m (by omega)
  have h2:=h2 m (by omega)
  dsimp only at h2
  have e1:(1:Int).toNat=1:=rfl
  have e0:(0:Int).toNat=0:=rfl
  have start:∀q,(qB5 m s).run=q→qAn (m+1) s=q:=fun q h=>h
  apply start
  rcases hcase with ⟨rfl,rfl,c,r,hcr,rfl⟩|⟨rfl,rfl,hno⟩
  ·have hsz:(s.size:Int)>0:=by rw [qBn,hcr];simp<;>omega
   have hs1:(1:Int)≤s.size:=by omega
   have hg:s.toList[0]?=some 36:=by rw [hcr];rfl
   have bs:(s.extract 1 s.size).size=s.size-1:=by rw [qBn,qE1,List.length_drop,←qBn]
   have zn:(qQ (qW s.toList)).length≤s.size-1:=by rw [←bs];omega
   have sn:0<s.size:=by omega
   have c36:((((36:UInt8)).toNat:Int)==36)=true:=rfl
   simp only [qB5,qC,qD,qF,qG,qH,qJ,Option.bind_some,qE,qK,qM,Int.toNat_natCast,e0,e1,hg,c36,g1,g2]
   cases hq:qf (qW s.toList) with
   |nil=>
    have y0:((s.extract 1 s.size).extract (qQ (qW s.toList)).length (s.extract 1 s.size).size).size=0:=by rw [qBn,x2,hq];rfl
    have hoff:qW (qf (qW s.toList))= []:=by rw [hq];rfl
    rw [hoff] at h2
    rw [hq] at g3
    simp only [y0,g3,h2,qC,qD,qF,qG,qH,qJ,Option.bind_some,qE,qK,qM]
    have hoff':qW ([]:List UInt8)= []:=rfl
    rw [hoff']
    generalize l1I ([]:List UInt8) 2=q at*
    obtain ⟨x,ok⟩:=q
    cases ok<;>cases hk:qAw (qEQ ⟨(qQ (qW s.toList)).toArray⟩) x<;>simp [hz,hsz,hs1,zn,sn]
   |cons d w=>
    have y0:(((s.extract 1 s.size).extract (qQ (qW s.toList)).length (s.extract 1 s.size).size).size:Int)>0:=by rw [qBn,x2,hq];simp<;>omega
    have y1:(1:Int)≤((s.extract 1 s.size).extract (qQ (qW s.toList)).length (s.extract 1 s.size).size).size:=by omega
    have ys:((s.extract 1 s.size).extract (qQ (qW s.toList)).length (s.extract 1 s.size).size).size=(s.extract 1 s.size).size-(qQ (qW s.toList)).length:=by rw [qBn,qE1,List.length_drop,←qBn]
    have yn:(qQ (qW s.toList)).length<(s.size-1):=by rw [←bs];omega
    have yn2:1≤(s.size-1)-(qQ (qW s.toList)).length:=by omega
    have yn3:0<(s.size-1)-(qQ (qW s.toList)).length:=by omega
    have yn4:(1:Int)≤(((s.size-1)-(qQ (qW s.toList)).length:Nat):Int):=by omega
    have yg:((s.extract 1 s.size).extract (qQ (qW s.toList)).length (s.extract 1 s.size).size).toList[0]?=some d:=by rw [x2,hq];rfl
    rw [hq] at g3 g4 h2
    simp only [yg,k36 d,qC,qD,qF,qG,qH,qJ,Option.bind_some,qE,qK,qM]
    by_cases hd:d=36
    ·have hoff:qW (d::w)=w:=by unfold qW;rw [if_pos (by rw [hd];rfl)];rfl
     rw [hoff] at h2⊢
     have e36:(some d==some (36:UInt8))=true:=by rw [hd];rfl
     simp only [List.tail_cons] at g4
     simp only [e36,g4,h2,List.head?_cons,qC,qD,qF,qG,qH,qJ,Option.bind_some,qE,qK,qM]
     generalize l1I w 2=q at*
     obtain ⟨x,ok⟩:=q
     cases ok<;>cases hk:qAw (qEQ ⟨(qQ (qW s.toList)).toArray⟩) x<;>simp [hz,hsz,hs1,y0,y1,zn,sn,yn,yn2,yn3,yn4]
    ·have hoff:qW (d::w)=d::w:=by unfold qW;rw [if_neg (by simpa using hd)]
     rw [hoff] at h2⊢
     have e36:(some d==some (36:UInt8))=false:=by simpa using hd
     simp only [e36,g3,h2,List.head?_cons,qC,qD,qF,qG,qH,qJ,Option.bind_some,qE,qK,qM]
     generalize l1I (d::w) 2=q at*
     obtain ⟨x,ok⟩:=q
     cases ok<;>cases hk:qAw (qEQ ⟨(qQ (qW s.toList)).toArray⟩) x<;>simp [hz,hsz,hs1,y0,y1,zn,sn,yn,yn2,yn3,yn4]
  ·by_cases hs0:(b.size:Int)>0
   ·obtain ⟨c,r,hcr⟩:∃c r,b.toList=c::r:=by
     cases hq:b.toList with
     |nil=>rw [qBn,hq] at hs0;simp at hs0
     |cons a l=>exact ⟨a,l,rfl⟩
    have hg:b.toList[0]?=some c:=by rw [hcr];rfl
    have hc:=hno c r hcr
    have hsz:(b.size:Int)>0:=hs0
    have hs1:(1:Int)≤b.size:=by omega
    have zn:(qQ (qW b.toList)).length≤b.size:=by omega
    have sn:0<b.size:=by omega
    simp only [qB5,qC,qD,qF,qG,qH,qJ,Option.bind_some,qE,qK,qM,Int.toNat_natCast,e0,e1,hg,k36 c,hc,g1,g2]
    cases hq:qf (qW b.toList) with
    |nil=>
     have y0:(b.extract (qQ (qW b.toList)).length b.size).size=0:=by rw [qBn,x2,hq];rfl
     have hoff:qW (qf (qW b.toList))= []:=by rw [hq];rfl
     rw [hoff] at h2
     rw [hq] at g3
     simp only [y0,g3,h2,qC,qD,qF,qG,qH,qJ,Option.bind_some,qE,qK,qM]
     have hoff':qW ([]:List UInt8)= []:=rfl
     rw [hoff']
     generalize l1I ([]:List UInt8) 2=q at*
     obtain ⟨x,ok⟩:=q
     cases ok<;>cases hk:qAw (qEQ ⟨(qQ (qW b.toList)).toArray⟩) x<;>simp [hz,hsz,hs1,zn,sn]
    |cons d w=>
     have y0:((b.extract (qQ (qW b.toList)).length b.size).size:Int)>0:=by rw [qBn,x2,hq];simp<;>omega
     have y1:(1:Int)≤(b.extract (qQ (qW b.toList)).length b.size).size:=by omega
     have ys:(b.extract (qQ (qW b.toList)).length b.size).size=b.size-(qQ (qW b.toList)).length:=by rw [qBn,qE1,List.length_drop,←qBn]
     have yn:(qQ (qW b.toList)).length<b.size:=by omega
     have yn2:1≤b.size-(qQ (qW b.toList)).length:=by omega
     have yn3:0<b.size-(qQ (qW b.toList)).length:=by omega
     have yn4:(1:Int)≤((b.size-(qQ (qW b.toList)).length:Nat):Int):=by omega
     have yg:(b.extract (qQ (qW b.toList)).length b.size).toList[0]?=some d:=by rw [x2,hq];rfl
     rw [hq] at g3 g4 h2
     simp only [yg,k36 d,qC,qD,qF,qG,qH,qJ,Option.bind_some,qE,qK,qM]
     by_cases hd:d=36
     ·have hoff:qW (d::w)=w:=by unfold qW;rw [if_pos (by rw [hd];rfl)];rfl
      rw [hoff] at h2⊢
      have e36:(some d==some (36:UInt8))=true:=by rw [hd];rfl
      simp only [List.tail_cons] at g4
      simp only [e36,g4,h2,List.head?_cons,qC,qD,qF,qG,qH,qJ,Option.bind_some,qE,qK,qM]
      generalize l1I w 2=q at*
      obtain ⟨x,ok⟩:=q
      cases ok<;>cases hk:qAw (qEQ ⟨(qQ (qW b.toList)).toArray⟩) x<;>simp [hz,hsz,hs1,y0,y1,zn,sn,yn,yn2,yn3,yn4]
     ·have hoff:qW (d::w)=d::w:=by unfold qW;rw [if_neg (by simpa using hd)]
      rw [hoff] at h2⊢
      have e36:(some d==some (36:UInt8))=false:=by simpa using hd
      simp only [e36,g3,h2,List.head?_cons,qC,qD,qF,qG,qH,qJ,Option.bind_some,qE,qK,qM]
      generalize l1I (d::w) 2=q at*
      obtain ⟨x,ok⟩:=q
      cases ok<;>cases hk:qAw (qEQ ⟨(qQ (qW b.toList)).toArray⟩) x<;>simp [hz,hsz,hs1,y0,y1,zn,sn,yn,yn2,yn3,yn4]
   ·have hsz:¬(b.size:Int)>0:=hs0
    have hs1:True:=trivial
    have zn:(qQ (qW b.toList)).length≤b.size:=by omega
    have sn:b.size=0:=by omega
    have lb:b.toList= []:=List.eq_nil_of_length_eq_zero (by rw [←qBn];omega)
    have hb0:qf (qW b.toList)= []:=by rw [lb];rfl
    have ln:qQ (qW b.toList)= []:=by rw [lb];rfl
    simp only [qB5,qC,qD,qF,qG,qH,qJ,Option.bind_some,qE,qK,qM,Int.toNat_natCast,e0,e1,g1,g2]
    cases hq:qf (qW b.toList) with
    |nil=>
     have y0:(b.extract (qQ (qW b.toList)).length b.size).size=0:=by rw [qBn,x2,hq];rfl
     have hoff:qW (qf (qW b.toList))= []:=by rw [hq];rfl
     rw [hoff] at h2
     rw [hq] at g3
     simp only [y0,g3,h2,qC,qD,qF,qG,qH,qJ,Option.bind_some,qE,qK,qM]
     have hoff':qW ([]:List UInt8)= []:=rfl
     rw [hoff']
     generalize l1I ([]:List UInt8) 2=q at*
     obtain ⟨x,ok⟩:=q
     cases ok<;>cases hk:qAw (qEQ ⟨(qQ (qW b.toList)).toArray⟩) x<;>simp [hz,hsz,hs1,zn,sn,ln]
    |cons d w=>rw [hb0] at hq;cases hq
 by_cases h36:s.toList.head?=some 36
 ·have ho:qW s.toList=s.toList.tail:=by unfold qW;rw [if_pos h36]
  have ht:(s.extract 1 s.size).toList=s.toList.tail:=by rw [qE1,List.drop_one]
  obtain ⟨c,r,hcr⟩:∃c r,s.toList=c::r:=by
   cases hq:s.toList with
   |nil=>rw [hq] at h36;cases h36
   |cons a l=>exact ⟨a,l,rfl⟩
  refine part (s.extract 1 s.size) true (by rw [qBn,ht,List.length_tail,←qBn];omega) (by rw [ht,ho]) (by rw [h36];rfl) (.inl ⟨rfl,rfl,c,r,hcr,?_⟩)
  rw [hcr] at h36
  simpa using h36
 ·have ho:qW s.toList=s.toList:=by unfold qW;rw [if_neg h36]
  refine part s false hb ho.symm (by symm;simpa using h36) (.inr ⟨rfl,rfl,fun c r hcr=>?_⟩)
  rw [hcr] at h36
  simpa using h36
def upS:ByteArray:=⟨#[65,66,67,68,69,70,71,72,73,74,75,76,77,78,79,80,81,82,83,84,85,86,87,88,89,90]⟩
theorem qRi:∀i:Fin 256,(upS.data.toList.contains (UInt8.ofNat i.val))=(decide (65≤i.val)&&decide (i.val≤90)):=by decide+kernel
theorem qR4 (c:UInt8):(upS.data.toList.contains c)=qD7 c:=by
 have h:=qRi ⟨c.toNat,UInt8.toNat_lt c⟩
 have e:UInt8.ofNat c.toNat=c:=by simp
 simp only [e] at h
 exact h
theorem qQV:(upS.data.toList.all fun b=>decide (b.toNat<128))=true:=by decide+kernel
theorem qOt (s:ByteArray):Ev (qBF · s ⟨#[65,66,67,68,69,70,71,72,73,74,75,76,77,78,79,80,81,82,83,84,85,86,87,88,89,90]⟩) ⟨(qf s.toList).toArray⟩:=by
 refine ⟨1,fun n hn=>?_⟩
 obtain ⟨m,rfl,hm⟩:=up1 hn
 show zK s upS=_
 unfold zK
 rw [if_pos ⟨by decide,qQV⟩]
 unfold Lib.trimLeftS qf
 rw [Go.Lib.toList_data]
 have:(fun c=>upS.data.toList.contains c)=qD7:=funext qR4
 rw [this]
theorem qOu (s:ByteArray):Ev (qAb · s ⟨#[36]⟩) (⟨(qW s.toList).toArray⟩,s.toList.head?==some 36):=by
 have h:=qHX s 36
 have es:(⟨s.toList.toArray⟩:ByteArray)=s:=qDL (qAr s.toList)
 by_cases e:s.toList.head?=some 36
 ·rw [if_pos e] at h
  have:(s.toList.head?==some 36)=true:=by simpa using e
  unfold qW
  rw [if_pos e,this]
  exact h
 ·rw [if_neg e] at h
  have:(s.toList.head?==some 36)=false:=by simpa using e
  unfold qW
  rw [if_neg e,this,es]
  exact h
theorem qPn {r:Int} (h:1≤r∧r≤99):l1I (Lib.itoa r) 2=(r,true):=by
 have e:Lib.itoa r=Lib.decDigits r.toNat:=by unfold Lib.itoa;rw [if_neg (by omega)]
 obtain ⟨h1,h2,h3,_,_⟩:=qD3 r.toNat
 have hl:(Lib.decDigits r.toNat).length≤2:=by
  rw [Lib.decDigits_length]
  exact qRc 2 r.toNat (by omega) (by
   have:(10:Nat)^2=100:=by decide
   omega)
 rw [e]
 unfold l1I
 rw [if_pos ⟨by omega,qNl _⟩,h2]
 congr 1
 omega
theorem qR5 {l:List UInt8} (h:(l1I l 2).2=true):(l1I l 2).1=(qCu 0 l:Int)∧Lib.decDigits (qCu 0 l)=l:=by
 unfold l1I at h⊢
 split at h
 ·rename_i hc
  rw [if_pos hc]
  exact ⟨rfl,qLd _ l rfl hc.2⟩
 ·cases h
theorem qQW (s:ByteArray):qAt s=if qAw (qEQ ⟨(qQ (qW s.toList)).toArray⟩) (qBe ⟨(qW (qf (qW s.toList))).toArray⟩)=true∧
  (qAO (qEQ ⟨(qQ (qW s.toList)).toArray⟩) (qBe ⟨(qW (qf (qW s.toList))).toArray⟩) (s.toList.head?==some 36) ((qf (qW s.toList)).head?==some 36)).toList=s.toList then
   (qEQ ⟨(qQ (qW s.toList)).toArray⟩,qBe ⟨(qW (qf (qW s.toList))).toArray⟩,s.toList.head?==some 36,(qf (qW s.toList)).head?==some 36,true) else (0,0,false,false,false):=by
 have hoff:∀l:List UInt8,l=(if (l.head?==some 36)=true then [36] else [])++qW l:=fun l=>by
  unfold qW
  cases l with
  |nil=>rfl
  |cons c r=>
   by_cases e:c=36
   ·subst e;simp
   ·simp [e]
 have hsplit:qW s.toList=qQ (qW s.toList)++qf (qW s.toList):=(List.takeWhile_append_dropWhile (p:=qD7) (l:=qW s.toList)).symm
 have hs:s.toList=(if (s.toList.head?==some 36)=true then [36] else [])++qQ (qW s.toList)++(if ((qf (qW s.toList)).head?==some 36)=true then [36] else [])++qW (qf (qW s.toList)):=by
  conv=>lhs;rw [hoff s.toList,hsplit,hoff (qf (qW s.toList))]
  simp only [List.append_assoc]
 unfold qAt
 generalize hL:qQ (qW s.toList)=L at*
 generalize hR:qW (qf (qW s.toList))=R at*
 generalize (s.toList.head?==some 36)=fc at*
 generalize ((qf (qW s.toList)).head?==some 36)=fr at*
 have col:∀r,qAw (qEQ ⟨L.toArray⟩) r=true→(qBW (qEQ ⟨L.toArray⟩)).data.toList=L:=fun r h=>by
  have:=qQU (⟨L.toArray⟩:ByteArray) 52 1 (qEO h).1.1
  rw [qAr L,Go.Lib.toList_data] at this
  exact this
 have pl:∀r,qAw (qEQ ⟨L.toArray⟩) r=true→(qAO (qEQ ⟨L.toArray⟩) r fc fr).toList=(if fc=true then [36] else [])++L++(if fr=true then [36] else [])++Lib.itoa r:=fun r h=>by
  rw [Go.Lib.toList_data]
  unfold qAO
  rw [if_pos h,col r h]
  simp [qEX]
 have tR:(⟨R.toArray⟩:ByteArray).toList=R:=qAr R
 by_cases hA:(l1I R 2).2=true∧qAw (qEQ ⟨L.toArray⟩) (l1I R 2).1=true
 ·obtain ⟨a1,a2⟩:=qR5 hA.1
  have hr:=(qEO hA.2).2
  have hi:R=Lib.itoa (l1I R 2).1:=by
   rw [a1]
   unfold Lib.itoa
   rw [if_neg (by omega),Int.toNat_natCast,a2]
  have hp:qBe ⟨R.toArray⟩=(l1I R 2).1:=qIZ (by rw [tR];exact hi) (by omega)
  rw [if_pos hA,hp,if_pos ⟨hA.2,by rw [pl _ hA.2,←hi];exact hs.symm⟩]
 ·rw [if_neg hA,if_neg]
  rintro ⟨h1,h2⟩
  rw [pl _ h1] at h2
  have h3:R=Lib.itoa (qBe ⟨R.toArray⟩):=by
   rw [hs] at h2
   exact (List.append_cancel_left h2).symm
  have h4:=qPn (qEO h1).2
  rw [←h3] at h4
  exact hA (by rw [h4];exact ⟨rfl,h1⟩)
theorem qKi (s:ByteArray) (hb:s.size≤1048576):Ev (qAe · s) (qAt s):=by
 rw [qQW]
 have hlen:=qLy (qW s.toList)
 have lo:(qW s.toList).length≤s.size:=by
  unfold qW
  rw [qBn]
  split
  ·rw [List.length_tail];omega
  ·exact Nat.le_refl _
 have l2:(qf (qW s.toList)).length+(qQ (qW s.toList)).length=(qW s.toList).length:=by
  have h:=congrArg List.length (List.takeWhile_append_dropWhile (p:=qD7) (l:=qW s.toList))
  rw [List.length_append] at h
  unfold qf qQ
  omega
 have z1:(⟨(qW s.toList).toArray⟩:ByteArray).size=(qW s.toList).length:=by rw [qBn,qAr (qW s.toList)]
 have z2:(⟨(qf (qW s.toList)).toArray⟩:ByteArray).size=(qf (qW s.toList)).length:=by rw [qBn,qAr (qf (qW s.toList))]
 have w1:IntKind.i64.wrap (((qW s.toList).length:Int)-(qf (qW s.toList)).length)=((qQ (qW s.toList)).length:Int):=by rw [qb (by omega)];omega
 have x1:(⟨(qW s.toList).toArray⟩:ByteArray).extract 0 (qQ (qW s.toList)).length=⟨(qQ (qW s.toList)).toArray⟩:=qDL (by rw [qOs,qAr (qW s.toList),qKf,qAr (qQ (qW s.toList))])
 have x2:(⟨(qW s.toList).toArray⟩:ByteArray).extract (qQ (qW s.toList)).length (qW s.toList).length=⟨(qf (qW s.toList)).toArray⟩:=qDL (by rw [←z1,qE1,qAr (qW s.toList),qHY,qAr (qf (qW s.toList))])
 have lr:(⟨(qW (qf (qW s.toList))).toArray⟩:ByteArray).size≤281474976710656:=by
  rw [qBn,qAr (qW (qf (qW s.toList)))]
  have:(qW (qf (qW s.toList))).length≤(qf (qW s.toList)).length:=by
   generalize qf (qW s.toList)=q
   unfold qW
   split
   ·rw [List.length_tail];omega
   ·exact Nat.le_refl _
  omega
 obtain ⟨n1,h1⟩:=qOu s
 obtain ⟨n2,h2⟩:=qOt ⟨(qW s.toList).toArray⟩
 rw [qAr (qW s.toList)] at h2
 obtain ⟨n3,h3⟩:=qMQ ⟨(qQ (qW s.toList)).toArray⟩
 obtain ⟨n4,h4⟩:=qOu ⟨(qf (qW s.toList)).toArray⟩
 rw [qAr (qf (qW s.toList))] at h4
 generalize qW s.toList=A at*
 generalize qf A=Bq at*
 generalize qQ A=L at*
 generalize qW Bq=R at*
 generalize (s.toList.head?==some 36)=fc at*
 generalize (Bq.head?==some 36)=fr at*
 obtain ⟨n5,h5⟩:=qDn (qEQ ⟨L.toArray⟩) (qBe ⟨R.toArray⟩)
 obtain ⟨n6,h6⟩:=qDC (qEQ ⟨L.toArray⟩) (qBe ⟨R.toArray⟩) fc fr
 have e0:(0:Int).toNat=0:=rfl
 have c1:L.length≤A.length:=by omega
 rcases qLw ⟨R.toArray⟩ lr with ⟨n7,h7⟩|⟨n7,h7⟩
 all_goals
  refine ⟨n1+n2+n3+n4+n5+n6+n7+1,fun n hn=>?_⟩
  obtain ⟨m,rfl,hm⟩:=up1 hn
  have h1:=h1 m (by omega)
  have h2:=h2 m (by omega)
  have h3:=h3 m (by omega)
  have h4:=h4 m (by omega)
  have h5:=h5 m (by omega)
  have h6:=h6 m (by omega)
  have h7:=h7 m (by omega)
  dsimp only at h1 h2 h3 h4 h5 h6 h7
  simp only [qAe,qEi,qC,qD,qF,qG,qH,qJ,Option.bind_some,qE,qK,qM,h1,h2,z1,z2,w1,Int.toNat_natCast,e0,x1,x2,h3,h4,h5,h6,h7]
  cases hk:qAw (qEQ ⟨L.toArray⟩) (qBe ⟨R.toArray⟩) with
  |false=>simp [c1]
  |true=>by_cases e:(qAO (qEQ ⟨L.toArray⟩) (qBe ⟨R.toArray⟩) fc fr).toList=s.toList<;>simp [c1,e]
theorem qQX:∀i:Fin 52,qEQ (qBW ((i.val:Int)+1))=(i.val:Int)+1:=by decide+kernel
theorem qQC {c:Int} (h:1≤c∧c≤52):qEQ (qBW c)=c:=by
 have:=qQX ⟨(c-1).toNat,by omega⟩
 have e:(((c-1).toNat:Nat):Int)+1=c:=by omega
 simpa only [e] using this
theorem qQY:∀i:Fin 52,(qBW ((i.val:Int)+1)).data.toList.all qD7=true∧(qBW ((i.val:Int)+1)).data.toList.head?≠some 36∧(qBW ((i.val:Int)+1)).data.toList≠ []:=by decide+kernel
theorem qOT {c:Int} (h:1≤c∧c≤52):(qBW c).data.toList.all qD7=true∧(qBW c).data.toList.head?≠some 36∧(qBW c).data.toList≠ []:=by
 have:=qQY ⟨(c-1).toNat,by omega⟩
 have e:(((c-1).toNat:Nat):Int)+1=c:=by omega
 simpa only [e] using this
theorem qOv {l r:List UInt8} (h:l.all qD7=true) (h2:∀c,r.head?=some c→qD7 c=false):qQ (l++r)=l∧qf (l++r)=r:=by
 unfold qQ qf
 rw [List.all_eq_true] at h
 rw [List.takeWhile_append_of_pos h,List.dropWhile_append_of_pos h]
 cases r with
 |nil=>simp
 |cons c r=>simp [h2 c rfl]
theorem qOw (l:List UInt8):qW (36::l)=l:=rfl
theorem qQZ {l:List UInt8} (h:l.head?≠some 36):qW l=l:=by unfold qW;rw [if_neg h]
theorem qJ2 {c r:Int} {fc fr:Bool} (h:qAw c r=true):qAt (qAO c r fc fr)=(c,r,fc,fr,true):=by
 obtain ⟨hc,hr⟩:=qEO h
 obtain ⟨u1,u2,u3⟩:=qOT hc
 have ht:(qAO c r fc fr).toList=(if fc=true then [36] else [])++((qBW c).data.toList++((if fr=true then [36] else [])++Lib.itoa r)):=by
  rw [Go.Lib.toList_data]
  simp [qAO,h,qEX]
 have hi:∃d w,Lib.itoa r=d::w∧qB1 d=true:=by
  unfold Lib.itoa
  rw [if_neg (by omega)]
  exact qKY _
 obtain ⟨d,w,hdw,hd⟩:=hi
 have hd1:qD7 d=false:=by
  simp only [qB1,Bool.and_eq_true,decide_eq_true_eq] at hd
  simp [qD7];omega
 have hd2:d≠36:=fun e=>by rw [e] at hd;cases hd
 have e1:qW (qAO c r fc fr).toList=(qBW c).data.toList++((if fr=true then [36] else [])++Lib.itoa r):=by
  rw [ht]
  cases fc with
  |true=>exact qOw _
  |false=>
   refine qQZ ?_
   cases hq:(qBW c).data.toList with
   |nil=>exact absurd hq u3
   |cons a b=>rw [hq] at u2;simpa using u2
 have e2:=qOv (l:=(qBW c).data.toList) (r:=(if fr=true then [36] else [])++Lib.itoa r) u1 (fun q hq=>by
  cases fr with
  |true=>simp at hq;rw [←hq];decide
  |false=>simp [hdw] at hq;rw [←hq];exact hd1)
 have e3:qW ((if fr=true then [36] else [])++Lib.itoa r)=Lib.itoa r:=by
  cases fr with
  |true=>exact qOw _
  |false=>exact qQZ (by simp [hdw,hd2])
 unfold qAt
 rw [e1,e2.1,e2.2,e3,qPn hr]
 have hm:(⟨((qBW c).data.toList).toArray⟩:ByteArray)=qBW c:=by simp
 rw [hm,qQC hc,if_pos ⟨rfl,h⟩]
 have q1:((qAO c r fc fr).toList.head?==some 36)=fc:=by
  rw [ht]
  cases fc with
  |true=>rfl
  |false=>
   cases hq:(qBW c).data.toList with
   |nil=>exact absurd hq u3
   |cons a b=>rw [hq] at u2;simpa using u2
 have q2:(((if fr=true then [36] else [])++Lib.itoa r).head?==some (36:UInt8))=fr:=by
  cases fr with
  |true=>rfl
  |false=>simp [hdw,hd2]
 rw [q1,q2]
theorem qQD {l:List (List PV)} {p:Int} (k:Int) (hk:1≤k∧k≤1000000) (hl:qIY l) (hp:0≤p∧p≤l.length):∃(a p':Int),(0≤p'∧p'≤l.length)∧(0≤a∧a<k)∧∀n,2≤n→qT n k l p=some (a,l,p'):=by
 by_cases h:k=1
 ·subst h
  refine ⟨0,p,hp,by decide,fun n hn=>?_⟩
  obtain ⟨m,rfl,hm⟩:=up1 hn
  simp [qT,qCJ,qC,qD,qF,qG,qH,qJ,Option.bind_some,qE,qK,qM]
 ·exact qCW k (by omega) hl hp
theorem qQa {l:List (List PV)} {p:Int} (hl:qIY l) (hp:0≤p∧p≤l.length):∃(c r:Int) (fc fr:Bool) (p':Int),(0≤p'∧p'≤l.length)∧∀n,14≤n→qCP n l p=some (c,r,fc,fr,l,p'):=by
 obtain ⟨a,b,p1,h1,h2⟩:=qOM hl hp
 obtain ⟨fc,p2,h3,h4⟩:=qFQ 4 (by decide) hl h1
 obtain ⟨fr,p3,h5,h6⟩:=qFQ 4 (by decide) hl h3
 obtain ⟨o,p4,h7,h8⟩:=qFQ 20 (by decide) hl h5
 cases o with
 |true=>
  obtain ⟨c,p5,h9,_,h10⟩:=qMy 1 52 (by decide) hl h7
  obtain ⟨d,p6,h11,_,h12⟩:=qMy 1 99 (by decide) hl h9
  refine ⟨c,d,fc,fr,p6,h11,fun n hn=>?_⟩
  obtain ⟨m,rfl,hm⟩:=up1 hn
  simp [qCP,qDB,qC,qD,qF,qG,qH,qJ,Option.bind_some,qE,qK,qM,h2 m (by omega),h4 m (by omega),h6 m (by omega),h8 m (by omega),h10 m (by omega),h12 m (by omega)]
 |false=>
  refine ⟨a,b,fc,fr,p4,h7,fun n hn=>?_⟩
  obtain ⟨m,rfl,hm⟩:=up1 hn
  simp [qCP,qDB,qC,qD,qF,qG,qH,qJ,Option.bind_some,qE,qK,qM,h2 m (by omega),h4 m (by omega),h6 m (by omega),h8 m (by omega)]
theorem qD4 (c r:Int) (fc fr:Bool):(qAO c r fc fr).size≤30:=by
 unfold qAO
 split
 ·rename_i h
  have h1:=qLc c
  have h2:=qJz (qEO h).2
  rw [qCg]
  cases fc<;>cases fr<;>simp<;>omega
 ·decide
abbrev Nd:=Int×Int×Int×Int×ByteArray×Int×Int×Bool×Bool×Int×Int×Bool×Bool×List Int
def qAs (x:Int):List PV:= [.i .i64 x]
def qV (c:Nd):List PV:= [.i .i64 c.1,.i .i64 c.2.1,.i .i64 c.2.2.1,.i .i64 c.2.2.2.1,.s c.2.2.2.2.1,.i .i64 c.2.2.2.2.2.1,.i .i64 c.2.2.2.2.2.2.1,.b c.2.2.2.2.2.2.2.1,.b c.2.2.2.2.2.2.2.2.1,.i .i64 c.2.2.2.2.2.2.2.2.2.1,.i .i64 c.2.2.2.2.2.2.2.2.2.2.1,.b c.2.2.2.2.2.2.2.2.2.2.2.1,.b c.2.2.2.2.2.2.2.2.2.2.2.2.1,.ls ((c.2.2.2.2.2.2.2.2.2.2.2.2.2).map qAs)]
def kd (c:Nd):List Int:=c.2.2.2.2.2.2.2.2.2.2.2.2.2
theorem qQb {l:List Int} {i:Nat} {e:List PV} (h:(l.map qAs)[i]?=some e):∃c,l[i]?=some c∧e=qAs c:=by
 rw [List.getElem?_map] at h
 obtain ⟨c,h1,h2⟩:=Option.map_eq_some_iff.1 h
 exact ⟨c,h1,h2.symm⟩
def qFL (op n:Int):Bool:=if op=5 then decide (n=2∨n=3) else if 8≤op∧op≤10 then decide (n=1) else if 1≤op∧op≤7 then decide (1≤n∧n≤10) else false
theorem ten {op:Int} (h:1≤op∧op≤10):op=1∨op=2∨op=3∨op=4∨op=5∨op=6∨op=7∨op=8∨op=9∨op=10:=by omega
theorem qM3 (op n:Int):Ev (qEq · op n) (qFL op n):=by
 refine ⟨1,fun n hn=>?_⟩
 obtain ⟨m,rfl,hm⟩:=up1 hn
 simp only [qEq,qGQ,qC,qD,qF,qG,qH,qJ,Option.bind_some,qE,qK,qM]
 by_cases h:1≤op∧op≤10
 ·rcases ten h with rfl|rfl|rfl|rfl|rfl|rfl|rfl|rfl|rfl|rfl
  all_goals
   first
   |(by_cases h2:n=2<;>simp [qFL,h2];done)
   |(by_cases h1:n≥1<;>simp [qFL,h1];done)
   |(by_cases h1:n=1<;>simp [qFL,h1];done)
   |(by_cases h2:n=2<;>by_cases h3:n=3<;>simp [qFL,h2,h3];done)
   |(simp [qFL];done)
 ·have e1:¬op=1:=by omega
  have e2:¬op=2:=by omega
  have e3:¬op=3:=by omega
  have e4:¬op=4:=by omega
  have e5:¬op=5:=by omega
  have e6:¬op=6:=by omega
  have e7:¬op=7:=by omega
  have e8:¬op=8:=by omega
  have e9:¬op=9:=by omega
  have e10:¬op=10:=by omega
  have g1:¬(8≤op∧op≤10):=by omega
  have g2:¬(1≤op∧op≤7):=by omega
  simp [qFL,e1,e2,e3,e4,e5,e6,e7,e8,e9,e10,g1,g2]
def zV (k x:Int) (s:ByteArray):Bool:=decide (k=0)&&(decide (x=0)&&(s.toList== []))
def zP (a b:Int) (f g:Bool):Bool:=decide (a=0)&&(decide (b=0)&&(!f&&!g))
def qB2 (c:Nd):Bool:=
 if c.1=1 then decide (c.2.1=0)&&(zP c.2.2.2.2.2.1 c.2.2.2.2.2.2.1 c.2.2.2.2.2.2.2.1 c.2.2.2.2.2.2.2.2.1&&(zP c.2.2.2.2.2.2.2.2.2.1 c.2.2.2.2.2.2.2.2.2.2.1 c.2.2.2.2.2.2.2.2.2.2.2.1 c.2.2.2.2.2.2.2.2.2.2.2.2.1&&(decide ((kd c).length=0)&&(okV c.2.2.1 c.2.2.2.1 c.2.2.2.2.1&&(!decide (c.2.2.1=0)&&(!decide (c.2.2.1=1)||decide (c.2.2.2.1≥0))))))) else
 if c.1=2 then decide (c.2.1=0)&&(zV c.2.2.1 c.2.2.2.1 c.2.2.2.2.1&&(zP c.2.2.2.2.2.2.2.2.2.1 c.2.2.2.2.2.2.2.2.2.2.1 c.2.2.2.2.2.2.2.2.2.2.2.1 c.2.2.2.2.2.2.2.2.2.2.2.2.1&&(decide ((kd c).length=0)&&qAw c.2.2.2.2.2.1 c.2.2.2.2.2.2.1))) else
 if c.1=3 then decide (c.2.1=0)&&(zV c.2.2.1 c.2.2.2.1 c.2.2.2.2.1&&(decide ((kd c).length=0)&&qEN c.2.2.2.2.2.1 c.2.2.2.2.2.2.1 c.2.2.2.2.2.2.2.2.2.1 c.2.2.2.2.2.2.2.2.2.2.1)) else
 if c.1=4 then decide (c.2.1=0)&&(zV c.2.2.1 c.2.2.2.1 c.2.2.2.2.1&&(zP c.2.2.2.2.2.1 c.2.2.2.2.2.2.1 c.2.2.2.2.2.2.2.1 c.2.2.2.2.2.2.2.2.1&&(zP c.2.2.2.2.2.2.2.2.2.1 c.2.2.2.2.2.2.2.2.2.2.1 c.2.2.2.2.2.2.2.2.2.2.2.1 c.2.2.2.2.2.2.2.2.2.2.2.2.1&&decide ((kd c).length=1)))) else
 if c.1=5 then decide (1≤c.2.1∧c.2.1≤11)&&(zV c.2.2.1 c.2.2.2.1 c.2.2.2.2.1&&(zP c.2.2.2.2.2.1 c.2.2.2.2.2.2.1 c.2.2.2.2.2.2.2.1 c.2.2.2.2.2.2.2.2.1&&(zP c.2.2.2.2.2.2.2.2.2.1 c.2.2.2.2.2.2.2.2.2.2.1 c.2.2.2.2.2.2.2.2.2.2.2.1 c.2.2.2.2.2.2.2.2.2.2.2.2.1&&decide ((kd c).length=2)))) else
 if c.1=6 then qFL c.2.1 ((kd c).length:Int)&&(zV c.2.2.1 c.2.2.2.1 c.2.2.2.2.1&&(zP c.2.2.2.2.2.1 c.2.2.2.2.2.2.1 c.2.2.2.2.2.2.2.1 c.2.2.2.2.2.2.2.2.1&&zP c.2.2.2.2.2.2.2.2.2.1 c.2.2.2.2.2.2.2.2.2.2.1 c.2.2.2.2.2.2.2.2.2.2.2.1 c.2.2.2.2.2.2.2.2.2.2.2.2.1)) else false
theorem qR6 (k x:Int) (s:ByteArray):((k==(0:Int))&&((x==(0:Int))&&((s.toList==(⟨#[]⟩:ByteArray).toList)&&true)))=zV k x s:=by
 rw [q9]
 unfold zV
 by_cases h:k=0<;>by_cases h2:x=0<;>simp [h,h2]
theorem qR7 (k x:Int) (s:ByteArray):(((0:Int)==k)&&(((0:Int)==x)&&(((⟨#[]⟩:ByteArray).toList==s.toList)&&true)))=zV k x s:=by
 rw [←qR6]
 congr 1
 ·exact Bool.beq_comm
 ·congr 1
  ·exact Bool.beq_comm
  ·congr 1
   exact Bool.beq_comm
theorem qR8 (a b:Int) (f g:Bool):((a==(0:Int))&&((b==(0:Int))&&((f==false)&&((g==false)&&true))))=zP a b f g:=by
 unfold zP
 by_cases h:a=0<;>by_cases h2:b=0<;>cases f<;>cases g<;>simp [h,h2]
theorem qR9 (a b:Int) (f g:Bool):(((0:Int)==a)&&(((0:Int)==b)&&((false==f)&&((false==g)&&true))))=zP a b f g:=by
 rw [←qR8]
 congr 1
 ·exact Bool.beq_comm
 ·congr 1
  ·exact Bool.beq_comm
  ·cases f<;>cases g<;>rfl
theorem qG7 (c:Nd) (hb:c.2.2.2.2.1.size≤140737488351232):Ev (qBs · c.1 c.2.1 c.2.2.1 c.2.2.2.1 c.2.2.2.2.1 c.2.2.2.2.2.1 c.2.2.2.2.2.2.1 c.2.2.2.2.2.2.2.1 c.2.2.2.2.2.2.2.2.1 c.2.2.2.2.2.2.2.2.2.1 c.2.2.2.2.2.2.2.2.2.2.1 c.2.2.2.2.2.2.2.2.2.2.2.1 c.2.2.2.2.2.2.2.2.2.2.2.2.1 ((c.2.2.2.2.2.2.2.2.2.2.2.2.2).map qAs)) (qB2 c):=by
 obtain ⟨n1,h1⟩:=qAI c.2.2.1 c.2.2.2.1 c.2.2.2.2.1 hb
 obtain ⟨n2,h2⟩:=qC8 c.2.2.2.2.2.1 c.2.2.2.2.2.2.1
 obtain ⟨n3,h3⟩:=qMx c.2.2.2.2.2.1 c.2.2.2.2.2.2.1 c.2.2.2.2.2.2.2.2.2.1 c.2.2.2.2.2.2.2.2.2.2.1
 obtain ⟨n4,h4⟩:=qCV c.2.1 1 11
 obtain ⟨n5,h5⟩:=qM3 c.2.1 (((c.2.2.2.2.2.2.2.2.2.2.2.2.2).map qAs).length:Int)
 refine ⟨n1+n2+n3+n4+n5+1,fun n hn=>?_⟩
 obtain ⟨m,rfl,hm⟩:=up1 hn
 have h1:=h1 m (by omega)
 dsimp only at h1
 have h2:=h2 m (by omega)
 dsimp only at h2
 have h3:=h3 m (by omega)
 dsimp only at h3
 have h4:=h4 m (by omega)
 dsimp only at h4
 have h5:=h5 m (by omega)
 dsimp only at h5
 simp only [qBs,qFA,qC,qD,qF,qG,qH,qJ,Option.bind_some,qE,qK,qM,h1,h2,h3,h4,h5]
 have hk:((c.2.2.2.2.2.2.2.2.2.2.2.2.2).map qAs).length=(kd c).length:=by rw [List.length_map];rfl
 simp only [qR6,qR8,hk]
 unfold qB2
 by_cases k1:c.1=1
 ·simp only [k1,if_true,beq_self_eq_true]
  cases zP c.2.2.2.2.2.1 c.2.2.2.2.2.2.1 c.2.2.2.2.2.2.2.1 c.2.2.2.2.2.2.2.2.1<;>cases zP c.2.2.2.2.2.2.2.2.2.1 c.2.2.2.2.2.2.2.2.2.2.1 c.2.2.2.2.2.2.2.2.2.2.2.1 c.2.2.2.2.2.2.2.2.2.2.2.2.1<;>cases okV c.2.2.1 c.2.2.2.1 c.2.2.2.2.1<;>by_cases h0:c.2.1=0<;>by_cases h1:(kd c).length=0<;>by_cases h2:c.2.2.1=0<;>by_cases h3:c.2.2.1=1<;>simp [h0,h1,h2,h3]
 by_cases k2:c.1=2
 ·simp only [k2]
  cases zV c.2.2.1 c.2.2.2.1 c.2.2.2.2.1<;>cases zP c.2.2.2.2.2.2.2.2.2.1 c.2.2.2.2.2.2.2.2.2.2.1 c.2.2.2.2.2.2.2.2.2.2.2.1 c.2.2.2.2.2.2.2.2.2.2.2.2.1<;>cases qAw c.2.2.2.2.2.1 c.2.2.2.2.2.2.1<;>by_cases h0:c.2.1=0<;>by_cases h1:(kd c).length=0<;>simp [h0,h1]
 by_cases k3:c.1=3
 ·simp only [k3]
  cases zV c.2.2.1 c.2.2.2.1 c.2.2.2.2.1<;>cases qEN c.2.2.2.2.2.1 c.2.2.2.2.2.2.1 c.2.2.2.2.2.2.2.2.2.1 c.2.2.2.2.2.2.2.2.2.2.1<;>by_cases h0:c.2.1=0<;>by_cases h1:(kd c).length=0<;>simp [h0,h1]
 by_cases k4:c.1=4
 ·simp only [k4]
  cases zV c.2.2.1 c.2.2.2.1 c.2.2.2.2.1<;>cases zP c.2.2.2.2.2.1 c.2.2.2.2.2.2.1 c.2.2.2.2.2.2.2.1 c.2.2.2.2.2.2.2.2.1<;>cases zP c.2.2.2.2.2.2.2.2.2.1 c.2.2.2.2.2.2.2.2.2.2.1 c.2.2.2.2.2.2.2.2.2.2.2.1 c.2.2.2.2.2.2.2.2.2.2.2.2.1<;>by_cases h0:c.2.1=0<;>by_cases h1:(kd c).length=1<;>simp [h0,h1]<;>omega
 by_cases k5:c.1=5
 ·simp only [k5]
  cases zV c.2.2.1 c.2.2.2.1 c.2.2.2.2.1<;>cases zP c.2.2.2.2.2.1 c.2.2.2.2.2.2.1 c.2.2.2.2.2.2.2.1 c.2.2.2.2.2.2.2.2.1<;>cases zP c.2.2.2.2.2.2.2.2.2.1 c.2.2.2.2.2.2.2.2.2.2.1 c.2.2.2.2.2.2.2.2.2.2.2.1 c.2.2.2.2.2.2.2.2.2.2.2.2.1<;>by_cases h0:1≤c.2.1∧c.2.1≤11<;>by_cases h1:(kd c).length=2<;>simp [h0,h1]<;>omega
 by_cases k6:c.1=6
 ·simp only [k6]
  cases zV c.2.2.1 c.2.2.2.1 c.2.2.2.2.1<;>cases zP c.2.2.2.2.2.1 c.2.2.2.2.2.2.1 c.2.2.2.2.2.2.2.1 c.2.2.2.2.2.2.2.2.1<;>cases zP c.2.2.2.2.2.2.2.2.2.1 c.2.2.2.2.2.2.2.2.2.2.1 c.2.2.2.2.2.2.2.2.2.2.2.1 c.2.2.2.2.2.2.2.2.2.2.2.2.1<;>cases qFL c.2.1 ((kd c).length:Int)<;>simp
 simp [k1,k2,k3,k4,k5,k6]
theorem qM4 (c:Nd):Ev (qAF · c.1 c.2.1 c.2.2.1 c.2.2.2.1 c.2.2.2.2.1 c.2.2.2.2.2.1 c.2.2.2.2.2.2.1 c.2.2.2.2.2.2.2.1 c.2.2.2.2.2.2.2.2.1 c.2.2.2.2.2.2.2.2.2.1 c.2.2.2.2.2.2.2.2.2.2.1 c.2.2.2.2.2.2.2.2.2.2.2.1 c.2.2.2.2.2.2.2.2.2.2.2.2.1 ((c.2.2.2.2.2.2.2.2.2.2.2.2.2).map qAs)) (if c.1=4 then decide (c.2.1=0)&&decide ((kd c).length=1) else if c.1=5 then decide (1≤c.2.1∧c.2.1≤11)&&decide ((kd c).length=2) else if c.1=6 then qFL c.2.1 ((kd c).length:Int) else decide (c.2.1=0)&&decide ((kd c).length=0)):=by
 obtain ⟨n1,h1⟩:=qAM c.2.1 1 11
 obtain ⟨n2,h2⟩:=qAM c.2.1 1 10
 obtain ⟨n3,h3⟩:=qAM (((c.2.2.2.2.2.2.2.2.2.2.2.2.2).map qAs).length:Int) 2 3
 obtain ⟨n4,h4⟩:=qAM (((c.2.2.2.2.2.2.2.2.2.2.2.2.2).map qAs).length:Int) 1 10
 refine ⟨n1+n2+n3+n4+1,fun n hn=>?_⟩
 obtain ⟨m,rfl,hm⟩:=up1 hn
 have h1:=h1 m (by omega)
 dsimp only at h1
 have h2:=h2 m (by omega)
 dsimp only at h2
 have h3:=h3 m (by omega)
 dsimp only at h3
 have h4:=h4 m (by omega)
 dsimp only at h4
 simp only [qAF,qDe,qC,qD,qF,qG,qH,qJ,Option.bind_some,qE,qK,qM,h1,h2,h3,h4]
 have hk:((c.2.2.2.2.2.2.2.2.2.2.2.2.2).map qAs).length=(kd c).length:=by rw [List.length_map];rfl
 simp only [hk]
 by_cases k4:c.1=4
 ·simp only [k4]
  by_cases h0:c.2.1=0<;>by_cases h1:(kd c).length=1<;>simp [h0,h1]<;>omega
 by_cases k5:c.1=5
 ·simp only [k5]
  by_cases h0:1≤c.2.1∧c.2.1≤11<;>by_cases h1:(kd c).length=2<;>simp [h0,h1]<;>omega
 by_cases k6:c.1=6
 ·simp only [k6]
  unfold qFL
  by_cases h:1≤c.2.1∧c.2.1≤10
  ·by_cases h5:c.2.1=5
   ·have:(2≤((kd c).length:Int)∧((kd c).length:Int)≤3)↔(((kd c).length:Int)=2∨((kd c).length:Int)=3):=by omega
    simp [h5,this]
   ·by_cases h8:c.2.1≥8
    ·have g:8≤c.2.1∧c.2.1≤10:=by omega
     by_cases h1:((kd c).length:Int)=1<;>simp [h,h5,h8,g,h1]
    ·have g:¬(8≤c.2.1∧c.2.1≤10):=by omega
     have g':1≤c.2.1∧c.2.1≤7:=by omega
     simp [h,h5,h8,g,g']
  ·have h5:¬c.2.1=5:=by omega
   have g:¬(8≤c.2.1∧c.2.1≤10):=by omega
   have g':¬(1≤c.2.1∧c.2.1≤7):=by omega
   simp [h,h5,g,g']
 by_cases h0:c.2.1=0<;>by_cases h1:(kd c).length=0<;>simp [k4,k5,k6,h0,h1]<;>omega
theorem qLe (c:Nd):Ev (qz · c.1 c.2.1 c.2.2.1 c.2.2.2.1 c.2.2.2.2.1 c.2.2.2.2.2.1 c.2.2.2.2.2.2.1 c.2.2.2.2.2.2.2.1 c.2.2.2.2.2.2.2.2.1 c.2.2.2.2.2.2.2.2.2.1 c.2.2.2.2.2.2.2.2.2.2.1 c.2.2.2.2.2.2.2.2.2.2.2.1 c.2.2.2.2.2.2.2.2.2.2.2.2.1 ((c.2.2.2.2.2.2.2.2.2.2.2.2.2).map qAs)) (if c.1=2 then qEN c.2.2.2.2.2.1 c.2.2.2.2.2.2.1 c.2.2.2.2.2.1 c.2.2.2.2.2.2.1 else if c.1=3 then qEN c.2.2.2.2.2.1 c.2.2.2.2.2.2.1 c.2.2.2.2.2.2.2.2.2.1 c.2.2.2.2.2.2.2.2.2.2.1 else true):=by
 have g:Ev (qCQ · c.1 c.2.1 c.2.2.1 c.2.2.2.1 c.2.2.2.2.1 c.2.2.2.2.2.1 c.2.2.2.2.2.2.1 c.2.2.2.2.2.2.2.1 c.2.2.2.2.2.2.2.2.1 c.2.2.2.2.2.2.2.2.2.1 c.2.2.2.2.2.2.2.2.2.2.1 c.2.2.2.2.2.2.2.2.2.2.2.1 c.2.2.2.2.2.2.2.2.2.2.2.2.1 ((c.2.2.2.2.2.2.2.2.2.2.2.2.2).map qAs)) (if c.1=2 then (c.2.2.2.2.2.1,c.2.2.2.2.2.2.1,c.2.2.2.2.2.1,c.2.2.2.2.2.2.1) else (c.2.2.2.2.2.1,c.2.2.2.2.2.2.1,c.2.2.2.2.2.2.2.2.2.1,c.2.2.2.2.2.2.2.2.2.2.1)):=by
  refine ⟨1,fun n hn=>?_⟩
  obtain ⟨m,rfl,hm⟩:=up1 hn
  simp only [qCQ,qEE,qC,qD,qF,qG,qH,qJ,Option.bind_some,qE,qK,qM]
  by_cases k2:c.1=2<;>simp [k2]
 obtain ⟨n1,h1⟩:=g
 obtain ⟨n2,h2⟩:=qIX c.2.2.2.2.2.1 c.2.2.2.2.2.2.1 c.2.2.2.2.2.1 c.2.2.2.2.2.2.1
 obtain ⟨n3,h3⟩:=qIX c.2.2.2.2.2.1 c.2.2.2.2.2.2.1 c.2.2.2.2.2.2.2.2.2.1 c.2.2.2.2.2.2.2.2.2.2.1
 refine ⟨n1+n2+n3+1,fun n hn=>?_⟩
 obtain ⟨m,rfl,hm⟩:=up1 hn
 have h1:=h1 m (by omega)
 dsimp only at h1
 have h2:=h2 m (by omega)
 dsimp only at h2
 have h3:=h3 m (by omega)
 dsimp only at h3
 simp only [qz,qC9,qC,qD,qF,qG,qH,qJ,Option.bind_some,qE,qK,qM,h1,h2,h3]
 by_cases k2:c.1=2
 ·simp [k2,h2]
 ·by_cases k3:c.1=3
  ·simp [k3,h3]
  ·simp [k2,k3]
theorem qQc (a b:Int):qEN a b a b=qAw a b:=by
 unfold qEN
 cases qAw a b<;>simp
theorem qNd (c:Nd) (hb:c.2.2.2.2.1.size≤140737488351232):Ev (qCy · c.1 c.2.1 c.2.2.1 c.2.2.2.1 c.2.2.2.2.1 c.2.2.2.2.2.1 c.2.2.2.2.2.2.1 c.2.2.2.2.2.2.2.1 c.2.2.2.2.2.2.2.2.1 c.2.2.2.2.2.2.2.2.2.1 c.2.2.2.2.2.2.2.2.2.2.1 c.2.2.2.2.2.2.2.2.2.2.2.1 c.2.2.2.2.2.2.2.2.2.2.2.2.1 ((c.2.2.2.2.2.2.2.2.2.2.2.2.2).map qAs)) (qB2 c):=by
 obtain ⟨n1,g1⟩:=qHv c.2.2.1 c.2.2.2.1 c.2.2.2.2.1 hb
 obtain ⟨n2,g2⟩:=qLe c
 obtain ⟨n3,g3⟩:=qM4 c
 refine ⟨n1+n2+n3+1,fun n hn=>?_⟩
 obtain ⟨m,rfl,hm⟩:=up1 hn
 have g1:=g1 m (by omega)
 have g2:=g2 m (by omega)
 have g3:=g3 m (by omega)
 dsimp only at g1 g2 g3
 rw [qQc] at g2
 simp only [qCy,qDw,qC,qD,qF,qG,qH,qJ,Option.bind_some,qE,qK,qM,g1,g2,g3,qR7,qR9]
 simp only [beq_self_eq_true,Bool.and_true,Bool.true_and]
 unfold qB2
 by_cases k1:c.1=1
 ·have h5:(c.2.2.2.1≥0)=¬(c.2.2.2.1<0):=propext Int.not_lt.symm
  simp only [k1,h5]
  cases zP c.2.2.2.2.2.1 c.2.2.2.2.2.2.1 c.2.2.2.2.2.2.2.1 c.2.2.2.2.2.2.2.2.1<;>cases zP c.2.2.2.2.2.2.2.2.2.1 c.2.2.2.2.2.2.2.2.2.2.1 c.2.2.2.2.2.2.2.2.2.2.2.1 c.2.2.2.2.2.2.2.2.2.2.2.2.1<;>cases okV c.2.2.1 c.2.2.2.1 c.2.2.2.2.1<;>by_cases h0:c.2.1=0<;>by_cases h1:(kd c).length=0<;>by_cases h2:c.2.2.1=0<;>by_cases h3:c.2.2.1=1<;>by_cases h4:c.2.2.2.1<0<;>simp [h0,h1,h2,h3,h4]<;>(try omega)
 by_cases k2:c.1=2
 ·simp only [k2]
  cases zV c.2.2.1 c.2.2.2.1 c.2.2.2.2.1<;>cases zP c.2.2.2.2.2.2.2.2.2.1 c.2.2.2.2.2.2.2.2.2.2.1 c.2.2.2.2.2.2.2.2.2.2.2.1 c.2.2.2.2.2.2.2.2.2.2.2.2.1<;>cases qAw c.2.2.2.2.2.1 c.2.2.2.2.2.2.1<;>by_cases h0:c.2.1=0<;>by_cases h1:(kd c).length=0<;>simp [h0,h1]
 by_cases k3:c.1=3
 ·simp only [k3]
  cases zV c.2.2.1 c.2.2.2.1 c.2.2.2.2.1<;>cases qEN c.2.2.2.2.2.1 c.2.2.2.2.2.2.1 c.2.2.2.2.2.2.2.2.2.1 c.2.2.2.2.2.2.2.2.2.2.1<;>by_cases h0:c.2.1=0<;>by_cases h1:(kd c).length=0<;>simp [h0,h1]
 by_cases k4:c.1=4
 ·simp only [k4]
  cases zV c.2.2.1 c.2.2.2.1 c.2.2.2.2.1<;>cases zP c.2.2.2.2.2.1 c.2.2.2.2.2.2.1 c.2.2.2.2.2.2.2.1 c.2.2.2.2.2.2.2.2.1<;>cases zP c.2.2.2.2.2.2.2.2.2.1 c.2.2.2.2.2.2.2.2.2.2.1 c.2.2.2.2.2.2.2.2.2.2.2.1 c.2.2.2.2.2.2.2.2.2.2.2.2.1<;>by_cases h0:c.2.1=0<;>by_cases h1:(kd c).length=1<;>simp [h0,h1]
 by_cases k5:c.1=5
 ·simp only [k5]
  cases zV c.2.2.1 c.2.2.2.1 c.2.2.2.2.1<;>cases zP c.2.2.2.2.2.1 c.2.2.2.2.2.2.1 c.2.2.2.2.2.2.2.1 c.2.2.2.2.2.2.2.2.1<;>cases zP c.2.2.2.2.2.2.2.2.2.1 c.2.2.2.2.2.2.2.2.2.2.1 c.2.2.2.2.2.2.2.2.2.2.2.1 c.2.2.2.2.2.2.2.2.2.2.2.2.1<;>by_cases h0:1≤c.2.1∧c.2.1≤11<;>by_cases h1:(kd c).length=2<;>simp [h0,h1]
 by_cases k6:c.1=6
 ·simp only [k6]
  cases zV c.2.2.1 c.2.2.2.1 c.2.2.2.2.1<;>cases zP c.2.2.2.2.2.1 c.2.2.2.2.2.2.1 c.2.2.2.2.2.2.2.1 c.2.2.2.2.2.2.2.2.1<;>cases zP c.2.2.2.2.2.2.2.2.2.1 c.2.2.2.2.2.2.2.2.2.2.1 c.2.2.2.2.2.2.2.2.2.2.2.1 c.2.2.2.2.2.2.2.2.2.2.2.2.1<;>cases qFL c.2.1 ((kd c).length:Int)<;>simp
 simp [k1,k2,k3,k4,k5,k6]
section
variable (own area call:Int→Bool) (kids:Int→List Int)
def goF (F:Int→Int) (n:Int):List Int→Int→Int
 | [],start=>start
 |k::r,start=>if k≠start-1∨k<0∨(area k=true∧call n=false) then-1 else if F k<0 then-1 else goF F n r (F k)
def qCX:Nat→Int→Int
 |0,_=> -1
 |f+1,n=>if n<0∨own n=false then-1 else goF area call (qCX f) n (kids n).reverse n
def goT (F:Int→Int):List Int→Int→Int
 | [],x=>x+1
 |k::r,x=>if x<0∨k≠x then-1 else if F x<0 then-1 else goT F r (F x-1)
def qBg:Nat→Int→Int
 |0,_=> -1
 |f+1,n=>goT (qBg f) (kids n).reverse (n-1)
def qIa:List Int→Int
 | []=>0
 |x::r=>max x (qIa r)
def qAy:Nat→Int→Int
 |0,_=>0
 |f+1,n=>qIa ((kids n).map fun k=>qAy f k)+1
def qFy (i:Int):Prop:=∀k∈kids i,0≤k∧k≤i-1∧¬(area k=true∧call i=false)
theorem qKj:∀(f:Nat) (n:Int),0≤n→qBg kids f n≤n
 |0,n,h=>by rw [qBg];omega
 |f+1,n,h=>by
  have go:∀(l:List Int) (x:Int),x+1≤n→-1≤x→goT (qBg kids f) l x≤n:=by
   intro l
   induction l with
   |nil=>intro x h1 h2;rw [goT];omega
   |cons k r ih=>
    intro x h1 h2
    rw [goT]
    split
    ·omega
    ·split
     ·omega
     ·have:=qKj f x (by omega)
      exact ih _ (by omega) (by omega)
  rw [qBg]
  exact go _ _ (by omega) (by omega)
theorem qOx:∀(f g:Nat) (n:Int),n<f→n<g→0≤n→qBg kids f n=qBg kids g n
 |0,g,n,h1,h2,h3=>by omega
 |f+1,0,n,h1,h2,h3=>by omega
 |f+1,g+1,n,h1,h2,h3=>by
  have go:∀(l:List Int) (x:Int),x<f→x<g→goT (qBg kids f) l x=goT (qBg kids g) l x:=by
   intro l
   induction l with
   |nil=>intro x _ _;rw [goT,goT]
   |cons k r ih=>
    intro x hx hy
    rw [goT,goT]
    by_cases hc:x<0∨k≠x
    ·rw [if_pos hc,if_pos hc]
    ·rw [if_neg hc,if_neg hc,qOx f g x hx hy (by omega)]
     have hle:=qKj kids g x (by omega)
     split
     ·rfl
     ·exact ih _ (by omega) (by omega)
  rw [qBg,qBg]
  exact go _ _ (by omega) (by omega)
theorem qPo {l:List Int} {b:Int} (h0:0≤b):qIa l≤b↔∀x∈l,x≤b:=by
 induction l with
 |nil=>simp [qIa,h0]
 |cons a r ih=>simp only [qIa,List.mem_cons,forall_eq_or_imp];rw [Int.max_le,ih]
theorem qM5 {n b:Int} {f:Nat} (h0:1≤b):qAy kids (f+1) n≤b↔∀k∈kids n,qAy kids f k≤b-1:=by
 rw [qAy]
 constructor
 ·intro h k hk
  exact (qPo (l:=(kids n).map fun k=>qAy kids f k) (by omega)).1 (by omega) _ (List.mem_map_of_mem (f:=fun k=>qAy kids f k) hk)
 ·intro h
  have:=(qPo (l:=(kids n).map fun k=>qAy kids f k) (b:=b-1) (by omega)).2 (by
   intro x hx
   obtain ⟨k,hk,rfl⟩:=List.mem_map.1 hx
   exact h k hk)
  omega
theorem qM6:∀(f g:Nat) (n:Int),n<f→n<g→(∀i,0≤i→i≤n→qFy area call kids i)→0≤n→qAy kids f n=qAy kids g n
 |0,g,n,h1,h2,_,h3=>by omega
 |f+1,0,n,h1,h2,_,h3=>by omega
 |f+1,g+1,n,h1,h2,hk,h3=>by
  rw [qAy,qAy]
  congr 2
  apply List.map_congr_left
  intro k hm
  have:=hk n h3 (by omega) k hm
  exact qM6 f g k (by omega) (by omega) (fun i h0 h1=>hk i h0 (by omega)) (by omega)
theorem qG8:∀(f:Nat) (n:Int),0≤n→n<f→1≤qAy kids f n
 |0,n,h,h'=>by omega
 |f+1,n,h,h'=>by
  rw [qAy]
  have:∀l:List Int,0≤qIa l:=by
   intro l
   induction l with
   |nil=>exact Int.le_refl 0
   |cons a r ih=>simp only [qIa];omega
  have:=this ((kids n).map fun k=>qAy kids f k)
  omega
theorem qOU:∀(f g:Nat) (n:Int),0≤n→n<g→0≤qCX own area call kids f n→
  qCX own area call kids f n≤n∧qBg kids g n=qCX own area call kids f n∧(∀i,qCX own area call kids f n≤i→i≤n→own i=true∧qFy area call kids i)∧(∀h:Nat,(∀i,0≤i→i≤n→qFy area call kids i)→n<h→qAy kids h n≤f)
 |0,g,n,h0,h1,h2=>by rw [qCX] at h2;omega
 |f+1,0,n,h0,h1,h2=>by omega
 |f+1,g+1,n,h0,h1,h2=>by
  rw [qCX] at h2⊢
  split at h2
  ·omega
  ·rename_i hc
   rw [if_neg hc]
   have go:∀(l:List Int) (s:Int),0≤s→s≤n→0≤goF area call (qCX own area call kids f) n l s→
     goF area call (qCX own area call kids f) n l s≤s∧goT (qBg kids g) l (s-1)=goF area call (qCX own area call kids f) n l s∧(∀i,goF area call (qCX own area call kids f) n l s≤i→i≤s-1→own i=true∧qFy area call kids i)∧(∀k∈l,0≤k∧k≤n-1∧¬(area k=true∧call n=false))∧(∀h:Nat,(∀i,0≤i→i≤n→qFy area call kids i)→n<h→∀k∈l,qAy kids h k≤f):=by
    intro l
    induction l with
    |nil=>
     intro s h3 h4 h5
     rw [goF] at h5⊢
     rw [goT]
     refine ⟨by omega,by omega,fun i _ _=>by omega,fun k hk=>(by cases hk),fun h _ _ k hk=>(by cases hk)⟩
    |cons k r ih=>
     intro s h3 h4 h5
     rw [goF] at h5⊢
     split at h5
     ·omega
     ·rename_i hd
      rw [if_neg hd]
      split at h5
      ·omega
      ·rename_i he
       rw [if_neg he]
       have hk:k=s-1:=by omega
       subst hk
       obtain ⟨a1,a2,a3,a4⟩:=qOU f g (s-1) (by omega) (by omega) (by omega)
       obtain ⟨b1,b2,b3,b4,b5⟩:=ih _ (by omega) (by omega) h5
       refine ⟨by omega,?_,?_,?_,?_⟩
       ·rw [goT,if_neg (by omega),a2,if_neg he,b2]
       ·intro i i1 i2
        by_cases hi:qCX own area call kids f (s-1)≤i
        ·exact a3 i hi i2
        ·exact b3 i i1 (by omega)
       ·intro k hk
        rcases List.mem_cons.1 hk with rfl|hk
        ·exact ⟨by omega,by omega,fun h=>hd (.inr (.inr h))⟩
        ·exact b4 k hk
       ·intro h hx hy k hk
        rcases List.mem_cons.1 hk with rfl|hk
        ·exact a4 h (fun i i1 i2=>hx i i1 (by omega)) (by omega)
        ·exact b5 h hx hy k hk
   obtain ⟨c1,c2,c3,c4,c5⟩:=go _ n h0 (Int.le_refl n) h2
   have hown:own n=true:=by cases ho:own n with
    |true=>rfl
    |false=>exact absurd (.inr ho) hc
   refine ⟨c1,by rw [qBg];exact c2,?_,?_⟩
   ·intro i i1 i2
    by_cases hi:i=n
    ·subst hi
     exact ⟨hown,fun k hk=>c4 k (List.mem_reverse.2 hk)⟩
    ·exact c3 i i1 (by omega)
   ·intro h hx hy
    cases h with
    |zero=>omega
    |succ h=>
     refine (qM5 kids (by omega)).2 fun k hk=>?_
     have hin:=hx n h0 (Int.le_refl n) k hk
     have e:qAy kids h k=qAy kids (n.toNat+1) k:=qM6 area call kids _ _ _ (by omega) (by omega) (fun i i1 i2=>hx i i1 (by omega)) (by omega)
     rw [e]
     have:=c5 (n.toNat+1) hx (by omega) k (List.mem_reverse.2 hk)
     omega
theorem qPp:∀(f g h:Nat) (n:Int),0≤n→n<g→n<h→(∀i,0≤i→i≤n→own i=true∧qFy area call kids i)→0≤qBg kids g n→qAy kids h n≤f→qCX own area call kids f n=qBg kids g n
 |0,g,h,n,h0,h1,h1',h2,h3,h4=>by have:=qG8 kids h n h0 h1';omega
 |f+1,0,h,n,h0,h1,_,h2,h3,h4=>by omega
 |f+1,g+1,0,n,h0,h1,_,h2,h3,h4=>by omega
 |f+1,g+1,h+1,n,h0,h1,h1',h2,h3,h4=>by
  have hd:=(qM5 kids (b:=((f+1:Nat):Int)) (by omega)).1 h4
  have go:∀(l:List Int) (s:Int),(∀k∈l,k∈kids n)→0≤s→s≤n→0≤goT (qBg kids g) l (s-1)→goF area call (qCX own area call kids f) n l s=goT (qBg kids g) l (s-1):=by
   intro l
   induction l with
   |nil=>intro s _ _ _ _;rw [goF,goT];omega
   |cons k r ih=>
    intro s hm h3 h4 h5
    rw [goT] at h5⊢
    rw [goF]
    split at h5
    ·omega
    ·rename_i hc
     rw [if_neg hc]
     split at h5
     ·omega
     ·rename_i he
      rw [if_neg he]
      have hk:k=s-1:=by omega
      have hin:=(h2 n h0 (Int.le_refl n)).2 k (hm k (List.mem_cons_self ..))
      have hdk:=hd k (hm k (List.mem_cons_self ..))
      subst hk
      have e:=qPp f g h (s-1) (by omega) (by omega) (by omega) (fun i i1 i2=>h2 i i1 (by omega)) (by omega) (by omega)
      have hb:¬(s-1≠s-1∨s-1<0∨(area (s-1)=true∧call n=false)):=fun hx=>by
       rcases hx with hx|hx|hx
       ·exact hx rfl
       ·omega
       ·exact hin.2.2 hx
      rw [if_neg hb,e,if_neg he]
      have hle:=qKj kids g (s-1) (by omega)
      exact ih _ (fun k hk=>hm k (List.mem_cons_of_mem _ hk)) (by omega) (by omega) h5
  rw [qBg] at h3
  have hn:¬(n<0∨own n=false):=fun hx=>by
   rcases hx with hx|hx
   ·omega
   ·rw [(h2 n h0 (Int.le_refl n)).1] at hx;cases hx
  rw [qCX,qBg,if_neg hn]
  exact go _ n (fun k hk=>List.mem_reverse.1 hk) h0 (Int.le_refl n) h3
end
theorem qBU (c:Nd):(qV c).length=14:=rfl
theorem qBE (k:Int):(qAs k).length=1:=rfl
theorem qAm (k:Int):zE .i64 (qAs k) 0=some k:=rfl
theorem qAP (c:Nd):zE .i64 (qV c) 0=some c.1:=rfl
theorem qAQ (c:Nd):zE .i64 (qV c) 1=some c.2.1:=rfl
theorem qAR (c:Nd):zE .i64 (qV c) 2=some c.2.2.1:=rfl
theorem qAS (c:Nd):zE .i64 (qV c) 3=some c.2.2.2.1:=rfl
theorem qAT (c:Nd):zu (qV c) 4=some c.2.2.2.2.1:=rfl
theorem qAU (c:Nd):zE .i64 (qV c) 5=some c.2.2.2.2.2.1:=rfl
theorem qAV (c:Nd):zE .i64 (qV c) 6=some c.2.2.2.2.2.2.1:=rfl
theorem qAW (c:Nd):zi (qV c) 7=some c.2.2.2.2.2.2.2.1:=rfl
theorem qAX (c:Nd):zi (qV c) 8=some c.2.2.2.2.2.2.2.2.1:=rfl
theorem qAY (c:Nd):zE .i64 (qV c) 9=some c.2.2.2.2.2.2.2.2.2.1:=rfl
theorem qu (c:Nd):zE .i64 (qV c) 10=some c.2.2.2.2.2.2.2.2.2.2.1:=rfl
theorem qv (c:Nd):zi (qV c) 11=some c.2.2.2.2.2.2.2.2.2.2.2.1:=rfl
theorem qw (c:Nd):zi (qV c) 12=some c.2.2.2.2.2.2.2.2.2.2.2.2.1:=rfl
theorem qx (c:Nd):zAW (qV c) 13=some ((c.2.2.2.2.2.2.2.2.2.2.2.2.2).map qAs):=rfl
def nd0:Nd:=(0,0,0,0,⟨#[]⟩,0,0,false,false,0,0,false,false,[])
def ndi (l:List Nd) (i:Int):Nd:=l.getD i.toNat nd0
def qR (l:List Nd) (i:Int):List Int:=kd (ndi l i)
def qFS (l:List Nd) (i:Int):Bool:=qB2 (ndi l i)
def qA9 (l:List Nd) (i:Int):Bool:=decide ((ndi l i).1=3)
def qBo (l:List Nd) (i:Int):Bool:=decide ((ndi l i).1=6)
theorem qCY {l:List Nd} {i:Int} (h:0≤i∧i<l.length):l[i.toNat]?=some (ndi l i):=by
 have:i.toNat<l.length:=by omega
 unfold ndi
 rw [List.getElem?_eq_getElem this,List.getD_eq_getElem?_getD,List.getElem?_eq_getElem this]
 rfl
theorem qHZ {l:List Nd} {i:Int} (h:0≤i∧i<l.length):ndi l i∈l:=List.mem_of_getElem? (qCY h)
theorem qOy {α:Type} {l:List α} {j:Nat} {k:α} (h:l[j]?=some k):(l.take (j+1)).reverse=k::(l.take j).reverse:=by
 rw [List.take_add_one,h]
 simp
theorem qOz {R:Type} {F:Int→Nat→Option R} {f:Int→R} (x:Int) (h:∀y,0≤y→y<x→Ev (F y) (f y)):∃n0,∀n,n0≤n→∀y,0≤y→y<x→F y n=some (f y):=by
 obtain ⟨n0,h0⟩:=qCG (F:=F) (f:=f) ((List.range x.toNat).map fun (i:Nat)=>(i:Int)) (fun c hc=>by
  obtain ⟨i,hi,rfl⟩:=List.mem_map.1 hc
  have:=List.mem_range.1 hi
  exact h _ (Int.natCast_nonneg i) (by omega))
 refine ⟨n0,fun n hn y h1 h2=>h0 n hn y (List.mem_map.2 ⟨y.toNat,List.mem_range.2 (by omega),by omega⟩)⟩
theorem qNr (l:List Nd) (x1:Int) (f n:Nat) (hx:0≤x1∧x1<l.length) (hl:l.length≤140737488351232) (hk:(kd (ndi l x1)).length≤140737488351232)
  (hrec:∀y:Int,0≤y→y<x1→qAo n (l.map qV) y=some (qBg (qR l) f y)):
  ∀(j M:Nat) (s:Int),j≤(kd (ndi l x1)).length→j+1≤M→-1≤s→s<x1→
   (∃x,zD (qA6 (qAo n) n) M (l.map qV,x1,s,(j:Int)-1)=some (.inr x)∧goT (qBg (qR l) f) ((qR l x1).take j).reverse s=x+1∧-1≤x∧x<x1)∨
   (zD (qA6 (qAo n) n) M (l.map qV,x1,s,(j:Int)-1)=some (.inl (-1))∧goT (qBg (qR l) f) ((qR l x1).take j).reverse s= -1)
 |0,0,s,h1,h2,h3,h4=>by omega
 |0,M+1,s,h1,h2,h3,h4=>by
  refine .inl ⟨s,?_,by simp [goT],h3,h4⟩
  rw [qP (r:= .inr s) (by simp [-getElem?_pos,qA6,qC,qD,qF,qG,qH,qJ,Option.bind_some,qE,qK,qM])]
 |j+1,0,s,h1,h2,h3,h4=>by omega
 |j+1,M+1,s,h1,h2,h3,h4=>by
  have hc:=qCY hx
  have hj:j<(kd (ndi l x1)).length:=by omega
  have hg:(qR l x1)[j]?=some (qR l x1)[j]:=List.getElem?_eq_getElem hj
  have ih:=qNr l x1 f n hx hl hk hrec j M
  rw [qOy hg]
  generalize (qR l x1)[j]=k at hg
  have hi:(((j+1:Nat):Int)-1)=(j:Int):=by omega
  rw [hi,goT]
  have hg':(ndi l x1).2.2.2.2.2.2.2.2.2.2.2.2.2[j]?=some k:=hg
  have hj':j<(ndi l x1).2.2.2.2.2.2.2.2.2.2.2.2.2.length:=hj
  by_cases hs:s<0
  ·refine .inr ⟨?_,by rw [if_pos (.inl hs)]⟩
   rw [qP (r:= .inl (-1)) (by simp [-getElem?_pos,qA6,qC,qD,qF,qG,qH,qJ,Option.bind_some,qE,qK,qM,hs])]
  ·by_cases hks:k=s
   ·subst hks
    have hr:=hrec k (by omega) h4
    by_cases ht:qBg (qR l) f k<0
    ·refine .inr ⟨?_,by rw [if_neg (by omega),if_pos ht]⟩
     rw [qP (r:= .inl (-1)) (by simp [-getElem?_pos,qA6,qC,qD,qF,qG,qH,qJ,Option.bind_some,qE,qK,qM,hs,hc,hx,qBU,qBE,qAm,qAP,qAQ,qAR,qAS,qAT,qAU,qAV,qAW,qAX,qAY,qu,qv,qw,qx,hg',hj',hr,ht])]
    ·have hle:=qKj (qR l) f k (by omega)
     have hw:IntKind.i64.wrap (qBg (qR l) f k-1)=qBg (qR l) f k-1:=qb (by omega)
     have hw2:IntKind.i64.wrap ((j:Int)-1)=(j:Int)-1:=qb (by omega)
     rw [if_neg (by omega),if_neg ht]
     rw [qc (v':=(l.map qV,x1,qBg (qR l) f k-1,(j:Int)-1)) (by simp [-getElem?_pos,qA6,qC,qD,qF,qG,qH,qJ,Option.bind_some,qE,qK,qM,hs,hc,hx,qBU,qBE,qAm,qAP,qAQ,qAR,qAS,qAT,qAU,qAV,qAW,qAX,qAY,qu,qv,qw,qx,hg',hj',hr,ht,hw,hw2])]
     exact ih _ (by omega) (by omega) (by omega) (by omega)
   ·refine .inr ⟨?_,by rw [if_pos (.inr hks)]⟩
    rw [qP (r:= .inl (-1)) (by simp [-getElem?_pos,qA6,qC,qD,qF,qG,qH,qJ,Option.bind_some,qE,qK,qM,hs,hc,hx,qBU,qBE,qAm,qAP,qAQ,qAR,qAS,qAT,qAU,qAV,qAW,qAX,qAY,qu,qv,qw,qx,hg',hj',hks])]
theorem qIb (l:List Nd) (hl:l.length≤140737488351232) (hk:∀c∈l,(kd c).length≤140737488351232):∀(f:Nat) (x:Int),0≤x→x<l.length→x<f→Ev (qAo · (l.map qV) x) (qBg (qR l) f x)
 |0,x,h0,h1,h2=>by omega
 |f+1,x,h0,h1,h2=>by
  obtain ⟨n0,hn0⟩:=qOz (F:=fun y n=>qAo n (l.map qV) y) (f:=fun y=>qBg (qR l) f y) x (fun y h3 h4=>qIb l hl hk f y h3 (by omega) (by omega))
  refine ⟨n0+(kd (ndi l x)).length+5,fun n hn=>?_⟩
  obtain ⟨m,rfl,hm⟩:=up1 hn
  have hc:=qCY (l:=l) (i:=x) ⟨h0,h1⟩
  have hkx:=hk _ (qHZ (l:=l) ⟨h0,h1⟩)
  have hw:IntKind.i64.wrap (x-1)=x-1:=qb (by omega)
  have hw2:IntKind.i64.wrap (((kd (ndi l x)).length:Int)-1)=((kd (ndi l x)).length:Int)-1:=qb (by omega)
  have h:=qNr l x f m ⟨h0,h1⟩ hl hkx (hn0 m (by omega)) (kd (ndi l x)).length m (x-1) (Nat.le_refl _) (by omega) (by omega) (by omega)
  have e:(qR l x).take (kd (ndi l x)).length=qR l x:=List.take_length
  rw [e] at h
  rw [show qBg (qR l) (f+1) x=goT (qBg (qR l) f) (qR l x).reverse (x-1) from rfl]
  unfold kd at h hw2
  dsimp only
  simp only [qAo,qGT,qC,qD,qF,qG,qH,qJ,Option.bind_some,qE,qK,qM]
  rcases h with ⟨y,g1,g2,g3,g4⟩|⟨g1,g2⟩
  ·have hw3:IntKind.i64.wrap (y+1)=y+1:=qb (by omega)
   rw [g2]
   simp [-getElem?_pos,qC,qD,qF,qG,qH,qJ,Option.bind_some,qE,qK,qM,hc,h0,h1,qBU,qBE,qAm,qAP,qAQ,qAR,qAS,qAT,qAU,qAV,qAW,qAX,qAY,qu,qv,qw,qx,hw,hw2,g1,hw3]
  ·rw [g2]
   simp [-getElem?_pos,qC,qD,qF,qG,qH,qJ,Option.bind_some,qE,qK,qM,hc,h0,h1,qBU,qBE,qAm,qAP,qAQ,qAR,qAS,qAT,qAU,qAV,qAW,qAX,qAY,qu,qv,qw,qx,hw,hw2,g1]
theorem qLf (kids:Int→List Int):∀(f:Nat) (n:Int),0≤qAy kids f n∧qAy kids f n≤f
 |0,n=>by rw [qAy];omega
 |f+1,n=>by
  have:∀l:List Int,0≤qIa (l.map fun k=>qAy kids f k)∧qIa (l.map fun k=>qAy kids f k)≤f:=by
   intro l
   induction l with
   |nil=>exact ⟨Int.le_refl 0,Int.natCast_nonneg f⟩
   |cons a r ih=>have:=qLf kids f a;simp only [List.map_cons,qIa];omega
  have:=this (kids n)
  rw [qAy]
  omega
theorem qNs (l:List Nd) (x1:Int) (f n:Nat) (hx:0≤x1∧x1<l.length) (hf:f≤1000) (hk:(kd (ndi l x1)).length≤140737488351232)
  (hrec:∀k∈qR l x1,qAp n (l.map qV) k=some (qAy (qR l) f k)):
  ∀(m i M:Nat) (a:Int),(kd (ndi l x1)).length=i+m→m+1≤M→0≤a→
   zD (qCo (qAp n) n) M (l.map qV,x1,a,(i:Int))=some (max a (qIa (((qR l x1).drop i).map fun k=>qAy (qR l) f k)))
 |m,i,0,a,h1,h2,h3=>by omega
 |0,i,M+1,a,h1,h2,h3=>by
  have hc:=qCY hx
  have hi:¬i<(ndi l x1).2.2.2.2.2.2.2.2.2.2.2.2.2.length:=by unfold kd at h1;omega
  rw [qP (r:=a) (by simp [-getElem?_pos,qCo,qC,qD,qF,qG,qH,qJ,Option.bind_some,qE,qK,qM,hc,hx,qBU,qBE,qAm,qAP,qAQ,qAR,qAS,qAT,qAU,qAV,qAW,qAX,qAY,qu,qv,qw,qx,hi])]
  rw [List.drop_eq_nil_of_le (by unfold qR;omega)]
  simp only [List.map_nil,qIa]
  congr 1
  omega
 |m+1,i,M+1,a,h1,h2,h3=>by
  have hc:=qCY hx
  have hj:i<(kd (ndi l x1)).length:=by omega
  have hg:(qR l x1)[i]?=some (qR l x1)[i]:=List.getElem?_eq_getElem hj
  rw [qEj hg]
  have hr:=hrec _ (List.mem_of_getElem? hg)
  generalize (qR l x1)[i]=k at hg hr
  have hg':(ndi l x1).2.2.2.2.2.2.2.2.2.2.2.2.2[i]?=some k:=hg
  have hj':i<(ndi l x1).2.2.2.2.2.2.2.2.2.2.2.2.2.length:=hj
  have hj'':(i:Int)<((ndi l x1).2.2.2.2.2.2.2.2.2.2.2.2.2.length:Int):=by omega
  have hw:IntKind.i64.wrap ((i:Int)+1)=((i+1:Nat):Int):=by rw [qb (by omega)];omega
  have hd:=qLf (qR l) f k
  rw [qc (v':=(l.map qV,x1,(if qAy (qR l) f k>a then qAy (qR l) f k else a),((i+1:Nat):Int))) (by simp [-getElem?_pos,qCo,qC,qD,qF,qG,qH,qJ,Option.bind_some,qE,qK,qM,hc,hx,qBU,qBE,qAm,qAP,qAQ,qAR,qAS,qAT,qAU,qAV,qAW,qAX,qAY,qu,qv,qw,qx,hg',hj',hr,hw])]
  rw [qNs l x1 f n hx hf hk hrec m (i+1) M _ (by omega) (by omega) (by split<;>omega)]
  simp only [List.map_cons,qIa]
  congr 1
  split<;>omega
theorem qIc (l:List Nd) (hl:l.length≤60) (hk:∀c∈l,(kd c).length≤140737488351232) (hin:∀i:Int,0≤i→i<l.length→qFy (qA9 l) (qBo l) (qR l) i):∀(f:Nat) (x:Int),f≤1000→0≤x→x<l.length→x<f→Ev (qAp · (l.map qV) x) (qAy (qR l) f x)
 |0,x,hf,h0,h1,h2=>by omega
 |f+1,x,hf,h0,h1,h2=>by
  obtain ⟨n0,hn0⟩:=qCG (F:=fun y n=>qAp n (l.map qV) y) (f:=fun y=>qAy (qR l) f y) (qR l x) (fun y hy=>by
   have:=hin x h0 h1 y hy
   exact qIc l hl hk hin f y (by omega) (by omega) (by omega) (by omega))
  refine ⟨n0+(kd (ndi l x)).length+5,fun n hn=>?_⟩
  obtain ⟨m,rfl,hm⟩:=up1 hn
  have h:=qNs l x f m ⟨h0,h1⟩ (by omega) (hk _ (qHZ (l:=l) ⟨h0,h1⟩)) (hn0 m (by omega)) (kd (ndi l x)).length 0 m 0 (by omega) (by omega) (by omega)
  have hd:=qLf (qR l) (f+1) x
  have e:max 0 (qIa ((qR l x).map fun k=>qAy (qR l) f k))+1=qAy (qR l) (f+1) x:=by
   rw [qAy]
   have:∀q:List Int,0≤qIa q:=by
    intro q
    induction q with
    |nil=>exact Int.le_refl 0
    |cons a r ih=>simp only [qIa];omega
   have:=this ((qR l x).map fun k=>qAy (qR l) f k)
   omega
  rw [List.drop_zero] at h
  simp only [Int.natCast_zero] at h
  have hw:IntKind.i64.wrap (max 0 (qIa ((qR l x).map fun k=>qAy (qR l) f k))+1)=qAy (qR l) (f+1) x:=by rw [e,qb (by omega)]
  simp only [qAp,qGV,qC,qD,qF,qG,qH,qJ,Option.bind_some,qE,qK,qM,h,hw]
def inB (l:List Nd) (i:Int):Bool:=(qR l i).all fun k=>decide (0≤k∧k≤i-1)&&!(qA9 l k&&!qBo l i)
theorem qPq {l:List Nd} {i:Int}:inB l i=true↔qFy (qA9 l) (qBo l) (qR l) i:=by
 unfold inB qFy
 rw [List.all_eq_true]
 refine forall_congr' fun k=>forall_congr' fun hk=>?_
 cases qA9 l k<;>cases qBo l i<;>simp
theorem qOV (l:List Nd) (x1:Int) (n:Nat) (hx:0≤x1∧x1<l.length) (hl:l.length≤60) (hk:(kd (ndi l x1)).length≤140737488351232):
  ∀(m i M:Nat),(kd (ndi l x1)).length=i+m→m+1≤M→
   zD (qAg (n+1)) M (l.map qV,x1,(i:Int))=some (if ((qR l x1).drop i).all (fun k=>decide (0≤k∧k≤x1-1)&&!(qA9 l k&&!qBo l x1))=true then .inr (l.map qV,x1) else .inl false)
 |m,i,0,h1,h2=>by omega
 |0,i,M+1,h1,h2=>by
  have hc:=qCY hx
  have hi:¬i<(ndi l x1).2.2.2.2.2.2.2.2.2.2.2.2.2.length:=by unfold kd at h1;omega
  rw [qP (r:= .inr (l.map qV,x1)) (by simp [-getElem?_pos,qAg,qC,qD,qF,qG,qH,qJ,Option.bind_some,qE,qK,qM,hc,hx,qBU,qBE,qAm,qAP,qAQ,qAR,qAS,qAT,qAU,qAV,qAW,qAX,qAY,qu,qv,qw,qx,hi])]
  rw [List.drop_eq_nil_of_le (by unfold qR;omega)]
  rfl
 |m+1,i,M+1,h1,h2=>by
  have hc:=qCY hx
  have hj:i<(kd (ndi l x1)).length:=by omega
  have hg:(qR l x1)[i]?=some (qR l x1)[i]:=List.getElem?_eq_getElem hj
  rw [qEj hg]
  generalize (qR l x1)[i]=k at hg
  have hg':(ndi l x1).2.2.2.2.2.2.2.2.2.2.2.2.2[i]?=some k:=hg
  have hj':i<(ndi l x1).2.2.2.2.2.2.2.2.2.2.2.2.2.length:=hj
  have hw:IntKind.i64.wrap ((i:Int)+1)=((i+1:Nat):Int):=by rw [qb (by omega)];omega
  have hw2:IntKind.i64.wrap (x1-1)=x1-1:=qb (by omega)
  have hin:qBI (n+1) k 0 (x1-1)=some (decide (0≤k∧k≤x1-1)):=by
   simp only [qBI,qF8,qC,qD,qF,qG,qH,qJ,Option.bind_some,qE,qK,qM]
   by_cases h:k≥0<;>simp [h]
  rw [List.all_cons]
  by_cases hr:0≤k∧k≤x1-1
  ·have hck:=qCY (l:=l) (i:=k) ⟨hr.1,by omega⟩
   have hkl:k<(l.length:Int):=by omega
   by_cases ha:(ndi l k).1=3
   ·by_cases hcl:(ndi l x1).1=6
    ·rw [qc (v':=(l.map qV,x1,((i+1:Nat):Int))) (by simp [-getElem?_pos,qAg,qC,qD,qF,qG,qH,qJ,Option.bind_some,qE,qK,qM,hc,hx,qBU,qBE,qAm,qAP,qAQ,qAR,qAS,qAT,qAU,qAV,qAW,qAX,qAY,qu,qv,qw,qx,hg',hj',hw,hw2,hin,hr,hck,hkl,ha,hcl])]
     rw [qOV l x1 n hx hl hk m (i+1) M (by omega) (by omega)]
     simp [hr,qA9,qBo,ha,hcl]
    ·rw [qP (r:= .inl false) (by simp [-getElem?_pos,qAg,qC,qD,qF,qG,qH,qJ,Option.bind_some,qE,qK,qM,hc,hx,qBU,qBE,qAm,qAP,qAQ,qAR,qAS,qAT,qAU,qAV,qAW,qAX,qAY,qu,qv,qw,qx,hg',hj',hw,hw2,hin,hr,hck,hkl,ha,hcl])]
     simp [hr,qA9,qBo,ha,hcl]
   ·rw [qc (v':=(l.map qV,x1,((i+1:Nat):Int))) (by simp [-getElem?_pos,qAg,qC,qD,qF,qG,qH,qJ,Option.bind_some,qE,qK,qM,hc,hx,qBU,qBE,qAm,qAP,qAQ,qAR,qAS,qAT,qAU,qAV,qAW,qAX,qAY,qu,qv,qw,qx,hg',hj',hw,hw2,hin,hr,hck,hkl,ha])]
    rw [qOV l x1 n hx hl hk m (i+1) M (by omega) (by omega)]
    simp [hr,qA9,qBo,ha]
  ·rw [qP (r:= .inl false) (by simp [-getElem?_pos,qAg,qC,qD,qF,qG,qH,qJ,Option.bind_some,qE,qK,qM,hc,hx,qBU,qBE,qAm,qAP,qAQ,qAR,qAS,qAT,qAU,qAV,qAW,qAX,qAY,qu,qv,qw,qx,hg',hj',hw2,hin,hr])]
   simp [hr]
def qEt (l:List Nd) (i m:Nat):Bool:=(List.range' i m).all fun (i:Nat)=>qFS l (i:Int)&&inB l (i:Int)
theorem qE2 {l:List Nd}:qEt l 0 l.length=true↔∀i:Int,0≤i→i<l.length→qFS l i=true∧qFy (qA9 l) (qBo l) (qR l) i:=by
 unfold qEt
 rw [List.all_eq_true]
 constructor
 ·intro h i h0 h1
  have:=h i.toNat (by rw [List.mem_range'];exact ⟨i.toNat,by omega,by omega⟩)
  rw [show ((i.toNat:Nat):Int)=i by omega,Bool.and_eq_true,qPq] at this
  exact this
 ·intro h i hi
  rw [List.mem_range'] at hi
  obtain ⟨j,hj,rfl⟩:=hi
  rw [Bool.and_eq_true,qPq]
  exact h _ (by omega) (by omega)
theorem qPr (l:List Nd) (n:Nat) (hl:l.length≤60) (hk:∀c∈l,(kd c).length≤140737488351232) (hn:∀c∈l,(kd c).length+2≤n)
  (hok:∀c∈l,qBs n c.1 c.2.1 c.2.2.1 c.2.2.2.1 c.2.2.2.2.1 c.2.2.2.2.2.1 c.2.2.2.2.2.2.1 c.2.2.2.2.2.2.2.1 c.2.2.2.2.2.2.2.2.1 c.2.2.2.2.2.2.2.2.2.1 c.2.2.2.2.2.2.2.2.2.2.1 c.2.2.2.2.2.2.2.2.2.2.2.1 c.2.2.2.2.2.2.2.2.2.2.2.2.1 ((c.2.2.2.2.2.2.2.2.2.2.2.2.2).map qAs)=some (qB2 c)):
  ∀(m i M:Nat),l.length=i+m→m+1≤M→
   zD (qBA n) M (l.map qV,(i:Int))=some (if qEt l i m=true then .inr (l.map qV) else .inl false)
 |m,i,0,h1,h2=>by omega
 |0,i,M+1,h1,h2=>by
  have hi:¬(i:Int)<(l.length:Int):=by omega
  rw [qP (r:= .inr (l.map qV)) (by simp [-getElem?_pos,qBA,qC,qD,qF,qG,qH,qJ,Option.bind_some,qE,qK,qM,hi])]
  rfl
 |m+1,i,M+1,h1,h2=>by
  have hi:(i:Int)<(l.length:Int):=by omega
  have hx:0≤(i:Int)∧(i:Int)<l.length:=⟨by omega,hi⟩
  have hc:=qCY hx
  have hm:=qHZ hx
  have ho:=hok _ hm
  have hw:IntKind.i64.wrap ((i:Int)+1)=((i+1:Nat):Int):=by rw [qb (by omega)];omega
  have hnn:=hn _ hm
  obtain ⟨q,rfl⟩:∃q,n=q+1:=⟨n-1,by omega⟩
  have hlp:=qOV l i q hx hl (hk _ hm) (kd (ndi l i)).length 0 (q+1) (by omega) (by omega)
  rw [List.drop_zero,show ((qR l (i:Int)).all fun k=>decide (0≤k∧k≤(i:Int)-1)&&!(qA9 l k&&!qBo l (i:Int)))=inB l i from rfl] at hlp
  simp only [Int.natCast_zero] at hlp
  have e:qEt l i (m+1)=(qFS l i&&inB l i&&qEt l (i+1) m):=by unfold qEt;rw [List.range'_succ,List.all_cons]
  rw [e]
  rw [Int.toNat_natCast] at hc
  cases hnb:qB2 (ndi l i) with
  |false=>
   rw [hnb] at ho
   rw [qP (r:= .inl false) (by simp [-getElem?_pos,qBA,qC,qD,qF,qG,qH,qJ,Option.bind_some,qE,qK,qM,hi,hc,qBU,qBE,qAm,qAP,qAQ,qAR,qAS,qAT,qAU,qAV,qAW,qAX,qAY,qu,qv,qw,qx,ho])]
   simp [qFS,hnb]
  |true=>
   rw [hnb] at ho
   cases hib:inB l i with
   |false=>
    rw [hib] at hlp
    rw [qP (r:= .inl false) (by simp [-getElem?_pos,qBA,qC,qD,qF,qG,qH,qJ,Option.bind_some,qE,qK,qM,hi,hc,qBU,qBE,qAm,qAP,qAQ,qAR,qAS,qAT,qAU,qAV,qAW,qAX,qAY,qu,qv,qw,qx,ho,hlp])]
    simp
   |true=>
    rw [hib] at hlp
    rw [qc (v':=(l.map qV,((i+1:Nat):Int))) (by simp [-getElem?_pos,qBA,qC,qD,qF,qG,qH,qJ,Option.bind_some,qE,qK,qM,hi,hc,qBU,qBE,qAm,qAP,qAQ,qAR,qAS,qAT,qAU,qAV,qAW,qAX,qAY,qu,qv,qw,qx,ho,hlp,hw])]
    rw [qPr l (q+1) hl hk hn hok m (i+1) M (by omega) (by omega)]
    simp [qFS,hnb]
def qDZ (l:List Nd):Bool:=decide (1≤l.length∧l.length≤60)&&(qEt l 0 l.length&&(decide (qBg (qR l) l.length ((l.length:Int)-1)=0)&&(!qA9 l ((l.length:Int)-1)&&decide (qAy (qR l) l.length ((l.length:Int)-1)≤12))))
theorem qER (l:List Nd) (hk:∀c∈l,(kd c).length≤140737488351232∧c.2.2.2.2.1.size≤140737488351232):Ev (qBJ · (l.map qV)) (qDZ l):=by
 by_cases h1:1≤l.length
 ·by_cases h60:l.length≤60
  ·have hk1:∀c∈l,(kd c).length≤140737488351232:=fun c hc=>(hk c hc).1
   obtain ⟨n1,g1⟩:=qCG (F:=fun (c:Nd) n=>qBs n c.1 c.2.1 c.2.2.1 c.2.2.2.1 c.2.2.2.2.1 c.2.2.2.2.2.1 c.2.2.2.2.2.2.1 c.2.2.2.2.2.2.2.1 c.2.2.2.2.2.2.2.2.1 c.2.2.2.2.2.2.2.2.2.1 c.2.2.2.2.2.2.2.2.2.2.1 c.2.2.2.2.2.2.2.2.2.2.2.1 c.2.2.2.2.2.2.2.2.2.2.2.2.1 ((c.2.2.2.2.2.2.2.2.2.2.2.2.2).map qAs)) (f:=qB2) l (fun c hc=>qG7 c (hk c hc).2)
   obtain ⟨n2,g2⟩:=qCG (F:=fun (c:Nd) n=>if (kd c).length+2≤n then some () else none) (f:=fun _=>()) l (fun c hc=>⟨(kd c).length+2,fun n hn=>if_pos hn⟩)
   obtain ⟨n3,g3⟩:=qIb l (by omega) hk1 l.length ((l.length:Int)-1) (by omega) (by omega) (by omega)
   obtain ⟨n4,g4⟩:∃n0,qEt l 0 l.length=true→∀n,n0≤n→qAp n (l.map qV) ((l.length:Int)-1)=some (qAy (qR l) l.length ((l.length:Int)-1)):=by
    by_cases ho:qEt l 0 l.length=true
    ·obtain ⟨n4,g4⟩:=qIc l h60 hk1 (fun (i:Int) h0 h1=>(qE2.1 ho i h0 h1).2) l.length ((l.length:Int)-1) (by omega) (by omega) (by omega) (by omega)
     exact ⟨n4,fun _=>g4⟩
    ·exact ⟨0,fun h=>absurd h ho⟩
   refine ⟨n1+n2+n3+n4+l.length+5,fun n hn=>?_⟩
   obtain ⟨m,rfl,hm⟩:=up1 hn
   have hlp:=qPr l m h60 hk1 (fun c hc=>by
    have:=g2 m (by omega) c hc
    split at this
    ·assumption
    ·cases this) (g1 m (by omega)) l.length 0 m (by omega) (by omega)
   have g3:=g3 m (by omega)
   dsimp only at g3
   simp only [Int.natCast_zero] at hlp
   have hw:IntKind.i64.wrap ((l.length:Int)-1)=(l.length:Int)-1:=qb (by omega)
   have hx:0≤(l.length:Int)-1∧(l.length:Int)-1<l.length:=by omega
   have hc:=qCY hx
   have a1:¬(l.length:Int)<1:=by omega
   have a2:¬(l.length:Int)>60:=by omega
   generalize hxe:(l.length:Int)-1=x at hw hx hc g3 g4⊢
   simp only [qBJ,qCp,qC,qD,qF,qG,qH,qJ,Option.bind_some,qE,qK,qM,List.length_map,decide_eq_true_eq,a1,a2,if_false,hlp]
   unfold qDZ
   rw [hxe]
   cases ho:qEt l 0 l.length with
   |false=>simp [qC,qD,qF,qG,qH,qJ,Option.bind_some,qE,qK,qM]
   |true=>
    have g4:=g4 ho m (by omega)
    simp only [if_true,qC,qD,qF,qG,qH,qJ,Option.bind_some,qE,qK,qM,List.length_map,hxe,hw,g3]
    by_cases ht:qBg (qR l) l.length x=0
    ·by_cases ha:(ndi l x).1=3
     ·simp [-getElem?_pos,qC,qD,qF,qG,qH,qJ,Option.bind_some,qE,qK,qM,ht,hx,hc,qBU,qBE,qAm,qAP,qAQ,qAR,qAS,qAT,qAU,qAV,qAW,qAX,qAY,qu,qv,qw,qx,ha,qA9]
     ·simp [-getElem?_pos,qC,qD,qF,qG,qH,qJ,Option.bind_some,qE,qK,qM,ht,hx,hc,qBU,qBE,qAm,qAP,qAQ,qAR,qAS,qAT,qAU,qAV,qAW,qAX,qAY,qu,qv,qw,qx,ha,qA9,g4,h1,h60]
    ·simp [-getElem?_pos,qC,qD,qF,qG,qH,qJ,Option.bind_some,qE,qK,qM,ht]
  ·refine ⟨1,fun n hn=>?_⟩
   obtain ⟨m,rfl,hm⟩:=up1 (n0:=0) hn
   have a1:¬(l.length:Int)<1:=by omega
   have a2:(l.length:Int)>60:=by omega
   simp [-getElem?_pos,qBJ,qCp,qC,qD,qF,qG,qH,qJ,Option.bind_some,qE,qK,qM,a1,a2,qDZ,h60]
 ·refine ⟨1,fun n hn=>?_⟩
  obtain ⟨m,rfl,hm⟩:=up1 (n0:=0) hn
  have a1:(l.length:Int)<1:=by omega
  simp [-getElem?_pos,qBJ,qCp,qC,qD,qF,qG,qH,qJ,Option.bind_some,qE,qK,qM,a1,qDZ,h1]
theorem qNt (l:List Nd) (x1 d:Int) (f n:Nat) (hx:0≤x1∧x1<l.length) (hl:l.length≤140737488351232) (hd:0≤d∧d≤1000) (hk:(kd (ndi l x1)).length≤140737488351232)
  (hrec:∀y:Int,0≤y→y<x1→qAh n (l.map qV) y (d+1)=some (qCX (qFS l) (qA9 l) (qBo l) (qR l) f y)):
  ∀(j M:Nat) (s:Int),j≤(kd (ndi l x1)).length→j+1≤M→0≤s→s≤x1→
   zD (qAL (qAh n) n) M (l.map qV,x1,d,s,(j:Int)-1)=some (.inr (goF (qA9 l) (qBo l) (qCX (qFS l) (qA9 l) (qBo l) (qR l) f) x1 ((qR l x1).take j).reverse s))∨
   (zD (qAL (qAh n) n) M (l.map qV,x1,d,s,(j:Int)-1)=some (.inl (-1))∧goF (qA9 l) (qBo l) (qCX (qFS l) (qA9 l) (qBo l) (qR l) f) x1 ((qR l x1).take j).reverse s= -1)
 |0,0,s,h1,h2,h3,h4=>by omega
 |0,M+1,s,h1,h2,h3,h4=>by
  refine .inl ?_
  rw [qP (r:= .inr s) (by simp [-getElem?_pos,qAL,qC,qD,qF,qG,qH,qJ,Option.bind_some,qE,qK,qM])]
  simp [goF]
 |j+1,0,s,h1,h2,h3,h4=>by omega
 |j+1,M+1,s,h1,h2,h3,h4=>by
  have hc:=qCY hx
  have hj:j<(kd (ndi l x1)).length:=by omega
  have hg:(qR l x1)[j]?=some (qR l x1)[j]:=List.getElem?_eq_getElem hj
  have ih:=qNt l x1 d f n hx hl hd hk hrec j M
  rw [qOy hg]
  generalize (qR l x1)[j]=k at hg
  have hi:(((j+1:Nat):Int)-1)=(j:Int):=by omega
  rw [hi,goF]
  have hg':(ndi l x1).2.2.2.2.2.2.2.2.2.2.2.2.2[j]?=some k:=hg
  have hj':j<(ndi l x1).2.2.2.2.2.2.2.2.2.2.2.2.2.length:=hj
  have hws:IntKind.i64.wrap (s-1)=s-1:=qb (by omega)
  by_cases hks:k=s-1
  ·by_cases hk0:k<0
   ·refine .inr ⟨?_,by rw [if_pos (.inr (.inl hk0))]⟩
    rw [qP (r:= .inl (-1)) (by simp [-getElem?_pos,qAL,qC,qD,qF,qG,qH,qJ,Option.bind_some,qE,qK,qM,hc,hx,qBU,qBE,qAm,qAP,qAQ,qAR,qAS,qAT,qAU,qAV,qAW,qAX,qAY,qu,qv,qw,qx,hg',hj',hks,hws,show s-1<0 by omega])]
   ·have hws':IntKind.i64.wrap (s-1)=k:=by rw [hws,hks]
    have hkx:0≤k∧k<l.length:=by omega
    have hck:=qCY hkx
    by_cases hac:qA9 l k=true∧qBo l x1=false
    ·have ha:(ndi l k).1=3:=by simpa [qA9] using hac.1
     have hb:¬(ndi l x1).1=6:=by simpa [qBo] using hac.2
     refine .inr ⟨?_,by rw [if_pos (.inr (.inr hac))]⟩
     rw [qP (r:= .inl (-1)) (by simp [-getElem?_pos,qAL,qC,qD,qF,qG,qH,qJ,Option.bind_some,qE,qK,qM,hc,hx,qBU,qBE,qAm,qAP,qAQ,qAR,qAS,qAT,qAU,qAV,qAW,qAX,qAY,qu,qv,qw,qx,hg',hj',hws',hk0,hck,hkx,ha,hb])]
    ·have hr:=hrec k (by omega) (by omega)
     have hwd:IntKind.i64.wrap (d+1)=d+1:=qb (by omega)
     have hw2:IntKind.i64.wrap ((j:Int)-1)=(j:Int)-1:=qb (by omega)
     have hno:¬(k≠s-1∨k<0∨(qA9 l k=true∧qBo l x1=false)):=fun h=>by
      rcases h with h|h|h
      ·exact h hks
      ·exact hk0 h
      ·exact hac h
     have hcase:¬(ndi l k).1=3∨((ndi l k).1=3∧(ndi l x1).1=6):=by
      by_cases ha:(ndi l k).1=3
      ·refine .inr ⟨ha,?_⟩
       refine Decidable.byContradiction fun hb=>hac ⟨by simp [qA9,ha],by simp [qBo,hb]⟩
      ·exact .inl ha
     rw [if_neg hno]
     by_cases ht:qCX (qFS l) (qA9 l) (qBo l) (qR l) f k<0
     ·refine .inr ⟨?_,by rw [if_pos ht]⟩
      rcases hcase with ha|⟨ha,hb⟩
      ·rw [qP (r:= .inl (-1)) (by simp [-getElem?_pos,qAL,qC,qD,qF,qG,qH,qJ,Option.bind_some,qE,qK,qM,hc,hx,qBU,qBE,qAm,qAP,qAQ,qAR,qAS,qAT,qAU,qAV,qAW,qAX,qAY,qu,qv,qw,qx,hg',hj',hws',hk0,hck,hkx,ha,hwd,hr,ht])]
      ·rw [qP (r:= .inl (-1)) (by simp [-getElem?_pos,qAL,qC,qD,qF,qG,qH,qJ,Option.bind_some,qE,qK,qM,hc,hx,qBU,qBE,qAm,qAP,qAQ,qAR,qAS,qAT,qAU,qAV,qAW,qAX,qAY,qu,qv,qw,qx,hg',hj',hws',hk0,hck,hkx,ha,hb,hwd,hr,ht])]
     ·rw [if_neg ht]
      have hb1:=(qOU (qFS l) (qA9 l) (qBo l) (qR l) f (k.toNat+1) k (by omega) (by omega) (by omega)).1
      have hstep:zD (qAL (qAh n) n) (M+1) (l.map qV,x1,d,s,(j:Int))=zD (qAL (qAh n) n) M (l.map qV,x1,d,qCX (qFS l) (qA9 l) (qBo l) (qR l) f k,(j:Int)-1):=by
       rcases hcase with ha|⟨ha,hb⟩
       ·rw [qc (v':=(l.map qV,x1,d,qCX (qFS l) (qA9 l) (qBo l) (qR l) f k,(j:Int)-1)) (by simp [-getElem?_pos,qAL,qC,qD,qF,qG,qH,qJ,Option.bind_some,qE,qK,qM,hc,hx,qBU,qBE,qAm,qAP,qAQ,qAR,qAS,qAT,qAU,qAV,qAW,qAX,qAY,qu,qv,qw,qx,hg',hj',hws',hk0,hck,hkx,ha,hwd,hr,ht,hw2])]
       ·rw [qc (v':=(l.map qV,x1,d,qCX (qFS l) (qA9 l) (qBo l) (qR l) f k,(j:Int)-1)) (by simp [-getElem?_pos,qAL,qC,qD,qF,qG,qH,qJ,Option.bind_some,qE,qK,qM,hc,hx,qBU,qBE,qAm,qAP,qAQ,qAR,qAS,qAT,qAU,qAV,qAW,qAX,qAY,qu,qv,qw,qx,hg',hj',hws',hk0,hck,hkx,ha,hb,hwd,hr,ht,hw2])]
      rw [hstep]
      exact ih _ (by omega) (by omega) (by omega) (by omega)
  ·refine .inr ⟨?_,by rw [if_pos (.inl hks)]⟩
   rw [qP (r:= .inl (-1)) (by simp [-getElem?_pos,qAL,qC,qD,qF,qG,qH,qJ,Option.bind_some,qE,qK,qM,hc,hx,qBU,qBE,qAm,qAP,qAQ,qAR,qAS,qAT,qAU,qAV,qAW,qAX,qAY,qu,qv,qw,qx,hg',hj',hws,hks])]
theorem qKk (l:List Nd) (hl:l.length≤140737488351232) (hk:∀c∈l,(kd c).length≤140737488351232∧c.2.2.2.2.1.size≤140737488351232):∀(f:Nat) (x d:Int),x<l.length→d=12-f→0≤d→Ev (qAh · (l.map qV) x d) (qCX (qFS l) (qA9 l) (qBo l) (qR l) f x)
 |0,x,d,h1,h2,h3=>by
  refine ⟨1,fun n hn=>?_⟩
  obtain ⟨m,rfl,hm⟩:=up1 (n0:=0) hn
  have a:d≥12:=by omega
  by_cases h:x<0<;>simp [-getElem?_pos,qAh,qEv,qC,qD,qF,qG,qH,qJ,Option.bind_some,qE,qK,qM,h,a,qCX]
 |f+1,x,d,h1,h2,h3=>by
  by_cases h0:x<0
  ·refine ⟨1,fun n hn=>?_⟩
   obtain ⟨m,rfl,hm⟩:=up1 (n0:=0) hn
   simp [-getElem?_pos,qAh,qEv,qC,qD,qF,qG,qH,qJ,Option.bind_some,qE,qK,qM,h0,qCX]
  ·have hx:0≤x∧x<l.length:=by omega
   have hc:=qCY hx
   have hm':=qHZ hx
   obtain ⟨n0,hn0⟩:=qOz (F:=fun y n=>qAh n (l.map qV) y (d+1)) (f:=fun y=>qCX (qFS l) (qA9 l) (qBo l) (qR l) f y) x (fun y h3 h4=>qKk l hl hk f y (d+1) (by omega) (by omega) (by omega))
   obtain ⟨n1,g1⟩:=qNd (ndi l x) (hk _ hm').2
   refine ⟨n0+n1+(kd (ndi l x)).length+5,fun n hn=>?_⟩
   obtain ⟨m,rfl,hm⟩:=up1 hn
   have g1:=g1 m (by omega)
   have h:=qNt l x d f m hx hl (by omega) (hk _ hm').1 (hn0 m (by omega)) (kd (ndi l x)).length m x (Nat.le_refl _) (by omega) (by omega) (by omega)
   have e:(qR l x).take (kd (ndi l x)).length=qR l x:=List.take_length
   rw [e] at h
   have hw2:IntKind.i64.wrap (((kd (ndi l x)).length:Int)-1)=((kd (ndi l x)).length:Int)-1:=by
    have:=(hk _ hm').1
    exact qb (by omega)
   have a:¬d≥12:=by omega
   unfold kd at h hw2
   dsimp only at g1⊢
   simp only [qAh,qEv,qCX,qC,qD,qF,qG,qH,qJ,Option.bind_some,qE,qK,qM]
   cases hnb:qB2 (ndi l x) with
   |false=>
    rw [hnb] at g1
    simp [-getElem?_pos,qC,qD,qF,qG,qH,qJ,Option.bind_some,qE,qK,qM,h0,a,hc,hx,qBU,qBE,qAm,qAP,qAQ,qAR,qAS,qAT,qAU,qAV,qAW,qAX,qAY,qu,qv,qw,qx,g1,qFS,hnb]
   |true=>
    rw [hnb] at g1
    rcases h with h|⟨h,h'⟩
    ·simp [-getElem?_pos,qC,qD,qF,qG,qH,qJ,Option.bind_some,qE,qK,qM,h0,a,hc,hx,qBU,qBE,qAm,qAP,qAQ,qAR,qAS,qAT,qAU,qAV,qAW,qAX,qAY,qu,qv,qw,qx,g1,qFS,hnb,hw2,h]
    ·simp only [h']
     simp [-getElem?_pos,qC,qD,qF,qG,qH,qJ,Option.bind_some,qE,qK,qM,h0,a,hc,hx,qBU,qBE,qAm,qAP,qAQ,qAR,qAS,qAT,qAU,qAV,qAW,qAX,qAY,qu,qv,qw,qx,g1,qFS,hnb,hw2,h]
theorem qQd {l:List Nd}:qDZ l=(decide (1≤l.length∧l.length≤60)&&(!qA9 l ((l.length:Int)-1)&&decide (qCX (qFS l) (qA9 l) (qBo l) (qR l) 12 ((l.length:Int)-1)=0))):=by
 rw [Bool.eq_iff_iff]
 unfold qDZ
 simp only [Bool.and_eq_true,decide_eq_true_eq]
 constructor
 ·intro ⟨h1,h2,h3,h4,h5⟩
  refine ⟨h1,h4,?_⟩
  rw [qPp (qFS l) (qA9 l) (qBo l) (qR l) 12 l.length l.length ((l.length:Int)-1) (by omega) (by omega) (by omega) (fun i i0 i1=>qE2.1 h2 i i0 (by omega)) (by omega) (by simpa using h5)]
  exact h3
 ·intro ⟨h1,h4,h5⟩
  obtain ⟨b1,b2,b3,b4⟩:=qOU (qFS l) (qA9 l) (qBo l) (qR l) 12 l.length ((l.length:Int)-1) (by omega) (by omega) (by omega)
  rw [h5] at b2 b3
  refine ⟨h1,qE2.2 (fun i i0 i1=>b3 i i0 (by omega)),b2,h4,?_⟩
  have:=b4 l.length (fun i i0 i1=>(b3 i i0 i1).2) (by omega)
  simpa using this
theorem qES (l:List Nd) (hl:l.length≤140737488351232) (hk:∀c∈l,(kd c).length≤140737488351232∧c.2.2.2.2.1.size≤140737488351232):Ev (qAq · (l.map qV)) (qDZ l):=by
 rw [qQd]
 by_cases h:1≤l.length∧l.length≤60
 ·obtain ⟨n1,g1⟩:=qKk l hl hk 12 ((l.length:Int)-1) 0 (by omega) (by omega) (by omega)
  obtain ⟨n2,g2⟩:=qAM (l.length:Int) 1 60
  refine ⟨n1+n2+1,fun n hn=>?_⟩
  obtain ⟨m,rfl,hm⟩:=up1 hn
  have g1:=g1 m (by omega)
  have g2:=g2 m (by omega)
  dsimp only at g1 g2⊢
  have hw:IntKind.i64.wrap ((l.length:Int)-1)=(l.length:Int)-1:=qb (by omega)
  have hx:0≤(l.length:Int)-1∧(l.length:Int)-1<l.length:=by omega
  have hc:=qCY hx
  have h':(1:Int)≤l.length∧(l.length:Int)≤60:=by omega
  generalize hxe:(l.length:Int)-1=x at hw hx hc g1⊢
  by_cases ha:(ndi l x).1=3
  ·simp [-getElem?_pos,qAq,qCq,qC,qD,qF,qG,qH,qJ,Option.bind_some,qE,qK,qM,hxe,g2,h',hw,hx,hc,qBU,qBE,qAm,qAP,qAQ,qAR,qAS,qAT,qAU,qAV,qAW,qAX,qAY,qu,qv,qw,qx,ha,qA9]
  ·by_cases hf:qCX (qFS l) (qA9 l) (qBo l) (qR l) 12 x=0<;>simp [-getElem?_pos,qAq,qCq,qC,qD,qF,qG,qH,qJ,Option.bind_some,qE,qK,qM,hxe,g1,g2,h,h',hw,hx,hc,qBU,qBE,qAm,qAP,qAQ,qAR,qAS,qAT,qAU,qAV,qAW,qAX,qAY,qu,qv,qw,qx,ha,qA9,hf]
 ·obtain ⟨n2,g2⟩:=qAM (l.length:Int) 1 60
  refine ⟨n2+1,fun n hn=>?_⟩
  obtain ⟨m,rfl,hm⟩:=up1 hn
  have g2:=g2 m (by omega)
  dsimp only at g2⊢
  have h':¬((1:Int)≤l.length∧(l.length:Int)≤60):=by omega
  simp [-getElem?_pos,qAq,qCq,qC,qD,qF,qG,qH,qJ,Option.bind_some,qE,qK,qM,g2,h,h']
def qAZ (l:List UInt8):List UInt8:=l.flatMap fun c=>if c=34 then [34,34] else [c]
def qDM (s:ByteArray):ByteArray:=⟨(34::qAZ s.toList++ [34]).toArray⟩
theorem qD0 (c:UInt8) (l:List UInt8):qAZ (c::l)=(if c=34 then [34,34] else [c])++qAZ l:=by simp [qAZ]
theorem qNu (l r:List UInt8):qAZ (l++r)=qAZ l++qAZ r:=by simp [qAZ]
theorem qG9:∀l:List UInt8,(qAZ l).length≤2*l.length
 | []=>by simp [qAZ]
 |c::l=>by
  have:=qG9 l
  rw [qD0]
  by_cases h:c=34<;>simp [h]<;>omega
theorem qJV:∀s:List UInt8,Lib.replaceK [34] [34,34] (Lib.count s [34]) s=qAZ s
 | []=>by
  rw [Lib.count_miss (by rfl)]
  rfl
 |b::l=>by
  have ih:=qJV l
  by_cases hb:b=34
  ·subst hb
   have h0:Lib.index (34::l) [34]=((0:Nat):Int):=by simp [Lib.index,List.isPrefixOf]
   rw [Lib.count_hit (by simp) h0,Nat.add_comm,Lib.replaceK_hit _ _ _ _ 0 h0]
   simp only [List.take_zero,List.nil_append,Nat.zero_add,List.length_singleton,List.drop_succ_cons,List.drop_zero]
   rw [ih,qD0,if_pos rfl]
  ·have hix:Lib.index (b::l) [34]=if Lib.index l [34]== -1 then-1 else Lib.index l [34]+1:=by
    have:((34:UInt8)==b)=false:=by simpa using fun e=>hb e.symm
    simp [Lib.index,List.isPrefixOf,this]
   rw [qD0,if_neg hb]
   by_cases hm:Lib.index l [34]= -1
   ·rw [hm] at hix
    rw [Lib.count_miss hm] at ih
    rw [Lib.count_miss (by rw [hix];rfl)]
    rw [Lib.replaceK] at ih⊢
    rw [←ih]
    rfl
   ·have hge:=Lib.index_ge l [34]
    obtain ⟨i,hi⟩:∃i:Nat,Lib.index l [34]=i:=⟨(Lib.index l [34]).toNat,by omega⟩
    have hix':Lib.index (b::l) [34]=((i+1:Nat):Int):=by
     rw [hix,if_neg (by simp [hm]),hi]
     omega
    rw [Lib.count_hit (by simp) hi,Nat.add_comm,Lib.replaceK_hit _ _ _ _ i hi] at ih
    rw [Lib.count_hit (by simp) hix',Nat.add_comm,Lib.replaceK_hit _ _ _ _ (i+1) hix']
    rw [←ih]
    simp only [List.length_singleton,List.take_succ_cons,List.drop_succ_cons,List.cons_append,List.singleton_append,List.nil_append]
theorem qLg (s:List UInt8):Lib.replaceAll s [34] [34,34]=qAZ s:=by
 have h1:(([34]:List UInt8)== [34,34])=false:=by decide
 have h2:Lib.replaceNum s [34] (-1)=Lib.count s [34]:=by unfold Lib.replaceNum;rw [if_pos (.inl (by decide))]
 unfold Lib.replaceAll Lib.replace
 rw [h1,h2]
 exact qJV s
theorem qRB {s:ByteArray} {i:Nat} {c:UInt8} (h:s.toList[i]?=some c):s.extract i (i+1)=⟨#[c]⟩:=by
 apply qGH
 rw [Go.Lib.toList_data] at h
 rw [ByteArray.data_extract,Array.toList_extract]
 show (s.data.toList.drop i).take (i+1-i)=_
 rw [qEj h,Nat.add_sub_cancel_left]
 rfl
theorem qPQ (n:Nat) (s A:ByteArray) (i:Nat) (c:UInt8) (hg:s.toList[i]?=some c) (hi:i<s.size) (hA:A.size≤10000) (hs:s.size≤1000):
  (qBS n (s,A,(i:Int))).run=some (.inl (s,if c=34 then (A++⟨#[34]⟩)++⟨#[c]⟩ else A++⟨#[c]⟩,((i+1:Nat):Int))):=by
 have hi':(i:Int)<s.size:=by omega
 have w1:IntKind.i64.wrap ((i:Int)+1)=((i+1:Nat):Int):=by rw [qb (by omega)];omega
 have hx:=qRB hg
 have d1:(⟨#[34]⟩:ByteArray).size=1:=rfl
 have d2:(⟨#[c]⟩:ByteArray).size=1:=rfl
 have y1:(0:Int)≤(i:Int)∧(i:Int)≤((i+1:Nat):Int)∧((i+1:Nat):Int)≤s.size:=by omega
 have y0:(0:Int)≤(i:Int):=by omega
 have z1:A.size+(⟨#[34]⟩:ByteArray).size≤9223372036854775807:=by omega
 have z2:(A++(⟨#[34]⟩:ByteArray)).size+(⟨#[c]⟩:ByteArray).size≤9223372036854775807:=by rw [ByteArray.size_append];omega
 have z3:A.size+(⟨#[c]⟩:ByteArray).size≤9223372036854775807:=by omega
 by_cases hc:c=34
 ·have hb:((c.toNat:Int)==(34:Int))=true:=by rw [hc];rfl
  rw [if_pos hc]
  simp only [qBS,qC,qD,qF,qG,qH,qJ,Option.bind_some,qE,qK,qM,decide_eq_true hi',decide_eq_true y0,Int.toNat_natCast,hg,hb,decide_eq_true z1,w1,decide_eq_true y1,hx,decide_eq_true z2,if_true]
 ·have hb:((c.toNat:Int)==(34:Int))=false:=by
   have:c.toNat≠34:=fun e=>hc (UInt8.toNat_inj.1 e)
   simp
   omega
  simp only [qBS,qC,qD,qF,qG,qH,qJ,Option.bind_some,qE,qK,qM,decide_eq_true hi',decide_eq_true y0,Int.toNat_natCast,hg,hb,w1,decide_eq_true y1,hx,decide_eq_true z3,if_true,hc,if_false,Bool.false_eq_true]
theorem qM7 (n:Nat) (s:ByteArray) (hs:s.size≤1000):∀(r pre:List UInt8) (M:Nat),s.toList=pre++r→r.length+1≤M→
  zD (qBS n) M (s,⟨(34::qAZ pre).toArray⟩,(pre.length:Int))=some ⟨(34::qAZ s.toList).toArray⟩
 |r,pre,0,h1,h2=>by omega
 | [],pre,M+1,h1,h2=>by
  have hi:¬(pre.length:Int)<s.size:=by rw [qBn,h1];simp
  rw [h1,List.append_nil]
  generalize (⟨(34::qAZ pre).toArray⟩:ByteArray)=A
  rw [qP (r:=A) (by simp [qBS,qC,qD,qF,qG,qH,qJ,Option.bind_some,qE,qK,qM,hi])]
 |c::r,pre,M+1,h1,h2=>by
  have hl:s.size=pre.length+(r.length+1):=by rw [qBn,h1];simp
  have hg:s.toList[pre.length]?=some c:=by rw [h1];simp
  have hq:=qG9 pre
  have hA:(⟨(34::qAZ pre).toArray⟩:ByteArray).size≤10000:=by
   rw [qCg]
   simp
   omega
  rw [qc (qPQ n s _ pre.length c hg (by omega) hA hs)]
  have e:(if c=34 then ((⟨(34::qAZ pre).toArray⟩:ByteArray)++⟨#[34]⟩)++⟨#[c]⟩ else (⟨(34::qAZ pre).toArray⟩:ByteArray)++⟨#[c]⟩)=⟨(34::qAZ (pre++ [c])).toArray⟩:=by
   apply qGH
   by_cases hc:c=34
   ·rw [if_pos hc,qC2,qC2,qNu,qD0,if_pos hc,hc]
    simp [qAZ]
   ·rw [if_neg hc,qC2,qNu,qD0,if_neg hc]
    simp [qAZ]
  rw [e]
  have h:=qM7 n s hs r (pre++ [c]) M (by rw [h1];simp) (by simp at h2;omega)
  rw [show ((pre++ [c]).length:Int)=((pre.length+1:Nat):Int) by simp] at h
  exact h
theorem qPR (s:ByteArray):(qDM s).size≤2*s.size+2:=by
 have:=qG9 s.toList
 rw [qAl] at this
 rw [qCg]
 simp [qDM]
 omega
theorem qMR (s:ByteArray) (hs:s.size≤1000):Ev (qEM · s) (qDM s):=by
 refine ⟨s.size+5,fun n hn=>?_⟩
 obtain ⟨m,rfl,hm⟩:=up1 hn
 have h:=qM7 m s hs s.toList [] m rfl (by rw [qAl];omega)
 simp only [List.length_nil,Int.natCast_zero] at h
 have e0:(⟨(34::qAZ []).toArray⟩:ByteArray)=⟨#[34]⟩:=rfl
 rw [e0] at h
 have hz:(⟨(34::qAZ s.toList).toArray⟩:ByteArray).size+(⟨#[34]⟩:ByteArray).size≤9223372036854775807:=by
  have:=qG9 s.toList
  rw [qAl] at this
  have d1:(⟨#[34]⟩:ByteArray).size=1:=rfl
  rw [qCg,d1]
  simp
  omega
 simp only [qEM,qFv,qC,qD,qF,qG,qH,qJ,Option.bind_some,qE,qK,qM,h,decide_eq_true hz,if_true]
 congr 1
theorem qNe (s:ByteArray) (hs:s.size≤1000):Ev (qDF · s ⟨#[34]⟩ ⟨#[34,34]⟩) ⟨(qAZ s.toList).toArray⟩:=by
 refine ⟨1,fun n hn=>?_⟩
 obtain ⟨m,rfl,hm⟩:=up1 (n0:=0) hn
 show zY s ⟨#[34]⟩ ⟨#[34,34]⟩=_
 have hc:=Lib.countB_mul_le (⟨#[34]⟩:ByteArray) (by decide) s.size s (Nat.le_refl _)
 have d1:(⟨#[34]⟩:ByteArray).size=1:=rfl
 have d2:(⟨#[34,34]⟩:ByteArray).size=2:=rfl
 unfold zY
 rw [d1] at hc
 rw [if_pos (by rw [d1,d2];omega)]
 congr 3
 rw [←Go.Lib.toList_data]
 exact qLg _
def lvl (op:Int):Int:=if op≥6 then 1 else if op=5 then 2 else if op≥3 then 4 else 3
theorem qPS (op:Int):1≤lvl op∧lvl op≤4:=by
 unfold lvl
 split
 ·omega
 ·split
  ·omega
  ·split<;>omega
theorem qHz (op:Int):Ev (qB7 · op) (lvl op):=by
 refine ⟨1,fun n hn=>?_⟩
 obtain ⟨m,rfl,hm⟩:=up1 hn
 simp only [qB7,qFc,qC,qD,qF,qG,qH,qJ,Option.bind_some,qE,qK,qM]
 unfold lvl
 by_cases h1:op≥6
 ·simp [h1]
 ·by_cases h2:op=5
  ·simp [h2]
  ·by_cases h3:op≥3<;>simp [h1,h2,h3]
theorem qRC {op:Int} (h:1≤op∧op≤11):op=1∨op=2∨op=3∨op=4∨op=5∨op=6∨op=7∨op=8∨op=9∨op=10∨op=11:=by omega
theorem qJW (op:Int) (h:1≤op∧op≤11):Ev (qDV · op) (lvl op):=by
 refine ⟨1,fun n hn=>?_⟩
 obtain ⟨m,rfl,hm⟩:=up1 hn
 simp only [qDV,qHM,qC,qD,qF,qG,qH,qJ,Option.bind_some,qE,qK,qM]
 rcases qRC h with rfl|rfl|rfl|rfl|rfl|rfl|rfl|rfl|rfl|rfl|rfl<;>rfl
def qj (op:Int):ByteArray:=if op=1 then ⟨#[43]⟩ else if op=2 then ⟨#[45]⟩ else if op=3 then ⟨#[42]⟩ else if op=4 then ⟨#[47]⟩ else if op=5 then ⟨#[38]⟩ else if op=6 then ⟨#[61]⟩ else if op=7 then ⟨#[60,62]⟩ else if op=8 then ⟨#[60]⟩ else if op=9 then ⟨#[60,61]⟩ else if op=10 then ⟨#[62]⟩ else ⟨#[62,61]⟩
def fnS (op:Int):ByteArray:=if op=1 then ⟨#[83,85,77]⟩ else if op=2 then ⟨#[77,73,78]⟩ else if op=3 then ⟨#[77,65,88]⟩ else if op=4 then ⟨#[67,79,85,78,84]⟩ else if op=5 then ⟨#[73,70]⟩ else if op=6 then ⟨#[65,78,68]⟩ else if op=7 then ⟨#[79,82]⟩ else if op=8 then ⟨#[78,79,84]⟩ else if op=9 then ⟨#[65,66,83]⟩ else ⟨#[76,69,78]⟩
theorem qHa {op:Int} (h:1≤op∧op≤11):(qj op).size≤2:=by
 rcases qRC h with rfl|rfl|rfl|rfl|rfl|rfl|rfl|rfl|rfl|rfl|rfl<;>decide
theorem qM8 {op:Int} (h:1≤op∧op≤10):(fnS op).size≤5:=by
 rcases ten h with rfl|rfl|rfl|rfl|rfl|rfl|rfl|rfl|rfl|rfl<;>decide
theorem qFz (op:Int) (h:1≤op∧op≤11):Ev (qBz · op) (qj op):=by
 refine ⟨1,fun n hn=>?_⟩
 obtain ⟨m,rfl,hm⟩:=up1 hn
 simp only [qBz,qGO,qC,qD,qF,qG,qH,qJ,Option.bind_some,qE,qK,qM]
 rcases qRC h with rfl|rfl|rfl|rfl|rfl|rfl|rfl|rfl|rfl|rfl|rfl<;>rfl
theorem qF0 (op:Int) (h:1≤op∧op≤11):Ev (qBN · op) (qj op):=by
 refine ⟨1,fun n hn=>?_⟩
 obtain ⟨m,rfl,hm⟩:=up1 hn
 simp only [qBN,qGa,qC,qD,qF,qG,qH,qJ,Option.bind_some,qE,qK,qM]
 rcases qRC h with rfl|rfl|rfl|rfl|rfl|rfl|rfl|rfl|rfl|rfl|rfl<;>rfl
theorem qKl (op:Int) (h:1≤op∧op≤10):Ev (qCM · op) (fnS op):=by
 refine ⟨1,fun n hn=>?_⟩
 obtain ⟨m,rfl,hm⟩:=up1 hn
 simp only [qCM,qIE,qC,qD,qF,qG,qH,qJ,Option.bind_some,qE,qK,qM]
 rcases ten h with rfl|rfl|rfl|rfl|rfl|rfl|rfl|rfl|rfl|rfl<;>rfl
theorem qId (op:Int) (h:1≤op∧op≤10):Ev (qB0 · op) (fnS op):=by
 refine ⟨1,fun n hn=>?_⟩
 obtain ⟨m,rfl,hm⟩:=up1 hn
 simp only [qB0,qGb,qC,qD,qF,qG,qH,qJ,Option.bind_some,qE,qK,qM]
 rcases ten h with rfl|rfl|rfl|rfl|rfl|rfl|rfl|rfl|rfl|rfl<;>rfl
def qIe (xs:List ByteArray):ByteArray:=⟨(Lib.join (xs.map (·.data.toList)) [44]).toArray⟩
def par (b:Bool) (s:ByteArray):ByteArray:=if b=true then ((⟨#[40]⟩:ByteArray)++s)++⟨#[41]⟩ else s
def kid (c:Nd) (j:Nat):Int:=(kd c).getD j 0
def qk (l:List Nd):Nat→Int→Int→ByteArray
 |0,_,_=>⟨#[]⟩
 |f+1,i,t=>
  if (ndi l i).1=1 then (if (ndi l i).2.2.1=2 then qDM (ndi l i).2.2.2.2.1 else qAA (ndi l i).2.2.1 (ndi l i).2.2.2.1 (ndi l i).2.2.2.2.1)
  else if (ndi l i).1=2 then qAO (ndi l i).2.2.2.2.2.1 (ndi l i).2.2.2.2.2.2.1 (ndi l i).2.2.2.2.2.2.2.1 (ndi l i).2.2.2.2.2.2.2.2.1
  else if (ndi l i).1=3 then (qAO (ndi l i).2.2.2.2.2.1 (ndi l i).2.2.2.2.2.2.1 (ndi l i).2.2.2.2.2.2.2.1 (ndi l i).2.2.2.2.2.2.2.2.1++⟨#[58]⟩)++qAO (ndi l i).2.2.2.2.2.2.2.2.2.1 (ndi l i).2.2.2.2.2.2.2.2.2.2.1 (ndi l i).2.2.2.2.2.2.2.2.2.2.2.1 (ndi l i).2.2.2.2.2.2.2.2.2.2.2.2.1
  else if (ndi l i).1=4 then (⟨#[45]⟩:ByteArray)++qk l f (kid (ndi l i) 0) 5
  else if (ndi l i).1=5 then par (decide (lvl (ndi l i).2.1<t)) ((qk l f (kid (ndi l i) 0) (lvl (ndi l i).2.1)++qj (ndi l i).2.1)++qk l f (kid (ndi l i) 1) (lvl (ndi l i).2.1+1))
  else ((fnS (ndi l i).2.1++⟨#[40]⟩)++qIe ((qR l i).map fun k=>qk l f k 1))++⟨#[41]⟩
theorem qPs (l:List Nd) (f:Nat) (i:Int):qk l f i 0=qk l f i 1:=by
 cases f with
 |zero=>rfl
 |succ f=>
  have h:=qPS (ndi l i).2.1
  have e:decide (lvl (ndi l i).2.1<0)=decide (lvl (ndi l i).2.1<1):=by
   rw [decide_eq_false (by omega),decide_eq_false (by omega)]
  simp only [qk,e]
theorem qE3 {c:Nd} (h:qB2 c=true):(c.1=1∧okV c.2.2.1 c.2.2.2.1 c.2.2.2.2.1=true)∨c.1=2∨c.1=3∨(c.1=4∧(kd c).length=1)∨(c.1=5∧(1≤c.2.1∧c.2.1≤11)∧(kd c).length=2)∨(c.1=6∧(1≤c.2.1∧c.2.1≤10)∧(1≤(kd c).length∧(kd c).length≤10)):=by
 unfold qB2 at h
 by_cases k1:c.1=1
 ·rw [if_pos k1] at h
  simp only [Bool.and_eq_true] at h
  exact .inl ⟨k1,h.2.2.2.2.1⟩
 rw [if_neg k1] at h
 by_cases k2:c.1=2
 ·exact .inr (.inl k2)
 rw [if_neg k2] at h
 by_cases k3:c.1=3
 ·exact .inr (.inr (.inl k3))
 rw [if_neg k3] at h
 by_cases k4:c.1=4
 ·rw [if_pos k4] at h
  simp only [Bool.and_eq_true,decide_eq_true_eq] at h
  exact .inr (.inr (.inr (.inl ⟨k4,h.2.2.2.2⟩)))
 rw [if_neg k4] at h
 by_cases k5:c.1=5
 ·rw [if_pos k5] at h
  simp only [Bool.and_eq_true,decide_eq_true_eq] at h
  exact .inr (.inr (.inr (.inr (.inl ⟨k5,h.1,h.2.2.2.2⟩))))
 rw [if_neg k5] at h
 by_cases k6:c.1=6
 ·rw [if_pos k6] at h
  simp only [Bool.and_eq_true] at h
  have ha:=h.1
  unfold qFL at ha
  refine .inr (.inr (.inr (.inr (.inr ⟨k6,?_⟩))))
  by_cases h5:c.2.1=5
  ·rw [if_pos h5] at ha
   have:=of_decide_eq_true ha
   omega
  ·rw [if_neg h5] at ha
   by_cases h8:8≤c.2.1∧c.2.1≤10
   ·rw [if_pos h8] at ha
    have:=of_decide_eq_true ha
    omega
   ·rw [if_neg h8] at ha
    by_cases h1:1≤c.2.1∧c.2.1≤7
    ·rw [if_pos h1] at ha
     have:=of_decide_eq_true ha
     omega
    ·rw [if_neg h1] at ha
     cases ha
 ·rw [if_neg k6] at h
  cases h
def szB:Nat→Nat
 |0=>37
 |f+1=>11*szB f
theorem qRD:∀f:Fin 13,szB f.val≤120000000000000:=by decide
theorem qQe {f:Nat} (h:f≤12):szB f≤120000000000000:=qRD ⟨f,by omega⟩
theorem qQf:∀f:Nat,37≤szB f
 |0=>Nat.le_refl _
 |f+1=>by have:=qQf f;simp only [szB];omega
theorem qJX (x:List UInt8) (r:List (List UInt8)) (sep:List UInt8):Lib.joinTail sep (x::r)=sep++x++Lib.joinTail sep r:=by simp [Lib.joinTail]
theorem qKm:∀(xs:List ByteArray) (b:Nat),(∀x∈xs,x.size≤b)→(Lib.joinTail [44] (xs.map (·.data.toList))).length≤xs.length*(b+1)
 | [],b,h=>by simp [Lib.joinTail]
 |x::r,b,h=>by
  have ih:=qKm r b fun y hy=>h y (List.mem_cons_of_mem _ hy)
  have hx:=h x (List.mem_cons_self ..)
  rw [qCg] at hx
  rw [List.map_cons,qJX,List.length_append,List.length_append,List.length_singleton,List.length_cons,Nat.add_mul]
  omega
theorem qJ3 {xs:List ByteArray} {b:Nat} (h:∀x∈xs,x.size≤b):(qIe xs).size≤xs.length*(b+1):=by
 rw [qCg]
 show (Lib.join (xs.map (·.data.toList)) [44]).length≤_
 cases xs with
 |nil=>simp [Lib.join_nil]
 |cons x r=>
  have h1:=qKm r b fun y hy=>h y (List.mem_cons_of_mem _ hy)
  have hx:=h x (List.mem_cons_self ..)
  rw [qCg] at hx
  rw [List.map_cons,Lib.join_cons,List.length_append,List.length_cons,Nat.add_mul]
  omega
structure Fine (l:List Nd):Prop where
 len:l.length≤60
 own:∀i:Int,0≤i→i<l.length→qFS l i=true∧qFy (qA9 l) (qBo l) (qR l) i
 sz:∀c∈l,(kd c).length≤140737488351232∧c.2.2.2.2.1.size≤140737488351232
theorem Fine.kid {l:List Nd} (h:Fine l) {f:Nat} {i k:Int} (hi:0≤i∧i<l.length) (hd:qAy (qR l) (i.toNat+1) i≤(f+1:Nat)) (hk:k∈qR l i):(0≤k∧k<l.length)∧qAy (qR l) (k.toNat+1) k≤f:=by
 have hin:=(h.own i hi.1 hi.2).2 k hk
 have h1:=(qM5 (qR l) (n:=i) (b:=((f+1:Nat):Int)) (f:=i.toNat) (by omega)).1 hd k hk
 refine ⟨by omega,?_⟩
 rw [qM6 (qA9 l) (qBo l) (qR l) (k.toNat+1) i.toNat k (by omega) (by omega) (fun j j0 j1=>(h.own j j0 (by omega)).2) (by omega)]
 omega
theorem qLh {l:List Nd} (h:Fine l):∀(f:Nat) (i t:Int),f≤12→(0≤i∧i<l.length)→qAy (qR l) (i.toNat+1) i≤f→(qk l f i t).size≤szB f
 |0,i,t,hf,hi,hd=>by show (⟨#[]⟩:ByteArray).size≤_;exact Nat.zero_le _
 |f+1,i,t,hf,hi,hd=>by
  have ih:=fun k hk t'=>qLh h f k t' (by omega) (h.kid hi hd hk).1 (h.kid hi hd hk).2
  have hs:=qQf f
  have hp:∀a b c d,(qAO a b c d).size≤30:=qD4
  have hz:=(h.sz _ (qHZ hi)).2
  have d1:(⟨#[58]⟩:ByteArray).size=1:=rfl
  have d2:(⟨#[45]⟩:ByteArray).size=1:=rfl
  have d3:(⟨#[40]⟩:ByteArray).size=1:=rfl
  have d4:(⟨#[41]⟩:ByteArray).size=1:=rfl
  have hk0:∀j,j<(kd (ndi l i)).length→kid (ndi l i) j∈qR l i:=fun j hj=>by
   unfold kid
   rw [List.getD_eq_getElem?_getD,List.getElem?_eq_getElem hj]
   exact List.getElem_mem hj
  rw [szB,qk]
  rcases qE3 (h.own i hi.1 hi.2).1 with ⟨k,hv⟩|k|k|⟨k,hk⟩|⟨k,ho,hk⟩|⟨k,ho,hk⟩
  ·rw [if_pos k]
   by_cases k2:(ndi l i).2.2.1=2
   ·rw [if_pos k2]
    rw [k2] at hv
    have:=(qKX hv).2.1
    have:=qPR (ndi l i).2.2.2.2.1
    omega
   ·rw [if_neg k2]
    have:=qPO hv
    omega
  ·rw [if_neg (by omega),if_pos k]
   have:=hp (ndi l i).2.2.2.2.2.1 (ndi l i).2.2.2.2.2.2.1 (ndi l i).2.2.2.2.2.2.2.1 (ndi l i).2.2.2.2.2.2.2.2.1
   omega
  ·rw [if_neg (by omega),if_neg (by omega),if_pos k,ByteArray.size_append,ByteArray.size_append]
   have h1:=hp (ndi l i).2.2.2.2.2.1 (ndi l i).2.2.2.2.2.2.1 (ndi l i).2.2.2.2.2.2.2.1 (ndi l i).2.2.2.2.2.2.2.2.1
   have h2:=hp (ndi l i).2.2.2.2.2.2.2.2.2.1 (ndi l i).2.2.2.2.2.2.2.2.2.2.1 (ndi l i).2.2.2.2.2.2.2.2.2.2.2.1 (ndi l i).2.2.2.2.2.2.2.2.2.2.2.2.1
   omega
  ·rw [if_neg (by omega),if_neg (by omega),if_neg (by omega),if_pos k,ByteArray.size_append]
   have:=ih _ (hk0 0 (by omega)) 5
   omega
  ·rw [if_neg (by omega),if_neg (by omega),if_neg (by omega),if_neg (by omega),if_pos k]
   have h1:=ih _ (hk0 0 (by omega)) (lvl (ndi l i).2.1)
   have h2:=ih _ (hk0 1 (by omega)) (lvl (ndi l i).2.1+1)
   have h3:=qHa ho
   unfold par
   split
   ·rw [ByteArray.size_append,ByteArray.size_append,ByteArray.size_append,ByteArray.size_append]
    omega
   ·rw [ByteArray.size_append,ByteArray.size_append]
    omega
  ·rw [if_neg (by omega),if_neg (by omega),if_neg (by omega),if_neg (by omega),if_neg (by omega)]
   rw [ByteArray.size_append,ByteArray.size_append,ByteArray.size_append]
   have h1:=qM8 ho
   have h2:=qJ3 (xs:=(qR l i).map fun k=>qk l f k 1) (b:=szB f) (fun x hx=>by
    obtain ⟨k,hk,rfl⟩:=List.mem_map.1 hx
    exact ih k hk 1)
   have h3:(qR l i).length≤10:=hk.2
   have h4:(qR l i).length*(szB f+1)≤10*(szB f+1):=Nat.mul_le_mul_right _ h3
   rw [List.length_map] at h2
   omega
abbrev R14:=Int×Int×Int×Int×ByteArray×Int×Int×Bool×Bool×Int×Int×Bool×Bool×List (List PV)
theorem qM9 (rec:List (List PV)→Int→Int→Option ByteArray) (n:Nat) (rows:List (List PV)) (A t:ByteArray) (R:R14) (i:Nat) (k:Int) (hg:R.2.2.2.2.2.2.2.2.2.2.2.2.2[i]?=some (qAs k)) (hr:rec rows k 0=some t) (hA:A.size≤2000000000000000) (ht:t.size≤120000000000000) (hi:i≤1000):
  (qBT rec n (rows,A,(i:Int),R)).run=some (.inl (rows,(if i=0 then A++t else (A++(⟨#[44]⟩:ByteArray))++t),((i+1:Nat):Int),R)):=by
 obtain ⟨a0,a1,a2,a3,a4,a5,a6,a7,a8,a9,a10,a11,a12,a13⟩:=R
 have hl:i<a13.length:=(List.getElem?_eq_some_iff.1 hg).1
 have h1:(i:Int)<(a13.length:Int):=by omega
 have h2:0≤(i:Int)∧(i:Int)<(a13.length:Int):=by omega
 have w1:IntKind.i64.wrap ((i:Int)+1)=((i+1:Nat):Int):=by rw [qb (by omega)];omega
 have d1:(⟨#[44]⟩:ByteArray).size=1:=rfl
 have z1:A.size+(⟨#[44]⟩:ByteArray).size≤9223372036854775807:=by omega
 have z2:(A++(⟨#[44]⟩:ByteArray)).size+t.size≤9223372036854775807:=by rw [ByteArray.size_append];omega
 have z3:A.size+t.size≤9223372036854775807:=by omega
 by_cases h0:i=0
 ·subst h0
  simp only [qBT,qC,qD,qF,qG,qH,qJ,Option.bind_some,qE,qK,qM,decide_eq_true h1,Int.natCast_zero,gt_iff_lt,Int.lt_irrefl,decide_false,Bool.false_eq_true,if_false,if_true] at*
  simp only [decide_eq_true h1,decide_eq_true h2,if_true,Int.toNat_zero,hg,Option.bind_some,qBE,qAm,decide_true,hr,decide_eq_true z3,w1]
 ·have hp:(i:Int)>0:=by omega
  simp only [qBT,qC,qD,qF,qG,qH,qJ,Option.bind_some,qE,qK,qM,decide_eq_true h1,decide_eq_true hp,if_true,decide_eq_true z1,decide_eq_true h2,Int.toNat_natCast,hg,qBE,qAm,decide_true,hr,decide_eq_true z2,w1,h0,if_false]
theorem qNv (l:List Nd) (f n:Nat) (R:R14) (b:Nat) (hb:b≤120000000000000) (ks:List Int) (hks:R.2.2.2.2.2.2.2.2.2.2.2.2.2=ks.map qAs) (hk10:ks.length≤10)
  (hr:∀k∈ks,ql n (l.map qV) k 0=some (qk l f k 1)∧(qk l f k 1).size≤b):
  ∀(r pre:List Int) (A:ByteArray) (M:Nat),ks=pre++r→r.length+1≤M→A.size≤100+pre.length*(b+1)→
   zD (qBT (ql n) n) M (l.map qV,A,(pre.length:Int),R)=some ⟨(A.data.toList++(if pre.length=0 then Lib.join (r.map fun k=>(qk l f k 1).data.toList) [44] else Lib.joinTail [44] (r.map fun k=>(qk l f k 1).data.toList))).toArray⟩
 |r,pre,A,0,h1,h2,h3=>by omega
 | [],pre,A,M+1,h1,h2,h3=>by
  obtain ⟨a0,a1,a2,a3,a4,a5,a6,a7,a8,a9,a10,a11,a12,a13⟩:=R
  simp only at hks
  subst hks
  have hi:¬(pre.length:Int)<((ks.map qAs).length:Int):=by rw [List.length_map,h1];simp
  rw [qP (r:=A) (by simp only [qBT,qC,qD,qF,qG,qH,qJ,Option.bind_some,qE,qK,qM,decide_eq_false hi,Bool.false_eq_true,if_false])]
  congr 1
  apply qGH
  simp [Lib.joinTail,Lib.join_nil]
 |k::r,pre,A,M+1,h1,h2,h3=>by
  have hm:k∈ks:=by rw [h1];simp
  obtain ⟨g1,g2⟩:=hr k hm
  have hpl:pre.length+(r.length+1)=ks.length:=by rw [h1];simp
  have hmul:pre.length*(b+1)≤10*(b+1):=Nat.mul_le_mul_right _ (by omega)
  have hg:R.2.2.2.2.2.2.2.2.2.2.2.2.2[pre.length]?=some (qAs k):=by rw [hks,h1,List.getElem?_map];simp
  rw [qc (qM9 (ql n) n (l.map qV) A (qk l f k 1) R pre.length k hg g1 (by omega) (by omega) (by omega))]
  have h:=qNv l f n R b hb ks hks hk10 hr r (pre++ [k]) (if pre.length=0 then A++qk l f k 1 else (A++(⟨#[44]⟩:ByteArray))++qk l f k 1) M (by rw [h1];simp) (by simp at h2;omega) (by
   have d1:(⟨#[44]⟩:ByteArray).size=1:=rfl
   rw [List.length_append,List.length_singleton,Nat.add_mul]
   split
   ·rw [ByteArray.size_append];omega
   ·rw [ByteArray.size_append,ByteArray.size_append];omega)
  rw [show ((pre++ [k]).length:Int)=((pre.length+1:Nat):Int) by simp] at h
  rw [h]
  congr 1
  apply qGH
  have e:(pre++ [k]).length≠0:=by simp
  simp only [if_neg e]
  by_cases h0:pre.length=0
  ·simp only [if_pos h0,qC2,List.map_cons,Lib.join_cons,List.append_assoc]
  ·simp only [if_neg h0,qC2,List.map_cons,qJX,List.append_assoc,List.cons_append,List.nil_append]
set_option maxHeartbeats 4000000 in
theorem qJI {l:List Nd} (h:Fine l) (f:Nat) (i t:Int) (hf:f+1≤12) (hx:0≤i∧i<l.length) (hd:qAy (qR l) (i.toNat+1) i≤(f+1:Nat)) (ih:∀k∈qR l i,∀t',Ev (ql · (l.map qV) k t') (qk l f k t')):Ev (ql · (l.map qV) i t) (qk l (f+1) i t):=by
  have ih:=fun k hk t'=>ih k hk t'
  have isz:=fun k hk t'=>qLh h f k t' (by omega) (h.kid hx hd hk).1 (h.kid hx hd hk).2
  have hs:=qQe (f:=f) (by omega)
  have hcr:(l.map qV)[i.toNat]?=some (qV (ndi l i)):=by rw [List.getElem?_map,qCY hx];rfl
  have hxb:0≤i∧i<((l.map qV).length:Int):=by rw [List.length_map];exact hx
  have hz:=(h.sz _ (qHZ hx)).2
  have hp:∀a b c d,(qAO a b c d).size≤30:=qD4
  have d1:(⟨#[58]⟩:ByteArray).size=1:=rfl
  have d2:(⟨#[45]⟩:ByteArray).size=1:=rfl
  have d3:(⟨#[40]⟩:ByteArray).size=1:=rfl
  have d4:(⟨#[41]⟩:ByteArray).size=1:=rfl
  have hk0:∀j,j<(kd (ndi l i)).length→kid (ndi l i) j∈qR l i∧(List.map qAs (ndi l i).2.2.2.2.2.2.2.2.2.2.2.2.2)[j]?=some (qAs (kid (ndi l i) j)):=fun j hj=>by
   unfold kid
   rw [List.getD_eq_getElem?_getD,List.getElem?_eq_getElem hj]
   refine ⟨List.getElem_mem hj,?_⟩
   rw [List.getElem?_map]
   show ((kd (ndi l i))[j]?).map qAs=_
   rw [List.getElem?_eq_getElem hj]
   rfl
  have hkl:(List.map qAs (ndi l i).2.2.2.2.2.2.2.2.2.2.2.2.2).length=(kd (ndi l i)).length:=by rw [List.length_map];rfl
  rcases qE3 (h.own i hx.1 hx.2).1 with ⟨k,hv⟩|k|k|⟨k,hk⟩|⟨k,ho,hk⟩|⟨k,ho,hk⟩
  ·by_cases k2:(ndi l i).2.2.1=2
   ·have hv2:okV 2 (ndi l i).2.2.2.1 (ndi l i).2.2.2.2.1=true:=by rw [←k2];exact hv
    obtain ⟨n1,g1⟩:=qMR (ndi l i).2.2.2.2.1 (by have:=(qKX hv2).2.1;omega)
    refine ⟨n1+1,fun n hn=>?_⟩
    obtain ⟨m,rfl,hm⟩:=up1 hn
    have g1:=g1 m (by omega)
    dsimp only at g1⊢
    show (qBj (ql m) m (l.map qV) i t).run=_
    refine qN (decide_eq_true hxb) (qA hcr (qN rfl (qA (qAP _) (qA (qAQ _) (qA (qAR _) (qA (qAS _) (qA (qAT _) (qA (qAU _) (qA (qAV _) (qA (qAW _) (qA (qAX _) (qA (qAY _) (qA (qu _) (qA (qv _) (qA (qw _) (qA (qx _) ?_))))))))))))))))
    refine qN (by rw [k];rfl) (qN (by rw [k2];rfl) (qA g1 ?_))
    rw [qC,qk,if_pos k,if_pos k2]
   ·obtain ⟨n1,g1⟩:=qKa (ndi l i).2.2.1 (ndi l i).2.2.2.1 (ndi l i).2.2.2.2.1 hz
    have kb:((ndi l i).2.2.1==(2:Int))=false:=by simpa using k2
    refine ⟨n1+1,fun n hn=>?_⟩
    obtain ⟨m,rfl,hm⟩:=up1 hn
    have g1:=g1 m (by omega)
    rw [hv] at g1
    dsimp only at g1⊢
    simp only [if_true] at g1
    show (qBj (ql m) m (l.map qV) i t).run=_
    refine qN (decide_eq_true hxb) (qA hcr (qN rfl (qA (qAP _) (qA (qAQ _) (qA (qAR _) (qA (qAS _) (qA (qAT _) (qA (qAU _) (qA (qAV _) (qA (qAW _) (qA (qAX _) (qA (qAY _) (qA (qu _) (qA (qv _) (qA (qw _) (qA (qx _) ?_))))))))))))))))
    refine qN (by rw [k];rfl) (qO kb (qA g1 ?_))
    rw [qC,qk,if_pos k,if_neg k2]
  ·obtain ⟨n1,g1⟩:=qBq (ndi l i).2.2.2.2.2.1 (ndi l i).2.2.2.2.2.2.1 (ndi l i).2.2.2.2.2.2.2.1 (ndi l i).2.2.2.2.2.2.2.2.1
   refine ⟨n1+1,fun n hn=>?_⟩
   obtain ⟨m,rfl,hm⟩:=up1 hn
   have g1:=g1 m (by omega)
   dsimp only at g1⊢
   show (qBj (ql m) m (l.map qV) i t).run=_
   refine qN (decide_eq_true hxb) (qA hcr (qN rfl (qA (qAP _) (qA (qAQ _) (qA (qAR _) (qA (qAS _) (qA (qAT _) (qA (qAU _) (qA (qAV _) (qA (qAW _) (qA (qAX _) (qA (qAY _) (qA (qu _) (qA (qv _) (qA (qw _) (qA (qx _) ?_))))))))))))))))
   refine qO (by rw [k];rfl) (qN (by rw [k];rfl) (qA g1 ?_))
   rw [qC,qk,if_neg (by omega),if_pos k]
  ·obtain ⟨n1,g1⟩:=qBq (ndi l i).2.2.2.2.2.1 (ndi l i).2.2.2.2.2.2.1 (ndi l i).2.2.2.2.2.2.2.1 (ndi l i).2.2.2.2.2.2.2.2.1
   obtain ⟨n2,g2⟩:=qBq (ndi l i).2.2.2.2.2.2.2.2.2.1 (ndi l i).2.2.2.2.2.2.2.2.2.2.1 (ndi l i).2.2.2.2.2.2.2.2.2.2.2.1 (ndi l i).2.2.2.2.2.2.2.2.2.2.2.2.1
   have h1:=hp (ndi l i).2.2.2.2.2.1 (ndi l i).2.2.2.2.2.2.1 (ndi l i).2.2.2.2.2.2.2.1 (ndi l i).2.2.2.2.2.2.2.2.1
   have h2:=hp (ndi l i).2.2.2.2.2.2.2.2.2.1 (ndi l i).2.2.2.2.2.2.2.2.2.2.1 (ndi l i).2.2.2.2.2.2.2.2.2.2.2.1 (ndi l i).2.2.2.2.2.2.2.2.2.2.2.2.1
   have z1:(qAO (ndi l i).2.2.2.2.2.1 (ndi l i).2.2.2.2.2.2.1 (ndi l i).2.2.2.2.2.2.2.1 (ndi l i).2.2.2.2.2.2.2.2.1).size+(⟨#[58]⟩:ByteArray).size≤9223372036854775807:=by omega
   have z2:(qAO (ndi l i).2.2.2.2.2.1 (ndi l i).2.2.2.2.2.2.1 (ndi l i).2.2.2.2.2.2.2.1 (ndi l i).2.2.2.2.2.2.2.2.1++(⟨#[58]⟩:ByteArray)).size+(qAO (ndi l i).2.2.2.2.2.2.2.2.2.1 (ndi l i).2.2.2.2.2.2.2.2.2.2.1 (ndi l i).2.2.2.2.2.2.2.2.2.2.2.1 (ndi l i).2.2.2.2.2.2.2.2.2.2.2.2.1).size≤9223372036854775807:=by rw [ByteArray.size_append];omega
   refine ⟨n1+n2+1,fun n hn=>?_⟩
   obtain ⟨m,rfl,hm⟩:=up1 hn
   have g1:=g1 m (by omega)
   have g2:=g2 m (by omega)
   dsimp only at g1 g2⊢
   show (qBj (ql m) m (l.map qV) i t).run=_
   refine qN (decide_eq_true hxb) (qA hcr (qN rfl (qA (qAP _) (qA (qAQ _) (qA (qAR _) (qA (qAS _) (qA (qAT _) (qA (qAU _) (qA (qAV _) (qA (qAW _) (qA (qAX _) (qA (qAY _) (qA (qu _) (qA (qv _) (qA (qw _) (qA (qx _) ?_))))))))))))))))
   refine qO (by rw [k];rfl) (qO (by rw [k];rfl) (qN (by rw [k];rfl) (qA g1 (qN (decide_eq_true z1) (qA g2 (qN (decide_eq_true z2) ?_))))))
   rw [qC,qk,if_neg (by omega),if_neg (by omega),if_pos k]
  ·obtain ⟨m0,c0⟩:=hk0 0 (by omega)
   obtain ⟨n1,g1⟩:=ih _ m0 5
   have h1:=isz _ m0 5
   have z1:(⟨#[45]⟩:ByteArray).size+(qk l f (kid (ndi l i) 0) 5).size≤9223372036854775807:=by omega
   have y1:(0:Int)≤(0:Int)∧(0:Int)<((List.map qAs (ndi l i).2.2.2.2.2.2.2.2.2.2.2.2.2).length:Int):=by rw [hkl];omega
   refine ⟨n1+1,fun n hn=>?_⟩
   obtain ⟨m,rfl,hm⟩:=up1 hn
   have g1:=g1 m (by omega)
   dsimp only at g1⊢
   have e0:((0:Int)).toNat=0:=rfl
   show (qBj (ql m) m (l.map qV) i t).run=_
   refine qN (decide_eq_true hxb) (qA hcr (qN rfl (qA (qAP _) (qA (qAQ _) (qA (qAR _) (qA (qAS _) (qA (qAT _) (qA (qAU _) (qA (qAV _) (qA (qAW _) (qA (qAX _) (qA (qAY _) (qA (qu _) (qA (qv _) (qA (qw _) (qA (qx _) ?_))))))))))))))))
   refine qO (by rw [k];rfl) (qO (by rw [k];rfl) (qO (by rw [k];rfl) (qN (by rw [k];rfl) (qN (decide_eq_true y1) (qA c0 (qN rfl (qA (qAm _) (qA g1 (qN (decide_eq_true z1) ?_)))))))))
   rw [qC,qk,if_neg (by omega),if_neg (by omega),if_neg (by omega),if_pos k]
  ·obtain ⟨m0,c0⟩:=hk0 0 (by omega)
   obtain ⟨m1,c1⟩:=hk0 1 (by omega)
   have hlv:=qPS (ndi l i).2.1
   obtain ⟨n1,g1⟩:=ih _ m0 (lvl (ndi l i).2.1)
   obtain ⟨n2,g2⟩:=ih _ m1 (lvl (ndi l i).2.1+1)
   obtain ⟨n3,g3⟩:=qHz (ndi l i).2.1
   obtain ⟨n4,g4⟩:=qFz (ndi l i).2.1 ho
   have h1:=isz _ m0 (lvl (ndi l i).2.1)
   have h2:=isz _ m1 (lvl (ndi l i).2.1+1)
   have h3:=qHa ho
   have hw:IntKind.i64.wrap (lvl (ndi l i).2.1+1)=lvl (ndi l i).2.1+1:=qb (by omega)
   have y1:(0:Int)≤(0:Int)∧(0:Int)<((List.map qAs (ndi l i).2.2.2.2.2.2.2.2.2.2.2.2.2).length:Int):=by rw [hkl];omega
   have y2:(0:Int)≤(1:Int)∧(1:Int)<((List.map qAs (ndi l i).2.2.2.2.2.2.2.2.2.2.2.2.2).length:Int):=by rw [hkl];omega
   refine ⟨n1+n2+n3+n4+1,fun n hn=>?_⟩
   obtain ⟨m,rfl,hm⟩:=up1 hn
   have g1:=g1 m (by omega)
   have g2:=g2 m (by omega)
   have g3:=g3 m (by omega)
   have g4:=g4 m (by omega)
   dsimp only at g1 g2 g3 g4⊢
   have e0:((0:Int)).toNat=0:=rfl
   have e1:((1:Int)).toNat=1:=rfl
   show (qBj (ql m) m (l.map qV) i t).run=_
   refine qN (decide_eq_true hxb) (qA hcr (qN rfl (qA (qAP _) (qA (qAQ _) (qA (qAR _) (qA (qAS _) (qA (qAT _) (qA (qAU _) (qA (qAV _) (qA (qAW _) (qA (qAX _) (qA (qAY _) (qA (qu _) (qA (qv _) (qA (qw _) (qA (qx _) ?_))))))))))))))))
   have z1:(qk l f (kid (ndi l i) 0) (lvl (ndi l i).2.1)).size+(qj (ndi l i).2.1).size≤9223372036854775807:=by omega
   have z2:(qk l f (kid (ndi l i) 0) (lvl (ndi l i).2.1)++qj (ndi l i).2.1).size+(qk l f (kid (ndi l i) 1) (lvl (ndi l i).2.1+1)).size≤9223372036854775807:=by rw [ByteArray.size_append];omega
   have z3:(⟨#[40]⟩:ByteArray).size+((qk l f (kid (ndi l i) 0) (lvl (ndi l i).2.1)++qj (ndi l i).2.1)++qk l f (kid (ndi l i) 1) (lvl (ndi l i).2.1+1)).size≤9223372036854775807:=by rw [ByteArray.size_append,ByteArray.size_append];omega
   have z4:((⟨#[40]⟩:ByteArray)++((qk l f (kid (ndi l i) 0) (lvl (ndi l i).2.1)++qj (ndi l i).2.1)++qk l f (kid (ndi l i) 1) (lvl (ndi l i).2.1+1))).size+(⟨#[41]⟩:ByteArray).size≤9223372036854775807:=by rw [ByteArray.size_append,ByteArray.size_append,ByteArray.size_append];omega
   have g2:ql m (l.map qV) (kid (ndi l i) 1) (IntKind.i64.wrap (lvl (ndi l i).2.1+1))=some (qk l f (kid (ndi l i) 1) (lvl (ndi l i).2.1+1)):=by rw [hw];exact g2
   refine qO (by rw [k];rfl) (qO (by rw [k];rfl) (qO (by rw [k];rfl) (qO (by rw [k];rfl) (qN (by rw [k];rfl) (qA g3 (qN (decide_eq_true y1) (qA c0 (qN rfl (qA (qAm _) (qN (decide_eq_true y2) (qA c1 (qN rfl (qA (qAm _) (qA g1 (qA g4 (qN (decide_eq_true z1) (qA g2 (qN (decide_eq_true z2) ?_))))))))))))))))))
   rw [qk,if_neg (by omega),if_neg (by omega),if_neg (by omega),if_neg (by omega),if_pos k]
   unfold par
   by_cases ht:lvl (ndi l i).2.1<t
   ·refine qN (decide_eq_true ht) (qN (decide_eq_true z3) (qN (decide_eq_true z4) ?_))
    rw [qC,if_pos (decide_eq_true ht)]
   ·refine qO (decide_eq_false ht) ?_
    rw [qC,if_neg (by simpa using ht)]
  ·obtain ⟨n0,g0⟩:=qCG (F:=fun k n=>ql n (l.map qV) k 0) (f:=fun k=>qk l f k 1) (qR l i) (fun k hk=>by
    have:=ih k hk 0
    rw [qPs] at this
    exact this)
   obtain ⟨n1,g1⟩:=qKl (ndi l i).2.1 ho
   have h1:=qM8 ho
   refine ⟨n0+n1+20,fun n hn=>?_⟩
   obtain ⟨m,rfl,hm⟩:=up1 hn
   have g0:=g0 m (by omega)
   have g1:=g1 m (by omega)
   have hj:=qNv l f m ((ndi l i).1,(ndi l i).2.1,(ndi l i).2.2.1,(ndi l i).2.2.2.1,(ndi l i).2.2.2.2.1,(ndi l i).2.2.2.2.2.1,(ndi l i).2.2.2.2.2.2.1,(ndi l i).2.2.2.2.2.2.2.1,(ndi l i).2.2.2.2.2.2.2.2.1,(ndi l i).2.2.2.2.2.2.2.2.2.1,(ndi l i).2.2.2.2.2.2.2.2.2.2.1,(ndi l i).2.2.2.2.2.2.2.2.2.2.2.1,(ndi l i).2.2.2.2.2.2.2.2.2.2.2.2.1,(kd (ndi l i)).map qAs) (szB f) hs (kd (ndi l i)) rfl hk.2 (fun k hk=>⟨g0 k hk,isz k hk 1⟩) (kd (ndi l i)) [] (fnS (ndi l i).2.1++(⟨#[40]⟩:ByteArray)) m rfl (by omega) (by rw [ByteArray.size_append];omega)
   simp only [List.length_nil,Int.natCast_zero,if_true] at hj
   have hjs:=qJ3 (xs:=(qR l i).map fun k=>qk l f k 1) (b:=szB f) (fun x hx=>by
    obtain ⟨k,hk,rfl⟩:=List.mem_map.1 hx
    exact isz k hk 1)
   have h3:(qR l i).length≤10:=hk.2
   have h4:(qR l i).length*(szB f+1)≤10*(szB f+1):=Nat.mul_le_mul_right _ h3
   rw [List.length_map] at hjs
   have ej:(⟨((fnS (ndi l i).2.1++(⟨#[40]⟩:ByteArray)).data.toList++Lib.join ((kd (ndi l i)).map fun k=>(qk l f k 1).data.toList) [44]).toArray⟩:ByteArray)=(fnS (ndi l i).2.1++(⟨#[40]⟩:ByteArray))++qIe ((qR l i).map fun k=>qk l f k 1):=by
    apply qGH
    rw [qC2]
    simp [qIe,qR,Function.comp_def]
   rw [ej] at hj
   obtain ⟨J,hJ⟩:∃J,qIe ((qR l i).map fun k=>qk l f k 1)=J:=⟨_,rfl⟩
   rw [hJ] at hj hjs
   have z1:(fnS (ndi l i).2.1).size+(⟨#[40]⟩:ByteArray).size≤9223372036854775807:=by omega
   have z2:((fnS (ndi l i).2.1++(⟨#[40]⟩:ByteArray))++J).size+(⟨#[41]⟩:ByteArray).size≤9223372036854775807:=by rw [ByteArray.size_append,ByteArray.size_append];omega
   unfold kd at hj
   dsimp only at g1⊢
   show (qBj (ql m) m (l.map qV) i t).run=_
   refine qN (decide_eq_true hxb) (qA hcr (qN rfl (qA (qAP _) (qA (qAQ _) (qA (qAR _) (qA (qAS _) (qA (qAT _) (qA (qAU _) (qA (qAV _) (qA (qAW _) (qA (qAX _) (qA (qAY _) (qA (qu _) (qA (qv _) (qA (qw _) (qA (qx _) ?_))))))))))))))))
   refine qO (by rw [k];rfl) (qO (by rw [k];rfl) (qO (by rw [k];rfl) (qO (by rw [k];rfl) (qO (by rw [k];rfl) (qA g1 (qN (decide_eq_true z1) (qA hj (qN (decide_eq_true z2) ?_))))))))
   rw [qC,qk,if_neg (by omega),if_neg (by omega),if_neg (by omega),if_neg (by omega),if_neg (by omega),hJ]
theorem qIf {l:List Nd} (h:Fine l):∀(f:Nat) (i t:Int),f≤12→(0≤i∧i<l.length)→qAy (qR l) (i.toNat+1) i≤f→Ev (ql · (l.map qV) i t) (qk l f i t)
 |0,i,t,hf,hx,hd=>by
  have:=qG8 (qR l) (i.toNat+1) i hx.1 (by omega)
  omega
 |f+1,i,t,hf,hx,hd=>qJI h f i t hf hx hd fun k hk t'=>qIf h f k t' (by omega) (h.kid hx hd hk).1 (h.kid hx hd hk).2
theorem qQE:∀f:Fin 12,szB f.val≤12000000000000:=by decide
theorem qQg {f:Nat} (h:f≤11):szB f≤12000000000000:=qQE ⟨f,by omega⟩
theorem qO0:∀xs:List ByteArray,zBG (xs.map fun x=> [PV.s x])=some xs
 | []=>rfl
 |x::r=>by simp only [List.map_cons,zBG,qO0 r,Option.map_some]
theorem qNw (rec:List (List PV)→Int→Int→Option ByteArray) (n:Nat) (rows:List (List PV)) (T:Int→ByteArray) (a0 a1 a2 a3:Int) (a4:ByteArray) (a5 a6:Int) (a7 a8:Bool) (a9 a10:Int) (a11 a12:Bool) (a13:List (List PV)) (ks:List Int) (hk10:ks.length≤10)
  (hr:∀k∈ks,rec rows k 1=some (T k)):
  ∀(r pre:List Int) (M:Nat),ks=pre++r→r.length+1≤M→
   zD (qBR rec n) M (rows,pre.length,ks.map qAs,((ks.map qAs).length:Int),(pre.length:Int),a0,a1,a2,a3,a4,a5,a6,a7,a8,a9,a10,a11,a12,a13,pre.map fun k=> [PV.s (T k)])=some (ks.length,a0,a1,a2,a3,a4,a5,a6,a7,a8,a9,a10,a11,a12,a13,ks.map fun k=> [PV.s (T k)])
 |r,pre,0,h1,h2=>by omega
 | [],pre,M+1,h1,h2=>by
  have hi:¬(pre.length:Int)<((ks.map qAs).length:Int):=by rw [List.length_map,h1];simp
  have e:pre=ks:=by rw [h1];simp
  rw [qP (r:=(pre.length,a0,a1,a2,a3,a4,a5,a6,a7,a8,a9,a10,a11,a12,a13,pre.map fun k=> [PV.s (T k)])) (by simp only [qBR,qC,qD,qF,qG,qH,qJ,Option.bind_some,qE,qK,qM,decide_eq_false hi,Bool.false_eq_true,if_false])]
  rw [e]
 |k::r,pre,M+1,h1,h2=>by
  have hm:k∈ks:=by rw [h1];simp
  have g1:=hr k hm
  have hpl:pre.length+(r.length+1)=ks.length:=by rw [h1];simp
  have hg:(ks.map qAs)[pre.length]?=some (qAs k):=by rw [h1,List.getElem?_map];simp
  have hi:(pre.length:Int)<((ks.map qAs).length:Int):=by rw [List.length_map];omega
  have h3:0≤(pre.length:Int)∧(pre.length:Int)<((ks.map qAs).length:Int):=by omega
  have w1:IntKind.i64.wrap ((pre.length:Int)+1)=((pre.length+1:Nat):Int):=by rw [qb (by omega)];omega
  have hc:pre.length=(pre.map fun k=> [PV.s (T k)]).length∧0<1∧0<16∧(pre.length+([[PV.s (T k)]]:List (List PV)).length)*16≤140737488355328∧([[PV.s (T k)]]:List (List PV)).all (fun e=>e.length==1)=true:=by
   refine ⟨by simp,by decide,by decide,?_,rfl⟩
   rw [List.length_singleton]
   omega
  have h1l:decide (1=([[PV.s (T k)]]:List (List PV)).length)=true:=rfl
  rw [qc (v':=(rows,pre.length+1,ks.map qAs,((ks.map qAs).length:Int),((pre.length+1:Nat):Int),a0,a1,a2,a3,a4,a5,a6,a7,a8,a9,a10,a11,a12,a13,(pre.map fun k=> [PV.s (T k)])++ [[PV.s (T k)]])) (by
   simp only [qBR,qC,qD,qF,qG,qH,qJ,Option.bind_some,qE,qK,qM,decide_eq_true hi,if_true,decide_eq_true h3,Int.toNat_natCast,hg,qBE,qAm,decide_true,g1,h1l,decide_eq_true hc,w1])]
  have h:=qNw rec n rows T a0 a1 a2 a3 a4 a5 a6 a7 a8 a9 a10 a11 a12 a13 ks hk10 hr r (pre++ [k]) M (by rw [h1];simp) (by simp at h2;omega)
  simp only [List.map_append,List.map_cons,List.map_nil,List.length_append,List.length_singleton] at h⊢
  exact h
set_option maxHeartbeats 4000000 in
theorem qGj {l:List Nd} (h:Fine l) (f:Nat) (i t:Int) (hf:f+1≤12) (hx:0≤i∧i<l.length) (hd:qAy (qR l) (i.toNat+1) i≤(f+1:Nat)) (ih:∀k∈qR l i,∀t',Ev (qa · (l.map qV) k t') (qk l f k t')):Ev (qa · (l.map qV) i t) (qk l (f+1) i t):=by
  have ih:=fun k hk t'=>ih k hk t'
  have isz:=fun k hk t'=>qLh h f k t' (by omega) (h.kid hx hd hk).1 (h.kid hx hd hk).2
  have hs:=qQe (f:=f) (by omega)
  have hcr:(l.map qV)[i.toNat]?=some (qV (ndi l i)):=by rw [List.getElem?_map,qCY hx];rfl
  have hxb:0≤i∧i<((l.map qV).length:Int):=by rw [List.length_map];exact hx
  have hz:=(h.sz _ (qHZ hx)).2
  have hp:∀a b c d,(qAO a b c d).size≤30:=qD4
  have d1:(⟨#[58]⟩:ByteArray).size=1:=rfl
  have d2:(⟨#[45]⟩:ByteArray).size=1:=rfl
  have d3:(⟨#[40]⟩:ByteArray).size=1:=rfl
  have d4:(⟨#[41]⟩:ByteArray).size=1:=rfl
  have hk0:∀j,j<(kd (ndi l i)).length→kid (ndi l i) j∈qR l i∧(List.map qAs (ndi l i).2.2.2.2.2.2.2.2.2.2.2.2.2)[j]?=some (qAs (kid (ndi l i) j)):=fun j hj=>by
   unfold kid
   rw [List.getD_eq_getElem?_getD,List.getElem?_eq_getElem hj]
   refine ⟨List.getElem_mem hj,?_⟩
   rw [List.getElem?_map]
   show ((kd (ndi l i))[j]?).map qAs=_
   rw [List.getElem?_eq_getElem hj]
   rfl
  have hkl:(List.map qAs (ndi l i).2.2.2.2.2.2.2.2.2.2.2.2.2).length=(kd (ndi l i)).length:=by rw [List.length_map];rfl
  rcases qE3 (h.own i hx.1 hx.2).1 with ⟨k,hv⟩|k|k|⟨k,hk⟩|⟨k,ho,hk⟩|⟨k,ho,hk⟩
  ·by_cases k2:(ndi l i).2.2.1=2
   ·have hv2:okV 2 (ndi l i).2.2.2.1 (ndi l i).2.2.2.2.1=true:=by rw [←k2];exact hv
    have hq:=(qKX hv2).2.1
    obtain ⟨n1,g1⟩:=qNe (ndi l i).2.2.2.2.1 (by omega)
    have h1:=qG9 (ndi l i).2.2.2.2.1.toList
    rw [qAl] at h1
    have h2:(⟨(qAZ (ndi l i).2.2.2.2.1.toList).toArray⟩:ByteArray).size=(qAZ (ndi l i).2.2.2.2.1.toList).length:=by rw [qCg]
    have e:((⟨#[34]⟩:ByteArray)++⟨(qAZ (ndi l i).2.2.2.2.1.toList).toArray⟩)++(⟨#[34]⟩:ByteArray)=qDM (ndi l i).2.2.2.2.1:=by
     apply qGH
     rw [qC2,qC2]
     simp [qDM]
    have d5:(⟨#[34]⟩:ByteArray).size=1:=rfl
    refine ⟨n1+1,fun n hn=>?_⟩
    obtain ⟨m,rfl,hm⟩:=up1 hn
    have g1:=g1 m (by omega)
    dsimp only at g1⊢
    obtain ⟨q,hqe⟩:∃q,(⟨(qAZ (ndi l i).2.2.2.2.1.toList).toArray⟩:ByteArray)=q:=⟨_,rfl⟩
    rw [hqe] at g1 h2 e
    have z1:(⟨#[34]⟩:ByteArray).size+q.size≤9223372036854775807:=by omega
    have z2:((⟨#[34]⟩:ByteArray)++q).size+(⟨#[34]⟩:ByteArray).size≤9223372036854775807:=by rw [ByteArray.size_append];omega
    show (qAi (qa m) m (l.map qV) i t).run=_
    refine qN (decide_eq_true hxb) (qA hcr (qN rfl (qA (qAP _) (qA (qAQ _) (qA (qAR _) (qA (qAS _) (qA (qAT _) (qA (qAU _) (qA (qAV _) (qA (qAW _) (qA (qAX _) (qA (qAY _) (qA (qu _) (qA (qv _) (qA (qw _) (qA (qx _) ?_))))))))))))))))
    refine qN (by rw [k];rfl) (qN (by rw [k2];rfl) (qA g1 (qN (decide_eq_true z1) (qN (decide_eq_true z2) ?_))))
    rw [qC,qk,if_pos k,if_pos k2,e]
   ·obtain ⟨n1,g1⟩:=qGJ (ndi l i).2.2.1 (ndi l i).2.2.2.1 (ndi l i).2.2.2.2.1 hv
    have kb:((ndi l i).2.2.1==(2:Int))=false:=by simpa using k2
    refine ⟨n1+1,fun n hn=>?_⟩
    obtain ⟨m,rfl,hm⟩:=up1 hn
    have g1:=g1 m (by omega)
    dsimp only at g1⊢
    show (qAi (qa m) m (l.map qV) i t).run=_
    refine qN (decide_eq_true hxb) (qA hcr (qN rfl (qA (qAP _) (qA (qAQ _) (qA (qAR _) (qA (qAS _) (qA (qAT _) (qA (qAU _) (qA (qAV _) (qA (qAW _) (qA (qAX _) (qA (qAY _) (qA (qu _) (qA (qv _) (qA (qw _) (qA (qx _) ?_))))))))))))))))
    refine qN (by rw [k];rfl) (qO kb (qA g1 ?_))
    rw [qC,qk,if_pos k,if_neg k2]
  ·obtain ⟨n1,g1⟩:=qDC (ndi l i).2.2.2.2.2.1 (ndi l i).2.2.2.2.2.2.1 (ndi l i).2.2.2.2.2.2.2.1 (ndi l i).2.2.2.2.2.2.2.2.1
   refine ⟨n1+1,fun n hn=>?_⟩
   obtain ⟨m,rfl,hm⟩:=up1 hn
   have g1:=g1 m (by omega)
   dsimp only at g1⊢
   show (qAi (qa m) m (l.map qV) i t).run=_
   refine qN (decide_eq_true hxb) (qA hcr (qN rfl (qA (qAP _) (qA (qAQ _) (qA (qAR _) (qA (qAS _) (qA (qAT _) (qA (qAU _) (qA (qAV _) (qA (qAW _) (qA (qAX _) (qA (qAY _) (qA (qu _) (qA (qv _) (qA (qw _) (qA (qx _) ?_))))))))))))))))
   refine qO (by rw [k];rfl) (qN (by rw [k];rfl) (qA g1 ?_))
   rw [qC,qk,if_neg (by omega),if_pos k]
  ·obtain ⟨n1,g1⟩:=qDC (ndi l i).2.2.2.2.2.1 (ndi l i).2.2.2.2.2.2.1 (ndi l i).2.2.2.2.2.2.2.1 (ndi l i).2.2.2.2.2.2.2.2.1
   obtain ⟨n2,g2⟩:=qDC (ndi l i).2.2.2.2.2.2.2.2.2.1 (ndi l i).2.2.2.2.2.2.2.2.2.2.1 (ndi l i).2.2.2.2.2.2.2.2.2.2.2.1 (ndi l i).2.2.2.2.2.2.2.2.2.2.2.2.1
   have h1:=hp (ndi l i).2.2.2.2.2.1 (ndi l i).2.2.2.2.2.2.1 (ndi l i).2.2.2.2.2.2.2.1 (ndi l i).2.2.2.2.2.2.2.2.1
   have h2:=hp (ndi l i).2.2.2.2.2.2.2.2.2.1 (ndi l i).2.2.2.2.2.2.2.2.2.2.1 (ndi l i).2.2.2.2.2.2.2.2.2.2.2.1 (ndi l i).2.2.2.2.2.2.2.2.2.2.2.2.1
   have z1:(qAO (ndi l i).2.2.2.2.2.1 (ndi l i).2.2.2.2.2.2.1 (ndi l i).2.2.2.2.2.2.2.1 (ndi l i).2.2.2.2.2.2.2.2.1).size+(⟨#[58]⟩:ByteArray).size≤9223372036854775807:=by omega
   have z2:(qAO (ndi l i).2.2.2.2.2.1 (ndi l i).2.2.2.2.2.2.1 (ndi l i).2.2.2.2.2.2.2.1 (ndi l i).2.2.2.2.2.2.2.2.1++(⟨#[58]⟩:ByteArray)).size+(qAO (ndi l i).2.2.2.2.2.2.2.2.2.1 (ndi l i).2.2.2.2.2.2.2.2.2.2.1 (ndi l i).2.2.2.2.2.2.2.2.2.2.2.1 (ndi l i).2.2.2.2.2.2.2.2.2.2.2.2.1).size≤9223372036854775807:=by rw [ByteArray.size_append];omega
   refine ⟨n1+n2+1,fun n hn=>?_⟩
   obtain ⟨m,rfl,hm⟩:=up1 hn
   have g1:=g1 m (by omega)
   have g2:=g2 m (by omega)
   dsimp only at g1 g2⊢
   show (qAi (qa m) m (l.map qV) i t).run=_
   refine qN (decide_eq_true hxb) (qA hcr (qN rfl (qA (qAP _) (qA (qAQ _) (qA (qAR _) (qA (qAS _) (qA (qAT _) (qA (qAU _) (qA (qAV _) (qA (qAW _) (qA (qAX _) (qA (qAY _) (qA (qu _) (qA (qv _) (qA (qw _) (qA (qx _) ?_))))))))))))))))
   refine qO (by rw [k];rfl) (qO (by rw [k];rfl) (qN (by rw [k];rfl) (qA g1 (qN (decide_eq_true z1) (qA g2 (qN (decide_eq_true z2) ?_))))))
   rw [qC,qk,if_neg (by omega),if_neg (by omega),if_pos k]
  ·obtain ⟨m0,c0⟩:=hk0 0 (by omega)
   obtain ⟨n1,g1⟩:=ih _ m0 5
   have h1:=isz _ m0 5
   have z1:(⟨#[45]⟩:ByteArray).size+(qk l f (kid (ndi l i) 0) 5).size≤9223372036854775807:=by omega
   have y1:(0:Int)≤(0:Int)∧(0:Int)<((List.map qAs (ndi l i).2.2.2.2.2.2.2.2.2.2.2.2.2).length:Int):=by rw [hkl];omega
   refine ⟨n1+1,fun n hn=>?_⟩
   obtain ⟨m,rfl,hm⟩:=up1 hn
   have g1:=g1 m (by omega)
   dsimp only at g1⊢
   have e0:((0:Int)).toNat=0:=rfl
   show (qAi (qa m) m (l.map qV) i t).run=_
   refine qN (decide_eq_true hxb) (qA hcr (qN rfl (qA (qAP _) (qA (qAQ _) (qA (qAR _) (qA (qAS _) (qA (qAT _) (qA (qAU _) (qA (qAV _) (qA (qAW _) (qA (qAX _) (qA (qAY _) (qA (qu _) (qA (qv _) (qA (qw _) (qA (qx _) ?_))))))))))))))))
   refine qO (by rw [k];rfl) (qO (by rw [k];rfl) (qO (by rw [k];rfl) (qN (by rw [k];rfl) (qN (decide_eq_true y1) (qA c0 (qN rfl (qA (qAm _) (qA g1 (qN (decide_eq_true z1) ?_)))))))))
   rw [qC,qk,if_neg (by omega),if_neg (by omega),if_neg (by omega),if_pos k]
  ·obtain ⟨m0,c0⟩:=hk0 0 (by omega)
   obtain ⟨m1,c1⟩:=hk0 1 (by omega)
   have hlv:=qPS (ndi l i).2.1
   obtain ⟨n1,g1⟩:=ih _ m0 (lvl (ndi l i).2.1)
   obtain ⟨n2,g2⟩:=ih _ m1 (lvl (ndi l i).2.1+1)
   obtain ⟨n3,g3⟩:=qJW (ndi l i).2.1 ho
   obtain ⟨n4,g4⟩:=qF0 (ndi l i).2.1 ho
   have h1:=isz _ m0 (lvl (ndi l i).2.1)
   have h2:=isz _ m1 (lvl (ndi l i).2.1+1)
   have h3:=qHa ho
   have hw:IntKind.i64.wrap (lvl (ndi l i).2.1+1)=lvl (ndi l i).2.1+1:=qb (by omega)
   have y1:(0:Int)≤(0:Int)∧(0:Int)<((List.map qAs (ndi l i).2.2.2.2.2.2.2.2.2.2.2.2.2).length:Int):=by rw [hkl];omega
   have y2:(0:Int)≤(1:Int)∧(1:Int)<((List.map qAs (ndi l i).2.2.2.2.2.2.2.2.2.2.2.2.2).length:Int):=by rw [hkl];omega
   refine ⟨n1+n2+n3+n4+1,fun n hn=>?_⟩
   obtain ⟨m,rfl,hm⟩:=up1 hn
   have g1:=g1 m (by omega)
   have g2:=g2 m (by omega)
   have g3:=g3 m (by omega)
   have g4:=g4 m (by omega)
   dsimp only at g1 g2 g3 g4⊢
   have e0:((0:Int)).toNat=0:=rfl
   have e1:((1:Int)).toNat=1:=rfl
   show (qAi (qa m) m (l.map qV) i t).run=_
   refine qN (decide_eq_true hxb) (qA hcr (qN rfl (qA (qAP _) (qA (qAQ _) (qA (qAR _) (qA (qAS _) (qA (qAT _) (qA (qAU _) (qA (qAV _) (qA (qAW _) (qA (qAX _) (qA (qAY _) (qA (qu _) (qA (qv _) (qA (qw _) (qA (qx _) ?_))))))))))))))))
   have z1:(qk l f (kid (ndi l i) 0) (lvl (ndi l i).2.1)).size+(qj (ndi l i).2.1).size≤9223372036854775807:=by omega
   have z2:(qk l f (kid (ndi l i) 0) (lvl (ndi l i).2.1)++qj (ndi l i).2.1).size+(qk l f (kid (ndi l i) 1) (lvl (ndi l i).2.1+1)).size≤9223372036854775807:=by rw [ByteArray.size_append];omega
   have z3:(⟨#[40]⟩:ByteArray).size+((qk l f (kid (ndi l i) 0) (lvl (ndi l i).2.1)++qj (ndi l i).2.1)++qk l f (kid (ndi l i) 1) (lvl (ndi l i).2.1+1)).size≤9223372036854775807:=by rw [ByteArray.size_append,ByteArray.size_append];omega
   have z4:((⟨#[40]⟩:ByteArray)++((qk l f (kid (ndi l i) 0) (lvl (ndi l i).2.1)++qj (ndi l i).2.1)++qk l f (kid (ndi l i) 1) (lvl (ndi l i).2.1+1))).size+(⟨#[41]⟩:ByteArray).size≤9223372036854775807:=by rw [ByteArray.size_append,ByteArray.size_append,ByteArray.size_append];omega
   have g2:qa m (l.map qV) (kid (ndi l i) 1) (IntKind.i64.wrap (lvl (ndi l i).2.1+1))=some (qk l f (kid (ndi l i) 1) (lvl (ndi l i).2.1+1)):=by rw [hw];exact g2
   refine qO (by rw [k];rfl) (qO (by rw [k];rfl) (qO (by rw [k];rfl) (qO (by rw [k];rfl) (qN (by rw [k];rfl) (qA g3 (qN (decide_eq_true y1) (qA c0 (qN rfl (qA (qAm _) (qN (decide_eq_true y2) (qA c1 (qN rfl (qA (qAm _) (qA g1 (qA g4 (qN (decide_eq_true z1) (qA g2 (qN (decide_eq_true z2) ?_))))))))))))))))))
   rw [qk,if_neg (by omega),if_neg (by omega),if_neg (by omega),if_neg (by omega),if_pos k]
   unfold par
   by_cases ht:lvl (ndi l i).2.1<t
   ·refine qN (decide_eq_true ht) (qN (decide_eq_true z3) (qN (decide_eq_true z4) ?_))
    rw [qC,if_pos (decide_eq_true ht)]
   ·refine qO (decide_eq_false ht) ?_
    rw [qC,if_neg (by simpa using ht)]
  ·obtain ⟨n0,g0⟩:=qCG (F:=fun k n=>qa n (l.map qV) k 1) (f:=fun k=>qk l f k 1) (qR l i) (fun k hk=>ih k hk 1)
   obtain ⟨n1,g1⟩:=qId (ndi l i).2.1 ho
   have h1:=qM8 ho
   have hs11:=qQg (f:=f) (by omega)
   have h3:(qR l i).length≤10:=hk.2
   have hjs:=qJ3 (xs:=(qR l i).map fun k=>qk l f k 1) (b:=szB f) (fun x hx=>by
    obtain ⟨k,hk,rfl⟩:=List.mem_map.1 hx
    exact isz k hk 1)
   have h4:(qR l i).length*(szB f+1)≤10*(szB f+1):=Nat.mul_le_mul_right _ h3
   rw [List.length_map] at hjs
   have gj:∀n,1≤n→qFi n (((qR l i).map fun k=>qk l f k 1).map fun x=> [PV.s x]) ⟨#[44]⟩=some (qIe ((qR l i).map fun k=>qk l f k 1)):=fun n hn=>by
    obtain ⟨m,rfl,_⟩:=up1 (n0:=0) hn
    show zAU _ _=_
    unfold zAU
    rw [qO0,Option.bind_some,if_pos]
    ·rfl
    ·rw [qCg] at hjs
     refine ⟨by rw [List.length_map];omega,?_⟩
     have:(Lib.join (((qR l i).map fun k=>qk l f k 1).map (·.data.toList)) [44]).length≤(qR l i).length*(szB f+1):=hjs
     show (Lib.join (((qR l i).map fun k=>qk l f k 1).map (·.data.toList)) [44]).length≤_
     omega
   refine ⟨n0+n1+20,fun n hn=>?_⟩
   obtain ⟨m,rfl,hm⟩:=up1 hn
   have g0:=g0 m (by omega)
   have g1:=g1 m (by omega)
   have gj:=gj m (by omega)
   have hj:=qNw (qa m) m (l.map qV) (fun k=>qk l f k 1) (ndi l i).1 (ndi l i).2.1 (ndi l i).2.2.1 (ndi l i).2.2.2.1 (ndi l i).2.2.2.2.1 (ndi l i).2.2.2.2.2.1 (ndi l i).2.2.2.2.2.2.1 (ndi l i).2.2.2.2.2.2.2.1 (ndi l i).2.2.2.2.2.2.2.2.1 (ndi l i).2.2.2.2.2.2.2.2.2.1 (ndi l i).2.2.2.2.2.2.2.2.2.2.1 (ndi l i).2.2.2.2.2.2.2.2.2.2.2.1 (ndi l i).2.2.2.2.2.2.2.2.2.2.2.2.1 ((kd (ndi l i)).map qAs) (kd (ndi l i)) hk.2 g0 (kd (ndi l i)) [] m rfl (by omega)
   simp only [List.length_nil,Int.natCast_zero,List.map_nil,List.length_map] at hj
   obtain ⟨J,hJ⟩:∃J,qIe ((qR l i).map fun k=>qk l f k 1)=J:=⟨_,rfl⟩
   rw [hJ] at gj hjs
   have z1:(fnS (ndi l i).2.1).size+(⟨#[40]⟩:ByteArray).size≤9223372036854775807:=by omega
   have z2:(fnS (ndi l i).2.1++(⟨#[40]⟩:ByteArray)).size+J.size≤9223372036854775807:=by rw [ByteArray.size_append];omega
   have z3:((fnS (ndi l i).2.1++(⟨#[40]⟩:ByteArray))++J).size+(⟨#[41]⟩:ByteArray).size≤9223372036854775807:=by rw [ByteArray.size_append,ByteArray.size_append];omega
   unfold qR at gj
   unfold kd at hj gj
   dsimp only at g1⊢
   rw [List.map_map] at gj
   have hkl':(((ndi l i).2.2.2.2.2.2.2.2.2.2.2.2.2.map qAs).length:Int)=((ndi l i).2.2.2.2.2.2.2.2.2.2.2.2.2.length:Int):=by rw [List.length_map]
   have hll:decide ((ndi l i).2.2.2.2.2.2.2.2.2.2.2.2.2.length=(List.map ((fun x=> [PV.s x])∘fun k=>qk l f k 1) (ndi l i).2.2.2.2.2.2.2.2.2.2.2.2.2).length)=true:=by simp
   have hmm:(List.map (fun k=> [PV.s (qk l f k 1)]) (ndi l i).2.2.2.2.2.2.2.2.2.2.2.2.2)=List.map ((fun x=> [PV.s x])∘fun k=>qk l f k 1) (ndi l i).2.2.2.2.2.2.2.2.2.2.2.2.2:=rfl
   rw [hmm] at hj
   rw [←hkl'] at hj
   show (qAi (qa m) m (l.map qV) i t).run=_
   refine qN (decide_eq_true hxb) (qA hcr (qN rfl (qA (qAP _) (qA (qAQ _) (qA (qAR _) (qA (qAS _) (qA (qAT _) (qA (qAU _) (qA (qAV _) (qA (qAW _) (qA (qAX _) (qA (qAY _) (qA (qu _) (qA (qv _) (qA (qw _) (qA (qx _) ?_))))))))))))))))
   refine qO (by rw [k];rfl) (qO (by rw [k];rfl) (qO (by rw [k];rfl) (qO (by rw [k];rfl) (qO (by rw [k];rfl) (qA hj (qA g1 (qN (decide_eq_true z1) (qN hll (qA gj (qN rfl (qN (decide_eq_true z2) (qN (decide_eq_true z3) ?_))))))))))))
   rw [qC,qk,if_neg (by omega),if_neg (by omega),if_neg (by omega),if_neg (by omega),if_neg (by omega),hJ]
theorem qFM {l:List Nd} (h:Fine l):∀(f:Nat) (i t:Int),f≤12→(0≤i∧i<l.length)→qAy (qR l) (i.toNat+1) i≤f→Ev (qa · (l.map qV) i t) (qk l f i t)
 |0,i,t,hf,hx,hd=>by
  have:=qG8 (qR l) (i.toNat+1) i hx.1 (by omega)
  omega
 |f+1,i,t,hf,hx,hd=>qGj h f i t hf hx hd fun k hk t'=>qFM h f k t' (by omega) (h.kid hx hd hk).1 (h.kid hx hd hk).2
def qFN (l:List Nd):ByteArray:=if qDZ l=true then (if ((qk l 12 ((l.length:Int)-1) 1).size:Int)>200 then ⟨#[]⟩ else qk l 12 ((l.length:Int)-1) 1) else ⟨#[]⟩
theorem qOW {l:List Nd} (h:qDZ l=true) (hk:∀c∈l,(kd c).length≤140737488351232∧c.2.2.2.2.1.size≤140737488351232):Fine l∧(0≤(l.length:Int)-1∧(l.length:Int)-1<l.length)∧qAy (qR l) (((l.length:Int)-1).toNat+1) ((l.length:Int)-1)≤(12:Nat):=by
 unfold qDZ at h
 simp only [Bool.and_eq_true,decide_eq_true_eq] at h
 obtain ⟨h1,h2,h3,h4,h5⟩:=h
 have e:((l.length:Int)-1).toNat+1=l.length:=by omega
 rw [e]
 exact ⟨⟨h1.2,qE2.1 h2,hk⟩,by omega,h5⟩
theorem qJJ (l:List Nd) (hl:l.length≤140737488351232) (hk:∀c∈l,(kd c).length≤140737488351232∧c.2.2.2.2.1.size≤140737488351232):Ev (qCB · (l.map qV)) (qFN l):=by
 obtain ⟨n1,g1⟩:=qER l hk
 unfold qFN
 cases hf:qDZ l with
 |false=>
  rw [hf] at g1
  refine ⟨n1+1,fun n hn=>?_⟩
  obtain ⟨m,rfl,hm⟩:=up1 hn
  have g1:=g1 m (by omega)
  dsimp only at g1⊢
  simp [qCB,qC1,qC,qD,qF,qG,qH,qJ,Option.bind_some,qE,qK,qM,g1]
 |true=>
  rw [hf] at g1
  obtain ⟨q1,q2,q3⟩:=qOW hf hk
  obtain ⟨n2,g2⟩:=qIf q1 12 ((l.length:Int)-1) 0 (by decide) q2 q3
  rw [qPs] at g2
  have hw:IntKind.i64.wrap ((l.length:Int)-1)=(l.length:Int)-1:=qb (by omega)
  refine ⟨n1+n2+1,fun n hn=>?_⟩
  obtain ⟨m,rfl,hm⟩:=up1 hn
  have g1:=g1 m (by omega)
  have g2:=g2 m (by omega)
  dsimp only at g1 g2⊢
  generalize qk l 12 ((l.length:Int)-1) 1=t at*
  simp only [qCB,qC1,qC,qD,qF,qG,qH,qJ,Option.bind_some,qE,qK,qM,g1,List.length_map,hw,g2]
  by_cases h2:(t.size:Int)>200<;>simp [h2]
theorem qJK (l:List Nd) (hl:l.length≤140737488351232) (hk:∀c∈l,(kd c).length≤140737488351232∧c.2.2.2.2.1.size≤140737488351232):Ev (qB8 · (l.map qV)) (qFN l):=by
 obtain ⟨n1,g1⟩:=qES l hl hk
 unfold qFN
 cases hf:qDZ l with
 |false=>
  rw [hf] at g1
  refine ⟨n1+1,fun n hn=>?_⟩
  obtain ⟨m,rfl,hm⟩:=up1 hn
  have g1:=g1 m (by omega)
  dsimp only at g1⊢
  simp [qB8,qCz,qC,qD,qF,qG,qH,qJ,Option.bind_some,qE,qK,qM,g1]
 |true=>
  rw [hf] at g1
  obtain ⟨q1,q2,q3⟩:=qOW hf hk
  obtain ⟨n2,g2⟩:=qFM q1 12 ((l.length:Int)-1) 1 (by decide) q2 q3
  have hw:IntKind.i64.wrap ((l.length:Int)-1)=(l.length:Int)-1:=qb (by omega)
  refine ⟨n1+n2+1,fun n hn=>?_⟩
  obtain ⟨m,rfl,hm⟩:=up1 hn
  have g1:=g1 m (by omega)
  have g2:=g2 m (by omega)
  dsimp only at g1 g2⊢
  generalize qk l 12 ((l.length:Int)-1) 1=t at*
  simp only [qB8,qCz,qC,qD,qF,qG,qH,qJ,Option.bind_some,qE,qK,qM,g1,List.length_map,hw,g2]
  by_cases h2:(t.size:Int)>200<;>simp [h2]
abbrev PS:=List UInt8×Bool×List Nd
def tb (r:List UInt8):List UInt8:=r.dropWhile (· ==32)
def wch (c:UInt8):Bool:=(decide (65≤c.toNat)&&decide (c.toNat≤90))||((decide (48≤c.toNat)&&decide (c.toNat≤57))||c==36)
def wd (r:List UInt8):List UInt8:=r.takeWhile wch
def wr (r:List UInt8):List UInt8:=r.dropWhile wch
def BR (r:List UInt8):ByteArray:=⟨r.toArray⟩
def qD1:List (List UInt8):= [[60,62],[60,61],[62,61],[60],[62],[61],[38],[43],[45],[42],[47],[40],[41],[44],[58]]
def sgn (r:List UInt8):List UInt8:=match qD1.find? (fun w=>w.isPrefixOf r) with|some w=>w|none=> []
def nd1 (v:V3):Nd:=(1,0,v.1,v.2.1,v.2.2,0,0,false,false,0,0,false,false,[])
def ndK (k op:Int) (kids:List Int):Nd:=(k,op,0,0,em,0,0,false,false,0,0,false,false,kids)
def ndC (p:Int×Int×Bool×Bool×Bool):Nd:=(2,0,0,0,em,p.1,p.2.1,p.2.2.1,p.2.2.2.1,0,0,false,false,[])
def ndA (p q:Int×Int×Bool×Bool×Bool):Nd:=(3,0,0,0,em,p.1,p.2.1,p.2.2.1,p.2.2.2.1,q.1,q.2.1,q.2.2.1,q.2.2.2.1,[])
def qBh:List UInt8→List UInt8→Option (List UInt8×List UInt8)
 |_,[]=>none
 |acc,c::t=>if c=34 then (match t with
   |d::t'=>if d=34 then qBh (acc++ [34]) t' else some (acc,t)
   | []=>some (acc,[])) else qBh (acc++ [c]) t
def qGK (r:List UInt8):Int→Nat→Option Int
 |_,0=>none
 |n,k+1=>if (qZ n).toList.isPrefixOf r=true then some n else qGK r (n+1) k
def qE4 (w:List UInt8):Int→Nat→Option Int
 |_,0=>none
 |n,k+1=>if (fnS n).toList=w then some n else qE4 w (n+1) k
def qAN (r:List UInt8):Int:=
 if sgn r= [43] then 1 else if sgn r= [45] then 2 else if sgn r= [42] then 3 else if sgn r= [47] then 4 else if sgn r= [38] then 5 else if sgn r= [61] then 6 else
 if sgn r= [60,62] then 7 else if sgn r= [60] then 8 else if sgn r= [60,61] then 9 else if sgn r= [62] then 10 else if sgn r= [62,61] then 11 else 0
def qX (w:List UInt8) (p:PS):Bool×PS:=if sgn (tb p.1)=w then (true,(tb p.1).drop w.length,p.2) else (false,tb p.1,p.2)
def qCt (x:Nd) (p:PS):Int×PS:=if p.2.1=true∨60≤p.2.2.length then ((p.2.2.length:Int)-1,p.1,true,p.2.2) else ((p.2.2.length:Int),p.1,false,p.2.2++ [x])
def qPT (p:PS):PS:=(p.1,true,p.2.2)
def qBw (w:List UInt8) (p:PS):PS:=if p.2.1=true then p else if (qX w p).1=true then (qX w p).2 else qPT (qX w p).2
def qAz (p:PS):Option Nd×PS:=
 let w:=wd (tb p.1)
 let p1:PS:=(wr (tb p.1),p.2)
 if (qAt (BR w)).2.2.2.2=true∧(qX [58] p1).1=true then
  let p2:=(qX [58] p1).2
  let w2:=wd (tb p2.1)
  (some (ndA (qAt (BR w)) (qAt (BR w2))),wr (tb p2.1),p2.2.1||!(qAt (BR w2)).2.2.2.2,p2.2.2)
 else (none,p)
def qDN (o:Option Nd×PS) (g:PS→Int×PS):Int×PS:=match o.1 with
 |some x=>qCt x o.2
 |none=>g o.2
inductive PJ where
 |bin (least deep:Int)
 |loop (least deep a:Int)
 |un (deep:Int)
 |at (deep:Int)
 |call (op deep:Int)
 |args (op deep:Int) (kids:List Int)
def pP:Nat→PJ→PS→Int×PS
 |0,_,p=>(0,p)
 |f+1,.bin least deep,p=>pP f (.loop least deep (pP f (.un deep) p).1) (pP f (.un deep) p).2
 |f+1,.loop least deep a,p=>
  if p.2.1=true then (a,p) else
  if qAN (tb p.1)=0∨lvl (qAN (tb p.1))<least then (a,tb p.1,p.2) else
  let p1:PS:=((tb p.1).drop (sgn (tb p.1)).length,p.2)
  let q:=pP f (.bin (lvl (qAN (tb p.1))+1) deep) p1
  let c:=qCt (ndK 5 (qAN (tb p.1)) [a,q.1]) q.2
  pP f (.loop least deep c.1) c.2
 |f+1,.un deep,p=>
  if deep>400∨p.2.1=true then (-1,qPT p) else
  if (qX [45] p).1=true then
   let q:=pP f (.un (deep+1)) (qX [45] p).2
   qCt (ndK 4 0 [q.1]) q.2
  else pP f (.at deep) (qX [45] p).2
 |f+1,.at deep,p=>
  let r:=tb p.1
  if r.head?=some 34 then (match qBh [] r.tail with
   |none=>(-1,r,true,p.2.2)
   |some (s,t)=>qCt (nd1 (2,0,BR s)) (t,p.2))
  else match (if r.head?=some 35 then qGK r 1 5 else none) with
  |some n=>qCt (nd1 (4,n,em)) (r.drop (qZ n).size,p.2)
  |none=>
   if r.head?≠some 35∧(qX [40] p).1=true then
    let q:=pP f (.bin 1 (deep+1)) (qX [40] p).2
    (q.1,qBw [41] q.2)
   else
    let w:=wd r
    let p2:PS:=(wr r,p.2)
    if (qh (BR w)).2.2.2=true∧((qh (BR w)).1=1∨(qh (BR w)).1=3) then qCt (nd1 ((qh (BR w)).1,(qh (BR w)).2.1,(qh (BR w)).2.2.1)) p2
    else if (qAt (BR w)).2.2.2.2=true then qCt (ndC (qAt (BR w))) p2
    else match qE4 w 1 10 with
    |some op=>pP f (.call op deep) p2
    |none=>(-1,qPT p2)
 |f+1,.call op deep,p=>pP f (.args op deep []) (qBw [40] p)
 |f+1,.args op deep kids,p=>
  if p.2.1=true then qCt (ndK 6 op kids) p else
  let q:=qDN (qAz p) (fun p=>pP f (.bin 1 (deep+1)) p)
  if (qX [44] q.2).1=true then pP f (.args op deep (kids++ [q.1])) (qX [44] q.2).2
  else qCt (ndK 6 op (kids++ [q.1])) (qBw [41] (qX [44] q.2).2)
def sIs (w:List UInt8) (q:PS):Bool×PS:=if q.2.1=true then (false,tb q.1,q.2) else if w.isPrefixOf (tb q.1)=true then (true,(tb q.1).drop w.length,q.2) else (false,tb q.1,q.2)
def qDq (x:Nd) (q:PS):Int×PS:=((q.2.2.length:Int),q.1,(if 60<q.2.2.length+1∨qB2 x=false then true else q.2.1),q.2.2++ [x])
def qJ4 (q:PS):PS:=(q.1,true,q.2.2)
def qBy:List Int:= [7,9,11,6,8,10,1,2,3,4,5]
def qDX (level:Int) (r:List UInt8):List Int→Int
 | []=>0
 |o::l=>if lvl o=level∧(qj o).toList.isPrefixOf r=true then o else qDX level r l
def sOp (level:Int) (q:PS):Int×PS:=
 if q.2.1=true then (0,tb q.1,q.2) else
 (qDX level (tb q.1) qBy,(if qDX level (tb q.1) qBy=0 then tb q.1 else (tb q.1).drop (qj (qDX level (tb q.1) qBy)).size),q.2)
def qO1 (r:List UInt8):Int→Nat→Option Int
 |_,0=>none
 |n,k+1=>if (qZ n).toList.tail.isPrefixOf r=true then some n else qO1 r (n+1) k
inductive SJ where
 |row (level:Int)
 |rl (level a:Int)
 |one
 |call (op:Int) (kids:List Int)
 |arg
def sP:Nat→SJ→PS→Int×PS
 |0,_,q=>(0,q)
 |f+1,.row level,q=>
  if q.2.1=true then (0,q) else
  if level=5 then sP f .one q else
  sP f (.rl level (sP f (.row (level+1)) q).1) (sP f (.row (level+1)) q).2
 |f+1,.rl level a,q=>
  if q.2.1=true then (a,q) else
  let o:=sOp level q
  if o.1=0 then (a,o.2) else
  let b:=sP f (.row (level+1)) o.2
  let c:=qDq (ndK 5 o.1 [a,b.1]) b.2
  sP f (.rl level c.1) c.2
 |f+1,.one,q=>
  if (sIs [45] q).1=true then
   let b:=sP f (.row 5) (sIs [45] q).2
   qDq (ndK 4 0 [b.1]) b.2
  else if (sIs [40] (sIs [45] q).2).1=true then
   let b:=sP f (.row 1) (sIs [40] (sIs [45] q).2).2
   (b.1,if (sIs [41] b.2).1=true then (sIs [41] b.2).2 else qJ4 (sIs [41] b.2).2)
  else
   let q2:PS:=(tb q.1,q.2)
   if (sIs [34] q2).1=true then (match qBh [] (sIs [34] q2).2.1 with
    |none=>(0,[],true,q.2.2)
    |some (s,t)=>qDq (nd1 (2,0,BR s)) (t,q.2))
   else if (sIs [35] q2).1=true then (match qO1 (sIs [35] q2).2.1 1 5 with
    |some n=>qDq (nd1 (4,n,em)) ((sIs [35] q2).2.1.drop ((qZ n).size-1),q.2)
    |none=>(0,(sIs [35] q2).2.1,true,q.2.2))
   else
    let w:=wd (tb q.1)
    let q3:PS:=(wr (tb q.1),q.2)
    match qE4 w 1 10 with
    |some op=>if (sIs [40] q3).1=true then sP f (.call op []) (sIs [40] q3).2 else (0,qJ4 (sIs [40] q3).2)
    |none=>
     if (qh (BR w)).2.2.2=true∧w≠ [] then qDq (nd1 ((qh (BR w)).1,(qh (BR w)).2.1,(qh (BR w)).2.2.1)) q3
     else if (qAt (BR w)).2.2.2.2=true then qDq (ndC (qAt (BR w))) q3
     else (0,qJ4 q3)
 |f+1,.call op kids,q=>
  if q.2.1=true then (0,q) else
  let a:=sP f .arg q
  if (sIs [41] a.2).1=true then qDq (ndK 6 op (kids++ [a.1])) (sIs [41] a.2).2
  else sP f (.call op (kids++ [a.1])) (if (sIs [44] (sIs [41] a.2).2).1=true then (sIs [44] (sIs [41] a.2).2).2 else qJ4 (sIs [44] (sIs [41] a.2).2).2)
 |f+1,.arg,q=>
  let w:=wd (tb q.1)
  let q1:PS:=(wr (tb q.1),q.2)
  if (qAt (BR w)).2.2.2.2=true∧(sIs [58] q1).1=true then
   let q2:=(sIs [58] q1).2
   let w2:=wd (tb q2.1)
   if (qAt (BR w2)).2.2.2.2=true then qDq (ndA (qAt (BR w)) (qAt (BR w2))) (wr (tb q2.1),q2.2) else (0,wr (tb q2.1),true,q2.2.2)
  else sP f (.row 1) (tb q.1,q.2)
theorem qCH:∀r:List UInt8,tb (tb r)=tb r
 | []=>rfl
 |c::r=>by
  unfold tb
  by_cases h:(c==32)=true
  ·simp only [List.dropWhile_cons,h,if_true];exact qCH r
  ·simp [List.dropWhile_cons,h]
theorem qy:∀r:List UInt8,(tb r).length≤r.length
 | []=>Nat.le_refl _
 |c::r=>by
  unfold tb
  by_cases h:(c==32)=true
  ·simp only [List.dropWhile_cons,h,if_true];exact Nat.le_succ_of_le (qy r)
  ·simp [List.dropWhile_cons,h]
theorem qNx {p:UInt8→Bool}:∀r:List UInt8,(r.dropWhile p).length≤r.length
 | []=>Nat.le_refl _
 |c::r=>by
  by_cases h:p c=true
  ·simp only [List.dropWhile_cons,h,if_true];exact Nat.le_succ_of_le (qNx r)
  ·simp [List.dropWhile_cons,h]
theorem qF1 (r:List UInt8):(wr r).length≤r.length:=qNx r
theorem wdr (r:List UInt8):wd r++wr r=r:=List.takeWhile_append_dropWhile
theorem qET (c:UInt8) (t:List UInt8) (h1:c≠60) (h2:c≠62):sgn (c::t)=if c∈([61,38,43,45,42,47,40,41,44,58]:List UInt8) then [c] else []:=by
 have e1:(60==c)=false:=by simpa using fun e=>h1 e.symm
 have e2:(62==c)=false:=by simpa using fun e=>h2 e.symm
 by_cases h:c∈([61,38,43,45,42,47,40,41,44,58]:List UInt8)
 ·rw [if_pos h]
  simp only [List.mem_cons,List.not_mem_nil,or_false] at h
  rcases h with rfl|rfl|rfl|rfl|rfl|rfl|rfl|rfl|rfl|rfl<;>rfl
 ·rw [if_neg h]
  simp only [List.mem_cons,List.not_mem_nil,or_false,not_or] at h
  obtain ⟨a1,a2,a3,a4,a5,a6,a7,a8,a9,a10⟩:=h
  have f:∀d:UInt8,c≠d→(d==c)=false:=fun d hd=>by simpa using fun e=>hd e.symm
  simp [sgn,qD1,List.find?,List.isPrefixOf,e1,e2,f _ a1,f _ a2,f _ a3,f _ a4,f _ a5,f _ a6,f _ a7,f _ a8,f _ a9,f _ a10]
theorem qIg (t:List UInt8):sgn (60::t)=if t.head?=some 62 then [60,62] else if t.head?=some 61 then [60,61] else [60]:=by
 cases t with
 |nil=>rfl
 |cons d t=>
  by_cases h:d=62
  ·subst h;rfl
  ·by_cases h2:d=61
   ·subst h2;rfl
   ·have e1:(62==d)=false:=by simpa using fun e=>h e.symm
    have e2:(61==d)=false:=by simpa using fun e=>h2 e.symm
    simp [sgn,qD1,List.find?,List.isPrefixOf,e1,e2,h,h2]
theorem qLi (t:List UInt8):sgn (62::t)=if t.head?=some 61 then [62,61] else [62]:=by
 cases t with
 |nil=>rfl
 |cons d t=>
  by_cases h2:d=61
  ·subst h2;rfl
  ·have e2:(61==d)=false:=by simpa using fun e=>h2 e.symm
   simp [sgn,qD1,List.find?,List.isPrefixOf,e2,h2]
theorem qPt {c:UInt8} (hc:c∈([45,40,41,44,58]:List UInt8)) (r:List UInt8):(sgn r= [c])↔([c].isPrefixOf r=true):=by
 cases r with
 |nil=>
  have:sgn []= []:=rfl
  rw [this]
  simp [List.isPrefixOf]
 |cons d t=>
  have hcc:c≠60∧c≠62∧c∈([61,38,43,45,42,47,40,41,44,58]:List UInt8):=by
   simp only [List.mem_cons,List.not_mem_nil,or_false] at hc
   rcases hc with rfl|rfl|rfl|rfl|rfl<;>decide
  have e:([c].isPrefixOf (d::t)=true)↔c=d:=by simp [List.isPrefixOf]
  rw [e]
  by_cases h1:d=60
  ·subst h1
   rw [qIg]
   constructor
   ·intro h;split at h
    ·cases h
    ·split at h
     ·cases h
     ·simp only [List.cons.injEq,and_true] at h;exact absurd h.symm hcc.1
   ·intro h;exact absurd h hcc.1
  ·by_cases h2:d=62
   ·subst h2
    rw [qLi]
    constructor
    ·intro h;split at h
     ·cases h
     ·simp only [List.cons.injEq,and_true] at h;exact absurd h.symm hcc.2.1
    ·intro h;exact absurd h hcc.2.1
   ·rw [qET d t h1 h2]
    constructor
    ·intro h;split at h
     ·simp only [List.cons.injEq,and_true] at h;exact h.symm
     ·cases h
    ·intro h;subst h;rw [if_pos hcc.2.2]
theorem qRE {c:UInt8} (hc:c∈([45,40,41,44,58]:List UInt8)) {p q:PS} (hb:q.2.1=false) (ht:tb p.1=tb q.1):(qX [c] p).1=(sIs [c] q).1∧(qX [c] p).2.1=(sIs [c] q).2.1∧(qX [c] p).2.2=p.2∧(sIs [c] q).2.2=q.2:=by
 have h:=qPt hc (tb q.1)
 unfold qX sIs
 rw [ht,hb]
 by_cases hs:sgn (tb q.1)= [c]
 ·rw [if_pos hs,if_neg (by simp),if_pos (h.1 hs)]
  exact ⟨rfl,rfl,rfl,rfl⟩
 ·rw [if_neg hs,if_neg (by simp),if_neg (fun e=>hs (h.2 e))]
  exact ⟨rfl,rfl,rfl,rfl⟩
theorem qDO {w:List UInt8} (hw:w≠ []) {p:PS} (h:(qX w p).1=true):(qX w p).2.1.length<(tb p.1).length:=by
 unfold qX at h⊢
 by_cases hs:sgn (tb p.1)=w
 ·rw [if_pos hs]
  have hp:w.isPrefixOf (tb p.1)=true:=by
   unfold sgn at hs
   split at hs
   ·rename_i x hx
    subst hs
    have:=List.find?_some hx
    simpa using this
   ·exact absurd hs.symm hw
  obtain ⟨t,ht⟩:=List.isPrefixOf_iff_prefix.1 hp
  have h0:0<w.length:=List.length_pos_iff.2 hw
  have h1:=congrArg List.length ht
  simp only [List.length_append] at h1
  simp only [List.length_drop]
  omega
 ·rw [if_neg hs] at h;cases h
theorem qHb (w:List UInt8) (p:PS):(qX w p).2.1.length≤(tb p.1).length:=by
 unfold qX
 split
 ·simp
 ·exact Nat.le_refl _
theorem qPu (r:List UInt8):(qAN r=0)∨(1≤qAN r∧qAN r≤11∧sgn r=(qj (qAN r)).toList):=by
 unfold qAN
 repeat' (split; · rename_i h;right;rw [h];exact ⟨by decide,by decide,by decide+kernel⟩)
 left;rfl
theorem sg1:(qj 1).toList= [43]:=by decide+kernel
theorem sg2:(qj 2).toList= [45]:=by decide+kernel
theorem sg3:(qj 3).toList= [42]:=by decide+kernel
theorem sg4:(qj 4).toList= [47]:=by decide+kernel
theorem sg5:(qj 5).toList= [38]:=by decide+kernel
theorem sg6:(qj 6).toList= [61]:=by decide+kernel
theorem sg7:(qj 7).toList= [60,62]:=by decide+kernel
theorem sg8:(qj 8).toList= [60]:=by decide+kernel
theorem sg9:(qj 9).toList= [60,61]:=by decide+kernel
theorem qPU:(qj 10).toList= [62]:=by decide+kernel
theorem qPV:(qj 11).toList= [62,61]:=by decide+kernel
theorem qGk (r:List UInt8):qDX 1 r qBy=if [60,62].isPrefixOf r=true then 7 else if [60,61].isPrefixOf r=true then 9 else if [62,61].isPrefixOf r=true then 11 else if [61].isPrefixOf r=true then 6 else if [60].isPrefixOf r=true then 8 else if [62].isPrefixOf r=true then 10 else 0:=by
 simp [qDX,qBy,lvl,sg1,sg2,sg3,sg4,sg5,sg6,sg7,sg8,sg9,qPU,qPV]
theorem qGl (r:List UInt8):qDX 2 r qBy=if [38].isPrefixOf r=true then 5 else 0:=by
 simp [qDX,qBy,lvl,sg1,sg2,sg3,sg4,sg5,sg6,sg7,sg8,sg9,qPU,qPV]
theorem qGm (r:List UInt8):qDX 3 r qBy=if [43].isPrefixOf r=true then 1 else if [45].isPrefixOf r=true then 2 else 0:=by
 simp [qDX,qBy,lvl,sg1,sg2,sg3,sg4,sg5,sg6,sg7,sg8,sg9,qPU,qPV]
theorem qGn (r:List UInt8):qDX 4 r qBy=if [42].isPrefixOf r=true then 3 else if [47].isPrefixOf r=true then 4 else 0:=by
 simp [qDX,qBy,lvl,sg1,sg2,sg3,sg4,sg5,sg6,sg7,sg8,sg9,qPU,qPV]
end Go.Proofs.YthhngmnbcmkhpaaGreatDoor.KFnFormulaTexts

