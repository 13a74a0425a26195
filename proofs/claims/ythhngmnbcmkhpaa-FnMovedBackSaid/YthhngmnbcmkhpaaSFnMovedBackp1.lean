import Derived.Test.YthhngmnbcmkhpaaTFnMovedBack
import Derived.Test.YthhngmnbcmkhpaaE32
import Derived.Lib.Strings
import Derived.Test.YthhngmnbcmkhpaaE33
namespace Go.Proofs.Ythhngmnbcmkhpaa.KFnMovedBack
open Go.Eng
set_option linter.unusedVariables false
set_option linter.unusedSimpArgs false
def Ev {R:Type} (F:Nat→Option R) (r:R):Prop:=∃n0,∀n,n0≤n→F n=some r
theorem qAf (s:ByteArray):s.toList.length=s.size:=by rw [Go.Lib.toList_data];rfl
theorem qBB:(ByteArray.mk #[]).toList= []:=by decide+kernel
theorem qY {x:Int} (h: -9223372036854775808≤x∧x≤9223372036854775807):IntKind.i64.wrap x=x:=by
 unfold IntKind.wrap
 have e1:(2:Int)^(64-1)=9223372036854775808:=by decide
 have e2:(2:Int)^64=18446744073709551616:=by decide
 simp only [IntKind.signed,IntKind.bits,Bool.true_and,decide_eq_true_eq,e1,e2]
 split<;>omega
theorem qHr (x:Int): -9223372036854775808≤IntKind.i64.wrap x∧IntKind.i64.wrap x≤9223372036854775807:=by
 unfold IntKind.wrap
 have e1:(2:Int)^(64-1)=9223372036854775808:=by decide
 have e2:(2:Int)^64=18446744073709551616:=by decide
 simp only [IntKind.signed,IntKind.bits,Bool.true_and,decide_eq_true_eq,e1,e2]
 split<;>omega
theorem qJs {s:ByteArray} {i:Nat} (h:i<s.size):∃c,s.toList[i]?=some c:=⟨_,List.getElem?_eq_getElem (by rw [qAf];exact h)⟩
theorem qEl {α:Type} {s:List α} {i:Nat} {c:α} (h:s[i]?=some c):s.drop i=c::s.drop (i+1):=by
 obtain ⟨h1,rfl⟩:=List.getElem?_eq_some_iff.1 h
 exact List.drop_eq_getElem_cons h1
theorem qb {V R:Type} {B:V→Tr (V⊕R)} {m:Nat} {v v':V} (h:(B v).run=some (.inl v')):zF B (m+1) v=zF B m v':=by simp only [zF,h]
theorem qP {V R:Type} {B:V→Tr (V⊕R)} {m:Nat} {v:V} {r:R} (h:(B v).run=some (.inr r)):zF B (m+1) v=some r:=by simp only [zF,h]
theorem up1 {n n0:Nat} (h:n0+1≤n):∃m,n=m+1∧n0≤m:=⟨n-1,by omega,by omega⟩
theorem qA {α:Type} (x:α):(Tr.done x).run=some x:=rfl
theorem qC {α:Type}:(Tr.fail:Tr α).run=none:=rfl
theorem qF {α:Type} (b:Bool) (t f:Tr α):(Tr.ask b t f).run=if b=true then t.run else f.run:=by cases b<;>rfl
theorem qG {α β:Type} (o:Option β) (k:β→Tr α):(Tr.opt o k).run=o.bind fun x=>(k x).run:=by cases o<;>rfl
theorem qH {α β γ:Type} (x:β) (k:β→Tr α) (l:γ→Tr α):(Tr.alt (.inl x) k l).run=(k x).run:=rfl
theorem qJ {α β γ:Type} (x:γ) (k:β→Tr α) (l:γ→Tr α):(Tr.alt (.inr x) k l).run=(l x).run:=rfl
theorem qA0 {α R:Type} {F:α→Nat→Option R} {f:α→R}:∀(l:List α),(∀c∈l,Ev (F c) (f c))→∃n0,∀n,n0≤n→∀c∈l,F c n=some (f c)
 | [],_=>⟨0,fun n _ c hc=>by cases hc⟩
 |a::l,h=>by
  obtain ⟨n1,h1⟩:=h a (List.mem_cons_self ..)
  obtain ⟨n2,h2⟩:=qA0 l fun c hc=>h c (List.mem_cons_of_mem _ hc)
  exact ⟨n1+n2,fun n hn c hc=>by
   rcases List.mem_cons.1 hc with rfl|hc
   ·exact h1 n (by omega)
   ·exact h2 n (by omega) c hc⟩
theorem qKL {R:Type} {B:List (List PV)×List (List PV)×Int→Tr ((List (List PV)×List (List PV)×Int)⊕R)} {rows:List (List PV)} {r:R}
  (hs:∀(i:Nat) (e:List PV),rows[i]?=some e→(B (rows,rows,(i:Int))).run=some (.inl (rows,rows,((i+1:Nat):Int)))) (he:(B (rows,rows,(rows.length:Int))).run=some (.inr r)):
  ∀(m i M:Nat),rows.length=i+m→m+1≤M→zF B M (rows,rows,(i:Int))=some r
 |m,i,0,h1,h2=>by omega
 |0,i,M+1,h1,h2=>by
  have hi:i=rows.length:=by omega
  subst hi
  rw [qP he]
 |m+1,i,M+1,h1,h2=>by
  have hg:=List.getElem?_eq_getElem (l:=rows) (i:=i) (by omega)
  rw [qb (hs i _ hg)]
  exact qKL hs he m (i+1) M (by omega) (by omega)
theorem qD {α β:Type} {o:Option β} {x:β} {k:β→Tr α} {y:Option α} (h:o=some x) (h2:(k x).run=y):(Tr.opt o k).run=y:=by rw [h];exact h2
theorem qN {α:Type} {b:Bool} {t f:Tr α} {y:Option α} (h:b=true) (h2:t.run=y):(Tr.ask b t f).run=y:=by rw [h];exact h2
theorem qT {α:Type} {b:Bool} {t f:Tr α} {y:Option α} (h:b=false) (h2:f.run=y):(Tr.ask b t f).run=y:=by rw [h];exact h2
theorem qE (b:Bool):zAO (⟨(.c (.p (.b b))),[],[]⟩:Res)=true:=rfl
theorem qK (x:Int):zAO (⟨(.c (.p (.i .i64 x))),[],[]⟩:Res)=true:=rfl
theorem qM (x:ByteArray):zAO (⟨(.c (.p (.s x))),[],[]⟩:Res)=true:=rfl
theorem qA1 (x lo hi:Int):Ev (qAK · x lo hi) (decide (lo≤x∧x≤hi)):=by
 refine ⟨1,fun n hn=>?_⟩
 obtain ⟨m,rfl,hm⟩:=up1 hn
 simp only [qAK,qD6,qA,qC,qF,qG,qH,qJ,Option.bind_some,qE,qK,qM]
 by_cases h:x≥lo<;>simp [h]
theorem qz (x lo hi:Int):Ev (qv · x lo hi) (decide (lo≤x∧x≤hi)):=by
 refine ⟨1,fun n hn=>?_⟩
 obtain ⟨m,rfl,hm⟩:=up1 hn
 simp only [qv,qEP,qA,qC,qF,qG,qH,qJ,Option.bind_some,qE,qK,qM]
 by_cases h:x≥lo<;>simp [h]
def okc (c:UInt8):Bool:=decide (32≤c.toNat∧c.toNat≤126)
def qDV (s:ByteArray) (most:Int):Bool:=s.toList.all okc&&decide ((s.size:Int)≤most)
def okV (k n:Int) (s:ByteArray):Bool:=
 if k=2 then decide (n=0)&&qDV s 200 else (s.toList== [])&&(if k=0 then decide (n=0) else if k=1 then decide (-1000000000000000≤n∧n≤1000000000000000) else if k=3 then decide (0≤n∧n≤1) else if k=4 then decide (1≤n∧n≤5) else false)
theorem qG5 (n:Nat) (s:ByteArray) (hb:s.size≤140737488355328):∀(m i M:Nat),s.size=i+m→m+1≤M→
  zF (qAb n) M (s,(i:Int))=some (if (s.toList.drop i).all okc then .inr s else .inl false)
 |m,i,0,h1,h2=>by omega
 |0,i,M+1,h1,h2=>by
  rw [qP (r:= .inr s) (by simp [qAb,qA,qC,qF,qG,qH,qJ,Option.bind_some,qE,qK,qM,show ¬((i:Int)<s.size) by omega])]
  rw [List.drop_eq_nil_of_le (by rw [qAf];omega)]
  rfl
 |m+1,i,M+1,h1,h2=>by
  obtain ⟨c,hc⟩:=qJs (s:=s) (i:=i) (by omega)
  have hi:(i:Int)<s.size:=by omega
  rw [qEl hc]
  by_cases c1:(c.toNat:Int)<32
  ·rw [qP (r:= .inl false) (by simp [qAb,qA,qC,qF,qG,qH,qJ,Option.bind_some,qE,qK,qM,hi,hc,c1])]
   have:okc c=false:=by simp [okc];omega
   simp [this]
  ·by_cases c2:(c.toNat:Int)>126
   ·rw [qP (r:= .inl false) (by simp [qAb,qA,qC,qF,qG,qH,qJ,Option.bind_some,qE,qK,qM,hi,hc,c1,c2])]
    have:okc c=false:=by simp [okc];omega
    simp [this]
   ·have hw:IntKind.i64.wrap ((i:Int)+1)=((i+1:Nat):Int):=by rw [qY (by omega)];omega
    rw [qb (v':=(s,((i+1:Nat):Int))) (by simp [qAb,qA,qC,qF,qG,qH,qJ,Option.bind_some,qE,qK,qM,hi,hc,c1,c2,hw])]
    rw [qG5 n s hb m (i+1) M (by omega) (by omega)]
    have:okc c=true:=by simp [okc];omega
    simp [this]
theorem qHs (s:ByteArray) (hb:s.size≤140737488355328):Ev (qBk · s) (qDV s 200):=by
 refine ⟨s.size+2,fun n hn=>?_⟩
 obtain ⟨m,rfl,hm⟩:=up1 hn
 have h:=qG5 m s hb s.size 0 m (by omega) (by omega)
 simp only [qBk,qDe,qA,qC,qF,qG,qH,qJ,Option.bind_some,qE,qK,qM]
 simp only [Int.natCast_zero,List.drop_zero] at h
 rw [h]
 cases hc:s.toList.all okc<;>simp [qA,qC,qF,qG,qH,qJ,Option.bind_some,qE,qK,qM,qDV,hc]
theorem qFF (s:ByteArray) (hb:s.size≤140737488351232):Ev (qBk · s) (qDV s 200):=qHs s (by omega)
theorem qH2 (n:Nat) (s:ByteArray) (y:Int) (hb:s.size≤140737488355328):∀(m i M:Nat),s.size=i+m→m+1≤M→
  zF (qAx n) M (s,y,(s.size:Int),(i:Int))=some (if (s.toList.drop i).all okc then .inr (s,y) else .inl false)
 |m,i,0,h1,h2=>by omega
 |0,i,M+1,h1,h2=>by
  rw [qP (r:= .inr (s,y)) (by simp [qAx,qA,qC,qF,qG,qH,qJ,Option.bind_some,qE,qK,qM,show ¬((i:Int)<s.size) by omega])]
  rw [List.drop_eq_nil_of_le (by rw [qAf];omega)]
  rfl
 |m+1,i,M+1,h1,h2=>by
  obtain ⟨c,hc⟩:=qJs (s:=s) (i:=i) (by omega)
  have hi:(i:Int)<s.size:=by omega
  rw [qEl hc]
  by_cases c1:(c.toNat:Int)<32
  ·rw [qP (r:= .inl false) (by simp [qAx,qA,qC,qF,qG,qH,qJ,Option.bind_some,qE,qK,qM,hi,hc,c1])]
   have:okc c=false:=by simp [okc];omega
   simp [this]
  ·by_cases c2:(c.toNat:Int)>126
   ·rw [qP (r:= .inl false) (by simp [qAx,qA,qC,qF,qG,qH,qJ,Option.bind_some,qE,qK,qM,hi,hc,c1,c2])]
    have:okc c=false:=by simp [okc];omega
    simp [this]
   ·have hw:IntKind.i64.wrap ((i:Int)+1)=((i+1:Nat):Int):=by rw [qY (by omega)];omega
    rw [qb (v':=(s,y,(s.size:Int),((i+1:Nat):Int))) (by simp [qAx,qA,qC,qF,qG,qH,qJ,Option.bind_some,qE,qK,qM,hi,hc,c1,c2,hw])]
    rw [qH2 n s y hb m (i+1) M (by omega) (by omega)]
    have:okc c=true:=by simp [okc];omega
    simp [this]
theorem qIV (s:ByteArray) (y:Int) (hb:s.size≤140737488355328):Ev (qCY · s y) (qDV s y):=by
 refine ⟨s.size+2,fun n hn=>?_⟩
 obtain ⟨m,rfl,hm⟩:=up1 hn
 have h:=qH2 m s y hb s.size 0 m (by omega) (by omega)
 simp only [qCY,qEQ,qA,qC,qF,qG,qH,qJ,Option.bind_some,qE,qK,qM]
 simp only [Int.natCast_zero,List.drop_zero] at h
 rw [h]
 cases hc:s.toList.all okc<;>simp [qA,qC,qF,qG,qH,qJ,Option.bind_some,qE,qK,qM,qDV,hc]
theorem qI7 (s:ByteArray) (y:Int) (hb:s.size≤140737488351232):Ev (qCY · s y) (qDV s y):=qIV s y (by omega)
theorem qBC (k x:Int) (s:ByteArray) (hb:s.size≤140737488351232):Ev (qd · k x s) (okV k x s):=by
 obtain ⟨n1,h1⟩:=qA1 x (-1000000000000000) 1000000000000000
 obtain ⟨n2,h2⟩:=qA1 x 0 1
 obtain ⟨n3,h3⟩:=qA1 x 1 5
 obtain ⟨n4,h4⟩:=qFF s hb
 refine ⟨n1+n2+n3+n4+1,fun n hn=>?_⟩
 obtain ⟨m,rfl,hm⟩:=up1 hn
 have h1:=h1 m (by omega)
 dsimp only at h1
 have h2:=h2 m (by omega)
 dsimp only at h2
 have h3:=h3 m (by omega)
 dsimp only at h3
 have h4:=h4 m (by omega)
 dsimp only at h4
 simp only [qd,qDg,qA,qC,qF,qG,qH,qJ,Option.bind_some,qE,qK,qM,h1,h2,h3,h4]
 simp only [okV,qBB]
 by_cases k2:k=2
 ·subst k2
  by_cases x0:x=0<;>simp [x0]
 ·by_cases k0:k=0
  ·subst k0
   by_cases x0:x=0<;>simp [x0]
  ·by_cases k1:k=1
   ·subst k1
    by_cases hx: -1000000000000000≤x∧x≤1000000000000000<;>simp [hx]
   ·by_cases k3:k=3
    ·subst k3
     by_cases hx:0≤x∧x≤1<;>simp [hx]
    ·by_cases k4:k=4
     ·subst k4
      by_cases hx:1≤x∧x≤5<;>simp [hx]
     ·simp [k0,k1,k2,k3,k4]
theorem qIW (k x:Int) (s:ByteArray) (hb:s.size≤140737488351232):Ev (qCs · k x s) (okV k x s):=by
 obtain ⟨n1,h1⟩:=qz x (-1000000000000000) 1000000000000000
 obtain ⟨n2,h2⟩:=qz x 0 1
 obtain ⟨n3,h3⟩:=qz x 1 5
 obtain ⟨n4,h4⟩:=qI7 s 200 hb
 refine ⟨n1+n2+n3+n4+1,fun n hn=>?_⟩
 obtain ⟨m,rfl,hm⟩:=up1 hn
 have h1:=h1 m (by omega)
 dsimp only at h1
 have h2:=h2 m (by omega)
 dsimp only at h2
 have h3:=h3 m (by omega)
 dsimp only at h3
 have h4:=h4 m (by omega)
 dsimp only at h4
 simp only [qCs,qDn,qA,qC,qF,qG,qH,qJ,Option.bind_some,qE,qK,qM,h1,h2,h3,h4]
 simp only [okV,qBB]
 by_cases k2:k=2
 ·subst k2
  by_cases x0:x=0<;>simp [x0]
 ·by_cases he:s.toList= []
  ·by_cases k0:k=0
   ·subst k0
    by_cases x0:x=0<;>simp [x0,he]
   ·by_cases k1:k=1
    ·subst k1;simp [he]
    ·by_cases k3:k=3
     ·subst k3;simp [he]
     ·by_cases k4:k=4
      ·subst k4;simp [he]
      ·simp [k0,k1,k2,k3,k4,he]
  ·simp [k2,he]
abbrev V3:=Int×Int×ByteArray
def em:ByteArray:=⟨#[]⟩
theorem qFG (x:Int):Ev (qBL · x) (4,x,em):=by
 refine ⟨1,fun n hn=>?_⟩
 obtain ⟨m,rfl,hm⟩:=up1 hn
 simp only [qBL,qDh,qA,qC,qF,qG,qH,qJ,Option.bind_some,qE,qK,qM]
 rfl
theorem qJo (x:Int):Ev (qCv · x) (4,x,em):=by
 refine ⟨1,fun n hn=>?_⟩
 obtain ⟨m,rfl,hm⟩:=up1 hn
 simp only [qCv,qEx,qA,qC,qF,qG,qH,qJ,Option.bind_some,qE,qK,qM]
 rfl
def qA3 (c r:Int):Bool:=decide (1≤c∧c≤52)&&decide (1≤r∧r≤99)
def qCF (a b c d:Int):Bool:=qA3 a b&&qA3 c d&&decide (a≤c)&&decide (b≤d)
theorem qB7 (c r:Int):Ev (qx · c r) (qA3 c r):=by
 obtain ⟨n1,h1⟩:=qA1 c 1 52
 obtain ⟨n2,h2⟩:=qA1 r 1 99
 refine ⟨n1+n2+1,fun n hn=>?_⟩
 obtain ⟨m,rfl,hm⟩:=up1 hn
 have h1:=h1 m (by omega)
 dsimp only at h1
 have h2:=h2 m (by omega)
 dsimp only at h2
 simp only [qx,qEs,qA,qC,qF,qG,qH,qJ,Option.bind_some,qE,qK,qM,h1,h2]
 unfold qA3
 cases decide (1≤c∧c≤52)<;>simp
theorem qGR (c r:Int):Ev (qCt · c r) (qA3 c r):=by
 obtain ⟨n1,h1⟩:=qz c 1 52
 obtain ⟨n2,h2⟩:=qz r 1 99
 refine ⟨n1+n2+1,fun n hn=>?_⟩
 obtain ⟨m,rfl,hm⟩:=up1 hn
 have h1:=h1 m (by omega)
 dsimp only at h1
 have h2:=h2 m (by omega)
 dsimp only at h2
 simp only [qCt,qEv,qA,qC,qF,qG,qH,qJ,Option.bind_some,qE,qK,qM,h1,h2]
 unfold qA3
 cases decide (1≤c∧c≤52)<;>simp
theorem qI8 (a b c d:Int):Ev (qDH · a b c d) (qCF a b c d):=by
 obtain ⟨n1,h1⟩:=qB7 a b
 obtain ⟨n2,h2⟩:=qB7 c d
 refine ⟨n1+n2+1,fun n hn=>?_⟩
 obtain ⟨m,rfl,hm⟩:=up1 hn
 have h1:=h1 m (by omega)
 dsimp only at h1
 have h2:=h2 m (by omega)
 dsimp only at h2
 simp only [qDH,qEI,qA,qC,qF,qG,qH,qJ,Option.bind_some,qE,qK,qM,h1,h2]
 unfold qCF
 cases qA3 a b<;>cases qA3 c d<;>by_cases h:a≤c<;>simp [h]
theorem qC0 (a b c d:Int):Ev (qCZ · a b c d) (qCF a b c d):=by
 obtain ⟨n1,h1⟩:=qGR a b
 obtain ⟨n2,h2⟩:=qGR c d
 refine ⟨n1+n2+1,fun n hn=>?_⟩
 obtain ⟨m,rfl,hm⟩:=up1 hn
 have h1:=h1 m (by omega)
 dsimp only at h1
 have h2:=h2 m (by omega)
 dsimp only at h2
 simp only [qCZ,qER,qA,qC,qF,qG,qH,qJ,Option.bind_some,qE,qK,qM,h1,h2]
 unfold qCF
 cases qA3 a b<;>cases qA3 c d<;>by_cases h:a≤c<;>simp [h]
def qMj (x y:Int):Int:=if x<y then-1 else if x>y then 1 else 0
def qM6 (x y:ByteArray):Int:=if Op.bytesLess x.toList y.toList=true then-1 else if x.toList=y.toList then 0 else 1
def qLC:List Int→Int
 | []=>0
 |x::r=>if x≠0 then x else qLC r
def qM7 (k x:Int) (s:ByteArray) (k' x':Int) (s':ByteArray):Int:=qLC [qMj k k',qMj x x',qM6 s s']
def qMk (op o:Int):Bool:=if op=6 then o==0 else if op=7 then o !=0 else if op=8 then decide (o<0) else if op=9 then decide (o≤0) else if op=10 then decide (o>0) else decide (o≥0)
def qM5 (op k x:Int) (s:ByteArray) (k' x':Int) (s':ByteArray):Int×Int×ByteArray:=
 if okV k x s=true∧okV k' x' s'=true∧6≤op∧op≤11 then
  (if k=4 then (k,x,s) else if k'=4 then (k',x',s') else (3,if qMk op (qM7 (if k=0 then k' else k) x s (if k'=0 then k else k') x' s')=true then 1 else 0,em))
 else (4,2,em)
theorem qBa {R:Type} {F:Nat→Option R} {r:R} {k:Nat} (h:∀n,k≤n→F n=some r):Ev F r:=⟨k,h⟩
theorem wf8 {x:Int} (h:(Lit.int .u8 x).wf=true):0≤x∧x≤255:=by
 simp only [Lit.wf,Bool.and_eq_true,decide_eq_true_eq] at h
 have h1:IntKind.u8.min=0:=by decide
 have h2:IntKind.u8.max=255:=by decide
 omega
theorem qMl {x:Int} (h:0≤x∧x≤18446744073709551615):IntKind.u64.wrap x=x:=by
 unfold IntKind.wrap
 have e2:(2:Int)^64=18446744073709551616:=by decide
 simp only [IntKind.signed,IntKind.bits,Bool.false_and,Bool.false_eq_true,if_false,e2]
 omega
def qFh (l:List (List PV)):Prop:=l.length≤1048576∧∀e∈l,∃b:Int,e= [.i .u8 b]∧0≤b∧b≤255
theorem qL7 {l:List (List PV)} (w:∀r∈l,okR [.i .u8] r) (h:¬(l.length:Int)>1048576):qFh l:=by
 refine ⟨by omega,fun e he=>?_⟩
 obtain ⟨x,r,rfl,h1,h2⟩:=zFR (w e he)
 obtain ⟨n,rfl,h3⟩:=zJt h1
 obtain rfl:=zGU h2
 exact ⟨n,rfl,wf8 h3⟩
theorem qKh (l:List (List PV)):Ev (qEr · l) (decide ((l.length:Int)>1048576)):=by
 refine ⟨1,fun n hn=>?_⟩
 obtain ⟨m,rfl,hm⟩:=up1 hn
 simp only [qEr,qGV,qA,qC,qF,qG,qH,qJ,Option.bind_some,qE,qK,qM]
theorem qLD (l:List (List PV)):∀n,1≤n→qDE n l=some (l,0):=fun n hn=>by
 obtain ⟨m,rfl,_⟩:=up1 hn
 simp [qDE,qEG,qA,qC,qF,qG,qH,qJ,Option.bind_some,qE,qK,qM]
theorem qKM {l:List (List PV)} {p:Int} (hl:qFh l) (hp:0≤p∧p≤l.length):∃(a p':Int),(0≤p'∧p'≤l.length)∧(0≤a∧a≤255)∧∀n,1≤n→qAU n l p=some (a,l,p'):=by
 have h1:=hl.1
 by_cases h:p≥l.length
 ·refine ⟨0,p,hp,by decide,fun n hn=>?_⟩
  obtain ⟨m,rfl,_⟩:=up1 hn
  simp [qAU,qCI,qA,qC,qF,qG,qH,qJ,Option.bind_some,qE,qK,qM,h]
 ·have hlt:p.toNat<l.length:=by omega
  obtain ⟨b,hb,b0,b1⟩:=hl.2 _ (List.getElem_mem hlt)
  have hg:l[p.toNat]?=some [.i .u8 b]:=by rw [List.getElem?_eq_getElem hlt,hb]
  refine ⟨b,p+1,by omega,⟨b0,b1⟩,fun n hn=>?_⟩
  obtain ⟨m,rfl,_⟩:=up1 hn
  have w1:IntKind.i64.wrap (p+1)=p+1:=qY (by omega)
  have w2:IntKind.i64.wrap p=p:=qY (by omega)
  have w3:IntKind.i64.wrap b=b:=qY (by omega)
  have hp2:p<l.length:=by omega
  simp [qAU,qCI,qA,qC,qF,qG,qH,qJ,Option.bind_some,qE,qK,qM,h,w1,w2,w3,hp.1,hp2,hg,hb,zC]
theorem qBG {l:List (List PV)} {p:Int} (k:Int) (hk:1<k∧k≤1000000) (hl:qFh l) (hp:0≤p∧p≤l.length):∃(a p':Int),(0≤p'∧p'≤l.length)∧(0≤a∧a<k)∧∀n,2≤n→qO n k l p=some (a,l,p'):=by
 obtain ⟨a,p',h1,h2,h3⟩:=qKM hl hp
 have k1:¬k≤1:=by omega
 have k3:¬k=0:=by omega
 by_cases k2:k≤256
 ·have e:Int.tmod a k=a%k:=Int.tmod_eq_emod_of_nonneg h2.1
  refine ⟨a%k,p',h1,⟨Int.emod_nonneg a (by omega),Int.emod_lt_of_pos a (by omega)⟩,fun n hn=>?_⟩
  obtain ⟨m,rfl,hm⟩:=up1 hn
  have h3:=h3 m (by omega)
  simp [qO,qBS,qA,qC,qF,qG,qH,qJ,Option.bind_some,qE,qK,qM,h3,k1,k2,k3,e]
 ·obtain ⟨b,p2,g1,g2,g3⟩:=qKM hl h1
  have w1:IntKind.i64.wrap (a*256)=a*256:=qY (by omega)
  have w2:IntKind.i64.wrap (a*256+b)=a*256+b:=qY (by omega)
  have e:Int.tmod (a*256+b) k=(a*256+b)%k:=Int.tmod_eq_emod_of_nonneg (by omega)
  refine ⟨(a*256+b)%k,p2,g1,⟨Int.emod_nonneg _ (by omega),Int.emod_lt_of_pos _ (by omega)⟩,fun n hn=>?_⟩
  obtain ⟨m,rfl,hm⟩:=up1 hn
  have h3:=h3 m (by omega)
  have g3:=g3 m (by omega)
  simp [qO,qBS,qA,qC,qF,qG,qH,qJ,Option.bind_some,qE,qK,qM,h3,g3,k1,k2,k3,e,w1,w2]
theorem qDJ {l:List (List PV)} {p:Int} (k:Int) (hk:1<k∧k≤1000000) (hl:qFh l) (hp:0≤p∧p≤l.length):∃(b:Bool) (p':Int),(0≤p'∧p'≤l.length)∧∀n,3≤n→qR n k l p=some (b,l,p'):=by
 obtain ⟨a,p',h1,h2,h3⟩:=qBG k hk hl hp
 refine ⟨a==IntKind.i64.wrap (k-1),p',h1,fun n hn=>?_⟩
 obtain ⟨m,rfl,hm⟩:=up1 hn
 have h3:=h3 m (by omega)
 simp [qR,qC7,qA,qC,qF,qG,qH,qJ,Option.bind_some,qE,qK,qM,h3]
theorem qJt {l:List (List PV)} (hl:qFh l):∀(m:Nat) (i:Nat) (v p:Int),i+m=8→(0≤p∧p≤l.length)→∃(r p':Int),(0≤p'∧p'≤l.length)∧∀n M,1≤n→m+1≤M→zF (qBE n) M (v,(i:Int),l,p)=some (r,l,p')
 |0,i,v,p,h,hp=>by
  refine ⟨v,p,hp,fun n M hn hM=>?_⟩
  obtain ⟨M,rfl⟩:∃q,M=q+1:=⟨M-1,by omega⟩
  have hi:¬(i:Int)<8:=by omega
  rw [qP (r:=(v,l,p)) (by simp [qBE,qA,qC,qF,qG,qH,qJ,Option.bind_some,qE,qK,qM,hi])]
 |m+1,i,v,p,h,hp=>by
  obtain ⟨a,p1,h1,h2,h3⟩:=qKM hl hp
  obtain ⟨r,p2,h4,h5⟩:=qJt hl m (i+1) (IntKind.u64.wrap ((BitVec.ofInt IntKind.u64.bits (IntKind.u64.wrap (v*(2:Int)^(8:Nat)))|||BitVec.ofInt IntKind.u64.bits (IntKind.u64.wrap a)).toNat:Int)) p1 (by omega) h1
  refine ⟨r,p2,h4,fun n M hn hM=>?_⟩
  obtain ⟨M,rfl⟩:∃q,M=q+1:=⟨M-1,by omega⟩
  have hi:(i:Int)<8:=by omega
  have w1:IntKind.i64.wrap ((i:Int)+1)=((i+1:Nat):Int):=by rw [qY (by omega)];omega
  have h3:=h3 n hn
  rw [qb (v':=(IntKind.u64.wrap ((BitVec.ofInt IntKind.u64.bits (IntKind.u64.wrap (v*(2:Int)^(8:Nat)))|||BitVec.ofInt IntKind.u64.bits (IntKind.u64.wrap a)).toNat:Int),((i+1:Nat):Int),l,p1)) (by
   simp only [qBE,qA,qC,qF,qG,qH,qJ,Option.bind_some,qE,qK,qM,h3,w1]
   rw [if_pos (by simpa using hi)])]
  exact h5 n M hn (by omega)
theorem qL8 {l:List (List PV)} {p:Int} (hl:qFh l) (hp:0≤p∧p≤l.length):∃(r p':Int),(0≤p'∧p'≤l.length)∧∀n,10≤n→qCL n l p=some (r,l,p'):=by
 obtain ⟨r,p',h1,h2⟩:=qJt hl 8 0 0 p rfl hp
 refine ⟨r,p',h1,fun n hn=>?_⟩
 obtain ⟨m,rfl,hm⟩:=up1 hn
 have h2:=h2 m m (by omega) (by omega)
 simp only [Int.natCast_zero] at h2
 simp only [qCL,qC8,qA,qC,qF,qG,qH,qJ,Option.bind_some,qE,qK,qM,h2]
theorem qL9 {l:List (List PV)} {p:Int} (lo hi:Int) (hk: -1000≤lo∧lo≤hi∧hi≤1000) (hl:qFh l) (hp:0≤p∧p≤l.length):∃(x p':Int),(0≤p'∧p'≤l.length)∧(-9223372036854775808≤x∧x≤9223372036854775807)∧∀n,11≤n→qBI n lo hi l p=some (x,l,p'):=by
 obtain ⟨a,p1,h1,h2,h3⟩:=qBG 8 (by decide) hl hp
 by_cases a0:a=0
 ·refine ⟨lo,p1,h1,by omega,fun n hn=>?_⟩
  obtain ⟨m,rfl,hm⟩:=up1 hn
  have h3:=h3 m (by omega)
  simp [qBI,qBj,qA,qC,qF,qG,qH,qJ,Option.bind_some,qE,qK,qM,h3,a0]
 ·by_cases a1:a=1
  ·refine ⟨hi,p1,h1,by omega,fun n hn=>?_⟩
   obtain ⟨m,rfl,hm⟩:=up1 hn
   have h3:=h3 m (by omega)
   simp [qBI,qBj,qA,qC,qF,qG,qH,qJ,Option.bind_some,qE,qK,qM,h3,a1]
  ·obtain ⟨r,p2,h4,h5⟩:=qL8 hl h1
   refine ⟨_,p2,h4,qHr (lo+IntKind.i64.wrap (Int.tmod (Int.fdiv r ((2:Int)^(1:Nat))) (IntKind.u64.wrap (IntKind.i64.wrap (IntKind.i64.wrap (hi-lo)+1))))),fun n hn=>?_⟩
   obtain ⟨m,rfl,hm⟩:=up1 hn
   have h3:=h3 m (by omega)
   have h5:=h5 m (by omega)
   have c1:¬hi<lo:=by omega
   have w1:IntKind.i64.wrap (hi-lo)=hi-lo:=qY (by omega)
   have w2:IntKind.i64.wrap (hi-lo+1)=hi-lo+1:=qY (by omega)
   have w3:IntKind.u64.wrap (hi-lo+1)=hi-lo+1:=qMl (by omega)
   have w4:¬hi-lo+1=0:=by omega
   simp only [qBI,qBj,qA,qC,qF,qG,qH,qJ,Option.bind_some,qE,qK,qM,h3,h5,w1,w2,w3]
   simp [a0,a1,c1,w4]
theorem qGi {l:List (List PV)} {p:Int} (lo hi:Int) (hk: -1000≤lo∧lo≤hi∧hi≤1000) (hl:qFh l) (hp:0≤p∧p≤l.length):∃(x p':Int),(0≤p'∧p'≤l.length)∧(-9223372036854775808≤x∧x≤9223372036854775807)∧∀n,12≤n→qk n lo hi l p=some (x,l,p'):=by
 obtain ⟨b,p1,h1,h2⟩:=qDJ 24 (by decide) hl hp
 cases b with
 |true=>
  obtain ⟨a,p2,h3,h4,h5⟩:=qBG 4 (by decide) hl h1
  have c:a=0∨a=1∨a=2∨a=3:=by omega
  rcases c with rfl|rfl|rfl|rfl
  ·refine ⟨IntKind.i64.wrap (lo-1),p2,h3,qHr _,fun n hn=>?_⟩
   obtain ⟨m,rfl,hm⟩:=up1 hn
   have h2:=h2 m (by omega)
   have h5:=h5 m (by omega)
   simp [qk,qBA,qA,qC,qF,qG,qH,qJ,Option.bind_some,qE,qK,qM,h2,h5,zC]
  ·refine ⟨IntKind.i64.wrap (hi+1),p2,h3,qHr _,fun n hn=>?_⟩
   obtain ⟨m,rfl,hm⟩:=up1 hn
   have h2:=h2 m (by omega)
   have h5:=h5 m (by omega)
   simp [qk,qBA,qA,qC,qF,qG,qH,qJ,Option.bind_some,qE,qK,qM,h2,h5,zC]
  ·refine ⟨-9223372036854775808,p2,h3,by decide,fun n hn=>?_⟩
   obtain ⟨m,rfl,hm⟩:=up1 hn
   have h2:=h2 m (by omega)
   have h5:=h5 m (by omega)
   simp [qk,qBA,qA,qC,qF,qG,qH,qJ,Option.bind_some,qE,qK,qM,h2,h5,zC]
  ·refine ⟨9223372036854775807,p2,h3,by decide,fun n hn=>?_⟩
   obtain ⟨m,rfl,hm⟩:=up1 hn
   have h2:=h2 m (by omega)
   have h5:=h5 m (by omega)
   simp [qk,qBA,qA,qC,qF,qG,qH,qJ,Option.bind_some,qE,qK,qM,h2,h5,zC]
 |false=>
  obtain ⟨x,p2,h3,h4,h5⟩:=qL9 lo hi hk hl h1
  refine ⟨x,p2,h3,h4,fun n hn=>?_⟩
  obtain ⟨m,rfl,hm⟩:=up1 hn
  have h2:=h2 m (by omega)
  have h5:=h5 m (by omega)
  simp [qk,qBA,qA,qC,qF,qG,qH,qJ,Option.bind_some,qE,qK,qM,h2,h5]
theorem qKN {l:List (List PV)} {p:Int} (hl:qFh l) (hp:0≤p∧p≤l.length):∃(a b p':Int),(0≤p'∧p'≤l.length)∧∀n,3≤n→qo n l p=some (a,b,l,p'):=by
 obtain ⟨a,p1,h1,h2,h3⟩:=qBG 3 (by decide) hl hp
 obtain ⟨b,p2,h4,h5,h6⟩:=qBG 4 (by decide) hl h1
 refine ⟨IntKind.i64.wrap (1+a),IntKind.i64.wrap (1+b),p2,h4,fun n hn=>?_⟩
 obtain ⟨m,rfl,hm⟩:=up1 hn
 have h3:=h3 m (by omega)
 have h6:=h6 m (by omega)
 simp [qo,qDR,qA,qC,qF,qG,qH,qJ,Option.bind_some,qE,qK,qM,h3,h6]
theorem qMA {l:List (List PV)} {p:Int} (hl:qFh l) (hp:0≤p∧p≤l.length):∃(a b c d p':Int),(0≤p'∧p'≤l.length)∧∀n,13≤n→qBJ n l p=some (a,b,c,d,l,p'):=by
 obtain ⟨a,b,p1,h1,h2⟩:=qKN hl hp
 obtain ⟨c,d,p2,h3,h4⟩:=qKN hl h1
 obtain ⟨o,p3,h5,h6⟩:=qDJ 20 (by decide) hl h3
 cases o with
 |true=>
  obtain ⟨x,p4,h7,_,h8⟩:=qGi 1 99 (by decide) hl h5
  refine ⟨(if c<a then c else a),(if d<b then d else b),(if c>a then c else a),x,p4,h7,fun n hn=>?_⟩
  obtain ⟨m,rfl,hm⟩:=up1 hn
  have h2:=h2 m (by omega)
  have h4:=h4 m (by omega)
  have h6:=h6 m (by omega)
  have h8:=h8 m (by omega)
  simp [qBJ,qCN,qA,qC,qF,qG,qH,qJ,Option.bind_some,qE,qK,qM,h2,h4,h6,h8]
 |false=>
  refine ⟨(if c<a then c else a),(if d<b then d else b),(if c>a then c else a),(if d>b then d else b),p3,h5,fun n hn=>?_⟩
  obtain ⟨m,rfl,hm⟩:=up1 hn
  have h2:=h2 m (by omega)
  have h4:=h4 m (by omega)
  have h6:=h6 m (by omega)
  simp [qBJ,qCN,qA,qC,qF,qG,qH,qJ,Option.bind_some,qE,qK,qM,h2,h4,h6]
def qG6 (x:Int):ByteArray:=⟨(Lib.itoa x).toArray⟩
theorem qFi (a b:ByteArray):(a++b).data.toList=a.data.toList++b.data.toList:=by
 rw [ByteArray.data_append,Array.toList_append]
theorem qJu {a b:ByteArray} (h:a.data.toList=b.data.toList):a=b:=by
 cases a;cases b
 congr 1
 exact Array.toList_inj.1 h
theorem qET {a b:ByteArray} (h:a.toList=b.toList):a=b:=qJu (by rw [←Go.Lib.toList_data,←Go.Lib.toList_data];exact h)
theorem qEy (a:ByteArray):a.size=a.data.toList.length:=by rw [Array.length_toList];rfl
theorem u8w {q:Nat} (h:q<10):IntKind.u8.wrap (IntKind.i64.wrap (48+(q:Int)))=((48+q:Nat):Int):=by
 rw [qY (by omega)]
 unfold IntKind.wrap
 have e2:(2:Int)^8=256:=by decide
 simp only [IntKind.signed,IntKind.bits,Bool.false_and,Bool.false_eq_true,if_false,e2]
 omega
theorem qMm:∀(k v:Nat),1≤v→v<10^k→Lib.nDigits v≤k:=by
 intro k
 induction k with
 |zero=>intro v hv hv';simp at hv';omega
 |succ k ih=>
  intro v hv hv'
  by_cases h10:v<10
  ·rw [Lib.nDigits_small h10];omega
  ·rw [Lib.nDigits_big h10]
   have:=ih (v/10) (by omega) (by rw [Nat.pow_succ] at hv';omega)
   omega
theorem qFy (u:Nat) (h:u≤1000000000000000000):(Lib.decDigits u).length≤19:=by
 have p:(10:Nat)^19=10000000000000000000:=by decide
 rw [Lib.decDigits_length]
 rcases Nat.lt_or_ge u 1 with h6|h6
 ·have:u=0:=by omega
  subst this
  rw [Lib.nDigits_small (by decide)]
  decide
 ·exact qMm 19 u h6 (by omega)
def qi (x:Int):ByteArray:=if x=1 then ⟨#[35,68,73,86,33]⟩ else if x=2 then ⟨#[35,84,89,80,69,33]⟩ else if x=3 then ⟨#[35,82,69,70,33]⟩ else if x=4 then ⟨#[35,79,86,69,82,33]⟩ else if x=5 then ⟨#[35,67,89,67,76,69,33]⟩ else ⟨#[]⟩
theorem lt6 {x:Int} (h:0≤x∧x≤5):x=0∨x=1∨x=2∨x=3∨x=4∨x=5:=by omega
def qMn (x:Int):ByteArray:=if x=1 then ⟨#[84,82,85,69]⟩ else ⟨#[70,65,76,83,69]⟩
def qH3 (k x:Int) (s:ByteArray):ByteArray:=if k=1 then qG6 x else if k=2 then ⟨#[39]⟩++s else if k=3 then qMn x else if k=4 then qi x else ⟨#[]⟩
theorem qLX {x:Int} (h: -1000000000000000000≤x∧x≤1000000000000000000):(qG6 x).size≤20:=by
 rw [qEy]
 show (Lib.itoa x).length≤20
 unfold Lib.itoa
 split
 ·have:=qFy x.natAbs (by omega);simp;omega
 ·have:=qFy x.toNat (by omega);omega
def qD4 (x:Int):ByteArray:=if x<1∨x>52 then ⟨#[]⟩ else if x≤26 then ⟨#[UInt8.ofNat (64+x.toNat)]⟩ else ⟨#[65,UInt8.ofNat (65+(x.toNat-1)%26)]⟩
theorem qJv (x:Int):(qD4 x).size≤2:=by
 unfold qD4
 split
 ·decide
 ·split
  ·exact (show (1:Nat)≤2 by decide)
  ·exact (show (2:Nat)≤2 by decide)
theorem qLk {q:Int} (h:0≤q∧q<256):IntKind.u8.wrap q=q:=by
 unfold IntKind.wrap
 have e2:(2:Int)^8=256:=by decide
 simp only [IntKind.signed,IntKind.bits,Bool.false_and,Bool.false_eq_true,if_false,e2]
 omega
def qFj (c r:Int) (fc fr:Bool):ByteArray:=if qA3 c r=true then ⟨((if fc=true then [36] else [])++(qD4 c).data.toList++(if fr=true then [36] else [])++(qG6 r).data.toList).toArray⟩ else ⟨#[]⟩
theorem qI9 {x:Int} (h:1≤x∧x≤99):(qG6 x).size≤20:=by
 rw [qEy]
 show (Lib.itoa x).length≤20
 unfold Lib.itoa
 rw [if_neg (by omega)]
 have:=qFy x.toNat (by omega)
 omega
theorem qKi {c r:Int} (h:qA3 c r=true):(1≤c∧c≤52)∧(1≤r∧r≤99):=by
 simpa [qA3] using h
def qCb (c:UInt8):Bool:=decide (48≤c.toNat)&&decide (c.toNat≤57)
def qCA (acc:Nat) (l:List UInt8):Nat:=l.foldl (fun a c=>a*10+(c.toNat-48)) acc
theorem qEm (acc:Nat):qCA acc []=acc:=rfl
theorem qEn (acc:Nat) (c:UInt8) (r:List UInt8):qCA acc (c::r)=qCA (acc*10+(c.toNat-48)) r:=by simp only [qCA,List.foldl_cons]
theorem qKj (l:List UInt8) (acc:Nat) (c:UInt8):qCA acc (l++ [c])=qCA acc l*10+(c.toNat-48):=by
 simp only [qCA,List.foldl_append,List.foldl_cons,List.foldl_nil]
theorem qLE:∀(l:List UInt8) (acc:Nat),acc≤qCA acc l
 | [],acc=>by rw [qEm];exact Nat.le_refl _
 |c::r,acc=>by
  have h:=qLE r (acc*10+(c.toNat-48))
  have h2:acc≤acc*10+(c.toNat-48):=by omega
  rw [qEn]
  exact Nat.le_trans h2 h
theorem qKO {d:Nat} (h:d<10):(UInt8.ofNat (48+d)).toNat=48+d:=by
 rw [UInt8.toNat_ofNat'];omega
theorem qKk {d:Nat} (h:d<10):qCb (UInt8.ofNat (48+d))=true:=by
 unfold qCb
 rw [qKO h]
 simp
 omega
theorem qFz:∀u:Nat,(Lib.decDigits u).all qCb=true∧qCA 0 (Lib.decDigits u)=u∧Lib.decDigits u≠ []∧(10≤u→(Lib.decDigits u).head?≠some 48)∧(1≤u→(Lib.decDigits u).head?≠some 48):=by
 intro u
 induction u using Nat.strongRecOn with
 |_ u ih=>
  by_cases h:u<10
  ·rw [Lib.decDigits,dif_pos h]
   have h1:∀k,1≤k→k<10→UInt8.ofNat (48+k)≠48:=fun k hk hk' e=>by
    have:=congrArg UInt8.toNat e
    rw [qKO hk'] at this
    have h2:(48:UInt8).toNat=48:=rfl
    omega
   refine ⟨by simp only [List.all_cons,List.all_nil,qKk h,Bool.and_true],by rw [qEn,qEm,qKO h];omega,by simp,fun _=>by omega,fun hu=>?_⟩
   simp only [List.head?_cons,ne_eq,Option.some.injEq]
   exact h1 u hu h
  ·obtain ⟨i1,i2,i3,i4,i5⟩:=ih (u/10) (by omega)
   rw [Lib.decDigits,dif_neg h]
   have hd:u%10<10:=by omega
   have hh:(Lib.decDigits (u/10)++ [UInt8.ofNat (48+u%10)]).head?=(Lib.decDigits (u/10)).head?:=by
    cases hq:Lib.decDigits (u/10) with
    |nil=>exact absurd hq i3
    |cons a b=>rfl
   refine ⟨by simp only [List.all_append,i1,List.all_cons,List.all_nil,qKk hd,Bool.and_true],by rw [qKj,i2,qKO hd];omega,by simp,fun _=>?_,fun _=>?_⟩
   ·rw [hh];exact i5 (by omega)
   ·rw [hh];exact i5 (by omega)
def qEC (l:List UInt8):Bool:=!(l== [])&&l.all qCb&&(!(l.head?==some 48)||l.length==1)
theorem qLY (u:Nat):qEC (Lib.decDigits u)=true:=by
 obtain ⟨h1,h2,h3,h4,h5⟩:=qFz u
 simp only [qEC,h1,Bool.and_true,Bool.and_eq_true,Bool.not_eq_true',beq_eq_false_iff_ne,Bool.or_eq_true]
 refine ⟨h3,?_⟩
 by_cases hu:u<10
 ·right;rw [Lib.decDigits,dif_pos hu];rfl
 ·left;exact h4 (by omega)
theorem qJw:∀(n:Nat) (l:List UInt8),l.length=n→qEC l=true→Lib.decDigits (qCA 0 l)=l
 |0,l,hn,h=>by
  have:=List.eq_nil_of_length_eq_zero hn
  subst this
  simp [qEC] at h
 |n+1,l,hn,h=>by
  simp only [qEC,Bool.and_eq_true,Bool.not_eq_true',beq_eq_false_iff_ne,Bool.or_eq_true,beq_iff_eq] at h
  obtain ⟨⟨h1,h2⟩,h3⟩:=h
  obtain ⟨ini,c,rfl⟩:∃ini c,l=ini++ [c]:=⟨l.dropLast,l.getLast h1,(List.dropLast_concat_getLast h1).symm⟩
  simp only [List.all_append,Bool.and_eq_true,List.all_cons,List.all_nil,Bool.and_true] at h2
  obtain ⟨h2,hc⟩:=h2
  simp only [qCb,Bool.and_eq_true,decide_eq_true_eq] at hc
  have ec:UInt8.ofNat (48+(c.toNat-48))=c:=by
   have:48+(c.toNat-48)=c.toNat:=by omega
   rw [this];simp
  rw [qKj]
  cases ini with
  |nil=>
   rw [qEm,Nat.zero_mul,Nat.zero_add,List.nil_append,Lib.decDigits,dif_pos (by omega),ec]
  |cons a b=>
   have hl:(a::b).length=n:=by simp at hn⊢;omega
   have h48:¬a=48:=by
    rcases h3 with h3|h3
    ·simpa using h3
    ·simp at h3
   have hcn:qEC (a::b)=true:=by
    simp only [qEC,h2,Bool.and_true,Bool.and_eq_true,Bool.not_eq_true',beq_eq_false_iff_ne,Bool.or_eq_true]
    exact ⟨by simp,.inl (by simpa using h48)⟩
   have ih:=qJw n (a::b) hl hcn
   have hp:1≤qCA 0 (a::b):=by
    rcases Nat.eq_zero_or_pos (qCA 0 (a::b)) with h0|h0
    ·rw [h0,Lib.decDigits,dif_pos (by decide)] at ih
     have:a=48:=by
      have:=congrArg List.head? ih
      simpa using this.symm
     exact absurd this h48
    ·exact h0
   rw [Lib.decDigits,dif_neg (by omega)]
   have e1:(qCA 0 (a::b)*10+(c.toNat-48))/10=qCA 0 (a::b):=by omega
   have e2:(qCA 0 (a::b)*10+(c.toNat-48))%10=c.toNat-48:=by omega
   rw [e1,e2,ih,ec]
def l1I (l:List UInt8) (most:Int):Int×Bool:=if (l.length:Int)≤most∧qEC l=true then ((qCA 0 l:Int),true) else (0,false)
theorem qLF:∀(l:List UInt8) (acc k:Nat),l.all qCb=true→acc<10^k→qCA acc l<10^(k+l.length)
 | [],acc,k,_,h=>by rw [qEm];simpa using h
 |c::r,acc,k,hd,h=>by
  simp only [List.all_cons,Bool.and_eq_true] at hd
  have hc:=hd.1
  simp only [qCb,Bool.and_eq_true,decide_eq_true_eq] at hc
  have:=qLF r (acc*10+(c.toNat-48)) (k+1) hd.2 (by rw [Nat.pow_succ];omega)
  rw [qEn,List.length_cons,show k+(r.length+1)=k+1+r.length by omega]
  exact this
theorem qJx:∀(l:List UInt8) (acc:Nat),l.all qCb=true→qCA acc l≤1000000000000000000→Lib.parseUintM (2^64-1) acc l= .ok (qCA acc l)
 | [],acc,_,_=>by simp only [Lib.parseUintM,qEm]
 |c::r,acc,hd,h=>by
  simp only [List.all_cons,Bool.and_eq_true] at hd
  have hc:=hd.1
  simp only [qCb,Bool.and_eq_true,decide_eq_true_eq] at hc
  rw [qEn] at h⊢
  have g1:=qLE r (acc*10+(c.toNat-48))
  have p:(2:Nat)^64-1=18446744073709551615:=by decide
  simp only [Lib.parseUintM]
  rw [if_pos hc,if_neg (by omega),if_neg (by rw [p];omega)]
  exact qJx r _ hd.2 h
theorem qJy {u:Nat} (h:u≤1000000000000000000):Lib.parseUintB 64 (Lib.decDigits u)= .ok u:=by
 obtain ⟨h1,h2,h3,_,_⟩:=qFz u
 unfold Lib.parseUintB
 rw [if_neg h3,qJx _ 0 h1 (by rw [h2];exact h),h2]
theorem qKl (u:Nat):∃c r,Lib.decDigits u=c::r∧qCb c=true:=by
 obtain ⟨h1,_,h3,_,_⟩:=qFz u
 cases hq:Lib.decDigits u with
 |nil=>exact absurd hq h3
 |cons c r=>
  rw [hq] at h1
  simp only [List.all_cons,Bool.and_eq_true] at h1
  exact ⟨c,r,rfl,h1.1⟩
theorem qK7 {x:Int} (h: -1000000000000000≤x∧x≤1000000000000000):Lib.parseIntB 64 (Lib.itoa x)= .ok x:=by
 have p:(2:Nat)^(64-1)=9223372036854775808:=by decide
 by_cases hx:x<0
 ·have e:Lib.itoa x=45::Lib.decDigits x.natAbs:=by unfold Lib.itoa;rw [if_pos hx]
  have c45:(45:UInt8).toNat=45:=rfl
  rw [e]
  simp only [Lib.parseIntB,c45,or_true,if_true,qJy (u:=x.natAbs) (by omega),p]
  rw [if_neg (by simp),if_neg (by omega)]
  congr 1
  omega
 ·have e:Lib.itoa x=Lib.decDigits x.toNat:=by unfold Lib.itoa;rw [if_neg hx]
  obtain ⟨c,r,hcr,hd⟩:=qKl x.toNat
  simp only [qCb,Bool.and_eq_true,decide_eq_true_eq] at hd
  rw [e,hcr]
  simp only [Lib.parseIntB]
  rw [if_neg (by omega),←hcr,qJy (u:=x.toNat) (by omega)]
  simp only [p]
  rw [if_neg (by omega),if_neg (by omega),if_neg (by omega)]
  congr 1
  omega
def qKP (l:List UInt8):Option Int:=if l.head?=some 45 then (if (l1I (l.drop 1) 16).2=true∧(l1I (l.drop 1) 16).1≠0 then some (-(l1I (l.drop 1) 16).1) else none) else (if (l1I l 16).2=true then some (l1I l 16).1 else none)
theorem qJA {l:List UInt8} (h:(l1I l 16).2=true):l.length≤16∧qEC l=true∧(l1I l 16).1=(qCA 0 l:Int)∧Lib.decDigits (qCA 0 l)=l:=by
 unfold l1I at h⊢
 split at h
 ·rename_i hc
  rw [if_pos hc]
  exact ⟨by omega,hc.2,rfl,qJw _ l rfl hc.2⟩
 ·cases h
theorem qLG {u:Nat} (h:u≤1000000000000000):l1I (Lib.decDigits u) 16=((u:Int),true):=by
 obtain ⟨h1,h2,h3,_,_⟩:=qFz u
 have hl:(Lib.decDigits u).length≤16:=by
  rw [Lib.decDigits_length]
  have:Lib.nDigits 1000000000000000=16:=Lib.nDigits_unique 15 _ (by decide) (by decide)
  rcases Nat.lt_or_ge 16 (Lib.nDigits u) with h4|h4
  ·have h5:u<10^16:=by
    have:(10:Nat)^16=10000000000000000:=by decide
    omega
   exfalso
   rcases Nat.lt_or_ge u 1 with h6|h6
   ·have:u=0:=by omega
    subst this
    rw [Lib.nDigits_small (by decide)] at h4
    omega
   ·have key:∀(k v:Nat),1≤v→v<10^k→Lib.nDigits v≤k:=by
     intro k
     induction k with
     |zero=>intro v hv hv';simp at hv';omega
     |succ k ih=>
      intro v hv hv'
      by_cases h10:v<10
      ·rw [Lib.nDigits_small h10];omega
      ·rw [Lib.nDigits_big h10]
       have:=ih (v/10) (by omega) (by rw [Nat.pow_succ] at hv';omega)
       omega
    have:=key 16 u h6 h5
    omega
  ·exact h4
 unfold l1I
 rw [if_pos ⟨by omega,qLY u⟩,h2]
theorem qLZ {l:List UInt8} {x:Int} (h:qKP l=some x):l=Lib.itoa x:=by
 unfold qKP at h
 split at h
 ·rename_i h45
  split at h
  ·rename_i hc
   cases h
   obtain ⟨a1,a2,a3,a4⟩:=qJA hc.1
   have hne:=hc.2
   rw [a3] at hne⊢
   unfold Lib.itoa
   rw [if_pos (by omega)]
   have:(-(qCA 0 (l.drop 1):Int)).natAbs=qCA 0 (l.drop 1):=by omega
   rw [this,a4]
   cases l with
   |nil=>cases h45
   |cons c r=>simp at h45;simp [h45]
  ·cases h
 ·split at h
  ·rename_i hc
   cases h
   obtain ⟨a1,a2,a3,a4⟩:=qJA hc
   rw [a3]
   unfold Lib.itoa
   rw [if_neg (by omega),Int.toNat_natCast,a4]
  ·cases h
theorem qLa {x:Int} (h: -1000000000000000≤x∧x≤1000000000000000):qKP (Lib.itoa x)=some x:=by
 unfold qKP
 by_cases hx:x<0
 ·have e:Lib.itoa x=45::Lib.decDigits x.natAbs:=by unfold Lib.itoa;rw [if_pos hx]
  have e2:=qLG (u:=x.natAbs) (by omega)
  rw [e,List.head?_cons,if_pos rfl,List.drop_succ_cons,List.drop_zero,e2,if_pos ⟨rfl,by show ((x.natAbs:Nat):Int)≠0;omega⟩]
  congr 1
  show-((x.natAbs:Nat):Int)=x
  omega
 ·have e:Lib.itoa x=Lib.decDigits x.toNat:=by unfold Lib.itoa;rw [if_neg hx]
  have e2:=qLG (u:=x.toNat) (by omega)
  obtain ⟨c,r,hcr,hd⟩:=qKl x.toNat
  have h45:¬(Lib.decDigits x.toNat).head?=some 45:=by
   rw [hcr]
   simp only [List.head?_cons,Option.some.injEq]
   intro hc
   subst hc
   simp [qCb] at hd
  rw [e,if_neg h45,e2,if_pos rfl]
  congr 1
  show ((x.toNat:Nat):Int)=x
  omega
def qEU (s:ByteArray):Int:=match zAc s 10 64 with
 |some (.inl v)=>v
 |some (.inr v)=>v
 |none=>0
theorem qKm {s:ByteArray} {x:Int} (hs:s.toList=Lib.itoa x) (h: -1000000000000000≤x∧x≤1000000000000000):qEU s=x:=by
 have hd:s.data.toList=Lib.itoa x:=by rw [←Go.Lib.toList_data];exact hs
 have hsz:s.size≤281474976710656:=by
  rw [←qAf,hs]
  unfold Lib.itoa
  split
  ·have:=qFy x.natAbs (by omega);simp;omega
  ·have:=qFy x.toNat (by omega);omega
 unfold qEU zAc
 rw [if_pos ⟨rfl,rfl,hsz⟩,hd,qK7 h]
def qDW (s:ByteArray):Int:=if (qi 5).toList=s.toList then 5 else if (qi 4).toList=s.toList then 4 else if (qi 3).toList=s.toList then 3 else if (qi 2).toList=s.toList then 2 else if (qi 1).toList=s.toList then 1 else 0
theorem qMB (s:ByteArray):0≤qDW s∧qDW s≤5:=by
 unfold qDW
 repeat' split
 all_goals decide
theorem qMC {s:ByteArray} (h:¬qDW s=0):qi (qDW s)=s:=by
 unfold qDW at h⊢
 by_cases h5:(qi 5).toList=s.toList
 ·rw [if_pos h5];exact qET h5
 rw [if_neg h5] at h⊢
 by_cases h4:(qi 4).toList=s.toList
 ·rw [if_pos h4];exact qET h4
 rw [if_neg h4] at h⊢
 by_cases h3:(qi 3).toList=s.toList
 ·rw [if_pos h3];exact qET h3
 rw [if_neg h3] at h⊢
 by_cases h2:(qi 2).toList=s.toList
 ·rw [if_pos h2];exact qET h2
 rw [if_neg h2] at h⊢
 by_cases h1:(qi 1).toList=s.toList
 ·rw [if_pos h1];exact qET h1
 rw [if_neg h1] at h
 exact absurd rfl h
def qBs (s:ByteArray):V3:=
 if s.toList.head?=some 39 then (2,0,⟨s.toList.tail.toArray⟩) else
 if s.toList= [70,65,76,83,69] then (3,0,em) else if s.toList= [84,82,85,69] then (3,1,em) else
 if s.toList.head?=some 35 then (if qDW s=0 then (0,0,em) else (4,qDW s,em)) else
 if s.toList= [] then (0,0,em) else (1,qEU s,em)
def q8 (s:ByteArray):Int×Int×ByteArray×Bool:=if okV (qBs s).1 (qBs s).2.1 (qBs s).2.2=true∧(qH3 (qBs s).1 (qBs s).2.1 (qBs s).2.2).toList=s.toList then ((qBs s).1,(qBs s).2.1,(qBs s).2.2,true) else (0,0,⟨#[]⟩,false)
theorem qMD (c:UInt8) (k:Nat) (hk:k<256):((c.toNat:Int)==(k:Int))=(some c==some (UInt8.ofNat k)):=by
 by_cases e:c=UInt8.ofNat k
 ·subst e
  have:(UInt8.ofNat k).toNat=k:=by rw [UInt8.toNat_ofNat'];omega
  simp [this]
 ·have h1:¬(c.toNat:Int)=(k:Int):=fun h=>e (by
   have:c.toNat=k:=by omega
   rw [←this];simp)
  have h2:¬some c=some (UInt8.ofNat k):=fun h=>e (by simpa using h)
  rw [beq_eq_false_iff_ne.2 h1,beq_eq_false_iff_ne.2 h2]
theorem qJz (l:List UInt8):(⟨l.toArray⟩:ByteArray).toList=l:=by rw [Go.Lib.toList_data]
theorem qJB (n:Nat):∀(f u:Nat) (s:ByteArray),u<10^(f+1)→u≤9223372036854775807→s.size+f≤1000→∃(q:Nat) (t:ByteArray),q<10∧t.size≤s.size+f∧UInt8.ofNat (48+q)::t.data.toList=Lib.decDigits u++s.data.toList∧∀M,f+1≤M→zF (qB4 n) M ((u:Int),s)=some ((q:Int),t)
 |f,u,s,h1,h2,h3=>by
  by_cases h:u<10
  ·refine ⟨u,s,h,by omega,by rw [Lib.decDigits,dif_pos h];rfl,fun M hM=>?_⟩
   obtain ⟨M,rfl⟩:∃k,M=k+1:=⟨M-1,by omega⟩
   have hc:¬(u:Int)≥10:=by omega
   rw [qP (r:=((u:Int),s)) (by simp [qB4,qA,qC,qF,qG,qH,qJ,Option.bind_some,qE,qK,qM,hc])]
  ·cases f with
   |zero=>simp at h1;omega
   |succ f=>
    have e1:Int.tmod (u:Int) 10=((u%10:Nat):Int):=by rw [Int.tmod_eq_emod_of_nonneg (by omega)];omega
    have e2:IntKind.i64.wrap (Int.tdiv (u:Int) 10)=((u/10:Nat):Int):=by
     rw [Int.tdiv_eq_ediv_of_nonneg (by omega),qY (by omega)];omega
    have e3:=u8w (q:=u%10) (by omega)
    have h4:u/10<10^(f+1):=by
     have:10^(f+1+1)=10^(f+1)*10:=Nat.pow_succ 10 (f+1)
     omega
    let d:ByteArray:=⟨#[UInt8.ofNat (48+u%10)]⟩
    have hd:d.size=1:=rfl
    have hs:(d++s).size=s.size+1:=by rw [ByteArray.size_append];omega
    obtain ⟨q,t,g1,g2,g3,g4⟩:=qJB n f (u/10) (d++s) h4 (by omega) (by omega)
    refine ⟨q,t,g1,by omega,?_,fun M hM=>?_⟩
    ·rw [g3,qFi,Lib.decDigits.eq_1 u,dif_neg h]
     simp [d]
    ·obtain ⟨M,rfl⟩:∃k,M=k+1:=⟨M-1,by omega⟩
     have hc:(u:Int)≥10:=by omega
     have hz:d.size+s.size≤9223372036854775807:=by omega
     rw [qb (v':=(((u/10:Nat):Int),d++s)) (by
      simp only [qB4,qA,qC,qF,qG,qH,qJ,Option.bind_some,qE,qK,qM,e1,e2,e3,bytesOf,Option.map_some,Int.toNat_natCast]
      rw [if_pos (by simpa using hc),if_pos (by simp),if_pos (decide_eq_true hz)])]
     exact g4 M (by omega)
theorem qG7 (u:Nat) (h:u≤1000000000000000000):∀n,25≤n→qy n (u:Int)=some (qG6 u):=by
 intro n hn
 obtain ⟨m,rfl,hm⟩:=up1 hn
 have p:(10:Nat)^(18+1)=10000000000000000000:=by decide
 obtain ⟨q,t,g1,g2,g3,g4⟩:=qJB m 18 u ⟨#[]⟩ (by omega) (by omega) (by show 0+18≤1000;decide)
 have g4:=g4 m (by omega)
 have e3:=u8w g1
 have hc:¬(u:Int)<0:=by omega
 have hz:(⟨#[UInt8.ofNat (48+q)]⟩:ByteArray).size+t.size≤9223372036854775807:=by
  have g2:t.size≤0+18:=g2
  show 1+t.size≤_
  omega
 simp only [qy,qDZ,qA,qC,qF,qG,qH,qJ,Option.bind_some,qE,qK,qM,g4,e3,bytesOf,Option.map_some,Int.toNat_natCast]
 rw [if_neg (by simp),if_pos (by simp),if_pos (decide_eq_true hz)]
 congr 1
 apply qJu
 rw [qFi]
 have e:Lib.itoa (u:Int)=Lib.decDigits u:=by unfold Lib.itoa;rw [if_neg hc];simp
 show UInt8.ofNat (48+q)::t.data.toList=Lib.itoa (u:Int)
 rw [g3,e]
 simp
theorem qGS (x:Int) (h: -1000000000000000000≤x∧x≤1000000000000000000):Ev (qy · x) (qG6 x):=by
 by_cases hx:x<0
 ·refine ⟨30,fun n hn=>?_⟩
  obtain ⟨m,rfl,hm⟩:=up1 hn
  have e1:IntKind.i64.wrap (0-x)=((x.natAbs:Nat):Int):=by rw [qY (by omega)];omega
  have g:=qG7 x.natAbs (by omega) m (by omega)
  have hl:=qFy x.natAbs (by omega)
  have e0:Lib.itoa ((x.natAbs:Nat):Int)=Lib.decDigits x.natAbs:=by unfold Lib.itoa;rw [if_neg (by omega)];simp
  have hz:(⟨#[45]⟩:ByteArray).size+(qG6 ((x.natAbs:Nat):Int)).size≤9223372036854775807:=by
   have:(qG6 ((x.natAbs:Nat):Int)).size=(Lib.decDigits x.natAbs).length:=by rw [qEy];simp [qG6,e0]
   show 1+_≤_
   omega
  simp only [qy,qDZ,qA,qC,qF,qG,qH,qJ,Option.bind_some,qE,qK,qM,e1,g]
  rw [if_pos (by simpa using hx),if_pos (decide_eq_true hz)]
  congr 1
  apply qJu
  rw [qFi]
  have e:Lib.itoa x=45::Lib.decDigits x.natAbs:=by unfold Lib.itoa;rw [if_pos hx]
  show 45::(Lib.itoa ((x.natAbs:Nat):Int))=Lib.itoa x
  rw [e,e0]
 ·obtain ⟨u,rfl⟩:∃u:Nat,x=u:=⟨x.toNat,by omega⟩
  exact ⟨25,qG7 u (by omega)⟩
theorem qFk (x:Int) (h:0≤x∧x≤5):Ev (qAz · x) (qi x):=by
 refine ⟨1,fun n hn=>?_⟩
 obtain ⟨m,rfl,hm⟩:=up1 hn
 simp only [qAz,qEK,qA,qC,qF,qG,qH,qJ,Option.bind_some,qE,qK,qM]
 rcases lt6 h with rfl|rfl|rfl|rfl|rfl|rfl<;>simp [z8,qi]
theorem qJ0 (n x:Nat) (s:ByteArray) (h:1≤x∧x≤1000) (hs:s.size≤100):(qAa n ((x:Int),s)).run=some (.inl ((((x-1)/26:Nat):Int),(⟨#[UInt8.ofNat (65+(x-1)%26)]⟩:ByteArray)++s)):=by
 have w1:IntKind.i64.wrap ((x:Int)-1)=((x-1:Nat):Int):=by rw [qY (by omega)];omega
 have e1:Int.tdiv ((x-1:Nat):Int) 26=(((x-1)/26:Nat):Int):=by rw [Int.tdiv_eq_ediv_of_nonneg (by omega)];omega
 have e2:Int.tmod ((x-1:Nat):Int) 26=(((x-1)%26:Nat):Int):=by rw [Int.tmod_eq_emod_of_nonneg (by omega)];omega
 have w2:IntKind.i64.wrap (((x-1)/26:Nat):Int)=(((x-1)/26:Nat):Int):=qY (by omega)
 have w3:IntKind.i64.wrap (65+(((x-1)%26:Nat):Int))=65+(((x-1)%26:Nat):Int):=qY (by omega)
 have w4:IntKind.u8.wrap (65+(((x-1)%26:Nat):Int))=65+(((x-1)%26:Nat):Int):=qLk (by omega)
 have e3:(65+(((x-1)%26:Nat):Int)).toNat=65+(x-1)%26:=by omega
 have hz:(⟨#[UInt8.ofNat (65+(x-1)%26)]⟩:ByteArray).size+s.size≤9223372036854775807:=by show 1+s.size≤_;omega
 have hc:(x:Int)>0:=by omega
 simp only [qAa,qA,qC,qF,qG,qH,qJ,Option.bind_some,qE,qK,qM,w1,e1,e2,w2,w3,w4,e3,bytesOf,Option.map_some]
 rw [if_pos (decide_eq_true hc),if_pos (by simp),if_pos (decide_eq_true hz)]
theorem qKn (n:Nat) (s:ByteArray):(qAa n (((0:Nat):Int),s)).run=some (.inr s):=by
 simp [qAa,qA,qC,qF,qG,qH,qJ,Option.bind_some,qE,qK,qM]
theorem qFH (x:Int):Ev (qBi · x) (qD4 x):=by
 by_cases h:1≤x∧x≤52
 ·obtain ⟨n1,h1⟩:=qA1 x 1 52
  refine ⟨n1+10,fun n hn=>?_⟩
  obtain ⟨m,rfl,hm⟩:=up1 hn
  have h1:=h1 m (by omega)
  dsimp only at h1
  obtain ⟨u,rfl⟩:∃u:Nat,x=u:=⟨x.toNat,by omega⟩
  obtain ⟨M,hM⟩:∃M,m=M+3:=⟨m-3,by omega⟩
  have key:zF (qAa m) m ((u:Int),(⟨#[]⟩:ByteArray))=some (qD4 u):=by
   rw [hM,qb (qJ0 _ u ⟨#[]⟩ (by omega) (by decide))]
   by_cases h26:u≤26
   ·have e:(u-1)/26=0:=by omega
    have e2:65+(u-1)%26=64+u:=by omega
    rw [e,qP (qKn _ _),e2]
    congr 1
    apply qJu
    rw [qFi]
    simp [qD4,show ¬(u:Int)<1 by omega,show ¬(52:Int)<u by omega,show (u:Int)≤26 by omega]
   ·have e:(u-1)/26=1:=by omega
    have e4:(⟨#[UInt8.ofNat (65+(u-1)%26)]⟩++(⟨#[]⟩:ByteArray)).size≤100:=by rw [ByteArray.size_append];show 1+0≤100;decide
    rw [e,qb (qJ0 _ 1 _ (by decide) e4)]
    have e3:(1-1)/26=0:=by decide
    rw [e3,qP (qKn _ _)]
    congr 1
    apply qJu
    rw [qFi,qFi]
    simp [qD4,show ¬(u:Int)<1 by omega,show ¬(52:Int)<u by omega,show ¬(u:Int)≤26 by omega]
  simp only [qBi,qCo,qA,qC,qF,qG,qH,qJ,Option.bind_some,qE,qK,qM,h1,key]
  simp [h]
 ·have hx:x<1∨x>52:=by omega
  obtain ⟨n1,h1⟩:=qA1 x 1 52
  refine ⟨n1+1,fun n hn=>?_⟩
  obtain ⟨m,rfl,hm⟩:=up1 hn
  have h1:=h1 m (by omega)
  dsimp only at h1
  simp only [qBi,qCo,qA,qC,qF,qG,qH,qJ,Option.bind_some,qE,qK,qM,h1]
  simp [h,qD4,hx]
theorem qC1 (c r:Int) (fc fr:Bool):Ev (qZ · c r fc fr) (qFj c r fc fr):=by
 cases ho:qA3 c r with
 |false=>
  obtain ⟨n1,h1⟩:=qB7 c r
  refine ⟨n1+1,fun n hn=>?_⟩
  obtain ⟨m,rfl,hm⟩:=up1 hn
  have h1:=h1 m (by omega)
  dsimp only at h1
  simp only [qZ,qCK,qA,qC,qF,qG,qH,qJ,Option.bind_some,qE,qK,qM,h1]
  simp [ho,qFj]
 |true=>
  have h:=qKi ho
  have s1:=qJv c
  have s2:=qI9 h.2
  have d1:(⟨#[36]⟩:ByteArray).size=1:=rfl
  have z1:(⟨#[36]⟩:ByteArray).size+(qD4 c).size≤9223372036854775807:=by omega
  have z2:((⟨#[36]⟩:ByteArray)++qD4 c).size+(⟨#[36]⟩:ByteArray).size≤9223372036854775807:=by rw [ByteArray.size_append];omega
  have z3:(((⟨#[36]⟩:ByteArray)++qD4 c)++(⟨#[36]⟩:ByteArray)).size+(qG6 r).size≤9223372036854775807:=by rw [ByteArray.size_append,ByteArray.size_append];omega
  have z4:((⟨#[36]⟩:ByteArray)++qD4 c).size+(qG6 r).size≤9223372036854775807:=by rw [ByteArray.size_append];omega
  have z5:(qD4 c).size+(⟨#[36]⟩:ByteArray).size≤9223372036854775807:=by omega
  have z6:(qD4 c++(⟨#[36]⟩:ByteArray)).size+(qG6 r).size≤9223372036854775807:=by rw [ByteArray.size_append];omega
  have z7:(qD4 c).size+(qG6 r).size≤9223372036854775807:=by omega
  obtain ⟨n1,h1⟩:=qB7 c r
  obtain ⟨n2,h2⟩:=qFH c
  obtain ⟨n3,h3⟩:=qGS r (by omega)
  refine ⟨n1+n2+n3+1,fun n hn=>?_⟩
  obtain ⟨m,rfl,hm⟩:=up1 hn
  have h1:=h1 m (by omega)
  dsimp only at h1
  have h2:=h2 m (by omega)
  dsimp only at h2
  have h3:=h3 m (by omega)
  dsimp only at h3
  simp only [qZ,qCK,qA,qC,qF,qG,qH,qJ,Option.bind_some,qE,qK,qM,h1,h2,h3]
  simp only [ho,decide_eq_true z1,decide_eq_true z2,decide_eq_true z3,decide_eq_true z4,decide_eq_true z5,decide_eq_true z6,decide_eq_true z7,if_true,Bool.not_true,Bool.false_eq_true,if_false]
  cases fc<;>cases fr<;>simp only [if_true,if_false,Bool.false_eq_true,Option.some.injEq]<;>apply qJu<;>simp [qFj,ho,qFi]
theorem qJC (n:Nat) (s:ByteArray):∀(r pre:List UInt8) (acc M:Nat),s.toList=pre++r→acc<10^pre.length→pre.length+r.length≤17→r.length+1≤M→
  zF (qAt n) M (s,(acc:Int),(pre.length:Int))=some (if r.all qCb=true then .inr ((qCA acc r:Nat):Int) else .inl (0,false))
 |r,pre,acc,0,h1,h2,h3,h4=>by omega
 | [],pre,acc,M+1,h1,h2,h3,h4=>by
  have hs:s.size=pre.length:=by rw [←qAf,h1];simp
  rw [qP (r:= .inr (acc:Int)) (by simp [qAt,qA,qC,qF,qG,qH,qJ,Option.bind_some,qE,qK,qM,hs])]
  simp [qEm]
 |c::r,pre,acc,M+1,h1,h2,h3,h4=>by
  have hs:s.size=pre.length+(r.length+1):=by rw [←qAf,h1];simp
  have hi:(pre.length:Int)<s.size:=by omega
  have hg:s.toList[pre.length]?=some c:=by rw [h1];simp
  simp only [List.length_cons] at h3 h4
  by_cases c1:(c.toNat:Int)<48
  ·rw [qP (r:= .inl (0,false)) (by simp [qAt,qA,qC,qF,qG,qH,qJ,Option.bind_some,qE,qK,qM,hi,hg,c1])]
   have:qCb c=false:=by simp [qCb];omega
   simp [this]
  ·by_cases c2:(c.toNat:Int)>57
   ·rw [qP (r:= .inl (0,false)) (by simp [qAt,qA,qC,qF,qG,qH,qJ,Option.bind_some,qE,qK,qM,hi,hg,c1,c2])]
    have:qCb c=false:=by simp [qCb];omega
    simp [this]
   ·have hc:qCb c=true:=by simp [qCb];omega
    have hp:10^pre.length≤10^16:=Nat.pow_le_pow_right (by decide) (by omega)
    have p16:(10:Nat)^16=10000000000000000:=by decide
    have w1:IntKind.i64.wrap ((acc:Int)*10)=(acc:Int)*10:=qY (by omega)
    have w2:IntKind.u8.wrap ((c.toNat:Int)-48)=((c.toNat-48:Nat):Int):=by rw [qLk (by omega)];omega
    have w3:IntKind.i64.wrap ((c.toNat-48:Nat):Int)=((c.toNat-48:Nat):Int):=qY (by omega)
    have w4:IntKind.i64.wrap ((acc:Int)*10+((c.toNat-48:Nat):Int))=((acc*10+(c.toNat-48):Nat):Int):=by rw [qY (by omega)];omega
    have w5:IntKind.i64.wrap ((pre.length:Int)+1)=(pre.length:Int)+1:=qY (by omega)
    have e0:((pre++ [c]).length:Int)=(pre.length:Int)+1:=by simp
    rw [qb (v':=(s,((acc*10+(c.toNat-48):Nat):Int),((pre++ [c]).length:Int))) (by
     rw [e0]
     simp [qAt,qA,qC,qF,qG,qH,qJ,Option.bind_some,qE,qK,qM,hi,hg,c1,c2,w1,w2,w3,w4,w5])]
    rw [qJC n s r (pre++ [c]) (acc*10+(c.toNat-48)) M (by rw [h1];simp) (by rw [List.length_append,List.length_singleton,Nat.pow_succ];omega) (by simp;omega) (by omega)]
    simp [hc,qEn]
theorem qDK (s:ByteArray) (most:Int) (hm:most≤16):Ev (ql · s most) (l1I s.toList most):=by
 have hsz:s.size=s.toList.length:=(qAf s).symm
 by_cases h0:s.toList= []
 ·have hz:s.size=0:=by rw [hsz,h0];rfl
  refine ⟨1,fun n hn=>?_⟩
  obtain ⟨m,rfl,hm⟩:=up1 hn
  simp only [ql,qCp,qA,qC,qF,qG,qH,qJ,Option.bind_some,qE,qK,qM]
  simp [hz,h0,l1I,qEC]
 ·obtain ⟨c,r,hcr⟩:∃c r,s.toList=c::r:=by
   cases hq:s.toList with
   |nil=>exact absurd hq h0
   |cons a b=>exact ⟨a,b,rfl⟩
  have hl:s.size=r.length+1:=by rw [hsz,hcr];rfl
  have z1:¬(s.size:Int)<1:=by omega
  by_cases h1:(s.size:Int)>most
  ·refine ⟨1,fun n hn=>?_⟩
   obtain ⟨m,rfl,hm⟩:=up1 hn
   simp only [ql,qCp,qA,qC,qF,qG,qH,qJ,Option.bind_some,qE,qK,qM]
   have:¬((s.toList.length:Int)≤most):=by rw [←hsz];omega
   simp [z1,h1,l1I,this]
  ·have hle:(s.toList.length:Int)≤most:=by rw [←hsz];omega
   refine ⟨30,fun n hn=>?_⟩
   obtain ⟨m,rfl,hm'⟩:=up1 hn
   have hg:s.toList[0]?=some c:=by rw [hcr];rfl
   have lp:=qJC m s s.toList [] 0 m rfl (by decide) (by simp;omega) (by omega)
   simp only [List.length_nil,Int.natCast_zero] at lp
   have c48:((c.toNat:Int)==48)=(c==48):=by
    by_cases e:c=48
    ·subst e;rfl
    ·have:¬(c.toNat:Int)=48:=fun h=>e (UInt8.toNat_inj.1 (by show c.toNat=48;omega))
     rw [beq_eq_false_iff_ne.2 this,beq_eq_false_iff_ne.2 e]
   simp only [ql,qCp,qA,qC,qF,qG,qH,qJ,Option.bind_some,qE,qK,qM,lp,Int.toNat_zero,hg,c48]
   rw [if_neg (by simpa using z1),if_neg (by simpa using h1),if_pos (by simp)]
   have ne:(s.toList== [])=false:=by simpa using h0
   have hd:s.toList.head?=some c:=by rw [hcr];rfl
   by_cases hc:c=48
   ·subst hc
    by_cases h2:(s.size:Int)>1
    ·have:¬s.toList.length=1:=by omega
     simp [h2,l1I,qEC,hd,this]
    ·have:s.toList.length=1:=by omega
     cases hall:s.toList.all qCb<;>simp [h2,l1I,qEC,hd,this,hall,ne,hle,qA,qC,qF,qG,qH,qJ,Option.bind_some,qE,qK,qM]
     ·omega
   ·have:(some c==some 48)=false:=by simpa using hc
    cases hall:s.toList.all qCb<;>simp [hc,l1I,qEC,hd,this,hall,ne,hle,qA,qC,qF,qG,qH,qJ,Option.bind_some,qE,qK,qM]
def qKQ (s:ByteArray):Nat→Int→V3→V3
 |0,_,v=>v
 |k+1,i,v=>qKQ s k (i+1) (if (qi i).toList=s.toList then (4,i,em) else v)
theorem qLb:okV 0 0 em=true:=by simp [okV,em,qBB]
theorem qH4:qH3 0 0 em=⟨#[]⟩:=rfl
theorem qIc {R:Type} {F:Nat→Int→Option R} {f:Int→R} {lo:Int} (h0:0≤lo) (h:∀i,lo≤i∧i≤5→Ev (F · i) (f i)):∃n0,∀n,n0≤n→∀i,lo≤i∧i≤5→F n i=some (f i):=by
 obtain ⟨n0,h1⟩:=qA0 (F:=fun i n=>if lo≤i∧i≤5 then F n i else some (f i)) (f:=f) [0,1,2,3,4,5] (fun i _=>by
  by_cases hi:lo≤i∧i≤5
  ·obtain ⟨n0,h1⟩:=h i hi
   exact ⟨n0,fun n hn=>by simp only [if_pos hi];exact h1 n hn⟩
  ·exact ⟨0,fun n _=>by simp only [if_neg hi]⟩)
 refine ⟨n0,fun n hn i hi=>?_⟩
 have:=h1 n hn i (by
  have c:i=0∨i=1∨i=2∨i=3∨i=4∨i=5:=by omega
  rcases c with rfl|rfl|rfl|rfl|rfl|rfl<;>simp)
 simp only [if_pos hi] at this
 exact this
theorem qG8 (n:Nat) (s:ByteArray) (a b:Int) (c:ByteArray) (h1:∀i,0≤i∧i≤5→qAz n i=some (qi i)):
  ∀(k:Nat) (i x:Int) (M:Nat),i+k=6→1≤i→k+1≤M→(qKQ s k i (4,x,em)).1=4∧(qKQ s k i (4,x,em)).2.2=em∧zF (qAc n) M (s,i,a,b,c,4,x,⟨#[]⟩)=some (a,b,c,4,(qKQ s k i (4,x,em)).2.1,⟨#[]⟩)
 |k,i,x,0,e,h,hM=>by omega
 |0,i,x,M+1,e,h,hM=>by
  have hi:¬i≤5:=by omega
  refine ⟨rfl,rfl,?_⟩
  rw [qP (r:=(a,b,c,4,x,⟨#[]⟩)) (by simp [qAc,qA,qC,qF,qG,qH,qJ,Option.bind_some,qE,qK,qM,hi])]
  rfl
 |k+1,i,x,M+1,e,h,hM=>by
  have hi:i≤5:=by omega
  have g:=h1 i (by omega)
  have w1:IntKind.i64.wrap (i+1)=i+1:=qY (by omega)
  have hu:qKQ s (k+1) i (4,x,em)=qKQ s k (i+1) (4,if (qi i).toList=s.toList then i else x,em):=by
   simp only [qKQ]
   split<;>rfl
  rw [hu,qb (v':=(s,i+1,a,b,c,4,(if (qi i).toList=s.toList then i else x),⟨#[]⟩)) (by
   simp only [qAc,qA,qC,qF,qG,qH,qJ,Option.bind_some,qE,qK,qM,g,w1]
   rw [if_pos (decide_eq_true hi)]
   by_cases hq:(qi i).toList=s.toList<;>simp [hq])]
  exact qG8 n s a b c h1 k (i+1) _ M (by omega) (by omega) (by omega)
theorem qME (s:ByteArray):qKQ s 5 1 (4,0,em)=(4,qDW s,em):=by
 have a2:(1:Int)+1=2:=by decide
 have a3:(2:Int)+1=3:=by decide
 have a4:(3:Int)+1=4:=by decide
 have a5:(4:Int)+1=5:=by decide
 simp only [qKQ,qDW,a2,a3,a4,a5]
 by_cases h5:(qi 5).toList=s.toList
 ·simp [h5]
 by_cases h4:(qi 4).toList=s.toList
 ·simp [h5,h4]
 by_cases h3:(qi 3).toList=s.toList
 ·simp [h5,h4,h3]
 by_cases h2:(qi 2).toList=s.toList
 ·simp [h5,h4,h3,h2]
 by_cases h1:(qi 1).toList=s.toList<;>simp [h5,h4,h3,h2,h1]
theorem qMo (s:ByteArray):(s.extract (1:Int).toNat ((s.size:Int)).toNat).toList=s.toList.tail:=by
 have e1:(1:Int).toNat=1:=rfl
 rw [Int.toNat_natCast,e1,Go.Lib.toList_data,ByteArray.data_extract,Array.toList_extract,Go.Lib.toList_data]
 have hl:s.data.toList.length=s.size:=by rw [←qEy]
 show (s.data.toList.drop 1).take (s.size-1)=s.data.toList.tail
 rw [List.take_of_length_le (by rw [List.length_drop,hl];exact Nat.le_refl _),List.drop_one]
theorem qLl {s:ByteArray} {c:UInt8} {r:List UInt8} (h:s.toList=c::r):s.toList[((0:Int)).toNat]?=some c:=by rw [h];rfl
theorem qLH {x:Int}:okV 1 x em=decide (-1000000000000000≤x∧x≤1000000000000000):=by
 simp [okV,em,qBB]
theorem qLc {s:ByteArray} (h39:¬s.toList.head?=some 39) (hF:¬s.toList= [70,65,76,83,69]) (hT:¬s.toList= [84,82,85,69]) (h35:¬s.toList.head?=some 35) (h0:¬s.toList= []):
  q8 s=match qKP s.toList with
   |some x=>if okV 1 x em=true then (1,x,em,true) else (0,0,⟨#[]⟩,false)
   |none=>(0,0,⟨#[]⟩,false):=by
 have hc:qBs s=(1,qEU s,em):=by unfold qBs;rw [if_neg h39,if_neg hF,if_neg hT,if_neg h35,if_neg h0]
 have rd:q8 s=if okV 1 (qEU s) em=true∧(qH3 1 (qEU s) em).toList=s.toList then (1,qEU s,em,true) else (0,0,⟨#[]⟩,false):=by unfold q8;rw [hc]
 have tx:∀x,(qH3 1 x em).toList=Lib.itoa x:=fun x=>by
  rw [Go.Lib.toList_data];simp [qH3,qG6]
 have back:okV 1 (qEU s) em=true∧(qH3 1 (qEU s) em).toList=s.toList→qKP s.toList=some (qEU s):=fun ⟨a,b⟩=>by
  rw [tx] at b
  rw [qLH] at a
  rw [←b]
  exact qLa (by simpa using a)
 rw [rd]
 cases hn:qKP s.toList with
 |none=>
  rw [if_neg (fun h=>by rw [back h] at hn;cases hn)]
 |some x=>
  by_cases hx:okV 1 x em=true
  ·have hi:=qLZ hn
   have hr: -1000000000000000≤x∧x≤1000000000000000:=by rw [qLH] at hx;simpa using hx
   have hp:=qKm hi hr
   dsimp only
   rw [hp,if_pos ⟨hx,by rw [tx,hi]⟩,if_pos hx]
  ·dsimp only
   rw [if_neg hx,if_neg (fun h=>by
    have:=back h
    rw [hn] at this
    cases this
    exact hx h.1)]
theorem qLd (s:ByteArray) {c:UInt8} {r:List UInt8} (hcr:s.toList=c::r):qKP s.toList=if c=45 then (if (l1I s.toList.tail 16).2=true∧(l1I s.toList.tail 16).1≠0 then some (-(l1I s.toList.tail 16).1) else none) else (if (l1I s.toList 16).2=true then some (l1I s.toList 16).1 else none):=by
 unfold qKP
 rw [hcr]
 simp only [List.head?_cons,Option.some.injEq,List.drop_one]
theorem qG9 (s:ByteArray) (hb:s.size≤1048576):Ev (qq · s) (q8 s):=by
 have te:(⟨#[]⟩:ByteArray).toList= []:=qBB
 have tF:(⟨#[70,65,76,83,69]⟩:ByteArray).toList= [70,65,76,83,69]:=by rw [Go.Lib.toList_data]
 have tT:(⟨#[84,82,85,69]⟩:ByteArray).toList= [84,82,85,69]:=by rw [Go.Lib.toList_data]
 have hsz:s.size=s.toList.length:=(qAf s).symm
 by_cases h0:s.toList= []
 ·have hv:q8 s=(0,0,⟨#[]⟩,true):=by
   have hc:qBs s=(0,0,em):=by unfold qBs;rw [h0];simp
   unfold q8
   rw [hc,if_pos ⟨qLb,by rw [qH4,h0];exact te⟩]
   rfl
  rw [hv]
  refine ⟨1,fun n hn=>?_⟩
  obtain ⟨m,rfl,hm⟩:=up1 hn
  simp only [qq,qAL,qA,qC,qF,qG,qH,qJ,Option.bind_some,qE,qK,qM]
  simp [h0,te]
 ·obtain ⟨c,r,hcr⟩:∃c r,s.toList=c::r:=by
   cases hq:s.toList with
   |nil=>exact absurd hq h0
   |cons a b=>exact ⟨a,b,rfl⟩
  have hg:=qLl hcr
  have hd:s.toList.head?=some c:=by rw [hcr];rfl
  have b0:(s.toList== [])=false:=by simpa using h0
  have s1:(1:Int)≤(s.size:Int):=by rw [hsz,hcr];simp;omega
  have k39:=qMD c 39 (by decide)
  have k35:=qMD c 35 (by decide)
  have k45:=qMD c 45 (by decide)
  have u39:UInt8.ofNat 39=39:=rfl
  have u35:UInt8.ofNat 35=35:=rfl
  have u45:UInt8.ofNat 45=45:=rfl
  rw [u39] at k39
  rw [u35] at k35
  rw [u45] at k45
  have q39:((39:Nat):Int)=39:=rfl
  have q35:((35:Nat):Int)=35:=rfl
  have q45:((45:Nat):Int)=45:=rfl
  rw [q39] at k39
  rw [q35] at k35
  rw [q45] at k45
  by_cases h39:c=39
  ·have hx:(⟨s.toList.tail.toArray⟩:ByteArray)=s.extract (1:Int).toNat ((s.size:Int)).toNat:=qET (by rw [qMo];rw [Go.Lib.toList_data])
   have hc:qBs s=(2,0,s.extract (1:Int).toNat ((s.size:Int)).toNat):=by unfold qBs;rw [if_pos (by rw [hd,h39]),hx]
   have hz:(s.extract (1:Int).toNat ((s.size:Int)).toNat).size≤140737488351232:=by rw [←hx,qEy];simp only [List.length_tail];rw [qAf];omega
   have hvt:(qH3 2 0 (s.extract (1:Int).toNat ((s.size:Int)).toNat)).toList=s.toList:=by
    rw [←hx,Go.Lib.toList_data]
    show ((⟨#[39]⟩:ByteArray)++_).data.toList=_
    rw [qFi,hcr,h39]
    rfl
   have hv:q8 s=if okV 2 0 (s.extract (1:Int).toNat ((s.size:Int)).toNat)=true then (2,0,s.extract (1:Int).toNat ((s.size:Int)).toNat,true) else (0,0,⟨#[]⟩,false):=by
    unfold q8
    rw [hc]
    simp only [hvt,and_true]
   rw [hv]
   have e39:(some c==some 39)=true:=by rw [h39];rfl
   obtain ⟨n1,h1⟩:=qBC 2 0 (s.extract (1:Int).toNat ((s.size:Int)).toNat) hz
   refine ⟨n1+1,fun n hn=>?_⟩
   obtain ⟨m,rfl,hm⟩:=up1 hn
   have h1:=h1 m (by omega)
   dsimp only at h1
   simp only [qq,qAL,qA,qC,qF,qG,qH,qJ,Option.bind_some,qE,qK,qM,h1]
   simp only [qA,qC,qF,qG,qH,qJ,Option.bind_some,qE,qK,qM,te,b0,hg,k39,e39]
   cases ho:okV 2 0 (s.extract (1:Int).toNat ((s.size:Int)).toNat)<;>simp [s1]
  ·have n39:¬s.toList.head?=some 39:=by rw [hd];simpa using h39
   have e39:(some c==some 39)=false:=by simpa using h39
   by_cases hT:s.toList= [84,82,85,69]
   ·have hF:¬s.toList= [70,65,76,83,69]:=by rw [hT];decide
    have hc:qBs s=(3,1,em):=by unfold qBs;rw [if_neg n39,if_neg hF,if_pos hT]
    have ho:okV 3 1 em=true:=by simp [okV,em,qBB]
    have hv:q8 s=(3,1,⟨#[]⟩,true):=by
     unfold q8
     rw [hc,if_pos ⟨ho,by rw [hT];exact tT⟩]
     rfl
    rw [hv]
    have bT:(s.toList== [84,82,85,69])=true:=by simpa using hT
    obtain ⟨n1,h1⟩:=qBC 3 1 ⟨#[]⟩ (by decide)
    refine ⟨n1+1,fun n hn=>?_⟩
    obtain ⟨m,rfl,hm⟩:=up1 hn
    have h1:=h1 m (by omega)
    dsimp only at h1
    simp only [qq,qAL,qA,qC,qF,qG,qH,qJ,Option.bind_some,qE,qK,qM,h1]
    dsimp only [em] at ho
    simp only [qA,qC,qF,qG,qH,qJ,Option.bind_some,qE,qK,qM,te,b0,hg,k39,e39,tT,bT,ho]
    simp
   ·have bT:(s.toList== [84,82,85,69])=false:=by simpa using hT
    by_cases hF:s.toList= [70,65,76,83,69]
    ·have hc:qBs s=(3,0,em):=by unfold qBs;rw [if_neg n39,if_pos hF]
     have ho:okV 3 0 em=true:=by simp [okV,em,qBB]
     have hv:q8 s=(3,0,⟨#[]⟩,true):=by
      unfold q8
      rw [hc,if_pos ⟨ho,by rw [hF];exact tF⟩]
      rfl
     rw [hv]
     have bF:(s.toList== [70,65,76,83,69])=true:=by simpa using hF
     obtain ⟨n1,h1⟩:=qBC 3 0 ⟨#[]⟩ (by decide)
     refine ⟨n1+1,fun n hn=>?_⟩
     obtain ⟨m,rfl,hm⟩:=up1 hn
     have h1:=h1 m (by omega)
     dsimp only at h1
     simp only [qq,qAL,qA,qC,qF,qG,qH,qJ,Option.bind_some,qE,qK,qM,h1]
     dsimp only [em] at ho
     simp only [qA,qC,qF,qG,qH,qJ,Option.bind_some,qE,qK,qM,te,b0,hg,k39,e39,tT,bT,tF,bF,ho]
     simp
    ·have bF:(s.toList== [70,65,76,83,69])=false:=by simpa using hF
     by_cases h35:c=35
     ·have n35:s.toList.head?=some 35:=by rw [hd,h35]
      have e35:(some c==some 35)=true:=by rw [h35];rfl
      have hc:qBs s=(if qDW s=0 then (0,0,em) else (4,qDW s,em)):=by unfold qBs;rw [if_neg n39,if_neg hF,if_neg hT,if_pos n35]
      have hin:=qMB s
      have ho:okV 4 (qDW s) (⟨#[]⟩:ByteArray)=!(qDW s==0):=by
       by_cases hz:qDW s=0
       ·simp [okV,qBB,hz]
       ·have hr:1≤qDW s∧qDW s≤5:=by omega
        simp [okV,qBB,hr,hz]
      have hv:q8 s=if qDW s=0 then (0,0,⟨#[]⟩,false) else (4,qDW s,⟨#[]⟩,true):=by
       unfold q8
       rw [hc]
       by_cases hz:qDW s=0
       ·simp only [if_pos hz]
        rw [if_neg (fun h=>h0 (by rw [←h.2,qH4];exact te))]
       ·simp only [if_neg hz]
        have ho':okV 4 (qDW s) em=true:=by show okV 4 (qDW s) ⟨#[]⟩=true;rw [ho];simpa using hz
        rw [if_pos ⟨ho',by show (qi (qDW s)).toList=s.toList;rw [qMC hz]⟩]
        rfl
      rw [hv]
      obtain ⟨n1,h1⟩:=qBC 4 (qDW s) ⟨#[]⟩ (by decide)
      obtain ⟨n3,h3⟩:=qIc (F:=qAz) (f:=qi) (lo:=0) (by decide) qFk
      refine ⟨n1+n3+10,fun n hn=>?_⟩
      obtain ⟨m,rfl,hm⟩:=up1 hn
      have h1:=h1 m (by omega)
      dsimp only at h1
      obtain ⟨_,_,lp⟩:=qG8 m s 0 0 ⟨#[]⟩ (h3 m (by omega)) 5 1 0 m (by decide) (by decide) (by omega)
      rw [qME] at lp
      simp only [qq,qAL,qA,qC,qF,qG,qH,qJ,Option.bind_some,qE,qK,qM,te,b0,hg,k39,e39,tT,bT,tF,bF,k35,e35,lp,h1,ho]
      by_cases hz:qDW s=0<;>simp [hz]
     ·have n35:¬s.toList.head?=some 35:=by rw [hd];simpa using h35
      have e35:(some c==some 35)=false:=by simpa using h35
      rw [qLc n39 hF hT n35 h0,qLd s hcr]
      dsimp only [em]
      by_cases h45:c=45
      ·have e45:(some c==some 45)=true:=by rw [h45];rfl
       have g16:∀{q:List UInt8},(l1I q 16).2=true→(0≤(l1I q 16).1∧(l1I q 16).1≤10000000000000000):=fun {q} hq=>by
        have p16:(10:Nat)^16=10000000000000000:=by decide
        obtain ⟨a1,a2,a3,a4⟩:=qJA hq
        rw [a3]
        simp only [qEC,Bool.and_eq_true] at a2
        have:=qLF q 0 0 a2.1.2 (by decide)
        have h2:(10:Nat)^(0+q.length)≤10^16:=Nat.pow_le_pow_right (by decide) (by omega)
        omega
       have hl:=qDK (s.extract (1:Int).toNat ((s.size:Int)).toNat) 16 (by decide)
       rw [qMo] at hl
       have hrange:= @g16 s.toList.tail
       generalize l1I s.toList.tail 16=q at*
       obtain ⟨x,ok⟩:=q
       have w1:ok=true→IntKind.i64.wrap (0-x)= -x:=fun h=>by
        have:=hrange h
        dsimp only at this
        rw [Int.zero_sub];exact qY (by omega)
       obtain ⟨n1,h1⟩:=hl
       obtain ⟨n2,h2⟩:=qBC 1 (-x) ⟨#[]⟩ (by decide)
       refine ⟨n1+n2+1,fun n hn=>?_⟩
       obtain ⟨m,rfl,hm⟩:=up1 hn
       have h1:=h1 m (by omega)
       dsimp only at h1
       have h2:=h2 m (by omega)
       dsimp only at h2
       simp only [qq,qAL,qA,qC,qF,qG,qH,qJ,Option.bind_some,qE,qK,qM,h1,h2]
       simp only [qA,qC,qF,qG,qH,qJ,Option.bind_some,qE,qK,qM,te,b0,hg,k39,e39,tT,bT,tF,bF,k35,e35,k45,e45,h45,if_true]
       cases ok with
       |false=>simp [s1]
       |true=>
        simp only [qA,qC,qF,qG,qH,qJ,Option.bind_some,qE,qK,qM,w1 rfl,h2]
        by_cases hx:x=0
        ·simp [s1,hx]
        ·cases ho:okV 1 (-x) (⟨#[]⟩:ByteArray)<;>simp [s1,hx,ho]
      ·have e45:(some c==some 45)=false:=by simpa using h45
       have hl:=qDK s 16 (by decide)
       generalize l1I s.toList 16=q at*
       obtain ⟨x,ok⟩:=q
       obtain ⟨n1,h1⟩:=hl
       obtain ⟨n2,h2⟩:=qBC 1 x ⟨#[]⟩ (by decide)
       refine ⟨n1+n2+1,fun n hn=>?_⟩
       obtain ⟨m,rfl,hm⟩:=up1 hn
       have h1:=h1 m (by omega)
       dsimp only at h1
       have h2:=h2 m (by omega)
       dsimp only at h2
       simp only [qq,qAL,qA,qC,qF,qG,qH,qJ,Option.bind_some,qE,qK,qM,h1,h2]
       simp only [qA,qC,qF,qG,qH,qJ,Option.bind_some,qE,qK,qM,te,b0,hg,k39,e39,tT,bT,tF,bF,k35,e35,k45,e45,if_neg h45]
       cases ok with
       |false=>simp
       |true=>cases ho:okV 1 x (⟨#[]⟩:ByteArray)<;>simp [ho]
def rcK (s:ByteArray):Nat→Int→Int
 |0,_=>0
 |k+1,i=>if (qD4 i).toList=s.toList then i else rcK s k (i+1)
def qHA (s:ByteArray):Int:=rcK s 52 1
def qGN (c:UInt8):Bool:=decide (65≤c.toNat)&&decide (c.toNat≤90)
def qh (l:List UInt8):List UInt8:=if l.head?=some 36 then l.tail else l
def qQ (l:List UInt8):List UInt8:=l.takeWhile qGN
def qAu (l:List UInt8):List UInt8:=l.dropWhile qGN
def qA9 (s:ByteArray):Int×Int×Bool×Bool×Bool:=
 if (l1I (qh (qAu (qh s.toList))) 2).2=true∧qA3 (qHA ⟨(qQ (qh s.toList)).toArray⟩) (l1I (qh (qAu (qh s.toList))) 2).1=true then
  (qHA ⟨(qQ (qh s.toList)).toArray⟩,(l1I (qh (qAu (qh s.toList))) 2).1,s.toList.head?==some 36,(qAu (qh s.toList)).head?==some 36,true) else (0,0,false,false,false)
theorem qJD {R:Type} {B:ByteArray×Int→Tr ((ByteArray×Int)⊕(Int⊕Unit))} {s:ByteArray} (hs:∀i:Int,1≤i∧i≤52→(B (s,i)).run=some (if (qD4 i).toList=s.toList then .inr (.inl i) else .inl (s,i+1))) (he:(B (s,53)).run=some (.inr (.inr ()))):
  ∀(k:Nat) (i:Int) (M:Nat),1≤i→i+k=53→k+1≤M→zF B M (s,i)=some (if rcK s k i=0 then .inr () else .inl (rcK s k i))
 |k,i,0,h1,h2,h3=>by omega
 |0,i,M+1,h1,h2,h3=>by
  have:i=53:=by omega
  subst this
  rw [qP he]
  rfl
 |k+1,i,M+1,h1,h2,h3=>by
  have h:=hs i ⟨h1,by omega⟩
  by_cases e:(qD4 i).toList=s.toList
  ·rw [if_pos e] at h
   rw [qP h]
   simp only [rcK,if_pos e]
   rw [if_neg (by omega)]
  ·rw [if_neg e] at h
   rw [qb h]
   simp only [rcK,if_neg e]
   exact qJD (R:=R) hs he k (i+1) M (by omega) (by omega) (by omega)
theorem qMF {F:Nat→Int→Option ByteArray} (h:∀i,Ev (F · i) (qD4 i)):∃n0,∀n,n0≤n→∀i,1≤i∧i≤52→F n i=some (qD4 i):=by
 obtain ⟨n0,h1⟩:=qA0 (F:=fun (i:Nat) n=>F n (i:Int)) (f:=fun i=>qD4 (i:Int)) (List.range 53) (fun i _=>h i)
 refine ⟨n0,fun n hn i hi=>?_⟩
 have:=h1 n hn i.toNat (by rw [List.mem_range];omega)
 rwa [Int.toNat_of_nonneg (by omega)] at this
theorem qIX (s:ByteArray):Ev (qBM · s) (qHA s):=by
 obtain ⟨n0,h⟩:=qMF qFH
 refine ⟨n0+60,fun n hn=>?_⟩
 obtain ⟨m,rfl,hm⟩:=up1 hn
 have hc:=h m (by omega)
 have lp:=qJD (R:=Unit) (B:=qBU m) (s:=s) (fun i hi=>by
  have g:=hc i hi
  have w1:IntKind.i64.wrap (i+1)=i+1:=qY (by omega)
  simp only [qBU,qA,qC,qF,qG,qH,qJ,Option.bind_some,qE,qK,qM,g,w1]
  rw [if_pos (decide_eq_true hi.2)]
  by_cases e:(qD4 i).toList=s.toList<;>simp [e]) (by simp [qBU,qA,qC,qF,qG,qH,qJ,Option.bind_some,qE,qK,qM]) 52 1 m (by decide) (by decide) (by omega)
 simp only [qBM,qDi,qA,qC,qF,qG,qH,qJ,Option.bind_some,qE,qK,qM,lp]
 show _=some (rcK s 52 1)
 by_cases e:rcK s 52 1=0
 ·rw [if_pos e,e];rfl
 ·rw [if_neg e];rfl
theorem qBt (b:ByteArray):b.size=b.toList.length:=(qAf b).symm
theorem qLm (b:ByteArray) (k:Nat):(b.extract 0 k).toList=b.toList.take k:=by
 rw [Go.Lib.toList_data,ByteArray.data_extract,Array.toList_extract,Go.Lib.toList_data]
 show (b.data.toList.drop 0).take (k-0)=_
 simp
theorem qD0 (b:ByteArray) (k:Nat):(b.extract k b.size).toList=b.toList.drop k:=by
 rw [Go.Lib.toList_data,ByteArray.data_extract,Array.toList_extract,Go.Lib.toList_data]
 have hl:b.data.toList.length=b.size:=by rw [←qEy]
 show (b.data.toList.drop k).take (b.size-k)=_
 rw [List.take_of_length_le (by rw [List.length_drop,hl];exact Nat.le_refl _)]
theorem qKR (l:List UInt8):l.take (qQ l).length=qQ l:=by
 have h:=List.takeWhile_append_dropWhile (p:=qGN) (l:=l)
 have h2:(List.takeWhile qGN l++List.dropWhile qGN l).take (List.takeWhile qGN l).length=List.takeWhile qGN l:=List.take_left ..
 rw [h] at h2
 exact h2
theorem qHB (l:List UInt8):l.drop (qQ l).length=qAu l:=by
 have h:=List.takeWhile_append_dropWhile (p:=qGN) (l:=l)
 have h2:(List.takeWhile qGN l++List.dropWhile qGN l).drop (List.takeWhile qGN l).length=List.dropWhile qGN l:=List.drop_left ..
 rw [h] at h2
 exact h2
theorem qKo (l:List UInt8):(qQ l).length≤l.length:=by
 have h:=congrArg List.length (List.takeWhile_append_dropWhile (p:=qGN) (l:=l))
 rw [List.length_append] at h
 unfold qQ
 omega
theorem qHC (n:Nat) (b:ByteArray) (fc:Bool) (hb:b.size≤1048576):∀(r pre:List UInt8) (M:Nat),b.toList=pre++r→r.length+1≤M→
  zF (qm n) M (b,(pre.length:Int),0,0,false,false,0,0,fc,false)=some (b,((pre.length+(qQ r).length:Nat):Int),0,0,false,false,0,0,fc,false)
 |r,pre,0,h1,h2=>by omega
 | [],pre,M+1,h1,h2=>by
  have hi:¬(pre.length:Int)<b.size:=by rw [qBt,h1];simp
  rw [qP (r:=(b,(pre.length:Int),0,0,false,false,0,0,fc,false)) (by simp [qm,qA,qC,qF,qG,qH,qJ,Option.bind_some,qE,qK,qM,hi])]
  simp [qQ]
 |c::r,pre,M+1,h1,h2=>by
  have hl:b.size=pre.length+(r.length+1):=by rw [qBt,h1];simp
  have hi:(pre.length:Int)<b.size:=by omega
  have hg:b.toList[pre.length]?=some c:=by rw [h1];simp
  have w1:IntKind.i64.wrap ((pre.length:Int)+1)=(pre.length:Int)+1:=qY (by omega)
  by_cases hc:qGN c=true
  ·have hc':65≤c.toNat∧c.toNat≤90:=by simpa [qGN] using hc
   have c1:(c.toNat:Int)≥65:=by omega
   have c2:(c.toNat:Int)≤90:=by omega
   have e0:((pre++ [c]).length:Int)=(pre.length:Int)+1:=by simp
   rw [qb (v':=(b,((pre++ [c]).length:Int),0,0,false,false,0,0,fc,false)) (by
    rw [e0]
    simp [qm,qA,qC,qF,qG,qH,qJ,Option.bind_some,qE,qK,qM,hi,hg,c1,c2,w1])]
   rw [qHC n b fc hb r (pre++ [c]) M (by rw [h1];simp) (by simp at h2;omega)]
   simp [qQ,hc]
   omega
  ·rw [qP (r:=(b,(pre.length:Int),0,0,false,false,0,0,fc,false)) (by
    by_cases c1:(c.toNat:Int)≥65
    ·have c2:¬(c.toNat:Int)≤90:=fun h=>hc (by simp [qGN];omega)
     simp [qm,qA,qC,qF,qG,qH,qJ,Option.bind_some,qE,qK,qM,hi,hg,c1,c2]
    ·simp [qm,qA,qC,qF,qG,qH,qJ,Option.bind_some,qE,qK,qM,hi,hg,c1])]
   simp [qQ,hc]
theorem qHD (s:ByteArray) (hb:s.size≤1048576):Ev (qAB · s) (qA9 s):=by
 have main:∀(b:ByteArray) (fc:Bool),b.size≤1048576→b.toList=qh s.toList→fc=(s.toList.head?==some 36)→
   ∃n0,∀m,n0≤m→zF (qm m) m (b,0,0,0,false,false,0,0,fc,false)=some (b,((qQ (qh s.toList)).length:Int),0,0,false,false,0,0,fc,false)∧
    qBM m (b.extract 0 (qQ (qh s.toList)).length)=some (qHA ⟨(qQ (qh s.toList)).toArray⟩)∧
    ql m (b.extract (qQ (qh s.toList)).length b.size) 2=some (l1I (qAu (qh s.toList)) 2)∧
    ql m ((b.extract (qQ (qh s.toList)).length b.size).extract 1 (b.extract (qQ (qh s.toList)).length b.size).size) 2=some (l1I (qAu (qh s.toList)).tail 2):=fun b fc hb hl _=>by
  have x1:b.extract 0 (qQ (qh s.toList)).length=⟨(qQ (qh s.toList)).toArray⟩:=qET (by rw [qLm,hl,qKR,qJz (qQ (qh s.toList))])
  have x2:(b.extract (qQ (qh s.toList)).length b.size).toList=qAu (qh s.toList):=by rw [qD0,hl,qHB]
  have x3:((b.extract (qQ (qh s.toList)).length b.size).extract 1 (b.extract (qQ (qh s.toList)).length b.size).size).toList=(qAu (qh s.toList)).tail:=by rw [qD0,x2,List.drop_one]
  obtain ⟨n1,h1⟩:=qIX (b.extract 0 (qQ (qh s.toList)).length)
  obtain ⟨n2,h2⟩:=qDK (b.extract (qQ (qh s.toList)).length b.size) 2 (by decide)
  obtain ⟨n3,h3⟩:=qDK ((b.extract (qQ (qh s.toList)).length b.size).extract 1 (b.extract (qQ (qh s.toList)).length b.size).size) 2 (by decide)
  rw [x1] at h1
  rw [x2] at h2
  rw [x3] at h3
  refine ⟨n1+n2+n3+b.size+2,fun m hm=>⟨?_,by rw [x1];exact h1 m (by omega),h2 m (by omega),h3 m (by omega)⟩⟩
  have:=qHC m b fc hb b.toList [] m rfl (by rw [←qBt];omega)
  simp only [List.length_nil,Int.natCast_zero,Nat.zero_add] at this
  rw [this,hl]
 have z:∀(b:ByteArray),b.toList=qh s.toList→((qQ (qh s.toList)).length:Int)≤b.size:=fun b hl=>by
  have:=qKo (qh s.toList)
  rw [←hl] at this⊢
  rw [qBt]
  omega
 have k36:∀c:UInt8,((c.toNat:Int)==36)=(some c==some 36):=fun c=>by
  have h:=qMD c 36 (by decide)
  have u:UInt8.ofNat 36=36:=rfl
  rw [u] at h
  exact h
 unfold qA9
 have part:∀(b:ByteArray) (fc:Bool),b.size≤1048576→b.toList=qh s.toList→fc=(s.toList.head?==some 36)→
   ((fc=true∧b=s.extract 1 s.size∧∃c r,s.toList=c::r∧c=36)∨(fc=false∧b=s∧∀c r,s.toList=c::r→(some c==some (36:UInt8))=false))→
   Ev (qAB · s) (if (l1I (qh (qAu (qh s.toList))) 2).2=true∧qA3 (qHA ⟨(qQ (qh s.toList)).toArray⟩) (l1I (qh (qAu (qh s.toList))) 2).1=true then
    (qHA ⟨(qQ (qh s.toList)).toArray⟩,(l1I (qh (qAu (qh s.toList))) 2).1,s.toList.head?==some 36,(qAu (qh s.toList)).head?==some 36,true) else (0,0,false,false,false)):=fun b fc hb2 hl hfc hcase=>by
  obtain ⟨n0,hm0⟩:=main b fc hb2 hl hfc
  have hz:=z b hl
  obtain ⟨n2,h2⟩:=qB7 (qHA ⟨(qQ (qh s.toList)).toArray⟩) (l1I (qh (qAu (qh s.toList))) 2).1
  have x2:(b.extract (qQ (qh s.toList)).length b.size).toList=qAu (qh s.toList):=by rw [qD0,hl,qHB]
  rw [←hfc]
  refine ⟨n0+n2+1,fun n hn=>?_⟩
  obtain ⟨m,rfl,hm⟩:=up1 hn
  obtain ⟨g1,g2,g3,g4⟩:=hm0 m (by omega)
  have h2:=h2 m (by omega)
  dsimp only at h2
  have e1:(1:Int).toNat=1:=rfl
  have e0:(0:Int).toNat=0:=rfl
  have start:∀q,(qBK m s).run=q→qAB (m+1) s=q:=fun q h=>h
  apply start
  rcases hcase with ⟨rfl,rfl,c,r,hcr,rfl⟩|⟨rfl,rfl,hno⟩
  ·have hsz:(s.size:Int)>0:=by rw [qBt,hcr];simp<;>omega
   have hs1:(1:Int)≤s.size:=by omega
   have hg:s.toList[0]?=some 36:=by rw [hcr];rfl
   have bs:(s.extract 1 s.size).size=s.size-1:=by rw [qBt,qD0,List.length_drop,←qBt]
   have zn:(qQ (qh s.toList)).length≤s.size-1:=by rw [←bs];omega
   have sn:0<s.size:=by omega
   have c36:((((36:UInt8)).toNat:Int)==36)=true:=rfl
   simp only [qBK,qA,qC,qF,qG,qH,qJ,Option.bind_some,qE,qK,qM,Int.toNat_natCast,e0,e1,hg,c36,g1,g2]
   cases hq:qAu (qh s.toList) with
   |nil=>
    have y0:((s.extract 1 s.size).extract (qQ (qh s.toList)).length (s.extract 1 s.size).size).size=0:=by rw [qBt,x2,hq];rfl
    have hoff:qh (qAu (qh s.toList))= []:=by rw [hq];rfl
    rw [hoff] at h2
    rw [hq] at g3
    simp only [y0,g3,h2,qA,qC,qF,qG,qH,qJ,Option.bind_some,qE,qK,qM]
    have hoff':qh ([]:List UInt8)= []:=rfl
    rw [hoff']
    generalize l1I ([]:List UInt8) 2=q at*
    obtain ⟨x,ok⟩:=q
    cases ok<;>cases hk:qA3 (qHA ⟨(qQ (qh s.toList)).toArray⟩) x<;>simp [hz,hsz,hs1,zn,sn]
   |cons d w=>
    have y0:(((s.extract 1 s.size).extract (qQ (qh s.toList)).length (s.extract 1 s.size).size).size:Int)>0:=by rw [qBt,x2,hq];simp<;>omega
    have y1:(1:Int)≤((s.extract 1 s.size).extract (qQ (qh s.toList)).length (s.extract 1 s.size).size).size:=by omega
    have ys:((s.extract 1 s.size).extract (qQ (qh s.toList)).length (s.extract 1 s.size).size).size=(s.extract 1 s.size).size-(qQ (qh s.toList)).length:=by rw [qBt,qD0,List.length_drop,←qBt]
    have yn:(qQ (qh s.toList)).length<(s.size-1):=by rw [←bs];omega
    have yn2:1≤(s.size-1)-(qQ (qh s.toList)).length:=by omega
    have yn3:0<(s.size-1)-(qQ (qh s.toList)).length:=by omega
    have yn4:(1:Int)≤(((s.size-1)-(qQ (qh s.toList)).length:Nat):Int):=by omega
    have yg:((s.extract 1 s.size).extract (qQ (qh s.toList)).length (s.extract 1 s.size).size).toList[0]?=some d:=by rw [x2,hq];rfl
    rw [hq] at g3 g4 h2
    simp only [yg,k36 d,qA,qC,qF,qG,qH,qJ,Option.bind_some,qE,qK,qM]
    by_cases hd:d=36
    ·have hoff:qh (d::w)=w:=by unfold qh;rw [if_pos (by rw [hd];rfl)];rfl
     rw [hoff] at h2⊢
     have e36:(some d==some (36:UInt8))=true:=by rw [hd];rfl
     simp only [List.tail_cons] at g4
     simp only [e36,g4,h2,List.head?_cons,qA,qC,qF,qG,qH,qJ,Option.bind_some,qE,qK,qM]
     generalize l1I w 2=q at*
     obtain ⟨x,ok⟩:=q
     cases ok<;>cases hk:qA3 (qHA ⟨(qQ (qh s.toList)).toArray⟩) x<;>simp [hz,hsz,hs1,y0,y1,zn,sn,yn,yn2,yn3,yn4]
    ·have hoff:qh (d::w)=d::w:=by unfold qh;rw [if_neg (by simpa using hd)]
     rw [hoff] at h2⊢
     have e36:(some d==some (36:UInt8))=false:=by simpa using hd
     simp only [e36,g3,h2,List.head?_cons,qA,qC,qF,qG,qH,qJ,Option.bind_some,qE,qK,qM]
     generalize l1I (d::w) 2=q at*
     obtain ⟨x,ok⟩:=q
     cases ok<;>cases hk:qA3 (qHA ⟨(qQ (qh s.toList)).toArray⟩) x<;>simp [hz,hsz,hs1,y0,y1,zn,sn,yn,yn2,yn3,yn4]
  ·by_cases hs0:(b.size:Int)>0
   ·obtain ⟨c,r,hcr⟩:∃c r,b.toList=c::r:=by
     cases hq:b.toList with
     |nil=>rw [qBt,hq] at hs0;simp at hs0
     |cons a l=>exact ⟨a,l,rfl⟩
    have hg:b.toList[0]?=some c:=by rw [hcr];rfl
    have hc:=hno c r hcr
    have hsz:(b.size:Int)>0:=hs0
    have hs1:(1:Int)≤b.size:=by omega
    have zn:(qQ (qh b.toList)).length≤b.size:=by omega
    have sn:0<b.size:=by omega
    simp only [qBK,qA,qC,qF,qG,qH,qJ,Option.bind_some,qE,qK,qM,Int.toNat_natCast,e0,e1,hg,k36 c,hc,g1,g2]
    cases hq:qAu (qh b.toList) with
    |nil=>
     have y0:(b.extract (qQ (qh b.toList)).length b.size).size=0:=by rw [qBt,x2,hq];rfl
     have hoff:qh (qAu (qh b.toList))= []:=by rw [hq];rfl
     rw [hoff] at h2
     rw [hq] at g3
     simp only [y0,g3,h2,qA,qC,qF,qG,qH,qJ,Option.bind_some,qE,qK,qM]
     have hoff':qh ([]:List UInt8)= []:=rfl
     rw [hoff']
     generalize l1I ([]:List UInt8) 2=q at*
     obtain ⟨x,ok⟩:=q
     cases ok<;>cases hk:qA3 (qHA ⟨(qQ (qh b.toList)).toArray⟩) x<;>simp [hz,hsz,hs1,zn,sn]
    |cons d w=>
     have y0:((b.extract (qQ (qh b.toList)).length b.size).size:Int)>0:=by rw [qBt,x2,hq];simp<;>omega
     have y1:(1:Int)≤(b.extract (qQ (qh b.toList)).length b.size).size:=by omega
     have ys:(b.extract (qQ (qh b.toList)).length b.size).size=b.size-(qQ (qh b.toList)).length:=by rw [qBt,qD0,List.length_drop,←qBt]
     have yn:(qQ (qh b.toList)).length<b.size:=by omega
     have yn2:1≤b.size-(qQ (qh b.toList)).length:=by omega
     have yn3:0<b.size-(qQ (qh b.toList)).length:=by omega
     have yn4:(1:Int)≤((b.size-(qQ (qh b.toList)).length:Nat):Int):=by omega
     have yg:(b.extract (qQ (qh b.toList)).length b.size).toList[0]?=some d:=by rw [x2,hq];rfl
     rw [hq] at g3 g4 h2
     simp only [yg,k36 d,qA,qC,qF,qG,qH,qJ,Option.bind_some,qE,qK,qM]
     by_cases hd:d=36
     ·have hoff:qh (d::w)=w:=by unfold qh;rw [if_pos (by rw [hd];rfl)];rfl
      rw [hoff] at h2⊢
      have e36:(some d==some (36:UInt8))=true:=by rw [hd];rfl
      simp only [List.tail_cons] at g4
      simp only [e36,g4,h2,List.head?_cons,qA,qC,qF,qG,qH,qJ,Option.bind_some,qE,qK,qM]
      generalize l1I w 2=q at*
      obtain ⟨x,ok⟩:=q
      cases ok<;>cases hk:qA3 (qHA ⟨(qQ (qh b.toList)).toArray⟩) x<;>simp [hz,hsz,hs1,y0,y1,zn,sn,yn,yn2,yn3,yn4]
     ·have hoff:qh (d::w)=d::w:=by unfold qh;rw [if_neg (by simpa using hd)]
      rw [hoff] at h2⊢
      have e36:(some d==some (36:UInt8))=false:=by simpa using hd
      simp only [e36,g3,h2,List.head?_cons,qA,qC,qF,qG,qH,qJ,Option.bind_some,qE,qK,qM]
      generalize l1I (d::w) 2=q at*
      obtain ⟨x,ok⟩:=q
      cases ok<;>cases hk:qA3 (qHA ⟨(qQ (qh b.toList)).toArray⟩) x<;>simp [hz,hsz,hs1,y0,y1,zn,sn,yn,yn2,yn3,yn4]
   ·have hsz:¬(b.size:Int)>0:=hs0
    have hs1:True:=trivial
    have zn:(qQ (qh b.toList)).length≤b.size:=by omega
    have sn:b.size=0:=by omega
    have lb:b.toList= []:=List.eq_nil_of_length_eq_zero (by rw [←qBt];omega)
    have hb0:qAu (qh b.toList)= []:=by rw [lb];rfl
    have ln:qQ (qh b.toList)= []:=by rw [lb];rfl
    simp only [qBK,qA,qC,qF,qG,qH,qJ,Option.bind_some,qE,qK,qM,Int.toNat_natCast,e0,e1,g1,g2]
    cases hq:qAu (qh b.toList) with
    |nil=>
     have y0:(b.extract (qQ (qh b.toList)).length b.size).size=0:=by rw [qBt,x2,hq];rfl
     have hoff:qh (qAu (qh b.toList))= []:=by rw [hq];rfl
     rw [hoff] at h2
     rw [hq] at g3
     simp only [y0,g3,h2,qA,qC,qF,qG,qH,qJ,Option.bind_some,qE,qK,qM]
     have hoff':qh ([]:List UInt8)= []:=rfl
     rw [hoff']
     generalize l1I ([]:List UInt8) 2=q at*
     obtain ⟨x,ok⟩:=q
     cases ok<;>cases hk:qA3 (qHA ⟨(qQ (qh b.toList)).toArray⟩) x<;>simp [hz,hsz,hs1,zn,sn,ln]
    |cons d w=>rw [hb0] at hq;cases hq
 by_cases h36:s.toList.head?=some 36
 ·have ho:qh s.toList=s.toList.tail:=by unfold qh;rw [if_pos h36]
  have ht:(s.extract 1 s.size).toList=s.toList.tail:=by rw [qD0,List.drop_one]
  obtain ⟨c,r,hcr⟩:∃c r,s.toList=c::r:=by
   cases hq:s.toList with
   |nil=>rw [hq] at h36;cases h36
   |cons a l=>exact ⟨a,l,rfl⟩
  refine part (s.extract 1 s.size) true (by rw [qBt,ht,List.length_tail,←qBt];omega) (by rw [ht,ho]) (by rw [h36];rfl) (.inl ⟨rfl,rfl,c,r,hcr,?_⟩)
  rw [hcr] at h36
  simpa using h36
 ·have ho:qh s.toList=s.toList:=by unfold qh;rw [if_neg h36]
  refine part s false hb ho.symm (by symm;simpa using h36) (.inr ⟨rfl,rfl,fun c r hcr=>?_⟩)
  rw [hcr] at h36
  simpa using h36
theorem qLe {l:List (List PV)} {p:Int} (k:Int) (hk:1≤k∧k≤1000000) (hl:qFh l) (hp:0≤p∧p≤l.length):∃(a p':Int),(0≤p'∧p'≤l.length)∧(0≤a∧a<k)∧∀n,2≤n→qO n k l p=some (a,l,p'):=by
 by_cases h:k=1
 ·subst h
  refine ⟨0,p,hp,by decide,fun n hn=>?_⟩
  obtain ⟨m,rfl,hm⟩:=up1 hn
  simp [qO,qBS,qA,qC,qF,qG,qH,qJ,Option.bind_some,qE,qK,qM]
 ·exact qBG k (by omega) hl hp
theorem qLn {l:List (List PV)} {p:Int} (hl:qFh l) (hp:0≤p∧p≤l.length):∃(c r:Int) (fc fr:Bool) (p':Int),(0≤p'∧p'≤l.length)∧∀n,14≤n→qBW n l p=some (c,r,fc,fr,l,p'):=by
 obtain ⟨a,b,p1,h1,h2⟩:=qKN hl hp
 obtain ⟨fc,p2,h3,h4⟩:=qDJ 4 (by decide) hl h1
 obtain ⟨fr,p3,h5,h6⟩:=qDJ 4 (by decide) hl h3
 obtain ⟨o,p4,h7,h8⟩:=qDJ 20 (by decide) hl h5
 cases o with
 |true=>
  obtain ⟨c,p5,h9,_,h10⟩:=qGi 1 52 (by decide) hl h7
  obtain ⟨d,p6,h11,_,h12⟩:=qGi 1 99 (by decide) hl h9
  refine ⟨c,d,fc,fr,p6,h11,fun n hn=>?_⟩
  obtain ⟨m,rfl,hm⟩:=up1 hn
  simp [qBW,qB8,qA,qC,qF,qG,qH,qJ,Option.bind_some,qE,qK,qM,h2 m (by omega),h4 m (by omega),h6 m (by omega),h8 m (by omega),h10 m (by omega),h12 m (by omega)]
 |false=>
  refine ⟨a,b,fc,fr,p4,h7,fun n hn=>?_⟩
  obtain ⟨m,rfl,hm⟩:=up1 hn
  simp [qBW,qB8,qA,qC,qF,qG,qH,qJ,Option.bind_some,qE,qK,qM,h2 m (by omega),h4 m (by omega),h6 m (by omega),h8 m (by omega)]
theorem qFl (c r:Int) (fc fr:Bool):(qFj c r fc fr).size≤30:=by
 unfold qFj
 split
 ·rename_i h
  have h1:=qJv c
  have h2:=qI9 (qKi h).2
  rw [qEy]
  cases fc<;>cases fr<;>simp<;>omega
 ·decide
abbrev Nd:=Int×Int×Int×Int×ByteArray×Int×Int×Bool×Bool×Int×Int×Bool×Bool×List Int
def qAZ (x:Int):List PV:= [.i .i64 x]
def qU (c:Nd):List PV:= [.i .i64 c.1,.i .i64 c.2.1,.i .i64 c.2.2.1,.i .i64 c.2.2.2.1,.s c.2.2.2.2.1,.i .i64 c.2.2.2.2.2.1,.i .i64 c.2.2.2.2.2.2.1,.b c.2.2.2.2.2.2.2.1,.b c.2.2.2.2.2.2.2.2.1,.i .i64 c.2.2.2.2.2.2.2.2.2.1,.i .i64 c.2.2.2.2.2.2.2.2.2.2.1,.b c.2.2.2.2.2.2.2.2.2.2.2.1,.b c.2.2.2.2.2.2.2.2.2.2.2.2.1,.ls ((c.2.2.2.2.2.2.2.2.2.2.2.2.2).map qAZ)]
def kd (c:Nd):List Int:=c.2.2.2.2.2.2.2.2.2.2.2.2.2
theorem qLo {l:List Int} {i:Nat} {e:List PV} (h:(l.map qAZ)[i]?=some e):∃c,l[i]?=some c∧e=qAZ c:=by
 rw [List.getElem?_map] at h
 obtain ⟨c,h1,h2⟩:=Option.map_eq_some_iff.1 h
 exact ⟨c,h1,h2.symm⟩
def qFI (op n:Int):Bool:=if op=5 then decide (n=2∨n=3) else if 8≤op∧op≤10 then decide (n=1) else if 1≤op∧op≤7 then decide (1≤n∧n≤10) else false
theorem ten {op:Int} (h:1≤op∧op≤10):op=1∨op=2∨op=3∨op=4∨op=5∨op=6∨op=7∨op=8∨op=9∨op=10:=by omega
theorem qJE (op n:Int):Ev (qDI · op n) (qFI op n):=by
 refine ⟨1,fun n hn=>?_⟩
 obtain ⟨m,rfl,hm⟩:=up1 hn
 simp only [qDI,qEJ,qA,qC,qF,qG,qH,qJ,Option.bind_some,qE,qK,qM]
 by_cases h:1≤op∧op≤10
 ·rcases ten h with rfl|rfl|rfl|rfl|rfl|rfl|rfl|rfl|rfl|rfl
  all_goals
   first
   |(by_cases h2:n=2<;>simp [qFI,h2];done)
   |(by_cases h1:n≥1<;>simp [qFI,h1];done)
   |(by_cases h1:n=1<;>simp [qFI,h1];done)
   |(by_cases h2:n=2<;>by_cases h3:n=3<;>simp [qFI,h2,h3];done)
   |(simp [qFI];done)
 ·have e1:¬op=1:=by omega
  have e2:¬op=2:=by omega
  have e3:¬op=3:=by omega
  have e4:¬op=4:=by omega
  have e5:¬op=5:=by omega
  have e6:¬op=6:=by omega
  have e7:¬op=7:=by omega
  have e8:¬op=8:=by omega
  have e9:¬op=9:=by omega
  have e10:¬op=10:=by omega
  have g1:¬(8≤op∧op≤10):=by omega
  have g2:¬(1≤op∧op≤7):=by omega
  simp [qFI,e1,e2,e3,e4,e5,e6,e7,e8,e9,e10,g1,g2]
def zV (k x:Int) (s:ByteArray):Bool:=decide (k=0)&&(decide (x=0)&&(s.toList== []))
def zP (a b:Int) (f g:Bool):Bool:=decide (a=0)&&(decide (b=0)&&(!f&&!g))
def qBQ (c:Nd):Bool:=
 if c.1=1 then decide (c.2.1=0)&&(zP c.2.2.2.2.2.1 c.2.2.2.2.2.2.1 c.2.2.2.2.2.2.2.1 c.2.2.2.2.2.2.2.2.1&&(zP c.2.2.2.2.2.2.2.2.2.1 c.2.2.2.2.2.2.2.2.2.2.1 c.2.2.2.2.2.2.2.2.2.2.2.1 c.2.2.2.2.2.2.2.2.2.2.2.2.1&&(decide ((kd c).length=0)&&(okV c.2.2.1 c.2.2.2.1 c.2.2.2.2.1&&(!decide (c.2.2.1=0)&&(!decide (c.2.2.1=1)||decide (c.2.2.2.1≥0))))))) else
 if c.1=2 then decide (c.2.1=0)&&(zV c.2.2.1 c.2.2.2.1 c.2.2.2.2.1&&(zP c.2.2.2.2.2.2.2.2.2.1 c.2.2.2.2.2.2.2.2.2.2.1 c.2.2.2.2.2.2.2.2.2.2.2.1 c.2.2.2.2.2.2.2.2.2.2.2.2.1&&(decide ((kd c).length=0)&&qA3 c.2.2.2.2.2.1 c.2.2.2.2.2.2.1))) else
 if c.1=3 then decide (c.2.1=0)&&(zV c.2.2.1 c.2.2.2.1 c.2.2.2.2.1&&(decide ((kd c).length=0)&&qCF c.2.2.2.2.2.1 c.2.2.2.2.2.2.1 c.2.2.2.2.2.2.2.2.2.1 c.2.2.2.2.2.2.2.2.2.2.1)) else
 if c.1=4 then decide (c.2.1=0)&&(zV c.2.2.1 c.2.2.2.1 c.2.2.2.2.1&&(zP c.2.2.2.2.2.1 c.2.2.2.2.2.2.1 c.2.2.2.2.2.2.2.1 c.2.2.2.2.2.2.2.2.1&&(zP c.2.2.2.2.2.2.2.2.2.1 c.2.2.2.2.2.2.2.2.2.2.1 c.2.2.2.2.2.2.2.2.2.2.2.1 c.2.2.2.2.2.2.2.2.2.2.2.2.1&&decide ((kd c).length=1)))) else
 if c.1=5 then decide (1≤c.2.1∧c.2.1≤11)&&(zV c.2.2.1 c.2.2.2.1 c.2.2.2.2.1&&(zP c.2.2.2.2.2.1 c.2.2.2.2.2.2.1 c.2.2.2.2.2.2.2.1 c.2.2.2.2.2.2.2.2.1&&(zP c.2.2.2.2.2.2.2.2.2.1 c.2.2.2.2.2.2.2.2.2.2.1 c.2.2.2.2.2.2.2.2.2.2.2.1 c.2.2.2.2.2.2.2.2.2.2.2.2.1&&decide ((kd c).length=2)))) else
 if c.1=6 then qFI c.2.1 ((kd c).length:Int)&&(zV c.2.2.1 c.2.2.2.1 c.2.2.2.2.1&&(zP c.2.2.2.2.2.1 c.2.2.2.2.2.2.1 c.2.2.2.2.2.2.2.1 c.2.2.2.2.2.2.2.2.1&&zP c.2.2.2.2.2.2.2.2.2.1 c.2.2.2.2.2.2.2.2.2.2.1 c.2.2.2.2.2.2.2.2.2.2.2.1 c.2.2.2.2.2.2.2.2.2.2.2.2.1)) else false
theorem qMp (k x:Int) (s:ByteArray):((k==(0:Int))&&((x==(0:Int))&&((s.toList==(⟨#[]⟩:ByteArray).toList)&&true)))=zV k x s:=by
 rw [qBB]
 unfold zV
 by_cases h:k=0<;>by_cases h2:x=0<;>simp [h,h2]
theorem qMq (k x:Int) (s:ByteArray):(((0:Int)==k)&&(((0:Int)==x)&&(((⟨#[]⟩:ByteArray).toList==s.toList)&&true)))=zV k x s:=by
 rw [←qMp]
 congr 1
 ·exact Bool.beq_comm
 ·congr 1
  ·exact Bool.beq_comm
  ·congr 1
   exact Bool.beq_comm
theorem qMr (a b:Int) (f g:Bool):((a==(0:Int))&&((b==(0:Int))&&((f==false)&&((g==false)&&true))))=zP a b f g:=by
 unfold zP
 by_cases h:a=0<;>by_cases h2:b=0<;>cases f<;>cases g<;>simp [h,h2]
theorem qMs (a b:Int) (f g:Bool):(((0:Int)==a)&&(((0:Int)==b)&&((false==f)&&((false==g)&&true))))=zP a b f g:=by
 rw [←qMr]
 congr 1
 ·exact Bool.beq_comm
 ·congr 1
  ·exact Bool.beq_comm
  ·cases f<;>cases g<;>rfl
theorem qCO (c:Nd) (hb:c.2.2.2.2.1.size≤140737488351232):Ev (qp · c.1 c.2.1 c.2.2.1 c.2.2.2.1 c.2.2.2.2.1 c.2.2.2.2.2.1 c.2.2.2.2.2.2.1 c.2.2.2.2.2.2.2.1 c.2.2.2.2.2.2.2.2.1 c.2.2.2.2.2.2.2.2.2.1 c.2.2.2.2.2.2.2.2.2.2.1 c.2.2.2.2.2.2.2.2.2.2.2.1 c.2.2.2.2.2.2.2.2.2.2.2.2.1 ((c.2.2.2.2.2.2.2.2.2.2.2.2.2).map qAZ)) (qBQ c):=by
 obtain ⟨n1,h1⟩:=qBC c.2.2.1 c.2.2.2.1 c.2.2.2.2.1 hb
 obtain ⟨n2,h2⟩:=qB7 c.2.2.2.2.2.1 c.2.2.2.2.2.2.1
 obtain ⟨n3,h3⟩:=qI8 c.2.2.2.2.2.1 c.2.2.2.2.2.2.1 c.2.2.2.2.2.2.2.2.2.1 c.2.2.2.2.2.2.2.2.2.2.1
 obtain ⟨n4,h4⟩:=qA1 c.2.1 1 11
 obtain ⟨n5,h5⟩:=qJE c.2.1 (((c.2.2.2.2.2.2.2.2.2.2.2.2.2).map qAZ).length:Int)
 refine ⟨n1+n2+n3+n4+n5+1,fun n hn=>?_⟩
 obtain ⟨m,rfl,hm⟩:=up1 hn
 have h1:=h1 m (by omega)
 dsimp only at h1
 have h2:=h2 m (by omega)
 dsimp only at h2
 have h3:=h3 m (by omega)
 dsimp only at h3
 have h4:=h4 m (by omega)
 dsimp only at h4
 have h5:=h5 m (by omega)
 dsimp only at h5
 simp only [qp,qDS,qA,qC,qF,qG,qH,qJ,Option.bind_some,qE,qK,qM,h1,h2,h3,h4,h5]
 have hk:((c.2.2.2.2.2.2.2.2.2.2.2.2.2).map qAZ).length=(kd c).length:=by rw [List.length_map];rfl
 simp only [qMp,qMr,hk]
 unfold qBQ
 by_cases k1:c.1=1
 ·simp only [k1,if_true,beq_self_eq_true]
  cases zP c.2.2.2.2.2.1 c.2.2.2.2.2.2.1 c.2.2.2.2.2.2.2.1 c.2.2.2.2.2.2.2.2.1<;>cases zP c.2.2.2.2.2.2.2.2.2.1 c.2.2.2.2.2.2.2.2.2.2.1 c.2.2.2.2.2.2.2.2.2.2.2.1 c.2.2.2.2.2.2.2.2.2.2.2.2.1<;>cases okV c.2.2.1 c.2.2.2.1 c.2.2.2.2.1<;>by_cases h0:c.2.1=0<;>by_cases h1:(kd c).length=0<;>by_cases h2:c.2.2.1=0<;>by_cases h3:c.2.2.1=1<;>simp [h0,h1,h2,h3]
 by_cases k2:c.1=2
 ·simp only [k2]
  cases zV c.2.2.1 c.2.2.2.1 c.2.2.2.2.1<;>cases zP c.2.2.2.2.2.2.2.2.2.1 c.2.2.2.2.2.2.2.2.2.2.1 c.2.2.2.2.2.2.2.2.2.2.2.1 c.2.2.2.2.2.2.2.2.2.2.2.2.1<;>cases qA3 c.2.2.2.2.2.1 c.2.2.2.2.2.2.1<;>by_cases h0:c.2.1=0<;>by_cases h1:(kd c).length=0<;>simp [h0,h1]
 by_cases k3:c.1=3
 ·simp only [k3]
  cases zV c.2.2.1 c.2.2.2.1 c.2.2.2.2.1<;>cases qCF c.2.2.2.2.2.1 c.2.2.2.2.2.2.1 c.2.2.2.2.2.2.2.2.2.1 c.2.2.2.2.2.2.2.2.2.2.1<;>by_cases h0:c.2.1=0<;>by_cases h1:(kd c).length=0<;>simp [h0,h1]
 by_cases k4:c.1=4
 ·simp only [k4]
  cases zV c.2.2.1 c.2.2.2.1 c.2.2.2.2.1<;>cases zP c.2.2.2.2.2.1 c.2.2.2.2.2.2.1 c.2.2.2.2.2.2.2.1 c.2.2.2.2.2.2.2.2.1<;>cases zP c.2.2.2.2.2.2.2.2.2.1 c.2.2.2.2.2.2.2.2.2.2.1 c.2.2.2.2.2.2.2.2.2.2.2.1 c.2.2.2.2.2.2.2.2.2.2.2.2.1<;>by_cases h0:c.2.1=0<;>by_cases h1:(kd c).length=1<;>simp [h0,h1]<;>omega
 by_cases k5:c.1=5
 ·simp only [k5]
  cases zV c.2.2.1 c.2.2.2.1 c.2.2.2.2.1<;>cases zP c.2.2.2.2.2.1 c.2.2.2.2.2.2.1 c.2.2.2.2.2.2.2.1 c.2.2.2.2.2.2.2.2.1<;>cases zP c.2.2.2.2.2.2.2.2.2.1 c.2.2.2.2.2.2.2.2.2.2.1 c.2.2.2.2.2.2.2.2.2.2.2.1 c.2.2.2.2.2.2.2.2.2.2.2.2.1<;>by_cases h0:1≤c.2.1∧c.2.1≤11<;>by_cases h1:(kd c).length=2<;>simp [h0,h1]<;>omega
 by_cases k6:c.1=6
 ·simp only [k6]
  cases zV c.2.2.1 c.2.2.2.1 c.2.2.2.2.1<;>cases zP c.2.2.2.2.2.1 c.2.2.2.2.2.2.1 c.2.2.2.2.2.2.2.1 c.2.2.2.2.2.2.2.2.1<;>cases zP c.2.2.2.2.2.2.2.2.2.1 c.2.2.2.2.2.2.2.2.2.2.1 c.2.2.2.2.2.2.2.2.2.2.2.1 c.2.2.2.2.2.2.2.2.2.2.2.2.1<;>cases qFI c.2.1 ((kd c).length:Int)<;>simp
 simp [k1,k2,k3,k4,k5,k6]
theorem qJF (c:Nd):Ev (qn · c.1 c.2.1 c.2.2.1 c.2.2.2.1 c.2.2.2.2.1 c.2.2.2.2.2.1 c.2.2.2.2.2.2.1 c.2.2.2.2.2.2.2.1 c.2.2.2.2.2.2.2.2.1 c.2.2.2.2.2.2.2.2.2.1 c.2.2.2.2.2.2.2.2.2.2.1 c.2.2.2.2.2.2.2.2.2.2.2.1 c.2.2.2.2.2.2.2.2.2.2.2.2.1 ((c.2.2.2.2.2.2.2.2.2.2.2.2.2).map qAZ)) (if c.1=4 then decide (c.2.1=0)&&decide ((kd c).length=1) else if c.1=5 then decide (1≤c.2.1∧c.2.1≤11)&&decide ((kd c).length=2) else if c.1=6 then qFI c.2.1 ((kd c).length:Int) else decide (c.2.1=0)&&decide ((kd c).length=0)):=by
 obtain ⟨n1,h1⟩:=qz c.2.1 1 11
 obtain ⟨n2,h2⟩:=qz c.2.1 1 10
 obtain ⟨n3,h3⟩:=qz (((c.2.2.2.2.2.2.2.2.2.2.2.2.2).map qAZ).length:Int) 2 3
 obtain ⟨n4,h4⟩:=qz (((c.2.2.2.2.2.2.2.2.2.2.2.2.2).map qAZ).length:Int) 1 10
 refine ⟨n1+n2+n3+n4+1,fun n hn=>?_⟩
 obtain ⟨m,rfl,hm⟩:=up1 hn
 have h1:=h1 m (by omega)
 dsimp only at h1
 have h2:=h2 m (by omega)
 dsimp only at h2
 have h3:=h3 m (by omega)
 dsimp only at h3
 have h4:=h4 m (by omega)
 dsimp only at h4
 simp only [qn,qCW,qA,qC,qF,qG,qH,qJ,Option.bind_some,qE,qK,qM,h1,h2,h3,h4]
 have hk:((c.2.2.2.2.2.2.2.2.2.2.2.2.2).map qAZ).length=(kd c).length:=by rw [List.length_map];rfl
 simp only [hk]
 by_cases k4:c.1=4
 ·simp only [k4]
  by_cases h0:c.2.1=0<;>by_cases h1:(kd c).length=1<;>simp [h0,h1]<;>omega
 by_cases k5:c.1=5
 ·simp only [k5]
  by_cases h0:1≤c.2.1∧c.2.1≤11<;>by_cases h1:(kd c).length=2<;>simp [h0,h1]<;>omega
 by_cases k6:c.1=6
 ·simp only [k6]
  unfold qFI
  by_cases h:1≤c.2.1∧c.2.1≤10
  ·by_cases h5:c.2.1=5
   ·have:(2≤((kd c).length:Int)∧((kd c).length:Int)≤3)↔(((kd c).length:Int)=2∨((kd c).length:Int)=3):=by omega
    simp [h5,this]
   ·by_cases h8:c.2.1≥8
    ·have g:8≤c.2.1∧c.2.1≤10:=by omega
     by_cases h1:((kd c).length:Int)=1<;>simp [h,h5,h8,g,h1]
    ·have g:¬(8≤c.2.1∧c.2.1≤10):=by omega
     have g':1≤c.2.1∧c.2.1≤7:=by omega
     simp [h,h5,h8,g,g']
  ·have h5:¬c.2.1=5:=by omega
   have g:¬(8≤c.2.1∧c.2.1≤10):=by omega
   have g':¬(1≤c.2.1∧c.2.1≤7):=by omega
   simp [h,h5,g,g']
 by_cases h0:c.2.1=0<;>by_cases h1:(kd c).length=0<;>simp [k4,k5,k6,h0,h1]<;>omega
theorem qHt (c:Nd):Ev (qW · c.1 c.2.1 c.2.2.1 c.2.2.2.1 c.2.2.2.2.1 c.2.2.2.2.2.1 c.2.2.2.2.2.2.1 c.2.2.2.2.2.2.2.1 c.2.2.2.2.2.2.2.2.1 c.2.2.2.2.2.2.2.2.2.1 c.2.2.2.2.2.2.2.2.2.2.1 c.2.2.2.2.2.2.2.2.2.2.2.1 c.2.2.2.2.2.2.2.2.2.2.2.2.1 ((c.2.2.2.2.2.2.2.2.2.2.2.2.2).map qAZ)) (if c.1=2 then qCF c.2.2.2.2.2.1 c.2.2.2.2.2.2.1 c.2.2.2.2.2.1 c.2.2.2.2.2.2.1 else if c.1=3 then qCF c.2.2.2.2.2.1 c.2.2.2.2.2.2.1 c.2.2.2.2.2.2.2.2.2.1 c.2.2.2.2.2.2.2.2.2.2.1 else true):=by
 have g:Ev (q7 · c.1 c.2.1 c.2.2.1 c.2.2.2.1 c.2.2.2.2.1 c.2.2.2.2.2.1 c.2.2.2.2.2.2.1 c.2.2.2.2.2.2.2.1 c.2.2.2.2.2.2.2.2.1 c.2.2.2.2.2.2.2.2.2.1 c.2.2.2.2.2.2.2.2.2.2.1 c.2.2.2.2.2.2.2.2.2.2.2.1 c.2.2.2.2.2.2.2.2.2.2.2.2.1 ((c.2.2.2.2.2.2.2.2.2.2.2.2.2).map qAZ)) (if c.1=2 then (c.2.2.2.2.2.1,c.2.2.2.2.2.2.1,c.2.2.2.2.2.1,c.2.2.2.2.2.2.1) else (c.2.2.2.2.2.1,c.2.2.2.2.2.2.1,c.2.2.2.2.2.2.2.2.2.1,c.2.2.2.2.2.2.2.2.2.2.1)):=by
  refine ⟨1,fun n hn=>?_⟩
  obtain ⟨m,rfl,hm⟩:=up1 hn
  simp only [q7,qA7,qA,qC,qF,qG,qH,qJ,Option.bind_some,qE,qK,qM]
  by_cases k2:c.1=2<;>simp [k2]
 obtain ⟨n1,h1⟩:=g
 obtain ⟨n2,h2⟩:=qC0 c.2.2.2.2.2.1 c.2.2.2.2.2.2.1 c.2.2.2.2.2.1 c.2.2.2.2.2.2.1
 obtain ⟨n3,h3⟩:=qC0 c.2.2.2.2.2.1 c.2.2.2.2.2.2.1 c.2.2.2.2.2.2.2.2.2.1 c.2.2.2.2.2.2.2.2.2.2.1
 refine ⟨n1+n2+n3+1,fun n hn=>?_⟩
 obtain ⟨m,rfl,hm⟩:=up1 hn
 have h1:=h1 m (by omega)
 dsimp only at h1
 have h2:=h2 m (by omega)
 dsimp only at h2
 have h3:=h3 m (by omega)
 dsimp only at h3
 simp only [qW,qBP,qA,qC,qF,qG,qH,qJ,Option.bind_some,qE,qK,qM,h1,h2,h3]
 by_cases k2:c.1=2
 ·simp [k2,h2]
 ·by_cases k3:c.1=3
  ·simp [k3,h3]
  ·simp [k2,k3]
theorem qLp (a b:Int):qCF a b a b=qA3 a b:=by
 unfold qCF
 cases qA3 a b<;>simp
theorem qJp (c:Nd) (hb:c.2.2.2.2.1.size≤140737488351232):Ev (qBz · c.1 c.2.1 c.2.2.1 c.2.2.2.1 c.2.2.2.2.1 c.2.2.2.2.2.1 c.2.2.2.2.2.2.1 c.2.2.2.2.2.2.2.1 c.2.2.2.2.2.2.2.2.1 c.2.2.2.2.2.2.2.2.2.1 c.2.2.2.2.2.2.2.2.2.2.1 c.2.2.2.2.2.2.2.2.2.2.2.1 c.2.2.2.2.2.2.2.2.2.2.2.2.1 ((c.2.2.2.2.2.2.2.2.2.2.2.2.2).map qAZ)) (qBQ c):=by
 obtain ⟨n1,g1⟩:=qIW c.2.2.1 c.2.2.2.1 c.2.2.2.2.1 hb
 obtain ⟨n2,g2⟩:=qHt c
 obtain ⟨n3,g3⟩:=qJF c
 refine ⟨n1+n2+n3+1,fun n hn=>?_⟩
 obtain ⟨m,rfl,hm⟩:=up1 hn
 have g1:=g1 m (by omega)
 have g2:=g2 m (by omega)
 have g3:=g3 m (by omega)
 dsimp only at g1 g2 g3
 rw [qLp] at g2
 simp only [qBz,qCj,qA,qC,qF,qG,qH,qJ,Option.bind_some,qE,qK,qM,g1,g2,g3,qMq,qMs]
 simp only [beq_self_eq_true,Bool.and_true,Bool.true_and]
 unfold qBQ
 by_cases k1:c.1=1
 ·have h5:(c.2.2.2.1≥0)=¬(c.2.2.2.1<0):=propext Int.not_lt.symm
  simp only [k1,h5]
  cases zP c.2.2.2.2.2.1 c.2.2.2.2.2.2.1 c.2.2.2.2.2.2.2.1 c.2.2.2.2.2.2.2.2.1<;>cases zP c.2.2.2.2.2.2.2.2.2.1 c.2.2.2.2.2.2.2.2.2.2.1 c.2.2.2.2.2.2.2.2.2.2.2.1 c.2.2.2.2.2.2.2.2.2.2.2.2.1<;>cases okV c.2.2.1 c.2.2.2.1 c.2.2.2.2.1<;>by_cases h0:c.2.1=0<;>by_cases h1:(kd c).length=0<;>by_cases h2:c.2.2.1=0<;>by_cases h3:c.2.2.1=1<;>by_cases h4:c.2.2.2.1<0<;>simp [h0,h1,h2,h3,h4]<;>(try omega)
 by_cases k2:c.1=2
 ·simp only [k2]
  cases zV c.2.2.1 c.2.2.2.1 c.2.2.2.2.1<;>cases zP c.2.2.2.2.2.2.2.2.2.1 c.2.2.2.2.2.2.2.2.2.2.1 c.2.2.2.2.2.2.2.2.2.2.2.1 c.2.2.2.2.2.2.2.2.2.2.2.2.1<;>cases qA3 c.2.2.2.2.2.1 c.2.2.2.2.2.2.1<;>by_cases h0:c.2.1=0<;>by_cases h1:(kd c).length=0<;>simp [h0,h1]
 by_cases k3:c.1=3
 ·simp only [k3]
  cases zV c.2.2.1 c.2.2.2.1 c.2.2.2.2.1<;>cases qCF c.2.2.2.2.2.1 c.2.2.2.2.2.2.1 c.2.2.2.2.2.2.2.2.2.1 c.2.2.2.2.2.2.2.2.2.2.1<;>by_cases h0:c.2.1=0<;>by_cases h1:(kd c).length=0<;>simp [h0,h1]
 by_cases k4:c.1=4
 ·simp only [k4]
  cases zV c.2.2.1 c.2.2.2.1 c.2.2.2.2.1<;>cases zP c.2.2.2.2.2.1 c.2.2.2.2.2.2.1 c.2.2.2.2.2.2.2.1 c.2.2.2.2.2.2.2.2.1<;>cases zP c.2.2.2.2.2.2.2.2.2.1 c.2.2.2.2.2.2.2.2.2.2.1 c.2.2.2.2.2.2.2.2.2.2.2.1 c.2.2.2.2.2.2.2.2.2.2.2.2.1<;>by_cases h0:c.2.1=0<;>by_cases h1:(kd c).length=1<;>simp [h0,h1]
 by_cases k5:c.1=5
 ·simp only [k5]
  cases zV c.2.2.1 c.2.2.2.1 c.2.2.2.2.1<;>cases zP c.2.2.2.2.2.1 c.2.2.2.2.2.2.1 c.2.2.2.2.2.2.2.1 c.2.2.2.2.2.2.2.2.1<;>cases zP c.2.2.2.2.2.2.2.2.2.1 c.2.2.2.2.2.2.2.2.2.2.1 c.2.2.2.2.2.2.2.2.2.2.2.1 c.2.2.2.2.2.2.2.2.2.2.2.2.1<;>by_cases h0:1≤c.2.1∧c.2.1≤11<;>by_cases h1:(kd c).length=2<;>simp [h0,h1]
 by_cases k6:c.1=6
 ·simp only [k6]
  cases zV c.2.2.1 c.2.2.2.1 c.2.2.2.2.1<;>cases zP c.2.2.2.2.2.1 c.2.2.2.2.2.2.1 c.2.2.2.2.2.2.2.1 c.2.2.2.2.2.2.2.2.1<;>cases zP c.2.2.2.2.2.2.2.2.2.1 c.2.2.2.2.2.2.2.2.2.2.1 c.2.2.2.2.2.2.2.2.2.2.2.1 c.2.2.2.2.2.2.2.2.2.2.2.2.1<;>cases qFI c.2.1 ((kd c).length:Int)<;>simp
 simp [k1,k2,k3,k4,k5,k6]
section
variable (own area call:Int→Bool) (kids:Int→List Int)
def goF (F:Int→Int) (n:Int):List Int→Int→Int
 | [],start=>start
 |k::r,start=>if k≠start-1∨k<0∨(area k=true∧call n=false) then-1 else if F k<0 then-1 else goF F n r (F k)
def qBb:Nat→Int→Int
 |0,_=> -1
 |f+1,n=>if n<0∨own n=false then-1 else goF area call (qBb f) n (kids n).reverse n
def goT (F:Int→Int):List Int→Int→Int
 | [],x=>x+1
 |k::r,x=>if x<0∨k≠x then-1 else if F x<0 then-1 else goT F r (F x-1)
def qBe:Nat→Int→Int
 |0,_=> -1
 |f+1,n=>goT (qBe f) (kids n).reverse (n-1)
def qFm:List Int→Int
 | []=>0
 |x::r=>max x (qFm r)
def qAW:Nat→Int→Int
 |0,_=>0
 |f+1,n=>qFm ((kids n).map fun k=>qAW f k)+1
def qD1 (i:Int):Prop:=∀k∈kids i,0≤k∧k≤i-1∧¬(area k=true∧call i=false)
theorem qJG:∀(f:Nat) (n:Int),0≤n→qBe kids f n≤n
 |0,n,h=>by rw [qBe];omega
 |f+1,n,h=>by
  have go:∀(l:List Int) (x:Int),x+1≤n→-1≤x→goT (qBe kids f) l x≤n:=by
   intro l
   induction l with
   |nil=>intro x h1 h2;rw [goT];omega
   |cons k r ih=>
    intro x h1 h2
    rw [goT]
    split
    ·omega
    ·split
     ·omega
     ·have:=qJG f x (by omega)
      exact ih _ (by omega) (by omega)
  rw [qBe]
  exact go _ _ (by omega) (by omega)
theorem qLI {l:List Int} {b:Int} (h0:0≤b):qFm l≤b↔∀x∈l,x≤b:=by
 induction l with
 |nil=>simp [qFm,h0]
 |cons a r ih=>simp only [qFm,List.mem_cons,forall_eq_or_imp];rw [Int.max_le,ih]
theorem qJH {n b:Int} {f:Nat} (h0:1≤b):qAW kids (f+1) n≤b↔∀k∈kids n,qAW kids f k≤b-1:=by
 rw [qAW]
 constructor
 ·intro h k hk
  exact (qLI (l:=(kids n).map fun k=>qAW kids f k) (by omega)).1 (by omega) _ (List.mem_map_of_mem (f:=fun k=>qAW kids f k) hk)
 ·intro h
  have:=(qLI (l:=(kids n).map fun k=>qAW kids f k) (b:=b-1) (by omega)).2 (by
   intro x hx
   obtain ⟨k,hk,rfl⟩:=List.mem_map.1 hx
   exact h k hk)
  omega
theorem qJI:∀(f g:Nat) (n:Int),n<f→n<g→(∀i,0≤i→i≤n→qD1 area call kids i)→0≤n→qAW kids f n=qAW kids g n
 |0,g,n,h1,h2,_,h3=>by omega
 |f+1,0,n,h1,h2,_,h3=>by omega
 |f+1,g+1,n,h1,h2,hk,h3=>by
  rw [qAW,qAW]
  congr 2
  apply List.map_congr_left
  intro k hm
  have:=hk n h3 (by omega) k hm
  exact qJI f g k (by omega) (by omega) (fun i h0 h1=>hk i h0 (by omega)) (by omega)
theorem qLf:∀(f:Nat) (n:Int),0≤n→n<f→1≤qAW kids f n
 |0,n,h,h'=>by omega
 |f+1,n,h,h'=>by
  rw [qAW]
  have:∀l:List Int,0≤qFm l:=by
   intro l
   induction l with
   |nil=>exact Int.le_refl 0
   |cons a r ih=>simp only [qFm];omega
  have:=this ((kids n).map fun k=>qAW kids f k)
  omega
theorem qKS:∀(f g:Nat) (n:Int),0≤n→n<g→0≤qBb own area call kids f n→
  qBb own area call kids f n≤n∧qBe kids g n=qBb own area call kids f n∧(∀i,qBb own area call kids f n≤i→i≤n→own i=true∧qD1 area call kids i)∧(∀h:Nat,(∀i,0≤i→i≤n→qD1 area call kids i)→n<h→qAW kids h n≤f)
 |0,g,n,h0,h1,h2=>by rw [qBb] at h2;omega
 |f+1,0,n,h0,h1,h2=>by omega
 |f+1,g+1,n,h0,h1,h2=>by
  rw [qBb] at h2⊢
  split at h2
  ·omega
  ·rename_i hc
   rw [if_neg hc]
   have go:∀(l:List Int) (s:Int),0≤s→s≤n→0≤goF area call (qBb own area call kids f) n l s→
     goF area call (qBb own area call kids f) n l s≤s∧goT (qBe kids g) l (s-1)=goF area call (qBb own area call kids f) n l s∧(∀i,goF area call (qBb own area call kids f) n l s≤i→i≤s-1→own i=true∧qD1 area call kids i)∧(∀k∈l,0≤k∧k≤n-1∧¬(area k=true∧call n=false))∧(∀h:Nat,(∀i,0≤i→i≤n→qD1 area call kids i)→n<h→∀k∈l,qAW kids h k≤f):=by
    intro l
    induction l with
    |nil=>
     intro s h3 h4 h5
     rw [goF] at h5⊢
     rw [goT]
     refine ⟨by omega,by omega,fun i _ _=>by omega,fun k hk=>(by cases hk),fun h _ _ k hk=>(by cases hk)⟩
    |cons k r ih=>
     intro s h3 h4 h5
     rw [goF] at h5⊢
     split at h5
     ·omega
     ·rename_i hd
      rw [if_neg hd]
      split at h5
      ·omega
      ·rename_i he
       rw [if_neg he]
       have hk:k=s-1:=by omega
       subst hk
       obtain ⟨a1,a2,a3,a4⟩:=qKS f g (s-1) (by omega) (by omega) (by omega)
       obtain ⟨b1,b2,b3,b4,b5⟩:=ih _ (by omega) (by omega) h5
       refine ⟨by omega,?_,?_,?_,?_⟩
       ·rw [goT,if_neg (by omega),a2,if_neg he,b2]
       ·intro i i1 i2
        by_cases hi:qBb own area call kids f (s-1)≤i
        ·exact a3 i hi i2
        ·exact b3 i i1 (by omega)
       ·intro k hk
        rcases List.mem_cons.1 hk with rfl|hk
        ·exact ⟨by omega,by omega,fun h=>hd (.inr (.inr h))⟩
        ·exact b4 k hk
       ·intro h hx hy k hk
        rcases List.mem_cons.1 hk with rfl|hk
        ·exact a4 h (fun i i1 i2=>hx i i1 (by omega)) (by omega)
        ·exact b5 h hx hy k hk
   obtain ⟨c1,c2,c3,c4,c5⟩:=go _ n h0 (Int.le_refl n) h2
   have hown:own n=true:=by cases ho:own n with
    |true=>rfl
    |false=>exact absurd (.inr ho) hc
   refine ⟨c1,by rw [qBe];exact c2,?_,?_⟩
   ·intro i i1 i2
    by_cases hi:i=n
    ·subst hi
     exact ⟨hown,fun k hk=>c4 k (List.mem_reverse.2 hk)⟩
    ·exact c3 i i1 (by omega)
   ·intro h hx hy
    cases h with
    |zero=>omega
    |succ h=>
     refine (qJH kids (by omega)).2 fun k hk=>?_
     have hin:=hx n h0 (Int.le_refl n) k hk
     have e:qAW kids h k=qAW kids (n.toNat+1) k:=qJI area call kids _ _ _ (by omega) (by omega) (fun i i1 i2=>hx i i1 (by omega)) (by omega)
     rw [e]
     have:=c5 (n.toNat+1) hx (by omega) k (List.mem_reverse.2 hk)
     omega
theorem qLJ:∀(f g h:Nat) (n:Int),0≤n→n<g→n<h→(∀i,0≤i→i≤n→own i=true∧qD1 area call kids i)→0≤qBe kids g n→qAW kids h n≤f→qBb own area call kids f n=qBe kids g n
 |0,g,h,n,h0,h1,h1',h2,h3,h4=>by have:=qLf kids h n h0 h1';omega
 |f+1,0,h,n,h0,h1,_,h2,h3,h4=>by omega
 |f+1,g+1,0,n,h0,h1,_,h2,h3,h4=>by omega
 |f+1,g+1,h+1,n,h0,h1,h1',h2,h3,h4=>by
  have hd:=(qJH kids (b:=((f+1:Nat):Int)) (by omega)).1 h4
  have go:∀(l:List Int) (s:Int),(∀k∈l,k∈kids n)→0≤s→s≤n→0≤goT (qBe kids g) l (s-1)→goF area call (qBb own area call kids f) n l s=goT (qBe kids g) l (s-1):=by
   intro l
   induction l with
   |nil=>intro s _ _ _ _;rw [goF,goT];omega
   |cons k r ih=>
    intro s hm h3 h4 h5
    rw [goT] at h5⊢
    rw [goF]
    split at h5
    ·omega
    ·rename_i hc
     rw [if_neg hc]
     split at h5
     ·omega
     ·rename_i he
      rw [if_neg he]
      have hk:k=s-1:=by omega
      have hin:=(h2 n h0 (Int.le_refl n)).2 k (hm k (List.mem_cons_self ..))
      have hdk:=hd k (hm k (List.mem_cons_self ..))
      subst hk
      have e:=qLJ f g h (s-1) (by omega) (by omega) (by omega) (fun i i1 i2=>h2 i i1 (by omega)) (by omega) (by omega)
      have hb:¬(s-1≠s-1∨s-1<0∨(area (s-1)=true∧call n=false)):=fun hx=>by
       rcases hx with hx|hx|hx
       ·exact hx rfl
       ·omega
       ·exact hin.2.2 hx
      rw [if_neg hb,e,if_neg he]
      have hle:=qJG kids g (s-1) (by omega)
      exact ih _ (fun k hk=>hm k (List.mem_cons_of_mem _ hk)) (by omega) (by omega) h5
  rw [qBe] at h3
  have hn:¬(n<0∨own n=false):=fun hx=>by
   rcases hx with hx|hx
   ·omega
   ·rw [(h2 n h0 (Int.le_refl n)).1] at hx;cases hx
  rw [qBb,qBe,if_neg hn]
  exact go _ n (fun k hk=>List.mem_reverse.1 hk) h0 (Int.le_refl n) h3
end
theorem qAg (c:Nd):(qU c).length=14:=rfl
theorem qAh (k:Int):(qAZ k).length=1:=rfl
theorem qAi (k:Int):zC .i64 (qAZ k) 0=some k:=rfl
theorem qAj (c:Nd):zC .i64 (qU c) 0=some c.1:=rfl
theorem qAk (c:Nd):zC .i64 (qU c) 1=some c.2.1:=rfl
theorem qAl (c:Nd):zC .i64 (qU c) 2=some c.2.2.1:=rfl
theorem qAm (c:Nd):zC .i64 (qU c) 3=some c.2.2.2.1:=rfl
theorem qAn (c:Nd):z8 (qU c) 4=some c.2.2.2.2.1:=rfl
theorem qAo (c:Nd):zC .i64 (qU c) 5=some c.2.2.2.2.2.1:=rfl
theorem qAp (c:Nd):zC .i64 (qU c) 6=some c.2.2.2.2.2.2.1:=rfl
theorem qAq (c:Nd):zR (qU c) 7=some c.2.2.2.2.2.2.2.1:=rfl
theorem qAr (c:Nd):zR (qU c) 8=some c.2.2.2.2.2.2.2.2.1:=rfl
theorem qAs (c:Nd):zC .i64 (qU c) 9=some c.2.2.2.2.2.2.2.2.2.1:=rfl
theorem qAE (c:Nd):zC .i64 (qU c) 10=some c.2.2.2.2.2.2.2.2.2.2.1:=rfl
theorem qAF (c:Nd):zR (qU c) 11=some c.2.2.2.2.2.2.2.2.2.2.2.1:=rfl
theorem qAG (c:Nd):zR (qU c) 12=some c.2.2.2.2.2.2.2.2.2.2.2.2.1:=rfl
theorem qAH (c:Nd):zAG (qU c) 13=some ((c.2.2.2.2.2.2.2.2.2.2.2.2.2).map qAZ):=rfl
def nd0:Nd:=(0,0,0,0,⟨#[]⟩,0,0,false,false,0,0,false,false,[])
def ndi (l:List Nd) (i:Int):Nd:=l.getD i.toNat nd0
def qX (l:List Nd) (i:Int):List Int:=kd (ndi l i)
def qDN (l:List Nd) (i:Int):Bool:=qBQ (ndi l i)
def qAX (l:List Nd) (i:Int):Bool:=decide ((ndi l i).1=3)
def qA4 (l:List Nd) (i:Int):Bool:=decide ((ndi l i).1=6)
theorem qCB {l:List Nd} {i:Int} (h:0≤i∧i<l.length):l[i.toNat]?=some (ndi l i):=by
 have:i.toNat<l.length:=by omega
 unfold ndi
 rw [List.getElem?_eq_getElem this,List.getD_eq_getElem?_getD,List.getElem?_eq_getElem this]
 rfl
theorem qId {l:List Nd} {i:Int} (h:0≤i∧i<l.length):ndi l i∈l:=List.mem_of_getElem? (qCB h)
theorem qKp {α:Type} {l:List α} {j:Nat} {k:α} (h:l[j]?=some k):(l.take (j+1)).reverse=k::(l.take j).reverse:=by
 rw [List.take_add_one,h]
 simp
theorem qKq {R:Type} {F:Int→Nat→Option R} {f:Int→R} (x:Int) (h:∀y,0≤y→y<x→Ev (F y) (f y)):∃n0,∀n,n0≤n→∀y,0≤y→y<x→F y n=some (f y):=by
 obtain ⟨n0,h0⟩:=qA0 (F:=F) (f:=f) ((List.range x.toNat).map fun (i:Nat)=>(i:Int)) (fun c hc=>by
  obtain ⟨i,hi,rfl⟩:=List.mem_map.1 hc
  have:=List.mem_range.1 hi
  exact h _ (Int.natCast_nonneg i) (by omega))
 refine ⟨n0,fun n hn y h1 h2=>h0 n hn y (List.mem_map.2 ⟨y.toNat,List.mem_range.2 (by omega),by omega⟩)⟩
theorem qJ1 (l:List Nd) (x1:Int) (f n:Nat) (hx:0≤x1∧x1<l.length) (hl:l.length≤140737488351232) (hk:(kd (ndi l x1)).length≤140737488351232)
  (hrec:∀y:Int,0≤y→y<x1→qAC n (l.map qU) y=some (qBe (qX l) f y)):
  ∀(j M:Nat) (s:Int),j≤(kd (ndi l x1)).length→j+1≤M→-1≤s→s<x1→
   (∃x,zF (qAO (qAC n) n) M (l.map qU,x1,s,(j:Int)-1)=some (.inr x)∧goT (qBe (qX l) f) ((qX l x1).take j).reverse s=x+1∧-1≤x∧x<x1)∨
   (zF (qAO (qAC n) n) M (l.map qU,x1,s,(j:Int)-1)=some (.inl (-1))∧goT (qBe (qX l) f) ((qX l x1).take j).reverse s= -1)
 |0,0,s,h1,h2,h3,h4=>by omega
 |0,M+1,s,h1,h2,h3,h4=>by
  refine .inl ⟨s,?_,by simp [goT],h3,h4⟩
  rw [qP (r:= .inr s) (by simp [-getElem?_pos,qAO,qA,qC,qF,qG,qH,qJ,Option.bind_some,qE,qK,qM])]
 |j+1,0,s,h1,h2,h3,h4=>by omega
 |j+1,M+1,s,h1,h2,h3,h4=>by
  have hc:=qCB hx
  have hj:j<(kd (ndi l x1)).length:=by omega
  have hg:(qX l x1)[j]?=some (qX l x1)[j]:=List.getElem?_eq_getElem hj
  have ih:=qJ1 l x1 f n hx hl hk hrec j M
  rw [qKp hg]
  generalize (qX l x1)[j]=k at hg
  have hi:(((j+1:Nat):Int)-1)=(j:Int):=by omega
  rw [hi,goT]
  have hg':(ndi l x1).2.2.2.2.2.2.2.2.2.2.2.2.2[j]?=some k:=hg
  have hj':j<(ndi l x1).2.2.2.2.2.2.2.2.2.2.2.2.2.length:=hj
  by_cases hs:s<0
  ·refine .inr ⟨?_,by rw [if_pos (.inl hs)]⟩
   rw [qP (r:= .inl (-1)) (by simp [-getElem?_pos,qAO,qA,qC,qF,qG,qH,qJ,Option.bind_some,qE,qK,qM,hs])]
  ·by_cases hks:k=s
   ·subst hks
    have hr:=hrec k (by omega) h4
    by_cases ht:qBe (qX l) f k<0
    ·refine .inr ⟨?_,by rw [if_neg (by omega),if_pos ht]⟩
     rw [qP (r:= .inl (-1)) (by simp [-getElem?_pos,qAO,qA,qC,qF,qG,qH,qJ,Option.bind_some,qE,qK,qM,hs,hc,hx,qAg,qAh,qAi,qAj,qAk,qAl,qAm,qAn,qAo,qAp,qAq,qAr,qAs,qAE,qAF,qAG,qAH,hg',hj',hr,ht])]
    ·have hle:=qJG (qX l) f k (by omega)
     have hw:IntKind.i64.wrap (qBe (qX l) f k-1)=qBe (qX l) f k-1:=qY (by omega)
     have hw2:IntKind.i64.wrap ((j:Int)-1)=(j:Int)-1:=qY (by omega)
     rw [if_neg (by omega),if_neg ht]
     rw [qb (v':=(l.map qU,x1,qBe (qX l) f k-1,(j:Int)-1)) (by simp [-getElem?_pos,qAO,qA,qC,qF,qG,qH,qJ,Option.bind_some,qE,qK,qM,hs,hc,hx,qAg,qAh,qAi,qAj,qAk,qAl,qAm,qAn,qAo,qAp,qAq,qAr,qAs,qAE,qAF,qAG,qAH,hg',hj',hr,ht,hw,hw2])]
     exact ih _ (by omega) (by omega) (by omega) (by omega)
   ·refine .inr ⟨?_,by rw [if_pos (.inr hks)]⟩
    rw [qP (r:= .inl (-1)) (by simp [-getElem?_pos,qAO,qA,qC,qF,qG,qH,qJ,Option.bind_some,qE,qK,qM,hs,hc,hx,qAg,qAh,qAi,qAj,qAk,qAl,qAm,qAn,qAo,qAp,qAq,qAr,qAs,qAE,qAF,qAG,qAH,hg',hj',hks])]
theorem qFn (l:List Nd) (hl:l.length≤140737488351232) (hk:∀c∈l,(kd c).length≤140737488351232):∀(f:Nat) (x:Int),0≤x→x<l.length→x<f→Ev (qAC · (l.map qU) x) (qBe (qX l) f x)
 |0,x,h0,h1,h2=>by omega
 |f+1,x,h0,h1,h2=>by
  obtain ⟨n0,hn0⟩:=qKq (F:=fun y n=>qAC n (l.map qU) y) (f:=fun y=>qBe (qX l) f y) x (fun y h3 h4=>qFn l hl hk f y h3 (by omega) (by omega))
  refine ⟨n0+(kd (ndi l x)).length+5,fun n hn=>?_⟩
  obtain ⟨m,rfl,hm⟩:=up1 hn
  have hc:=qCB (l:=l) (i:=x) ⟨h0,h1⟩
  have hkx:=hk _ (qId (l:=l) ⟨h0,h1⟩)
  have hw:IntKind.i64.wrap (x-1)=x-1:=qY (by omega)
  have hw2:IntKind.i64.wrap (((kd (ndi l x)).length:Int)-1)=((kd (ndi l x)).length:Int)-1:=qY (by omega)
  have h:=qJ1 l x f m ⟨h0,h1⟩ hl hkx (hn0 m (by omega)) (kd (ndi l x)).length m (x-1) (Nat.le_refl _) (by omega) (by omega) (by omega)
  have e:(qX l x).take (kd (ndi l x)).length=qX l x:=List.take_length
  rw [e] at h
  rw [show qBe (qX l) (f+1) x=goT (qBe (qX l) f) (qX l x).reverse (x-1) from rfl]
  unfold kd at h hw2
  dsimp only
  simp only [qAC,qEM,qA,qC,qF,qG,qH,qJ,Option.bind_some,qE,qK,qM]
  rcases h with ⟨y,g1,g2,g3,g4⟩|⟨g1,g2⟩
  ·have hw3:IntKind.i64.wrap (y+1)=y+1:=qY (by omega)
   rw [g2]
   simp [-getElem?_pos,qA,qC,qF,qG,qH,qJ,Option.bind_some,qE,qK,qM,hc,h0,h1,qAg,qAh,qAi,qAj,qAk,qAl,qAm,qAn,qAo,qAp,qAq,qAr,qAs,qAE,qAF,qAG,qAH,hw,hw2,g1,hw3]
  ·rw [g2]
   simp [-getElem?_pos,qA,qC,qF,qG,qH,qJ,Option.bind_some,qE,qK,qM,hc,h0,h1,qAg,qAh,qAi,qAj,qAk,qAl,qAm,qAn,qAo,qAp,qAq,qAr,qAs,qAE,qAF,qAG,qAH,hw,hw2,g1]
theorem qHu (kids:Int→List Int):∀(f:Nat) (n:Int),0≤qAW kids f n∧qAW kids f n≤f
 |0,n=>by rw [qAW];omega
 |f+1,n=>by
  have:∀l:List Int,0≤qFm (l.map fun k=>qAW kids f k)∧qFm (l.map fun k=>qAW kids f k)≤f:=by
   intro l
   induction l with
   |nil=>exact ⟨Int.le_refl 0,Int.natCast_nonneg f⟩
   |cons a r ih=>have:=qHu kids f a;simp only [List.map_cons,qFm];omega
  have:=this (kids n)
  rw [qAW]
  omega
theorem qJ2 (l:List Nd) (x1:Int) (f n:Nat) (hx:0≤x1∧x1<l.length) (hf:f≤1000) (hk:(kd (ndi l x1)).length≤140737488351232)
  (hrec:∀k∈qX l x1,qAD n (l.map qU) k=some (qAW (qX l) f k)):
  ∀(m i M:Nat) (a:Int),(kd (ndi l x1)).length=i+m→m+1≤M→0≤a→
   zF (qBo (qAD n) n) M (l.map qU,x1,a,(i:Int))=some (max a (qFm (((qX l x1).drop i).map fun k=>qAW (qX l) f k)))
 |m,i,0,a,h1,h2,h3=>by omega
 |0,i,M+1,a,h1,h2,h3=>by
  have hc:=qCB hx
  have hi:¬i<(ndi l x1).2.2.2.2.2.2.2.2.2.2.2.2.2.length:=by unfold kd at h1;omega
  rw [qP (r:=a) (by simp [-getElem?_pos,qBo,qA,qC,qF,qG,qH,qJ,Option.bind_some,qE,qK,qM,hc,hx,qAg,qAh,qAi,qAj,qAk,qAl,qAm,qAn,qAo,qAp,qAq,qAr,qAs,qAE,qAF,qAG,qAH,hi])]
  rw [List.drop_eq_nil_of_le (by unfold qX;omega)]
  simp only [List.map_nil,qFm]
  congr 1
  omega
 |m+1,i,M+1,a,h1,h2,h3=>by
  have hc:=qCB hx
  have hj:i<(kd (ndi l x1)).length:=by omega
  have hg:(qX l x1)[i]?=some (qX l x1)[i]:=List.getElem?_eq_getElem hj
  rw [qEl hg]
  have hr:=hrec _ (List.mem_of_getElem? hg)
  generalize (qX l x1)[i]=k at hg hr
  have hg':(ndi l x1).2.2.2.2.2.2.2.2.2.2.2.2.2[i]?=some k:=hg
  have hj':i<(ndi l x1).2.2.2.2.2.2.2.2.2.2.2.2.2.length:=hj
  have hj'':(i:Int)<((ndi l x1).2.2.2.2.2.2.2.2.2.2.2.2.2.length:Int):=by omega
  have hw:IntKind.i64.wrap ((i:Int)+1)=((i+1:Nat):Int):=by rw [qY (by omega)];omega
  have hd:=qHu (qX l) f k
  rw [qb (v':=(l.map qU,x1,(if qAW (qX l) f k>a then qAW (qX l) f k else a),((i+1:Nat):Int))) (by simp [-getElem?_pos,qBo,qA,qC,qF,qG,qH,qJ,Option.bind_some,qE,qK,qM,hc,hx,qAg,qAh,qAi,qAj,qAk,qAl,qAm,qAn,qAo,qAp,qAq,qAr,qAs,qAE,qAF,qAG,qAH,hg',hj',hr,hw])]
  rw [qJ2 l x1 f n hx hf hk hrec m (i+1) M _ (by omega) (by omega) (by split<;>omega)]
  simp only [List.map_cons,qFm]
  congr 1
  split<;>omega
theorem qFo (l:List Nd) (hl:l.length≤60) (hk:∀c∈l,(kd c).length≤140737488351232) (hin:∀i:Int,0≤i→i<l.length→qD1 (qAX l) (qA4 l) (qX l) i):∀(f:Nat) (x:Int),f≤1000→0≤x→x<l.length→x<f→Ev (qAD · (l.map qU) x) (qAW (qX l) f x)
 |0,x,hf,h0,h1,h2=>by omega
 |f+1,x,hf,h0,h1,h2=>by
  obtain ⟨n0,hn0⟩:=qA0 (F:=fun y n=>qAD n (l.map qU) y) (f:=fun y=>qAW (qX l) f y) (qX l x) (fun y hy=>by
   have:=hin x h0 h1 y hy
   exact qFo l hl hk hin f y (by omega) (by omega) (by omega) (by omega))
  refine ⟨n0+(kd (ndi l x)).length+5,fun n hn=>?_⟩
  obtain ⟨m,rfl,hm⟩:=up1 hn
  have h:=qJ2 l x f m ⟨h0,h1⟩ (by omega) (hk _ (qId (l:=l) ⟨h0,h1⟩)) (hn0 m (by omega)) (kd (ndi l x)).length 0 m 0 (by omega) (by omega) (by omega)
  have hd:=qHu (qX l) (f+1) x
  have e:max 0 (qFm ((qX l x).map fun k=>qAW (qX l) f k))+1=qAW (qX l) (f+1) x:=by
   rw [qAW]
   have:∀q:List Int,0≤qFm q:=by
    intro q
    induction q with
    |nil=>exact Int.le_refl 0
    |cons a r ih=>simp only [qFm];omega
   have:=this ((qX l x).map fun k=>qAW (qX l) f k)
   omega
  rw [List.drop_zero] at h
  simp only [Int.natCast_zero] at h
  have hw:IntKind.i64.wrap (max 0 (qFm ((qX l x).map fun k=>qAW (qX l) f k))+1)=qAW (qX l) (f+1) x:=by rw [e,qY (by omega)]
  simp only [qAD,qEO,qA,qC,qF,qG,qH,qJ,Option.bind_some,qE,qK,qM,h,hw]
def inB (l:List Nd) (i:Int):Bool:=(qX l i).all fun k=>decide (0≤k∧k≤i-1)&&!(qAX l k&&!qA4 l i)
theorem qLK {l:List Nd} {i:Int}:inB l i=true↔qD1 (qAX l) (qA4 l) (qX l) i:=by
 unfold inB qD1
 rw [List.all_eq_true]
 refine forall_congr' fun k=>forall_congr' fun hk=>?_
 cases qAX l k<;>cases qA4 l i<;>simp
theorem qKT (l:List Nd) (x1:Int) (n:Nat) (hx:0≤x1∧x1<l.length) (hl:l.length≤60) (hk:(kd (ndi l x1)).length≤140737488351232):
  ∀(m i M:Nat),(kd (ndi l x1)).length=i+m→m+1≤M→
   zF (q9 (n+1)) M (l.map qU,x1,(i:Int))=some (if ((qX l x1).drop i).all (fun k=>decide (0≤k∧k≤x1-1)&&!(qAX l k&&!qA4 l x1))=true then .inr (l.map qU,x1) else .inl false)
 |m,i,0,h1,h2=>by omega
 |0,i,M+1,h1,h2=>by
  have hc:=qCB hx
  have hi:¬i<(ndi l x1).2.2.2.2.2.2.2.2.2.2.2.2.2.length:=by unfold kd at h1;omega
  rw [qP (r:= .inr (l.map qU,x1)) (by simp [-getElem?_pos,q9,qA,qC,qF,qG,qH,qJ,Option.bind_some,qE,qK,qM,hc,hx,qAg,qAh,qAi,qAj,qAk,qAl,qAm,qAn,qAo,qAp,qAq,qAr,qAs,qAE,qAF,qAG,qAH,hi])]
  rw [List.drop_eq_nil_of_le (by unfold qX;omega)]
  rfl
 |m+1,i,M+1,h1,h2=>by
  have hc:=qCB hx
  have hj:i<(kd (ndi l x1)).length:=by omega
  have hg:(qX l x1)[i]?=some (qX l x1)[i]:=List.getElem?_eq_getElem hj
  rw [qEl hg]
  generalize (qX l x1)[i]=k at hg
  have hg':(ndi l x1).2.2.2.2.2.2.2.2.2.2.2.2.2[i]?=some k:=hg
  have hj':i<(ndi l x1).2.2.2.2.2.2.2.2.2.2.2.2.2.length:=hj
  have hw:IntKind.i64.wrap ((i:Int)+1)=((i+1:Nat):Int):=by rw [qY (by omega)];omega
  have hw2:IntKind.i64.wrap (x1-1)=x1-1:=qY (by omega)
  have hin:qAK (n+1) k 0 (x1-1)=some (decide (0≤k∧k≤x1-1)):=by
   simp only [qAK,qD6,qA,qC,qF,qG,qH,qJ,Option.bind_some,qE,qK,qM]
   by_cases h:k≥0<;>simp [h]
  rw [List.all_cons]
  by_cases hr:0≤k∧k≤x1-1
  ·have hck:=qCB (l:=l) (i:=k) ⟨hr.1,by omega⟩
   have hkl:k<(l.length:Int):=by omega
   by_cases ha:(ndi l k).1=3
   ·by_cases hcl:(ndi l x1).1=6
    ·rw [qb (v':=(l.map qU,x1,((i+1:Nat):Int))) (by simp [-getElem?_pos,q9,qA,qC,qF,qG,qH,qJ,Option.bind_some,qE,qK,qM,hc,hx,qAg,qAh,qAi,qAj,qAk,qAl,qAm,qAn,qAo,qAp,qAq,qAr,qAs,qAE,qAF,qAG,qAH,hg',hj',hw,hw2,hin,hr,hck,hkl,ha,hcl])]
     rw [qKT l x1 n hx hl hk m (i+1) M (by omega) (by omega)]
     simp [hr,qAX,qA4,ha,hcl]
    ·rw [qP (r:= .inl false) (by simp [-getElem?_pos,q9,qA,qC,qF,qG,qH,qJ,Option.bind_some,qE,qK,qM,hc,hx,qAg,qAh,qAi,qAj,qAk,qAl,qAm,qAn,qAo,qAp,qAq,qAr,qAs,qAE,qAF,qAG,qAH,hg',hj',hw,hw2,hin,hr,hck,hkl,ha,hcl])]
     simp [hr,qAX,qA4,ha,hcl]
   ·rw [qb (v':=(l.map qU,x1,((i+1:Nat):Int))) (by simp [-getElem?_pos,q9,qA,qC,qF,qG,qH,qJ,Option.bind_some,qE,qK,qM,hc,hx,qAg,qAh,qAi,qAj,qAk,qAl,qAm,qAn,qAo,qAp,qAq,qAr,qAs,qAE,qAF,qAG,qAH,hg',hj',hw,hw2,hin,hr,hck,hkl,ha])]
    rw [qKT l x1 n hx hl hk m (i+1) M (by omega) (by omega)]
    simp [hr,qAX,qA4,ha]
  ·rw [qP (r:= .inl false) (by simp [-getElem?_pos,q9,qA,qC,qF,qG,qH,qJ,Option.bind_some,qE,qK,qM,hc,hx,qAg,qAh,qAi,qAj,qAk,qAl,qAm,qAn,qAo,qAp,qAq,qAr,qAs,qAE,qAF,qAG,qAH,hg',hj',hw2,hin,hr])]
   simp [hr]
def qDL (l:List Nd) (i m:Nat):Bool:=(List.range' i m).all fun (i:Nat)=>qDN l (i:Int)&&inB l (i:Int)
theorem qCG {l:List Nd}:qDL l 0 l.length=true↔∀i:Int,0≤i→i<l.length→qDN l i=true∧qD1 (qAX l) (qA4 l) (qX l) i:=by
 unfold qDL
 rw [List.all_eq_true]
 constructor
 ·intro h i h0 h1
  have:=h i.toNat (by rw [List.mem_range'];exact ⟨i.toNat,by omega,by omega⟩)
  rw [show ((i.toNat:Nat):Int)=i by omega,Bool.and_eq_true,qLK] at this
  exact this
 ·intro h i hi
  rw [List.mem_range'] at hi
  obtain ⟨j,hj,rfl⟩:=hi
  rw [Bool.and_eq_true,qLK]
  exact h _ (by omega) (by omega)
theorem qLL (l:List Nd) (n:Nat) (hl:l.length≤60) (hk:∀c∈l,(kd c).length≤140737488351232) (hn:∀c∈l,(kd c).length+2≤n)
  (hok:∀c∈l,qp n c.1 c.2.1 c.2.2.1 c.2.2.2.1 c.2.2.2.2.1 c.2.2.2.2.2.1 c.2.2.2.2.2.2.1 c.2.2.2.2.2.2.2.1 c.2.2.2.2.2.2.2.2.1 c.2.2.2.2.2.2.2.2.2.1 c.2.2.2.2.2.2.2.2.2.2.1 c.2.2.2.2.2.2.2.2.2.2.2.1 c.2.2.2.2.2.2.2.2.2.2.2.2.1 ((c.2.2.2.2.2.2.2.2.2.2.2.2.2).map qAZ)=some (qBQ c)):
  ∀(m i M:Nat),l.length=i+m→m+1≤M→
   zF (qAP n) M (l.map qU,(i:Int))=some (if qDL l i m=true then .inr (l.map qU) else .inl false)
 |m,i,0,h1,h2=>by omega
 |0,i,M+1,h1,h2=>by
  have hi:¬(i:Int)<(l.length:Int):=by omega
  rw [qP (r:= .inr (l.map qU)) (by simp [-getElem?_pos,qAP,qA,qC,qF,qG,qH,qJ,Option.bind_some,qE,qK,qM,hi])]
  rfl
 |m+1,i,M+1,h1,h2=>by
  have hi:(i:Int)<(l.length:Int):=by omega
  have hx:0≤(i:Int)∧(i:Int)<l.length:=⟨by omega,hi⟩
  have hc:=qCB hx
  have hm:=qId hx
  have ho:=hok _ hm
  have hw:IntKind.i64.wrap ((i:Int)+1)=((i+1:Nat):Int):=by rw [qY (by omega)];omega
  have hnn:=hn _ hm
  obtain ⟨q,rfl⟩:∃q,n=q+1:=⟨n-1,by omega⟩
  have hlp:=qKT l i q hx hl (hk _ hm) (kd (ndi l i)).length 0 (q+1) (by omega) (by omega)
  rw [List.drop_zero,show ((qX l (i:Int)).all fun k=>decide (0≤k∧k≤(i:Int)-1)&&!(qAX l k&&!qA4 l (i:Int)))=inB l i from rfl] at hlp
  simp only [Int.natCast_zero] at hlp
  have e:qDL l i (m+1)=(qDN l i&&inB l i&&qDL l (i+1) m):=by unfold qDL;rw [List.range'_succ,List.all_cons]
  rw [e]
  rw [Int.toNat_natCast] at hc
  cases hnb:qBQ (ndi l i) with
  |false=>
   rw [hnb] at ho
   rw [qP (r:= .inl false) (by simp [-getElem?_pos,qAP,qA,qC,qF,qG,qH,qJ,Option.bind_some,qE,qK,qM,hi,hc,qAg,qAh,qAi,qAj,qAk,qAl,qAm,qAn,qAo,qAp,qAq,qAr,qAs,qAE,qAF,qAG,qAH,ho])]
   simp [qDN,hnb]
  |true=>
   rw [hnb] at ho
   cases hib:inB l i with
   |false=>
    rw [hib] at hlp
    rw [qP (r:= .inl false) (by simp [-getElem?_pos,qAP,qA,qC,qF,qG,qH,qJ,Option.bind_some,qE,qK,qM,hi,hc,qAg,qAh,qAi,qAj,qAk,qAl,qAm,qAn,qAo,qAp,qAq,qAr,qAs,qAE,qAF,qAG,qAH,ho,hlp])]
    simp
   |true=>
    rw [hib] at hlp
    rw [qb (v':=(l.map qU,((i+1:Nat):Int))) (by simp [-getElem?_pos,qAP,qA,qC,qF,qG,qH,qJ,Option.bind_some,qE,qK,qM,hi,hc,qAg,qAh,qAi,qAj,qAk,qAl,qAm,qAn,qAo,qAp,qAq,qAr,qAs,qAE,qAF,qAG,qAH,ho,hlp,hw])]
    rw [qLL l (q+1) hl hk hn hok m (i+1) M (by omega) (by omega)]
    simp [qDN,hnb]
def qCQ (l:List Nd):Bool:=decide (1≤l.length∧l.length≤60)&&(qDL l 0 l.length&&(decide (qBe (qX l) l.length ((l.length:Int)-1)=0)&&(!qAX l ((l.length:Int)-1)&&decide (qAW (qX l) l.length ((l.length:Int)-1)≤12))))
theorem qED (l:List Nd) (hk:∀c∈l,(kd c).length≤140737488351232∧c.2.2.2.2.1.size≤140737488351232):Ev (qAw · (l.map qU)) (qCQ l):=by
 by_cases h1:1≤l.length
 ·by_cases h60:l.length≤60
  ·have hk1:∀c∈l,(kd c).length≤140737488351232:=fun c hc=>(hk c hc).1
   obtain ⟨n1,g1⟩:=qA0 (F:=fun (c:Nd) n=>qp n c.1 c.2.1 c.2.2.1 c.2.2.2.1 c.2.2.2.2.1 c.2.2.2.2.2.1 c.2.2.2.2.2.2.1 c.2.2.2.2.2.2.2.1 c.2.2.2.2.2.2.2.2.1 c.2.2.2.2.2.2.2.2.2.1 c.2.2.2.2.2.2.2.2.2.2.1 c.2.2.2.2.2.2.2.2.2.2.2.1 c.2.2.2.2.2.2.2.2.2.2.2.2.1 ((c.2.2.2.2.2.2.2.2.2.2.2.2.2).map qAZ)) (f:=qBQ) l (fun c hc=>qCO c (hk c hc).2)
   obtain ⟨n2,g2⟩:=qA0 (F:=fun (c:Nd) n=>if (kd c).length+2≤n then some () else none) (f:=fun _=>()) l (fun c hc=>⟨(kd c).length+2,fun n hn=>if_pos hn⟩)
   obtain ⟨n3,g3⟩:=qFn l (by omega) hk1 l.length ((l.length:Int)-1) (by omega) (by omega) (by omega)
   obtain ⟨n4,g4⟩:∃n0,qDL l 0 l.length=true→∀n,n0≤n→qAD n (l.map qU) ((l.length:Int)-1)=some (qAW (qX l) l.length ((l.length:Int)-1)):=by
    by_cases ho:qDL l 0 l.length=true
    ·obtain ⟨n4,g4⟩:=qFo l h60 hk1 (fun (i:Int) h0 h1=>(qCG.1 ho i h0 h1).2) l.length ((l.length:Int)-1) (by omega) (by omega) (by omega) (by omega)
     exact ⟨n4,fun _=>g4⟩
    ·exact ⟨0,fun h=>absurd h ho⟩
   refine ⟨n1+n2+n3+n4+l.length+5,fun n hn=>?_⟩
   obtain ⟨m,rfl,hm⟩:=up1 hn
   have hlp:=qLL l m h60 hk1 (fun c hc=>by
    have:=g2 m (by omega) c hc
    split at this
    ·assumption
    ·cases this) (g1 m (by omega)) l.length 0 m (by omega) (by omega)
   have g3:=g3 m (by omega)
   dsimp only at g3
   simp only [Int.natCast_zero] at hlp
   have hw:IntKind.i64.wrap ((l.length:Int)-1)=(l.length:Int)-1:=qY (by omega)
   have hx:0≤(l.length:Int)-1∧(l.length:Int)-1<l.length:=by omega
   have hc:=qCB hx
   have a1:¬(l.length:Int)<1:=by omega
   have a2:¬(l.length:Int)>60:=by omega
   generalize hxe:(l.length:Int)-1=x at hw hx hc g3 g4⊢
   simp only [qAw,qBp,qA,qC,qF,qG,qH,qJ,Option.bind_some,qE,qK,qM,List.length_map,decide_eq_true_eq,a1,a2,if_false,hlp]
   unfold qCQ
   rw [hxe]
   cases ho:qDL l 0 l.length with
   |false=>simp [qA,qC,qF,qG,qH,qJ,Option.bind_some,qE,qK,qM]
   |true=>
    have g4:=g4 ho m (by omega)
    simp only [if_true,qA,qC,qF,qG,qH,qJ,Option.bind_some,qE,qK,qM,List.length_map,hxe,hw,g3]
    by_cases ht:qBe (qX l) l.length x=0
    ·by_cases ha:(ndi l x).1=3
     ·simp [-getElem?_pos,qA,qC,qF,qG,qH,qJ,Option.bind_some,qE,qK,qM,ht,hx,hc,qAg,qAh,qAi,qAj,qAk,qAl,qAm,qAn,qAo,qAp,qAq,qAr,qAs,qAE,qAF,qAG,qAH,ha,qAX]
     ·simp [-getElem?_pos,qA,qC,qF,qG,qH,qJ,Option.bind_some,qE,qK,qM,ht,hx,hc,qAg,qAh,qAi,qAj,qAk,qAl,qAm,qAn,qAo,qAp,qAq,qAr,qAs,qAE,qAF,qAG,qAH,ha,qAX,g4,h1,h60]
    ·simp [-getElem?_pos,qA,qC,qF,qG,qH,qJ,Option.bind_some,qE,qK,qM,ht]
  ·refine ⟨1,fun n hn=>?_⟩
   obtain ⟨m,rfl,hm⟩:=up1 (n0:=0) hn
   have a1:¬(l.length:Int)<1:=by omega
   have a2:(l.length:Int)>60:=by omega
   simp [-getElem?_pos,qAw,qBp,qA,qC,qF,qG,qH,qJ,Option.bind_some,qE,qK,qM,a1,a2,qCQ,h60]
 ·refine ⟨1,fun n hn=>?_⟩
  obtain ⟨m,rfl,hm⟩:=up1 (n0:=0) hn
  have a1:(l.length:Int)<1:=by omega
  simp [-getElem?_pos,qAw,qBp,qA,qC,qF,qG,qH,qJ,Option.bind_some,qE,qK,qM,a1,qCQ,h1]
theorem qJ3 (l:List Nd) (x1 d:Int) (f n:Nat) (hx:0≤x1∧x1<l.length) (hl:l.length≤140737488351232) (hd:0≤d∧d≤1000) (hk:(kd (ndi l x1)).length≤140737488351232)
  (hrec:∀y:Int,0≤y→y<x1→qAA n (l.map qU) y (d+1)=some (qBb (qDN l) (qAX l) (qA4 l) (qX l) f y)):
  ∀(j M:Nat) (s:Int),j≤(kd (ndi l x1)).length→j+1≤M→0≤s→s≤x1→
   zF (qt (qAA n) n) M (l.map qU,x1,d,s,(j:Int)-1)=some (.inr (goF (qAX l) (qA4 l) (qBb (qDN l) (qAX l) (qA4 l) (qX l) f) x1 ((qX l x1).take j).reverse s))∨
   (zF (qt (qAA n) n) M (l.map qU,x1,d,s,(j:Int)-1)=some (.inl (-1))∧goF (qAX l) (qA4 l) (qBb (qDN l) (qAX l) (qA4 l) (qX l) f) x1 ((qX l x1).take j).reverse s= -1)
 |0,0,s,h1,h2,h3,h4=>by omega
 |0,M+1,s,h1,h2,h3,h4=>by
  refine .inl ?_
  rw [qP (r:= .inr s) (by simp [-getElem?_pos,qt,qA,qC,qF,qG,qH,qJ,Option.bind_some,qE,qK,qM])]
  simp [goF]
 |j+1,0,s,h1,h2,h3,h4=>by omega
 |j+1,M+1,s,h1,h2,h3,h4=>by
  have hc:=qCB hx
  have hj:j<(kd (ndi l x1)).length:=by omega
  have hg:(qX l x1)[j]?=some (qX l x1)[j]:=List.getElem?_eq_getElem hj
  have ih:=qJ3 l x1 d f n hx hl hd hk hrec j M
  rw [qKp hg]
  generalize (qX l x1)[j]=k at hg
  have hi:(((j+1:Nat):Int)-1)=(j:Int):=by omega
  rw [hi,goF]
  have hg':(ndi l x1).2.2.2.2.2.2.2.2.2.2.2.2.2[j]?=some k:=hg
  have hj':j<(ndi l x1).2.2.2.2.2.2.2.2.2.2.2.2.2.length:=hj
  have hws:IntKind.i64.wrap (s-1)=s-1:=qY (by omega)
  by_cases hks:k=s-1
  ·by_cases hk0:k<0
   ·refine .inr ⟨?_,by rw [if_pos (.inr (.inl hk0))]⟩
    rw [qP (r:= .inl (-1)) (by simp [-getElem?_pos,qt,qA,qC,qF,qG,qH,qJ,Option.bind_some,qE,qK,qM,hc,hx,qAg,qAh,qAi,qAj,qAk,qAl,qAm,qAn,qAo,qAp,qAq,qAr,qAs,qAE,qAF,qAG,qAH,hg',hj',hks,hws,show s-1<0 by omega])]
   ·have hws':IntKind.i64.wrap (s-1)=k:=by rw [hws,hks]
    have hkx:0≤k∧k<l.length:=by omega
    have hck:=qCB hkx
    by_cases hac:qAX l k=true∧qA4 l x1=false
    ·have ha:(ndi l k).1=3:=by simpa [qAX] using hac.1
     have hb:¬(ndi l x1).1=6:=by simpa [qA4] using hac.2
     refine .inr ⟨?_,by rw [if_pos (.inr (.inr hac))]⟩
     rw [qP (r:= .inl (-1)) (by simp [-getElem?_pos,qt,qA,qC,qF,qG,qH,qJ,Option.bind_some,qE,qK,qM,hc,hx,qAg,qAh,qAi,qAj,qAk,qAl,qAm,qAn,qAo,qAp,qAq,qAr,qAs,qAE,qAF,qAG,qAH,hg',hj',hws',hk0,hck,hkx,ha,hb])]
    ·have hr:=hrec k (by omega) (by omega)
     have hwd:IntKind.i64.wrap (d+1)=d+1:=qY (by omega)
     have hw2:IntKind.i64.wrap ((j:Int)-1)=(j:Int)-1:=qY (by omega)
     have hno:¬(k≠s-1∨k<0∨(qAX l k=true∧qA4 l x1=false)):=fun h=>by
      rcases h with h|h|h
      ·exact h hks
      ·exact hk0 h
      ·exact hac h
     have hcase:¬(ndi l k).1=3∨((ndi l k).1=3∧(ndi l x1).1=6):=by
      by_cases ha:(ndi l k).1=3
      ·refine .inr ⟨ha,?_⟩
       refine Decidable.byContradiction fun hb=>hac ⟨by simp [qAX,ha],by simp [qA4,hb]⟩
      ·exact .inl ha
     rw [if_neg hno]
     by_cases ht:qBb (qDN l) (qAX l) (qA4 l) (qX l) f k<0
     ·refine .inr ⟨?_,by rw [if_pos ht]⟩
      rcases hcase with ha|⟨ha,hb⟩
      ·rw [qP (r:= .inl (-1)) (by simp [-getElem?_pos,qt,qA,qC,qF,qG,qH,qJ,Option.bind_some,qE,qK,qM,hc,hx,qAg,qAh,qAi,qAj,qAk,qAl,qAm,qAn,qAo,qAp,qAq,qAr,qAs,qAE,qAF,qAG,qAH,hg',hj',hws',hk0,hck,hkx,ha,hwd,hr,ht])]
      ·rw [qP (r:= .inl (-1)) (by simp [-getElem?_pos,qt,qA,qC,qF,qG,qH,qJ,Option.bind_some,qE,qK,qM,hc,hx,qAg,qAh,qAi,qAj,qAk,qAl,qAm,qAn,qAo,qAp,qAq,qAr,qAs,qAE,qAF,qAG,qAH,hg',hj',hws',hk0,hck,hkx,ha,hb,hwd,hr,ht])]
     ·rw [if_neg ht]
      have hb1:=(qKS (qDN l) (qAX l) (qA4 l) (qX l) f (k.toNat+1) k (by omega) (by omega) (by omega)).1
      have hstep:zF (qt (qAA n) n) (M+1) (l.map qU,x1,d,s,(j:Int))=zF (qt (qAA n) n) M (l.map qU,x1,d,qBb (qDN l) (qAX l) (qA4 l) (qX l) f k,(j:Int)-1):=by
       rcases hcase with ha|⟨ha,hb⟩
       ·rw [qb (v':=(l.map qU,x1,d,qBb (qDN l) (qAX l) (qA4 l) (qX l) f k,(j:Int)-1)) (by simp [-getElem?_pos,qt,qA,qC,qF,qG,qH,qJ,Option.bind_some,qE,qK,qM,hc,hx,qAg,qAh,qAi,qAj,qAk,qAl,qAm,qAn,qAo,qAp,qAq,qAr,qAs,qAE,qAF,qAG,qAH,hg',hj',hws',hk0,hck,hkx,ha,hwd,hr,ht,hw2])]
       ·rw [qb (v':=(l.map qU,x1,d,qBb (qDN l) (qAX l) (qA4 l) (qX l) f k,(j:Int)-1)) (by simp [-getElem?_pos,qt,qA,qC,qF,qG,qH,qJ,Option.bind_some,qE,qK,qM,hc,hx,qAg,qAh,qAi,qAj,qAk,qAl,qAm,qAn,qAo,qAp,qAq,qAr,qAs,qAE,qAF,qAG,qAH,hg',hj',hws',hk0,hck,hkx,ha,hb,hwd,hr,ht,hw2])]
      rw [hstep]
      exact ih _ (by omega) (by omega) (by omega) (by omega)
  ·refine .inr ⟨?_,by rw [if_pos (.inl hks)]⟩
   rw [qP (r:= .inl (-1)) (by simp [-getElem?_pos,qt,qA,qC,qF,qG,qH,qJ,Option.bind_some,qE,qK,qM,hc,hx,qAg,qAh,qAi,qAj,qAk,qAl,qAm,qAn,qAo,qAp,qAq,qAr,qAs,qAE,qAF,qAG,qAH,hg',hj',hws,hks])]
theorem qHE (l:List Nd) (hl:l.length≤140737488351232) (hk:∀c∈l,(kd c).length≤140737488351232∧c.2.2.2.2.1.size≤140737488351232):∀(f:Nat) (x d:Int),x<l.length→d=12-f→0≤d→Ev (qAA · (l.map qU) x d) (qBb (qDN l) (qAX l) (qA4 l) (qX l) f x)
 |0,x,d,h1,h2,h3=>by
  refine ⟨1,fun n hn=>?_⟩
  obtain ⟨m,rfl,hm⟩:=up1 (n0:=0) hn
  have a:d≥12:=by omega
  by_cases h:x<0<;>simp [-getElem?_pos,qAA,qDM,qA,qC,qF,qG,qH,qJ,Option.bind_some,qE,qK,qM,h,a,qBb]
 |f+1,x,d,h1,h2,h3=>by
  by_cases h0:x<0
  ·refine ⟨1,fun n hn=>?_⟩
   obtain ⟨m,rfl,hm⟩:=up1 (n0:=0) hn
   simp [-getElem?_pos,qAA,qDM,qA,qC,qF,qG,qH,qJ,Option.bind_some,qE,qK,qM,h0,qBb]
  ·have hx:0≤x∧x<l.length:=by omega
   have hc:=qCB hx
   have hm':=qId hx
   obtain ⟨n0,hn0⟩:=qKq (F:=fun y n=>qAA n (l.map qU) y (d+1)) (f:=fun y=>qBb (qDN l) (qAX l) (qA4 l) (qX l) f y) x (fun y h3 h4=>qHE l hl hk f y (d+1) (by omega) (by omega) (by omega))
   obtain ⟨n1,g1⟩:=qJp (ndi l x) (hk _ hm').2
   refine ⟨n0+n1+(kd (ndi l x)).length+5,fun n hn=>?_⟩
   obtain ⟨m,rfl,hm⟩:=up1 hn
   have g1:=g1 m (by omega)
   have h:=qJ3 l x d f m hx hl (by omega) (hk _ hm').1 (hn0 m (by omega)) (kd (ndi l x)).length m x (Nat.le_refl _) (by omega) (by omega) (by omega)
   have e:(qX l x).take (kd (ndi l x)).length=qX l x:=List.take_length
   rw [e] at h
   have hw2:IntKind.i64.wrap (((kd (ndi l x)).length:Int)-1)=((kd (ndi l x)).length:Int)-1:=by
    have:=(hk _ hm').1
    exact qY (by omega)
   have a:¬d≥12:=by omega
   unfold kd at h hw2
   dsimp only at g1⊢
   simp only [qAA,qDM,qBb,qA,qC,qF,qG,qH,qJ,Option.bind_some,qE,qK,qM]
   cases hnb:qBQ (ndi l x) with
   |false=>
    rw [hnb] at g1
    simp [-getElem?_pos,qA,qC,qF,qG,qH,qJ,Option.bind_some,qE,qK,qM,h0,a,hc,hx,qAg,qAh,qAi,qAj,qAk,qAl,qAm,qAn,qAo,qAp,qAq,qAr,qAs,qAE,qAF,qAG,qAH,g1,qDN,hnb]
   |true=>
    rw [hnb] at g1
    rcases h with h|⟨h,h'⟩
    ·simp [-getElem?_pos,qA,qC,qF,qG,qH,qJ,Option.bind_some,qE,qK,qM,h0,a,hc,hx,qAg,qAh,qAi,qAj,qAk,qAl,qAm,qAn,qAo,qAp,qAq,qAr,qAs,qAE,qAF,qAG,qAH,g1,qDN,hnb,hw2,h]
    ·simp only [h']
     simp [-getElem?_pos,qA,qC,qF,qG,qH,qJ,Option.bind_some,qE,qK,qM,h0,a,hc,hx,qAg,qAh,qAi,qAj,qAk,qAl,qAm,qAn,qAo,qAp,qAq,qAr,qAs,qAE,qAF,qAG,qAH,g1,qDN,hnb,hw2,h]
theorem qLq {l:List Nd}:qCQ l=(decide (1≤l.length∧l.length≤60)&&(!qAX l ((l.length:Int)-1)&&decide (qBb (qDN l) (qAX l) (qA4 l) (qX l) 12 ((l.length:Int)-1)=0))):=by
 rw [Bool.eq_iff_iff]
 unfold qCQ
 simp only [Bool.and_eq_true,decide_eq_true_eq]
 constructor
 ·intro ⟨h1,h2,h3,h4,h5⟩
  refine ⟨h1,h4,?_⟩
  rw [qLJ (qDN l) (qAX l) (qA4 l) (qX l) 12 l.length l.length ((l.length:Int)-1) (by omega) (by omega) (by omega) (fun i i0 i1=>qCG.1 h2 i i0 (by omega)) (by omega) (by simpa using h5)]
  exact h3
 ·intro ⟨h1,h4,h5⟩
  obtain ⟨b1,b2,b3,b4⟩:=qKS (qDN l) (qAX l) (qA4 l) (qX l) 12 l.length ((l.length:Int)-1) (by omega) (by omega) (by omega)
  rw [h5] at b2 b3
  refine ⟨h1,qCG.2 (fun i i0 i1=>b3 i i0 (by omega)),b2,h4,?_⟩
  have:=b4 l.length (fun i i0 i1=>(b3 i i0 i1).2) (by omega)
  simpa using this
theorem qEE (l:List Nd) (hl:l.length≤140737488351232) (hk:∀c∈l,(kd c).length≤140737488351232∧c.2.2.2.2.1.size≤140737488351232):Ev (qAy · (l.map qU)) (qCQ l):=by
 rw [qLq]
 by_cases h:1≤l.length∧l.length≤60
 ·obtain ⟨n1,g1⟩:=qHE l hl hk 12 ((l.length:Int)-1) 0 (by omega) (by omega) (by omega)
  obtain ⟨n2,g2⟩:=qz (l.length:Int) 1 60
  refine ⟨n1+n2+1,fun n hn=>?_⟩
  obtain ⟨m,rfl,hm⟩:=up1 hn
  have g1:=g1 m (by omega)
  have g2:=g2 m (by omega)
  dsimp only at g1 g2⊢
  have hw:IntKind.i64.wrap ((l.length:Int)-1)=(l.length:Int)-1:=qY (by omega)
  have hx:0≤(l.length:Int)-1∧(l.length:Int)-1<l.length:=by omega
  have hc:=qCB hx
  have h':(1:Int)≤l.length∧(l.length:Int)≤60:=by omega
  generalize hxe:(l.length:Int)-1=x at hw hx hc g1⊢
  by_cases ha:(ndi l x).1=3
  ·simp [-getElem?_pos,qAy,qBq,qA,qC,qF,qG,qH,qJ,Option.bind_some,qE,qK,qM,hxe,g2,h',hw,hx,hc,qAg,qAh,qAi,qAj,qAk,qAl,qAm,qAn,qAo,qAp,qAq,qAr,qAs,qAE,qAF,qAG,qAH,ha,qAX]
  ·by_cases hf:qBb (qDN l) (qAX l) (qA4 l) (qX l) 12 x=0<;>simp [-getElem?_pos,qAy,qBq,qA,qC,qF,qG,qH,qJ,Option.bind_some,qE,qK,qM,hxe,g1,g2,h,h',hw,hx,hc,qAg,qAh,qAi,qAj,qAk,qAl,qAm,qAn,qAo,qAp,qAq,qAr,qAs,qAE,qAF,qAG,qAH,ha,qAX,hf]
 ·obtain ⟨n2,g2⟩:=qz (l.length:Int) 1 60
  refine ⟨n2+1,fun n hn=>?_⟩
  obtain ⟨m,rfl,hm⟩:=up1 hn
  have g2:=g2 m (by omega)
  dsimp only at g2⊢
  have h':¬((1:Int)≤l.length∧(l.length:Int)≤60):=by omega
  simp [-getElem?_pos,qAy,qBq,qA,qC,qF,qG,qH,qJ,Option.bind_some,qE,qK,qM,g2,h,h']
def qMb (l:List UInt8):List UInt8:=l.flatMap fun c=>if c=34 then [34,34] else [c]
def qMc (s:ByteArray):ByteArray:=⟨(34::qMb s.toList++ [34]).toArray⟩
def lvl (op:Int):Int:=if op≥6 then 1 else if op=5 then 2 else if op≥3 then 4 else 3
theorem qIY (op:Int):Ev (qBn · op) (lvl op):=by
 refine ⟨1,fun n hn=>?_⟩
 obtain ⟨m,rfl,hm⟩:=up1 hn
 simp only [qBn,qDj,qA,qC,qF,qG,qH,qJ,Option.bind_some,qE,qK,qM]
 unfold lvl
 by_cases h1:op≥6
 ·simp [h1]
 ·by_cases h2:op=5
  ·simp [h2]
  ·by_cases h3:op≥3<;>simp [h1,h2,h3]
theorem qMt {op:Int} (h:1≤op∧op≤11):op=1∨op=2∨op=3∨op=4∨op=5∨op=6∨op=7∨op=8∨op=9∨op=10∨op=11:=by omega
def qAR (op:Int):ByteArray:=if op=1 then ⟨#[43]⟩ else if op=2 then ⟨#[45]⟩ else if op=3 then ⟨#[42]⟩ else if op=4 then ⟨#[47]⟩ else if op=5 then ⟨#[38]⟩ else if op=6 then ⟨#[61]⟩ else if op=7 then ⟨#[60,62]⟩ else if op=8 then ⟨#[60]⟩ else if op=9 then ⟨#[60,61]⟩ else if op=10 then ⟨#[62]⟩ else ⟨#[62,61]⟩
def fnS (op:Int):ByteArray:=if op=1 then ⟨#[83,85,77]⟩ else if op=2 then ⟨#[77,73,78]⟩ else if op=3 then ⟨#[77,65,88]⟩ else if op=4 then ⟨#[67,79,85,78,84]⟩ else if op=5 then ⟨#[73,70]⟩ else if op=6 then ⟨#[65,78,68]⟩ else if op=7 then ⟨#[79,82]⟩ else if op=8 then ⟨#[78,79,84]⟩ else if op=9 then ⟨#[65,66,83]⟩ else ⟨#[76,69,78]⟩
theorem qK8 {op:Int} (h:1≤op∧op≤11):(qAR op).size≤2:=by
 rcases qMt h with rfl|rfl|rfl|rfl|rfl|rfl|rfl|rfl|rfl|rfl|rfl<;>decide
theorem qFp (op:Int) (h:1≤op∧op≤11):Ev (qBd · op) (qAR op):=by
 refine ⟨1,fun n hn=>?_⟩
 obtain ⟨m,rfl,hm⟩:=up1 hn
 simp only [qBd,qEH,qA,qC,qF,qG,qH,qJ,Option.bind_some,qE,qK,qM]
 rcases qMt h with rfl|rfl|rfl|rfl|rfl|rfl|rfl|rfl|rfl|rfl|rfl<;>rfl
theorem qKU (op:Int) (h:1≤op∧op≤10):Ev (qBu · op) (fnS op):=by
 refine ⟨1,fun n hn=>?_⟩
 obtain ⟨m,rfl,hm⟩:=up1 hn
 simp only [qBu,qFU,qA,qC,qF,qG,qH,qJ,Option.bind_some,qE,qK,qM]
 rcases ten h with rfl|rfl|rfl|rfl|rfl|rfl|rfl|rfl|rfl|rfl<;>rfl
def qMu (xs:List ByteArray):ByteArray:=⟨(Lib.join (xs.map (·.data.toList)) [44]).toArray⟩
def par (b:Bool) (s:ByteArray):ByteArray:=if b=true then ((⟨#[40]⟩:ByteArray)++s)++⟨#[41]⟩ else s
def kid (c:Nd) (j:Nat):Int:=(kd c).getD j 0
def qKr (l:List Nd):Nat→Int→Int→ByteArray
 |0,_,_=>⟨#[]⟩
 |f+1,i,t=>
  if (ndi l i).1=1 then (if (ndi l i).2.2.1=2 then qMc (ndi l i).2.2.2.2.1 else qH3 (ndi l i).2.2.1 (ndi l i).2.2.2.1 (ndi l i).2.2.2.2.1)
  else if (ndi l i).1=2 then qFj (ndi l i).2.2.2.2.2.1 (ndi l i).2.2.2.2.2.2.1 (ndi l i).2.2.2.2.2.2.2.1 (ndi l i).2.2.2.2.2.2.2.2.1
  else if (ndi l i).1=3 then (qFj (ndi l i).2.2.2.2.2.1 (ndi l i).2.2.2.2.2.2.1 (ndi l i).2.2.2.2.2.2.2.1 (ndi l i).2.2.2.2.2.2.2.2.1++⟨#[58]⟩)++qFj (ndi l i).2.2.2.2.2.2.2.2.2.1 (ndi l i).2.2.2.2.2.2.2.2.2.2.1 (ndi l i).2.2.2.2.2.2.2.2.2.2.2.1 (ndi l i).2.2.2.2.2.2.2.2.2.2.2.2.1
  else if (ndi l i).1=4 then (⟨#[45]⟩:ByteArray)++qKr l f (kid (ndi l i) 0) 5
  else if (ndi l i).1=5 then par (decide (lvl (ndi l i).2.1<t)) ((qKr l f (kid (ndi l i) 0) (lvl (ndi l i).2.1)++qAR (ndi l i).2.1)++qKr l f (kid (ndi l i) 1) (lvl (ndi l i).2.1+1))
  else ((fnS (ndi l i).2.1++⟨#[40]⟩)++qMu ((qX l i).map fun k=>qKr l f k 1))++⟨#[41]⟩
structure Fine (l:List Nd):Prop where
 len:l.length≤60
 own:∀i:Int,0≤i→i<l.length→qDN l i=true∧qD1 (qAX l) (qA4 l) (qX l) i
 sz:∀c∈l,(kd c).length≤140737488351232∧c.2.2.2.2.1.size≤140737488351232
theorem Fine.kid {l:List Nd} (h:Fine l) {f:Nat} {i k:Int} (hi:0≤i∧i<l.length) (hd:qAW (qX l) (i.toNat+1) i≤(f+1:Nat)) (hk:k∈qX l i):(0≤k∧k<l.length)∧qAW (qX l) (k.toNat+1) k≤f:=by
 have hin:=(h.own i hi.1 hi.2).2 k hk
 have h1:=(qJH (qX l) (n:=i) (b:=((f+1:Nat):Int)) (f:=i.toNat) (by omega)).1 hd k hk
 refine ⟨by omega,?_⟩
 rw [qJI (qAX l) (qA4 l) (qX l) (k.toNat+1) i.toNat k (by omega) (by omega) (fun j j0 j1=>(h.own j j0 (by omega)).2) (by omega)]
 omega
abbrev PS:=List UInt8×Bool×List Nd
def tb (r:List UInt8):List UInt8:=r.dropWhile (· ==32)
def wch (c:UInt8):Bool:=(decide (65≤c.toNat)&&decide (c.toNat≤90))||((decide (48≤c.toNat)&&decide (c.toNat≤57))||c==36)
def wd (r:List UInt8):List UInt8:=r.takeWhile wch
def wr (r:List UInt8):List UInt8:=r.dropWhile wch
def BR (r:List UInt8):ByteArray:=⟨r.toArray⟩
def qJJ:List (List UInt8):= [[60,62],[60,61],[62,61],[60],[62],[61],[38],[43],[45],[42],[47],[40],[41],[44],[58]]
def sgn (r:List UInt8):List UInt8:=match qJJ.find? (fun w=>w.isPrefixOf r) with|some w=>w|none=> []
def nd1 (v:V3):Nd:=(1,0,v.1,v.2.1,v.2.2,0,0,false,false,0,0,false,false,[])
def ndK (k op:Int) (kids:List Int):Nd:=(k,op,0,0,em,0,0,false,false,0,0,false,false,kids)
def ndC (p:Int×Int×Bool×Bool×Bool):Nd:=(2,0,0,0,em,p.1,p.2.1,p.2.2.1,p.2.2.2.1,0,0,false,false,[])
def ndA (p q:Int×Int×Bool×Bool×Bool):Nd:=(3,0,0,0,em,p.1,p.2.1,p.2.2.1,p.2.2.2.1,q.1,q.2.1,q.2.2.1,q.2.2.2.1,[])
def qBv:List UInt8→List UInt8→Option (List UInt8×List UInt8)
 |_,[]=>none
 |acc,c::t=>if c=34 then (match t with
   |d::t'=>if d=34 then qBv (acc++ [34]) t' else some (acc,t)
   | []=>some (acc,[])) else qBv (acc++ [c]) t
def qJK (r:List UInt8):Int→Nat→Option Int
 |_,0=>none
 |n,k+1=>if (qi n).toList.isPrefixOf r=true then some n else qJK r (n+1) k
def qIZ (w:List UInt8):Int→Nat→Option Int
 |_,0=>none
 |n,k+1=>if (fnS n).toList=w then some n else qIZ w (n+1) k
def qBD (r:List UInt8):Int:=
 if sgn r= [43] then 1 else if sgn r= [45] then 2 else if sgn r= [42] then 3 else if sgn r= [47] then 4 else if sgn r= [38] then 5 else if sgn r= [61] then 6 else
 if sgn r= [60,62] then 7 else if sgn r= [60] then 8 else if sgn r= [60,61] then 9 else if sgn r= [62] then 10 else if sgn r= [62,61] then 11 else 0
def qu (w:List UInt8) (p:PS):Bool×PS:=if sgn (tb p.1)=w then (true,(tb p.1).drop w.length,p.2) else (false,tb p.1,p.2)
def qEo (x:Nd) (p:PS):Int×PS:=if p.2.1=true∨60≤p.2.2.length then ((p.2.2.length:Int)-1,p.1,true,p.2.2) else ((p.2.2.length:Int),p.1,false,p.2.2++ [x])
def qLr (p:PS):PS:=(p.1,true,p.2.2)
def qDO (w:List UInt8) (p:PS):PS:=if p.2.1=true then p else if (qu w p).1=true then (qu w p).2 else qLr (qu w p).2
def qCR (p:PS):Option Nd×PS:=
 let w:=wd (tb p.1)
 let p1:PS:=(wr (tb p.1),p.2)
 if (qA9 (BR w)).2.2.2.2=true∧(qu [58] p1).1=true then
  let p2:=(qu [58] p1).2
  let w2:=wd (tb p2.1)
  (some (ndA (qA9 (BR w)) (qA9 (BR w2))),wr (tb p2.1),p2.2.1||!(qA9 (BR w2)).2.2.2.2,p2.2.2)
 else (none,p)
def qDX (o:Option Nd×PS) (g:PS→Int×PS):Int×PS:=match o.1 with
 |some x=>qEo x o.2
 |none=>g o.2
inductive PJ where
 |bin (least deep:Int)
 |loop (least deep a:Int)
 |un (deep:Int)
 |at (deep:Int)
 |call (op deep:Int)
 |args (op deep:Int) (kids:List Int)
def pP:Nat→PJ→PS→Int×PS
 |0,_,p=>(0,p)
 |f+1,.bin least deep,p=>pP f (.loop least deep (pP f (.un deep) p).1) (pP f (.un deep) p).2
 |f+1,.loop least deep a,p=>
  if p.2.1=true then (a,p) else
  if qBD (tb p.1)=0∨lvl (qBD (tb p.1))<least then (a,tb p.1,p.2) else
  let p1:PS:=((tb p.1).drop (sgn (tb p.1)).length,p.2)
  let q:=pP f (.bin (lvl (qBD (tb p.1))+1) deep) p1
  let c:=qEo (ndK 5 (qBD (tb p.1)) [a,q.1]) q.2
  pP f (.loop least deep c.1) c.2
 |f+1,.un deep,p=>
  if deep>400∨p.2.1=true then (-1,qLr p) else
  if (qu [45] p).1=true then
   let q:=pP f (.un (deep+1)) (qu [45] p).2
   qEo (ndK 4 0 [q.1]) q.2
  else pP f (.at deep) (qu [45] p).2
 |f+1,.at deep,p=>
  let r:=tb p.1
  if r.head?=some 34 then (match qBv [] r.tail with
   |none=>(-1,r,true,p.2.2)
   |some (s,t)=>qEo (nd1 (2,0,BR s)) (t,p.2))
  else match (if r.head?=some 35 then qJK r 1 5 else none) with
  |some n=>qEo (nd1 (4,n,em)) (r.drop (qi n).size,p.2)
  |none=>
   if r.head?≠some 35∧(qu [40] p).1=true then
    let q:=pP f (.bin 1 (deep+1)) (qu [40] p).2
    (q.1,qDO [41] q.2)
   else
    let w:=wd r
    let p2:PS:=(wr r,p.2)
    if (q8 (BR w)).2.2.2=true∧((q8 (BR w)).1=1∨(q8 (BR w)).1=3) then qEo (nd1 ((q8 (BR w)).1,(q8 (BR w)).2.1,(q8 (BR w)).2.2.1)) p2
    else if (qA9 (BR w)).2.2.2.2=true then qEo (ndC (qA9 (BR w))) p2
    else match qIZ w 1 10 with
    |some op=>pP f (.call op deep) p2
    |none=>(-1,qLr p2)
 |f+1,.call op deep,p=>pP f (.args op deep []) (qDO [40] p)
 |f+1,.args op deep kids,p=>
  if p.2.1=true then qEo (ndK 6 op kids) p else
  let q:=qDX (qCR p) (fun p=>pP f (.bin 1 (deep+1)) p)
  if (qu [44] q.2).1=true then pP f (.args op deep (kids++ [q.1])) (qu [44] q.2).2
  else qEo (ndK 6 op (kids++ [q.1])) (qDO [41] (qu [44] q.2).2)
def sIs (w:List UInt8) (q:PS):Bool×PS:=if q.2.1=true then (false,tb q.1,q.2) else if w.isPrefixOf (tb q.1)=true then (true,(tb q.1).drop w.length,q.2) else (false,tb q.1,q.2)
def qCc (x:Nd) (q:PS):Int×PS:=((q.2.2.length:Int),q.1,(if 60<q.2.2.length+1∨qBQ x=false then true else q.2.1),q.2.2++ [x])
def qGj (q:PS):PS:=(q.1,true,q.2.2)
def qBH:List Int:= [7,9,11,6,8,10,1,2,3,4,5]
def qCP (level:Int) (r:List UInt8):List Int→Int
 | []=>0
 |o::l=>if lvl o=level∧(qAR o).toList.isPrefixOf r=true then o else qCP level r l
def sOp (level:Int) (q:PS):Int×PS:=
 if q.2.1=true then (0,tb q.1,q.2) else
 (qCP level (tb q.1) qBH,(if qCP level (tb q.1) qBH=0 then tb q.1 else (tb q.1).drop (qAR (qCP level (tb q.1) qBH)).size),q.2)
def qKs (r:List UInt8):Int→Nat→Option Int
 |_,0=>none
 |n,k+1=>if (qi n).toList.tail.isPrefixOf r=true then some n else qKs r (n+1) k
inductive SJ where
 |row (level:Int)
 |rl (level a:Int)
 |one
 |call (op:Int) (kids:List Int)
 |arg
def sP:Nat→SJ→PS→Int×PS
 |0,_,q=>(0,q)
 |f+1,.row level,q=>
  if q.2.1=true then (0,q) else
  if level=5 then sP f .one q else
  sP f (.rl level (sP f (.row (level+1)) q).1) (sP f (.row (level+1)) q).2
 |f+1,.rl level a,q=>
  if q.2.1=true then (a,q) else
  let o:=sOp level q
  if o.1=0 then (a,o.2) else
  let b:=sP f (.row (level+1)) o.2
  let c:=qCc (ndK 5 o.1 [a,b.1]) b.2
  sP f (.rl level c.1) c.2
 |f+1,.one,q=>
  if (sIs [45] q).1=true then
   let b:=sP f (.row 5) (sIs [45] q).2
   qCc (ndK 4 0 [b.1]) b.2
  else if (sIs [40] (sIs [45] q).2).1=true then
   let b:=sP f (.row 1) (sIs [40] (sIs [45] q).2).2
   (b.1,if (sIs [41] b.2).1=true then (sIs [41] b.2).2 else qGj (sIs [41] b.2).2)
  else
   let q2:PS:=(tb q.1,q.2)
   if (sIs [34] q2).1=true then (match qBv [] (sIs [34] q2).2.1 with
    |none=>(0,[],true,q.2.2)
    |some (s,t)=>qCc (nd1 (2,0,BR s)) (t,q.2))
   else if (sIs [35] q2).1=true then (match qKs (sIs [35] q2).2.1 1 5 with
    |some n=>qCc (nd1 (4,n,em)) ((sIs [35] q2).2.1.drop ((qi n).size-1),q.2)
    |none=>(0,(sIs [35] q2).2.1,true,q.2.2))
   else
    let w:=wd (tb q.1)
    let q3:PS:=(wr (tb q.1),q.2)
    match qIZ w 1 10 with
    |some op=>if (sIs [40] q3).1=true then sP f (.call op []) (sIs [40] q3).2 else (0,qGj (sIs [40] q3).2)
    |none=>
     if (q8 (BR w)).2.2.2=true∧w≠ [] then qCc (nd1 ((q8 (BR w)).1,(q8 (BR w)).2.1,(q8 (BR w)).2.2.1)) q3
     else if (qA9 (BR w)).2.2.2.2=true then qCc (ndC (qA9 (BR w))) q3
     else (0,qGj q3)
 |f+1,.call op kids,q=>
  if q.2.1=true then (0,q) else
  let a:=sP f .arg q
  if (sIs [41] a.2).1=true then qCc (ndK 6 op (kids++ [a.1])) (sIs [41] a.2).2
  else sP f (.call op (kids++ [a.1])) (if (sIs [44] (sIs [41] a.2).2).1=true then (sIs [44] (sIs [41] a.2).2).2 else qGj (sIs [44] (sIs [41] a.2).2).2)
 |f+1,.arg,q=>
  let w:=wd (tb q.1)
  let q1:PS:=(wr (tb q.1),q.2)
  if (qA9 (BR w)).2.2.2.2=true∧(sIs [58] q1).1=true then
   let q2:=(sIs [58] q1).2
   let w2:=wd (tb q2.1)
   if (qA9 (BR w2)).2.2.2.2=true then qCc (ndA (qA9 (BR w)) (qA9 (BR w2))) (wr (tb q2.1),q2.2) else (0,wr (tb q2.1),true,q2.2.2)
  else sP f (.row 1) (tb q.1,q.2)
theorem qBw:∀r:List UInt8,tb (tb r)=tb r
 | []=>rfl
 |c::r=>by
  unfold tb
  by_cases h:(c==32)=true
  ·simp only [List.dropWhile_cons,h,if_true];exact qBw r
  ·simp [List.dropWhile_cons,h]
theorem qAI:∀r:List UInt8,(tb r).length≤r.length
 | []=>Nat.le_refl _
 |c::r=>by
  unfold tb
  by_cases h:(c==32)=true
  ·simp only [List.dropWhile_cons,h,if_true];exact Nat.le_succ_of_le (qAI r)
  ·simp [List.dropWhile_cons,h]
theorem qJ4 {p:UInt8→Bool}:∀r:List UInt8,(r.dropWhile p).length≤r.length
 | []=>Nat.le_refl _
 |c::r=>by
  by_cases h:p c=true
  ·simp only [List.dropWhile_cons,h,if_true];exact Nat.le_succ_of_le (qJ4 r)
  ·simp [List.dropWhile_cons,h]
theorem qFq (r:List UInt8):(wr r).length≤r.length:=qJ4 r
theorem wdr (r:List UInt8):wd r++wr r=r:=List.takeWhile_append_dropWhile
theorem qKV (c:UInt8) (t:List UInt8) (h1:c≠60) (h2:c≠62):sgn (c::t)=if c∈([61,38,43,45,42,47,40,41,44,58]:List UInt8) then [c] else []:=by
 have e1:(60==c)=false:=by simpa using fun e=>h1 e.symm
 have e2:(62==c)=false:=by simpa using fun e=>h2 e.symm
 by_cases h:c∈([61,38,43,45,42,47,40,41,44,58]:List UInt8)
 ·rw [if_pos h]
  simp only [List.mem_cons,List.not_mem_nil,or_false] at h
  rcases h with rfl|rfl|rfl|rfl|rfl|rfl|rfl|rfl|rfl|rfl<;>rfl
 ·rw [if_neg h]
  simp only [List.mem_cons,List.not_mem_nil,or_false,not_or] at h
  obtain ⟨a1,a2,a3,a4,a5,a6,a7,a8,a9,a10⟩:=h
  have f:∀d:UInt8,c≠d→(d==c)=false:=fun d hd=>by simpa using fun e=>hd e.symm
  simp [sgn,qJJ,List.find?,List.isPrefixOf,e1,e2,f _ a1,f _ a2,f _ a3,f _ a4,f _ a5,f _ a6,f _ a7,f _ a8,f _ a9,f _ a10]
theorem qJL (t:List UInt8):sgn (60::t)=if t.head?=some 62 then [60,62] else if t.head?=some 61 then [60,61] else [60]:=by
 cases t with
 |nil=>rfl
 |cons d t=>
  by_cases h:d=62
  ·subst h;rfl
  ·by_cases h2:d=61
   ·subst h2;rfl
   ·have e1:(62==d)=false:=by simpa using fun e=>h e.symm
    have e2:(61==d)=false:=by simpa using fun e=>h2 e.symm
    simp [sgn,qJJ,List.find?,List.isPrefixOf,e1,e2,h,h2]
theorem qKW (t:List UInt8):sgn (62::t)=if t.head?=some 61 then [62,61] else [62]:=by
 cases t with
 |nil=>rfl
 |cons d t=>
  by_cases h2:d=61
  ·subst h2;rfl
  ·have e2:(61==d)=false:=by simpa using fun e=>h2 e.symm
   simp [sgn,qJJ,List.find?,List.isPrefixOf,e2,h2]
theorem qMv {c:UInt8} (hc:c∈([45,40,41,44,58]:List UInt8)) (r:List UInt8):(sgn r= [c])↔([c].isPrefixOf r=true):=by
 cases r with
 |nil=>
  have:sgn []= []:=rfl
  rw [this]
  simp [List.isPrefixOf]
 |cons d t=>
  have hcc:c≠60∧c≠62∧c∈([61,38,43,45,42,47,40,41,44,58]:List UInt8):=by
   simp only [List.mem_cons,List.not_mem_nil,or_false] at hc
   rcases hc with rfl|rfl|rfl|rfl|rfl<;>decide
  have e:([c].isPrefixOf (d::t)=true)↔c=d:=by simp [List.isPrefixOf]
  rw [e]
  by_cases h1:d=60
  ·subst h1
   rw [qJL]
   constructor
   ·intro h;split at h
    ·cases h
    ·split at h
     ·cases h
     ·simp only [List.cons.injEq,and_true] at h;exact absurd h.symm hcc.1
   ·intro h;exact absurd h hcc.1
  ·by_cases h2:d=62
   ·subst h2
    rw [qKW]
    constructor
    ·intro h;split at h
     ·cases h
     ·simp only [List.cons.injEq,and_true] at h;exact absurd h.symm hcc.2.1
    ·intro h;exact absurd h hcc.2.1
   ·rw [qKV d t h1 h2]
    constructor
    ·intro h;split at h
     ·simp only [List.cons.injEq,and_true] at h;exact h.symm
     ·cases h
    ·intro h;subst h;rw [if_pos hcc.2.2]
theorem qMG {c:UInt8} (hc:c∈([45,40,41,44,58]:List UInt8)) {p q:PS} (hb:q.2.1=false) (ht:tb p.1=tb q.1):(qu [c] p).1=(sIs [c] q).1∧(qu [c] p).2.1=(sIs [c] q).2.1∧(qu [c] p).2.2=p.2∧(sIs [c] q).2.2=q.2:=by
 have h:=qMv hc (tb q.1)
 unfold qu sIs
 rw [ht,hb]
 by_cases hs:sgn (tb q.1)= [c]
 ·rw [if_pos hs,if_neg (by simp),if_pos (h.1 hs)]
  exact ⟨rfl,rfl,rfl,rfl⟩
 ·rw [if_neg hs,if_neg (by simp),if_neg (fun e=>hs (h.2 e))]
  exact ⟨rfl,rfl,rfl,rfl⟩
theorem qFr {w:List UInt8} (hw:w≠ []) {p:PS} (h:(qu w p).1=true):(qu w p).2.1.length<(tb p.1).length:=by
 unfold qu at h⊢
 by_cases hs:sgn (tb p.1)=w
 ·rw [if_pos hs]
  have hp:w.isPrefixOf (tb p.1)=true:=by
   unfold sgn at hs
   split at hs
   ·rename_i x hx
    subst hs
    have:=List.find?_some hx
    simpa using this
   ·exact absurd hs.symm hw
  obtain ⟨t,ht⟩:=List.isPrefixOf_iff_prefix.1 hp
  have h0:0<w.length:=List.length_pos_iff.2 hw
  have h1:=congrArg List.length ht
  simp only [List.length_append] at h1
  simp only [List.length_drop]
  omega
 ·rw [if_neg hs] at h;cases h
theorem qF0 (w:List UInt8) (p:PS):(qu w p).2.1.length≤(tb p.1).length:=by
 unfold qu
 split
 ·simp
 ·exact Nat.le_refl _
theorem qMH (r:List UInt8):(qBD r=0)∨(1≤qBD r∧qBD r≤11∧sgn r=(qAR (qBD r)).toList):=by
 unfold qBD
 repeat' (split; · rename_i h;right;rw [h];exact ⟨by decide,by decide,by decide+kernel⟩)
 left;rfl
theorem sg1:(qAR 1).toList= [43]:=by decide+kernel
theorem sg2:(qAR 2).toList= [45]:=by decide+kernel
theorem sg3:(qAR 3).toList= [42]:=by decide+kernel
theorem sg4:(qAR 4).toList= [47]:=by decide+kernel
theorem sg5:(qAR 5).toList= [38]:=by decide+kernel
theorem sg6:(qAR 6).toList= [61]:=by decide+kernel
theorem sg7:(qAR 7).toList= [60,62]:=by decide+kernel
theorem sg8:(qAR 8).toList= [60]:=by decide+kernel
theorem sg9:(qAR 9).toList= [60,61]:=by decide+kernel
theorem qMI:(qAR 10).toList= [62]:=by decide+kernel
theorem qMJ:(qAR 11).toList= [62,61]:=by decide+kernel
theorem qEV (r:List UInt8):qCP 1 r qBH=if [60,62].isPrefixOf r=true then 7 else if [60,61].isPrefixOf r=true then 9 else if [62,61].isPrefixOf r=true then 11 else if [61].isPrefixOf r=true then 6 else if [60].isPrefixOf r=true then 8 else if [62].isPrefixOf r=true then 10 else 0:=by
 simp [qCP,qBH,lvl,sg1,sg2,sg3,sg4,sg5,sg6,sg7,sg8,sg9,qMI,qMJ]
theorem qEW (r:List UInt8):qCP 2 r qBH=if [38].isPrefixOf r=true then 5 else 0:=by
 simp [qCP,qBH,lvl,sg1,sg2,sg3,sg4,sg5,sg6,sg7,sg8,sg9,qMI,qMJ]
theorem qEX (r:List UInt8):qCP 3 r qBH=if [43].isPrefixOf r=true then 1 else if [45].isPrefixOf r=true then 2 else 0:=by
 simp [qCP,qBH,lvl,sg1,sg2,sg3,sg4,sg5,sg6,sg7,sg8,sg9,qMI,qMJ]
theorem qEY (r:List UInt8):qCP 4 r qBH=if [42].isPrefixOf r=true then 3 else if [47].isPrefixOf r=true then 4 else 0:=by
 simp [qCP,qBH,lvl,sg1,sg2,sg3,sg4,sg5,sg6,sg7,sg8,sg9,qMI,qMJ]
theorem qMK {m:Int} (hm:1≤m∧m≤4) (r:List UInt8):qCP m r qBH=if qBD r≠0∧lvl (qBD r)=m then qBD r else 0:=by
 have hm:m=1∨m=2∨m=3∨m=4:=by omega
 cases r with
 |nil=>rcases hm with rfl|rfl|rfl|rfl<;>simp [qEV,qEW,qEX,qEY,qBD,sgn,qJJ,List.find?,List.isPrefixOf]
 |cons c t=>
  have f:∀d:UInt8,c≠d→(d==c)=false:=fun d hd=>by simpa using fun e=>hd e.symm
  by_cases h1:c=60
  ·subst h1
   cases t with
   |nil=>rcases hm with rfl|rfl|rfl|rfl<;>simp [qEV,qEW,qEX,qEY,qBD,qJL,List.isPrefixOf,lvl]
   |cons d t=>
    have g:∀e:UInt8,d≠e→(e==d)=false:=fun e hd=>by simpa using fun x=>hd x.symm
    by_cases hd:d=62
    ·subst hd;rcases hm with rfl|rfl|rfl|rfl<;>simp [qEV,qEW,qEX,qEY,qBD,qJL,List.isPrefixOf,lvl]
    ·by_cases hd2:d=61
     ·subst hd2;rcases hm with rfl|rfl|rfl|rfl<;>simp [qEV,qEW,qEX,qEY,qBD,qJL,List.isPrefixOf,lvl]
     ·rcases hm with rfl|rfl|rfl|rfl<;>simp [qEV,qEW,qEX,qEY,qBD,qJL,List.isPrefixOf,lvl,hd,hd2,g _ hd,g _ hd2]
  ·by_cases h2:c=62
   ·subst h2
    cases t with
    |nil=>rcases hm with rfl|rfl|rfl|rfl<;>simp [qEV,qEW,qEX,qEY,qBD,qKW,List.isPrefixOf,lvl]
    |cons d t=>
     have g:∀e:UInt8,d≠e→(e==d)=false:=fun e hd=>by simpa using fun x=>hd x.symm
     by_cases hd2:d=61
     ·subst hd2;rcases hm with rfl|rfl|rfl|rfl<;>simp [qEV,qEW,qEX,qEY,qBD,qKW,List.isPrefixOf,lvl]
     ·rcases hm with rfl|rfl|rfl|rfl<;>simp [qEV,qEW,qEX,qEY,qBD,qKW,List.isPrefixOf,lvl,hd2,g _ hd2]
   ·by_cases h:c∈([61,38,43,45,42,47,40,41,44,58]:List UInt8)
    ·have hs:sgn (c::t)= [c]:=by rw [qKV c t h1 h2,if_pos h]
     simp only [List.mem_cons,List.not_mem_nil,or_false] at h
     rcases h with rfl|rfl|rfl|rfl|rfl|rfl|rfl|rfl|rfl|rfl<;>rcases hm with rfl|rfl|rfl|rfl<;>
      simp [qEV,qEW,qEX,qEY,qBD,hs,List.isPrefixOf,lvl]
    ·have hs:sgn (c::t)= []:=by rw [qKV c t h1 h2,if_neg h]
     simp only [List.mem_cons,List.not_mem_nil,or_false,not_or] at h
     obtain ⟨a1,a2,a3,a4,a5,a6,a7,a8,a9,a10⟩:=h
     rcases hm with rfl|rfl|rfl|rfl<;>
      simp [qEV,qEW,qEX,qEY,qBD,hs,List.isPrefixOf,f _ h1,f _ h2,f _ a1,f _ a2,f _ a3,f _ a4,f _ a5,f _ a6]
theorem qLs {op:Int}:1≤lvl op∧lvl op≤4:=by unfold lvl;split<;>(try split)<;>(try split)<;>omega
def qHF (p:PS):Prop:=p.2.1=true∨∃x∈p.2.2,qBQ x=false
theorem qBc {x:Nd} {p:PS} (h:qHF p):qHF (qEo x p).2:=by
 unfold qEo
 split
 ·exact .inl rfl
 ·rename_i hn
  rcases h with h|⟨y,hy,hb⟩
  ·exact absurd (.inl h) hn
  ·exact .inr ⟨y,List.mem_append_left _ hy,hb⟩
theorem qCl {w:List UInt8} {p:PS} (h:qHF p):qHF (qu w p).2:=by unfold qu;split<;>exact h
theorem qDP (p:PS):qHF (qLr p):= .inl rfl
theorem qEp {w:List UInt8} {p:PS} (h:qHF p):qHF (qDO w p):=by
 unfold qDO
 split
 ·exact h
 ·split
  ·exact qCl h
  ·exact qDP _
theorem qJ5 {p:PS} (h:qHF p):qHF (qCR p).2:=by
 unfold qCR
 simp only
 split
 ·rcases h with h|h
  ·left
   simp only [Bool.or_eq_true]
   left
   have:(qu [58] (wr (tb p.1),p.2)).2.2=p.2:=by unfold qu;split<;>rfl
   rw [this];exact h
  ·right
   have:(qu [58] (wr (tb p.1),p.2)).2.2=p.2:=by unfold qu;split<;>rfl
   simp only [this]
   exact h
 ·exact h
theorem qBh:∀(f:Nat) (j:PJ) (p:PS),qHF p→qHF (pP f j p).2
 |0,j,p,h=>h
 |f+1,.bin least deep,p,h=>by
  simp only [pP]
  exact qBh f _ _ (qBh f _ _ h)
 |f+1,.loop least deep a,p,h=>by
  simp only [pP]
  split
  ·exact h
  ·split
   ·exact h
   ·exact qBh f _ _ (qBc (qBh f _ _ h))
 |f+1,.un deep,p,h=>by
  simp only [pP]
  split
  ·exact qDP _
  ·split
   ·exact qBc (qBh f _ _ (qCl h))
   ·exact qBh f _ _ (qCl h)
 |f+1,.at deep,p,h=>by
  simp only [pP]
  split
  ·split
   ·exact .inl rfl
   ·exact qBc h
  ·split
   ·exact qBc h
   ·split
    ·exact qEp (qBh f _ _ (qCl h))
    ·split
     ·exact qBc h
     ·split
      ·exact qBc h
      ·split
       ·exact qBh f _ _ h
       ·exact qDP _
 |f+1,.call op deep,p,h=>by
  simp only [pP]
  exact qBh f _ _ (qEp h)
 |f+1,.args op deep kids,p,h=>by
  simp only [pP]
  have hq:qHF (qDX (qCR p) (fun p=>pP f (.bin 1 (deep+1)) p)).2:=by
   unfold qDX
   split
   ·exact qBc (qJ5 h)
   ·exact qBh f _ _ (qJ5 h)
  revert hq
  generalize qDX (qCR p) (fun p=>pP f (.bin 1 (deep+1)) p)=q
  intro hq
  split
  ·exact qBc h
  ·split
   ·exact qBh f _ _ (qCl hq)
   ·exact qBc (qEp (qCl hq))
theorem qAY (x:Nd) (p:PS):(qEo x p).2.1=p.1:=by unfold qEo;split<;>rfl
theorem qCm (w:List UInt8) (p:PS):(tb (qu w p).2.1).length≤(tb p.1).length:=by
 unfold qu
 split
 ·refine Nat.le_trans (qAI _) ?_
  simp
 ·simp only;rw [qBw];exact Nat.le_refl _
theorem qHv (w:List UInt8) (p:PS):(tb (qDO w p).1).length≤(tb p.1).length:=by
 unfold qDO
 split
 ·exact Nat.le_refl _
 ·split
  ·exact qCm w p
  ·exact qCm w p
theorem qF1 (p:PS):(tb (qCR p).2.1).length≤(tb p.1).length:=by
 unfold qCR
 simp only
 split
 ·simp only
  refine Nat.le_trans (qAI _) (Nat.le_trans (qFq _) (Nat.le_trans (qCm [58] _) ?_))
  exact Nat.le_trans (qAI _) (qFq _)
 ·exact Nat.le_refl _
theorem qF2:∀(acc r:List UInt8) {s t:List UInt8},qBv acc r=some (s,t)→t.length<r.length
 |acc,[],s,t,h=>by simp [qBv] at h
 |acc,c::r,s,t,h=>by
  unfold qBv at h
  by_cases hc:c=34
  ·rw [if_pos hc] at h
   match r,h with
   | [],h=>simp only [Option.some.injEq,Prod.mk.injEq] at h;rw [←h.2];simp
   |d::t',h=>
    simp only at h
    by_cases hd:d=34
    ·rw [if_pos hd] at h
     have:=qF2 _ t' h
     simp only [List.length_cons];omega
    ·rw [if_neg hd] at h
     simp only [Option.some.injEq,Prod.mk.injEq] at h
     rw [←h.2];simp
  ·rw [if_neg hc] at h
   have:=qF2 _ r h
   simp only [List.length_cons];omega
theorem qC2:∀(f:Nat) (j:PJ) (p:PS),(tb (pP f j p).2.1).length≤(tb p.1).length
 |0,j,p=>Nat.le_refl _
 |f+1,.bin least deep,p=>by
  simp only [pP]
  exact Nat.le_trans (qC2 f _ _) (qC2 f _ _)
 |f+1,.loop least deep a,p=>by
  simp only [pP]
  split
  ·exact Nat.le_refl _
  ·split
   ·simp only;rw [qBw];exact Nat.le_refl _
   ·refine Nat.le_trans (qC2 f _ _) ?_
    rw [qAY]
    refine Nat.le_trans (qC2 f _ _) (Nat.le_trans (qAI _) ?_)
    simp
 |f+1,.un deep,p=>by
  simp only [pP]
  split
  ·exact Nat.le_refl _
  ·split
   ·rw [qAY]
    exact Nat.le_trans (qC2 f _ _) (qCm _ _)
   ·exact Nat.le_trans (qC2 f _ _) (qCm _ _)
 |f+1,.at deep,p=>by
  simp only [pP]
  split
  ·split
   ·simp only;rw [qBw];exact Nat.le_refl _
   ·rename_i s t hq
    rw [qAY]
    have:=qF2 _ _ hq
    refine Nat.le_trans (qAI _) ?_
    have h2:((tb p.1).tail).length≤(tb p.1).length:=by simp
    simp only;omega
  ·split
   ·rw [qAY]
    refine Nat.le_trans (qAI _) ?_
    simp
   ·split
    ·exact Nat.le_trans (qHv _ _) (Nat.le_trans (qC2 f _ _) (qCm _ _))
    ·have hw:(tb (wr (tb p.1))).length≤(tb p.1).length:=Nat.le_trans (qAI _) (qFq _)
     split
     ·rw [qAY];exact hw
     ·split
      ·rw [qAY];exact hw
      ·split
       ·exact Nat.le_trans (qC2 f _ _) hw
       ·exact hw
 |f+1,.call op deep,p=>by
  simp only [pP]
  exact Nat.le_trans (qC2 f _ _) (qHv _ _)
 |f+1,.args op deep kids,p=>by
  simp only [pP]
  have hq:(tb (qDX (qCR p) (fun p=>pP f (.bin 1 (deep+1)) p)).2.1).length≤(tb p.1).length:=by
   unfold qDX
   split
   ·rw [qAY];exact qF1 p
   ·exact Nat.le_trans (qC2 f _ _) (qF1 p)
  revert hq
  generalize qDX (qCR p) (fun p=>pP f (.bin 1 (deep+1)) p)=q
  intro hq
  split
  ·rw [qAY];exact Nat.le_refl _
  ·split
   ·exact Nat.le_trans (qC2 f _ _) (Nat.le_trans (qCm _ _) hq)
   ·rw [qAY]
    exact Nat.le_trans (qHv _ _) (Nat.le_trans (qCm _ _) hq)
structure RdOK:Prop where
 v:∀w:List UInt8,w.all wch=true→w≠ []→(q8 (BR w)).2.2.2=true→(q8 (BR w)).1=1∨(q8 (BR w)).1=3
 v0:¬((q8 (BR [])).1=1∨(q8 (BR [])).1=3)
 p0:(qA9 (BR [])).2.2.2.2=false
 f:∀w op,qIZ w 1 10=some op→(q8 (BR w)).2.2.2=false∧(qA9 (BR w)).2.2.2.2=false
 f0:qIZ [] 1 10=none
 n:∀n:Int,1≤n∧n≤5→∃t,(qi n).toList=35::t
def Lk (p q:PS):Prop:=p.2.1=false∧q.2.1=false∧p.2.2=q.2.2∧tb p.1=tb q.1
def Sim (a b:Int×PS):Prop:=(a.1=b.1∧Lk a.2 b.2)∨(b.2.2.1=true∧qHF a.2)
def qMw (least:Int) (p:PS):Prop:=qBD (tb p.1)=0∨lvl (qBD (tb p.1))<least
def SimP (least:Int) (a b:Int×PS):Prop:=(a.1=b.1∧Lk a.2 b.2∧qMw least a.2)∨(b.2.2.1=true∧qHF a.2)
theorem SimP.sim {least:Int} {a b:Int×PS} (h:SimP least a b):Sim a b:=h.elim (fun h=> .inl ⟨h.1,h.2.1⟩) .inr
theorem qHG {x:Nd} {q:PS} (h:q.2.1=true):(qCc x q).2.2.1=true:=by
 unfold qCc;simp only;split
 ·rfl
 ·exact h
theorem qEz {w:List UInt8} {q:PS} (h:q.2.1=true):sIs w q=(false,tb q.1,q.2):=by unfold sIs;rw [if_pos h]
end Go.Proofs.Ythhngmnbcmkhpaa.KFnMovedBack

