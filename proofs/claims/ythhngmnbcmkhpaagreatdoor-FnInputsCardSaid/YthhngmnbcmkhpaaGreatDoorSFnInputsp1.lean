import Derived.Test.YthhngmnbcmkhpaaGreatDoorTFnInputs
import Derived.Test.YthhngmnbcmkhpaaGreatDoorE32
import Derived.Lib.Strings
namespace Go.Proofs.YthhngmnbcmkhpaaGreatDoor.KFnInputs
open Go.Eng
set_option linter.unusedVariables false
set_option linter.unusedSimpArgs false
def Ev {R:Type} (F:Nat→Option R) (r:R):Prop:=∃n0,∀n,n0≤n→F n=some r
theorem qAK (s:ByteArray):s.toList.length=s.size:=by rw [Go.Lib.toList_data];rfl
theorem qk:(ByteArray.mk #[]).toList= []:=by decide+kernel
theorem qX {x:Int} (h: -9223372036854775808≤x∧x≤9223372036854775807):IntKind.i64.wrap x=x:=by
 unfold IntKind.wrap
 have e1:(2:Int)^(64-1)=9223372036854775808:=by decide
 have e2:(2:Int)^64=18446744073709551616:=by decide
 simp only [IntKind.signed,IntKind.bits,Bool.true_and,decide_eq_true_eq,e1,e2]
 split<;>omega
theorem qMK (x:Int): -9223372036854775808≤IntKind.i64.wrap x∧IntKind.i64.wrap x≤9223372036854775807:=by
 unfold IntKind.wrap
 have e1:(2:Int)^(64-1)=9223372036854775808:=by decide
 have e2:(2:Int)^64=18446744073709551616:=by decide
 simp only [IntKind.signed,IntKind.bits,Bool.true_and,decide_eq_true_eq,e1,e2]
 split<;>omega
theorem qOc {s:ByteArray} {i:Nat} (h:i<s.size):∃c,s.toList[i]?=some c:=⟨_,List.getElem?_eq_getElem (by rw [qAK];exact h)⟩
theorem qE4 {α:Type} {s:List α} {i:Nat} {c:α} (h:s[i]?=some c):s.drop i=c::s.drop (i+1):=by
 obtain ⟨h1,rfl⟩:=List.getElem?_eq_some_iff.1 h
 exact List.drop_eq_getElem_cons h1
theorem qc {V R:Type} {B:V→Tr (V⊕R)} {m:Nat} {v v':V} (h:(B v).run=some (.inl v')):zC B (m+1) v=zC B m v':=by simp only [zC,h]
theorem qQ {V R:Type} {B:V→Tr (V⊕R)} {m:Nat} {v:V} {r:R} (h:(B v).run=some (.inr r)):zC B (m+1) v=some r:=by simp only [zC,h]
theorem up1 {n n0:Nat} (h:n0+1≤n):∃m,n=m+1∧n0≤m:=⟨n-1,by omega,by omega⟩
theorem qC {α:Type} (x:α):(Tr.done x).run=some x:=rfl
theorem qD {α:Type}:(Tr.fail:Tr α).run=none:=rfl
theorem qG {α:Type} (b:Bool) (t f:Tr α):(Tr.ask b t f).run=if b=true then t.run else f.run:=by cases b<;>rfl
theorem qH {α β:Type} (o:Option β) (k:β→Tr α):(Tr.opt o k).run=o.bind fun x=>(k x).run:=by cases o<;>rfl
theorem qJ {α β γ:Type} (x:β) (k:β→Tr α) (l:γ→Tr α):(Tr.alt (.inl x) k l).run=(k x).run:=rfl
theorem qK {α β γ:Type} (x:γ) (k:β→Tr α) (l:γ→Tr α):(Tr.alt (.inr x) k l).run=(l x).run:=rfl
theorem qCk {α R:Type} {F:α→Nat→Option R} {f:α→R}:∀(l:List α),(∀c∈l,Ev (F c) (f c))→∃n0,∀n,n0≤n→∀c∈l,F c n=some (f c)
 | [],_=>⟨0,fun n _ c hc=>by cases hc⟩
 |a::l,h=>by
  obtain ⟨n1,h1⟩:=h a (List.mem_cons_self ..)
  obtain ⟨n2,h2⟩:=qCk l fun c hc=>h c (List.mem_cons_of_mem _ hc)
  exact ⟨n1+n2,fun n hn c hc=>by
   rcases List.mem_cons.1 hc with rfl|hc
   ·exact h1 n (by omega)
   ·exact h2 n (by omega) c hc⟩
theorem qA {α β:Type} {o:Option β} {x:β} {k:β→Tr α} {y:Option α} (h:o=some x) (h2:(k x).run=y):(Tr.opt o k).run=y:=by rw [h];exact h2
theorem qF {α:Type} {b:Bool} {t f:Tr α} {y:Option α} (h:b=true) (h2:t.run=y):(Tr.ask b t f).run=y:=by rw [h];exact h2
theorem qO {α:Type} {b:Bool} {t f:Tr α} {y:Option α} (h:b=false) (h2:f.run=y):(Tr.ask b t f).run=y:=by rw [h];exact h2
theorem qE (b:Bool):zAz (⟨(.c (.p (.b b))),[],[]⟩:Res)=true:=rfl
theorem qM (x:Int):zAz (⟨(.c (.p (.i .i64 x))),[],[]⟩:Res)=true:=rfl
theorem qN (x:ByteArray):zAz (⟨(.c (.p (.s x))),[],[]⟩:Res)=true:=rfl
theorem qCl (x lo hi:Int):Ev (qBQ · x lo hi) (decide (lo≤x∧x≤hi)):=by
 refine ⟨1,fun n hn=>?_⟩
 obtain ⟨m,rfl,hm⟩:=up1 hn
 simp only [qBQ,qGf,qC,qD,qG,qH,qJ,qK,Option.bind_some,qE,qM,qN]
 by_cases h:x≥lo<;>simp [h]
theorem qAR (x lo hi:Int):Ev (qAl · x lo hi) (decide (lo≤x∧x≤hi)):=by
 refine ⟨1,fun n hn=>?_⟩
 obtain ⟨m,rfl,hm⟩:=up1 hn
 simp only [qAl,qG3,qC,qD,qG,qH,qJ,qK,Option.bind_some,qE,qM,qN]
 by_cases h:x≥lo<;>simp [h]
def okc (c:UInt8):Bool:=decide (32≤c.toNat∧c.toNat≤126)
def qBH (s:ByteArray) (most:Int):Bool:=s.toList.all okc&&decide ((s.size:Int)≤most)
def okV (k n:Int) (s:ByteArray):Bool:=
 if k=2 then decide (n=0)&&qBH s 200 else (s.toList== [])&&(if k=0 then decide (n=0) else if k=1 then decide (-1000000000000000≤n∧n≤1000000000000000) else if k=3 then decide (0≤n∧n≤1) else if k=4 then decide (1≤n∧n≤5) else false)
theorem qLB (n:Nat) (s:ByteArray) (hb:s.size≤140737488355328):∀(m i M:Nat),s.size=i+m→m+1≤M→
  zC (qBa n) M (s,(i:Int))=some (if (s.toList.drop i).all okc then .inr s else .inl false)
 |m,i,0,h1,h2=>by omega
 |0,i,M+1,h1,h2=>by
  rw [qQ (r:= .inr s) (by simp [qBa,qC,qD,qG,qH,qJ,qK,Option.bind_some,qE,qM,qN,show ¬((i:Int)<s.size) by omega])]
  rw [List.drop_eq_nil_of_le (by rw [qAK];omega)]
  rfl
 |m+1,i,M+1,h1,h2=>by
  obtain ⟨c,hc⟩:=qOc (s:=s) (i:=i) (by omega)
  have hi:(i:Int)<s.size:=by omega
  rw [qE4 hc]
  by_cases c1:(c.toNat:Int)<32
  ·rw [qQ (r:= .inl false) (by simp [qBa,qC,qD,qG,qH,qJ,qK,Option.bind_some,qE,qM,qN,hi,hc,c1])]
   have:okc c=false:=by simp [okc];omega
   simp [this]
  ·by_cases c2:(c.toNat:Int)>126
   ·rw [qQ (r:= .inl false) (by simp [qBa,qC,qD,qG,qH,qJ,qK,Option.bind_some,qE,qM,qN,hi,hc,c1,c2])]
    have:okc c=false:=by simp [okc];omega
    simp [this]
   ·have hw:IntKind.i64.wrap ((i:Int)+1)=((i+1:Nat):Int):=by rw [qX (by omega)];omega
    rw [qc (v':=(s,((i+1:Nat):Int))) (by simp [qBa,qC,qD,qG,qH,qJ,qK,Option.bind_some,qE,qM,qN,hi,hc,c1,c2,hw])]
    rw [qLB n s hb m (i+1) M (by omega) (by omega)]
    have:okc c=true:=by simp [okc];omega
    simp [this]
theorem qHg (s:ByteArray) (hb:s.size≤140737488355328):Ev (qCO · s) (qBH s 200):=by
 refine ⟨s.size+2,fun n hn=>?_⟩
 obtain ⟨m,rfl,hm⟩:=up1 hn
 have h:=qLB m s hb s.size 0 m (by omega) (by omega)
 simp only [qCO,qGG,qC,qD,qG,qH,qJ,qK,Option.bind_some,qE,qM,qN]
 simp only [Int.natCast_zero,List.drop_zero] at h
 rw [h]
 cases hc:s.toList.all okc<;>simp [qC,qD,qG,qH,qJ,qK,Option.bind_some,qE,qM,qN,qBH,hc]
theorem qIX (s:ByteArray) (hb:s.size≤140737488351232):Ev (qCO · s) (qBH s 200):=qHg s (by omega)
theorem qMc (n:Nat) (s:ByteArray) (y:Int) (hb:s.size≤140737488355328):∀(m i M:Nat),s.size=i+m→m+1≤M→
  zC (qBl n) M (s,y,(s.size:Int),(i:Int))=some (if (s.toList.drop i).all okc then .inr (s,y) else .inl false)
 |m,i,0,h1,h2=>by omega
 |0,i,M+1,h1,h2=>by
  rw [qQ (r:= .inr (s,y)) (by simp [qBl,qC,qD,qG,qH,qJ,qK,Option.bind_some,qE,qM,qN,show ¬((i:Int)<s.size) by omega])]
  rw [List.drop_eq_nil_of_le (by rw [qAK];omega)]
  rfl
 |m+1,i,M+1,h1,h2=>by
  obtain ⟨c,hc⟩:=qOc (s:=s) (i:=i) (by omega)
  have hi:(i:Int)<s.size:=by omega
  rw [qE4 hc]
  by_cases c1:(c.toNat:Int)<32
  ·rw [qQ (r:= .inl false) (by simp [qBl,qC,qD,qG,qH,qJ,qK,Option.bind_some,qE,qM,qN,hi,hc,c1])]
   have:okc c=false:=by simp [okc];omega
   simp [this]
  ·by_cases c2:(c.toNat:Int)>126
   ·rw [qQ (r:= .inl false) (by simp [qBl,qC,qD,qG,qH,qJ,qK,Option.bind_some,qE,qM,qN,hi,hc,c1,c2])]
    have:okc c=false:=by simp [okc];omega
    simp [this]
   ·have hw:IntKind.i64.wrap ((i:Int)+1)=((i+1:Nat):Int):=by rw [qX (by omega)];omega
    rw [qc (v':=(s,y,(s.size:Int),((i+1:Nat):Int))) (by simp [qBl,qC,qD,qG,qH,qJ,qK,Option.bind_some,qE,qM,qN,hi,hc,c1,c2,hw])]
    rw [qMc n s y hb m (i+1) M (by omega) (by omega)]
    have:okc c=true:=by simp [okc];omega
    simp [this]
theorem qIY (s:ByteArray) (y:Int) (hb:s.size≤140737488355328):Ev (qCr · s y) (qBH s y):=by
 refine ⟨s.size+2,fun n hn=>?_⟩
 obtain ⟨m,rfl,hm⟩:=up1 hn
 have h:=qMc m s y hb s.size 0 m (by omega) (by omega)
 simp only [qCr,qG1,qC,qD,qG,qH,qJ,qK,Option.bind_some,qE,qM,qN]
 simp only [Int.natCast_zero,List.drop_zero] at h
 rw [h]
 cases hc:s.toList.all okc<;>simp [qC,qD,qG,qH,qJ,qK,Option.bind_some,qE,qM,qN,qBH,hc]
theorem qJD (s:ByteArray) (y:Int) (hb:s.size≤140737488351232):Ev (qCr · s y) (qBH s y):=qIY s y (by omega)
theorem qAF (k x:Int) (s:ByteArray) (hb:s.size≤140737488351232):Ev (qb · k x s) (okV k x s):=by
 obtain ⟨n1,h1⟩:=qCl x (-1000000000000000) 1000000000000000
 obtain ⟨n2,h2⟩:=qCl x 0 1
 obtain ⟨n3,h3⟩:=qCl x 1 5
 obtain ⟨n4,h4⟩:=qIX s hb
 refine ⟨n1+n2+n3+n4+1,fun n hn=>?_⟩
 obtain ⟨m,rfl,hm⟩:=up1 hn
 have h1:=h1 m (by omega)
 dsimp only at h1
 have h2:=h2 m (by omega)
 dsimp only at h2
 have h3:=h3 m (by omega)
 dsimp only at h3
 have h4:=h4 m (by omega)
 dsimp only at h4
 simp only [qb,qGI,qC,qD,qG,qH,qJ,qK,Option.bind_some,qE,qM,qN,h1,h2,h3,h4]
 simp only [okV,qk]
 by_cases k2:k=2
 ·subst k2
  by_cases x0:x=0<;>simp [x0]
 ·by_cases k0:k=0
  ·subst k0
   by_cases x0:x=0<;>simp [x0]
  ·by_cases k1:k=1
   ·subst k1
    by_cases hx: -1000000000000000≤x∧x≤1000000000000000<;>simp [hx]
   ·by_cases k3:k=3
    ·subst k3
     by_cases hx:0≤x∧x≤1<;>simp [hx]
    ·by_cases k4:k=4
     ·subst k4
      by_cases hx:1≤x∧x≤5<;>simp [hx]
     ·simp [k0,k1,k2,k3,k4]
theorem qDI (k x:Int) (s:ByteArray) (hb:s.size≤140737488351232):Ev (qAJ · k x s) (okV k x s):=by
 obtain ⟨n1,h1⟩:=qAR x (-1000000000000000) 1000000000000000
 obtain ⟨n2,h2⟩:=qAR x 0 1
 obtain ⟨n3,h3⟩:=qAR x 1 5
 obtain ⟨n4,h4⟩:=qJD s 200 hb
 refine ⟨n1+n2+n3+n4+1,fun n hn=>?_⟩
 obtain ⟨m,rfl,hm⟩:=up1 hn
 have h1:=h1 m (by omega)
 dsimp only at h1
 have h2:=h2 m (by omega)
 dsimp only at h2
 have h3:=h3 m (by omega)
 dsimp only at h3
 have h4:=h4 m (by omega)
 dsimp only at h4
 simp only [qAJ,qF5,qC,qD,qG,qH,qJ,qK,Option.bind_some,qE,qM,qN,h1,h2,h3,h4]
 simp only [okV,qk]
 by_cases k2:k=2
 ·subst k2
  by_cases x0:x=0<;>simp [x0]
 ·by_cases he:s.toList= []
  ·by_cases k0:k=0
   ·subst k0
    by_cases x0:x=0<;>simp [x0,he]
   ·by_cases k1:k=1
    ·subst k1;simp [he]
    ·by_cases k3:k=3
     ·subst k3;simp [he]
     ·by_cases k4:k=4
      ·subst k4;simp [he]
      ·simp [k0,k1,k2,k3,k4,he]
  ·simp [k2,he]
abbrev V3:=Int×Int×ByteArray
def em:ByteArray:=⟨#[]⟩
theorem qNE (x:Int):Ev (qC2 · x) (4,x,em):=by
 refine ⟨1,fun n hn=>?_⟩
 obtain ⟨m,rfl,hm⟩:=up1 hn
 simp only [qC2,qGK,qC,qD,qG,qH,qJ,qK,Option.bind_some,qE,qM,qN]
 rfl
theorem qJ7 (x:Int):Ev (qBy · x) (4,x,em):=by
 refine ⟨1,fun n hn=>?_⟩
 obtain ⟨m,rfl,hm⟩:=up1 hn
 simp only [qBy,qHv,qC,qD,qG,qH,qJ,qK,Option.bind_some,qE,qM,qN]
 rfl
theorem qJE (x:Int):Ev (qCs · x) (1,x,em):=by
 refine ⟨1,fun n hn=>?_⟩
 obtain ⟨m,rfl,hm⟩:=up1 hn
 simp only [qCs,qG4,qC,qD,qG,qH,qJ,qK,Option.bind_some,qE,qM,qN]
 rfl
def qAx (c r:Int):Bool:=decide (1≤c∧c≤52)&&decide (1≤r∧r≤99)
def qEj (a b c d:Int):Bool:=qAx a b&&qAx c d&&decide (a≤c)&&decide (b≤d)
theorem qDL (c r:Int):Ev (qAh · c r) (qAx c r):=by
 obtain ⟨n1,h1⟩:=qCl c 1 52
 obtain ⟨n2,h2⟩:=qCl r 1 99
 refine ⟨n1+n2+1,fun n hn=>?_⟩
 obtain ⟨m,rfl,hm⟩:=up1 hn
 have h1:=h1 m (by omega)
 dsimp only at h1
 have h2:=h2 m (by omega)
 dsimp only at h2
 simp only [qAh,qHr,qC,qD,qG,qH,qJ,qK,Option.bind_some,qE,qM,qN,h1,h2]
 unfold qAx
 cases decide (1≤c∧c≤52)<;>simp
theorem qDy (c r:Int):Ev (qCe · c r) (qAx c r):=by
 obtain ⟨n1,h1⟩:=qAR c 1 52
 obtain ⟨n2,h2⟩:=qAR r 1 99
 refine ⟨n1+n2+1,fun n hn=>?_⟩
 obtain ⟨m,rfl,hm⟩:=up1 hn
 have h1:=h1 m (by omega)
 dsimp only at h1
 have h2:=h2 m (by omega)
 dsimp only at h2
 simp only [qCe,qHx,qC,qD,qG,qH,qJ,qK,Option.bind_some,qE,qM,qN,h1,h2]
 unfold qAx
 cases decide (1≤c∧c≤52)<;>simp
theorem qNq (a b c d:Int):Ev (qFC · a b c d) (qEj a b c d):=by
 obtain ⟨n1,h1⟩:=qDL a b
 obtain ⟨n2,h2⟩:=qDL c d
 refine ⟨n1+n2+1,fun n hn=>?_⟩
 obtain ⟨m,rfl,hm⟩:=up1 hn
 have h1:=h1 m (by omega)
 dsimp only at h1
 have h2:=h2 m (by omega)
 dsimp only at h2
 simp only [qFC,qHA,qC,qD,qG,qH,qJ,qK,Option.bind_some,qE,qM,qN,h1,h2]
 unfold qEj
 cases qAx a b<;>cases qAx c d<;>by_cases h:a≤c<;>simp [h]
theorem qJF (a b c d:Int):Ev (qDx · a b c d) (qEj a b c d):=by
 obtain ⟨n1,h1⟩:=qDy a b
 obtain ⟨n2,h2⟩:=qDy c d
 refine ⟨n1+n2+1,fun n hn=>?_⟩
 obtain ⟨m,rfl,hm⟩:=up1 hn
 have h1:=h1 m (by omega)
 dsimp only at h1
 have h2:=h2 m (by omega)
 dsimp only at h2
 simp only [qDx,qG9,qC,qD,qG,qH,qJ,qK,Option.bind_some,qE,qM,qN,h1,h2]
 unfold qEj
 cases qAx a b<;>cases qAx c d<;>by_cases h:a≤c<;>simp [h]
theorem qJ8 (b:Bool):Ev (qEZ · b) (3,if b=true then 1 else 0,em):=by
 refine ⟨1,fun n hn=>?_⟩
 obtain ⟨m,rfl,hm⟩:=up1 hn
 simp only [qEZ,qHw,qC,qD,qG,qH,qJ,qK,Option.bind_some,qE,qM,qN]
 cases b<;>rfl
theorem qEL {R:Type} {F:Nat→Option R} {r:R} {k:Nat} (h:∀n,k≤n→F n=some r):Ev F r:=⟨k,h⟩
theorem wf8 {x:Int} (h:(Lit.int .u8 x).wf=true):0≤x∧x≤255:=by
 simp only [Lit.wf,Bool.and_eq_true,decide_eq_true_eq] at h
 have h1:IntKind.u8.min=0:=by decide
 have h2:IntKind.u8.max=255:=by decide
 omega
theorem qTE {x:Int} (h:0≤x∧x≤18446744073709551615):IntKind.u64.wrap x=x:=by
 unfold IntKind.wrap
 have e2:(2:Int)^64=18446744073709551616:=by decide
 simp only [IntKind.signed,IntKind.bits,Bool.false_and,Bool.false_eq_true,if_false,e2]
 omega
def qHh (l:List (List PV)):Prop:=l.length≤1048576∧∀e∈l,∃b:Int,e= [.i .u8 b]∧0≤b∧b≤255
theorem qSD {l:List (List PV)} (w:∀r∈l,okR [.i .u8] r) (h:¬(l.length:Int)>1048576):qHh l:=by
 refine ⟨by omega,fun e he=>?_⟩
 obtain ⟨x,r,rfl,h1,h2⟩:=zFY (w e he)
 obtain ⟨n,rfl,h3⟩:=zJo h1
 obtain rfl:=zGX h2
 exact ⟨n,rfl,wf8 h3⟩
theorem qPn (l:List (List PV)):Ev (qHq · l) (decide ((l.length:Int)>1048576)):=by
 refine ⟨1,fun n hn=>?_⟩
 obtain ⟨m,rfl,hm⟩:=up1 hn
 simp only [qHq,qKE,qC,qD,qG,qH,qJ,qK,Option.bind_some,qE,qM,qN]
theorem qSE (l:List (List PV)):∀n,1≤n→qFA n l=some (l,0):=fun n hn=>by
 obtain ⟨m,rfl,_⟩:=up1 hn
 simp [qFA,qGz,qC,qD,qG,qH,qJ,qK,Option.bind_some,qE,qM,qN]
theorem qPI {l:List (List PV)} {p:Int} (hl:qHh l) (hp:0≤p∧p≤l.length):∃(a p':Int),(0≤p'∧p'≤l.length)∧(0≤a∧a≤255)∧∀n,1≤n→qBP n l p=some (a,l,p'):=by
 have h1:=hl.1
 by_cases h:p≥l.length
 ·refine ⟨0,p,hp,by decide,fun n hn=>?_⟩
  obtain ⟨m,rfl,_⟩:=up1 hn
  simp [qBP,qDe,qC,qD,qG,qH,qJ,qK,Option.bind_some,qE,qM,qN,h]
 ·have hlt:p.toNat<l.length:=by omega
  obtain ⟨b,hb,b0,b1⟩:=hl.2 _ (List.getElem_mem hlt)
  have hg:l[p.toNat]?=some [.i .u8 b]:=by rw [List.getElem?_eq_getElem hlt,hb]
  refine ⟨b,p+1,by omega,⟨b0,b1⟩,fun n hn=>?_⟩
  obtain ⟨m,rfl,_⟩:=up1 hn
  have w1:IntKind.i64.wrap (p+1)=p+1:=qX (by omega)
  have w2:IntKind.i64.wrap p=p:=qX (by omega)
  have w3:IntKind.i64.wrap b=b:=qX (by omega)
  have hp2:p<l.length:=by omega
  simp [qBP,qDe,qC,qD,qG,qH,qJ,qK,Option.bind_some,qE,qM,qN,h,w1,w2,w3,hp.1,hp2,hg,hb,zF]
theorem qBT {l:List (List PV)} {p:Int} (k:Int) (hk:1<k∧k≤1000000) (hl:qHh l) (hp:0≤p∧p≤l.length):∃(a p':Int),(0≤p'∧p'≤l.length)∧(0≤a∧a<k)∧∀n,2≤n→qP n k l p=some (a,l,p'):=by
 obtain ⟨a,p',h1,h2,h3⟩:=qPI hl hp
 have k1:¬k≤1:=by omega
 have k3:¬k=0:=by omega
 by_cases k2:k≤256
 ·have e:Int.tmod a k=a%k:=Int.tmod_eq_emod_of_nonneg h2.1
  refine ⟨a%k,p',h1,⟨Int.emod_nonneg a (by omega),Int.emod_lt_of_pos a (by omega)⟩,fun n hn=>?_⟩
  obtain ⟨m,rfl,hm⟩:=up1 hn
  have h3:=h3 m (by omega)
  simp [qP,qCY,qC,qD,qG,qH,qJ,qK,Option.bind_some,qE,qM,qN,h3,k1,k2,k3,e]
 ·obtain ⟨b,p2,g1,g2,g3⟩:=qPI hl h1
  have w1:IntKind.i64.wrap (a*256)=a*256:=qX (by omega)
  have w2:IntKind.i64.wrap (a*256+b)=a*256+b:=qX (by omega)
  have e:Int.tmod (a*256+b) k=(a*256+b)%k:=Int.tmod_eq_emod_of_nonneg (by omega)
  refine ⟨(a*256+b)%k,p2,g1,⟨Int.emod_nonneg _ (by omega),Int.emod_lt_of_pos _ (by omega)⟩,fun n hn=>?_⟩
  obtain ⟨m,rfl,hm⟩:=up1 hn
  have h3:=h3 m (by omega)
  have g3:=g3 m (by omega)
  simp [qP,qCY,qC,qD,qG,qH,qJ,qK,Option.bind_some,qE,qM,qN,h3,g3,k1,k2,k3,e,w1,w2]
theorem qJV {l:List (List PV)} {p:Int} (k:Int) (hk:1<k∧k≤1000000) (hl:qHh l) (hp:0≤p∧p≤l.length):∃(b:Bool) (p':Int),(0≤p'∧p'≤l.length)∧∀n,3≤n→qf n k l p=some (b,l,p'):=by
 obtain ⟨a,p',h1,h2,h3⟩:=qBT k hk hl hp
 refine ⟨a==IntKind.i64.wrap (k-1),p',h1,fun n hn=>?_⟩
 obtain ⟨m,rfl,hm⟩:=up1 hn
 have h3:=h3 m (by omega)
 simp [qf,qEy,qC,qD,qG,qH,qJ,qK,Option.bind_some,qE,qM,qN,h3]
theorem qOd {l:List (List PV)} (hl:qHh l):∀(m:Nat) (i:Nat) (v p:Int),i+m=8→(0≤p∧p≤l.length)→∃(r p':Int),(0≤p'∧p'≤l.length)∧∀n M,1≤n→m+1≤M→zC (qB8 n) M (v,(i:Int),l,p)=some (r,l,p')
 |0,i,v,p,h,hp=>by
  refine ⟨v,p,hp,fun n M hn hM=>?_⟩
  obtain ⟨M,rfl⟩:∃q,M=q+1:=⟨M-1,by omega⟩
  have hi:¬(i:Int)<8:=by omega
  rw [qQ (r:=(v,l,p)) (by simp [qB8,qC,qD,qG,qH,qJ,qK,Option.bind_some,qE,qM,qN,hi])]
 |m+1,i,v,p,h,hp=>by
  obtain ⟨a,p1,h1,h2,h3⟩:=qPI hl hp
  obtain ⟨r,p2,h4,h5⟩:=qOd hl m (i+1) (IntKind.u64.wrap ((BitVec.ofInt IntKind.u64.bits (IntKind.u64.wrap (v*(2:Int)^(8:Nat)))|||BitVec.ofInt IntKind.u64.bits (IntKind.u64.wrap a)).toNat:Int)) p1 (by omega) h1
  refine ⟨r,p2,h4,fun n M hn hM=>?_⟩
  obtain ⟨M,rfl⟩:∃q,M=q+1:=⟨M-1,by omega⟩
  have hi:(i:Int)<8:=by omega
  have w1:IntKind.i64.wrap ((i:Int)+1)=((i+1:Nat):Int):=by rw [qX (by omega)];omega
  have h3:=h3 n hn
  rw [qc (v':=(IntKind.u64.wrap ((BitVec.ofInt IntKind.u64.bits (IntKind.u64.wrap (v*(2:Int)^(8:Nat)))|||BitVec.ofInt IntKind.u64.bits (IntKind.u64.wrap a)).toNat:Int),((i+1:Nat):Int),l,p1)) (by
   simp only [qB8,qC,qD,qG,qH,qJ,qK,Option.bind_some,qE,qM,qN,h3,w1]
   rw [if_pos (by simpa using hi)])]
  exact h5 n M hn (by omega)
theorem qSF {l:List (List PV)} {p:Int} (hl:qHh l) (hp:0≤p∧p≤l.length):∃(r p':Int),(0≤p'∧p'≤l.length)∧∀n,10≤n→qDg n l p=some (r,l,p'):=by
 obtain ⟨r,p',h1,h2⟩:=qOd hl 8 0 0 p rfl hp
 refine ⟨r,p',h1,fun n hn=>?_⟩
 obtain ⟨m,rfl,hm⟩:=up1 hn
 have h2:=h2 m m (by omega) (by omega)
 simp only [Int.natCast_zero] at h2
 simp only [qDg,qEz,qC,qD,qG,qH,qJ,qK,Option.bind_some,qE,qM,qN,h2]
theorem qSG {l:List (List PV)} {p:Int} (lo hi:Int) (hk: -1000≤lo∧lo≤hi∧hi≤1000) (hl:qHh l) (hp:0≤p∧p≤l.length):∃(x p':Int),(0≤p'∧p'≤l.length)∧(-9223372036854775808≤x∧x≤9223372036854775807)∧∀n,11≤n→qCJ n lo hi l p=some (x,l,p'):=by
 obtain ⟨a,p1,h1,h2,h3⟩:=qBT 8 (by decide) hl hp
 by_cases a0:a=0
 ·refine ⟨lo,p1,h1,by omega,fun n hn=>?_⟩
  obtain ⟨m,rfl,hm⟩:=up1 hn
  have h3:=h3 m (by omega)
  simp [qCJ,qCx,qC,qD,qG,qH,qJ,qK,Option.bind_some,qE,qM,qN,h3,a0]
 ·by_cases a1:a=1
  ·refine ⟨hi,p1,h1,by omega,fun n hn=>?_⟩
   obtain ⟨m,rfl,hm⟩:=up1 hn
   have h3:=h3 m (by omega)
   simp [qCJ,qCx,qC,qD,qG,qH,qJ,qK,Option.bind_some,qE,qM,qN,h3,a1]
  ·obtain ⟨r,p2,h4,h5⟩:=qSF hl h1
   refine ⟨_,p2,h4,qMK (lo+IntKind.i64.wrap (Int.tmod (Int.fdiv r ((2:Int)^(1:Nat))) (IntKind.u64.wrap (IntKind.i64.wrap (IntKind.i64.wrap (hi-lo)+1))))),fun n hn=>?_⟩
   obtain ⟨m,rfl,hm⟩:=up1 hn
   have h3:=h3 m (by omega)
   have h5:=h5 m (by omega)
   have c1:¬hi<lo:=by omega
   have w1:IntKind.i64.wrap (hi-lo)=hi-lo:=qX (by omega)
   have w2:IntKind.i64.wrap (hi-lo+1)=hi-lo+1:=qX (by omega)
   have w3:IntKind.u64.wrap (hi-lo+1)=hi-lo+1:=qTE (by omega)
   have w4:¬hi-lo+1=0:=by omega
   simp only [qCJ,qCx,qC,qD,qG,qH,qJ,qK,Option.bind_some,qE,qM,qN,h3,h5,w1,w2,w3]
   simp [a0,a1,c1,w4]
theorem qSt {l:List (List PV)} {p:Int} (lo hi:Int) (hk: -1000≤lo∧lo≤hi∧hi≤1000) (hl:qHh l) (hp:0≤p∧p≤l.length):∃(x p':Int),(0≤p'∧p'≤l.length)∧(-9223372036854775808≤x∧x≤9223372036854775807)∧∀n,12≤n→qBg n lo hi l p=some (x,l,p'):=by
 obtain ⟨b,p1,h1,h2⟩:=qJV 24 (by decide) hl hp
 cases b with
 |true=>
  obtain ⟨a,p2,h3,h4,h5⟩:=qBT 4 (by decide) hl h1
  have c:a=0∨a=1∨a=2∨a=3:=by omega
  rcases c with rfl|rfl|rfl|rfl
  ·refine ⟨IntKind.i64.wrap (lo-1),p2,h3,qMK _,fun n hn=>?_⟩
   obtain ⟨m,rfl,hm⟩:=up1 hn
   have h2:=h2 m (by omega)
   have h5:=h5 m (by omega)
   simp [qBg,qB6,qC,qD,qG,qH,qJ,qK,Option.bind_some,qE,qM,qN,h2,h5,zF]
  ·refine ⟨IntKind.i64.wrap (hi+1),p2,h3,qMK _,fun n hn=>?_⟩
   obtain ⟨m,rfl,hm⟩:=up1 hn
   have h2:=h2 m (by omega)
   have h5:=h5 m (by omega)
   simp [qBg,qB6,qC,qD,qG,qH,qJ,qK,Option.bind_some,qE,qM,qN,h2,h5,zF]
  ·refine ⟨-9223372036854775808,p2,h3,by decide,fun n hn=>?_⟩
   obtain ⟨m,rfl,hm⟩:=up1 hn
   have h2:=h2 m (by omega)
   have h5:=h5 m (by omega)
   simp [qBg,qB6,qC,qD,qG,qH,qJ,qK,Option.bind_some,qE,qM,qN,h2,h5,zF]
  ·refine ⟨9223372036854775807,p2,h3,by decide,fun n hn=>?_⟩
   obtain ⟨m,rfl,hm⟩:=up1 hn
   have h2:=h2 m (by omega)
   have h5:=h5 m (by omega)
   simp [qBg,qB6,qC,qD,qG,qH,qJ,qK,Option.bind_some,qE,qM,qN,h2,h5,zF]
 |false=>
  obtain ⟨x,p2,h3,h4,h5⟩:=qSG lo hi hk hl h1
  refine ⟨x,p2,h3,h4,fun n hn=>?_⟩
  obtain ⟨m,rfl,hm⟩:=up1 hn
  have h2:=h2 m (by omega)
  have h5:=h5 m (by omega)
  simp [qBg,qB6,qC,qD,qG,qH,qJ,qK,Option.bind_some,qE,qM,qN,h2,h5]
theorem qOe {a b c d:Int} (h:qEj a b c d=true):(1≤a∧a≤52)∧(1≤b∧b≤99)∧(1≤c∧c≤52)∧(1≤d∧d≤99)∧a≤c∧b≤d:=by
 simp only [qEj,qAx,Bool.and_eq_true,decide_eq_true_eq] at h
 obtain ⟨⟨⟨⟨h1,h2⟩,h3,h4⟩,h5⟩,h6⟩:=h
 exact ⟨h1,h2,h3,h4,h5,h6⟩
theorem qQV {l:List (List PV)} {p:Int} (hl:qHh l) (hp:0≤p∧p≤l.length):∃(a b p':Int),(0≤p'∧p'≤l.length)∧∀n,3≤n→qAi n l p=some (a,b,l,p'):=by
 obtain ⟨a,p1,h1,h2,h3⟩:=qBT 3 (by decide) hl hp
 obtain ⟨b,p2,h4,h5,h6⟩:=qBT 4 (by decide) hl h1
 refine ⟨IntKind.i64.wrap (1+a),IntKind.i64.wrap (1+b),p2,h4,fun n hn=>?_⟩
 obtain ⟨m,rfl,hm⟩:=up1 hn
 have h3:=h3 m (by omega)
 have h6:=h6 m (by omega)
 simp [qAi,qFV,qC,qD,qG,qH,qJ,qK,Option.bind_some,qE,qM,qN,h3,h6]
theorem qSH {l:List (List PV)} {p:Int} (hl:qHh l) (hp:0≤p∧p≤l.length):∃(a b c d p':Int),(0≤p'∧p'≤l.length)∧∀n,13≤n→qCK n l p=some (a,b,c,d,l,p'):=by
 obtain ⟨a,b,p1,h1,h2⟩:=qQV hl hp
 obtain ⟨c,d,p2,h3,h4⟩:=qQV hl h1
 obtain ⟨o,p3,h5,h6⟩:=qJV 20 (by decide) hl h3
 cases o with
 |true=>
  obtain ⟨x,p4,h7,_,h8⟩:=qSt 1 99 (by decide) hl h5
  refine ⟨(if c<a then c else a),(if d<b then d else b),(if c>a then c else a),x,p4,h7,fun n hn=>?_⟩
  obtain ⟨m,rfl,hm⟩:=up1 hn
  have h2:=h2 m (by omega)
  have h4:=h4 m (by omega)
  have h6:=h6 m (by omega)
  have h8:=h8 m (by omega)
  simp [qCK,qDh,qC,qD,qG,qH,qJ,qK,Option.bind_some,qE,qM,qN,h2,h4,h6,h8]
 |false=>
  refine ⟨(if c<a then c else a),(if d<b then d else b),(if c>a then c else a),(if d>b then d else b),p3,h5,fun n hn=>?_⟩
  obtain ⟨m,rfl,hm⟩:=up1 hn
  have h2:=h2 m (by omega)
  have h4:=h4 m (by omega)
  have h6:=h6 m (by omega)
  simp [qCK,qDh,qC,qD,qG,qH,qJ,qK,Option.bind_some,qE,qM,qN,h2,h4,h6]
def qEH (x:Int):ByteArray:=⟨(Lib.itoa x).toArray⟩
theorem qDF (a b:ByteArray):(a++b).data.toList=a.data.toList++b.data.toList:=by
 rw [ByteArray.data_append,Array.toList_append]
theorem qGs {a b:ByteArray} (h:a.data.toList=b.data.toList):a=b:=by
 cases a;cases b
 congr 1
 exact Array.toList_inj.1 h
theorem qDN {a b:ByteArray} (h:a.toList=b.toList):a=b:=qGs (by rw [←Go.Lib.toList_data,←Go.Lib.toList_data];exact h)
theorem qCu (a:ByteArray):a.size=a.data.toList.length:=by rw [Array.length_toList];rfl
theorem u8w {q:Nat} (h:q<10):IntKind.u8.wrap (IntKind.i64.wrap (48+(q:Int)))=((48+q:Nat):Int):=by
 rw [qX (by omega)]
 unfold IntKind.wrap
 have e2:(2:Int)^8=256:=by decide
 simp only [IntKind.signed,IntKind.bits,Bool.false_and,Bool.false_eq_true,if_false,e2]
 omega
theorem qSo:∀(k v:Nat),1≤v→v<10^k→Lib.nDigits v≤k:=by
 intro k
 induction k with
 |zero=>intro v hv hv';simp at hv';omega
 |succ k ih=>
  intro v hv hv'
  by_cases h10:v<10
  ·rw [Lib.nDigits_small h10];omega
  ·rw [Lib.nDigits_big h10]
   have:=ih (v/10) (by omega) (by rw [Nat.pow_succ] at hv';omega)
   omega
theorem qJW (u:Nat) (h:u≤1000000000000000000):(Lib.decDigits u).length≤19:=by
 have p:(10:Nat)^19=10000000000000000000:=by decide
 rw [Lib.decDigits_length]
 rcases Nat.lt_or_ge u 1 with h6|h6
 ·have:u=0:=by omega
  subst this
  rw [Lib.nDigits_small (by decide)]
  decide
 ·exact qSo 19 u h6 (by omega)
def qY (x:Int):ByteArray:=if x=1 then ⟨#[35,68,73,86,33]⟩ else if x=2 then ⟨#[35,84,89,80,69,33]⟩ else if x=3 then ⟨#[35,82,69,70,33]⟩ else if x=4 then ⟨#[35,79,86,69,82,33]⟩ else if x=5 then ⟨#[35,67,89,67,76,69,33]⟩ else ⟨#[]⟩
theorem lt6 {x:Int} (h:0≤x∧x≤5):x=0∨x=1∨x=2∨x=3∨x=4∨x=5:=by omega
def qPo (x:Int):ByteArray:=if x=1 then ⟨#[84,82,85,69]⟩ else ⟨#[70,65,76,83,69]⟩
theorem qQq {x:Int} {s:ByteArray} (h:okV 1 x s=true): -1000000000000000≤x∧x≤1000000000000000:=by
 simp [okV] at h;exact h.2
theorem qLC {x:Int} {s:ByteArray} (h:okV 2 x s=true):x=0∧(s.size:Int)≤200∧s.toList.all okc=true:=by
 simp only [okV,qBH,if_true,Bool.and_eq_true,decide_eq_true_eq] at h
 exact ⟨h.1,h.2.2,h.2.1⟩
theorem qOf {x:Int} {s:ByteArray} (h:okV 3 x s=true):0≤x∧x≤1:=by
 simp [okV] at h;exact h.2
theorem qOg {x:Int} {s:ByteArray} (h:okV 4 x s=true):1≤x∧x≤5:=by
 simp [okV] at h;exact h.2
def q9 (k x:Int) (s:ByteArray):ByteArray:=if k=1 then qEH x else if k=2 then ⟨#[39]⟩++s else if k=3 then qPo x else if k=4 then qY x else ⟨#[]⟩
theorem qJX {x:Int} (h: -1000000000000000000≤x∧x≤1000000000000000000):(qEH x).size≤20:=by
 rw [qCu]
 show (Lib.itoa x).length≤20
 unfold Lib.itoa
 split
 ·have:=qJW x.natAbs (by omega);simp;omega
 ·have:=qJW x.toNat (by omega);omega
theorem qQW {k x:Int} {s:ByteArray} (h:okV k x s=true):(q9 k x s).size≤300:=by
 unfold q9
 split
 ·rename_i k1;subst k1;have:=qQq h;have:=qJX (x:=x) (by omega);omega
 ·split
  ·rename_i k2;subst k2
   have:=qLC h
   rw [ByteArray.size_append]
   show 1+s.size≤300
   omega
  ·split
   ·unfold qPo;split<;>decide
   ·split
    ·unfold qY
     repeat' split
     all_goals decide
    ·decide
def qBj (x:Int):ByteArray:=if x<1∨x>52 then ⟨#[]⟩ else if x≤26 then ⟨#[UInt8.ofNat (64+x.toNat)]⟩ else ⟨#[65,UInt8.ofNat (65+(x.toNat-1)%26)]⟩
theorem qML (x:Int):(qBj x).size≤2:=by
 unfold qBj
 split
 ·decide
 ·split
  ·exact (show (1:Nat)≤2 by decide)
  ·exact (show (2:Nat)≤2 by decide)
theorem qPJ {q:Int} (h:0≤q∧q<256):IntKind.u8.wrap q=q:=by
 unfold IntKind.wrap
 have e2:(2:Int)^8=256:=by decide
 simp only [IntKind.signed,IntKind.bits,Bool.false_and,Bool.false_eq_true,if_false,e2]
 omega
def qAT (c r:Int) (fc fr:Bool):ByteArray:=if qAx c r=true then ⟨((if fc=true then [36] else [])++(qBj c).data.toList++(if fr=true then [36] else [])++(qEH r).data.toList).toArray⟩ else ⟨#[]⟩
theorem qKg {x:Int} (h:1≤x∧x≤99):(qEH x).size≤20:=by
 rw [qCu]
 show (Lib.itoa x).length≤20
 unfold Lib.itoa
 rw [if_neg (by omega)]
 have:=qJW x.toNat (by omega)
 omega
theorem qEk {c r:Int} (h:qAx c r=true):(1≤c∧c≤52)∧(1≤r∧r≤99):=by
 simpa [qAx] using h
def qAe (c:UInt8):Bool:=decide (48≤c.toNat)&&decide (c.toNat≤57)
def qAg (acc:Nat) (l:List UInt8):Nat:=l.foldl (fun a c=>a*10+(c.toNat-48)) acc
theorem qGT (acc:Nat):qAg acc []=acc:=rfl
theorem qDl (acc:Nat) (c:UInt8) (r:List UInt8):qAg acc (c::r)=qAg (acc*10+(c.toNat-48)) r:=by simp only [qAg,List.foldl_cons]
theorem qPp (l:List UInt8) (acc:Nat) (c:UInt8):qAg acc (l++ [c])=qAg acc l*10+(c.toNat-48):=by
 simp only [qAg,List.foldl_append,List.foldl_cons,List.foldl_nil]
theorem qQr:∀(l:List UInt8) (acc:Nat),acc≤qAg acc l
 | [],acc=>by rw [qGT];exact Nat.le_refl _
 |c::r,acc=>by
  have h:=qQr r (acc*10+(c.toNat-48))
  have h2:acc≤acc*10+(c.toNat-48):=by omega
  rw [qDl]
  exact Nat.le_trans h2 h
theorem qPK {d:Nat} (h:d<10):(UInt8.ofNat (48+d)).toNat=48+d:=by
 rw [UInt8.toNat_ofNat'];omega
theorem qPq {d:Nat} (h:d<10):qAe (UInt8.ofNat (48+d))=true:=by
 unfold qAe
 rw [qPK h]
 simp
 omega
theorem qC6:∀u:Nat,(Lib.decDigits u).all qAe=true∧qAg 0 (Lib.decDigits u)=u∧Lib.decDigits u≠ []∧(10≤u→(Lib.decDigits u).head?≠some 48)∧(1≤u→(Lib.decDigits u).head?≠some 48):=by
 intro u
 induction u using Nat.strongRecOn with
 |_ u ih=>
  by_cases h:u<10
  ·rw [Lib.decDigits,dif_pos h]
   have h1:∀k,1≤k→k<10→UInt8.ofNat (48+k)≠48:=fun k hk hk' e=>by
    have:=congrArg UInt8.toNat e
    rw [qPK hk'] at this
    have h2:(48:UInt8).toNat=48:=rfl
    omega
   refine ⟨by simp only [List.all_cons,List.all_nil,qPq h,Bool.and_true],by rw [qDl,qGT,qPK h];omega,by simp,fun _=>by omega,fun hu=>?_⟩
   simp only [List.head?_cons,ne_eq,Option.some.injEq]
   exact h1 u hu h
  ·obtain ⟨i1,i2,i3,i4,i5⟩:=ih (u/10) (by omega)
   rw [Lib.decDigits,dif_neg h]
   have hd:u%10<10:=by omega
   have hh:(Lib.decDigits (u/10)++ [UInt8.ofNat (48+u%10)]).head?=(Lib.decDigits (u/10)).head?:=by
    cases hq:Lib.decDigits (u/10) with
    |nil=>exact absurd hq i3
    |cons a b=>rfl
   refine ⟨by simp only [List.all_append,i1,List.all_cons,List.all_nil,qPq hd,Bool.and_true],by rw [qPp,i2,qPK hd];omega,by simp,fun _=>?_,fun _=>?_⟩
   ·rw [hh];exact i5 (by omega)
   ·rw [hh];exact i5 (by omega)
def qFm (l:List UInt8):Bool:=!(l== [])&&l.all qAe&&(!(l.head?==some 48)||l.length==1)
theorem qOh (u:Nat):qFm (Lib.decDigits u)=true:=by
 obtain ⟨h1,h2,h3,h4,h5⟩:=qC6 u
 simp only [qFm,h1,Bool.and_true,Bool.and_eq_true,Bool.not_eq_true',beq_eq_false_iff_ne,Bool.or_eq_true]
 refine ⟨h3,?_⟩
 by_cases hu:u<10
 ·right;rw [Lib.decDigits,dif_pos hu];rfl
 ·left;exact h4 (by omega)
theorem qMM:∀(n:Nat) (l:List UInt8),l.length=n→qFm l=true→Lib.decDigits (qAg 0 l)=l
 |0,l,hn,h=>by
  have:=List.eq_nil_of_length_eq_zero hn
  subst this
  simp [qFm] at h
 |n+1,l,hn,h=>by
  simp only [qFm,Bool.and_eq_true,Bool.not_eq_true',beq_eq_false_iff_ne,Bool.or_eq_true,beq_iff_eq] at h
  obtain ⟨⟨h1,h2⟩,h3⟩:=h
  obtain ⟨ini,c,rfl⟩:∃ini c,l=ini++ [c]:=⟨l.dropLast,l.getLast h1,(List.dropLast_concat_getLast h1).symm⟩
  simp only [List.all_append,Bool.and_eq_true,List.all_cons,List.all_nil,Bool.and_true] at h2
  obtain ⟨h2,hc⟩:=h2
  simp only [qAe,Bool.and_eq_true,decide_eq_true_eq] at hc
  have ec:UInt8.ofNat (48+(c.toNat-48))=c:=by
   have:48+(c.toNat-48)=c.toNat:=by omega
   rw [this];simp
  rw [qPp]
  cases ini with
  |nil=>
   rw [qGT,Nat.zero_mul,Nat.zero_add,List.nil_append,Lib.decDigits,dif_pos (by omega),ec]
  |cons a b=>
   have hl:(a::b).length=n:=by simp at hn⊢;omega
   have h48:¬a=48:=by
    rcases h3 with h3|h3
    ·simpa using h3
    ·simp at h3
   have hcn:qFm (a::b)=true:=by
    simp only [qFm,h2,Bool.and_true,Bool.and_eq_true,Bool.not_eq_true',beq_eq_false_iff_ne,Bool.or_eq_true]
    exact ⟨by simp,.inl (by simpa using h48)⟩
   have ih:=qMM n (a::b) hl hcn
   have hp:1≤qAg 0 (a::b):=by
    rcases Nat.eq_zero_or_pos (qAg 0 (a::b)) with h0|h0
    ·rw [h0,Lib.decDigits,dif_pos (by decide)] at ih
     have:a=48:=by
      have:=congrArg List.head? ih
      simpa using this.symm
     exact absurd this h48
    ·exact h0
   rw [Lib.decDigits,dif_neg (by omega)]
   have e1:(qAg 0 (a::b)*10+(c.toNat-48))/10=qAg 0 (a::b):=by omega
   have e2:(qAg 0 (a::b)*10+(c.toNat-48))%10=c.toNat-48:=by omega
   rw [e1,e2,ih,ec]
def l1I (l:List UInt8) (most:Int):Int×Bool:=if (l.length:Int)≤most∧qFm l=true then ((qAg 0 l:Int),true) else (0,false)
theorem qPL:∀(l:List UInt8) (acc k:Nat),l.all qAe=true→acc<10^k→qAg acc l<10^(k+l.length)
 | [],acc,k,_,h=>by rw [qGT];simpa using h
 |c::r,acc,k,hd,h=>by
  simp only [List.all_cons,Bool.and_eq_true] at hd
  have hc:=hd.1
  simp only [qAe,Bool.and_eq_true,decide_eq_true_eq] at hc
  have:=qPL r (acc*10+(c.toNat-48)) (k+1) hd.2 (by rw [Nat.pow_succ];omega)
  rw [qDl,List.length_cons,show k+(r.length+1)=k+1+r.length by omega]
  exact this
theorem qMN:∀(l:List UInt8) (acc:Nat),l.all qAe=true→qAg acc l≤1000000000000000000→Lib.parseUintM (2^64-1) acc l= .ok (qAg acc l)
 | [],acc,_,_=>by simp only [Lib.parseUintM,qGT]
 |c::r,acc,hd,h=>by
  simp only [List.all_cons,Bool.and_eq_true] at hd
  have hc:=hd.1
  simp only [qAe,Bool.and_eq_true,decide_eq_true_eq] at hc
  rw [qDl] at h⊢
  have g1:=qQr r (acc*10+(c.toNat-48))
  have p:(2:Nat)^64-1=18446744073709551615:=by decide
  simp only [Lib.parseUintM]
  rw [if_pos hc,if_neg (by omega),if_neg (by rw [p];omega)]
  exact qMN r _ hd.2 h
theorem qOi {u:Nat} (h:u≤1000000000000000000):Lib.parseUintB 64 (Lib.decDigits u)= .ok u:=by
 obtain ⟨h1,h2,h3,_,_⟩:=qC6 u
 unfold Lib.parseUintB
 rw [if_neg h3,qMN _ 0 h1 (by rw [h2];exact h),h2]
theorem qHi (u:Nat):∃c r,Lib.decDigits u=c::r∧qAe c=true:=by
 obtain ⟨h1,_,h3,_,_⟩:=qC6 u
 cases hq:Lib.decDigits u with
 |nil=>exact absurd hq h3
 |cons c r=>
  rw [hq] at h1
  simp only [List.all_cons,Bool.and_eq_true] at h1
  exact ⟨c,r,rfl,h1.1⟩
theorem qQX {x:Int} (h: -1000000000000000≤x∧x≤1000000000000000):Lib.parseIntB 64 (Lib.itoa x)= .ok x:=by
 have p:(2:Nat)^(64-1)=9223372036854775808:=by decide
 by_cases hx:x<0
 ·have e:Lib.itoa x=45::Lib.decDigits x.natAbs:=by unfold Lib.itoa;rw [if_pos hx]
  have c45:(45:UInt8).toNat=45:=rfl
  rw [e]
  simp only [Lib.parseIntB,c45,or_true,if_true,qOi (u:=x.natAbs) (by omega),p]
  rw [if_neg (by simp),if_neg (by omega)]
  congr 1
  omega
 ·have e:Lib.itoa x=Lib.decDigits x.toNat:=by unfold Lib.itoa;rw [if_neg hx]
  obtain ⟨c,r,hcr,hd⟩:=qHi x.toNat
  simp only [qAe,Bool.and_eq_true,decide_eq_true_eq] at hd
  rw [e,hcr]
  simp only [Lib.parseIntB]
  rw [if_neg (by omega),←hcr,qOi (u:=x.toNat) (by omega)]
  simp only [p]
  rw [if_neg (by omega),if_neg (by omega),if_neg (by omega)]
  congr 1
  omega
def qPM (l:List UInt8):Option Int:=if l.head?=some 45 then (if (l1I (l.drop 1) 16).2=true∧(l1I (l.drop 1) 16).1≠0 then some (-(l1I (l.drop 1) 16).1) else none) else (if (l1I l 16).2=true then some (l1I l 16).1 else none)
theorem qNr {l:List UInt8} (h:(l1I l 16).2=true):l.length≤16∧qFm l=true∧(l1I l 16).1=(qAg 0 l:Int)∧Lib.decDigits (qAg 0 l)=l:=by
 unfold l1I at h⊢
 split at h
 ·rename_i hc
  rw [if_pos hc]
  exact ⟨by omega,hc.2,rfl,qMM _ l rfl hc.2⟩
 ·cases h
theorem qQs {u:Nat} (h:u≤1000000000000000):l1I (Lib.decDigits u) 16=((u:Int),true):=by
 obtain ⟨h1,h2,h3,_,_⟩:=qC6 u
 have hl:(Lib.decDigits u).length≤16:=by
  rw [Lib.decDigits_length]
  have:Lib.nDigits 1000000000000000=16:=Lib.nDigits_unique 15 _ (by decide) (by decide)
  rcases Nat.lt_or_ge 16 (Lib.nDigits u) with h4|h4
  ·have h5:u<10^16:=by
    have:(10:Nat)^16=10000000000000000:=by decide
    omega
   exfalso
   rcases Nat.lt_or_ge u 1 with h6|h6
   ·have:u=0:=by omega
    subst this
    rw [Lib.nDigits_small (by decide)] at h4
    omega
   ·have key:∀(k v:Nat),1≤v→v<10^k→Lib.nDigits v≤k:=by
     intro k
     induction k with
     |zero=>intro v hv hv';simp at hv';omega
     |succ k ih=>
      intro v hv hv'
      by_cases h10:v<10
      ·rw [Lib.nDigits_small h10];omega
      ·rw [Lib.nDigits_big h10]
       have:=ih (v/10) (by omega) (by rw [Nat.pow_succ] at hv';omega)
       omega
    have:=key 16 u h6 h5
    omega
  ·exact h4
 unfold l1I
 rw [if_pos ⟨by omega,qOh u⟩,h2]
theorem qRJ {l:List UInt8} {x:Int} (h:qPM l=some x):l=Lib.itoa x:=by
 unfold qPM at h
 split at h
 ·rename_i h45
  split at h
  ·rename_i hc
   cases h
   obtain ⟨a1,a2,a3,a4⟩:=qNr hc.1
   have hne:=hc.2
   rw [a3] at hne⊢
   unfold Lib.itoa
   rw [if_pos (by omega)]
   have:(-(qAg 0 (l.drop 1):Int)).natAbs=qAg 0 (l.drop 1):=by omega
   rw [this,a4]
   cases l with
   |nil=>cases h45
   |cons c r=>simp at h45;simp [h45]
  ·cases h
 ·split at h
  ·rename_i hc
   cases h
   obtain ⟨a1,a2,a3,a4⟩:=qNr hc
   rw [a3]
   unfold Lib.itoa
   rw [if_neg (by omega),Int.toNat_natCast,a4]
  ·cases h
theorem qRK {x:Int} (h: -1000000000000000≤x∧x≤1000000000000000):qPM (Lib.itoa x)=some x:=by
 unfold qPM
 by_cases hx:x<0
 ·have e:Lib.itoa x=45::Lib.decDigits x.natAbs:=by unfold Lib.itoa;rw [if_pos hx]
  have e2:=qQs (u:=x.natAbs) (by omega)
  rw [e,List.head?_cons,if_pos rfl,List.drop_succ_cons,List.drop_zero,e2,if_pos ⟨rfl,by show ((x.natAbs:Nat):Int)≠0;omega⟩]
  congr 1
  show-((x.natAbs:Nat):Int)=x
  omega
 ·have e:Lib.itoa x=Lib.decDigits x.toNat:=by unfold Lib.itoa;rw [if_neg hx]
  have e2:=qQs (u:=x.toNat) (by omega)
  obtain ⟨c,r,hcr,hd⟩:=qHi x.toNat
  have h45:¬(Lib.decDigits x.toNat).head?=some 45:=by
   rw [hcr]
   simp only [List.head?_cons,Option.some.injEq]
   intro hc
   subst hc
   simp [qAe] at hd
  rw [e,if_neg h45,e2,if_pos rfl]
  congr 1
  show ((x.toNat:Nat):Int)=x
  omega
def qBu (s:ByteArray):Int:=match zK s 10 64 with
 |some (.inl v)=>v
 |some (.inr v)=>v
 |none=>0
theorem qJG {s:ByteArray} {x:Int} (hs:s.toList=Lib.itoa x) (h: -1000000000000000≤x∧x≤1000000000000000):qBu s=x:=by
 have hd:s.data.toList=Lib.itoa x:=by rw [←Go.Lib.toList_data];exact hs
 have hsz:s.size≤281474976710656:=by
  rw [←qAK,hs]
  unfold Lib.itoa
  split
  ·have:=qJW x.natAbs (by omega);simp;omega
  ·have:=qJW x.toNat (by omega);omega
 unfold qBu zK
 rw [if_pos ⟨rfl,rfl,hsz⟩,hd,qQX h]
def qDz (s:ByteArray):Int:=if (qY 5).toList=s.toList then 5 else if (qY 4).toList=s.toList then 4 else if (qY 3).toList=s.toList then 3 else if (qY 2).toList=s.toList then 2 else if (qY 1).toList=s.toList then 1 else 0
theorem qSI (s:ByteArray):0≤qDz s∧qDz s≤5:=by
 unfold qDz
 repeat' split
 all_goals decide
theorem qSJ {s:ByteArray} (h:¬qDz s=0):qY (qDz s)=s:=by
 unfold qDz at h⊢
 by_cases h5:(qY 5).toList=s.toList
 ·rw [if_pos h5];exact qDN h5
 rw [if_neg h5] at h⊢
 by_cases h4:(qY 4).toList=s.toList
 ·rw [if_pos h4];exact qDN h4
 rw [if_neg h4] at h⊢
 by_cases h3:(qY 3).toList=s.toList
 ·rw [if_pos h3];exact qDN h3
 rw [if_neg h3] at h⊢
 by_cases h2:(qY 2).toList=s.toList
 ·rw [if_pos h2];exact qDN h2
 rw [if_neg h2] at h⊢
 by_cases h1:(qY 1).toList=s.toList
 ·rw [if_pos h1];exact qDN h1
 rw [if_neg h1] at h
 exact absurd rfl h
theorem qTb {i:Int} (h:1≤i∧i≤5):i=1∨i=2∨i=3∨i=4∨i=5:=by omega
def qAy (s:ByteArray):V3:=
 if s.toList.head?=some 39 then (2,0,⟨s.toList.tail.toArray⟩) else
 if s.toList= [70,65,76,83,69] then (3,0,em) else if s.toList= [84,82,85,69] then (3,1,em) else
 if s.toList.head?=some 35 then (if qDz s=0 then (0,0,em) else (4,qDz s,em)) else
 if s.toList= [] then (0,0,em) else (1,qBu s,em)
def qj (s:ByteArray):Int×Int×ByteArray×Bool:=if okV (qAy s).1 (qAy s).2.1 (qAy s).2.2=true∧(q9 (qAy s).1 (qAy s).2.1 (qAy s).2.2).toList=s.toList then ((qAy s).1,(qAy s).2.1,(qAy s).2.2,true) else (0,0,⟨#[]⟩,false)
theorem qSK (c:UInt8) (k:Nat) (hk:k<256):((c.toNat:Int)==(k:Int))=(some c==some (UInt8.ofNat k)):=by
 by_cases e:c=UInt8.ofNat k
 ·subst e
  have:(UInt8.ofNat k).toNat=k:=by rw [UInt8.toNat_ofNat'];omega
  simp [this]
 ·have h1:¬(c.toNat:Int)=(k:Int):=fun h=>e (by
   have:c.toNat=k:=by omega
   rw [←this];simp)
  have h2:¬some c=some (UInt8.ofNat k):=fun h=>e (by simpa using h)
  rw [beq_eq_false_iff_ne.2 h1,beq_eq_false_iff_ne.2 h2]
theorem qAu (l:List UInt8):(⟨l.toArray⟩:ByteArray).toList=l:=by rw [Go.Lib.toList_data]
theorem qNs (n:Nat):∀(f u:Nat) (s:ByteArray),u<10^(f+1)→u≤9223372036854775807→s.size+f≤1000→∃(q:Nat) (t:ByteArray),q<10∧t.size≤s.size+f∧UInt8.ofNat (48+q)::t.data.toList=Lib.decDigits u++s.data.toList∧∀M,f+1≤M→zC (qDH n) M ((u:Int),s)=some ((q:Int),t)
 |f,u,s,h1,h2,h3=>by
  by_cases h:u<10
  ·refine ⟨u,s,h,by omega,by rw [Lib.decDigits,dif_pos h];rfl,fun M hM=>?_⟩
   obtain ⟨M,rfl⟩:∃k,M=k+1:=⟨M-1,by omega⟩
   have hc:¬(u:Int)≥10:=by omega
   rw [qQ (r:=((u:Int),s)) (by simp [qDH,qC,qD,qG,qH,qJ,qK,Option.bind_some,qE,qM,qN,hc])]
  ·cases f with
   |zero=>simp at h1;omega
   |succ f=>
    have e1:Int.tmod (u:Int) 10=((u%10:Nat):Int):=by rw [Int.tmod_eq_emod_of_nonneg (by omega)];omega
    have e2:IntKind.i64.wrap (Int.tdiv (u:Int) 10)=((u/10:Nat):Int):=by
     rw [Int.tdiv_eq_ediv_of_nonneg (by omega),qX (by omega)];omega
    have e3:=u8w (q:=u%10) (by omega)
    have h4:u/10<10^(f+1):=by
     have:10^(f+1+1)=10^(f+1)*10:=Nat.pow_succ 10 (f+1)
     omega
    let d:ByteArray:=⟨#[UInt8.ofNat (48+u%10)]⟩
    have hd:d.size=1:=rfl
    have hs:(d++s).size=s.size+1:=by rw [ByteArray.size_append];omega
    obtain ⟨q,t,g1,g2,g3,g4⟩:=qNs n f (u/10) (d++s) h4 (by omega) (by omega)
    refine ⟨q,t,g1,by omega,?_,fun M hM=>?_⟩
    ·rw [g3,qDF,Lib.decDigits.eq_1 u,dif_neg h]
     simp [d]
    ·obtain ⟨M,rfl⟩:∃k,M=k+1:=⟨M-1,by omega⟩
     have hc:(u:Int)≥10:=by omega
     have hz:d.size+s.size≤9223372036854775807:=by omega
     rw [qc (v':=(((u/10:Nat):Int),d++s)) (by
      simp only [qDH,qC,qD,qG,qH,qJ,qK,Option.bind_some,qE,qM,qN,e1,e2,e3,bytesOf,Option.map_some,Int.toNat_natCast]
      rw [if_pos (by simpa using hc),if_pos (by simp),if_pos (decide_eq_true hz)])]
     exact g4 M (by omega)
theorem qLD (u:Nat) (h:u≤1000000000000000000):∀n,25≤n→qAB n (u:Int)=some (qEH u):=by
 intro n hn
 obtain ⟨m,rfl,hm⟩:=up1 hn
 have p:(10:Nat)^(18+1)=10000000000000000000:=by decide
 obtain ⟨q,t,g1,g2,g3,g4⟩:=qNs m 18 u ⟨#[]⟩ (by omega) (by omega) (by show 0+18≤1000;decide)
 have g4:=g4 m (by omega)
 have e3:=u8w g1
 have hc:¬(u:Int)<0:=by omega
 have hz:(⟨#[UInt8.ofNat (48+q)]⟩:ByteArray).size+t.size≤9223372036854775807:=by
  have g2:t.size≤0+18:=g2
  show 1+t.size≤_
  omega
 simp only [qAB,qFs,qC,qD,qG,qH,qJ,qK,Option.bind_some,qE,qM,qN,g4,e3,bytesOf,Option.map_some,Int.toNat_natCast]
 rw [if_neg (by simp),if_pos (by simp),if_pos (decide_eq_true hz)]
 congr 1
 apply qGs
 rw [qDF]
 have e:Lib.itoa (u:Int)=Lib.decDigits u:=by unfold Lib.itoa;rw [if_neg hc];simp
 show UInt8.ofNat (48+q)::t.data.toList=Lib.itoa (u:Int)
 rw [g3,e]
 simp
theorem qFF (x:Int) (h: -1000000000000000000≤x∧x≤1000000000000000000):Ev (qAB · x) (qEH x):=by
 by_cases hx:x<0
 ·refine ⟨30,fun n hn=>?_⟩
  obtain ⟨m,rfl,hm⟩:=up1 hn
  have e1:IntKind.i64.wrap (0-x)=((x.natAbs:Nat):Int):=by rw [qX (by omega)];omega
  have g:=qLD x.natAbs (by omega) m (by omega)
  have hl:=qJW x.natAbs (by omega)
  have e0:Lib.itoa ((x.natAbs:Nat):Int)=Lib.decDigits x.natAbs:=by unfold Lib.itoa;rw [if_neg (by omega)];simp
  have hz:(⟨#[45]⟩:ByteArray).size+(qEH ((x.natAbs:Nat):Int)).size≤9223372036854775807:=by
   have:(qEH ((x.natAbs:Nat):Int)).size=(Lib.decDigits x.natAbs).length:=by rw [qCu];simp [qEH,e0]
   show 1+_≤_
   omega
  simp only [qAB,qFs,qC,qD,qG,qH,qJ,qK,Option.bind_some,qE,qM,qN,e1,g]
  rw [if_pos (by simpa using hx),if_pos (decide_eq_true hz)]
  congr 1
  apply qGs
  rw [qDF]
  have e:Lib.itoa x=45::Lib.decDigits x.natAbs:=by unfold Lib.itoa;rw [if_pos hx]
  show 45::(Lib.itoa ((x.natAbs:Nat):Int))=Lib.itoa x
  rw [e,e0]
 ·obtain ⟨u,rfl⟩:∃u:Nat,x=u:=⟨x.toNat,by omega⟩
  exact ⟨25,qLD u (by omega)⟩
theorem qPN (x:Int) (h: -9223372036854775808≤x∧x≤9223372036854775807):Ev (qDq · x 10) (qEH x):=by
 refine ⟨1,fun n hn=>?_⟩
 obtain ⟨m,rfl,hm⟩:=up1 hn
 show zZ x 10=_
 unfold zZ
 rw [if_pos ⟨rfl,h⟩]
 rfl
theorem qFd (x:Int) (h: -9223372036854775808≤x∧x≤9223372036854775807):Ev (qBJ · x) (qEH x):=by
 obtain ⟨n1,h1⟩:=qPN x h
 refine ⟨n1+1,fun n hn=>?_⟩
 obtain ⟨m,rfl,hm⟩:=up1 hn
 have h1:=h1 m (by omega)
 dsimp only at h1
 simp only [qBJ,qF6,qC,qD,qG,qH,qJ,qK,Option.bind_some,qE,qM,qN,h1]
theorem qGU (x:Int) (h:0≤x∧x≤5):Ev (qBX · x) (qY x):=by
 refine ⟨1,fun n hn=>?_⟩
 obtain ⟨m,rfl,hm⟩:=up1 hn
 simp only [qBX,qHC,qC,qD,qG,qH,qJ,qK,Option.bind_some,qE,qM,qN]
 rcases lt6 h with rfl|rfl|rfl|rfl|rfl|rfl<;>simp [zp,qY]
theorem qEl (x:Int) (h:0≤x∧x≤5):Ev (qAj · x) (qY x):=by
 refine ⟨1,fun n hn=>?_⟩
 obtain ⟨m,rfl,hm⟩:=up1 hn
 simp only [qAj,qE0,qC,qD,qG,qH,qJ,qK,Option.bind_some,qE,qM,qN]
 rcases lt6 h with rfl|rfl|rfl|rfl|rfl|rfl<;>simp [zp,qY]
theorem qNt (x:Int):Ev (qFE · x) (qPo x):=by
 refine ⟨1,fun n hn=>?_⟩
 obtain ⟨m,rfl,hm⟩:=up1 hn
 simp only [qFE,qHI,qC,qD,qG,qH,qJ,qK,Option.bind_some,qE,qM,qN]
 by_cases h:x=1<;>simp [qPo,h]
theorem qDQ (k x:Int) (s:ByteArray) (hb:s.size≤140737488351232):Ev (qAP · k x s) (if okV k x s=true then q9 k x s else ⟨#[]⟩):=by
 cases ho:okV k x s with
 |false=>
  obtain ⟨n1,h1⟩:=qAF k x s hb
  refine ⟨n1+1,fun n hn=>?_⟩
  obtain ⟨m,rfl,hm⟩:=up1 hn
  have h1:=h1 m (by omega)
  dsimp only at h1
  simp only [qAP,qBS,qC,qD,qG,qH,qJ,qK,Option.bind_some,qE,qM,qN,h1]
  simp [ho]
 |true=>
  by_cases k1:k=1
  ·subst k1
   have:=qQq ho
   obtain ⟨n1,h1⟩:=qAF 1 x s hb
   obtain ⟨n2,h2⟩:=qFF x (by omega)
   refine ⟨n1+n2+1,fun n hn=>?_⟩
   obtain ⟨m,rfl,hm⟩:=up1 hn
   have h1:=h1 m (by omega)
   dsimp only at h1
   have h2:=h2 m (by omega)
   dsimp only at h2
   simp only [qAP,qBS,qC,qD,qG,qH,qJ,qK,Option.bind_some,qE,qM,qN,h1,h2]
   simp [ho,q9]
  ·by_cases k2:k=2
   ·subst k2
    have:=qLC ho
    have hz:(⟨#[39]⟩:ByteArray).size+s.size≤9223372036854775807:=by show 1+s.size≤_;omega
    obtain ⟨n1,h1⟩:=qAF 2 x s hb
    refine ⟨n1+1,fun n hn=>?_⟩
    obtain ⟨m,rfl,hm⟩:=up1 hn
    have h1:=h1 m (by omega)
    dsimp only at h1
    simp only [qAP,qBS,qC,qD,qG,qH,qJ,qK,Option.bind_some,qE,qM,qN,h1]
    simp [ho,q9,hz]
   ·by_cases k3:k=3
    ·subst k3
     obtain ⟨n1,h1⟩:=qAF 3 x s hb
     obtain ⟨n2,h2⟩:=qNt x
     refine ⟨n1+n2+1,fun n hn=>?_⟩
     obtain ⟨m,rfl,hm⟩:=up1 hn
     have h1:=h1 m (by omega)
     dsimp only at h1
     have h2:=h2 m (by omega)
     dsimp only at h2
     simp only [qAP,qBS,qC,qD,qG,qH,qJ,qK,Option.bind_some,qE,qM,qN,h1,h2]
     simp [ho,q9]
    ·by_cases k4:k=4
     ·subst k4
      have:=qOg ho
      obtain ⟨n1,h1⟩:=qAF 4 x s hb
      obtain ⟨n2,h2⟩:=qGU x (by omega)
      refine ⟨n1+n2+1,fun n hn=>?_⟩
      obtain ⟨m,rfl,hm⟩:=up1 hn
      have h1:=h1 m (by omega)
      dsimp only at h1
      have h2:=h2 m (by omega)
      dsimp only at h2
      simp only [qAP,qBS,qC,qD,qG,qH,qJ,qK,Option.bind_some,qE,qM,qN,h1,h2]
      simp [ho,q9]
     ·obtain ⟨n1,h1⟩:=qAF k x s hb
      refine ⟨n1+1,fun n hn=>?_⟩
      obtain ⟨m,rfl,hm⟩:=up1 hn
      have h1:=h1 m (by omega)
      dsimp only at h1
      simp only [qAP,qBS,qC,qD,qG,qH,qJ,qK,Option.bind_some,qE,qM,qN,h1]
      simp [ho,q9,k1,k2,k3,k4]
theorem qEm (k x:Int) (s:ByteArray) (ho:okV k x s=true):Ev (qr · k x s) (q9 k x s):=by
 by_cases k1:k=1
 ·subst k1
  have:=qQq ho
  obtain ⟨n1,h1⟩:=qFd x (by omega)
  refine ⟨n1+1,fun n hn=>?_⟩
  obtain ⟨m,rfl,hm⟩:=up1 hn
  have h1:=h1 m (by omega)
  dsimp only at h1
  simp only [qr,qBn,qC,qD,qG,qH,qJ,qK,Option.bind_some,qE,qM,qN,h1]
  simp [q9]
 ·by_cases k2:k=2
  ·subst k2
   have:=qLC ho
   have hz:(⟨#[39]⟩:ByteArray).size+s.size≤9223372036854775807:=by show 1+s.size≤_;omega
   refine ⟨1,fun n hn=>?_⟩
   obtain ⟨m,rfl,hm⟩:=up1 hn
   simp only [qr,qBn,qC,qD,qG,qH,qJ,qK,Option.bind_some,qE,qM,qN]
   simp [q9,hz]
  ·by_cases k3:k=3
   ·subst k3
    have:=qOf ho
    refine ⟨1,fun n hn=>?_⟩
    obtain ⟨m,rfl,hm⟩:=up1 hn
    simp only [qr,qBn,qC,qD,qG,qH,qJ,qK,Option.bind_some,qE,qM,qN]
    have c:x=0∨x=1:=by omega
    rcases c with rfl|rfl<;>simp [zp,q9,qPo]
   ·by_cases k4:k=4
    ·subst k4
     have:=qOg ho
     obtain ⟨n1,h1⟩:=qEl x (by omega)
     refine ⟨n1+1,fun n hn=>?_⟩
     obtain ⟨m,rfl,hm⟩:=up1 hn
     have h1:=h1 m (by omega)
     dsimp only at h1
     simp only [qr,qBn,qC,qD,qG,qH,qJ,qK,Option.bind_some,qE,qM,qN,h1]
     simp [q9]
    ·refine ⟨1,fun n hn=>?_⟩
     obtain ⟨m,rfl,hm⟩:=up1 hn
     simp only [qr,qBn,qC,qD,qG,qH,qJ,qK,Option.bind_some,qE,qM,qN]
     simp [q9,k1,k2,k3,k4]
theorem qLE (k x:Int) (s:ByteArray) (hb:s.size≤140737488351232):Ev (qBt · k x s) (if okV k x s=true then q9 k x s else ⟨#[]⟩):=by
 cases ho:okV k x s with
 |false=>
  obtain ⟨n1,h1⟩:=qDI k x s hb
  refine ⟨n1+1,fun n hn=>?_⟩
  obtain ⟨m,rfl,hm⟩:=up1 hn
  have h1:=h1 m (by omega)
  dsimp only at h1
  simp only [qBt,qDk,qC,qD,qG,qH,qJ,qK,Option.bind_some,qE,qM,qN,h1]
  simp [ho]
 |true=>
  obtain ⟨n1,h1⟩:=qDI k x s hb
  obtain ⟨n2,h2⟩:=qEm k x s ho
  refine ⟨n1+n2+1,fun n hn=>?_⟩
  obtain ⟨m,rfl,hm⟩:=up1 hn
  have h1:=h1 m (by omega)
  dsimp only at h1
  have h2:=h2 m (by omega)
  dsimp only at h2
  simp only [qBt,qDk,qC,qD,qG,qH,qJ,qK,Option.bind_some,qE,qM,qN,h1,h2]
  simp [ho]
theorem qIZ (x:Int):Ev (qB2 · x) (qBj x):=by
 by_cases h:1≤x∧x≤52
 ·by_cases h26:x≤26
  ·have w1:IntKind.i64.wrap (65+x)=65+x:=qX (by omega)
   have w2:IntKind.i64.wrap (65+x-1)=65+x-1:=qX (by omega)
   have w3:IntKind.u8.wrap (65+x-1)=65+x-1:=qPJ (by omega)
   have e:(65+x-1).toNat=64+x.toNat:=by omega
   obtain ⟨n1,h1⟩:=qAR x 1 52
   refine ⟨n1+1,fun n hn=>?_⟩
   obtain ⟨m,rfl,hm⟩:=up1 hn
   have h1:=h1 m (by omega)
   dsimp only at h1
   simp only [qB2,qDV,qC,qD,qG,qH,qJ,qK,Option.bind_some,qE,qM,qN,h1]
   simp only [w1,w2,w3,bytesOf,Option.map_some,e]
   simp [h,h26,qBj,show ¬x<1 by omega,show ¬52<x by omega]
  ·have w1:IntKind.i64.wrap (x-1)=x-1:=qX (by omega)
   have e1:Int.tdiv (x-1) 26=1:=by rw [Int.tdiv_eq_ediv_of_nonneg (by omega)];omega
   have e2:Int.tmod (x-1) 26=(((x.toNat-1)%26:Nat):Int):=by rw [Int.tmod_eq_emod_of_nonneg (by omega)];omega
   have w2:IntKind.u8.wrap (IntKind.i64.wrap (IntKind.i64.wrap (65+IntKind.i64.wrap 1)-1))=65:=by decide
   have w3:IntKind.i64.wrap (65+(((x.toNat-1)%26:Nat):Int))=65+(((x.toNat-1)%26:Nat):Int):=qX (by omega)
   have w4:IntKind.u8.wrap (65+(((x.toNat-1)%26:Nat):Int))=65+(((x.toNat-1)%26:Nat):Int):=qPJ (by omega)
   have e3:(65+(((x.toNat-1)%26:Nat):Int)).toNat=65+(x.toNat-1)%26:=by omega
   obtain ⟨n1,h1⟩:=qAR x 1 52
   refine ⟨n1+1,fun n hn=>?_⟩
   obtain ⟨m,rfl,hm⟩:=up1 hn
   have h1:=h1 m (by omega)
   dsimp only at h1
   simp only [qB2,qDV,qC,qD,qG,qH,qJ,qK,Option.bind_some,qE,qM,qN,h1]
   simp only [w1,e1,e2,w2,w3,w4,e3,bytesOf,Option.map_some]
   simp [h,h26,qBj,show ¬x<1 by omega,show ¬52<x by omega]
 ·have hx:x<1∨x>52:=by omega
  obtain ⟨n1,h1⟩:=qAR x 1 52
  refine ⟨n1+1,fun n hn=>?_⟩
  obtain ⟨m,rfl,hm⟩:=up1 hn
  have h1:=h1 m (by omega)
  dsimp only at h1
  simp only [qB2,qDV,qC,qD,qG,qH,qJ,qK,Option.bind_some,qE,qM,qN,h1]
  simp [h,qBj,hx]
theorem qOj (n x:Nat) (s:ByteArray) (h:1≤x∧x≤1000) (hs:s.size≤100):(qBY n ((x:Int),s)).run=some (.inl ((((x-1)/26:Nat):Int),(⟨#[UInt8.ofNat (65+(x-1)%26)]⟩:ByteArray)++s)):=by
 have w1:IntKind.i64.wrap ((x:Int)-1)=((x-1:Nat):Int):=by rw [qX (by omega)];omega
 have e1:Int.tdiv ((x-1:Nat):Int) 26=(((x-1)/26:Nat):Int):=by rw [Int.tdiv_eq_ediv_of_nonneg (by omega)];omega
 have e2:Int.tmod ((x-1:Nat):Int) 26=(((x-1)%26:Nat):Int):=by rw [Int.tmod_eq_emod_of_nonneg (by omega)];omega
 have w2:IntKind.i64.wrap (((x-1)/26:Nat):Int)=(((x-1)/26:Nat):Int):=qX (by omega)
 have w3:IntKind.i64.wrap (65+(((x-1)%26:Nat):Int))=65+(((x-1)%26:Nat):Int):=qX (by omega)
 have w4:IntKind.u8.wrap (65+(((x-1)%26:Nat):Int))=65+(((x-1)%26:Nat):Int):=qPJ (by omega)
 have e3:(65+(((x-1)%26:Nat):Int)).toNat=65+(x-1)%26:=by omega
 have hz:(⟨#[UInt8.ofNat (65+(x-1)%26)]⟩:ByteArray).size+s.size≤9223372036854775807:=by show 1+s.size≤_;omega
 have hc:(x:Int)>0:=by omega
 simp only [qBY,qC,qD,qG,qH,qJ,qK,Option.bind_some,qE,qM,qN,w1,e1,e2,w2,w3,w4,e3,bytesOf,Option.map_some]
 rw [if_pos (decide_eq_true hc),if_pos (by simp),if_pos (decide_eq_true hz)]
theorem qPr (n:Nat) (s:ByteArray):(qBY n (((0:Nat):Int),s)).run=some (.inr s):=by
 simp [qBY,qC,qD,qG,qH,qJ,qK,Option.bind_some,qE,qM,qN]
theorem qIa (x:Int):Ev (qCw · x) (qBj x):=by
 by_cases h:1≤x∧x≤52
 ·obtain ⟨n1,h1⟩:=qCl x 1 52
  refine ⟨n1+10,fun n hn=>?_⟩
  obtain ⟨m,rfl,hm⟩:=up1 hn
  have h1:=h1 m (by omega)
  dsimp only at h1
  obtain ⟨u,rfl⟩:∃u:Nat,x=u:=⟨x.toNat,by omega⟩
  obtain ⟨M,hM⟩:∃M,m=M+3:=⟨m-3,by omega⟩
  have key:zC (qBY m) m ((u:Int),(⟨#[]⟩:ByteArray))=some (qBj u):=by
   rw [hM,qc (qOj _ u ⟨#[]⟩ (by omega) (by decide))]
   by_cases h26:u≤26
   ·have e:(u-1)/26=0:=by omega
    have e2:65+(u-1)%26=64+u:=by omega
    rw [e,qQ (qPr _ _),e2]
    congr 1
    apply qGs
    rw [qDF]
    simp [qBj,show ¬(u:Int)<1 by omega,show ¬(52:Int)<u by omega,show (u:Int)≤26 by omega]
   ·have e:(u-1)/26=1:=by omega
    have e4:(⟨#[UInt8.ofNat (65+(u-1)%26)]⟩++(⟨#[]⟩:ByteArray)).size≤100:=by rw [ByteArray.size_append];show 1+0≤100;decide
    rw [e,qc (qOj _ 1 _ (by decide) e4)]
    have e3:(1-1)/26=0:=by decide
    rw [e3,qQ (qPr _ _)]
    congr 1
    apply qGs
    rw [qDF,qDF]
    simp [qBj,show ¬(u:Int)<1 by omega,show ¬(52:Int)<u by omega,show ¬(u:Int)≤26 by omega]
  simp only [qCw,qES,qC,qD,qG,qH,qJ,qK,Option.bind_some,qE,qM,qN,h1,key]
  simp [h]
 ·have hx:x<1∨x>52:=by omega
  obtain ⟨n1,h1⟩:=qCl x 1 52
  refine ⟨n1+1,fun n hn=>?_⟩
  obtain ⟨m,rfl,hm⟩:=up1 hn
  have h1:=h1 m (by omega)
  dsimp only at h1
  simp only [qCw,qES,qC,qD,qG,qH,qJ,qK,Option.bind_some,qE,qM,qN,h1]
  simp [h,qBj,hx]
theorem qB5 (c r:Int) (fc fr:Bool):Ev (qh · c r fc fr) (qAT c r fc fr):=by
 cases ho:qAx c r with
 |false=>
  obtain ⟨n1,h1⟩:=qDL c r
  refine ⟨n1+1,fun n hn=>?_⟩
  obtain ⟨m,rfl,hm⟩:=up1 hn
  have h1:=h1 m (by omega)
  dsimp only at h1
  simp only [qh,qDf,qC,qD,qG,qH,qJ,qK,Option.bind_some,qE,qM,qN,h1]
  simp [ho,qAT]
 |true=>
  have h:=qEk ho
  have s1:=qML c
  have s2:=qKg h.2
  have d1:(⟨#[36]⟩:ByteArray).size=1:=rfl
  have z1:(⟨#[36]⟩:ByteArray).size+(qBj c).size≤9223372036854775807:=by omega
  have z2:((⟨#[36]⟩:ByteArray)++qBj c).size+(⟨#[36]⟩:ByteArray).size≤9223372036854775807:=by rw [ByteArray.size_append];omega
  have z3:(((⟨#[36]⟩:ByteArray)++qBj c)++(⟨#[36]⟩:ByteArray)).size+(qEH r).size≤9223372036854775807:=by rw [ByteArray.size_append,ByteArray.size_append];omega
  have z4:((⟨#[36]⟩:ByteArray)++qBj c).size+(qEH r).size≤9223372036854775807:=by rw [ByteArray.size_append];omega
  have z5:(qBj c).size+(⟨#[36]⟩:ByteArray).size≤9223372036854775807:=by omega
  have z6:(qBj c++(⟨#[36]⟩:ByteArray)).size+(qEH r).size≤9223372036854775807:=by rw [ByteArray.size_append];omega
  have z7:(qBj c).size+(qEH r).size≤9223372036854775807:=by omega
  obtain ⟨n1,h1⟩:=qDL c r
  obtain ⟨n2,h2⟩:=qIa c
  obtain ⟨n3,h3⟩:=qFF r (by omega)
  refine ⟨n1+n2+n3+1,fun n hn=>?_⟩
  obtain ⟨m,rfl,hm⟩:=up1 hn
  have h1:=h1 m (by omega)
  dsimp only at h1
  have h2:=h2 m (by omega)
  dsimp only at h2
  have h3:=h3 m (by omega)
  dsimp only at h3
  simp only [qh,qDf,qC,qD,qG,qH,qJ,qK,Option.bind_some,qE,qM,qN,h1,h2,h3]
  simp only [ho,decide_eq_true z1,decide_eq_true z2,decide_eq_true z3,decide_eq_true z4,decide_eq_true z5,decide_eq_true z6,decide_eq_true z7,if_true,Bool.not_true,Bool.false_eq_true,if_false]
  cases fc<;>cases fr<;>simp only [if_true,if_false,Bool.false_eq_true,Option.some.injEq]<;>apply qGs<;>simp [qAT,ho,qDF]
theorem qDR (c r:Int) (fc fr:Bool):Ev (qA9 · c r fc fr) (qAT c r fc fr):=by
 cases ho:qAx c r with
 |false=>
  obtain ⟨n1,h1⟩:=qDy c r
  refine ⟨n1+1,fun n hn=>?_⟩
  obtain ⟨m,rfl,hm⟩:=up1 hn
  have h1:=h1 m (by omega)
  dsimp only at h1
  simp only [qA9,qDi,qC,qD,qG,qH,qJ,qK,Option.bind_some,qE,qM,qN,h1]
  simp [ho,qAT]
 |true=>
  have h:=qEk ho
  have s1:=qML c
  have s2:=qKg h.2
  have d1:(⟨#[36]⟩:ByteArray).size=1:=rfl
  have d0:(⟨#[]⟩:ByteArray).size=0:=rfl
  have z1:(⟨#[36]⟩:ByteArray).size+(qBj c).size≤9223372036854775807:=by omega
  have z2:((⟨#[36]⟩:ByteArray)++qBj c).size+(⟨#[36]⟩:ByteArray).size≤9223372036854775807:=by rw [ByteArray.size_append];omega
  have z3:(((⟨#[36]⟩:ByteArray)++qBj c)++(⟨#[36]⟩:ByteArray)).size+(qEH r).size≤9223372036854775807:=by rw [ByteArray.size_append,ByteArray.size_append];omega
  have z4:((⟨#[36]⟩:ByteArray)++qBj c).size+(qEH r).size≤9223372036854775807:=by rw [ByteArray.size_append];omega
  have y1:(⟨#[]⟩:ByteArray).size+(qBj c).size≤9223372036854775807:=by omega
  have y2:((⟨#[]⟩:ByteArray)++qBj c).size+(⟨#[36]⟩:ByteArray).size≤9223372036854775807:=by rw [ByteArray.size_append];omega
  have y3:(((⟨#[]⟩:ByteArray)++qBj c)++(⟨#[36]⟩:ByteArray)).size+(qEH r).size≤9223372036854775807:=by rw [ByteArray.size_append,ByteArray.size_append];omega
  have y4:((⟨#[]⟩:ByteArray)++qBj c).size+(qEH r).size≤9223372036854775807:=by rw [ByteArray.size_append];omega
  obtain ⟨n1,h1⟩:=qDy c r
  obtain ⟨n2,h2⟩:=qIZ c
  obtain ⟨n3,h3⟩:=qFd r (by omega)
  refine ⟨n1+n2+n3+1,fun n hn=>?_⟩
  obtain ⟨m,rfl,hm⟩:=up1 hn
  have h1:=h1 m (by omega)
  dsimp only at h1
  have h2:=h2 m (by omega)
  dsimp only at h2
  have h3:=h3 m (by omega)
  dsimp only at h3
  simp only [qA9,qDi,qC,qD,qG,qH,qJ,qK,Option.bind_some,qE,qM,qN,h1,h2,h3]
  simp only [ho,decide_eq_true z1,decide_eq_true z2,decide_eq_true z3,decide_eq_true z4,decide_eq_true y1,decide_eq_true y2,decide_eq_true y3,decide_eq_true y4,if_true,Bool.not_true,Bool.false_eq_true,if_false]
  cases fc<;>cases fr<;>simp only [if_true,if_false,Bool.false_eq_true,Option.some.injEq]<;>apply qGs<;>simp [qAT,ho,qDF]
theorem qNu (n:Nat) (s:ByteArray):∀(r pre:List UInt8) (acc M:Nat),s.toList=pre++r→acc<10^pre.length→pre.length+r.length≤17→r.length+1≤M→
  zC (qBh n) M (s,(acc:Int),(pre.length:Int))=some (if r.all qAe=true then .inr ((qAg acc r:Nat):Int) else .inl (0,false))
 |r,pre,acc,0,h1,h2,h3,h4=>by omega
 | [],pre,acc,M+1,h1,h2,h3,h4=>by
  have hs:s.size=pre.length:=by rw [←qAK,h1];simp
  rw [qQ (r:= .inr (acc:Int)) (by simp [qBh,qC,qD,qG,qH,qJ,qK,Option.bind_some,qE,qM,qN,hs])]
  simp [qGT]
 |c::r,pre,acc,M+1,h1,h2,h3,h4=>by
  have hs:s.size=pre.length+(r.length+1):=by rw [←qAK,h1];simp
  have hi:(pre.length:Int)<s.size:=by omega
  have hg:s.toList[pre.length]?=some c:=by rw [h1];simp
  simp only [List.length_cons] at h3 h4
  by_cases c1:(c.toNat:Int)<48
  ·rw [qQ (r:= .inl (0,false)) (by simp [qBh,qC,qD,qG,qH,qJ,qK,Option.bind_some,qE,qM,qN,hi,hg,c1])]
   have:qAe c=false:=by simp [qAe];omega
   simp [this]
  ·by_cases c2:(c.toNat:Int)>57
   ·rw [qQ (r:= .inl (0,false)) (by simp [qBh,qC,qD,qG,qH,qJ,qK,Option.bind_some,qE,qM,qN,hi,hg,c1,c2])]
    have:qAe c=false:=by simp [qAe];omega
    simp [this]
   ·have hc:qAe c=true:=by simp [qAe];omega
    have hp:10^pre.length≤10^16:=Nat.pow_le_pow_right (by decide) (by omega)
    have p16:(10:Nat)^16=10000000000000000:=by decide
    have w1:IntKind.i64.wrap ((acc:Int)*10)=(acc:Int)*10:=qX (by omega)
    have w2:IntKind.u8.wrap ((c.toNat:Int)-48)=((c.toNat-48:Nat):Int):=by rw [qPJ (by omega)];omega
    have w3:IntKind.i64.wrap ((c.toNat-48:Nat):Int)=((c.toNat-48:Nat):Int):=qX (by omega)
    have w4:IntKind.i64.wrap ((acc:Int)*10+((c.toNat-48:Nat):Int))=((acc*10+(c.toNat-48):Nat):Int):=by rw [qX (by omega)];omega
    have w5:IntKind.i64.wrap ((pre.length:Int)+1)=(pre.length:Int)+1:=qX (by omega)
    have e0:((pre++ [c]).length:Int)=(pre.length:Int)+1:=by simp
    rw [qc (v':=(s,((acc*10+(c.toNat-48):Nat):Int),((pre++ [c]).length:Int))) (by
     rw [e0]
     simp [qBh,qC,qD,qG,qH,qJ,qK,Option.bind_some,qE,qM,qN,hi,hg,c1,c2,w1,w2,w3,w4,w5])]
    rw [qNu n s r (pre++ [c]) (acc*10+(c.toNat-48)) M (by rw [h1];simp) (by rw [List.length_append,List.length_singleton,Nat.pow_succ];omega) (by simp;omega) (by omega)]
    simp [hc,qDl]
theorem qD0 (s:ByteArray) (most:Int) (hm:most≤16):Ev (qx · s most) (l1I s.toList most):=by
 have hsz:s.size=s.toList.length:=(qAK s).symm
 by_cases h0:s.toList= []
 ·have hz:s.size=0:=by rw [hsz,h0];rfl
  refine ⟨1,fun n hn=>?_⟩
  obtain ⟨m,rfl,hm⟩:=up1 hn
  simp only [qx,qEf,qC,qD,qG,qH,qJ,qK,Option.bind_some,qE,qM,qN]
  simp [hz,h0,l1I,qFm]
 ·obtain ⟨c,r,hcr⟩:∃c r,s.toList=c::r:=by
   cases hq:s.toList with
   |nil=>exact absurd hq h0
   |cons a b=>exact ⟨a,b,rfl⟩
  have hl:s.size=r.length+1:=by rw [hsz,hcr];rfl
  have z1:¬(s.size:Int)<1:=by omega
  by_cases h1:(s.size:Int)>most
  ·refine ⟨1,fun n hn=>?_⟩
   obtain ⟨m,rfl,hm⟩:=up1 hn
   simp only [qx,qEf,qC,qD,qG,qH,qJ,qK,Option.bind_some,qE,qM,qN]
   have:¬((s.toList.length:Int)≤most):=by rw [←hsz];omega
   simp [z1,h1,l1I,this]
  ·have hle:(s.toList.length:Int)≤most:=by rw [←hsz];omega
   refine ⟨30,fun n hn=>?_⟩
   obtain ⟨m,rfl,hm'⟩:=up1 hn
   have hg:s.toList[0]?=some c:=by rw [hcr];rfl
   have lp:=qNu m s s.toList [] 0 m rfl (by decide) (by simp;omega) (by omega)
   simp only [List.length_nil,Int.natCast_zero] at lp
   have c48:((c.toNat:Int)==48)=(c==48):=by
    by_cases e:c=48
    ·subst e;rfl
    ·have:¬(c.toNat:Int)=48:=fun h=>e (UInt8.toNat_inj.1 (by show c.toNat=48;omega))
     rw [beq_eq_false_iff_ne.2 this,beq_eq_false_iff_ne.2 e]
   simp only [qx,qEf,qC,qD,qG,qH,qJ,qK,Option.bind_some,qE,qM,qN,lp,Int.toNat_zero,hg,c48]
   rw [if_neg (by simpa using z1),if_neg (by simpa using h1),if_pos (by simp)]
   have ne:(s.toList== [])=false:=by simpa using h0
   have hd:s.toList.head?=some c:=by rw [hcr];rfl
   by_cases hc:c=48
   ·subst hc
    by_cases h2:(s.size:Int)>1
    ·have:¬s.toList.length=1:=by omega
     simp [h2,l1I,qFm,hd,this]
    ·have:s.toList.length=1:=by omega
     cases hall:s.toList.all qAe<;>simp [h2,l1I,qFm,hd,this,hall,ne,hle,qC,qD,qG,qH,qJ,qK,Option.bind_some,qE,qM,qN]
     ·omega
   ·have:(some c==some 48)=false:=by simpa using hc
    cases hall:s.toList.all qAe<;>simp [hc,l1I,qFm,hd,this,hall,ne,hle,qC,qD,qG,qH,qJ,qK,Option.bind_some,qE,qM,qN]
theorem qMd (s:ByteArray) (h:s.size≤281474976710656):Ev (qA4 · s 10 64) (.inl (qBu s))∨Ev (qA4 · s 10 64) (.inr (qBu s)):=by
 have key:∃r,zK s 10 64=some r:=by
  unfold zK
  rw [if_pos ⟨rfl,rfl,h⟩]
  split<;>exact ⟨_,rfl⟩
 obtain ⟨r,hr⟩:=key
 have e:Ev (qA4 · s 10 64) r:=⟨1,fun n hn=>by
  obtain ⟨m,rfl,hm⟩:=up1 hn
  exact hr⟩
 rcases r with v|v
 ·exact .inl (by unfold qBu;rw [hr];exact e)
 ·exact .inr (by unfold qBu;rw [hr];exact e)
theorem qFt (s:ByteArray) (c:UInt8):Ev (qAG · s ⟨#[c]⟩) (if s.toList.head?=some c then (⟨s.toList.tail.toArray⟩,true) else (s,false)):=by
 refine ⟨1,fun n hn=>?_⟩
 obtain ⟨m,rfl,hm⟩:=up1 hn
 show zT s ⟨#[c]⟩=_
 unfold zT Lib.trimPrefix Lib.hasPrefix
 rw [←Go.Lib.toList_data s]
 have es:(⟨s.toList.toArray⟩:ByteArray)=s:=qGs (by rw [←Go.Lib.toList_data s])
 generalize s.toList=l at*
 cases l with
 |nil=>simp [es]
 |cons a r=>
  by_cases h:a=c
  ·subst h;simp
  ·have:¬c=a:=fun e=>h e.symm
   simp [h,this,es,List.isPrefixOf]
theorem qPO (s:ByteArray) (c:UInt8):Ev (qn · s ⟨#[c]⟩) (s.toList.head?==some c):=by
 refine ⟨2,fun n hn=>?_⟩
 obtain ⟨m,rfl,hm⟩:=up1 hn
 obtain ⟨m,rfl,hm⟩:=up1 hm
 have z:(⟨#[c]⟩:ByteArray).size=1:=rfl
 have tc:(⟨#[c]⟩:ByteArray).toList= [c]:=by rw [Go.Lib.toList_data]
 have hsz:s.size=s.toList.length:=(qAK s).symm
 simp only [qn,qB9,qAC,qAw,qC,qD,qG,qH,qJ,qK,Option.bind_some,qE,qM,qN,z,tc]
 cases hq:s.toList with
 |nil=>
  have:s.size=0:=by rw [hsz,hq];rfl
  simp [this]
 |cons a r=>
  have h1:(1:Int)≤s.size:=by rw [hsz,hq];simp;omega
  have e:(s.extract 0 1).toList= [a]:=by
   rw [Go.Lib.toList_data,ByteArray.data_extract,Array.toList_extract]
   rw [Go.Lib.toList_data] at hq
   simp [hq]
  have h2:1≤s.size:=by omega
  simp [h1,h2,e]
theorem qPP (n:Nat) (s:ByteArray) (a b:Int) (c:ByteArray) (i:Int) (v:V3) (hi:1≤i∧i≤5) (h1:qAj n i=some (qY i)) (h2:qBy n i=some (4,i,em)):
  (qBI n (s,i,a,b,c,v.1,v.2.1,v.2.2)).run=some (.inl (s,i+1,a,b,c,if (qY i).toList=s.toList then (4,i,em) else v)):=by
 have w1:IntKind.i64.wrap (i+1)=i+1:=qX (by omega)
 simp only [qBI,qC,qD,qG,qH,qJ,qK,Option.bind_some,qE,qM,qN,h1,h2,w1]
 rw [if_pos (decide_eq_true hi.2)]
 by_cases h:(qY i).toList=s.toList<;>simp [h]
def qKh (s:ByteArray):Nat→Int→V3→V3
 |0,_,v=>v
 |k+1,i,v=>qKh s k (i+1) (if (qY i).toList=s.toList then (4,i,em) else v)
theorem qRa (s:ByteArray):qKh s 5 1 (0,0,em)=if qDz s=0 then (0,0,em) else (4,qDz s,em):=by
 have a2:(1:Int)+1=2:=by decide
 have a3:(2:Int)+1=3:=by decide
 have a4:(3:Int)+1=4:=by decide
 have a5:(4:Int)+1=5:=by decide
 simp only [qKh,qDz,a2,a3,a4,a5]
 by_cases h5:(qY 5).toList=s.toList
 ·simp [h5]
 by_cases h4:(qY 4).toList=s.toList
 ·simp [h5,h4]
 by_cases h3:(qY 3).toList=s.toList
 ·simp [h5,h4,h3]
 by_cases h2:(qY 2).toList=s.toList
 ·simp [h5,h4,h3,h2]
 by_cases h1:(qY 1).toList=s.toList<;>simp [h5,h4,h3,h2,h1]
theorem qLF (n:Nat) (s:ByteArray) (a b:Int) (c:ByteArray) (h1:∀i,0≤i∧i≤5→qAj n i=some (qY i)) (h2:∀i,1≤i∧i≤5→qBy n i=some (4,i,em)):
  ∀(k:Nat) (i:Int) (v:V3) (M:Nat),i+k=6→1≤i→k+1≤M→zC (qBI n) M (s,i,a,b,c,v.1,v.2.1,v.2.2)=some (s,a,b,c,(qKh s k i v).1,(qKh s k i v).2.1,(qKh s k i v).2.2)
 |k,i,v,0,e,h,hM=>by omega
 |0,i,v,M+1,e,h,hM=>by
  have hi:¬i≤5:=by omega
  rw [qQ (r:=(s,a,b,c,v.1,v.2.1,v.2.2)) (by simp [qBI,qC,qD,qG,qH,qJ,qK,Option.bind_some,qE,qM,qN,hi])]
  rfl
 |k+1,i,v,M+1,e,h,hM=>by
  rw [qc (qPP n s a b c i v (by omega) (h1 i (by omega)) (h2 i (by omega)))]
  exact qLF n s a b c h1 h2 k (i+1) _ M (by omega) (by omega) (by omega)
theorem qOk:okV 0 0 em=true:=by simp [okV,em,qk]
theorem qMe:q9 0 0 em=⟨#[]⟩:=rfl
theorem qFu {R:Type} {F:Nat→Int→Option R} {f:Int→R} {lo:Int} (h0:0≤lo) (h:∀i,lo≤i∧i≤5→Ev (F · i) (f i)):∃n0,∀n,n0≤n→∀i,lo≤i∧i≤5→F n i=some (f i):=by
 obtain ⟨n0,h1⟩:=qCk (F:=fun i n=>if lo≤i∧i≤5 then F n i else some (f i)) (f:=f) [0,1,2,3,4,5] (fun i _=>by
  by_cases hi:lo≤i∧i≤5
  ·obtain ⟨n0,h1⟩:=h i hi
   exact ⟨n0,fun n hn=>by simp only [if_pos hi];exact h1 n hn⟩
  ·exact ⟨0,fun n _=>by simp only [if_neg hi]⟩)
 refine ⟨n0,fun n hn i hi=>?_⟩
 have:=h1 n hn i (by
  have c:i=0∨i=1∨i=2∨i=3∨i=4∨i=5:=by omega
  rcases c with rfl|rfl|rfl|rfl|rfl|rfl<;>simp)
 simp only [if_pos hi] at this
 exact this
theorem qEn (s:ByteArray) (hb:s.size≤1048576):Ev (qZ · s) (qj s):=by
 have te:(⟨#[]⟩:ByteArray).toList= []:=qk
 have tF:(⟨#[70,65,76,83,69]⟩:ByteArray).toList= [70,65,76,83,69]:=by rw [Go.Lib.toList_data]
 have tT:(⟨#[84,82,85,69]⟩:ByteArray).toList= [84,82,85,69]:=by rw [Go.Lib.toList_data]
 have fin:∀k x (t:ByteArray),qAy s=(k,x,t)→t.size≤140737488351232→∃n0,∀n,n0≤n→qAJ n k x t=some (okV k x t)∧(okV k x t=true→qr n k x t=some (q9 k x t)):=fun k x t _ ht=>by
  obtain ⟨n1,h1⟩:=qDI k x t ht
  by_cases ho:okV k x t=true
  ·obtain ⟨n2,h2⟩:=qEm k x t ho
   exact ⟨n1+n2,fun n hn=>⟨h1 n (by omega),fun _=>h2 n (by omega)⟩⟩
  ·exact ⟨n1,fun n hn=>⟨h1 n hn,fun h=>absurd h ho⟩⟩
 have rd:∀k x (t:ByteArray),qAy s=(k,x,t)→qj s=if okV k x t=true∧(q9 k x t).toList=s.toList then (k,x,t,true) else (0,0,⟨#[]⟩,false):=fun k x t h=>by unfold qj;rw [h]
 by_cases h39:s.toList.head?=some 39
 ·have hc:qAy s=(2,0,⟨s.toList.tail.toArray⟩):=by unfold qAy;rw [if_pos h39]
  have hsz:(⟨s.toList.tail.toArray⟩:ByteArray).size≤140737488351232:=by rw [qCu];simp only [List.length_tail];rw [qAK];omega
  obtain ⟨n0,hf⟩:=fin _ _ _ hc hsz
  rw [rd _ _ _ hc]
  obtain ⟨n1,h1⟩:=qFt s 39
  refine ⟨n0+n1+1,fun n hn=>?_⟩
  obtain ⟨m,rfl,hm⟩:=up1 hn
  have h1:=h1 m (by omega)
  obtain ⟨g1,g2⟩:=hf m (by omega)
  dsimp only at h1
  simp only [qZ,qBR,qC,qD,qG,qH,qJ,qK,Option.bind_some,qE,qM,qN,h1,if_pos h39,g1]
  cases ho:okV 2 0 (⟨s.toList.tail.toArray⟩:ByteArray) with
  |false=>simp
  |true=>
   simp only [g2 ho]
   by_cases e:(q9 2 0 (⟨s.toList.tail.toArray⟩:ByteArray)).toList=s.toList<;>simp [e]
 ·have cut:=qFt s 39
  rw [if_neg h39] at cut
  by_cases hF:s.toList= [70,65,76,83,69]
  ·have hc:qAy s=(3,0,em):=by unfold qAy;rw [if_neg h39,if_pos hF]
   have hT:¬s.toList= [84,82,85,69]:=by rw [hF];decide
   obtain ⟨n0,hf⟩:=fin _ _ _ hc (by decide)
   rw [rd _ _ _ hc]
   obtain ⟨n1,h1⟩:=cut
   obtain ⟨n2,h2⟩:=qJ8 false
   refine ⟨n0+n1+n2+1,fun n hn=>?_⟩
   obtain ⟨m,rfl,hm⟩:=up1 hn
   have h1:=h1 m (by omega)
   have h2:=h2 m (by omega)
   obtain ⟨g1,g2⟩:=hf m (by omega)
   dsimp only at h1 h2
   simp only [Bool.false_eq_true,if_false] at h2
   have bT:(s.toList== [84,82,85,69])=false:=by simpa using hT
   have bF:(s.toList== [70,65,76,83,69])=true:=by simpa using hF
   simp only [qZ,qBR,qC,qD,qG,qH,qJ,qK,Option.bind_some,qE,qM,qN,h1,tF,tT,bT,bF,h2,g1]
   cases ho:okV 3 0 em with
   |false=>simp
   |true=>
    simp only [g2 ho]
    by_cases e:(q9 3 0 em).toList=s.toList<;>simp [e]
  ·by_cases hT:s.toList= [84,82,85,69]
   ·have hc:qAy s=(3,1,em):=by unfold qAy;rw [if_neg h39,if_neg hF,if_pos hT]
    obtain ⟨n0,hf⟩:=fin _ _ _ hc (by decide)
    rw [rd _ _ _ hc]
    obtain ⟨n1,h1⟩:=cut
    obtain ⟨n2,h2⟩:=qJ8 true
    refine ⟨n0+n1+n2+1,fun n hn=>?_⟩
    obtain ⟨m,rfl,hm⟩:=up1 hn
    have h1:=h1 m (by omega)
    have h2:=h2 m (by omega)
    obtain ⟨g1,g2⟩:=hf m (by omega)
    dsimp only at h1 h2
    simp only [if_true] at h2
    have bT:(s.toList== [84,82,85,69])=true:=by simpa using hT
    have bF:(s.toList== [70,65,76,83,69])=false:=by simpa using hF
    simp only [qZ,qBR,qC,qD,qG,qH,qJ,qK,Option.bind_some,qE,qM,qN,h1,tF,tT,bT,bF,h2,g1]
    cases ho:okV 3 1 em with
    |false=>simp
    |true=>
     simp only [g2 ho]
     by_cases e:(q9 3 1 em).toList=s.toList<;>simp [e]
   ·have bT:(s.toList== [84,82,85,69])=false:=by simpa using hT
    have bF:(s.toList== [70,65,76,83,69])=false:=by simpa using hF
    have pre:=qPO s 35
    by_cases h35:s.toList.head?=some 35
    ·have hc:qAy s=(if qDz s=0 then (0,0,em) else (4,qDz s,em)):=by unfold qAy;rw [if_neg h39,if_neg hF,if_neg hT,if_pos h35]
     have main:∀k x (t:ByteArray),qAy s=(k,x,t)→qKh s 5 1 (0,0,em)=(k,x,t)→t.size≤140737488351232→Ev (qZ · s) (qj s):=fun k x t hc hu ht=>by
      obtain ⟨n0,hf⟩:=fin _ _ _ hc ht
      rw [rd _ _ _ hc]
      obtain ⟨n1,h1⟩:=cut
      obtain ⟨n2,h2⟩:=pre
      obtain ⟨n3,h3⟩:=qFu (F:=qAj) (f:=qY) (lo:=0) (by decide) qEl
      obtain ⟨n4,h4⟩:=qFu (F:=qBy) (f:=fun i=>(4,i,em)) (lo:=1) (by decide) (fun i _=>qJ7 i)
      refine ⟨n0+n1+n2+n3+n4+10,fun n hn=>?_⟩
      obtain ⟨m,rfl,hm⟩:=up1 hn
      have h1:=h1 m (by omega)
      have h2:=h2 m (by omega)
      have lp:=qLF m s 0 0 ⟨#[]⟩ (h3 m (by omega)) (h4 m (by omega)) 5 1 (0,0,em) m (by decide) (by decide) (by omega)
      rw [hu] at lp
      obtain ⟨g1,g2⟩:=hf m (by omega)
      dsimp only [em] at h1 h2 lp g1 g2
      have b35:(s.toList.head?==some 35)=true:=by simpa using h35
      simp only [qZ,qBR,qC,qD,qG,qH,qJ,qK,Option.bind_some,qE,qM,qN,h1,tF,tT,bT,bF,h2,b35,lp,g1]
      cases ho:okV k x t with
      |false=>simp
      |true=>
       simp only [g2 ho]
       by_cases e:(q9 k x t).toList=s.toList<;>simp [e]
     by_cases hz:qDz s=0
     ·rw [if_pos hz] at hc
      exact main _ _ _ hc (by rw [qRa,if_pos hz]) (show (0:Nat)≤140737488351232 by decide)
     ·rw [if_neg hz] at hc
      exact main _ _ _ hc (by rw [qRa,if_neg hz]) (show (0:Nat)≤140737488351232 by decide)
    ·have b35:(s.toList.head?==some 35)=false:=by simpa using h35
     by_cases h0:s.toList= []
     ·have hc:qAy s=(0,0,em):=by unfold qAy;rw [if_neg h39,if_neg hF,if_neg hT,if_neg h35,if_pos h0]
      obtain ⟨n0,hf⟩:=fin _ _ _ hc (by decide)
      rw [rd _ _ _ hc]
      obtain ⟨n1,h1⟩:=cut
      obtain ⟨n2,h2⟩:=pre
      refine ⟨n0+n1+n2+1,fun n hn=>?_⟩
      obtain ⟨m,rfl,hm⟩:=up1 hn
      have h1:=h1 m (by omega)
      have h2:=h2 m (by omega)
      obtain ⟨g1,g2⟩:=hf m (by omega)
      dsimp only [em] at h1 h2 g1 g2
      have b0:(!(s.toList== []))=false:=by simpa using h0
      simp only [qZ,qBR,qC,qD,qG,qH,qJ,qK,Option.bind_some,qE,qM,qN,h1,tF,tT,bT,bF,h2,b35,te,b0,g1]
      have ho:=qOk
      dsimp only [em] at ho
      simp only [g2 ho,ho]
      by_cases e:(q9 0 0 (⟨#[]⟩:ByteArray)).toList=s.toList<;>simp [em,ho,e]
     ·have hc:qAy s=(1,qBu s,em):=by unfold qAy;rw [if_neg h39,if_neg hF,if_neg hT,if_neg h35,if_neg h0]
      obtain ⟨n0,hf⟩:=fin _ _ _ hc (by decide)
      rw [rd _ _ _ hc]
      obtain ⟨n1,h1⟩:=cut
      obtain ⟨n2,h2⟩:=pre
      obtain ⟨n4,h4⟩:=qJE (qBu s)
      have b0:(!(s.toList== []))=true:=by simpa using h0
      rcases qMd s (by omega) with ⟨n3,h3⟩|⟨n3,h3⟩
      all_goals
       refine ⟨n0+n1+n2+n3+n4+1,fun n hn=>?_⟩
       obtain ⟨m,rfl,hm⟩:=up1 hn
       have h1:=h1 m (by omega)
       have h2:=h2 m (by omega)
       have h3:=h3 m (by omega)
       have h4:=h4 m (by omega)
       obtain ⟨g1,g2⟩:=hf m (by omega)
       dsimp only at h1 h2 h3 h4
       simp only [qZ,qBR,qC,qD,qG,qH,qJ,qK,Option.bind_some,qE,qM,qN,h1,tF,tT,bT,bF,h2,b35,te,b0,h3,h4,g1]
       cases ho:okV 1 (qBu s) em with
       |false=>simp
       |true=>
        simp only [g2 ho]
        by_cases e:(q9 1 (qBu s) em).toList=s.toList<;>simp [e]
theorem qLG (n:Nat) (s:ByteArray) (a b:Int) (c:ByteArray) (h1:∀i,0≤i∧i≤5→qBX n i=some (qY i)):
  ∀(k:Nat) (i x:Int) (M:Nat),i+k=6→1≤i→k+1≤M→(qKh s k i (4,x,em)).1=4∧(qKh s k i (4,x,em)).2.2=em∧zC (qBb n) M (s,i,a,b,c,4,x,⟨#[]⟩)=some (a,b,c,4,(qKh s k i (4,x,em)).2.1,⟨#[]⟩)
 |k,i,x,0,e,h,hM=>by omega
 |0,i,x,M+1,e,h,hM=>by
  have hi:¬i≤5:=by omega
  refine ⟨rfl,rfl,?_⟩
  rw [qQ (r:=(a,b,c,4,x,⟨#[]⟩)) (by simp [qBb,qC,qD,qG,qH,qJ,qK,Option.bind_some,qE,qM,qN,hi])]
  rfl
 |k+1,i,x,M+1,e,h,hM=>by
  have hi:i≤5:=by omega
  have g:=h1 i (by omega)
  have w1:IntKind.i64.wrap (i+1)=i+1:=qX (by omega)
  have hu:qKh s (k+1) i (4,x,em)=qKh s k (i+1) (4,if (qY i).toList=s.toList then i else x,em):=by
   simp only [qKh]
   split<;>rfl
  rw [hu,qc (v':=(s,i+1,a,b,c,4,(if (qY i).toList=s.toList then i else x),⟨#[]⟩)) (by
   simp only [qBb,qC,qD,qG,qH,qJ,qK,Option.bind_some,qE,qM,qN,g,w1]
   rw [if_pos (decide_eq_true hi)]
   by_cases hq:(qY i).toList=s.toList<;>simp [hq])]
  exact qLG n s a b c h1 k (i+1) _ M (by omega) (by omega) (by omega)
theorem qSL (s:ByteArray):qKh s 5 1 (4,0,em)=(4,qDz s,em):=by
 have a2:(1:Int)+1=2:=by decide
 have a3:(2:Int)+1=3:=by decide
 have a4:(3:Int)+1=4:=by decide
 have a5:(4:Int)+1=5:=by decide
 simp only [qKh,qDz,a2,a3,a4,a5]
 by_cases h5:(qY 5).toList=s.toList
 ·simp [h5]
 by_cases h4:(qY 4).toList=s.toList
 ·simp [h5,h4]
 by_cases h3:(qY 3).toList=s.toList
 ·simp [h5,h4,h3]
 by_cases h2:(qY 2).toList=s.toList
 ·simp [h5,h4,h3,h2]
 by_cases h1:(qY 1).toList=s.toList<;>simp [h5,h4,h3,h2,h1]
theorem qTF (s:ByteArray):(s.extract (1:Int).toNat ((s.size:Int)).toNat).toList=s.toList.tail:=by
 have e1:(1:Int).toNat=1:=rfl
 rw [Int.toNat_natCast,e1,Go.Lib.toList_data,ByteArray.data_extract,Array.toList_extract,Go.Lib.toList_data]
 have hl:s.data.toList.length=s.size:=by rw [←qCu]
 show (s.data.toList.drop 1).take (s.size-1)=s.data.toList.tail
 rw [List.take_of_length_le (by rw [List.length_drop,hl];exact Nat.le_refl _),List.drop_one]
theorem qRb {s:ByteArray} {c:UInt8} {r:List UInt8} (h:s.toList=c::r):s.toList[((0:Int)).toNat]?=some c:=by rw [h];rfl
theorem qQt {x:Int}:okV 1 x em=decide (-1000000000000000≤x∧x≤1000000000000000):=by
 simp [okV,em,qk]
theorem qRL {s:ByteArray} (h39:¬s.toList.head?=some 39) (hF:¬s.toList= [70,65,76,83,69]) (hT:¬s.toList= [84,82,85,69]) (h35:¬s.toList.head?=some 35) (h0:¬s.toList= []):
  qj s=match qPM s.toList with
   |some x=>if okV 1 x em=true then (1,x,em,true) else (0,0,⟨#[]⟩,false)
   |none=>(0,0,⟨#[]⟩,false):=by
 have hc:qAy s=(1,qBu s,em):=by unfold qAy;rw [if_neg h39,if_neg hF,if_neg hT,if_neg h35,if_neg h0]
 have rd:qj s=if okV 1 (qBu s) em=true∧(q9 1 (qBu s) em).toList=s.toList then (1,qBu s,em,true) else (0,0,⟨#[]⟩,false):=by unfold qj;rw [hc]
 have tx:∀x,(q9 1 x em).toList=Lib.itoa x:=fun x=>by
  rw [Go.Lib.toList_data];simp [q9,qEH]
 have back:okV 1 (qBu s) em=true∧(q9 1 (qBu s) em).toList=s.toList→qPM s.toList=some (qBu s):=fun ⟨a,b⟩=>by
  rw [tx] at b
  rw [qQt] at a
  rw [←b]
  exact qRK (by simpa using a)
 rw [rd]
 cases hn:qPM s.toList with
 |none=>
  rw [if_neg (fun h=>by rw [back h] at hn;cases hn)]
 |some x=>
  by_cases hx:okV 1 x em=true
  ·have hi:=qRJ hn
   have hr: -1000000000000000≤x∧x≤1000000000000000:=by rw [qQt] at hx;simpa using hx
   have hp:=qJG hi hr
   dsimp only
   rw [hp,if_pos ⟨hx,by rw [tx,hi]⟩,if_pos hx]
  ·dsimp only
   rw [if_neg hx,if_neg (fun h=>by
    have:=back h
    rw [hn] at this
    cases this
    exact hx h.1)]
theorem qRM (s:ByteArray) {c:UInt8} {r:List UInt8} (hcr:s.toList=c::r):qPM s.toList=if c=45 then (if (l1I s.toList.tail 16).2=true∧(l1I s.toList.tail 16).1≠0 then some (-(l1I s.toList.tail 16).1) else none) else (if (l1I s.toList 16).2=true then some (l1I s.toList 16).1 else none):=by
 unfold qPM
 rw [hcr]
 simp only [List.head?_cons,Option.some.injEq,List.drop_one]
theorem qGt (s:ByteArray) (hb:s.size≤1048576):Ev (qAI · s) (qj s):=by
 have te:(⟨#[]⟩:ByteArray).toList= []:=qk
 have tF:(⟨#[70,65,76,83,69]⟩:ByteArray).toList= [70,65,76,83,69]:=by rw [Go.Lib.toList_data]
 have tT:(⟨#[84,82,85,69]⟩:ByteArray).toList= [84,82,85,69]:=by rw [Go.Lib.toList_data]
 have hsz:s.size=s.toList.length:=(qAK s).symm
 by_cases h0:s.toList= []
 ·have hv:qj s=(0,0,⟨#[]⟩,true):=by
   have hc:qAy s=(0,0,em):=by unfold qAy;rw [h0];simp
   unfold qj
   rw [hc,if_pos ⟨qOk,by rw [qMe,h0];exact te⟩]
   rfl
  rw [hv]
  refine ⟨1,fun n hn=>?_⟩
  obtain ⟨m,rfl,hm⟩:=up1 hn
  simp only [qAI,qBA,qC,qD,qG,qH,qJ,qK,Option.bind_some,qE,qM,qN]
  simp [h0,te]
 ·obtain ⟨c,r,hcr⟩:∃c r,s.toList=c::r:=by
   cases hq:s.toList with
   |nil=>exact absurd hq h0
   |cons a b=>exact ⟨a,b,rfl⟩
  have hg:=qRb hcr
  have hd:s.toList.head?=some c:=by rw [hcr];rfl
  have b0:(s.toList== [])=false:=by simpa using h0
  have s1:(1:Int)≤(s.size:Int):=by rw [hsz,hcr];simp;omega
  have k39:=qSK c 39 (by decide)
  have k35:=qSK c 35 (by decide)
  have k45:=qSK c 45 (by decide)
  have u39:UInt8.ofNat 39=39:=rfl
  have u35:UInt8.ofNat 35=35:=rfl
  have u45:UInt8.ofNat 45=45:=rfl
  rw [u39] at k39
  rw [u35] at k35
  rw [u45] at k45
  have q39:((39:Nat):Int)=39:=rfl
  have q35:((35:Nat):Int)=35:=rfl
  have q45:((45:Nat):Int)=45:=rfl
  rw [q39] at k39
  rw [q35] at k35
  rw [q45] at k45
  by_cases h39:c=39
  ·have hx:(⟨s.toList.tail.toArray⟩:ByteArray)=s.extract (1:Int).toNat ((s.size:Int)).toNat:=qDN (by rw [qTF];rw [Go.Lib.toList_data])
   have hc:qAy s=(2,0,s.extract (1:Int).toNat ((s.size:Int)).toNat):=by unfold qAy;rw [if_pos (by rw [hd,h39]),hx]
   have hz:(s.extract (1:Int).toNat ((s.size:Int)).toNat).size≤140737488351232:=by rw [←hx,qCu];simp only [List.length_tail];rw [qAK];omega
   have hvt:(q9 2 0 (s.extract (1:Int).toNat ((s.size:Int)).toNat)).toList=s.toList:=by
    rw [←hx,Go.Lib.toList_data]
    show ((⟨#[39]⟩:ByteArray)++_).data.toList=_
    rw [qDF,hcr,h39]
    rfl
   have hv:qj s=if okV 2 0 (s.extract (1:Int).toNat ((s.size:Int)).toNat)=true then (2,0,s.extract (1:Int).toNat ((s.size:Int)).toNat,true) else (0,0,⟨#[]⟩,false):=by
    unfold qj
    rw [hc]
    simp only [hvt,and_true]
   rw [hv]
   have e39:(some c==some 39)=true:=by rw [h39];rfl
   obtain ⟨n1,h1⟩:=qAF 2 0 (s.extract (1:Int).toNat ((s.size:Int)).toNat) hz
   refine ⟨n1+1,fun n hn=>?_⟩
   obtain ⟨m,rfl,hm⟩:=up1 hn
   have h1:=h1 m (by omega)
   dsimp only at h1
   simp only [qAI,qBA,qC,qD,qG,qH,qJ,qK,Option.bind_some,qE,qM,qN,h1]
   simp only [qC,qD,qG,qH,qJ,qK,Option.bind_some,qE,qM,qN,te,b0,hg,k39,e39]
   cases ho:okV 2 0 (s.extract (1:Int).toNat ((s.size:Int)).toNat)<;>simp [s1]
  ·have n39:¬s.toList.head?=some 39:=by rw [hd];simpa using h39
   have e39:(some c==some 39)=false:=by simpa using h39
   by_cases hT:s.toList= [84,82,85,69]
   ·have hF:¬s.toList= [70,65,76,83,69]:=by rw [hT];decide
    have hc:qAy s=(3,1,em):=by unfold qAy;rw [if_neg n39,if_neg hF,if_pos hT]
    have ho:okV 3 1 em=true:=by simp [okV,em,qk]
    have hv:qj s=(3,1,⟨#[]⟩,true):=by
     unfold qj
     rw [hc,if_pos ⟨ho,by rw [hT];exact tT⟩]
     rfl
    rw [hv]
    have bT:(s.toList== [84,82,85,69])=true:=by simpa using hT
    obtain ⟨n1,h1⟩:=qAF 3 1 ⟨#[]⟩ (by decide)
    refine ⟨n1+1,fun n hn=>?_⟩
    obtain ⟨m,rfl,hm⟩:=up1 hn
    have h1:=h1 m (by omega)
    dsimp only at h1
    simp only [qAI,qBA,qC,qD,qG,qH,qJ,qK,Option.bind_some,qE,qM,qN,h1]
    dsimp only [em] at ho
    simp only [qC,qD,qG,qH,qJ,qK,Option.bind_some,qE,qM,qN,te,b0,hg,k39,e39,tT,bT,ho]
    simp
   ·have bT:(s.toList== [84,82,85,69])=false:=by simpa using hT
    by_cases hF:s.toList= [70,65,76,83,69]
    ·have hc:qAy s=(3,0,em):=by unfold qAy;rw [if_neg n39,if_pos hF]
     have ho:okV 3 0 em=true:=by simp [okV,em,qk]
     have hv:qj s=(3,0,⟨#[]⟩,true):=by
      unfold qj
      rw [hc,if_pos ⟨ho,by rw [hF];exact tF⟩]
      rfl
     rw [hv]
     have bF:(s.toList== [70,65,76,83,69])=true:=by simpa using hF
     obtain ⟨n1,h1⟩:=qAF 3 0 ⟨#[]⟩ (by decide)
     refine ⟨n1+1,fun n hn=>?_⟩
     obtain ⟨m,rfl,hm⟩:=up1 hn
     have h1:=h1 m (by omega)
     dsimp only at h1
     simp only [qAI,qBA,qC,qD,qG,qH,qJ,qK,Option.bind_some,qE,qM,qN,h1]
     dsimp only [em] at ho
     simp only [qC,qD,qG,qH,qJ,qK,Option.bind_some,qE,qM,qN,te,b0,hg,k39,e39,tT,bT,tF,bF,ho]
     simp
    ·have bF:(s.toList== [70,65,76,83,69])=false:=by simpa using hF
     by_cases h35:c=35
     ·have n35:s.toList.head?=some 35:=by rw [hd,h35]
      have e35:(some c==some 35)=true:=by rw [h35];rfl
      have hc:qAy s=(if qDz s=0 then (0,0,em) else (4,qDz s,em)):=by unfold qAy;rw [if_neg n39,if_neg hF,if_neg hT,if_pos n35]
      have hin:=qSI s
      have ho:okV 4 (qDz s) (⟨#[]⟩:ByteArray)=!(qDz s==0):=by
       by_cases hz:qDz s=0
       ·simp [okV,qk,hz]
       ·have hr:1≤qDz s∧qDz s≤5:=by omega
        simp [okV,qk,hr,hz]
      have hv:qj s=if qDz s=0 then (0,0,⟨#[]⟩,false) else (4,qDz s,⟨#[]⟩,true):=by
       unfold qj
       rw [hc]
       by_cases hz:qDz s=0
       ·simp only [if_pos hz]
        rw [if_neg (fun h=>h0 (by rw [←h.2,qMe];exact te))]
       ·simp only [if_neg hz]
        have ho':okV 4 (qDz s) em=true:=by show okV 4 (qDz s) ⟨#[]⟩=true;rw [ho];simpa using hz
        rw [if_pos ⟨ho',by show (qY (qDz s)).toList=s.toList;rw [qSJ hz]⟩]
        rfl
      rw [hv]
      obtain ⟨n1,h1⟩:=qAF 4 (qDz s) ⟨#[]⟩ (by decide)
      obtain ⟨n3,h3⟩:=qFu (F:=qBX) (f:=qY) (lo:=0) (by decide) qGU
      refine ⟨n1+n3+10,fun n hn=>?_⟩
      obtain ⟨m,rfl,hm⟩:=up1 hn
      have h1:=h1 m (by omega)
      dsimp only at h1
      obtain ⟨_,_,lp⟩:=qLG m s 0 0 ⟨#[]⟩ (h3 m (by omega)) 5 1 0 m (by decide) (by decide) (by omega)
      rw [qSL] at lp
      simp only [qAI,qBA,qC,qD,qG,qH,qJ,qK,Option.bind_some,qE,qM,qN,te,b0,hg,k39,e39,tT,bT,tF,bF,k35,e35,lp,h1,ho]
      by_cases hz:qDz s=0<;>simp [hz]
     ·have n35:¬s.toList.head?=some 35:=by rw [hd];simpa using h35
      have e35:(some c==some 35)=false:=by simpa using h35
      rw [qRL n39 hF hT n35 h0,qRM s hcr]
      dsimp only [em]
      by_cases h45:c=45
      ·have e45:(some c==some 45)=true:=by rw [h45];rfl
       have g16:∀{q:List UInt8},(l1I q 16).2=true→(0≤(l1I q 16).1∧(l1I q 16).1≤10000000000000000):=fun {q} hq=>by
        have p16:(10:Nat)^16=10000000000000000:=by decide
        obtain ⟨a1,a2,a3,a4⟩:=qNr hq
        rw [a3]
        simp only [qFm,Bool.and_eq_true] at a2
        have:=qPL q 0 0 a2.1.2 (by decide)
        have h2:(10:Nat)^(0+q.length)≤10^16:=Nat.pow_le_pow_right (by decide) (by omega)
        omega
       have hl:=qD0 (s.extract (1:Int).toNat ((s.size:Int)).toNat) 16 (by decide)
       rw [qTF] at hl
       have hrange:= @g16 s.toList.tail
       generalize l1I s.toList.tail 16=q at*
       obtain ⟨x,ok⟩:=q
       have w1:ok=true→IntKind.i64.wrap (0-x)= -x:=fun h=>by
        have:=hrange h
        dsimp only at this
        rw [Int.zero_sub];exact qX (by omega)
       obtain ⟨n1,h1⟩:=hl
       obtain ⟨n2,h2⟩:=qAF 1 (-x) ⟨#[]⟩ (by decide)
       refine ⟨n1+n2+1,fun n hn=>?_⟩
       obtain ⟨m,rfl,hm⟩:=up1 hn
       have h1:=h1 m (by omega)
       dsimp only at h1
       have h2:=h2 m (by omega)
       dsimp only at h2
       simp only [qAI,qBA,qC,qD,qG,qH,qJ,qK,Option.bind_some,qE,qM,qN,h1,h2]
       simp only [qC,qD,qG,qH,qJ,qK,Option.bind_some,qE,qM,qN,te,b0,hg,k39,e39,tT,bT,tF,bF,k35,e35,k45,e45,h45,if_true]
       cases ok with
       |false=>simp [s1]
       |true=>
        simp only [qC,qD,qG,qH,qJ,qK,Option.bind_some,qE,qM,qN,w1 rfl,h2]
        by_cases hx:x=0
        ·simp [s1,hx]
        ·cases ho:okV 1 (-x) (⟨#[]⟩:ByteArray)<;>simp [s1,hx,ho]
      ·have e45:(some c==some 45)=false:=by simpa using h45
       have hl:=qD0 s 16 (by decide)
       generalize l1I s.toList 16=q at*
       obtain ⟨x,ok⟩:=q
       obtain ⟨n1,h1⟩:=hl
       obtain ⟨n2,h2⟩:=qAF 1 x ⟨#[]⟩ (by decide)
       refine ⟨n1+n2+1,fun n hn=>?_⟩
       obtain ⟨m,rfl,hm⟩:=up1 hn
       have h1:=h1 m (by omega)
       dsimp only at h1
       have h2:=h2 m (by omega)
       dsimp only at h2
       simp only [qAI,qBA,qC,qD,qG,qH,qJ,qK,Option.bind_some,qE,qM,qN,h1,h2]
       simp only [qC,qD,qG,qH,qJ,qK,Option.bind_some,qE,qM,qN,te,b0,hg,k39,e39,tT,bT,tF,bF,k35,e35,k45,e45,if_neg h45]
       cases ok with
       |false=>simp
       |true=>cases ho:okV 1 x (⟨#[]⟩:ByteArray)<;>simp [ho]
theorem qHK {k x:Int} {s:ByteArray} (h:okV k x s=true) (h2:¬k=2):s=em:=by
 unfold okV at h
 rw [if_neg h2] at h
 simp only [Bool.and_eq_true,beq_iff_eq] at h
 exact qDN (by rw [h.1];exact qk.symm)
theorem qQu {k x:Int} {s:ByteArray} (h:okV k x s=true):k=0∨k=1∨k=2∨k=3∨k=4:=by
 by_cases k2:k=2
 ·omega
 ·unfold okV at h
  rw [if_neg k2] at h
  simp only [Bool.and_eq_true] at h
  have h:=h.2
  by_cases k0:k=0
  ·omega
  ·by_cases k1:k=1
   ·omega
   ·by_cases k3:k=3
    ·omega
    ·by_cases k4:k=4
     ·omega
     ·simp [k0,k1,k3,k4] at h
theorem qHj {k x:Int} {s:ByteArray} (h:okV k x s=true):qj (q9 k x s)=(k,x,s,true):=by
 have key:qAy (q9 k x s)=(k,x,s)→qj (q9 k x s)=(k,x,s,true):=fun hc=>by
  unfold qj
  rw [hc,if_pos ⟨h,rfl⟩]
 apply key
 rcases qQu h with rfl|rfl|rfl|rfl|rfl
 ·have he:=qHK h (by decide)
  subst he
  have hx:x=0:=by simpa [okV,em,qk] using h
  subst hx
  have:(q9 0 0 em).toList= []:=qk
  unfold qAy
  rw [this]
  rfl
 ·have he:=qHK h (by decide)
  subst he
  have hr:=qQq h
  have ht:(q9 1 x em).toList=Lib.itoa x:=by rw [Go.Lib.toList_data];simp [q9,qEH]
  have hp:=qJG ht hr
  obtain ⟨c,r,hcr,hc⟩:∃c r,Lib.itoa x=c::r∧(c=45∨qAe c=true):=by
   unfold Lib.itoa
   split
   ·exact ⟨45,_,rfl,.inl rfl⟩
   ·obtain ⟨c,r,h1,h2⟩:=qHi x.toNat
    exact ⟨c,r,h1,.inr h2⟩
  have hn:∀q:UInt8,qAe q=false→q≠45→c≠q:=fun q h1 h2 e=>by
   subst e
   rcases hc with hc|hc
   ·exact h2 hc
   ·rw [h1] at hc;cases hc
  have n39:=hn 39 (by decide) (by decide)
  have n35:=hn 35 (by decide) (by decide)
  have n70:=hn 70 (by decide) (by decide)
  have n84:=hn 84 (by decide) (by decide)
  unfold qAy
  rw [hp,ht,hcr]
  simp [n39,n35,n70,n84]
 ·have h2:=qLC h
  obtain ⟨rfl,_,_⟩:=h2
  have ht:(q9 2 0 s).toList=39::s.toList:=by
   rw [Go.Lib.toList_data]
   show ((⟨#[39]⟩:ByteArray)++s).data.toList=_
   rw [qDF,Go.Lib.toList_data]
   rfl
  have es:(⟨s.toList.toArray⟩:ByteArray)=s:=qDN (qAu _)
  unfold qAy
  rw [ht]
  simp [es]
 ·have he:=qHK h (by decide)
  subst he
  have hr:=qOf h
  have c:x=0∨x=1:=by omega
  rcases c with rfl|rfl
  ·have ht:(q9 3 0 em).toList= [70,65,76,83,69]:=by rw [Go.Lib.toList_data];rfl
   unfold qAy
   rw [ht]
   rfl
  ·have ht:(q9 3 1 em).toList= [84,82,85,69]:=by rw [Go.Lib.toList_data];rfl
   unfold qAy
   rw [ht]
   rfl
 ·have he:=qHK h (by decide)
  subst he
  have hr:=qOg h
  have t1:(qY 1).toList= [35,68,73,86,33]:=by rw [Go.Lib.toList_data];rfl
  have t2:(qY 2).toList= [35,84,89,80,69,33]:=by rw [Go.Lib.toList_data];rfl
  have t3:(qY 3).toList= [35,82,69,70,33]:=by rw [Go.Lib.toList_data];rfl
  have t4:(qY 4).toList= [35,79,86,69,82,33]:=by rw [Go.Lib.toList_data];rfl
  have t5:(qY 5).toList= [35,67,89,67,76,69,33]:=by rw [Go.Lib.toList_data];rfl
  have hx:q9 4 x em=qY x:=rfl
  rw [hx]
  rcases qTb hr with rfl|rfl|rfl|rfl|rfl
  all_goals
   unfold qAy qDz
   simp [t1,t2,t3,t4,t5]
def rcK (s:ByteArray):Nat→Int→Int
 |0,_=>0
 |k+1,i=>if (qBj i).toList=s.toList then i else rcK s k (i+1)
def qEo (s:ByteArray):Int:=rcK s 52 1
theorem qRc (s:ByteArray):∀(k:Nat) (i:Int),1≤rcK s k i→(qBj (rcK s k i)).toList=s.toList
 |0,i,h=>by simp [rcK] at h
 |k+1,i,h=>by
  simp only [rcK] at h⊢
  by_cases e:(qBj i).toList=s.toList
  ·rw [if_pos e];exact e
  ·rw [if_neg e] at h⊢;exact qRc s k (i+1) h
def qEQ (c:UInt8):Bool:=decide (65≤c.toNat)&&decide (c.toNat≤90)
def qV (l:List UInt8):List UInt8:=if l.head?=some 36 then l.tail else l
def qR (l:List UInt8):List UInt8:=l.takeWhile qEQ
def ql (l:List UInt8):List UInt8:=l.dropWhile qEQ
def qAv (s:ByteArray):Int×Int×Bool×Bool×Bool:=
 if (l1I (qV (ql (qV s.toList))) 2).2=true∧qAx (qEo ⟨(qR (qV s.toList)).toArray⟩) (l1I (qV (ql (qV s.toList))) 2).1=true then
  (qEo ⟨(qR (qV s.toList)).toArray⟩,(l1I (qV (ql (qV s.toList))) 2).1,s.toList.head?==some 36,(ql (qV s.toList)).head?==some 36,true) else (0,0,false,false,false)
theorem qKi {R:Type} {B:ByteArray×Int→Tr ((ByteArray×Int)⊕(Int⊕Unit))} {s:ByteArray} (hs:∀i:Int,1≤i∧i≤52→(B (s,i)).run=some (if (qBj i).toList=s.toList then .inr (.inl i) else .inl (s,i+1))) (he:(B (s,53)).run=some (.inr (.inr ()))):
  ∀(k:Nat) (i:Int) (M:Nat),1≤i→i+k=53→k+1≤M→zC B M (s,i)=some (if rcK s k i=0 then .inr () else .inl (rcK s k i))
 |k,i,0,h1,h2,h3=>by omega
 |0,i,M+1,h1,h2,h3=>by
  have:i=53:=by omega
  subst this
  rw [qQ he]
  rfl
 |k+1,i,M+1,h1,h2,h3=>by
  have h:=hs i ⟨h1,by omega⟩
  by_cases e:(qBj i).toList=s.toList
  ·rw [if_pos e] at h
   rw [qQ h]
   simp only [rcK,if_pos e]
   rw [if_neg (by omega)]
  ·rw [if_neg e] at h
   rw [qc h]
   simp only [rcK,if_neg e]
   exact qKi (R:=R) hs he k (i+1) M (by omega) (by omega) (by omega)
theorem qQv {F:Nat→Int→Option ByteArray} (h:∀i,Ev (F · i) (qBj i)):∃n0,∀n,n0≤n→∀i,1≤i∧i≤52→F n i=some (qBj i):=by
 obtain ⟨n0,h1⟩:=qCk (F:=fun (i:Nat) n=>F n (i:Int)) (f:=fun i=>qBj (i:Int)) (List.range 53) (fun i _=>h i)
 refine ⟨n0,fun n hn i hi=>?_⟩
 have:=h1 n hn i.toNat (by rw [List.mem_range];omega)
 rwa [Int.toNat_of_nonneg (by omega)] at this
theorem qNF (s:ByteArray):Ev (qCP · s) (qEo s):=by
 obtain ⟨n0,h⟩:=qQv qIa
 refine ⟨n0+60,fun n hn=>?_⟩
 obtain ⟨m,rfl,hm⟩:=up1 hn
 have hc:=h m (by omega)
 have lp:=qKi (R:=Unit) (B:=qCi m) (s:=s) (fun i hi=>by
  have g:=hc i hi
  have w1:IntKind.i64.wrap (i+1)=i+1:=qX (by omega)
  simp only [qCi,qC,qD,qG,qH,qJ,qK,Option.bind_some,qE,qM,qN,g,w1]
  rw [if_pos (decide_eq_true hi.2)]
  by_cases e:(qBj i).toList=s.toList<;>simp [e]) (by simp [qCi,qC,qD,qG,qH,qJ,qK,Option.bind_some,qE,qM,qN]) 52 1 m (by decide) (by decide) (by omega)
 simp only [qCP,qGL,qC,qD,qG,qH,qJ,qK,Option.bind_some,qE,qM,qN,lp]
 show _=some (rcK s 52 1)
 by_cases e:rcK s 52 1=0
 ·rw [if_pos e,e];rfl
 ·rw [if_neg e];rfl
theorem qNG (s:ByteArray):Ev (qEb · s) (qEo s):=by
 obtain ⟨n0,h⟩:=qQv qIZ
 refine ⟨n0+60,fun n hn=>?_⟩
 obtain ⟨m,rfl,hm⟩:=up1 hn
 have hc:=h m (by omega)
 have lp:=qKi (R:=Unit) (B:=qCd m) (s:=s) (fun i hi=>by
  have g:=hc i hi
  have w1:IntKind.i64.wrap (i+1)=i+1:=qX (by omega)
  simp only [qCd,qC,qD,qG,qH,qJ,qK,Option.bind_some,qE,qM,qN,g,w1]
  rw [if_pos (decide_eq_true hi.2)]
  by_cases e:(qBj i).toList=s.toList<;>simp [e]) (by simp [qCd,qC,qD,qG,qH,qJ,qK,Option.bind_some,qE,qM,qN]) 52 1 m (by decide) (by decide) (by omega)
 simp only [qEb,qF7,qC,qD,qG,qH,qJ,qK,Option.bind_some,qE,qM,qN,lp]
 show _=some (rcK s 52 1)
 by_cases e:rcK s 52 1=0
 ·rw [if_pos e,e];rfl
 ·rw [if_neg e];rfl
theorem qB3 (b:ByteArray):b.size=b.toList.length:=(qAK b).symm
theorem qPs (b:ByteArray) (k:Nat):(b.extract 0 k).toList=b.toList.take k:=by
 rw [Go.Lib.toList_data,ByteArray.data_extract,Array.toList_extract,Go.Lib.toList_data]
 show (b.data.toList.drop 0).take (k-0)=_
 simp
theorem qFO (b:ByteArray) (k:Nat):(b.extract k b.size).toList=b.toList.drop k:=by
 rw [Go.Lib.toList_data,ByteArray.data_extract,Array.toList_extract,Go.Lib.toList_data]
 have hl:b.data.toList.length=b.size:=by rw [←qCu]
 show (b.data.toList.drop k).take (b.size-k)=_
 rw [List.take_of_length_le (by rw [List.length_drop,hl];exact Nat.le_refl _)]
theorem qLH (l:List UInt8):l.take (qR l).length=qR l:=by
 have h:=List.takeWhile_append_dropWhile (p:=qEQ) (l:=l)
 have h2:(List.takeWhile qEQ l++List.dropWhile qEQ l).take (List.takeWhile qEQ l).length=List.takeWhile qEQ l:=List.take_left ..
 rw [h] at h2
 exact h2
theorem qH7 (l:List UInt8):l.drop (qR l).length=ql l:=by
 have h:=List.takeWhile_append_dropWhile (p:=qEQ) (l:=l)
 have h2:(List.takeWhile qEQ l++List.dropWhile qEQ l).drop (List.takeWhile qEQ l).length=List.dropWhile qEQ l:=List.drop_left ..
 rw [h] at h2
 exact h2
theorem qMf (l:List UInt8):(qR l).length≤l.length:=by
 have h:=congrArg List.length (List.takeWhile_append_dropWhile (p:=qEQ) (l:=l))
 rw [List.length_append] at h
 unfold qR
 omega
theorem qLI (n:Nat) (b:ByteArray) (fc:Bool) (hb:b.size≤1048576):∀(r pre:List UInt8) (M:Nat),b.toList=pre++r→r.length+1≤M→
  zC (qAN n) M (b,(pre.length:Int),0,0,false,false,0,0,fc,false)=some (b,((pre.length+(qR r).length:Nat):Int),0,0,false,false,0,0,fc,false)
 |r,pre,0,h1,h2=>by omega
 | [],pre,M+1,h1,h2=>by
  have hi:¬(pre.length:Int)<b.size:=by rw [qB3,h1];simp
  rw [qQ (r:=(b,(pre.length:Int),0,0,false,false,0,0,fc,false)) (by simp [qAN,qC,qD,qG,qH,qJ,qK,Option.bind_some,qE,qM,qN,hi])]
  simp [qR]
 |c::r,pre,M+1,h1,h2=>by
  have hl:b.size=pre.length+(r.length+1):=by rw [qB3,h1];simp
  have hi:(pre.length:Int)<b.size:=by omega
  have hg:b.toList[pre.length]?=some c:=by rw [h1];simp
  have w1:IntKind.i64.wrap ((pre.length:Int)+1)=(pre.length:Int)+1:=qX (by omega)
  by_cases hc:qEQ c=true
  ·have hc':65≤c.toNat∧c.toNat≤90:=by simpa [qEQ] using hc
   have c1:(c.toNat:Int)≥65:=by omega
   have c2:(c.toNat:Int)≤90:=by omega
   have e0:((pre++ [c]).length:Int)=(pre.length:Int)+1:=by simp
   rw [qc (v':=(b,((pre++ [c]).length:Int),0,0,false,false,0,0,fc,false)) (by
    rw [e0]
    simp [qAN,qC,qD,qG,qH,qJ,qK,Option.bind_some,qE,qM,qN,hi,hg,c1,c2,w1])]
   rw [qLI n b fc hb r (pre++ [c]) M (by rw [h1];simp) (by simp at h2;omega)]
   simp [qR,hc]
   omega
  ·rw [qQ (r:=(b,(pre.length:Int),0,0,false,false,0,0,fc,false)) (by
    by_cases c1:(c.toNat:Int)≥65
    ·have c2:¬(c.toNat:Int)≤90:=fun h=>hc (by simp [qEQ];omega)
     simp [qAN,qC,qD,qG,qH,qJ,qK,Option.bind_some,qE,qM,qN,hi,hg,c1,c2]
    ·simp [qAN,qC,qD,qG,qH,qJ,qK,Option.bind_some,qE,qM,qN,hi,hg,c1])]
   simp [qR,hc]
theorem qLJ (s:ByteArray) (hb:s.size≤1048576):Ev (qAr · s) (qAv s):=by
 have main:∀(b:ByteArray) (fc:Bool),b.size≤1048576→b.toList=qV s.toList→fc=(s.toList.head?==some 36)→
   ∃n0,∀m,n0≤m→zC (qAN m) m (b,0,0,0,false,false,0,0,fc,false)=some (b,((qR (qV s.toList)).length:Int),0,0,false,false,0,0,fc,false)∧
    qCP m (b.extract 0 (qR (qV s.toList)).length)=some (qEo ⟨(qR (qV s.toList)).toArray⟩)∧
    qx m (b.extract (qR (qV s.toList)).length b.size) 2=some (l1I (ql (qV s.toList)) 2)∧
    qx m ((b.extract (qR (qV s.toList)).length b.size).extract 1 (b.extract (qR (qV s.toList)).length b.size).size) 2=some (l1I (ql (qV s.toList)).tail 2):=fun b fc hb hl _=>by
  have x1:b.extract 0 (qR (qV s.toList)).length=⟨(qR (qV s.toList)).toArray⟩:=qDN (by rw [qPs,hl,qLH,qAu (qR (qV s.toList))])
  have x2:(b.extract (qR (qV s.toList)).length b.size).toList=ql (qV s.toList):=by rw [qFO,hl,qH7]
  have x3:((b.extract (qR (qV s.toList)).length b.size).extract 1 (b.extract (qR (qV s.toList)).length b.size).size).toList=(ql (qV s.toList)).tail:=by rw [qFO,x2,List.drop_one]
  obtain ⟨n1,h1⟩:=qNF (b.extract 0 (qR (qV s.toList)).length)
  obtain ⟨n2,h2⟩:=qD0 (b.extract (qR (qV s.toList)).length b.size) 2 (by decide)
  obtain ⟨n3,h3⟩:=qD0 ((b.extract (qR (qV s.toList)).length b.size).extract 1 (b.extract (qR (qV s.toList)).length b.size).size) 2 (by decide)
  rw [x1] at h1
  rw [x2] at h2
  rw [x3] at h3
  refine ⟨n1+n2+n3+b.size+2,fun m hm=>⟨?_,by rw [x1];exact h1 m (by omega),h2 m (by omega),h3 m (by omega)⟩⟩
  have:=qLI m b fc hb b.toList [] m rfl (by rw [←qB3];omega)
  simp only [List.length_nil,Int.natCast_zero,Nat.zero_add] at this
  rw [this,hl]
 have z:∀(b:ByteArray),b.toList=qV s.toList→((qR (qV s.toList)).length:Int)≤b.size:=fun b hl=>by
  have:=qMf (qV s.toList)
  rw [←hl] at this⊢
  rw [qB3]
  omega
 have k36:∀c:UInt8,((c.toNat:Int)==36)=(some c==some 36):=fun c=>by
  have h:=qSK c 36 (by decide)
  have u:UInt8.ofNat 36=36:=rfl
  rw [u] at h
  exact h
 unfold qAv
 have part:∀(b:ByteArray) (fc:Bool),b.size≤1048576→b.toList=qV s.toList→fc=(s.toList.head?==some 36)→
   ((fc=true∧b=s.extract 1 s.size∧∃c r,s.toList=c::r∧c=36)∨(fc=false∧b=s∧∀c r,s.toList=c::r→(some c==some (36:UInt8))=false))→
   Ev (qAr · s) (if (l1I (qV (ql (qV s.toList))) 2).2=true∧qAx (qEo ⟨(qR (qV s.toList)).toArray⟩) (l1I (qV (ql (qV s.toList))) 2).1=true then
    (qEo ⟨(qR (qV s.toList)).toArray⟩,(l1I (qV (ql (qV s.toList))) 2).1,s.toList.head?==some 36,(ql (qV s.toList)).head?==some 36,true) else (0,0,false,false,false)):=fun b fc hb2 hl hfc hcase=>by
  obtain ⟨n0,hm0⟩:=main b fc hb2 hl hfc
  have hz:=z b hl
  obtain ⟨n2,h2⟩:=qDL (qEo ⟨(qR (qV s.toList)).toArray⟩) (l1I (qV (ql (qV s.toList))) 2).1
  have x2:(b.extract (qR (qV s.toList)).length b.size).toList=ql (qV s.toList):=by rw [qFO,hl,qH7]
  rw [←hfc]
  refine ⟨n0+n2+1,fun n hn=>?_⟩
  obtain ⟨m,rfl,hm⟩:=up1 hn
  obtain ⟨g1,g2,g3,g4⟩:=hm0 m (by omega)
  have h2:=h2 m (by omega)
  dsimp only at h2
  have e1:(1:Int).toNat=1:=rfl
  have e0:(0:Int).toNat=0:=rfl
  have start:∀q,(qCL m s).run=q→qAr (m+1) s=q:=fun q h=>h
  apply start
  rcases hcase with ⟨rfl,rfl,c,r,hcr,rfl⟩|⟨rfl,rfl,hno⟩
  ·have hsz:(s.size:Int)>0:=by rw [qB3,hcr];simp<;>omega
   have hs1:(1:Int)≤s.size:=by omega
   have hg:s.toList[0]?=some 36:=by rw [hcr];rfl
   have bs:(s.extract 1 s.size).size=s.size-1:=by rw [qB3,qFO,List.length_drop,←qB3]
   have zn:(qR (qV s.toList)).length≤s.size-1:=by rw [←bs];omega
   have sn:0<s.size:=by omega
   have c36:((((36:UInt8)).toNat:Int)==36)=true:=rfl
   simp only [qCL,qC,qD,qG,qH,qJ,qK,Option.bind_some,qE,qM,qN,Int.toNat_natCast,e0,e1,hg,c36,g1,g2]
   cases hq:ql (qV s.toList) with
   |nil=>
    have y0:((s.extract 1 s.size).extract (qR (qV s.toList)).length (s.extract 1 s.size).size).size=0:=by rw [qB3,x2,hq];rfl
    have hoff:qV (ql (qV s.toList))= []:=by rw [hq];rfl
    rw [hoff] at h2
    rw [hq] at g3
    simp only [y0,g3,h2,qC,qD,qG,qH,qJ,qK,Option.bind_some,qE,qM,qN]
    have hoff':qV ([]:List UInt8)= []:=rfl
    rw [hoff']
    generalize l1I ([]:List UInt8) 2=q at*
    obtain ⟨x,ok⟩:=q
    cases ok<;>cases hk:qAx (qEo ⟨(qR (qV s.toList)).toArray⟩) x<;>simp [hz,hsz,hs1,zn,sn]
   |cons d w=>
    have y0:(((s.extract 1 s.size).extract (qR (qV s.toList)).length (s.extract 1 s.size).size).size:Int)>0:=by rw [qB3,x2,hq];simp<;>omega
    have y1:(1:Int)≤((s.extract 1 s.size).extract (qR (qV s.toList)).length (s.extract 1 s.size).size).size:=by omega
    have ys:((s.extract 1 s.size).extract (qR (qV s.toList)).length (s.extract 1 s.size).size).size=(s.extract 1 s.size).size-(qR (qV s.toList)).length:=by rw [qB3,qFO,List.length_drop,←qB3]
    have yn:(qR (qV s.toList)).length<(s.size-1):=by rw [←bs];omega
    have yn2:1≤(s.size-1)-(qR (qV s.toList)).length:=by omega
    have yn3:0<(s.size-1)-(qR (qV s.toList)).length:=by omega
    have yn4:(1:Int)≤(((s.size-1)-(qR (qV s.toList)).length:Nat):Int):=by omega
    have yg:((s.extract 1 s.size).extract (qR (qV s.toList)).length (s.extract 1 s.size).size).toList[0]?=some d:=by rw [x2,hq];rfl
    rw [hq] at g3 g4 h2
    simp only [yg,k36 d,qC,qD,qG,qH,qJ,qK,Option.bind_some,qE,qM,qN]
    by_cases hd:d=36
    ·have hoff:qV (d::w)=w:=by unfold qV;rw [if_pos (by rw [hd];rfl)];rfl
     rw [hoff] at h2⊢
     have e36:(some d==some (36:UInt8))=true:=by rw [hd];rfl
     simp only [List.tail_cons] at g4
     simp only [e36,g4,h2,List.head?_cons,qC,qD,qG,qH,qJ,qK,Option.bind_some,qE,qM,qN]
     generalize l1I w 2=q at*
     obtain ⟨x,ok⟩:=q
     cases ok<;>cases hk:qAx (qEo ⟨(qR (qV s.toList)).toArray⟩) x<;>simp [hz,hsz,hs1,y0,y1,zn,sn,yn,yn2,yn3,yn4]
    ·have hoff:qV (d::w)=d::w:=by unfold qV;rw [if_neg (by simpa using hd)]
     rw [hoff] at h2⊢
     have e36:(some d==some (36:UInt8))=false:=by simpa using hd
     simp only [e36,g3,h2,List.head?_cons,qC,qD,qG,qH,qJ,qK,Option.bind_some,qE,qM,qN]
     generalize l1I (d::w) 2=q at*
     obtain ⟨x,ok⟩:=q
     cases ok<;>cases hk:qAx (qEo ⟨(qR (qV s.toList)).toArray⟩) x<;>simp [hz,hsz,hs1,y0,y1,zn,sn,yn,yn2,yn3,yn4]
  ·by_cases hs0:(b.size:Int)>0
   ·obtain ⟨c,r,hcr⟩:∃c r,b.toList=c::r:=by
     cases hq:b.toList with
     |nil=>rw [qB3,hq] at hs0;simp at hs0
     |cons a l=>exact ⟨a,l,rfl⟩
    have hg:b.toList[0]?=some c:=by rw [hcr];rfl
    have hc:=hno c r hcr
    have hsz:(b.size:Int)>0:=hs0
    have hs1:(1:Int)≤b.size:=by omega
    have zn:(qR (qV b.toList)).length≤b.size:=by omega
    have sn:0<b.size:=by omega
    simp only [qCL,qC,qD,qG,qH,qJ,qK,Option.bind_some,qE,qM,qN,Int.toNat_natCast,e0,e1,hg,k36 c,hc,g1,g2]
    cases hq:ql (qV b.toList) with
    |nil=>
     have y0:(b.extract (qR (qV b.toList)).length b.size).size=0:=by rw [qB3,x2,hq];rfl
     have hoff:qV (ql (qV b.toList))= []:=by rw [hq];rfl
     rw [hoff] at h2
     rw [hq] at g3
     simp only [y0,g3,h2,qC,qD,qG,qH,qJ,qK,Option.bind_some,qE,qM,qN]
     have hoff':qV ([]:List UInt8)= []:=rfl
     rw [hoff']
     generalize l1I ([]:List UInt8) 2=q at*
     obtain ⟨x,ok⟩:=q
     cases ok<;>cases hk:qAx (qEo ⟨(qR (qV b.toList)).toArray⟩) x<;>simp [hz,hsz,hs1,zn,sn]
    |cons d w=>
     have y0:((b.extract (qR (qV b.toList)).length b.size).size:Int)>0:=by rw [qB3,x2,hq];simp<;>omega
     have y1:(1:Int)≤(b.extract (qR (qV b.toList)).length b.size).size:=by omega
     have ys:(b.extract (qR (qV b.toList)).length b.size).size=b.size-(qR (qV b.toList)).length:=by rw [qB3,qFO,List.length_drop,←qB3]
     have yn:(qR (qV b.toList)).length<b.size:=by omega
     have yn2:1≤b.size-(qR (qV b.toList)).length:=by omega
     have yn3:0<b.size-(qR (qV b.toList)).length:=by omega
     have yn4:(1:Int)≤((b.size-(qR (qV b.toList)).length:Nat):Int):=by omega
     have yg:(b.extract (qR (qV b.toList)).length b.size).toList[0]?=some d:=by rw [x2,hq];rfl
     rw [hq] at g3 g4 h2
     simp only [yg,k36 d,qC,qD,qG,qH,qJ,qK,Option.bind_some,qE,qM,qN]
     by_cases hd:d=36
     ·have hoff:qV (d::w)=w:=by unfold qV;rw [if_pos (by rw [hd];rfl)];rfl
      rw [hoff] at h2⊢
      have e36:(some d==some (36:UInt8))=true:=by rw [hd];rfl
      simp only [List.tail_cons] at g4
      simp only [e36,g4,h2,List.head?_cons,qC,qD,qG,qH,qJ,qK,Option.bind_some,qE,qM,qN]
      generalize l1I w 2=q at*
      obtain ⟨x,ok⟩:=q
      cases ok<;>cases hk:qAx (qEo ⟨(qR (qV b.toList)).toArray⟩) x<;>simp [hz,hsz,hs1,y0,y1,zn,sn,yn,yn2,yn3,yn4]
     ·have hoff:qV (d::w)=d::w:=by unfold qV;rw [if_neg (by simpa using hd)]
      rw [hoff] at h2⊢
      have e36:(some d==some (36:UInt8))=false:=by simpa using hd
      simp only [e36,g3,h2,List.head?_cons,qC,qD,qG,qH,qJ,qK,Option.bind_some,qE,qM,qN]
      generalize l1I (d::w) 2=q at*
      obtain ⟨x,ok⟩:=q
      cases ok<;>cases hk:qAx (qEo ⟨(qR (qV b.toList)).toArray⟩) x<;>simp [hz,hsz,hs1,y0,y1,zn,sn,yn,yn2,yn3,yn4]
   ·have hsz:¬(b.size:Int)>0:=hs0
    have hs1:True:=trivial
    have zn:(qR (qV b.toList)).length≤b.size:=by omega
    have sn:b.size=0:=by omega
    have lb:b.toList= []:=List.eq_nil_of_length_eq_zero (by rw [←qB3];omega)
    have hb0:ql (qV b.toList)= []:=by rw [lb];rfl
    have ln:qR (qV b.toList)= []:=by rw [lb];rfl
    simp only [qCL,qC,qD,qG,qH,qJ,qK,Option.bind_some,qE,qM,qN,Int.toNat_natCast,e0,e1,g1,g2]
    cases hq:ql (qV b.toList) with
    |nil=>
     have y0:(b.extract (qR (qV b.toList)).length b.size).size=0:=by rw [qB3,x2,hq];rfl
     have hoff:qV (ql (qV b.toList))= []:=by rw [hq];rfl
     rw [hoff] at h2
     rw [hq] at g3
     simp only [y0,g3,h2,qC,qD,qG,qH,qJ,qK,Option.bind_some,qE,qM,qN]
     have hoff':qV ([]:List UInt8)= []:=rfl
     rw [hoff']
     generalize l1I ([]:List UInt8) 2=q at*
     obtain ⟨x,ok⟩:=q
     cases ok<;>cases hk:qAx (qEo ⟨(qR (qV b.toList)).toArray⟩) x<;>simp [hz,hsz,hs1,zn,sn,ln]
    |cons d w=>rw [hb0] at hq;cases hq
 by_cases h36:s.toList.head?=some 36
 ·have ho:qV s.toList=s.toList.tail:=by unfold qV;rw [if_pos h36]
  have ht:(s.extract 1 s.size).toList=s.toList.tail:=by rw [qFO,List.drop_one]
  obtain ⟨c,r,hcr⟩:∃c r,s.toList=c::r:=by
   cases hq:s.toList with
   |nil=>rw [hq] at h36;cases h36
   |cons a l=>exact ⟨a,l,rfl⟩
  refine part (s.extract 1 s.size) true (by rw [qB3,ht,List.length_tail,←qB3];omega) (by rw [ht,ho]) (by rw [h36];rfl) (.inl ⟨rfl,rfl,c,r,hcr,?_⟩)
  rw [hcr] at h36
  simpa using h36
 ·have ho:qV s.toList=s.toList:=by unfold qV;rw [if_neg h36]
  refine part s false hb ho.symm (by symm;simpa using h36) (.inr ⟨rfl,rfl,fun c r hcr=>?_⟩)
  rw [hcr] at h36
  simpa using h36
def upS:ByteArray:=⟨#[65,66,67,68,69,70,71,72,73,74,75,76,77,78,79,80,81,82,83,84,85,86,87,88,89,90]⟩
theorem qSu:∀i:Fin 256,(upS.data.toList.contains (UInt8.ofNat i.val))=(decide (65≤i.val)&&decide (i.val≤90)):=by decide+kernel
theorem qTG (c:UInt8):(upS.data.toList.contains c)=qEQ c:=by
 have h:=qSu ⟨c.toNat,UInt8.toNat_lt c⟩
 have e:UInt8.ofNat c.toNat=c:=by simp
 simp only [e] at h
 exact h
theorem qRd:(upS.data.toList.all fun b=>decide (b.toNat<128))=true:=by decide+kernel
theorem qPt (s:ByteArray):Ev (qBM · s ⟨#[65,66,67,68,69,70,71,72,73,74,75,76,77,78,79,80,81,82,83,84,85,86,87,88,89,90]⟩) ⟨(ql s.toList).toArray⟩:=by
 refine ⟨1,fun n hn=>?_⟩
 obtain ⟨m,rfl,hm⟩:=up1 hn
 show zL s upS=_
 unfold zL
 rw [if_pos ⟨by decide,qRd⟩]
 unfold Lib.trimLeftS ql
 rw [Go.Lib.toList_data]
 have:(fun c=>upS.data.toList.contains c)=qEQ:=funext qTG
 rw [this]
theorem qPu (s:ByteArray):Ev (qAG · s ⟨#[36]⟩) (⟨(qV s.toList).toArray⟩,s.toList.head?==some 36):=by
 have h:=qFt s 36
 have es:(⟨s.toList.toArray⟩:ByteArray)=s:=qDN (qAu s.toList)
 by_cases e:s.toList.head?=some 36
 ·rw [if_pos e] at h
  have:(s.toList.head?==some 36)=true:=by simpa using e
  unfold qV
  rw [if_pos e,this]
  exact h
 ·rw [if_neg e] at h
  have:(s.toList.head?==some 36)=false:=by simpa using e
  unfold qV
  rw [if_neg e,this,es]
  exact h
theorem qQw {r:Int} (h:1≤r∧r≤99):l1I (Lib.itoa r) 2=(r,true):=by
 have e:Lib.itoa r=Lib.decDigits r.toNat:=by unfold Lib.itoa;rw [if_neg (by omega)]
 obtain ⟨h1,h2,h3,_,_⟩:=qC6 r.toNat
 have hl:(Lib.decDigits r.toNat).length≤2:=by
  rw [Lib.decDigits_length]
  exact qSo 2 r.toNat (by omega) (by
   have:(10:Nat)^2=100:=by decide
   omega)
 rw [e]
 unfold l1I
 rw [if_pos ⟨by omega,qOh _⟩,h2]
 congr 1
 omega
theorem qTH {l:List UInt8} (h:(l1I l 2).2=true):(l1I l 2).1=(qAg 0 l:Int)∧Lib.decDigits (qAg 0 l)=l:=by
 unfold l1I at h⊢
 split at h
 ·rename_i hc
  rw [if_pos hc]
  exact ⟨rfl,qMM _ l rfl hc.2⟩
 ·cases h
theorem qRe (s:ByteArray):qAv s=if qAx (qEo ⟨(qR (qV s.toList)).toArray⟩) (qBu ⟨(qV (ql (qV s.toList))).toArray⟩)=true∧
  (qAT (qEo ⟨(qR (qV s.toList)).toArray⟩) (qBu ⟨(qV (ql (qV s.toList))).toArray⟩) (s.toList.head?==some 36) ((ql (qV s.toList)).head?==some 36)).toList=s.toList then
   (qEo ⟨(qR (qV s.toList)).toArray⟩,qBu ⟨(qV (ql (qV s.toList))).toArray⟩,s.toList.head?==some 36,(ql (qV s.toList)).head?==some 36,true) else (0,0,false,false,false):=by
 have hoff:∀l:List UInt8,l=(if (l.head?==some 36)=true then [36] else [])++qV l:=fun l=>by
  unfold qV
  cases l with
  |nil=>rfl
  |cons c r=>
   by_cases e:c=36
   ·subst e;simp
   ·simp [e]
 have hsplit:qV s.toList=qR (qV s.toList)++ql (qV s.toList):=(List.takeWhile_append_dropWhile (p:=qEQ) (l:=qV s.toList)).symm
 have hs:s.toList=(if (s.toList.head?==some 36)=true then [36] else [])++qR (qV s.toList)++(if ((ql (qV s.toList)).head?==some 36)=true then [36] else [])++qV (ql (qV s.toList)):=by
  conv=>lhs;rw [hoff s.toList,hsplit,hoff (ql (qV s.toList))]
  simp only [List.append_assoc]
 unfold qAv
 generalize hL:qR (qV s.toList)=L at*
 generalize hR:qV (ql (qV s.toList))=R at*
 generalize (s.toList.head?==some 36)=fc at*
 generalize ((ql (qV s.toList)).head?==some 36)=fr at*
 have col:∀r,qAx (qEo ⟨L.toArray⟩) r=true→(qBj (qEo ⟨L.toArray⟩)).data.toList=L:=fun r h=>by
  have:=qRc (⟨L.toArray⟩:ByteArray) 52 1 (qEk h).1.1
  rw [qAu L,Go.Lib.toList_data] at this
  exact this
 have pl:∀r,qAx (qEo ⟨L.toArray⟩) r=true→(qAT (qEo ⟨L.toArray⟩) r fc fr).toList=(if fc=true then [36] else [])++L++(if fr=true then [36] else [])++Lib.itoa r:=fun r h=>by
  rw [Go.Lib.toList_data]
  unfold qAT
  rw [if_pos h,col r h]
  simp [qEH]
 have tR:(⟨R.toArray⟩:ByteArray).toList=R:=qAu R
 by_cases hA:(l1I R 2).2=true∧qAx (qEo ⟨L.toArray⟩) (l1I R 2).1=true
 ·obtain ⟨a1,a2⟩:=qTH hA.1
  have hr:=(qEk hA.2).2
  have hi:R=Lib.itoa (l1I R 2).1:=by
   rw [a1]
   unfold Lib.itoa
   rw [if_neg (by omega),Int.toNat_natCast,a2]
  have hp:qBu ⟨R.toArray⟩=(l1I R 2).1:=qJG (by rw [tR];exact hi) (by omega)
  rw [if_pos hA,hp,if_pos ⟨hA.2,by rw [pl _ hA.2,←hi];exact hs.symm⟩]
 ·rw [if_neg hA,if_neg]
  rintro ⟨h1,h2⟩
  rw [pl _ h1] at h2
  have h3:R=Lib.itoa (qBu ⟨R.toArray⟩):=by
   rw [hs] at h2
   exact (List.append_cancel_left h2).symm
  have h4:=qQw (qEk h1).2
  rw [←h3] at h4
  exact hA (by rw [h4];exact ⟨rfl,h1⟩)
theorem qLK (s:ByteArray) (hb:s.size≤1048576):Ev (qAk · s) (qAv s):=by
 rw [qRe]
 have hlen:=qMf (qV s.toList)
 have lo:(qV s.toList).length≤s.size:=by
  unfold qV
  rw [qB3]
  split
  ·rw [List.length_tail];omega
  ·exact Nat.le_refl _
 have l2:(ql (qV s.toList)).length+(qR (qV s.toList)).length=(qV s.toList).length:=by
  have h:=congrArg List.length (List.takeWhile_append_dropWhile (p:=qEQ) (l:=qV s.toList))
  rw [List.length_append] at h
  unfold ql qR
  omega
 have z1:(⟨(qV s.toList).toArray⟩:ByteArray).size=(qV s.toList).length:=by rw [qB3,qAu (qV s.toList)]
 have z2:(⟨(ql (qV s.toList)).toArray⟩:ByteArray).size=(ql (qV s.toList)).length:=by rw [qB3,qAu (ql (qV s.toList))]
 have w1:IntKind.i64.wrap (((qV s.toList).length:Int)-(ql (qV s.toList)).length)=((qR (qV s.toList)).length:Int):=by rw [qX (by omega)];omega
 have x1:(⟨(qV s.toList).toArray⟩:ByteArray).extract 0 (qR (qV s.toList)).length=⟨(qR (qV s.toList)).toArray⟩:=qDN (by rw [qPs,qAu (qV s.toList),qLH,qAu (qR (qV s.toList))])
 have x2:(⟨(qV s.toList).toArray⟩:ByteArray).extract (qR (qV s.toList)).length (qV s.toList).length=⟨(ql (qV s.toList)).toArray⟩:=qDN (by rw [←z1,qFO,qAu (qV s.toList),qH7,qAu (ql (qV s.toList))])
 have lr:(⟨(qV (ql (qV s.toList))).toArray⟩:ByteArray).size≤281474976710656:=by
  rw [qB3,qAu (qV (ql (qV s.toList)))]
  have:(qV (ql (qV s.toList))).length≤(ql (qV s.toList)).length:=by
   generalize ql (qV s.toList)=q
   unfold qV
   split
   ·rw [List.length_tail];omega
   ·exact Nat.le_refl _
  omega
 obtain ⟨n1,h1⟩:=qPu s
 obtain ⟨n2,h2⟩:=qPt ⟨(qV s.toList).toArray⟩
 rw [qAu (qV s.toList)] at h2
 obtain ⟨n3,h3⟩:=qNG ⟨(qR (qV s.toList)).toArray⟩
 obtain ⟨n4,h4⟩:=qPu ⟨(ql (qV s.toList)).toArray⟩
 rw [qAu (ql (qV s.toList))] at h4
 generalize qV s.toList=A at*
 generalize ql A=Bq at*
 generalize qR A=L at*
 generalize qV Bq=R at*
 generalize (s.toList.head?==some 36)=fc at*
 generalize (Bq.head?==some 36)=fr at*
 obtain ⟨n5,h5⟩:=qDy (qEo ⟨L.toArray⟩) (qBu ⟨R.toArray⟩)
 obtain ⟨n6,h6⟩:=qDR (qEo ⟨L.toArray⟩) (qBu ⟨R.toArray⟩) fc fr
 have e0:(0:Int).toNat=0:=rfl
 have c1:L.length≤A.length:=by omega
 rcases qMd ⟨R.toArray⟩ lr with ⟨n7,h7⟩|⟨n7,h7⟩
 all_goals
  refine ⟨n1+n2+n3+n4+n5+n6+n7+1,fun n hn=>?_⟩
  obtain ⟨m,rfl,hm⟩:=up1 hn
  have h1:=h1 m (by omega)
  have h2:=h2 m (by omega)
  have h3:=h3 m (by omega)
  have h4:=h4 m (by omega)
  have h5:=h5 m (by omega)
  have h6:=h6 m (by omega)
  have h7:=h7 m (by omega)
  dsimp only at h1 h2 h3 h4 h5 h6 h7
  simp only [qAk,qE1,qC,qD,qG,qH,qJ,qK,Option.bind_some,qE,qM,qN,h1,h2,z1,z2,w1,Int.toNat_natCast,e0,x1,x2,h3,h4,h5,h6,h7]
  cases hk:qAx (qEo ⟨L.toArray⟩) (qBu ⟨R.toArray⟩) with
  |false=>simp [c1]
  |true=>by_cases e:(qAT (qEo ⟨L.toArray⟩) (qBu ⟨R.toArray⟩) fc fr).toList=s.toList<;>simp [c1,e]
theorem qRf:∀i:Fin 52,qEo (qBj ((i.val:Int)+1))=(i.val:Int)+1:=by decide+kernel
theorem qRN {c:Int} (h:1≤c∧c≤52):qEo (qBj c)=c:=by
 have:=qRf ⟨(c-1).toNat,by omega⟩
 have e:(((c-1).toNat:Nat):Int)+1=c:=by omega
 simpa only [e] using this
theorem qRg:∀i:Fin 52,(qBj ((i.val:Int)+1)).data.toList.all qEQ=true∧(qBj ((i.val:Int)+1)).data.toList.head?≠some 36∧(qBj ((i.val:Int)+1)).data.toList≠ []:=by decide+kernel
theorem qPQ {c:Int} (h:1≤c∧c≤52):(qBj c).data.toList.all qEQ=true∧(qBj c).data.toList.head?≠some 36∧(qBj c).data.toList≠ []:=by
 have:=qRg ⟨(c-1).toNat,by omega⟩
 have e:(((c-1).toNat:Nat):Int)+1=c:=by omega
 simpa only [e] using this
theorem qPv {l r:List UInt8} (h:l.all qEQ=true) (h2:∀c,r.head?=some c→qEQ c=false):qR (l++r)=l∧ql (l++r)=r:=by
 unfold qR ql
 rw [List.all_eq_true] at h
 rw [List.takeWhile_append_of_pos h,List.dropWhile_append_of_pos h]
 cases r with
 |nil=>simp
 |cons c r=>simp [h2 c rfl]
theorem qPw (l:List UInt8):qV (36::l)=l:=rfl
theorem qRh {l:List UInt8} (h:l.head?≠some 36):qV l=l:=by unfold qV;rw [if_neg h]
theorem qKj {c r:Int} {fc fr:Bool} (h:qAx c r=true):qAv (qAT c r fc fr)=(c,r,fc,fr,true):=by
 obtain ⟨hc,hr⟩:=qEk h
 obtain ⟨u1,u2,u3⟩:=qPQ hc
 have ht:(qAT c r fc fr).toList=(if fc=true then [36] else [])++((qBj c).data.toList++((if fr=true then [36] else [])++Lib.itoa r)):=by
  rw [Go.Lib.toList_data]
  simp [qAT,h,qEH]
 have hi:∃d w,Lib.itoa r=d::w∧qAe d=true:=by
  unfold Lib.itoa
  rw [if_neg (by omega)]
  exact qHi _
 obtain ⟨d,w,hdw,hd⟩:=hi
 have hd1:qEQ d=false:=by
  simp only [qAe,Bool.and_eq_true,decide_eq_true_eq] at hd
  simp [qEQ];omega
 have hd2:d≠36:=fun e=>by rw [e] at hd;cases hd
 have e1:qV (qAT c r fc fr).toList=(qBj c).data.toList++((if fr=true then [36] else [])++Lib.itoa r):=by
  rw [ht]
  cases fc with
  |true=>exact qPw _
  |false=>
   refine qRh ?_
   cases hq:(qBj c).data.toList with
   |nil=>exact absurd hq u3
   |cons a b=>rw [hq] at u2;simpa using u2
 have e2:=qPv (l:=(qBj c).data.toList) (r:=(if fr=true then [36] else [])++Lib.itoa r) u1 (fun q hq=>by
  cases fr with
  |true=>simp at hq;rw [←hq];decide
  |false=>simp [hdw] at hq;rw [←hq];exact hd1)
 have e3:qV ((if fr=true then [36] else [])++Lib.itoa r)=Lib.itoa r:=by
  cases fr with
  |true=>exact qPw _
  |false=>exact qRh (by simp [hdw,hd2])
 unfold qAv
 rw [e1,e2.1,e2.2,e3,qQw hr]
 have hm:(⟨((qBj c).data.toList).toArray⟩:ByteArray)=qBj c:=by simp
 rw [hm,qRN hc,if_pos ⟨rfl,h⟩]
 have q1:((qAT c r fc fr).toList.head?==some 36)=fc:=by
  rw [ht]
  cases fc with
  |true=>rfl
  |false=>
   cases hq:(qBj c).data.toList with
   |nil=>exact absurd hq u3
   |cons a b=>rw [hq] at u2;simpa using u2
 have q2:(((if fr=true then [36] else [])++Lib.itoa r).head?==some (36:UInt8))=fr:=by
  cases fr with
  |true=>rfl
  |false=>simp [hdw,hd2]
 rw [q1,q2]
theorem qOl {l:List (List PV)} {p:Int} (k:Int) (hk:1≤k∧k≤1000000) (hl:qHh l) (hp:0≤p∧p≤l.length):∃(a p':Int),(0≤p'∧p'≤l.length)∧(0≤a∧a<k)∧∀n,2≤n→qP n k l p=some (a,l,p'):=by
 by_cases h:k=1
 ·subst h
  refine ⟨0,p,hp,by decide,fun n hn=>?_⟩
  obtain ⟨m,rfl,hm⟩:=up1 hn
  simp [qP,qCY,qC,qD,qG,qH,qJ,qK,Option.bind_some,qE,qM,qN]
 ·exact qBT k (by omega) hl hp
theorem qOm:∀{rows:List (List PV)} {bl:List UInt8} (a:Int),bytesOf rows=some bl→∃c,bytesOf (rows++ [[.i .u8 a]])=some (bl++ [c])
 | [],bl,a,h=>by
  simp only [bytesOf,Option.some.injEq] at h
  subst h
  exact ⟨_,rfl⟩
 |r::rows,bl,a,h=>by
  unfold bytesOf at h
  split at h
  ·rename_i heq
   cases heq
  ·rename_i x rs heq
   cases heq
   obtain ⟨q,hq,rfl⟩:=Option.map_eq_some_iff.1 h
   obtain ⟨c,hc⟩:=qOm a hq
   refine ⟨c,?_⟩
   simp only [List.cons_append,bytesOf,hc,Option.map_some]
  ·cases h
theorem qOn:∀{rows:List (List PV)} {bl:List UInt8},bytesOf rows=some bl→bl.length=rows.length
 | [],bl,h=>by
  simp only [bytesOf,Option.some.injEq] at h
  subst h
  rfl
 |r::rows,bl,h=>by
  unfold bytesOf at h
  split at h
  ·rename_i heq
   cases heq
  ·rename_i x rs heq
   cases heq
   obtain ⟨q,hq,rfl⟩:=Option.map_eq_some_iff.1 h
   simp [qOn hq]
  ·cases h
theorem qNv {l:List (List PV)} (hl:qHh l):∀(m:Nat) (rows:List (List PV)) (bl:List UInt8) (p:Int),bytesOf rows=some bl→rows.length+m≤1000→(0≤p∧p≤l.length)→∃(rows':List (List PV)) (bl':List UInt8) (p':Int),(0≤p'∧p'≤l.length)∧bytesOf rows'=some bl'∧rows'.length=rows.length+m∧∀n M,2≤n→m+1≤M→zC (qB1 n) M (rows.length,(m:Int),rows,l,p)=some (rows'.length,rows',l,p')
 |0,rows,bl,p,hb,hr,hp=>by
  refine ⟨rows,bl,p,hp,hb,rfl,fun n M hn hM=>?_⟩
  obtain ⟨M,rfl⟩:∃q,M=q+1:=⟨M-1,by omega⟩
  rw [qQ (r:=(rows.length,rows,l,p)) (by simp [qB1,qC,qD,qG,qH,qJ,qK,Option.bind_some,qE,qM,qN])]
 |m+1,rows,bl,p,hb,hr,hp=>by
  obtain ⟨a,p1,h1,h2,h3⟩:=qBT 256 (by decide) hl hp
  obtain ⟨c,hc⟩:=qOm (IntKind.u8.wrap a) hb
  obtain ⟨rows',bl',p2,h4,h5,h6,h7⟩:=qNv hl m (rows++ [[.i .u8 (IntKind.u8.wrap a)]]) _ p1 hc (by simp;omega) h1
  refine ⟨rows',bl',p2,h4,h5,by rw [h6];simp;omega,fun n M hn hM=>?_⟩
  obtain ⟨M,rfl⟩:∃q,M=q+1:=⟨M-1,by omega⟩
  have h3:=h3 n hn
  have w1:IntKind.i64.wrap (((m+1:Nat):Int)-1)=(m:Int):=by rw [qX (by omega)];omega
  have h8:=h7 n M hn (by omega)
  have e:(rows++ [[PV.i .u8 (IntKind.u8.wrap a)]]).length=rows.length+1:=by simp
  rw [e] at h8
  rw [qc (v':=(rows.length+1,(m:Int),rows++ [[PV.i .u8 (IntKind.u8.wrap a)]],l,p1)) (by
   have g1:((m+1:Nat):Int)>0:=by omega
   have g2:rows.length+1≤140737488355328:=by omega
   simp only [qB1,qC,qD,qG,qH,qJ,qK,Option.bind_some,qE,qM,qN,h3,w1]
   simp [g1,g2])]
  exact h8
theorem qRi {l:List (List PV)} {p:Int} (k:Nat) (hk:1≤k∧k≤200) (hl:qHh l) (hp:0≤p∧p≤l.length):∃(t:ByteArray) (p':Int),(0≤p'∧p'≤l.length)∧t.size≤k∧∀n,k+5≤n→qCa n (k:Int) l p=some (t,l,p'):=by
 obtain ⟨a,p1,h1,h2,h3⟩:=qBT ((k:Int)+1) (by omega) hl hp
 obtain ⟨rows,bl,p2,h4,h5,h6,h7⟩:=qNv hl a.toNat [] [] p1 rfl (by simp;omega) h1
 refine ⟨⟨bl.toArray⟩,p2,h4,?_,fun n hn=>?_⟩
 ·have:=qOn h5
  show bl.toArray.size≤k
  simp at h6
  simp
  omega
 ·obtain ⟨m,rfl,hm⟩:=up1 (n0:=k+4) hn
  have h3:=h3 m (by omega)
  have h7:=h7 m m (by omega) (by omega)
  have w1:IntKind.i64.wrap ((k:Int)+1)=(k:Int)+1:=qX (by omega)
  have e:((a.toNat:Nat):Int)=a:=by omega
  rw [e] at h7
  simp only [List.length_nil] at h7
  simp [qCa,qEU,qC,qD,qG,qH,qJ,qK,Option.bind_some,qE,qM,qN,h3,h7,w1,h5]
theorem qSM {l:List (List PV)} {p:Int} (s:ByteArray) (hs:s.size≤200000) (hl:qHh l) (hp:0≤p∧p≤l.length):∃(t:ByteArray) (p':Int),(0≤p'∧p'≤l.length)∧t.size≤s.size+10∧∀n,10≤n→qA8 n s l p=some (t,l,p'):=by
 have ex:∀a b:Nat,a≤b→b≤s.size→(s.extract a b).size=b-a:=fun a b h1 h2=>by
  rw [ByteArray.size_extract];omega
 obtain ⟨a,p1,h1,h2,h3⟩:=qBT 6 (by decide) hl hp
 have c:a=0∨a=1∨a=2∨(a=3∨a=4∨a=5):=by omega
 rcases c with rfl|rfl|rfl|c
 ·obtain ⟨t,p2,h4,h5,h6⟩:=qRi 2 (by decide) hl h1
  refine ⟨s++t,p2,h4,by rw [ByteArray.size_append];omega,fun n hn=>?_⟩
  obtain ⟨m,rfl,hm⟩:=up1 hn
  have h3:=h3 m (by omega)
  have h6:=h6 m (by omega)
  have z:s.size+t.size≤9223372036854775807:=by omega
  have h6:qCa m 2 l p1=some (t,l,p2):=h6
  simp [qA8,qBk,qC,qD,qG,qH,qJ,qK,Option.bind_some,qE,qM,qN,h3,h6,z]
 ·obtain ⟨b,p2,h4,h5,h6⟩:=qOl ((s.size:Int)+1) (by omega) hl h1
  refine ⟨s.extract 0 b.toNat,p2,h4,by rw [ex _ _ (by omega) (by omega)];omega,fun n hn=>?_⟩
  obtain ⟨m,rfl,hm⟩:=up1 hn
  have h3:=h3 m (by omega)
  have h6:=h6 m (by omega)
  have w1:IntKind.i64.wrap ((s.size:Int)+1)=(s.size:Int)+1:=qX (by omega)
  have z:b≤s.size:=by omega
  simp [qA8,qBk,qC,qD,qG,qH,qJ,qK,Option.bind_some,qE,qM,qN,h3,h6,w1,z,h5.1]
 ·by_cases h0:(s.size:Int)>0
  ·obtain ⟨b,p2,h4,h5,h6⟩:=qOl (s.size:Int) (by omega) hl h1
   obtain ⟨d,p3,h7,h8,h9⟩:=qBT 6 (by decide) hl h4
   have c:d=0∨d=1∨d=2∨d=3∨d=4∨d=5:=by omega
   have key:∀u:ByteArray,u.size=1→(([[(.s (⟨#[65]⟩:ByteArray))],[(.s (⟨#[49]⟩:ByteArray))],[(.s (⟨#[40]⟩:ByteArray))],[(.s (⟨#[44]⟩:ByteArray))],[(.s (⟨#[34]⟩:ByteArray))],[(.s (⟨#[32]⟩:ByteArray))]]:List (List PV))[d.toNat]?=some [.s u])→∃(t:ByteArray) (p':Int),(0≤p'∧p'≤l.length)∧t.size≤s.size+10∧∀n,10≤n→qA8 n s l p=some (t,l,p'):=fun u hu hg=>by
    have z1:=ex 0 b.toNat (by omega) (by omega)
    have z2:=ex (b+1).toNat s.size (by omega) (by omega)
    refine ⟨(s.extract 0 b.toNat++u)++s.extract (b+1).toNat s.size,p3,h7,by rw [ByteArray.size_append,ByteArray.size_append];omega,fun n hn=>?_⟩
    obtain ⟨m,rfl,hm⟩:=up1 hn
    have h3:=h3 m (by omega)
    have h6:=h6 m (by omega)
    have h9:=h9 m (by omega)
    have w1:IntKind.i64.wrap (b+1)=b+1:=qX (by omega)
    have y1:(0:Int)≤(0:Int)∧(0:Int)≤b∧b≤s.size:=by omega
    have y2:0≤b+1∧b+1≤(s.size:Int)∧(s.size:Int)≤s.size:=by omega
    have y3:0≤d∧d<6:=h8
    have y4:(s.extract 0 b.toNat).size+u.size≤9223372036854775807:=by omega
    have y5:(s.extract 0 b.toNat++u).size+(s.extract (b+1).toNat s.size).size≤9223372036854775807:=by rw [ByteArray.size_append];omega
    have e0:((0:Int)).toNat=0:=rfl
    have e1:((s.size:Int)).toNat=s.size:=Int.toNat_natCast _
    simp only [qA8,qBk,qC,qD,qG,qH,qJ,qK,Option.bind_some,qE,qM,qN,h3,h6,h9,w1,hg,e0,e1,decide_eq_true h0,decide_eq_true y1,decide_eq_true y2,zp,List.getElem?_cons_zero,decide_eq_true y4,decide_eq_true y5]
    simp [y3]
   rcases c with rfl|rfl|rfl|rfl|rfl|rfl
   ·exact key _ (by decide) rfl
   ·exact key _ (by decide) rfl
   ·exact key _ (by decide) rfl
   ·exact key _ (by decide) rfl
   ·exact key _ (by decide) rfl
   ·exact key _ (by decide) rfl
  ·refine ⟨s,p1,h1,by omega,fun n hn=>?_⟩
   obtain ⟨m,rfl,hm⟩:=up1 hn
   have h3:=h3 m (by omega)
   have h0':s.size=0:=by omega
   simp [qA8,qBk,qC,qD,qG,qH,qJ,qK,Option.bind_some,qE,qM,qN,h3,h0']
 ·refine ⟨s,p1,h1,by omega,fun n hn=>?_⟩
  obtain ⟨m,rfl,hm⟩:=up1 hn
  have h3:=h3 m (by omega)
  rcases c with rfl|rfl|rfl<;>simp [qA8,qBk,qC,qD,qG,qH,qJ,qK,Option.bind_some,qE,qM,qN,h3]
theorem qEM (c r:Int) (fc fr:Bool):(qAT c r fc fr).size≤30:=by
 unfold qAT
 split
 ·rename_i h
  have h1:=qML c
  have h2:=qKg (qEk h).2
  rw [qCu]
  cases fc<;>cases fr<;>simp<;>omega
 ·decide
abbrev Nd:=Int×Int×Int×Int×ByteArray×Int×Int×Bool×Bool×Int×Int×Bool×Bool×List Int
def qBE (x:Int):List PV:= [.i .i64 x]
def qd (c:Nd):List PV:= [.i .i64 c.1,.i .i64 c.2.1,.i .i64 c.2.2.1,.i .i64 c.2.2.2.1,.s c.2.2.2.2.1,.i .i64 c.2.2.2.2.2.1,.i .i64 c.2.2.2.2.2.2.1,.b c.2.2.2.2.2.2.2.1,.b c.2.2.2.2.2.2.2.2.1,.i .i64 c.2.2.2.2.2.2.2.2.2.1,.i .i64 c.2.2.2.2.2.2.2.2.2.2.1,.b c.2.2.2.2.2.2.2.2.2.2.2.1,.b c.2.2.2.2.2.2.2.2.2.2.2.2.1,.ls ((c.2.2.2.2.2.2.2.2.2.2.2.2.2).map qBE)]
def kd (c:Nd):List Int:=c.2.2.2.2.2.2.2.2.2.2.2.2.2
def qFn (op n:Int):Bool:=if op=5 then decide (n=2∨n=3) else if 8≤op∧op≤10 then decide (n=1) else if 1≤op∧op≤7 then decide (1≤n∧n≤10) else false
theorem ten {op:Int} (h:1≤op∧op≤10):op=1∨op=2∨op=3∨op=4∨op=5∨op=6∨op=7∨op=8∨op=9∨op=10:=by omega
theorem qNw (op n:Int):Ev (qFD · op n) (qFn op n):=by
 refine ⟨1,fun n hn=>?_⟩
 obtain ⟨m,rfl,hm⟩:=up1 hn
 simp only [qFD,qHB,qC,qD,qG,qH,qJ,qK,Option.bind_some,qE,qM,qN]
 by_cases h:1≤op∧op≤10
 ·rcases ten h with rfl|rfl|rfl|rfl|rfl|rfl|rfl|rfl|rfl|rfl
  all_goals
   first
   |(by_cases h2:n=2<;>simp [qFn,h2];done)
   |(by_cases h1:n≥1<;>simp [qFn,h1];done)
   |(by_cases h1:n=1<;>simp [qFn,h1];done)
   |(by_cases h2:n=2<;>by_cases h3:n=3<;>simp [qFn,h2,h3];done)
   |(simp [qFn];done)
 ·have e1:¬op=1:=by omega
  have e2:¬op=2:=by omega
  have e3:¬op=3:=by omega
  have e4:¬op=4:=by omega
  have e5:¬op=5:=by omega
  have e6:¬op=6:=by omega
  have e7:¬op=7:=by omega
  have e8:¬op=8:=by omega
  have e9:¬op=9:=by omega
  have e10:¬op=10:=by omega
  have g1:¬(8≤op∧op≤10):=by omega
  have g2:¬(1≤op∧op≤7):=by omega
  simp [qFn,e1,e2,e3,e4,e5,e6,e7,e8,e9,e10,g1,g2]
def zV (k x:Int) (s:ByteArray):Bool:=decide (k=0)&&(decide (x=0)&&(s.toList== []))
def zP (a b:Int) (f g:Bool):Bool:=decide (a=0)&&(decide (b=0)&&(!f&&!g))
def qCI (c:Nd):Bool:=
 if c.1=1 then decide (c.2.1=0)&&(zP c.2.2.2.2.2.1 c.2.2.2.2.2.2.1 c.2.2.2.2.2.2.2.1 c.2.2.2.2.2.2.2.2.1&&(zP c.2.2.2.2.2.2.2.2.2.1 c.2.2.2.2.2.2.2.2.2.2.1 c.2.2.2.2.2.2.2.2.2.2.2.1 c.2.2.2.2.2.2.2.2.2.2.2.2.1&&(decide ((kd c).length=0)&&(okV c.2.2.1 c.2.2.2.1 c.2.2.2.2.1&&(!decide (c.2.2.1=0)&&(!decide (c.2.2.1=1)||decide (c.2.2.2.1≥0))))))) else
 if c.1=2 then decide (c.2.1=0)&&(zV c.2.2.1 c.2.2.2.1 c.2.2.2.2.1&&(zP c.2.2.2.2.2.2.2.2.2.1 c.2.2.2.2.2.2.2.2.2.2.1 c.2.2.2.2.2.2.2.2.2.2.2.1 c.2.2.2.2.2.2.2.2.2.2.2.2.1&&(decide ((kd c).length=0)&&qAx c.2.2.2.2.2.1 c.2.2.2.2.2.2.1))) else
 if c.1=3 then decide (c.2.1=0)&&(zV c.2.2.1 c.2.2.2.1 c.2.2.2.2.1&&(decide ((kd c).length=0)&&qEj c.2.2.2.2.2.1 c.2.2.2.2.2.2.1 c.2.2.2.2.2.2.2.2.2.1 c.2.2.2.2.2.2.2.2.2.2.1)) else
 if c.1=4 then decide (c.2.1=0)&&(zV c.2.2.1 c.2.2.2.1 c.2.2.2.2.1&&(zP c.2.2.2.2.2.1 c.2.2.2.2.2.2.1 c.2.2.2.2.2.2.2.1 c.2.2.2.2.2.2.2.2.1&&(zP c.2.2.2.2.2.2.2.2.2.1 c.2.2.2.2.2.2.2.2.2.2.1 c.2.2.2.2.2.2.2.2.2.2.2.1 c.2.2.2.2.2.2.2.2.2.2.2.2.1&&decide ((kd c).length=1)))) else
 if c.1=5 then decide (1≤c.2.1∧c.2.1≤11)&&(zV c.2.2.1 c.2.2.2.1 c.2.2.2.2.1&&(zP c.2.2.2.2.2.1 c.2.2.2.2.2.2.1 c.2.2.2.2.2.2.2.1 c.2.2.2.2.2.2.2.2.1&&(zP c.2.2.2.2.2.2.2.2.2.1 c.2.2.2.2.2.2.2.2.2.2.1 c.2.2.2.2.2.2.2.2.2.2.2.1 c.2.2.2.2.2.2.2.2.2.2.2.2.1&&decide ((kd c).length=2)))) else
 if c.1=6 then qFn c.2.1 ((kd c).length:Int)&&(zV c.2.2.1 c.2.2.2.1 c.2.2.2.2.1&&(zP c.2.2.2.2.2.1 c.2.2.2.2.2.2.1 c.2.2.2.2.2.2.2.1 c.2.2.2.2.2.2.2.2.1&&zP c.2.2.2.2.2.2.2.2.2.1 c.2.2.2.2.2.2.2.2.2.2.1 c.2.2.2.2.2.2.2.2.2.2.2.1 c.2.2.2.2.2.2.2.2.2.2.2.2.1)) else false
theorem qTI (k x:Int) (s:ByteArray):((k==(0:Int))&&((x==(0:Int))&&((s.toList==(⟨#[]⟩:ByteArray).toList)&&true)))=zV k x s:=by
 rw [qk]
 unfold zV
 by_cases h:k=0<;>by_cases h2:x=0<;>simp [h,h2]
theorem qTJ (k x:Int) (s:ByteArray):(((0:Int)==k)&&(((0:Int)==x)&&(((⟨#[]⟩:ByteArray).toList==s.toList)&&true)))=zV k x s:=by
 rw [←qTI]
 congr 1
 ·exact Bool.beq_comm
 ·congr 1
  ·exact Bool.beq_comm
  ·congr 1
   exact Bool.beq_comm
theorem qTK (a b:Int) (f g:Bool):((a==(0:Int))&&((b==(0:Int))&&((f==false)&&((g==false)&&true))))=zP a b f g:=by
 unfold zP
 by_cases h:a=0<;>by_cases h2:b=0<;>cases f<;>cases g<;>simp [h,h2]
theorem qTL (a b:Int) (f g:Bool):(((0:Int)==a)&&(((0:Int)==b)&&((false==f)&&((false==g)&&true))))=zP a b f g:=by
 rw [←qTK]
 congr 1
 ·exact Bool.beq_comm
 ·congr 1
  ·exact Bool.beq_comm
  ·cases f<;>cases g<;>rfl
theorem qHk (c:Nd) (hb:c.2.2.2.2.1.size≤140737488351232):Ev (qB7 · c.1 c.2.1 c.2.2.1 c.2.2.2.1 c.2.2.2.2.1 c.2.2.2.2.2.1 c.2.2.2.2.2.2.1 c.2.2.2.2.2.2.2.1 c.2.2.2.2.2.2.2.2.1 c.2.2.2.2.2.2.2.2.2.1 c.2.2.2.2.2.2.2.2.2.2.1 c.2.2.2.2.2.2.2.2.2.2.2.1 c.2.2.2.2.2.2.2.2.2.2.2.2.1 ((c.2.2.2.2.2.2.2.2.2.2.2.2.2).map qBE)) (qCI c):=by
 obtain ⟨n1,h1⟩:=qAF c.2.2.1 c.2.2.2.1 c.2.2.2.2.1 hb
 obtain ⟨n2,h2⟩:=qDL c.2.2.2.2.2.1 c.2.2.2.2.2.2.1
 obtain ⟨n3,h3⟩:=qNq c.2.2.2.2.2.1 c.2.2.2.2.2.2.1 c.2.2.2.2.2.2.2.2.2.1 c.2.2.2.2.2.2.2.2.2.2.1
 obtain ⟨n4,h4⟩:=qCl c.2.1 1 11
 obtain ⟨n5,h5⟩:=qNw c.2.1 (((c.2.2.2.2.2.2.2.2.2.2.2.2.2).map qBE).length:Int)
 refine ⟨n1+n2+n3+n4+n5+1,fun n hn=>?_⟩
 obtain ⟨m,rfl,hm⟩:=up1 hn
 have h1:=h1 m (by omega)
 dsimp only at h1
 have h2:=h2 m (by omega)
 dsimp only at h2
 have h3:=h3 m (by omega)
 dsimp only at h3
 have h4:=h4 m (by omega)
 dsimp only at h4
 have h5:=h5 m (by omega)
 dsimp only at h5
 simp only [qB7,qFZ,qC,qD,qG,qH,qJ,qK,Option.bind_some,qE,qM,qN,h1,h2,h3,h4,h5]
 have hk:((c.2.2.2.2.2.2.2.2.2.2.2.2.2).map qBE).length=(kd c).length:=by rw [List.length_map];rfl
 simp only [qTI,qTK,hk]
 unfold qCI
 by_cases k1:c.1=1
 ·simp only [k1,if_true,beq_self_eq_true]
  cases zP c.2.2.2.2.2.1 c.2.2.2.2.2.2.1 c.2.2.2.2.2.2.2.1 c.2.2.2.2.2.2.2.2.1<;>cases zP c.2.2.2.2.2.2.2.2.2.1 c.2.2.2.2.2.2.2.2.2.2.1 c.2.2.2.2.2.2.2.2.2.2.2.1 c.2.2.2.2.2.2.2.2.2.2.2.2.1<;>cases okV c.2.2.1 c.2.2.2.1 c.2.2.2.2.1<;>by_cases h0:c.2.1=0<;>by_cases h1:(kd c).length=0<;>by_cases h2:c.2.2.1=0<;>by_cases h3:c.2.2.1=1<;>simp [h0,h1,h2,h3]
 by_cases k2:c.1=2
 ·simp only [k2]
  cases zV c.2.2.1 c.2.2.2.1 c.2.2.2.2.1<;>cases zP c.2.2.2.2.2.2.2.2.2.1 c.2.2.2.2.2.2.2.2.2.2.1 c.2.2.2.2.2.2.2.2.2.2.2.1 c.2.2.2.2.2.2.2.2.2.2.2.2.1<;>cases qAx c.2.2.2.2.2.1 c.2.2.2.2.2.2.1<;>by_cases h0:c.2.1=0<;>by_cases h1:(kd c).length=0<;>simp [h0,h1]
 by_cases k3:c.1=3
 ·simp only [k3]
  cases zV c.2.2.1 c.2.2.2.1 c.2.2.2.2.1<;>cases qEj c.2.2.2.2.2.1 c.2.2.2.2.2.2.1 c.2.2.2.2.2.2.2.2.2.1 c.2.2.2.2.2.2.2.2.2.2.1<;>by_cases h0:c.2.1=0<;>by_cases h1:(kd c).length=0<;>simp [h0,h1]
 by_cases k4:c.1=4
 ·simp only [k4]
  cases zV c.2.2.1 c.2.2.2.1 c.2.2.2.2.1<;>cases zP c.2.2.2.2.2.1 c.2.2.2.2.2.2.1 c.2.2.2.2.2.2.2.1 c.2.2.2.2.2.2.2.2.1<;>cases zP c.2.2.2.2.2.2.2.2.2.1 c.2.2.2.2.2.2.2.2.2.2.1 c.2.2.2.2.2.2.2.2.2.2.2.1 c.2.2.2.2.2.2.2.2.2.2.2.2.1<;>by_cases h0:c.2.1=0<;>by_cases h1:(kd c).length=1<;>simp [h0,h1]<;>omega
 by_cases k5:c.1=5
 ·simp only [k5]
  cases zV c.2.2.1 c.2.2.2.1 c.2.2.2.2.1<;>cases zP c.2.2.2.2.2.1 c.2.2.2.2.2.2.1 c.2.2.2.2.2.2.2.1 c.2.2.2.2.2.2.2.2.1<;>cases zP c.2.2.2.2.2.2.2.2.2.1 c.2.2.2.2.2.2.2.2.2.2.1 c.2.2.2.2.2.2.2.2.2.2.2.1 c.2.2.2.2.2.2.2.2.2.2.2.2.1<;>by_cases h0:1≤c.2.1∧c.2.1≤11<;>by_cases h1:(kd c).length=2<;>simp [h0,h1]<;>omega
 by_cases k6:c.1=6
 ·simp only [k6]
  cases zV c.2.2.1 c.2.2.2.1 c.2.2.2.2.1<;>cases zP c.2.2.2.2.2.1 c.2.2.2.2.2.2.1 c.2.2.2.2.2.2.2.1 c.2.2.2.2.2.2.2.2.1<;>cases zP c.2.2.2.2.2.2.2.2.2.1 c.2.2.2.2.2.2.2.2.2.2.1 c.2.2.2.2.2.2.2.2.2.2.2.1 c.2.2.2.2.2.2.2.2.2.2.2.2.1<;>cases qFn c.2.1 ((kd c).length:Int)<;>simp
 simp [k1,k2,k3,k4,k5,k6]
theorem qNx (c:Nd):Ev (qAM · c.1 c.2.1 c.2.2.1 c.2.2.2.1 c.2.2.2.2.1 c.2.2.2.2.2.1 c.2.2.2.2.2.2.1 c.2.2.2.2.2.2.2.1 c.2.2.2.2.2.2.2.2.1 c.2.2.2.2.2.2.2.2.2.1 c.2.2.2.2.2.2.2.2.2.2.1 c.2.2.2.2.2.2.2.2.2.2.2.1 c.2.2.2.2.2.2.2.2.2.2.2.2.1 ((c.2.2.2.2.2.2.2.2.2.2.2.2.2).map qBE)) (if c.1=4 then decide (c.2.1=0)&&decide ((kd c).length=1) else if c.1=5 then decide (1≤c.2.1∧c.2.1≤11)&&decide ((kd c).length=2) else if c.1=6 then qFn c.2.1 ((kd c).length:Int) else decide (c.2.1=0)&&decide ((kd c).length=0)):=by
 obtain ⟨n1,h1⟩:=qAR c.2.1 1 11
 obtain ⟨n2,h2⟩:=qAR c.2.1 1 10
 obtain ⟨n3,h3⟩:=qAR (((c.2.2.2.2.2.2.2.2.2.2.2.2.2).map qBE).length:Int) 2 3
 obtain ⟨n4,h4⟩:=qAR (((c.2.2.2.2.2.2.2.2.2.2.2.2.2).map qBE).length:Int) 1 10
 refine ⟨n1+n2+n3+n4+1,fun n hn=>?_⟩
 obtain ⟨m,rfl,hm⟩:=up1 hn
 have h1:=h1 m (by omega)
 dsimp only at h1
 have h2:=h2 m (by omega)
 dsimp only at h2
 have h3:=h3 m (by omega)
 dsimp only at h3
 have h4:=h4 m (by omega)
 dsimp only at h4
 simp only [qAM,qDs,qC,qD,qG,qH,qJ,qK,Option.bind_some,qE,qM,qN,h1,h2,h3,h4]
 have hk:((c.2.2.2.2.2.2.2.2.2.2.2.2.2).map qBE).length=(kd c).length:=by rw [List.length_map];rfl
 simp only [hk]
 by_cases k4:c.1=4
 ·simp only [k4]
  by_cases h0:c.2.1=0<;>by_cases h1:(kd c).length=1<;>simp [h0,h1]<;>omega
 by_cases k5:c.1=5
 ·simp only [k5]
  by_cases h0:1≤c.2.1∧c.2.1≤11<;>by_cases h1:(kd c).length=2<;>simp [h0,h1]<;>omega
 by_cases k6:c.1=6
 ·simp only [k6]
  unfold qFn
  by_cases h:1≤c.2.1∧c.2.1≤10
  ·by_cases h5:c.2.1=5
   ·have:(2≤((kd c).length:Int)∧((kd c).length:Int)≤3)↔(((kd c).length:Int)=2∨((kd c).length:Int)=3):=by omega
    simp [h5,this]
   ·by_cases h8:c.2.1≥8
    ·have g:8≤c.2.1∧c.2.1≤10:=by omega
     by_cases h1:((kd c).length:Int)=1<;>simp [h,h5,h8,g,h1]
    ·have g:¬(8≤c.2.1∧c.2.1≤10):=by omega
     have g':1≤c.2.1∧c.2.1≤7:=by omega
     simp [h,h5,h8,g,g']
  ·have h5:¬c.2.1=5:=by omega
   have g:¬(8≤c.2.1∧c.2.1≤10):=by omega
   have g':¬(1≤c.2.1∧c.2.1≤7):=by omega
   simp [h,h5,g,g']
 by_cases h0:c.2.1=0<;>by_cases h1:(kd c).length=0<;>simp [k4,k5,k6,h0,h1]<;>omega
theorem qMO (c:Nd):Ev (qAE · c.1 c.2.1 c.2.2.1 c.2.2.2.1 c.2.2.2.2.1 c.2.2.2.2.2.1 c.2.2.2.2.2.2.1 c.2.2.2.2.2.2.2.1 c.2.2.2.2.2.2.2.2.1 c.2.2.2.2.2.2.2.2.2.1 c.2.2.2.2.2.2.2.2.2.2.1 c.2.2.2.2.2.2.2.2.2.2.2.1 c.2.2.2.2.2.2.2.2.2.2.2.2.1 ((c.2.2.2.2.2.2.2.2.2.2.2.2.2).map qBE)) (if c.1=2 then qEj c.2.2.2.2.2.1 c.2.2.2.2.2.2.1 c.2.2.2.2.2.1 c.2.2.2.2.2.2.1 else if c.1=3 then qEj c.2.2.2.2.2.1 c.2.2.2.2.2.2.1 c.2.2.2.2.2.2.2.2.2.1 c.2.2.2.2.2.2.2.2.2.2.1 else true):=by
 have g:Ev (qCg · c.1 c.2.1 c.2.2.1 c.2.2.2.1 c.2.2.2.2.1 c.2.2.2.2.2.1 c.2.2.2.2.2.2.1 c.2.2.2.2.2.2.2.1 c.2.2.2.2.2.2.2.2.1 c.2.2.2.2.2.2.2.2.2.1 c.2.2.2.2.2.2.2.2.2.2.1 c.2.2.2.2.2.2.2.2.2.2.2.1 c.2.2.2.2.2.2.2.2.2.2.2.2.1 ((c.2.2.2.2.2.2.2.2.2.2.2.2.2).map qBE)) (if c.1=2 then (c.2.2.2.2.2.1,c.2.2.2.2.2.2.1,c.2.2.2.2.2.1,c.2.2.2.2.2.2.1) else (c.2.2.2.2.2.1,c.2.2.2.2.2.2.1,c.2.2.2.2.2.2.2.2.2.1,c.2.2.2.2.2.2.2.2.2.2.1)):=by
  refine ⟨1,fun n hn=>?_⟩
  obtain ⟨m,rfl,hm⟩:=up1 hn
  simp only [qCg,qEd,qC,qD,qG,qH,qJ,qK,Option.bind_some,qE,qM,qN]
  by_cases k2:c.1=2<;>simp [k2]
 obtain ⟨n1,h1⟩:=g
 obtain ⟨n2,h2⟩:=qJF c.2.2.2.2.2.1 c.2.2.2.2.2.2.1 c.2.2.2.2.2.1 c.2.2.2.2.2.2.1
 obtain ⟨n3,h3⟩:=qJF c.2.2.2.2.2.1 c.2.2.2.2.2.2.1 c.2.2.2.2.2.2.2.2.2.1 c.2.2.2.2.2.2.2.2.2.2.1
 refine ⟨n1+n2+n3+1,fun n hn=>?_⟩
 obtain ⟨m,rfl,hm⟩:=up1 hn
 have h1:=h1 m (by omega)
 dsimp only at h1
 have h2:=h2 m (by omega)
 dsimp only at h2
 have h3:=h3 m (by omega)
 dsimp only at h3
 simp only [qAE,qDM,qC,qD,qG,qH,qJ,qK,Option.bind_some,qE,qM,qN,h1,h2,h3]
 by_cases k2:c.1=2
 ·simp [k2,h2]
 ·by_cases k3:c.1=3
  ·simp [k3,h3]
  ·simp [k2,k3]
theorem qRj (a b:Int):qEj a b a b=qAx a b:=by
 unfold qEj
 cases qAx a b<;>simp
theorem qOZ (c:Nd) (hb:c.2.2.2.2.1.size≤140737488351232):Ev (qDA · c.1 c.2.1 c.2.2.1 c.2.2.2.1 c.2.2.2.2.1 c.2.2.2.2.2.1 c.2.2.2.2.2.2.1 c.2.2.2.2.2.2.2.1 c.2.2.2.2.2.2.2.2.1 c.2.2.2.2.2.2.2.2.2.1 c.2.2.2.2.2.2.2.2.2.2.1 c.2.2.2.2.2.2.2.2.2.2.2.1 c.2.2.2.2.2.2.2.2.2.2.2.2.1 ((c.2.2.2.2.2.2.2.2.2.2.2.2.2).map qBE)) (qCI c):=by
 obtain ⟨n1,g1⟩:=qDI c.2.2.1 c.2.2.2.1 c.2.2.2.2.1 hb
 obtain ⟨n2,g2⟩:=qMO c
 obtain ⟨n3,g3⟩:=qNx c
 refine ⟨n1+n2+n3+1,fun n hn=>?_⟩
 obtain ⟨m,rfl,hm⟩:=up1 hn
 have g1:=g1 m (by omega)
 have g2:=g2 m (by omega)
 have g3:=g3 m (by omega)
 dsimp only at g1 g2 g3
 rw [qRj] at g2
 simp only [qDA,qEC,qC,qD,qG,qH,qJ,qK,Option.bind_some,qE,qM,qN,g1,g2,g3,qTJ,qTL]
 simp only [beq_self_eq_true,Bool.and_true,Bool.true_and]
 unfold qCI
 by_cases k1:c.1=1
 ·have h5:(c.2.2.2.1≥0)=¬(c.2.2.2.1<0):=propext Int.not_lt.symm
  simp only [k1,h5]
  cases zP c.2.2.2.2.2.1 c.2.2.2.2.2.2.1 c.2.2.2.2.2.2.2.1 c.2.2.2.2.2.2.2.2.1<;>cases zP c.2.2.2.2.2.2.2.2.2.1 c.2.2.2.2.2.2.2.2.2.2.1 c.2.2.2.2.2.2.2.2.2.2.2.1 c.2.2.2.2.2.2.2.2.2.2.2.2.1<;>cases okV c.2.2.1 c.2.2.2.1 c.2.2.2.2.1<;>by_cases h0:c.2.1=0<;>by_cases h1:(kd c).length=0<;>by_cases h2:c.2.2.1=0<;>by_cases h3:c.2.2.1=1<;>by_cases h4:c.2.2.2.1<0<;>simp [h0,h1,h2,h3,h4]<;>(try omega)
 by_cases k2:c.1=2
 ·simp only [k2]
  cases zV c.2.2.1 c.2.2.2.1 c.2.2.2.2.1<;>cases zP c.2.2.2.2.2.2.2.2.2.1 c.2.2.2.2.2.2.2.2.2.2.1 c.2.2.2.2.2.2.2.2.2.2.2.1 c.2.2.2.2.2.2.2.2.2.2.2.2.1<;>cases qAx c.2.2.2.2.2.1 c.2.2.2.2.2.2.1<;>by_cases h0:c.2.1=0<;>by_cases h1:(kd c).length=0<;>simp [h0,h1]
 by_cases k3:c.1=3
 ·simp only [k3]
  cases zV c.2.2.1 c.2.2.2.1 c.2.2.2.2.1<;>cases qEj c.2.2.2.2.2.1 c.2.2.2.2.2.2.1 c.2.2.2.2.2.2.2.2.2.1 c.2.2.2.2.2.2.2.2.2.2.1<;>by_cases h0:c.2.1=0<;>by_cases h1:(kd c).length=0<;>simp [h0,h1]
 by_cases k4:c.1=4
 ·simp only [k4]
  cases zV c.2.2.1 c.2.2.2.1 c.2.2.2.2.1<;>cases zP c.2.2.2.2.2.1 c.2.2.2.2.2.2.1 c.2.2.2.2.2.2.2.1 c.2.2.2.2.2.2.2.2.1<;>cases zP c.2.2.2.2.2.2.2.2.2.1 c.2.2.2.2.2.2.2.2.2.2.1 c.2.2.2.2.2.2.2.2.2.2.2.1 c.2.2.2.2.2.2.2.2.2.2.2.2.1<;>by_cases h0:c.2.1=0<;>by_cases h1:(kd c).length=1<;>simp [h0,h1]
 by_cases k5:c.1=5
 ·simp only [k5]
  cases zV c.2.2.1 c.2.2.2.1 c.2.2.2.2.1<;>cases zP c.2.2.2.2.2.1 c.2.2.2.2.2.2.1 c.2.2.2.2.2.2.2.1 c.2.2.2.2.2.2.2.2.1<;>cases zP c.2.2.2.2.2.2.2.2.2.1 c.2.2.2.2.2.2.2.2.2.2.1 c.2.2.2.2.2.2.2.2.2.2.2.1 c.2.2.2.2.2.2.2.2.2.2.2.2.1<;>by_cases h0:1≤c.2.1∧c.2.1≤11<;>by_cases h1:(kd c).length=2<;>simp [h0,h1]
 by_cases k6:c.1=6
 ·simp only [k6]
  cases zV c.2.2.1 c.2.2.2.1 c.2.2.2.2.1<;>cases zP c.2.2.2.2.2.1 c.2.2.2.2.2.2.1 c.2.2.2.2.2.2.2.1 c.2.2.2.2.2.2.2.2.1<;>cases zP c.2.2.2.2.2.2.2.2.2.1 c.2.2.2.2.2.2.2.2.2.2.1 c.2.2.2.2.2.2.2.2.2.2.2.1 c.2.2.2.2.2.2.2.2.2.2.2.2.1<;>cases qFn c.2.1 ((kd c).length:Int)<;>simp
 simp [k1,k2,k3,k4,k5,k6]
section
variable (own area call:Int→Bool) (kids:Int→List Int)
def goF (F:Int→Int) (n:Int):List Int→Int→Int
 | [],start=>start
 |k::r,start=>if k≠start-1∨k<0∨(area k=true∧call n=false) then-1 else if F k<0 then-1 else goF F n r (F k)
def qCm:Nat→Int→Int
 |0,_=> -1
 |f+1,n=>if n<0∨own n=false then-1 else goF area call (qCm f) n (kids n).reverse n
def goT (F:Int→Int):List Int→Int→Int
 | [],x=>x+1
 |k::r,x=>if x<0∨k≠x then-1 else if F x<0 then-1 else goT F r (F x-1)
def qBw:Nat→Int→Int
 |0,_=> -1
 |f+1,n=>goT (qBw f) (kids n).reverse (n-1)
def qJH:List Int→Int
 | []=>0
 |x::r=>max x (qJH r)
def qA0:Nat→Int→Int
 |0,_=>0
 |f+1,n=>qJH ((kids n).map fun k=>qA0 f k)+1
def qGV (i:Int):Prop:=∀k∈kids i,0≤k∧k≤i-1∧¬(area k=true∧call i=false)
theorem qLL:∀(f:Nat) (n:Int),0≤n→qBw kids f n≤n
 |0,n,h=>by rw [qBw];omega
 |f+1,n,h=>by
  have go:∀(l:List Int) (x:Int),x+1≤n→-1≤x→goT (qBw kids f) l x≤n:=by
   intro l
   induction l with
   |nil=>intro x h1 h2;rw [goT];omega
   |cons k r ih=>
    intro x h1 h2
    rw [goT]
    split
    ·omega
    ·split
     ·omega
     ·have:=qLL f x (by omega)
      exact ih _ (by omega) (by omega)
  rw [qBw]
  exact go _ _ (by omega) (by omega)
theorem qPx:∀(f g:Nat) (n:Int),n<f→n<g→0≤n→qBw kids f n=qBw kids g n
 |0,g,n,h1,h2,h3=>by omega
 |f+1,0,n,h1,h2,h3=>by omega
 |f+1,g+1,n,h1,h2,h3=>by
  have go:∀(l:List Int) (x:Int),x<f→x<g→goT (qBw kids f) l x=goT (qBw kids g) l x:=by
   intro l
   induction l with
   |nil=>intro x _ _;rw [goT,goT]
   |cons k r ih=>
    intro x hx hy
    rw [goT,goT]
    by_cases hc:x<0∨k≠x
    ·rw [if_pos hc,if_pos hc]
    ·rw [if_neg hc,if_neg hc,qPx f g x hx hy (by omega)]
     have hle:=qLL kids g x (by omega)
     split
     ·rfl
     ·exact ih _ (by omega) (by omega)
  rw [qBw,qBw]
  exact go _ _ (by omega) (by omega)
theorem qQx {l:List Int} {b:Int} (h0:0≤b):qJH l≤b↔∀x∈l,x≤b:=by
 induction l with
 |nil=>simp [qJH,h0]
 |cons a r ih=>simp only [qJH,List.mem_cons,forall_eq_or_imp];rw [Int.max_le,ih]
theorem qNy {n b:Int} {f:Nat} (h0:1≤b):qA0 kids (f+1) n≤b↔∀k∈kids n,qA0 kids f k≤b-1:=by
 rw [qA0]
 constructor
 ·intro h k hk
  exact (qQx (l:=(kids n).map fun k=>qA0 kids f k) (by omega)).1 (by omega) _ (List.mem_map_of_mem (f:=fun k=>qA0 kids f k) hk)
 ·intro h
  have:=(qQx (l:=(kids n).map fun k=>qA0 kids f k) (b:=b-1) (by omega)).2 (by
   intro x hx
   obtain ⟨k,hk,rfl⟩:=List.mem_map.1 hx
   exact h k hk)
  omega
theorem qNz:∀(f g:Nat) (n:Int),n<f→n<g→(∀i,0≤i→i≤n→qGV area call kids i)→0≤n→qA0 kids f n=qA0 kids g n
 |0,g,n,h1,h2,_,h3=>by omega
 |f+1,0,n,h1,h2,_,h3=>by omega
 |f+1,g+1,n,h1,h2,hk,h3=>by
  rw [qA0,qA0]
  congr 2
  apply List.map_congr_left
  intro k hm
  have:=hk n h3 (by omega) k hm
  exact qNz f g k (by omega) (by omega) (fun i h0 h1=>hk i h0 (by omega)) (by omega)
theorem qHl:∀(f:Nat) (n:Int),0≤n→n<f→1≤qA0 kids f n
 |0,n,h,h'=>by omega
 |f+1,n,h,h'=>by
  rw [qA0]
  have:∀l:List Int,0≤qJH l:=by
   intro l
   induction l with
   |nil=>exact Int.le_refl 0
   |cons a r ih=>simp only [qJH];omega
  have:=this ((kids n).map fun k=>qA0 kids f k)
  omega
theorem qPR:∀(f g:Nat) (n:Int),0≤n→n<g→0≤qCm own area call kids f n→
  qCm own area call kids f n≤n∧qBw kids g n=qCm own area call kids f n∧(∀i,qCm own area call kids f n≤i→i≤n→own i=true∧qGV area call kids i)∧(∀h:Nat,(∀i,0≤i→i≤n→qGV area call kids i)→n<h→qA0 kids h n≤f)
 |0,g,n,h0,h1,h2=>by rw [qCm] at h2;omega
 |f+1,0,n,h0,h1,h2=>by omega
 |f+1,g+1,n,h0,h1,h2=>by
  rw [qCm] at h2⊢
  split at h2
  ·omega
  ·rename_i hc
   rw [if_neg hc]
   have go:∀(l:List Int) (s:Int),0≤s→s≤n→0≤goF area call (qCm own area call kids f) n l s→
     goF area call (qCm own area call kids f) n l s≤s∧goT (qBw kids g) l (s-1)=goF area call (qCm own area call kids f) n l s∧(∀i,goF area call (qCm own area call kids f) n l s≤i→i≤s-1→own i=true∧qGV area call kids i)∧(∀k∈l,0≤k∧k≤n-1∧¬(area k=true∧call n=false))∧(∀h:Nat,(∀i,0≤i→i≤n→qGV area call kids i)→n<h→∀k∈l,qA0 kids h k≤f):=by
    intro l
    induction l with
    |nil=>
     intro s h3 h4 h5
     rw [goF] at h5⊢
     rw [goT]
     refine ⟨by omega,by omega,fun i _ _=>by omega,fun k hk=>(by cases hk),fun h _ _ k hk=>(by cases hk)⟩
    |cons k r ih=>
     intro s h3 h4 h5
     rw [goF] at h5⊢
     split at h5
     ·omega
     ·rename_i hd
      rw [if_neg hd]
      split at h5
      ·omega
      ·rename_i he
       rw [if_neg he]
       have hk:k=s-1:=by omega
       subst hk
       obtain ⟨a1,a2,a3,a4⟩:=qPR f g (s-1) (by omega) (by omega) (by omega)
       obtain ⟨b1,b2,b3,b4,b5⟩:=ih _ (by omega) (by omega) h5
       refine ⟨by omega,?_,?_,?_,?_⟩
       ·rw [goT,if_neg (by omega),a2,if_neg he,b2]
       ·intro i i1 i2
        by_cases hi:qCm own area call kids f (s-1)≤i
        ·exact a3 i hi i2
        ·exact b3 i i1 (by omega)
       ·intro k hk
        rcases List.mem_cons.1 hk with rfl|hk
        ·exact ⟨by omega,by omega,fun h=>hd (.inr (.inr h))⟩
        ·exact b4 k hk
       ·intro h hx hy k hk
        rcases List.mem_cons.1 hk with rfl|hk
        ·exact a4 h (fun i i1 i2=>hx i i1 (by omega)) (by omega)
        ·exact b5 h hx hy k hk
   obtain ⟨c1,c2,c3,c4,c5⟩:=go _ n h0 (Int.le_refl n) h2
   have hown:own n=true:=by cases ho:own n with
    |true=>rfl
    |false=>exact absurd (.inr ho) hc
   refine ⟨c1,by rw [qBw];exact c2,?_,?_⟩
   ·intro i i1 i2
    by_cases hi:i=n
    ·subst hi
     exact ⟨hown,fun k hk=>c4 k (List.mem_reverse.2 hk)⟩
    ·exact c3 i i1 (by omega)
   ·intro h hx hy
    cases h with
    |zero=>omega
    |succ h=>
     refine (qNy kids (by omega)).2 fun k hk=>?_
     have hin:=hx n h0 (Int.le_refl n) k hk
     have e:qA0 kids h k=qA0 kids (n.toNat+1) k:=qNz area call kids _ _ _ (by omega) (by omega) (fun i i1 i2=>hx i i1 (by omega)) (by omega)
     rw [e]
     have:=c5 (n.toNat+1) hx (by omega) k (List.mem_reverse.2 hk)
     omega
theorem qQy:∀(f g h:Nat) (n:Int),0≤n→n<g→n<h→(∀i,0≤i→i≤n→own i=true∧qGV area call kids i)→0≤qBw kids g n→qA0 kids h n≤f→qCm own area call kids f n=qBw kids g n
 |0,g,h,n,h0,h1,h1',h2,h3,h4=>by have:=qHl kids h n h0 h1';omega
 |f+1,0,h,n,h0,h1,_,h2,h3,h4=>by omega
 |f+1,g+1,0,n,h0,h1,_,h2,h3,h4=>by omega
 |f+1,g+1,h+1,n,h0,h1,h1',h2,h3,h4=>by
  have hd:=(qNy kids (b:=((f+1:Nat):Int)) (by omega)).1 h4
  have go:∀(l:List Int) (s:Int),(∀k∈l,k∈kids n)→0≤s→s≤n→0≤goT (qBw kids g) l (s-1)→goF area call (qCm own area call kids f) n l s=goT (qBw kids g) l (s-1):=by
   intro l
   induction l with
   |nil=>intro s _ _ _ _;rw [goF,goT];omega
   |cons k r ih=>
    intro s hm h3 h4 h5
    rw [goT] at h5⊢
    rw [goF]
    split at h5
    ·omega
    ·rename_i hc
     rw [if_neg hc]
     split at h5
     ·omega
     ·rename_i he
      rw [if_neg he]
      have hk:k=s-1:=by omega
      have hin:=(h2 n h0 (Int.le_refl n)).2 k (hm k (List.mem_cons_self ..))
      have hdk:=hd k (hm k (List.mem_cons_self ..))
      subst hk
      have e:=qQy f g h (s-1) (by omega) (by omega) (by omega) (fun i i1 i2=>h2 i i1 (by omega)) (by omega) (by omega)
      have hb:¬(s-1≠s-1∨s-1<0∨(area (s-1)=true∧call n=false)):=fun hx=>by
       rcases hx with hx|hx|hx
       ·exact hx rfl
       ·omega
       ·exact hin.2.2 hx
      rw [if_neg hb,e,if_neg he]
      have hle:=qLL kids g (s-1) (by omega)
      exact ih _ (fun k hk=>hm k (List.mem_cons_of_mem _ hk)) (by omega) (by omega) h5
  rw [qBw] at h3
  have hn:¬(n<0∨own n=false):=fun hx=>by
   rcases hx with hx|hx
   ·omega
   ·rw [(h2 n h0 (Int.le_refl n)).1] at hx;cases hx
  rw [qCm,qBw,if_neg hn]
  exact go _ n (fun k hk=>List.mem_reverse.1 hk) h0 (Int.le_refl n) h3
end
theorem qBe (c:Nd):(qd c).length=14:=rfl
theorem qBL (k:Int):(qBE k).length=1:=rfl
theorem qAq (k:Int):zF .i64 (qBE k) 0=some k:=rfl
theorem qAU (c:Nd):zF .i64 (qd c) 0=some c.1:=rfl
theorem qAV (c:Nd):zF .i64 (qd c) 1=some c.2.1:=rfl
theorem qAW (c:Nd):zF .i64 (qd c) 2=some c.2.2.1:=rfl
theorem qAX (c:Nd):zF .i64 (qd c) 3=some c.2.2.2.1:=rfl
theorem qAY (c:Nd):zp (qd c) 4=some c.2.2.2.2.1:=rfl
theorem qAZ (c:Nd):zF .i64 (qd c) 5=some c.2.2.2.2.2.1:=rfl
theorem qAa (c:Nd):zF .i64 (qd c) 6=some c.2.2.2.2.2.2.1:=rfl
theorem qAb (c:Nd):zAC (qd c) 7=some c.2.2.2.2.2.2.2.1:=rfl
theorem qAc (c:Nd):zAC (qd c) 8=some c.2.2.2.2.2.2.2.2.1:=rfl
theorem qAd (c:Nd):zF .i64 (qd c) 9=some c.2.2.2.2.2.2.2.2.2.1:=rfl
theorem qy (c:Nd):zF .i64 (qd c) 10=some c.2.2.2.2.2.2.2.2.2.2.1:=rfl
theorem qz (c:Nd):zAC (qd c) 11=some c.2.2.2.2.2.2.2.2.2.2.2.1:=rfl
theorem q7 (c:Nd):zAC (qd c) 12=some c.2.2.2.2.2.2.2.2.2.2.2.2.1:=rfl
theorem q8 (c:Nd):zAd (qd c) 13=some ((c.2.2.2.2.2.2.2.2.2.2.2.2.2).map qBE):=rfl
def nd0:Nd:=(0,0,0,0,⟨#[]⟩,0,0,false,false,0,0,false,false,[])
def ndi (l:List Nd) (i:Int):Nd:=l.getD i.toNat nd0
def qT (l:List Nd) (i:Int):List Int:=kd (ndi l i)
def qFv (l:List Nd) (i:Int):Bool:=qCI (ndi l i)
def qBF (l:List Nd) (i:Int):Bool:=decide ((ndi l i).1=3)
def qB4 (l:List Nd) (i:Int):Bool:=decide ((ndi l i).1=6)
theorem qCn {l:List Nd} {i:Int} (h:0≤i∧i<l.length):l[i.toNat]?=some (ndi l i):=by
 have:i.toNat<l.length:=by omega
 unfold ndi
 rw [List.getElem?_eq_getElem this,List.getD_eq_getElem?_getD,List.getElem?_eq_getElem this]
 rfl
theorem qH8 {l:List Nd} {i:Int} (h:0≤i∧i<l.length):ndi l i∈l:=List.mem_of_getElem? (qCn h)
theorem qPy {α:Type} {l:List α} {j:Nat} {k:α} (h:l[j]?=some k):(l.take (j+1)).reverse=k::(l.take j).reverse:=by
 rw [List.take_add_one,h]
 simp
theorem qPz {R:Type} {F:Int→Nat→Option R} {f:Int→R} (x:Int) (h:∀y,0≤y→y<x→Ev (F y) (f y)):∃n0,∀n,n0≤n→∀y,0≤y→y<x→F y n=some (f y):=by
 obtain ⟨n0,h0⟩:=qCk (F:=F) (f:=f) ((List.range x.toNat).map fun (i:Nat)=>(i:Int)) (fun c hc=>by
  obtain ⟨i,hi,rfl⟩:=List.mem_map.1 hc
  have:=List.mem_range.1 hi
  exact h _ (Int.natCast_nonneg i) (by omega))
 refine ⟨n0,fun n hn y h1 h2=>h0 n hn y (List.mem_map.2 ⟨y.toNat,List.mem_range.2 (by omega),by omega⟩)⟩
theorem qOo (l:List Nd) (x1:Int) (f n:Nat) (hx:0≤x1∧x1<l.length) (hl:l.length≤140737488351232) (hk:(kd (ndi l x1)).length≤140737488351232)
  (hrec:∀y:Int,0≤y→y<x1→qAs n (l.map qd) y=some (qBw (qT l) f y)):
  ∀(j M:Nat) (s:Int),j≤(kd (ndi l x1)).length→j+1≤M→-1≤s→s<x1→
   (∃x,zC (qBD (qAs n) n) M (l.map qd,x1,s,(j:Int)-1)=some (.inr x)∧goT (qBw (qT l) f) ((qT l x1).take j).reverse s=x+1∧-1≤x∧x<x1)∨
   (zC (qBD (qAs n) n) M (l.map qd,x1,s,(j:Int)-1)=some (.inl (-1))∧goT (qBw (qT l) f) ((qT l x1).take j).reverse s= -1)
 |0,0,s,h1,h2,h3,h4=>by omega
 |0,M+1,s,h1,h2,h3,h4=>by
  refine .inl ⟨s,?_,by simp [goT],h3,h4⟩
  rw [qQ (r:= .inr s) (by simp [-getElem?_pos,qBD,qC,qD,qG,qH,qJ,qK,Option.bind_some,qE,qM,qN])]
 |j+1,0,s,h1,h2,h3,h4=>by omega
 |j+1,M+1,s,h1,h2,h3,h4=>by
  have hc:=qCn hx
  have hj:j<(kd (ndi l x1)).length:=by omega
  have hg:(qT l x1)[j]?=some (qT l x1)[j]:=List.getElem?_eq_getElem hj
  have ih:=qOo l x1 f n hx hl hk hrec j M
  rw [qPy hg]
  generalize (qT l x1)[j]=k at hg
  have hi:(((j+1:Nat):Int)-1)=(j:Int):=by omega
  rw [hi,goT]
  have hg':(ndi l x1).2.2.2.2.2.2.2.2.2.2.2.2.2[j]?=some k:=hg
  have hj':j<(ndi l x1).2.2.2.2.2.2.2.2.2.2.2.2.2.length:=hj
  by_cases hs:s<0
  ·refine .inr ⟨?_,by rw [if_pos (.inl hs)]⟩
   rw [qQ (r:= .inl (-1)) (by simp [-getElem?_pos,qBD,qC,qD,qG,qH,qJ,qK,Option.bind_some,qE,qM,qN,hs])]
  ·by_cases hks:k=s
   ·subst hks
    have hr:=hrec k (by omega) h4
    by_cases ht:qBw (qT l) f k<0
    ·refine .inr ⟨?_,by rw [if_neg (by omega),if_pos ht]⟩
     rw [qQ (r:= .inl (-1)) (by simp [-getElem?_pos,qBD,qC,qD,qG,qH,qJ,qK,Option.bind_some,qE,qM,qN,hs,hc,hx,qBe,qBL,qAq,qAU,qAV,qAW,qAX,qAY,qAZ,qAa,qAb,qAc,qAd,qy,qz,q7,q8,hg',hj',hr,ht])]
    ·have hle:=qLL (qT l) f k (by omega)
     have hw:IntKind.i64.wrap (qBw (qT l) f k-1)=qBw (qT l) f k-1:=qX (by omega)
     have hw2:IntKind.i64.wrap ((j:Int)-1)=(j:Int)-1:=qX (by omega)
     rw [if_neg (by omega),if_neg ht]
     rw [qc (v':=(l.map qd,x1,qBw (qT l) f k-1,(j:Int)-1)) (by simp [-getElem?_pos,qBD,qC,qD,qG,qH,qJ,qK,Option.bind_some,qE,qM,qN,hs,hc,hx,qBe,qBL,qAq,qAU,qAV,qAW,qAX,qAY,qAZ,qAa,qAb,qAc,qAd,qy,qz,q7,q8,hg',hj',hr,ht,hw,hw2])]
     exact ih _ (by omega) (by omega) (by omega) (by omega)
   ·refine .inr ⟨?_,by rw [if_pos (.inr hks)]⟩
    rw [qQ (r:= .inl (-1)) (by simp [-getElem?_pos,qBD,qC,qD,qG,qH,qJ,qK,Option.bind_some,qE,qM,qN,hs,hc,hx,qBe,qBL,qAq,qAU,qAV,qAW,qAX,qAY,qAZ,qAa,qAb,qAc,qAd,qy,qz,q7,q8,hg',hj',hks])]
theorem qJI (l:List Nd) (hl:l.length≤140737488351232) (hk:∀c∈l,(kd c).length≤140737488351232):∀(f:Nat) (x:Int),0≤x→x<l.length→x<f→Ev (qAs · (l.map qd) x) (qBw (qT l) f x)
 |0,x,h0,h1,h2=>by omega
 |f+1,x,h0,h1,h2=>by
  obtain ⟨n0,hn0⟩:=qPz (F:=fun y n=>qAs n (l.map qd) y) (f:=fun y=>qBw (qT l) f y) x (fun y h3 h4=>qJI l hl hk f y h3 (by omega) (by omega))
  refine ⟨n0+(kd (ndi l x)).length+5,fun n hn=>?_⟩
  obtain ⟨m,rfl,hm⟩:=up1 hn
  have hc:=qCn (l:=l) (i:=x) ⟨h0,h1⟩
  have hkx:=hk _ (qH8 (l:=l) ⟨h0,h1⟩)
  have hw:IntKind.i64.wrap (x-1)=x-1:=qX (by omega)
  have hw2:IntKind.i64.wrap (((kd (ndi l x)).length:Int)-1)=((kd (ndi l x)).length:Int)-1:=qX (by omega)
  have h:=qOo l x f m ⟨h0,h1⟩ hl hkx (hn0 m (by omega)) (kd (ndi l x)).length m (x-1) (Nat.le_refl _) (by omega) (by omega) (by omega)
  have e:(qT l x).take (kd (ndi l x)).length=qT l x:=List.take_length
  rw [e] at h
  rw [show qBw (qT l) (f+1) x=goT (qBw (qT l) f) (qT l x).reverse (x-1) from rfl]
  unfold kd at h hw2
  dsimp only
  simp only [qAs,qHF,qC,qD,qG,qH,qJ,qK,Option.bind_some,qE,qM,qN]
  rcases h with ⟨y,g1,g2,g3,g4⟩|⟨g1,g2⟩
  ·have hw3:IntKind.i64.wrap (y+1)=y+1:=qX (by omega)
   rw [g2]
   simp [-getElem?_pos,qC,qD,qG,qH,qJ,qK,Option.bind_some,qE,qM,qN,hc,h0,h1,qBe,qBL,qAq,qAU,qAV,qAW,qAX,qAY,qAZ,qAa,qAb,qAc,qAd,qy,qz,q7,q8,hw,hw2,g1,hw3]
  ·rw [g2]
   simp [-getElem?_pos,qC,qD,qG,qH,qJ,qK,Option.bind_some,qE,qM,qN,hc,h0,h1,qBe,qBL,qAq,qAU,qAV,qAW,qAX,qAY,qAZ,qAa,qAb,qAc,qAd,qy,qz,q7,q8,hw,hw2,g1]
theorem qMP (kids:Int→List Int):∀(f:Nat) (n:Int),0≤qA0 kids f n∧qA0 kids f n≤f
 |0,n=>by rw [qA0];omega
 |f+1,n=>by
  have:∀l:List Int,0≤qJH (l.map fun k=>qA0 kids f k)∧qJH (l.map fun k=>qA0 kids f k)≤f:=by
   intro l
   induction l with
   |nil=>exact ⟨Int.le_refl 0,Int.natCast_nonneg f⟩
   |cons a r ih=>have:=qMP kids f a;simp only [List.map_cons,qJH];omega
  have:=this (kids n)
  rw [qA0]
  omega
theorem qOp (l:List Nd) (x1:Int) (f n:Nat) (hx:0≤x1∧x1<l.length) (hf:f≤1000) (hk:(kd (ndi l x1)).length≤140737488351232)
  (hrec:∀k∈qT l x1,qAt n (l.map qd) k=some (qA0 (qT l) f k)):
  ∀(m i M:Nat) (a:Int),(kd (ndi l x1)).length=i+m→m+1≤M→0≤a→
   zC (qC4 (qAt n) n) M (l.map qd,x1,a,(i:Int))=some (max a (qJH (((qT l x1).drop i).map fun k=>qA0 (qT l) f k)))
 |m,i,0,a,h1,h2,h3=>by omega
 |0,i,M+1,a,h1,h2,h3=>by
  have hc:=qCn hx
  have hi:¬i<(ndi l x1).2.2.2.2.2.2.2.2.2.2.2.2.2.length:=by unfold kd at h1;omega
  rw [qQ (r:=a) (by simp [-getElem?_pos,qC4,qC,qD,qG,qH,qJ,qK,Option.bind_some,qE,qM,qN,hc,hx,qBe,qBL,qAq,qAU,qAV,qAW,qAX,qAY,qAZ,qAa,qAb,qAc,qAd,qy,qz,q7,q8,hi])]
  rw [List.drop_eq_nil_of_le (by unfold qT;omega)]
  simp only [List.map_nil,qJH]
  congr 1
  omega
 |m+1,i,M+1,a,h1,h2,h3=>by
  have hc:=qCn hx
  have hj:i<(kd (ndi l x1)).length:=by omega
  have hg:(qT l x1)[i]?=some (qT l x1)[i]:=List.getElem?_eq_getElem hj
  rw [qE4 hg]
  have hr:=hrec _ (List.mem_of_getElem? hg)
  generalize (qT l x1)[i]=k at hg hr
  have hg':(ndi l x1).2.2.2.2.2.2.2.2.2.2.2.2.2[i]?=some k:=hg
  have hj':i<(ndi l x1).2.2.2.2.2.2.2.2.2.2.2.2.2.length:=hj
  have hj'':(i:Int)<((ndi l x1).2.2.2.2.2.2.2.2.2.2.2.2.2.length:Int):=by omega
  have hw:IntKind.i64.wrap ((i:Int)+1)=((i+1:Nat):Int):=by rw [qX (by omega)];omega
  have hd:=qMP (qT l) f k
  rw [qc (v':=(l.map qd,x1,(if qA0 (qT l) f k>a then qA0 (qT l) f k else a),((i+1:Nat):Int))) (by simp [-getElem?_pos,qC4,qC,qD,qG,qH,qJ,qK,Option.bind_some,qE,qM,qN,hc,hx,qBe,qBL,qAq,qAU,qAV,qAW,qAX,qAY,qAZ,qAa,qAb,qAc,qAd,qy,qz,q7,q8,hg',hj',hr,hw])]
  rw [qOp l x1 f n hx hf hk hrec m (i+1) M _ (by omega) (by omega) (by split<;>omega)]
  simp only [List.map_cons,qJH]
  congr 1
  split<;>omega
theorem qJJ (l:List Nd) (hl:l.length≤60) (hk:∀c∈l,(kd c).length≤140737488351232) (hin:∀i:Int,0≤i→i<l.length→qGV (qBF l) (qB4 l) (qT l) i):∀(f:Nat) (x:Int),f≤1000→0≤x→x<l.length→x<f→Ev (qAt · (l.map qd) x) (qA0 (qT l) f x)
 |0,x,hf,h0,h1,h2=>by omega
 |f+1,x,hf,h0,h1,h2=>by
  obtain ⟨n0,hn0⟩:=qCk (F:=fun y n=>qAt n (l.map qd) y) (f:=fun y=>qA0 (qT l) f y) (qT l x) (fun y hy=>by
   have:=hin x h0 h1 y hy
   exact qJJ l hl hk hin f y (by omega) (by omega) (by omega) (by omega))
  refine ⟨n0+(kd (ndi l x)).length+5,fun n hn=>?_⟩
  obtain ⟨m,rfl,hm⟩:=up1 hn
  have h:=qOp l x f m ⟨h0,h1⟩ (by omega) (hk _ (qH8 (l:=l) ⟨h0,h1⟩)) (hn0 m (by omega)) (kd (ndi l x)).length 0 m 0 (by omega) (by omega) (by omega)
  have hd:=qMP (qT l) (f+1) x
  have e:max 0 (qJH ((qT l x).map fun k=>qA0 (qT l) f k))+1=qA0 (qT l) (f+1) x:=by
   rw [qA0]
   have:∀q:List Int,0≤qJH q:=by
    intro q
    induction q with
    |nil=>exact Int.le_refl 0
    |cons a r ih=>simp only [qJH];omega
   have:=this ((qT l x).map fun k=>qA0 (qT l) f k)
   omega
  rw [List.drop_zero] at h
  simp only [Int.natCast_zero] at h
  have hw:IntKind.i64.wrap (max 0 (qJH ((qT l x).map fun k=>qA0 (qT l) f k))+1)=qA0 (qT l) (f+1) x:=by rw [e,qX (by omega)]
  simp only [qAt,qHH,qC,qD,qG,qH,qJ,qK,Option.bind_some,qE,qM,qN,h,hw]
def inB (l:List Nd) (i:Int):Bool:=(qT l i).all fun k=>decide (0≤k∧k≤i-1)&&!(qBF l k&&!qB4 l i)
theorem qQz {l:List Nd} {i:Int}:inB l i=true↔qGV (qBF l) (qB4 l) (qT l) i:=by
 unfold inB qGV
 rw [List.all_eq_true]
 refine forall_congr' fun k=>forall_congr' fun hk=>?_
 cases qBF l k<;>cases qB4 l i<;>simp
theorem qPS (l:List Nd) (x1:Int) (n:Nat) (hx:0≤x1∧x1<l.length) (hl:l.length≤60) (hk:(kd (ndi l x1)).length≤140737488351232):
  ∀(m i M:Nat),(kd (ndi l x1)).length=i+m→m+1≤M→
   zC (qAn (n+1)) M (l.map qd,x1,(i:Int))=some (if ((qT l x1).drop i).all (fun k=>decide (0≤k∧k≤x1-1)&&!(qBF l k&&!qB4 l x1))=true then .inr (l.map qd,x1) else .inl false)
 |m,i,0,h1,h2=>by omega
 |0,i,M+1,h1,h2=>by
  have hc:=qCn hx
  have hi:¬i<(ndi l x1).2.2.2.2.2.2.2.2.2.2.2.2.2.length:=by unfold kd at h1;omega
  rw [qQ (r:= .inr (l.map qd,x1)) (by simp [-getElem?_pos,qAn,qC,qD,qG,qH,qJ,qK,Option.bind_some,qE,qM,qN,hc,hx,qBe,qBL,qAq,qAU,qAV,qAW,qAX,qAY,qAZ,qAa,qAb,qAc,qAd,qy,qz,q7,q8,hi])]
  rw [List.drop_eq_nil_of_le (by unfold qT;omega)]
  rfl
 |m+1,i,M+1,h1,h2=>by
  have hc:=qCn hx
  have hj:i<(kd (ndi l x1)).length:=by omega
  have hg:(qT l x1)[i]?=some (qT l x1)[i]:=List.getElem?_eq_getElem hj
  rw [qE4 hg]
  generalize (qT l x1)[i]=k at hg
  have hg':(ndi l x1).2.2.2.2.2.2.2.2.2.2.2.2.2[i]?=some k:=hg
  have hj':i<(ndi l x1).2.2.2.2.2.2.2.2.2.2.2.2.2.length:=hj
  have hw:IntKind.i64.wrap ((i:Int)+1)=((i+1:Nat):Int):=by rw [qX (by omega)];omega
  have hw2:IntKind.i64.wrap (x1-1)=x1-1:=qX (by omega)
  have hin:qBQ (n+1) k 0 (x1-1)=some (decide (0≤k∧k≤x1-1)):=by
   simp only [qBQ,qGf,qC,qD,qG,qH,qJ,qK,Option.bind_some,qE,qM,qN]
   by_cases h:k≥0<;>simp [h]
  rw [List.all_cons]
  by_cases hr:0≤k∧k≤x1-1
  ·have hck:=qCn (l:=l) (i:=k) ⟨hr.1,by omega⟩
   have hkl:k<(l.length:Int):=by omega
   by_cases ha:(ndi l k).1=3
   ·by_cases hcl:(ndi l x1).1=6
    ·rw [qc (v':=(l.map qd,x1,((i+1:Nat):Int))) (by simp [-getElem?_pos,qAn,qC,qD,qG,qH,qJ,qK,Option.bind_some,qE,qM,qN,hc,hx,qBe,qBL,qAq,qAU,qAV,qAW,qAX,qAY,qAZ,qAa,qAb,qAc,qAd,qy,qz,q7,q8,hg',hj',hw,hw2,hin,hr,hck,hkl,ha,hcl])]
     rw [qPS l x1 n hx hl hk m (i+1) M (by omega) (by omega)]
     simp [hr,qBF,qB4,ha,hcl]
    ·rw [qQ (r:= .inl false) (by simp [-getElem?_pos,qAn,qC,qD,qG,qH,qJ,qK,Option.bind_some,qE,qM,qN,hc,hx,qBe,qBL,qAq,qAU,qAV,qAW,qAX,qAY,qAZ,qAa,qAb,qAc,qAd,qy,qz,q7,q8,hg',hj',hw,hw2,hin,hr,hck,hkl,ha,hcl])]
     simp [hr,qBF,qB4,ha,hcl]
   ·rw [qc (v':=(l.map qd,x1,((i+1:Nat):Int))) (by simp [-getElem?_pos,qAn,qC,qD,qG,qH,qJ,qK,Option.bind_some,qE,qM,qN,hc,hx,qBe,qBL,qAq,qAU,qAV,qAW,qAX,qAY,qAZ,qAa,qAb,qAc,qAd,qy,qz,q7,q8,hg',hj',hw,hw2,hin,hr,hck,hkl,ha])]
    rw [qPS l x1 n hx hl hk m (i+1) M (by omega) (by omega)]
    simp [hr,qBF,qB4,ha]
  ·rw [qQ (r:= .inl false) (by simp [-getElem?_pos,qAn,qC,qD,qG,qH,qJ,qK,Option.bind_some,qE,qM,qN,hc,hx,qBe,qBL,qAq,qAU,qAV,qAW,qAX,qAY,qAZ,qAa,qAb,qAc,qAd,qy,qz,q7,q8,hg',hj',hw2,hin,hr])]
   simp [hr]
def qFG (l:List Nd) (i m:Nat):Bool:=(List.range' i m).all fun (i:Nat)=>qFv l (i:Int)&&inB l (i:Int)
theorem qFP {l:List Nd}:qFG l 0 l.length=true↔∀i:Int,0≤i→i<l.length→qFv l i=true∧qGV (qBF l) (qB4 l) (qT l) i:=by
 unfold qFG
 rw [List.all_eq_true]
 constructor
 ·intro h i h0 h1
  have:=h i.toNat (by rw [List.mem_range'];exact ⟨i.toNat,by omega,by omega⟩)
  rw [show ((i.toNat:Nat):Int)=i by omega,Bool.and_eq_true,qQz] at this
  exact this
 ·intro h i hi
  rw [List.mem_range'] at hi
  obtain ⟨j,hj,rfl⟩:=hi
  rw [Bool.and_eq_true,qQz]
  exact h _ (by omega) (by omega)
theorem qQ0 (l:List Nd) (n:Nat) (hl:l.length≤60) (hk:∀c∈l,(kd c).length≤140737488351232) (hn:∀c∈l,(kd c).length+2≤n)
  (hok:∀c∈l,qB7 n c.1 c.2.1 c.2.2.1 c.2.2.2.1 c.2.2.2.2.1 c.2.2.2.2.2.1 c.2.2.2.2.2.2.1 c.2.2.2.2.2.2.2.1 c.2.2.2.2.2.2.2.2.1 c.2.2.2.2.2.2.2.2.2.1 c.2.2.2.2.2.2.2.2.2.2.1 c.2.2.2.2.2.2.2.2.2.2.2.1 c.2.2.2.2.2.2.2.2.2.2.2.2.1 ((c.2.2.2.2.2.2.2.2.2.2.2.2.2).map qBE)=some (qCI c)):
  ∀(m i M:Nat),l.length=i+m→m+1≤M→
   zC (qBG n) M (l.map qd,(i:Int))=some (if qFG l i m=true then .inr (l.map qd) else .inl false)
 |m,i,0,h1,h2=>by omega
 |0,i,M+1,h1,h2=>by
  have hi:¬(i:Int)<(l.length:Int):=by omega
  rw [qQ (r:= .inr (l.map qd)) (by simp [-getElem?_pos,qBG,qC,qD,qG,qH,qJ,qK,Option.bind_some,qE,qM,qN,hi])]
  rfl
 |m+1,i,M+1,h1,h2=>by
  have hi:(i:Int)<(l.length:Int):=by omega
  have hx:0≤(i:Int)∧(i:Int)<l.length:=⟨by omega,hi⟩
  have hc:=qCn hx
  have hm:=qH8 hx
  have ho:=hok _ hm
  have hw:IntKind.i64.wrap ((i:Int)+1)=((i+1:Nat):Int):=by rw [qX (by omega)];omega
  have hnn:=hn _ hm
  obtain ⟨q,rfl⟩:∃q,n=q+1:=⟨n-1,by omega⟩
  have hlp:=qPS l i q hx hl (hk _ hm) (kd (ndi l i)).length 0 (q+1) (by omega) (by omega)
  rw [List.drop_zero,show ((qT l (i:Int)).all fun k=>decide (0≤k∧k≤(i:Int)-1)&&!(qBF l k&&!qB4 l (i:Int)))=inB l i from rfl] at hlp
  simp only [Int.natCast_zero] at hlp
  have e:qFG l i (m+1)=(qFv l i&&inB l i&&qFG l (i+1) m):=by unfold qFG;rw [List.range'_succ,List.all_cons]
  rw [e]
  rw [Int.toNat_natCast] at hc
  cases hnb:qCI (ndi l i) with
  |false=>
   rw [hnb] at ho
   rw [qQ (r:= .inl false) (by simp [-getElem?_pos,qBG,qC,qD,qG,qH,qJ,qK,Option.bind_some,qE,qM,qN,hi,hc,qBe,qBL,qAq,qAU,qAV,qAW,qAX,qAY,qAZ,qAa,qAb,qAc,qAd,qy,qz,q7,q8,ho])]
   simp [qFv,hnb]
  |true=>
   rw [hnb] at ho
   cases hib:inB l i with
   |false=>
    rw [hib] at hlp
    rw [qQ (r:= .inl false) (by simp [-getElem?_pos,qBG,qC,qD,qG,qH,qJ,qK,Option.bind_some,qE,qM,qN,hi,hc,qBe,qBL,qAq,qAU,qAV,qAW,qAX,qAY,qAZ,qAa,qAb,qAc,qAd,qy,qz,q7,q8,ho,hlp])]
    simp
   |true=>
    rw [hib] at hlp
    rw [qc (v':=(l.map qd,((i+1:Nat):Int))) (by simp [-getElem?_pos,qBG,qC,qD,qG,qH,qJ,qK,Option.bind_some,qE,qM,qN,hi,hc,qBe,qBL,qAq,qAU,qAV,qAW,qAX,qAY,qAZ,qAa,qAb,qAc,qAd,qy,qz,q7,q8,ho,hlp,hw])]
    rw [qQ0 l (q+1) hl hk hn hok m (i+1) M (by omega) (by omega)]
    simp [qFv,hnb]
def qD1 (l:List Nd):Bool:=decide (1≤l.length∧l.length≤60)&&(qFG l 0 l.length&&(decide (qBw (qT l) l.length ((l.length:Int)-1)=0)&&(!qBF l ((l.length:Int)-1)&&decide (qA0 (qT l) l.length ((l.length:Int)-1)≤12))))
theorem qGu (l:List Nd) (hk:∀c∈l,(kd c).length≤140737488351232∧c.2.2.2.2.1.size≤140737488351232):Ev (qBq · (l.map qd)) (qD1 l):=by
 by_cases h1:1≤l.length
 ·by_cases h60:l.length≤60
  ·have hk1:∀c∈l,(kd c).length≤140737488351232:=fun c hc=>(hk c hc).1
   obtain ⟨n1,g1⟩:=qCk (F:=fun (c:Nd) n=>qB7 n c.1 c.2.1 c.2.2.1 c.2.2.2.1 c.2.2.2.2.1 c.2.2.2.2.2.1 c.2.2.2.2.2.2.1 c.2.2.2.2.2.2.2.1 c.2.2.2.2.2.2.2.2.1 c.2.2.2.2.2.2.2.2.2.1 c.2.2.2.2.2.2.2.2.2.2.1 c.2.2.2.2.2.2.2.2.2.2.2.1 c.2.2.2.2.2.2.2.2.2.2.2.2.1 ((c.2.2.2.2.2.2.2.2.2.2.2.2.2).map qBE)) (f:=qCI) l (fun c hc=>qHk c (hk c hc).2)
   obtain ⟨n2,g2⟩:=qCk (F:=fun (c:Nd) n=>if (kd c).length+2≤n then some () else none) (f:=fun _=>()) l (fun c hc=>⟨(kd c).length+2,fun n hn=>if_pos hn⟩)
   obtain ⟨n3,g3⟩:=qJI l (by omega) hk1 l.length ((l.length:Int)-1) (by omega) (by omega) (by omega)
   obtain ⟨n4,g4⟩:∃n0,qFG l 0 l.length=true→∀n,n0≤n→qAt n (l.map qd) ((l.length:Int)-1)=some (qA0 (qT l) l.length ((l.length:Int)-1)):=by
    by_cases ho:qFG l 0 l.length=true
    ·obtain ⟨n4,g4⟩:=qJJ l h60 hk1 (fun (i:Int) h0 h1=>(qFP.1 ho i h0 h1).2) l.length ((l.length:Int)-1) (by omega) (by omega) (by omega) (by omega)
     exact ⟨n4,fun _=>g4⟩
    ·exact ⟨0,fun h=>absurd h ho⟩
   refine ⟨n1+n2+n3+n4+l.length+5,fun n hn=>?_⟩
   obtain ⟨m,rfl,hm⟩:=up1 hn
   have hlp:=qQ0 l m h60 hk1 (fun c hc=>by
    have:=g2 m (by omega) c hc
    split at this
    ·assumption
    ·cases this) (g1 m (by omega)) l.length 0 m (by omega) (by omega)
   have g3:=g3 m (by omega)
   dsimp only at g3
   simp only [Int.natCast_zero] at hlp
   have hw:IntKind.i64.wrap ((l.length:Int)-1)=(l.length:Int)-1:=qX (by omega)
   have hx:0≤(l.length:Int)-1∧(l.length:Int)-1<l.length:=by omega
   have hc:=qCn hx
   have a1:¬(l.length:Int)<1:=by omega
   have a2:¬(l.length:Int)>60:=by omega
   generalize hxe:(l.length:Int)-1=x at hw hx hc g3 g4⊢
   simp only [qBq,qC5,qC,qD,qG,qH,qJ,qK,Option.bind_some,qE,qM,qN,List.length_map,decide_eq_true_eq,a1,a2,if_false,hlp]
   unfold qD1
   rw [hxe]
   cases ho:qFG l 0 l.length with
   |false=>simp [qC,qD,qG,qH,qJ,qK,Option.bind_some,qE,qM,qN]
   |true=>
    have g4:=g4 ho m (by omega)
    simp only [if_true,qC,qD,qG,qH,qJ,qK,Option.bind_some,qE,qM,qN,List.length_map,hxe,hw,g3]
    by_cases ht:qBw (qT l) l.length x=0
    ·by_cases ha:(ndi l x).1=3
     ·simp [-getElem?_pos,qC,qD,qG,qH,qJ,qK,Option.bind_some,qE,qM,qN,ht,hx,hc,qBe,qBL,qAq,qAU,qAV,qAW,qAX,qAY,qAZ,qAa,qAb,qAc,qAd,qy,qz,q7,q8,ha,qBF]
     ·simp [-getElem?_pos,qC,qD,qG,qH,qJ,qK,Option.bind_some,qE,qM,qN,ht,hx,hc,qBe,qBL,qAq,qAU,qAV,qAW,qAX,qAY,qAZ,qAa,qAb,qAc,qAd,qy,qz,q7,q8,ha,qBF,g4,h1,h60]
    ·simp [-getElem?_pos,qC,qD,qG,qH,qJ,qK,Option.bind_some,qE,qM,qN,ht]
  ·refine ⟨1,fun n hn=>?_⟩
   obtain ⟨m,rfl,hm⟩:=up1 (n0:=0) hn
   have a1:¬(l.length:Int)<1:=by omega
   have a2:(l.length:Int)>60:=by omega
   simp [-getElem?_pos,qBq,qC5,qC,qD,qG,qH,qJ,qK,Option.bind_some,qE,qM,qN,a1,a2,qD1,h60]
 ·refine ⟨1,fun n hn=>?_⟩
  obtain ⟨m,rfl,hm⟩:=up1 (n0:=0) hn
  have a1:(l.length:Int)<1:=by omega
  simp [-getElem?_pos,qBq,qC5,qC,qD,qG,qH,qJ,qK,Option.bind_some,qE,qM,qN,a1,qD1,h1]
theorem qOq (l:List Nd) (x1 d:Int) (f n:Nat) (hx:0≤x1∧x1<l.length) (hl:l.length≤140737488351232) (hd:0≤d∧d≤1000) (hk:(kd (ndi l x1)).length≤140737488351232)
  (hrec:∀y:Int,0≤y→y<x1→qAm n (l.map qd) y (d+1)=some (qCm (qFv l) (qBF l) (qB4 l) (qT l) f y)):
  ∀(j M:Nat) (s:Int),j≤(kd (ndi l x1)).length→j+1≤M→0≤s→s≤x1→
   zC (qAQ (qAm n) n) M (l.map qd,x1,d,s,(j:Int)-1)=some (.inr (goF (qBF l) (qB4 l) (qCm (qFv l) (qBF l) (qB4 l) (qT l) f) x1 ((qT l x1).take j).reverse s))∨
   (zC (qAQ (qAm n) n) M (l.map qd,x1,d,s,(j:Int)-1)=some (.inl (-1))∧goF (qBF l) (qB4 l) (qCm (qFv l) (qBF l) (qB4 l) (qT l) f) x1 ((qT l x1).take j).reverse s= -1)
 |0,0,s,h1,h2,h3,h4=>by omega
 |0,M+1,s,h1,h2,h3,h4=>by
  refine .inl ?_
  rw [qQ (r:= .inr s) (by simp [-getElem?_pos,qAQ,qC,qD,qG,qH,qJ,qK,Option.bind_some,qE,qM,qN])]
  simp [goF]
 |j+1,0,s,h1,h2,h3,h4=>by omega
 |j+1,M+1,s,h1,h2,h3,h4=>by
  have hc:=qCn hx
  have hj:j<(kd (ndi l x1)).length:=by omega
  have hg:(qT l x1)[j]?=some (qT l x1)[j]:=List.getElem?_eq_getElem hj
  have ih:=qOq l x1 d f n hx hl hd hk hrec j M
  rw [qPy hg]
  generalize (qT l x1)[j]=k at hg
  have hi:(((j+1:Nat):Int)-1)=(j:Int):=by omega
  rw [hi,goF]
  have hg':(ndi l x1).2.2.2.2.2.2.2.2.2.2.2.2.2[j]?=some k:=hg
  have hj':j<(ndi l x1).2.2.2.2.2.2.2.2.2.2.2.2.2.length:=hj
  have hws:IntKind.i64.wrap (s-1)=s-1:=qX (by omega)
  by_cases hks:k=s-1
  ·by_cases hk0:k<0
   ·refine .inr ⟨?_,by rw [if_pos (.inr (.inl hk0))]⟩
    rw [qQ (r:= .inl (-1)) (by simp [-getElem?_pos,qAQ,qC,qD,qG,qH,qJ,qK,Option.bind_some,qE,qM,qN,hc,hx,qBe,qBL,qAq,qAU,qAV,qAW,qAX,qAY,qAZ,qAa,qAb,qAc,qAd,qy,qz,q7,q8,hg',hj',hks,hws,show s-1<0 by omega])]
   ·have hws':IntKind.i64.wrap (s-1)=k:=by rw [hws,hks]
    have hkx:0≤k∧k<l.length:=by omega
    have hck:=qCn hkx
    by_cases hac:qBF l k=true∧qB4 l x1=false
    ·have ha:(ndi l k).1=3:=by simpa [qBF] using hac.1
     have hb:¬(ndi l x1).1=6:=by simpa [qB4] using hac.2
     refine .inr ⟨?_,by rw [if_pos (.inr (.inr hac))]⟩
     rw [qQ (r:= .inl (-1)) (by simp [-getElem?_pos,qAQ,qC,qD,qG,qH,qJ,qK,Option.bind_some,qE,qM,qN,hc,hx,qBe,qBL,qAq,qAU,qAV,qAW,qAX,qAY,qAZ,qAa,qAb,qAc,qAd,qy,qz,q7,q8,hg',hj',hws',hk0,hck,hkx,ha,hb])]
    ·have hr:=hrec k (by omega) (by omega)
     have hwd:IntKind.i64.wrap (d+1)=d+1:=qX (by omega)
     have hw2:IntKind.i64.wrap ((j:Int)-1)=(j:Int)-1:=qX (by omega)
     have hno:¬(k≠s-1∨k<0∨(qBF l k=true∧qB4 l x1=false)):=fun h=>by
      rcases h with h|h|h
      ·exact h hks
      ·exact hk0 h
      ·exact hac h
     have hcase:¬(ndi l k).1=3∨((ndi l k).1=3∧(ndi l x1).1=6):=by
      by_cases ha:(ndi l k).1=3
      ·refine .inr ⟨ha,?_⟩
       refine Decidable.byContradiction fun hb=>hac ⟨by simp [qBF,ha],by simp [qB4,hb]⟩
      ·exact .inl ha
     rw [if_neg hno]
     by_cases ht:qCm (qFv l) (qBF l) (qB4 l) (qT l) f k<0
     ·refine .inr ⟨?_,by rw [if_pos ht]⟩
      rcases hcase with ha|⟨ha,hb⟩
      ·rw [qQ (r:= .inl (-1)) (by simp [-getElem?_pos,qAQ,qC,qD,qG,qH,qJ,qK,Option.bind_some,qE,qM,qN,hc,hx,qBe,qBL,qAq,qAU,qAV,qAW,qAX,qAY,qAZ,qAa,qAb,qAc,qAd,qy,qz,q7,q8,hg',hj',hws',hk0,hck,hkx,ha,hwd,hr,ht])]
      ·rw [qQ (r:= .inl (-1)) (by simp [-getElem?_pos,qAQ,qC,qD,qG,qH,qJ,qK,Option.bind_some,qE,qM,qN,hc,hx,qBe,qBL,qAq,qAU,qAV,qAW,qAX,qAY,qAZ,qAa,qAb,qAc,qAd,qy,qz,q7,q8,hg',hj',hws',hk0,hck,hkx,ha,hb,hwd,hr,ht])]
     ·rw [if_neg ht]
      have hb1:=(qPR (qFv l) (qBF l) (qB4 l) (qT l) f (k.toNat+1) k (by omega) (by omega) (by omega)).1
      have hstep:zC (qAQ (qAm n) n) (M+1) (l.map qd,x1,d,s,(j:Int))=zC (qAQ (qAm n) n) M (l.map qd,x1,d,qCm (qFv l) (qBF l) (qB4 l) (qT l) f k,(j:Int)-1):=by
       rcases hcase with ha|⟨ha,hb⟩
       ·rw [qc (v':=(l.map qd,x1,d,qCm (qFv l) (qBF l) (qB4 l) (qT l) f k,(j:Int)-1)) (by simp [-getElem?_pos,qAQ,qC,qD,qG,qH,qJ,qK,Option.bind_some,qE,qM,qN,hc,hx,qBe,qBL,qAq,qAU,qAV,qAW,qAX,qAY,qAZ,qAa,qAb,qAc,qAd,qy,qz,q7,q8,hg',hj',hws',hk0,hck,hkx,ha,hwd,hr,ht,hw2])]
       ·rw [qc (v':=(l.map qd,x1,d,qCm (qFv l) (qBF l) (qB4 l) (qT l) f k,(j:Int)-1)) (by simp [-getElem?_pos,qAQ,qC,qD,qG,qH,qJ,qK,Option.bind_some,qE,qM,qN,hc,hx,qBe,qBL,qAq,qAU,qAV,qAW,qAX,qAY,qAZ,qAa,qAb,qAc,qAd,qy,qz,q7,q8,hg',hj',hws',hk0,hck,hkx,ha,hb,hwd,hr,ht,hw2])]
      rw [hstep]
      exact ih _ (by omega) (by omega) (by omega) (by omega)
  ·refine .inr ⟨?_,by rw [if_pos (.inl hks)]⟩
   rw [qQ (r:= .inl (-1)) (by simp [-getElem?_pos,qAQ,qC,qD,qG,qH,qJ,qK,Option.bind_some,qE,qM,qN,hc,hx,qBe,qBL,qAq,qAU,qAV,qAW,qAX,qAY,qAZ,qAa,qAb,qAc,qAd,qy,qz,q7,q8,hg',hj',hws,hks])]
theorem qLM (l:List Nd) (hl:l.length≤140737488351232) (hk:∀c∈l,(kd c).length≤140737488351232∧c.2.2.2.2.1.size≤140737488351232):∀(f:Nat) (x d:Int),x<l.length→d=12-f→0≤d→Ev (qAm · (l.map qd) x d) (qCm (qFv l) (qBF l) (qB4 l) (qT l) f x)
 |0,x,d,h1,h2,h3=>by
  refine ⟨1,fun n hn=>?_⟩
  obtain ⟨m,rfl,hm⟩:=up1 (n0:=0) hn
  have a:d≥12:=by omega
  by_cases h:x<0<;>simp [-getElem?_pos,qAm,qFL,qC,qD,qG,qH,qJ,qK,Option.bind_some,qE,qM,qN,h,a,qCm]
 |f+1,x,d,h1,h2,h3=>by
  by_cases h0:x<0
  ·refine ⟨1,fun n hn=>?_⟩
   obtain ⟨m,rfl,hm⟩:=up1 (n0:=0) hn
   simp [-getElem?_pos,qAm,qFL,qC,qD,qG,qH,qJ,qK,Option.bind_some,qE,qM,qN,h0,qCm]
  ·have hx:0≤x∧x<l.length:=by omega
   have hc:=qCn hx
   have hm':=qH8 hx
   obtain ⟨n0,hn0⟩:=qPz (F:=fun y n=>qAm n (l.map qd) y (d+1)) (f:=fun y=>qCm (qFv l) (qBF l) (qB4 l) (qT l) f y) x (fun y h3 h4=>qLM l hl hk f y (d+1) (by omega) (by omega) (by omega))
   obtain ⟨n1,g1⟩:=qOZ (ndi l x) (hk _ hm').2
   refine ⟨n0+n1+(kd (ndi l x)).length+5,fun n hn=>?_⟩
   obtain ⟨m,rfl,hm⟩:=up1 hn
   have g1:=g1 m (by omega)
   have h:=qOq l x d f m hx hl (by omega) (hk _ hm').1 (hn0 m (by omega)) (kd (ndi l x)).length m x (Nat.le_refl _) (by omega) (by omega) (by omega)
   have e:(qT l x).take (kd (ndi l x)).length=qT l x:=List.take_length
   rw [e] at h
   have hw2:IntKind.i64.wrap (((kd (ndi l x)).length:Int)-1)=((kd (ndi l x)).length:Int)-1:=by
    have:=(hk _ hm').1
    exact qX (by omega)
   have a:¬d≥12:=by omega
   unfold kd at h hw2
   dsimp only at g1⊢
   simp only [qAm,qFL,qCm,qC,qD,qG,qH,qJ,qK,Option.bind_some,qE,qM,qN]
   cases hnb:qCI (ndi l x) with
   |false=>
    rw [hnb] at g1
    simp [-getElem?_pos,qC,qD,qG,qH,qJ,qK,Option.bind_some,qE,qM,qN,h0,a,hc,hx,qBe,qBL,qAq,qAU,qAV,qAW,qAX,qAY,qAZ,qAa,qAb,qAc,qAd,qy,qz,q7,q8,g1,qFv,hnb]
   |true=>
    rw [hnb] at g1
    rcases h with h|⟨h,h'⟩
    ·simp [-getElem?_pos,qC,qD,qG,qH,qJ,qK,Option.bind_some,qE,qM,qN,h0,a,hc,hx,qBe,qBL,qAq,qAU,qAV,qAW,qAX,qAY,qAZ,qAa,qAb,qAc,qAd,qy,qz,q7,q8,g1,qFv,hnb,hw2,h]
    ·simp only [h']
     simp [-getElem?_pos,qC,qD,qG,qH,qJ,qK,Option.bind_some,qE,qM,qN,h0,a,hc,hx,qBe,qBL,qAq,qAU,qAV,qAW,qAX,qAY,qAZ,qAa,qAb,qAc,qAd,qy,qz,q7,q8,g1,qFv,hnb,hw2,h]
theorem qRk {l:List Nd}:qD1 l=(decide (1≤l.length∧l.length≤60)&&(!qBF l ((l.length:Int)-1)&&decide (qCm (qFv l) (qBF l) (qB4 l) (qT l) 12 ((l.length:Int)-1)=0))):=by
 rw [Bool.eq_iff_iff]
 unfold qD1
 simp only [Bool.and_eq_true,decide_eq_true_eq]
 constructor
 ·intro ⟨h1,h2,h3,h4,h5⟩
  refine ⟨h1,h4,?_⟩
  rw [qQy (qFv l) (qBF l) (qB4 l) (qT l) 12 l.length l.length ((l.length:Int)-1) (by omega) (by omega) (by omega) (fun i i0 i1=>qFP.1 h2 i i0 (by omega)) (by omega) (by simpa using h5)]
  exact h3
 ·intro ⟨h1,h4,h5⟩
  obtain ⟨b1,b2,b3,b4⟩:=qPR (qFv l) (qBF l) (qB4 l) (qT l) 12 l.length ((l.length:Int)-1) (by omega) (by omega) (by omega)
  rw [h5] at b2 b3
  refine ⟨h1,qFP.2 (fun i i0 i1=>b3 i i0 (by omega)),b2,h4,?_⟩
  have:=b4 l.length (fun i i0 i1=>(b3 i i0 i1).2) (by omega)
  simpa using this
theorem qGv (l:List Nd) (hl:l.length≤140737488351232) (hk:∀c∈l,(kd c).length≤140737488351232∧c.2.2.2.2.1.size≤140737488351232):Ev (qBo · (l.map qd)) (qD1 l):=by
 rw [qRk]
 by_cases h:1≤l.length∧l.length≤60
 ·obtain ⟨n1,g1⟩:=qLM l hl hk 12 ((l.length:Int)-1) 0 (by omega) (by omega) (by omega)
  obtain ⟨n2,g2⟩:=qAR (l.length:Int) 1 60
  refine ⟨n1+n2+1,fun n hn=>?_⟩
  obtain ⟨m,rfl,hm⟩:=up1 hn
  have g1:=g1 m (by omega)
  have g2:=g2 m (by omega)
  dsimp only at g1 g2⊢
  have hw:IntKind.i64.wrap ((l.length:Int)-1)=(l.length:Int)-1:=qX (by omega)
  have hx:0≤(l.length:Int)-1∧(l.length:Int)-1<l.length:=by omega
  have hc:=qCn hx
  have h':(1:Int)≤l.length∧(l.length:Int)≤60:=by omega
  generalize hxe:(l.length:Int)-1=x at hw hx hc g1⊢
  by_cases ha:(ndi l x).1=3
  ·simp [-getElem?_pos,qBo,qC0,qC,qD,qG,qH,qJ,qK,Option.bind_some,qE,qM,qN,hxe,g2,h',hw,hx,hc,qBe,qBL,qAq,qAU,qAV,qAW,qAX,qAY,qAZ,qAa,qAb,qAc,qAd,qy,qz,q7,q8,ha,qBF]
  ·by_cases hf:qCm (qFv l) (qBF l) (qB4 l) (qT l) 12 x=0<;>simp [-getElem?_pos,qBo,qC0,qC,qD,qG,qH,qJ,qK,Option.bind_some,qE,qM,qN,hxe,g1,g2,h,h',hw,hx,hc,qBe,qBL,qAq,qAU,qAV,qAW,qAX,qAY,qAZ,qAa,qAb,qAc,qAd,qy,qz,q7,q8,ha,qBF,hf]
 ·obtain ⟨n2,g2⟩:=qAR (l.length:Int) 1 60
  refine ⟨n2+1,fun n hn=>?_⟩
  obtain ⟨m,rfl,hm⟩:=up1 hn
  have g2:=g2 m (by omega)
  dsimp only at g2⊢
  have h':¬((1:Int)≤l.length∧(l.length:Int)≤60):=by omega
  simp [-getElem?_pos,qBo,qC0,qC,qD,qG,qH,qJ,qK,Option.bind_some,qE,qM,qN,g2,h,h']
def qAf (l:List UInt8):List UInt8:=l.flatMap fun c=>if c=34 then [34,34] else [c]
def qDa (s:ByteArray):ByteArray:=⟨(34::qAf s.toList++ [34]).toArray⟩
theorem qEI (c:UInt8) (l:List UInt8):qAf (c::l)=(if c=34 then [34,34] else [c])++qAf l:=by simp [qAf]
theorem qOr (l r:List UInt8):qAf (l++r)=qAf l++qAf r:=by simp [qAf]
theorem qHm:∀l:List UInt8,(qAf l).length≤2*l.length
 | []=>by simp [qAf]
 |c::l=>by
  have:=qHm l
  rw [qEI]
  by_cases h:c=34<;>simp [h]<;>omega
theorem qJ9:∀s:List UInt8,Lib.replaceK [34] [34,34] (Lib.count s [34]) s=qAf s
 | []=>by
  rw [Lib.count_miss (by rfl)]
  rfl
 |b::l=>by
  have ih:=qJ9 l
  by_cases hb:b=34
  ·subst hb
   have h0:Lib.index (34::l) [34]=((0:Nat):Int):=by simp [Lib.index,List.isPrefixOf]
   rw [Lib.count_hit (by simp) h0,Nat.add_comm,Lib.replaceK_hit _ _ _ _ 0 h0]
   simp only [List.take_zero,List.nil_append,Nat.zero_add,List.length_singleton,List.drop_succ_cons,List.drop_zero]
   rw [ih,qEI,if_pos rfl]
  ·have hix:Lib.index (b::l) [34]=if Lib.index l [34]== -1 then-1 else Lib.index l [34]+1:=by
    have:((34:UInt8)==b)=false:=by simpa using fun e=>hb e.symm
    simp [Lib.index,List.isPrefixOf,this]
   rw [qEI,if_neg hb]
   by_cases hm:Lib.index l [34]= -1
   ·rw [hm] at hix
    rw [Lib.count_miss hm] at ih
    rw [Lib.count_miss (by rw [hix];rfl)]
    rw [Lib.replaceK] at ih⊢
    rw [←ih]
    rfl
   ·have hge:=Lib.index_ge l [34]
    obtain ⟨i,hi⟩:∃i:Nat,Lib.index l [34]=i:=⟨(Lib.index l [34]).toNat,by omega⟩
    have hix':Lib.index (b::l) [34]=((i+1:Nat):Int):=by
     rw [hix,if_neg (by simp [hm]),hi]
     omega
    rw [Lib.count_hit (by simp) hi,Nat.add_comm,Lib.replaceK_hit _ _ _ _ i hi] at ih
    rw [Lib.count_hit (by simp) hix',Nat.add_comm,Lib.replaceK_hit _ _ _ _ (i+1) hix']
    rw [←ih]
    simp only [List.length_singleton,List.take_succ_cons,List.drop_succ_cons,List.cons_append,List.singleton_append,List.nil_append]
theorem qMQ (s:List UInt8):Lib.replaceAll s [34] [34,34]=qAf s:=by
 have h1:(([34]:List UInt8)== [34,34])=false:=by decide
 have h2:Lib.replaceNum s [34] (-1)=Lib.count s [34]:=by unfold Lib.replaceNum;rw [if_pos (.inl (by decide))]
 unfold Lib.replaceAll Lib.replace
 rw [h1,h2]
 exact qJ9 s
theorem qSN {s:ByteArray} {i:Nat} {c:UInt8} (h:s.toList[i]?=some c):s.extract i (i+1)=⟨#[c]⟩:=by
 apply qGs
 rw [Go.Lib.toList_data] at h
 rw [ByteArray.data_extract,Array.toList_extract]
 show (s.data.toList.drop i).take (i+1-i)=_
 rw [qE4 h,Nat.add_sub_cancel_left]
 rfl
theorem qQY (n:Nat) (s A:ByteArray) (i:Nat) (c:UInt8) (hg:s.toList[i]?=some c) (hi:i<s.size) (hA:A.size≤10000) (hs:s.size≤1000):
  (qBc n (s,A,(i:Int))).run=some (.inl (s,if c=34 then (A++⟨#[34]⟩)++⟨#[c]⟩ else A++⟨#[c]⟩,((i+1:Nat):Int))):=by
 have hi':(i:Int)<s.size:=by omega
 have w1:IntKind.i64.wrap ((i:Int)+1)=((i+1:Nat):Int):=by rw [qX (by omega)];omega
 have hx:=qSN hg
 have d1:(⟨#[34]⟩:ByteArray).size=1:=rfl
 have d2:(⟨#[c]⟩:ByteArray).size=1:=rfl
 have y1:(0:Int)≤(i:Int)∧(i:Int)≤((i+1:Nat):Int)∧((i+1:Nat):Int)≤s.size:=by omega
 have y0:(0:Int)≤(i:Int):=by omega
 have z1:A.size+(⟨#[34]⟩:ByteArray).size≤9223372036854775807:=by omega
 have z2:(A++(⟨#[34]⟩:ByteArray)).size+(⟨#[c]⟩:ByteArray).size≤9223372036854775807:=by rw [ByteArray.size_append];omega
 have z3:A.size+(⟨#[c]⟩:ByteArray).size≤9223372036854775807:=by omega
 by_cases hc:c=34
 ·have hb:((c.toNat:Int)==(34:Int))=true:=by rw [hc];rfl
  rw [if_pos hc]
  simp only [qBc,qC,qD,qG,qH,qJ,qK,Option.bind_some,qE,qM,qN,decide_eq_true hi',decide_eq_true y0,Int.toNat_natCast,hg,hb,decide_eq_true z1,w1,decide_eq_true y1,hx,decide_eq_true z2,if_true]
 ·have hb:((c.toNat:Int)==(34:Int))=false:=by
   have:c.toNat≠34:=fun e=>hc (UInt8.toNat_inj.1 e)
   simp
   omega
  simp only [qBc,qC,qD,qG,qH,qJ,qK,Option.bind_some,qE,qM,qN,decide_eq_true hi',decide_eq_true y0,Int.toNat_natCast,hg,hb,w1,decide_eq_true y1,hx,decide_eq_true z3,if_true,hc,if_false,Bool.false_eq_true]
theorem qN0 (n:Nat) (s:ByteArray) (hs:s.size≤1000):∀(r pre:List UInt8) (M:Nat),s.toList=pre++r→r.length+1≤M→
  zC (qBc n) M (s,⟨(34::qAf pre).toArray⟩,(pre.length:Int))=some ⟨(34::qAf s.toList).toArray⟩
 |r,pre,0,h1,h2=>by omega
 | [],pre,M+1,h1,h2=>by
  have hi:¬(pre.length:Int)<s.size:=by rw [qB3,h1];simp
  rw [h1,List.append_nil]
  generalize (⟨(34::qAf pre).toArray⟩:ByteArray)=A
  rw [qQ (r:=A) (by simp [qBc,qC,qD,qG,qH,qJ,qK,Option.bind_some,qE,qM,qN,hi])]
 |c::r,pre,M+1,h1,h2=>by
  have hl:s.size=pre.length+(r.length+1):=by rw [qB3,h1];simp
  have hg:s.toList[pre.length]?=some c:=by rw [h1];simp
  have hq:=qHm pre
  have hA:(⟨(34::qAf pre).toArray⟩:ByteArray).size≤10000:=by
   rw [qCu]
   simp
   omega
  rw [qc (qQY n s _ pre.length c hg (by omega) hA hs)]
  have e:(if c=34 then ((⟨(34::qAf pre).toArray⟩:ByteArray)++⟨#[34]⟩)++⟨#[c]⟩ else (⟨(34::qAf pre).toArray⟩:ByteArray)++⟨#[c]⟩)=⟨(34::qAf (pre++ [c])).toArray⟩:=by
   apply qGs
   by_cases hc:c=34
   ·rw [if_pos hc,qDF,qDF,qOr,qEI,if_pos hc,hc]
    simp [qAf]
   ·rw [if_neg hc,qDF,qOr,qEI,if_neg hc]
    simp [qAf]
  rw [e]
  have h:=qN0 n s hs r (pre++ [c]) M (by rw [h1];simp) (by simp at h2;omega)
  rw [show ((pre++ [c]).length:Int)=((pre.length+1:Nat):Int) by simp] at h
  exact h
theorem qQZ (s:ByteArray):(qDa s).size≤2*s.size+2:=by
 have:=qHm s.toList
 rw [qAK] at this
 rw [qCu]
 simp [qDa]
 omega
theorem qNH (s:ByteArray) (hs:s.size≤1000):Ev (qEi · s) (qDa s):=by
 refine ⟨s.size+5,fun n hn=>?_⟩
 obtain ⟨m,rfl,hm⟩:=up1 hn
 have h:=qN0 m s hs s.toList [] m rfl (by rw [qAK];omega)
 simp only [List.length_nil,Int.natCast_zero] at h
 have e0:(⟨(34::qAf []).toArray⟩:ByteArray)=⟨#[34]⟩:=rfl
 rw [e0] at h
 have hz:(⟨(34::qAf s.toList).toArray⟩:ByteArray).size+(⟨#[34]⟩:ByteArray).size≤9223372036854775807:=by
  have:=qHm s.toList
  rw [qAK] at this
  have d1:(⟨#[34]⟩:ByteArray).size=1:=rfl
  rw [qCu,d1]
  simp
  omega
 simp only [qEi,qGQ,qC,qD,qG,qH,qJ,qK,Option.bind_some,qE,qM,qN,h,decide_eq_true hz,if_true]
 congr 1
theorem qOa (s:ByteArray) (hs:s.size≤1000):Ev (qDX · s ⟨#[34]⟩ ⟨#[34,34]⟩) ⟨(qAf s.toList).toArray⟩:=by
 refine ⟨1,fun n hn=>?_⟩
 obtain ⟨m,rfl,hm⟩:=up1 (n0:=0) hn
 show zX s ⟨#[34]⟩ ⟨#[34,34]⟩=_
 have hc:=Lib.countB_mul_le (⟨#[34]⟩:ByteArray) (by decide) s.size s (Nat.le_refl _)
 have d1:(⟨#[34]⟩:ByteArray).size=1:=rfl
 have d2:(⟨#[34,34]⟩:ByteArray).size=2:=rfl
 unfold zX
 rw [d1] at hc
 rw [if_pos (by rw [d1,d2];omega)]
 congr 3
 rw [←Go.Lib.toList_data]
 exact qMQ _
def lvl (op:Int):Int:=if op≥6 then 1 else if op=5 then 2 else if op≥3 then 4 else 3
theorem qQa (op:Int):1≤lvl op∧lvl op≤4:=by
 unfold lvl
 split
 ·omega
 ·split
  ·omega
  ·split<;>omega
theorem qIb (op:Int):Ev (qCQ · op) (lvl op):=by
 refine ⟨1,fun n hn=>?_⟩
 obtain ⟨m,rfl,hm⟩:=up1 hn
 simp only [qCQ,qGM,qC,qD,qG,qH,qJ,qK,Option.bind_some,qE,qM,qN]
 unfold lvl
 by_cases h1:op≥6
 ·simp [h1]
 ·by_cases h2:op=5
  ·simp [h2]
  ·by_cases h3:op≥3<;>simp [h1,h2,h3]
theorem qSO {op:Int} (h:1≤op∧op≤11):op=1∨op=2∨op=3∨op=4∨op=5∨op=6∨op=7∨op=8∨op=9∨op=10∨op=11:=by omega
theorem qKA (op:Int) (h:1≤op∧op≤11):Ev (qDj · op) (lvl op):=by
 refine ⟨1,fun n hn=>?_⟩
 obtain ⟨m,rfl,hm⟩:=up1 hn
 simp only [qDj,qH0,qC,qD,qG,qH,qJ,qK,Option.bind_some,qE,qM,qN]
 rcases qSO h with rfl|rfl|rfl|rfl|rfl|rfl|rfl|rfl|rfl|rfl|rfl<;>rfl
def qo (op:Int):ByteArray:=if op=1 then ⟨#[43]⟩ else if op=2 then ⟨#[45]⟩ else if op=3 then ⟨#[42]⟩ else if op=4 then ⟨#[47]⟩ else if op=5 then ⟨#[38]⟩ else if op=6 then ⟨#[61]⟩ else if op=7 then ⟨#[60,62]⟩ else if op=8 then ⟨#[60]⟩ else if op=9 then ⟨#[60,61]⟩ else if op=10 then ⟨#[62]⟩ else ⟨#[62,61]⟩
def fnS (op:Int):ByteArray:=if op=1 then ⟨#[83,85,77]⟩ else if op=2 then ⟨#[77,73,78]⟩ else if op=3 then ⟨#[77,65,88]⟩ else if op=4 then ⟨#[67,79,85,78,84]⟩ else if op=5 then ⟨#[73,70]⟩ else if op=6 then ⟨#[65,78,68]⟩ else if op=7 then ⟨#[79,82]⟩ else if op=8 then ⟨#[78,79,84]⟩ else if op=9 then ⟨#[65,66,83]⟩ else ⟨#[76,69,78]⟩
theorem qH9 {op:Int} (h:1≤op∧op≤11):(qo op).size≤2:=by
 rcases qSO h with rfl|rfl|rfl|rfl|rfl|rfl|rfl|rfl|rfl|rfl|rfl<;>decide
theorem qN1 {op:Int} (h:1≤op∧op≤10):(fnS op).size≤5:=by
 rcases ten h with rfl|rfl|rfl|rfl|rfl|rfl|rfl|rfl|rfl|rfl<;>decide
theorem qGW (op:Int) (h:1≤op∧op≤11):Ev (qCG · op) (qo op):=by
 refine ⟨1,fun n hn=>?_⟩
 obtain ⟨m,rfl,hm⟩:=up1 hn
 simp only [qCG,qG0,qC,qD,qG,qH,qJ,qK,Option.bind_some,qE,qM,qN]
 rcases qSO h with rfl|rfl|rfl|rfl|rfl|rfl|rfl|rfl|rfl|rfl|rfl<;>rfl
theorem qGX (op:Int) (h:1≤op∧op≤11):Ev (qBW · op) (qo op):=by
 refine ⟨1,fun n hn=>?_⟩
 obtain ⟨m,rfl,hm⟩:=up1 hn
 simp only [qBW,qG7,qC,qD,qG,qH,qJ,qK,Option.bind_some,qE,qM,qN]
 rcases qSO h with rfl|rfl|rfl|rfl|rfl|rfl|rfl|rfl|rfl|rfl|rfl<;>rfl
theorem qLN (op:Int) (h:1≤op∧op≤10):Ev (qCh · op) (fnS op):=by
 refine ⟨1,fun n hn=>?_⟩
 obtain ⟨m,rfl,hm⟩:=up1 hn
 simp only [qCh,qI6,qC,qD,qG,qH,qJ,qK,Option.bind_some,qE,qM,qN]
 rcases ten h with rfl|rfl|rfl|rfl|rfl|rfl|rfl|rfl|rfl|rfl<;>rfl
theorem qJK (op:Int) (h:1≤op∧op≤10):Ev (qCH · op) (fnS op):=by
 refine ⟨1,fun n hn=>?_⟩
 obtain ⟨m,rfl,hm⟩:=up1 hn
 simp only [qCH,qG6,qC,qD,qG,qH,qJ,qK,Option.bind_some,qE,qM,qN]
 rcases ten h with rfl|rfl|rfl|rfl|rfl|rfl|rfl|rfl|rfl|rfl<;>rfl
def qJL (xs:List ByteArray):ByteArray:=⟨(Lib.join (xs.map (·.data.toList)) [44]).toArray⟩
def par (b:Bool) (s:ByteArray):ByteArray:=if b=true then ((⟨#[40]⟩:ByteArray)++s)++⟨#[41]⟩ else s
def kid (c:Nd) (j:Nat):Int:=(kd c).getD j 0
def qp (l:List Nd):Nat→Int→Int→ByteArray
 |0,_,_=>⟨#[]⟩
 |f+1,i,t=>
  if (ndi l i).1=1 then (if (ndi l i).2.2.1=2 then qDa (ndi l i).2.2.2.2.1 else q9 (ndi l i).2.2.1 (ndi l i).2.2.2.1 (ndi l i).2.2.2.2.1)
  else if (ndi l i).1=2 then qAT (ndi l i).2.2.2.2.2.1 (ndi l i).2.2.2.2.2.2.1 (ndi l i).2.2.2.2.2.2.2.1 (ndi l i).2.2.2.2.2.2.2.2.1
  else if (ndi l i).1=3 then (qAT (ndi l i).2.2.2.2.2.1 (ndi l i).2.2.2.2.2.2.1 (ndi l i).2.2.2.2.2.2.2.1 (ndi l i).2.2.2.2.2.2.2.2.1++⟨#[58]⟩)++qAT (ndi l i).2.2.2.2.2.2.2.2.2.1 (ndi l i).2.2.2.2.2.2.2.2.2.2.1 (ndi l i).2.2.2.2.2.2.2.2.2.2.2.1 (ndi l i).2.2.2.2.2.2.2.2.2.2.2.2.1
  else if (ndi l i).1=4 then (⟨#[45]⟩:ByteArray)++qp l f (kid (ndi l i) 0) 5
  else if (ndi l i).1=5 then par (decide (lvl (ndi l i).2.1<t)) ((qp l f (kid (ndi l i) 0) (lvl (ndi l i).2.1)++qo (ndi l i).2.1)++qp l f (kid (ndi l i) 1) (lvl (ndi l i).2.1+1))
  else ((fnS (ndi l i).2.1++⟨#[40]⟩)++qJL ((qT l i).map fun k=>qp l f k 1))++⟨#[41]⟩
theorem qQ1 (l:List Nd) (f:Nat) (i:Int):qp l f i 0=qp l f i 1:=by
 cases f with
 |zero=>rfl
 |succ f=>
  have h:=qQa (ndi l i).2.1
  have e:decide (lvl (ndi l i).2.1<0)=decide (lvl (ndi l i).2.1<1):=by
   rw [decide_eq_false (by omega),decide_eq_false (by omega)]
  simp only [qp,e]
theorem qFQ {c:Nd} (h:qCI c=true):(c.1=1∧okV c.2.2.1 c.2.2.2.1 c.2.2.2.2.1=true)∨c.1=2∨c.1=3∨(c.1=4∧(kd c).length=1)∨(c.1=5∧(1≤c.2.1∧c.2.1≤11)∧(kd c).length=2)∨(c.1=6∧(1≤c.2.1∧c.2.1≤10)∧(1≤(kd c).length∧(kd c).length≤10)):=by
 unfold qCI at h
 by_cases k1:c.1=1
 ·rw [if_pos k1] at h
  simp only [Bool.and_eq_true] at h
  exact .inl ⟨k1,h.2.2.2.2.1⟩
 rw [if_neg k1] at h
 by_cases k2:c.1=2
 ·exact .inr (.inl k2)
 rw [if_neg k2] at h
 by_cases k3:c.1=3
 ·exact .inr (.inr (.inl k3))
 rw [if_neg k3] at h
 by_cases k4:c.1=4
 ·rw [if_pos k4] at h
  simp only [Bool.and_eq_true,decide_eq_true_eq] at h
  exact .inr (.inr (.inr (.inl ⟨k4,h.2.2.2.2⟩)))
 rw [if_neg k4] at h
 by_cases k5:c.1=5
 ·rw [if_pos k5] at h
  simp only [Bool.and_eq_true,decide_eq_true_eq] at h
  exact .inr (.inr (.inr (.inr (.inl ⟨k5,h.1,h.2.2.2.2⟩))))
 rw [if_neg k5] at h
 by_cases k6:c.1=6
 ·rw [if_pos k6] at h
  simp only [Bool.and_eq_true] at h
  have ha:=h.1
  unfold qFn at ha
  refine .inr (.inr (.inr (.inr (.inr ⟨k6,?_⟩))))
  by_cases h5:c.2.1=5
  ·rw [if_pos h5] at ha
   have:=of_decide_eq_true ha
   omega
  ·rw [if_neg h5] at ha
   by_cases h8:8≤c.2.1∧c.2.1≤10
   ·rw [if_pos h8] at ha
    have:=of_decide_eq_true ha
    omega
   ·rw [if_neg h8] at ha
    by_cases h1:1≤c.2.1∧c.2.1≤7
    ·rw [if_pos h1] at ha
     have:=of_decide_eq_true ha
     omega
    ·rw [if_neg h1] at ha
     cases ha
 ·rw [if_neg k6] at h
  cases h
def szB:Nat→Nat
 |0=>37
 |f+1=>11*szB f
theorem qSP:∀f:Fin 13,szB f.val≤120000000000000:=by decide
theorem qRl {f:Nat} (h:f≤12):szB f≤120000000000000:=qSP ⟨f,by omega⟩
theorem qRm:∀f:Nat,37≤szB f
 |0=>Nat.le_refl _
 |f+1=>by have:=qRm f;simp only [szB];omega
theorem qKB (x:List UInt8) (r:List (List UInt8)) (sep:List UInt8):Lib.joinTail sep (x::r)=sep++x++Lib.joinTail sep r:=by simp [Lib.joinTail]
theorem qLO:∀(xs:List ByteArray) (b:Nat),(∀x∈xs,x.size≤b)→(Lib.joinTail [44] (xs.map (·.data.toList))).length≤xs.length*(b+1)
 | [],b,h=>by simp [Lib.joinTail]
 |x::r,b,h=>by
  have ih:=qLO r b fun y hy=>h y (List.mem_cons_of_mem _ hy)
  have hx:=h x (List.mem_cons_self ..)
  rw [qCu] at hx
  rw [List.map_cons,qKB,List.length_append,List.length_append,List.length_singleton,List.length_cons,Nat.add_mul]
  omega
theorem qKk {xs:List ByteArray} {b:Nat} (h:∀x∈xs,x.size≤b):(qJL xs).size≤xs.length*(b+1):=by
 rw [qCu]
 show (Lib.join (xs.map (·.data.toList)) [44]).length≤_
 cases xs with
 |nil=>simp [Lib.join_nil]
 |cons x r=>
  have h1:=qLO r b fun y hy=>h y (List.mem_cons_of_mem _ hy)
  have hx:=h x (List.mem_cons_self ..)
  rw [qCu] at hx
  rw [List.map_cons,Lib.join_cons,List.length_append,List.length_cons,Nat.add_mul]
  omega
structure Fine (l:List Nd):Prop where
 len:l.length≤60
 own:∀i:Int,0≤i→i<l.length→qFv l i=true∧qGV (qBF l) (qB4 l) (qT l) i
 sz:∀c∈l,(kd c).length≤140737488351232∧c.2.2.2.2.1.size≤140737488351232
theorem Fine.kid {l:List Nd} (h:Fine l) {f:Nat} {i k:Int} (hi:0≤i∧i<l.length) (hd:qA0 (qT l) (i.toNat+1) i≤(f+1:Nat)) (hk:k∈qT l i):(0≤k∧k<l.length)∧qA0 (qT l) (k.toNat+1) k≤f:=by
 have hin:=(h.own i hi.1 hi.2).2 k hk
 have h1:=(qNy (qT l) (n:=i) (b:=((f+1:Nat):Int)) (f:=i.toNat) (by omega)).1 hd k hk
 refine ⟨by omega,?_⟩
 rw [qNz (qBF l) (qB4 l) (qT l) (k.toNat+1) i.toNat k (by omega) (by omega) (fun j j0 j1=>(h.own j j0 (by omega)).2) (by omega)]
 omega
theorem qMR {l:List Nd} (h:Fine l):∀(f:Nat) (i t:Int),f≤12→(0≤i∧i<l.length)→qA0 (qT l) (i.toNat+1) i≤f→(qp l f i t).size≤szB f
 |0,i,t,hf,hi,hd=>by show (⟨#[]⟩:ByteArray).size≤_;exact Nat.zero_le _
 |f+1,i,t,hf,hi,hd=>by
  have ih:=fun k hk t'=>qMR h f k t' (by omega) (h.kid hi hd hk).1 (h.kid hi hd hk).2
  have hs:=qRm f
  have hp:∀a b c d,(qAT a b c d).size≤30:=qEM
  have hz:=(h.sz _ (qH8 hi)).2
  have d1:(⟨#[58]⟩:ByteArray).size=1:=rfl
  have d2:(⟨#[45]⟩:ByteArray).size=1:=rfl
  have d3:(⟨#[40]⟩:ByteArray).size=1:=rfl
  have d4:(⟨#[41]⟩:ByteArray).size=1:=rfl
  have hk0:∀j,j<(kd (ndi l i)).length→kid (ndi l i) j∈qT l i:=fun j hj=>by
   unfold kid
   rw [List.getD_eq_getElem?_getD,List.getElem?_eq_getElem hj]
   exact List.getElem_mem hj
  rw [szB,qp]
  rcases qFQ (h.own i hi.1 hi.2).1 with ⟨k,hv⟩|k|k|⟨k,hk⟩|⟨k,ho,hk⟩|⟨k,ho,hk⟩
  ·rw [if_pos k]
   by_cases k2:(ndi l i).2.2.1=2
   ·rw [if_pos k2]
    rw [k2] at hv
    have:=(qLC hv).2.1
    have:=qQZ (ndi l i).2.2.2.2.1
    omega
   ·rw [if_neg k2]
    have:=qQW hv
    omega
  ·rw [if_neg (by omega),if_pos k]
   have:=hp (ndi l i).2.2.2.2.2.1 (ndi l i).2.2.2.2.2.2.1 (ndi l i).2.2.2.2.2.2.2.1 (ndi l i).2.2.2.2.2.2.2.2.1
   omega
  ·rw [if_neg (by omega),if_neg (by omega),if_pos k,ByteArray.size_append,ByteArray.size_append]
   have h1:=hp (ndi l i).2.2.2.2.2.1 (ndi l i).2.2.2.2.2.2.1 (ndi l i).2.2.2.2.2.2.2.1 (ndi l i).2.2.2.2.2.2.2.2.1
   have h2:=hp (ndi l i).2.2.2.2.2.2.2.2.2.1 (ndi l i).2.2.2.2.2.2.2.2.2.2.1 (ndi l i).2.2.2.2.2.2.2.2.2.2.2.1 (ndi l i).2.2.2.2.2.2.2.2.2.2.2.2.1
   omega
  ·rw [if_neg (by omega),if_neg (by omega),if_neg (by omega),if_pos k,ByteArray.size_append]
   have:=ih _ (hk0 0 (by omega)) 5
   omega
  ·rw [if_neg (by omega),if_neg (by omega),if_neg (by omega),if_neg (by omega),if_pos k]
   have h1:=ih _ (hk0 0 (by omega)) (lvl (ndi l i).2.1)
   have h2:=ih _ (hk0 1 (by omega)) (lvl (ndi l i).2.1+1)
   have h3:=qH9 ho
   unfold par
   split
   ·rw [ByteArray.size_append,ByteArray.size_append,ByteArray.size_append,ByteArray.size_append]
    omega
   ·rw [ByteArray.size_append,ByteArray.size_append]
    omega
  ·rw [if_neg (by omega),if_neg (by omega),if_neg (by omega),if_neg (by omega),if_neg (by omega)]
   rw [ByteArray.size_append,ByteArray.size_append,ByteArray.size_append]
   have h1:=qN1 ho
   have h2:=qKk (xs:=(qT l i).map fun k=>qp l f k 1) (b:=szB f) (fun x hx=>by
    obtain ⟨k,hk,rfl⟩:=List.mem_map.1 hx
    exact ih k hk 1)
   have h3:(qT l i).length≤10:=hk.2
   have h4:(qT l i).length*(szB f+1)≤10*(szB f+1):=Nat.mul_le_mul_right _ h3
   rw [List.length_map] at h2
   omega
abbrev R14:=Int×Int×Int×Int×ByteArray×Int×Int×Bool×Bool×Int×Int×Bool×Bool×List (List PV)
theorem qN2 (rec:List (List PV)→Int→Int→Option ByteArray) (n:Nat) (rows:List (List PV)) (A t:ByteArray) (R:R14) (i:Nat) (k:Int) (hg:R.2.2.2.2.2.2.2.2.2.2.2.2.2[i]?=some (qBE k)) (hr:rec rows k 0=some t) (hA:A.size≤2000000000000000) (ht:t.size≤120000000000000) (hi:i≤1000):
  (qBd rec n (rows,A,(i:Int),R)).run=some (.inl (rows,(if i=0 then A++t else (A++(⟨#[44]⟩:ByteArray))++t),((i+1:Nat):Int),R)):=by
 obtain ⟨a0,a1,a2,a3,a4,a5,a6,a7,a8,a9,a10,a11,a12,a13⟩:=R
 have hl:i<a13.length:=(List.getElem?_eq_some_iff.1 hg).1
 have h1:(i:Int)<(a13.length:Int):=by omega
 have h2:0≤(i:Int)∧(i:Int)<(a13.length:Int):=by omega
 have w1:IntKind.i64.wrap ((i:Int)+1)=((i+1:Nat):Int):=by rw [qX (by omega)];omega
 have d1:(⟨#[44]⟩:ByteArray).size=1:=rfl
 have z1:A.size+(⟨#[44]⟩:ByteArray).size≤9223372036854775807:=by omega
 have z2:(A++(⟨#[44]⟩:ByteArray)).size+t.size≤9223372036854775807:=by rw [ByteArray.size_append];omega
 have z3:A.size+t.size≤9223372036854775807:=by omega
 by_cases h0:i=0
 ·subst h0
  simp only [qBd,qC,qD,qG,qH,qJ,qK,Option.bind_some,qE,qM,qN,decide_eq_true h1,Int.natCast_zero,gt_iff_lt,Int.lt_irrefl,decide_false,Bool.false_eq_true,if_false,if_true] at*
  simp only [decide_eq_true h1,decide_eq_true h2,if_true,Int.toNat_zero,hg,Option.bind_some,qBL,qAq,decide_true,hr,decide_eq_true z3,w1]
 ·have hp:(i:Int)>0:=by omega
  simp only [qBd,qC,qD,qG,qH,qJ,qK,Option.bind_some,qE,qM,qN,decide_eq_true h1,decide_eq_true hp,if_true,decide_eq_true z1,decide_eq_true h2,Int.toNat_natCast,hg,qBL,qAq,decide_true,hr,decide_eq_true z2,w1,h0,if_false]
theorem qOs (l:List Nd) (f n:Nat) (R:R14) (b:Nat) (hb:b≤120000000000000) (ks:List Int) (hks:R.2.2.2.2.2.2.2.2.2.2.2.2.2=ks.map qBE) (hk10:ks.length≤10)
  (hr:∀k∈ks,qq n (l.map qd) k 0=some (qp l f k 1)∧(qp l f k 1).size≤b):
  ∀(r pre:List Int) (A:ByteArray) (M:Nat),ks=pre++r→r.length+1≤M→A.size≤100+pre.length*(b+1)→
   zC (qBd (qq n) n) M (l.map qd,A,(pre.length:Int),R)=some ⟨(A.data.toList++(if pre.length=0 then Lib.join (r.map fun k=>(qp l f k 1).data.toList) [44] else Lib.joinTail [44] (r.map fun k=>(qp l f k 1).data.toList))).toArray⟩
 |r,pre,A,0,h1,h2,h3=>by omega
 | [],pre,A,M+1,h1,h2,h3=>by
  obtain ⟨a0,a1,a2,a3,a4,a5,a6,a7,a8,a9,a10,a11,a12,a13⟩:=R
  simp only at hks
  subst hks
  have hi:¬(pre.length:Int)<((ks.map qBE).length:Int):=by rw [List.length_map,h1];simp
  rw [qQ (r:=A) (by simp only [qBd,qC,qD,qG,qH,qJ,qK,Option.bind_some,qE,qM,qN,decide_eq_false hi,Bool.false_eq_true,if_false])]
  congr 1
  apply qGs
  simp [Lib.joinTail,Lib.join_nil]
 |k::r,pre,A,M+1,h1,h2,h3=>by
  have hm:k∈ks:=by rw [h1];simp
  obtain ⟨g1,g2⟩:=hr k hm
  have hpl:pre.length+(r.length+1)=ks.length:=by rw [h1];simp
  have hmul:pre.length*(b+1)≤10*(b+1):=Nat.mul_le_mul_right _ (by omega)
  have hg:R.2.2.2.2.2.2.2.2.2.2.2.2.2[pre.length]?=some (qBE k):=by rw [hks,h1,List.getElem?_map];simp
  rw [qc (qN2 (qq n) n (l.map qd) A (qp l f k 1) R pre.length k hg g1 (by omega) (by omega) (by omega))]
  have h:=qOs l f n R b hb ks hks hk10 hr r (pre++ [k]) (if pre.length=0 then A++qp l f k 1 else (A++(⟨#[44]⟩:ByteArray))++qp l f k 1) M (by rw [h1];simp) (by simp at h2;omega) (by
   have d1:(⟨#[44]⟩:ByteArray).size=1:=rfl
   rw [List.length_append,List.length_singleton,Nat.add_mul]
   split
   ·rw [ByteArray.size_append];omega
   ·rw [ByteArray.size_append,ByteArray.size_append];omega)
  rw [show ((pre++ [k]).length:Int)=((pre.length+1:Nat):Int) by simp] at h
  rw [h]
  congr 1
  apply qGs
  have e:(pre++ [k]).length≠0:=by simp
  simp only [if_neg e]
  by_cases h0:pre.length=0
  ·simp only [if_pos h0,qDF,List.map_cons,Lib.join_cons,List.append_assoc]
  ·simp only [if_neg h0,qDF,List.map_cons,qKB,List.append_assoc,List.cons_append,List.nil_append]
set_option maxHeartbeats 4000000 in
theorem qJx {l:List Nd} (h:Fine l) (f:Nat) (i t:Int) (hf:f+1≤12) (hx:0≤i∧i<l.length) (hd:qA0 (qT l) (i.toNat+1) i≤(f+1:Nat)) (ih:∀k∈qT l i,∀t',Ev (qq · (l.map qd) k t') (qp l f k t')):Ev (qq · (l.map qd) i t) (qp l (f+1) i t):=by
  have ih:=fun k hk t'=>ih k hk t'
  have isz:=fun k hk t'=>qMR h f k t' (by omega) (h.kid hx hd hk).1 (h.kid hx hd hk).2
  have hs:=qRl (f:=f) (by omega)
  have hcr:(l.map qd)[i.toNat]?=some (qd (ndi l i)):=by rw [List.getElem?_map,qCn hx];rfl
  have hxb:0≤i∧i<((l.map qd).length:Int):=by rw [List.length_map];exact hx
  have hz:=(h.sz _ (qH8 hx)).2
  have hp:∀a b c d,(qAT a b c d).size≤30:=qEM
  have d1:(⟨#[58]⟩:ByteArray).size=1:=rfl
  have d2:(⟨#[45]⟩:ByteArray).size=1:=rfl
  have d3:(⟨#[40]⟩:ByteArray).size=1:=rfl
  have d4:(⟨#[41]⟩:ByteArray).size=1:=rfl
  have hk0:∀j,j<(kd (ndi l i)).length→kid (ndi l i) j∈qT l i∧(List.map qBE (ndi l i).2.2.2.2.2.2.2.2.2.2.2.2.2)[j]?=some (qBE (kid (ndi l i) j)):=fun j hj=>by
   unfold kid
   rw [List.getD_eq_getElem?_getD,List.getElem?_eq_getElem hj]
   refine ⟨List.getElem_mem hj,?_⟩
   rw [List.getElem?_map]
   show ((kd (ndi l i))[j]?).map qBE=_
   rw [List.getElem?_eq_getElem hj]
   rfl
  have hkl:(List.map qBE (ndi l i).2.2.2.2.2.2.2.2.2.2.2.2.2).length=(kd (ndi l i)).length:=by rw [List.length_map];rfl
  rcases qFQ (h.own i hx.1 hx.2).1 with ⟨k,hv⟩|k|k|⟨k,hk⟩|⟨k,ho,hk⟩|⟨k,ho,hk⟩
  ·by_cases k2:(ndi l i).2.2.1=2
   ·have hv2:okV 2 (ndi l i).2.2.2.1 (ndi l i).2.2.2.2.1=true:=by rw [←k2];exact hv
    obtain ⟨n1,g1⟩:=qNH (ndi l i).2.2.2.2.1 (by have:=(qLC hv2).2.1;omega)
    refine ⟨n1+1,fun n hn=>?_⟩
    obtain ⟨m,rfl,hm⟩:=up1 hn
    have g1:=g1 m (by omega)
    dsimp only at g1⊢
    show (qBz (qq m) m (l.map qd) i t).run=_
    refine qF (decide_eq_true hxb) (qA hcr (qF rfl (qA (qAU _) (qA (qAV _) (qA (qAW _) (qA (qAX _) (qA (qAY _) (qA (qAZ _) (qA (qAa _) (qA (qAb _) (qA (qAc _) (qA (qAd _) (qA (qy _) (qA (qz _) (qA (q7 _) (qA (q8 _) ?_))))))))))))))))
    refine qF (by rw [k];rfl) (qF (by rw [k2];rfl) (qA g1 ?_))
    rw [qC,qp,if_pos k,if_pos k2]
   ·obtain ⟨n1,g1⟩:=qDQ (ndi l i).2.2.1 (ndi l i).2.2.2.1 (ndi l i).2.2.2.2.1 hz
    have kb:((ndi l i).2.2.1==(2:Int))=false:=by simpa using k2
    refine ⟨n1+1,fun n hn=>?_⟩
    obtain ⟨m,rfl,hm⟩:=up1 hn
    have g1:=g1 m (by omega)
    rw [hv] at g1
    dsimp only at g1⊢
    simp only [if_true] at g1
    show (qBz (qq m) m (l.map qd) i t).run=_
    refine qF (decide_eq_true hxb) (qA hcr (qF rfl (qA (qAU _) (qA (qAV _) (qA (qAW _) (qA (qAX _) (qA (qAY _) (qA (qAZ _) (qA (qAa _) (qA (qAb _) (qA (qAc _) (qA (qAd _) (qA (qy _) (qA (qz _) (qA (q7 _) (qA (q8 _) ?_))))))))))))))))
    refine qF (by rw [k];rfl) (qO kb (qA g1 ?_))
    rw [qC,qp,if_pos k,if_neg k2]
  ·obtain ⟨n1,g1⟩:=qB5 (ndi l i).2.2.2.2.2.1 (ndi l i).2.2.2.2.2.2.1 (ndi l i).2.2.2.2.2.2.2.1 (ndi l i).2.2.2.2.2.2.2.2.1
   refine ⟨n1+1,fun n hn=>?_⟩
   obtain ⟨m,rfl,hm⟩:=up1 hn
   have g1:=g1 m (by omega)
   dsimp only at g1⊢
   show (qBz (qq m) m (l.map qd) i t).run=_
   refine qF (decide_eq_true hxb) (qA hcr (qF rfl (qA (qAU _) (qA (qAV _) (qA (qAW _) (qA (qAX _) (qA (qAY _) (qA (qAZ _) (qA (qAa _) (qA (qAb _) (qA (qAc _) (qA (qAd _) (qA (qy _) (qA (qz _) (qA (q7 _) (qA (q8 _) ?_))))))))))))))))
   refine qO (by rw [k];rfl) (qF (by rw [k];rfl) (qA g1 ?_))
   rw [qC,qp,if_neg (by omega),if_pos k]
  ·obtain ⟨n1,g1⟩:=qB5 (ndi l i).2.2.2.2.2.1 (ndi l i).2.2.2.2.2.2.1 (ndi l i).2.2.2.2.2.2.2.1 (ndi l i).2.2.2.2.2.2.2.2.1
   obtain ⟨n2,g2⟩:=qB5 (ndi l i).2.2.2.2.2.2.2.2.2.1 (ndi l i).2.2.2.2.2.2.2.2.2.2.1 (ndi l i).2.2.2.2.2.2.2.2.2.2.2.1 (ndi l i).2.2.2.2.2.2.2.2.2.2.2.2.1
   have h1:=hp (ndi l i).2.2.2.2.2.1 (ndi l i).2.2.2.2.2.2.1 (ndi l i).2.2.2.2.2.2.2.1 (ndi l i).2.2.2.2.2.2.2.2.1
   have h2:=hp (ndi l i).2.2.2.2.2.2.2.2.2.1 (ndi l i).2.2.2.2.2.2.2.2.2.2.1 (ndi l i).2.2.2.2.2.2.2.2.2.2.2.1 (ndi l i).2.2.2.2.2.2.2.2.2.2.2.2.1
   have z1:(qAT (ndi l i).2.2.2.2.2.1 (ndi l i).2.2.2.2.2.2.1 (ndi l i).2.2.2.2.2.2.2.1 (ndi l i).2.2.2.2.2.2.2.2.1).size+(⟨#[58]⟩:ByteArray).size≤9223372036854775807:=by omega
   have z2:(qAT (ndi l i).2.2.2.2.2.1 (ndi l i).2.2.2.2.2.2.1 (ndi l i).2.2.2.2.2.2.2.1 (ndi l i).2.2.2.2.2.2.2.2.1++(⟨#[58]⟩:ByteArray)).size+(qAT (ndi l i).2.2.2.2.2.2.2.2.2.1 (ndi l i).2.2.2.2.2.2.2.2.2.2.1 (ndi l i).2.2.2.2.2.2.2.2.2.2.2.1 (ndi l i).2.2.2.2.2.2.2.2.2.2.2.2.1).size≤9223372036854775807:=by rw [ByteArray.size_append];omega
   refine ⟨n1+n2+1,fun n hn=>?_⟩
   obtain ⟨m,rfl,hm⟩:=up1 hn
   have g1:=g1 m (by omega)
   have g2:=g2 m (by omega)
   dsimp only at g1 g2⊢
   show (qBz (qq m) m (l.map qd) i t).run=_
   refine qF (decide_eq_true hxb) (qA hcr (qF rfl (qA (qAU _) (qA (qAV _) (qA (qAW _) (qA (qAX _) (qA (qAY _) (qA (qAZ _) (qA (qAa _) (qA (qAb _) (qA (qAc _) (qA (qAd _) (qA (qy _) (qA (qz _) (qA (q7 _) (qA (q8 _) ?_))))))))))))))))
   refine qO (by rw [k];rfl) (qO (by rw [k];rfl) (qF (by rw [k];rfl) (qA g1 (qF (decide_eq_true z1) (qA g2 (qF (decide_eq_true z2) ?_))))))
   rw [qC,qp,if_neg (by omega),if_neg (by omega),if_pos k]
  ·obtain ⟨m0,c0⟩:=hk0 0 (by omega)
   obtain ⟨n1,g1⟩:=ih _ m0 5
   have h1:=isz _ m0 5
   have z1:(⟨#[45]⟩:ByteArray).size+(qp l f (kid (ndi l i) 0) 5).size≤9223372036854775807:=by omega
   have y1:(0:Int)≤(0:Int)∧(0:Int)<((List.map qBE (ndi l i).2.2.2.2.2.2.2.2.2.2.2.2.2).length:Int):=by rw [hkl];omega
   refine ⟨n1+1,fun n hn=>?_⟩
   obtain ⟨m,rfl,hm⟩:=up1 hn
   have g1:=g1 m (by omega)
   dsimp only at g1⊢
   have e0:((0:Int)).toNat=0:=rfl
   show (qBz (qq m) m (l.map qd) i t).run=_
   refine qF (decide_eq_true hxb) (qA hcr (qF rfl (qA (qAU _) (qA (qAV _) (qA (qAW _) (qA (qAX _) (qA (qAY _) (qA (qAZ _) (qA (qAa _) (qA (qAb _) (qA (qAc _) (qA (qAd _) (qA (qy _) (qA (qz _) (qA (q7 _) (qA (q8 _) ?_))))))))))))))))
   refine qO (by rw [k];rfl) (qO (by rw [k];rfl) (qO (by rw [k];rfl) (qF (by rw [k];rfl) (qF (decide_eq_true y1) (qA c0 (qF rfl (qA (qAq _) (qA g1 (qF (decide_eq_true z1) ?_)))))))))
   rw [qC,qp,if_neg (by omega),if_neg (by omega),if_neg (by omega),if_pos k]
  ·obtain ⟨m0,c0⟩:=hk0 0 (by omega)
   obtain ⟨m1,c1⟩:=hk0 1 (by omega)
   have hlv:=qQa (ndi l i).2.1
   obtain ⟨n1,g1⟩:=ih _ m0 (lvl (ndi l i).2.1)
   obtain ⟨n2,g2⟩:=ih _ m1 (lvl (ndi l i).2.1+1)
   obtain ⟨n3,g3⟩:=qIb (ndi l i).2.1
   obtain ⟨n4,g4⟩:=qGW (ndi l i).2.1 ho
   have h1:=isz _ m0 (lvl (ndi l i).2.1)
   have h2:=isz _ m1 (lvl (ndi l i).2.1+1)
   have h3:=qH9 ho
   have hw:IntKind.i64.wrap (lvl (ndi l i).2.1+1)=lvl (ndi l i).2.1+1:=qX (by omega)
   have y1:(0:Int)≤(0:Int)∧(0:Int)<((List.map qBE (ndi l i).2.2.2.2.2.2.2.2.2.2.2.2.2).length:Int):=by rw [hkl];omega
   have y2:(0:Int)≤(1:Int)∧(1:Int)<((List.map qBE (ndi l i).2.2.2.2.2.2.2.2.2.2.2.2.2).length:Int):=by rw [hkl];omega
   refine ⟨n1+n2+n3+n4+1,fun n hn=>?_⟩
   obtain ⟨m,rfl,hm⟩:=up1 hn
   have g1:=g1 m (by omega)
   have g2:=g2 m (by omega)
   have g3:=g3 m (by omega)
   have g4:=g4 m (by omega)
   dsimp only at g1 g2 g3 g4⊢
   have e0:((0:Int)).toNat=0:=rfl
   have e1:((1:Int)).toNat=1:=rfl
   show (qBz (qq m) m (l.map qd) i t).run=_
   refine qF (decide_eq_true hxb) (qA hcr (qF rfl (qA (qAU _) (qA (qAV _) (qA (qAW _) (qA (qAX _) (qA (qAY _) (qA (qAZ _) (qA (qAa _) (qA (qAb _) (qA (qAc _) (qA (qAd _) (qA (qy _) (qA (qz _) (qA (q7 _) (qA (q8 _) ?_))))))))))))))))
   have z1:(qp l f (kid (ndi l i) 0) (lvl (ndi l i).2.1)).size+(qo (ndi l i).2.1).size≤9223372036854775807:=by omega
   have z2:(qp l f (kid (ndi l i) 0) (lvl (ndi l i).2.1)++qo (ndi l i).2.1).size+(qp l f (kid (ndi l i) 1) (lvl (ndi l i).2.1+1)).size≤9223372036854775807:=by rw [ByteArray.size_append];omega
   have z3:(⟨#[40]⟩:ByteArray).size+((qp l f (kid (ndi l i) 0) (lvl (ndi l i).2.1)++qo (ndi l i).2.1)++qp l f (kid (ndi l i) 1) (lvl (ndi l i).2.1+1)).size≤9223372036854775807:=by rw [ByteArray.size_append,ByteArray.size_append];omega
   have z4:((⟨#[40]⟩:ByteArray)++((qp l f (kid (ndi l i) 0) (lvl (ndi l i).2.1)++qo (ndi l i).2.1)++qp l f (kid (ndi l i) 1) (lvl (ndi l i).2.1+1))).size+(⟨#[41]⟩:ByteArray).size≤9223372036854775807:=by rw [ByteArray.size_append,ByteArray.size_append,ByteArray.size_append];omega
   have g2:qq m (l.map qd) (kid (ndi l i) 1) (IntKind.i64.wrap (lvl (ndi l i).2.1+1))=some (qp l f (kid (ndi l i) 1) (lvl (ndi l i).2.1+1)):=by rw [hw];exact g2
   refine qO (by rw [k];rfl) (qO (by rw [k];rfl) (qO (by rw [k];rfl) (qO (by rw [k];rfl) (qF (by rw [k];rfl) (qA g3 (qF (decide_eq_true y1) (qA c0 (qF rfl (qA (qAq _) (qF (decide_eq_true y2) (qA c1 (qF rfl (qA (qAq _) (qA g1 (qA g4 (qF (decide_eq_true z1) (qA g2 (qF (decide_eq_true z2) ?_))))))))))))))))))
   rw [qp,if_neg (by omega),if_neg (by omega),if_neg (by omega),if_neg (by omega),if_pos k]
   unfold par
   by_cases ht:lvl (ndi l i).2.1<t
   ·refine qF (decide_eq_true ht) (qF (decide_eq_true z3) (qF (decide_eq_true z4) ?_))
    rw [qC,if_pos (decide_eq_true ht)]
   ·refine qO (decide_eq_false ht) ?_
    rw [qC,if_neg (by simpa using ht)]
  ·obtain ⟨n0,g0⟩:=qCk (F:=fun k n=>qq n (l.map qd) k 0) (f:=fun k=>qp l f k 1) (qT l i) (fun k hk=>by
    have:=ih k hk 0
    rw [qQ1] at this
    exact this)
   obtain ⟨n1,g1⟩:=qLN (ndi l i).2.1 ho
   have h1:=qN1 ho
   refine ⟨n0+n1+20,fun n hn=>?_⟩
   obtain ⟨m,rfl,hm⟩:=up1 hn
   have g0:=g0 m (by omega)
   have g1:=g1 m (by omega)
   have hj:=qOs l f m ((ndi l i).1,(ndi l i).2.1,(ndi l i).2.2.1,(ndi l i).2.2.2.1,(ndi l i).2.2.2.2.1,(ndi l i).2.2.2.2.2.1,(ndi l i).2.2.2.2.2.2.1,(ndi l i).2.2.2.2.2.2.2.1,(ndi l i).2.2.2.2.2.2.2.2.1,(ndi l i).2.2.2.2.2.2.2.2.2.1,(ndi l i).2.2.2.2.2.2.2.2.2.2.1,(ndi l i).2.2.2.2.2.2.2.2.2.2.2.1,(ndi l i).2.2.2.2.2.2.2.2.2.2.2.2.1,(kd (ndi l i)).map qBE) (szB f) hs (kd (ndi l i)) rfl hk.2 (fun k hk=>⟨g0 k hk,isz k hk 1⟩) (kd (ndi l i)) [] (fnS (ndi l i).2.1++(⟨#[40]⟩:ByteArray)) m rfl (by omega) (by rw [ByteArray.size_append];omega)
   simp only [List.length_nil,Int.natCast_zero,if_true] at hj
   have hjs:=qKk (xs:=(qT l i).map fun k=>qp l f k 1) (b:=szB f) (fun x hx=>by
    obtain ⟨k,hk,rfl⟩:=List.mem_map.1 hx
    exact isz k hk 1)
   have h3:(qT l i).length≤10:=hk.2
   have h4:(qT l i).length*(szB f+1)≤10*(szB f+1):=Nat.mul_le_mul_right _ h3
   rw [List.length_map] at hjs
   have ej:(⟨((fnS (ndi l i).2.1++(⟨#[40]⟩:ByteArray)).data.toList++Lib.join ((kd (ndi l i)).map fun k=>(qp l f k 1).data.toList) [44]).toArray⟩:ByteArray)=(fnS (ndi l i).2.1++(⟨#[40]⟩:ByteArray))++qJL ((qT l i).map fun k=>qp l f k 1):=by
    apply qGs
    rw [qDF]
    simp [qJL,qT,Function.comp_def]
   rw [ej] at hj
   obtain ⟨J,hJ⟩:∃J,qJL ((qT l i).map fun k=>qp l f k 1)=J:=⟨_,rfl⟩
   rw [hJ] at hj hjs
   have z1:(fnS (ndi l i).2.1).size+(⟨#[40]⟩:ByteArray).size≤9223372036854775807:=by omega
   have z2:((fnS (ndi l i).2.1++(⟨#[40]⟩:ByteArray))++J).size+(⟨#[41]⟩:ByteArray).size≤9223372036854775807:=by rw [ByteArray.size_append,ByteArray.size_append];omega
   unfold kd at hj
   dsimp only at g1⊢
   show (qBz (qq m) m (l.map qd) i t).run=_
   refine qF (decide_eq_true hxb) (qA hcr (qF rfl (qA (qAU _) (qA (qAV _) (qA (qAW _) (qA (qAX _) (qA (qAY _) (qA (qAZ _) (qA (qAa _) (qA (qAb _) (qA (qAc _) (qA (qAd _) (qA (qy _) (qA (qz _) (qA (q7 _) (qA (q8 _) ?_))))))))))))))))
   refine qO (by rw [k];rfl) (qO (by rw [k];rfl) (qO (by rw [k];rfl) (qO (by rw [k];rfl) (qO (by rw [k];rfl) (qA g1 (qF (decide_eq_true z1) (qA hj (qF (decide_eq_true z2) ?_))))))))
   rw [qC,qp,if_neg (by omega),if_neg (by omega),if_neg (by omega),if_neg (by omega),if_neg (by omega),hJ]
theorem qJM {l:List Nd} (h:Fine l):∀(f:Nat) (i t:Int),f≤12→(0≤i∧i<l.length)→qA0 (qT l) (i.toNat+1) i≤f→Ev (qq · (l.map qd) i t) (qp l f i t)
 |0,i,t,hf,hx,hd=>by
  have:=qHl (qT l) (i.toNat+1) i hx.1 (by omega)
  omega
 |f+1,i,t,hf,hx,hd=>qJx h f i t hf hx hd fun k hk t'=>qJM h f k t' (by omega) (h.kid hx hd hk).1 (h.kid hx hd hk).2
theorem qRO:∀f:Fin 12,szB f.val≤12000000000000:=by decide
theorem qRn {f:Nat} (h:f≤11):szB f≤12000000000000:=qRO ⟨f,by omega⟩
theorem qP0:∀xs:List ByteArray,zBC (xs.map fun x=> [PV.s x])=some xs
 | []=>rfl
 |x::r=>by simp only [List.map_cons,zBC,qP0 r,Option.map_some]
theorem qOt (rec:List (List PV)→Int→Int→Option ByteArray) (n:Nat) (rows:List (List PV)) (T:Int→ByteArray) (a0 a1 a2 a3:Int) (a4:ByteArray) (a5 a6:Int) (a7 a8:Bool) (a9 a10:Int) (a11 a12:Bool) (a13:List (List PV)) (ks:List Int) (hk10:ks.length≤10)
  (hr:∀k∈ks,rec rows k 1=some (T k)):
  ∀(r pre:List Int) (M:Nat),ks=pre++r→r.length+1≤M→
   zC (qBZ rec n) M (rows,pre.length,ks.map qBE,((ks.map qBE).length:Int),(pre.length:Int),a0,a1,a2,a3,a4,a5,a6,a7,a8,a9,a10,a11,a12,a13,pre.map fun k=> [PV.s (T k)])=some (ks.length,a0,a1,a2,a3,a4,a5,a6,a7,a8,a9,a10,a11,a12,a13,ks.map fun k=> [PV.s (T k)])
 |r,pre,0,h1,h2=>by omega
 | [],pre,M+1,h1,h2=>by
  have hi:¬(pre.length:Int)<((ks.map qBE).length:Int):=by rw [List.length_map,h1];simp
  have e:pre=ks:=by rw [h1];simp
  rw [qQ (r:=(pre.length,a0,a1,a2,a3,a4,a5,a6,a7,a8,a9,a10,a11,a12,a13,pre.map fun k=> [PV.s (T k)])) (by simp only [qBZ,qC,qD,qG,qH,qJ,qK,Option.bind_some,qE,qM,qN,decide_eq_false hi,Bool.false_eq_true,if_false])]
  rw [e]
 |k::r,pre,M+1,h1,h2=>by
  have hm:k∈ks:=by rw [h1];simp
  have g1:=hr k hm
  have hpl:pre.length+(r.length+1)=ks.length:=by rw [h1];simp
  have hg:(ks.map qBE)[pre.length]?=some (qBE k):=by rw [h1,List.getElem?_map];simp
  have hi:(pre.length:Int)<((ks.map qBE).length:Int):=by rw [List.length_map];omega
  have h3:0≤(pre.length:Int)∧(pre.length:Int)<((ks.map qBE).length:Int):=by omega
  have w1:IntKind.i64.wrap ((pre.length:Int)+1)=((pre.length+1:Nat):Int):=by rw [qX (by omega)];omega
  have hc:pre.length=(pre.map fun k=> [PV.s (T k)]).length∧0<1∧0<16∧(pre.length+([[PV.s (T k)]]:List (List PV)).length)*16≤140737488355328∧([[PV.s (T k)]]:List (List PV)).all (fun e=>e.length==1)=true:=by
   refine ⟨by simp,by decide,by decide,?_,rfl⟩
   rw [List.length_singleton]
   omega
  have h1l:decide (1=([[PV.s (T k)]]:List (List PV)).length)=true:=rfl
  rw [qc (v':=(rows,pre.length+1,ks.map qBE,((ks.map qBE).length:Int),((pre.length+1:Nat):Int),a0,a1,a2,a3,a4,a5,a6,a7,a8,a9,a10,a11,a12,a13,(pre.map fun k=> [PV.s (T k)])++ [[PV.s (T k)]])) (by
   simp only [qBZ,qC,qD,qG,qH,qJ,qK,Option.bind_some,qE,qM,qN,decide_eq_true hi,if_true,decide_eq_true h3,Int.toNat_natCast,hg,qBL,qAq,decide_true,g1,h1l,decide_eq_true hc,w1])]
  have h:=qOt rec n rows T a0 a1 a2 a3 a4 a5 a6 a7 a8 a9 a10 a11 a12 a13 ks hk10 hr r (pre++ [k]) M (by rw [h1];simp) (by simp at h2;omega)
  simp only [List.map_append,List.map_cons,List.map_nil,List.length_append,List.length_singleton] at h⊢
  exact h
set_option maxHeartbeats 4000000 in
theorem qHL {l:List Nd} (h:Fine l) (f:Nat) (i t:Int) (hf:f+1≤12) (hx:0≤i∧i<l.length) (hd:qA0 (qT l) (i.toNat+1) i≤(f+1:Nat)) (ih:∀k∈qT l i,∀t',Ev (qa · (l.map qd) k t') (qp l f k t')):Ev (qa · (l.map qd) i t) (qp l (f+1) i t):=by
  have ih:=fun k hk t'=>ih k hk t'
  have isz:=fun k hk t'=>qMR h f k t' (by omega) (h.kid hx hd hk).1 (h.kid hx hd hk).2
  have hs:=qRl (f:=f) (by omega)
  have hcr:(l.map qd)[i.toNat]?=some (qd (ndi l i)):=by rw [List.getElem?_map,qCn hx];rfl
  have hxb:0≤i∧i<((l.map qd).length:Int):=by rw [List.length_map];exact hx
  have hz:=(h.sz _ (qH8 hx)).2
  have hp:∀a b c d,(qAT a b c d).size≤30:=qEM
  have d1:(⟨#[58]⟩:ByteArray).size=1:=rfl
  have d2:(⟨#[45]⟩:ByteArray).size=1:=rfl
  have d3:(⟨#[40]⟩:ByteArray).size=1:=rfl
  have d4:(⟨#[41]⟩:ByteArray).size=1:=rfl
  have hk0:∀j,j<(kd (ndi l i)).length→kid (ndi l i) j∈qT l i∧(List.map qBE (ndi l i).2.2.2.2.2.2.2.2.2.2.2.2.2)[j]?=some (qBE (kid (ndi l i) j)):=fun j hj=>by
   unfold kid
   rw [List.getD_eq_getElem?_getD,List.getElem?_eq_getElem hj]
   refine ⟨List.getElem_mem hj,?_⟩
   rw [List.getElem?_map]
   show ((kd (ndi l i))[j]?).map qBE=_
   rw [List.getElem?_eq_getElem hj]
   rfl
  have hkl:(List.map qBE (ndi l i).2.2.2.2.2.2.2.2.2.2.2.2.2).length=(kd (ndi l i)).length:=by rw [List.length_map];rfl
  rcases qFQ (h.own i hx.1 hx.2).1 with ⟨k,hv⟩|k|k|⟨k,hk⟩|⟨k,ho,hk⟩|⟨k,ho,hk⟩
  ·by_cases k2:(ndi l i).2.2.1=2
   ·have hv2:okV 2 (ndi l i).2.2.2.1 (ndi l i).2.2.2.2.1=true:=by rw [←k2];exact hv
    have hq:=(qLC hv2).2.1
    obtain ⟨n1,g1⟩:=qOa (ndi l i).2.2.2.2.1 (by omega)
    have h1:=qHm (ndi l i).2.2.2.2.1.toList
    rw [qAK] at h1
    have h2:(⟨(qAf (ndi l i).2.2.2.2.1.toList).toArray⟩:ByteArray).size=(qAf (ndi l i).2.2.2.2.1.toList).length:=by rw [qCu]
    have e:((⟨#[34]⟩:ByteArray)++⟨(qAf (ndi l i).2.2.2.2.1.toList).toArray⟩)++(⟨#[34]⟩:ByteArray)=qDa (ndi l i).2.2.2.2.1:=by
     apply qGs
     rw [qDF,qDF]
     simp [qDa]
    have d5:(⟨#[34]⟩:ByteArray).size=1:=rfl
    refine ⟨n1+1,fun n hn=>?_⟩
    obtain ⟨m,rfl,hm⟩:=up1 hn
    have g1:=g1 m (by omega)
    dsimp only at g1⊢
    obtain ⟨q,hqe⟩:∃q,(⟨(qAf (ndi l i).2.2.2.2.1.toList).toArray⟩:ByteArray)=q:=⟨_,rfl⟩
    rw [hqe] at g1 h2 e
    have z1:(⟨#[34]⟩:ByteArray).size+q.size≤9223372036854775807:=by omega
    have z2:((⟨#[34]⟩:ByteArray)++q).size+(⟨#[34]⟩:ByteArray).size≤9223372036854775807:=by rw [ByteArray.size_append];omega
    show (qAp (qa m) m (l.map qd) i t).run=_
    refine qF (decide_eq_true hxb) (qA hcr (qF rfl (qA (qAU _) (qA (qAV _) (qA (qAW _) (qA (qAX _) (qA (qAY _) (qA (qAZ _) (qA (qAa _) (qA (qAb _) (qA (qAc _) (qA (qAd _) (qA (qy _) (qA (qz _) (qA (q7 _) (qA (q8 _) ?_))))))))))))))))
    refine qF (by rw [k];rfl) (qF (by rw [k2];rfl) (qA g1 (qF (decide_eq_true z1) (qF (decide_eq_true z2) ?_))))
    rw [qC,qp,if_pos k,if_pos k2,e]
   ·obtain ⟨n1,g1⟩:=qEm (ndi l i).2.2.1 (ndi l i).2.2.2.1 (ndi l i).2.2.2.2.1 hv
    have kb:((ndi l i).2.2.1==(2:Int))=false:=by simpa using k2
    refine ⟨n1+1,fun n hn=>?_⟩
    obtain ⟨m,rfl,hm⟩:=up1 hn
    have g1:=g1 m (by omega)
    dsimp only at g1⊢
    show (qAp (qa m) m (l.map qd) i t).run=_
    refine qF (decide_eq_true hxb) (qA hcr (qF rfl (qA (qAU _) (qA (qAV _) (qA (qAW _) (qA (qAX _) (qA (qAY _) (qA (qAZ _) (qA (qAa _) (qA (qAb _) (qA (qAc _) (qA (qAd _) (qA (qy _) (qA (qz _) (qA (q7 _) (qA (q8 _) ?_))))))))))))))))
    refine qF (by rw [k];rfl) (qO kb (qA g1 ?_))
    rw [qC,qp,if_pos k,if_neg k2]
  ·obtain ⟨n1,g1⟩:=qDR (ndi l i).2.2.2.2.2.1 (ndi l i).2.2.2.2.2.2.1 (ndi l i).2.2.2.2.2.2.2.1 (ndi l i).2.2.2.2.2.2.2.2.1
   refine ⟨n1+1,fun n hn=>?_⟩
   obtain ⟨m,rfl,hm⟩:=up1 hn
   have g1:=g1 m (by omega)
   dsimp only at g1⊢
   show (qAp (qa m) m (l.map qd) i t).run=_
   refine qF (decide_eq_true hxb) (qA hcr (qF rfl (qA (qAU _) (qA (qAV _) (qA (qAW _) (qA (qAX _) (qA (qAY _) (qA (qAZ _) (qA (qAa _) (qA (qAb _) (qA (qAc _) (qA (qAd _) (qA (qy _) (qA (qz _) (qA (q7 _) (qA (q8 _) ?_))))))))))))))))
   refine qO (by rw [k];rfl) (qF (by rw [k];rfl) (qA g1 ?_))
   rw [qC,qp,if_neg (by omega),if_pos k]
  ·obtain ⟨n1,g1⟩:=qDR (ndi l i).2.2.2.2.2.1 (ndi l i).2.2.2.2.2.2.1 (ndi l i).2.2.2.2.2.2.2.1 (ndi l i).2.2.2.2.2.2.2.2.1
   obtain ⟨n2,g2⟩:=qDR (ndi l i).2.2.2.2.2.2.2.2.2.1 (ndi l i).2.2.2.2.2.2.2.2.2.2.1 (ndi l i).2.2.2.2.2.2.2.2.2.2.2.1 (ndi l i).2.2.2.2.2.2.2.2.2.2.2.2.1
   have h1:=hp (ndi l i).2.2.2.2.2.1 (ndi l i).2.2.2.2.2.2.1 (ndi l i).2.2.2.2.2.2.2.1 (ndi l i).2.2.2.2.2.2.2.2.1
   have h2:=hp (ndi l i).2.2.2.2.2.2.2.2.2.1 (ndi l i).2.2.2.2.2.2.2.2.2.2.1 (ndi l i).2.2.2.2.2.2.2.2.2.2.2.1 (ndi l i).2.2.2.2.2.2.2.2.2.2.2.2.1
   have z1:(qAT (ndi l i).2.2.2.2.2.1 (ndi l i).2.2.2.2.2.2.1 (ndi l i).2.2.2.2.2.2.2.1 (ndi l i).2.2.2.2.2.2.2.2.1).size+(⟨#[58]⟩:ByteArray).size≤9223372036854775807:=by omega
   have z2:(qAT (ndi l i).2.2.2.2.2.1 (ndi l i).2.2.2.2.2.2.1 (ndi l i).2.2.2.2.2.2.2.1 (ndi l i).2.2.2.2.2.2.2.2.1++(⟨#[58]⟩:ByteArray)).size+(qAT (ndi l i).2.2.2.2.2.2.2.2.2.1 (ndi l i).2.2.2.2.2.2.2.2.2.2.1 (ndi l i).2.2.2.2.2.2.2.2.2.2.2.1 (ndi l i).2.2.2.2.2.2.2.2.2.2.2.2.1).size≤9223372036854775807:=by rw [ByteArray.size_append];omega
   refine ⟨n1+n2+1,fun n hn=>?_⟩
   obtain ⟨m,rfl,hm⟩:=up1 hn
   have g1:=g1 m (by omega)
   have g2:=g2 m (by omega)
   dsimp only at g1 g2⊢
   show (qAp (qa m) m (l.map qd) i t).run=_
   refine qF (decide_eq_true hxb) (qA hcr (qF rfl (qA (qAU _) (qA (qAV _) (qA (qAW _) (qA (qAX _) (qA (qAY _) (qA (qAZ _) (qA (qAa _) (qA (qAb _) (qA (qAc _) (qA (qAd _) (qA (qy _) (qA (qz _) (qA (q7 _) (qA (q8 _) ?_))))))))))))))))
   refine qO (by rw [k];rfl) (qO (by rw [k];rfl) (qF (by rw [k];rfl) (qA g1 (qF (decide_eq_true z1) (qA g2 (qF (decide_eq_true z2) ?_))))))
   rw [qC,qp,if_neg (by omega),if_neg (by omega),if_pos k]
  ·obtain ⟨m0,c0⟩:=hk0 0 (by omega)
   obtain ⟨n1,g1⟩:=ih _ m0 5
   have h1:=isz _ m0 5
   have z1:(⟨#[45]⟩:ByteArray).size+(qp l f (kid (ndi l i) 0) 5).size≤9223372036854775807:=by omega
   have y1:(0:Int)≤(0:Int)∧(0:Int)<((List.map qBE (ndi l i).2.2.2.2.2.2.2.2.2.2.2.2.2).length:Int):=by rw [hkl];omega
   refine ⟨n1+1,fun n hn=>?_⟩
   obtain ⟨m,rfl,hm⟩:=up1 hn
   have g1:=g1 m (by omega)
   dsimp only at g1⊢
   have e0:((0:Int)).toNat=0:=rfl
   show (qAp (qa m) m (l.map qd) i t).run=_
   refine qF (decide_eq_true hxb) (qA hcr (qF rfl (qA (qAU _) (qA (qAV _) (qA (qAW _) (qA (qAX _) (qA (qAY _) (qA (qAZ _) (qA (qAa _) (qA (qAb _) (qA (qAc _) (qA (qAd _) (qA (qy _) (qA (qz _) (qA (q7 _) (qA (q8 _) ?_))))))))))))))))
   refine qO (by rw [k];rfl) (qO (by rw [k];rfl) (qO (by rw [k];rfl) (qF (by rw [k];rfl) (qF (decide_eq_true y1) (qA c0 (qF rfl (qA (qAq _) (qA g1 (qF (decide_eq_true z1) ?_)))))))))
   rw [qC,qp,if_neg (by omega),if_neg (by omega),if_neg (by omega),if_pos k]
  ·obtain ⟨m0,c0⟩:=hk0 0 (by omega)
   obtain ⟨m1,c1⟩:=hk0 1 (by omega)
   have hlv:=qQa (ndi l i).2.1
   obtain ⟨n1,g1⟩:=ih _ m0 (lvl (ndi l i).2.1)
   obtain ⟨n2,g2⟩:=ih _ m1 (lvl (ndi l i).2.1+1)
   obtain ⟨n3,g3⟩:=qKA (ndi l i).2.1 ho
   obtain ⟨n4,g4⟩:=qGX (ndi l i).2.1 ho
   have h1:=isz _ m0 (lvl (ndi l i).2.1)
   have h2:=isz _ m1 (lvl (ndi l i).2.1+1)
   have h3:=qH9 ho
   have hw:IntKind.i64.wrap (lvl (ndi l i).2.1+1)=lvl (ndi l i).2.1+1:=qX (by omega)
   have y1:(0:Int)≤(0:Int)∧(0:Int)<((List.map qBE (ndi l i).2.2.2.2.2.2.2.2.2.2.2.2.2).length:Int):=by rw [hkl];omega
   have y2:(0:Int)≤(1:Int)∧(1:Int)<((List.map qBE (ndi l i).2.2.2.2.2.2.2.2.2.2.2.2.2).length:Int):=by rw [hkl];omega
   refine ⟨n1+n2+n3+n4+1,fun n hn=>?_⟩
   obtain ⟨m,rfl,hm⟩:=up1 hn
   have g1:=g1 m (by omega)
   have g2:=g2 m (by omega)
   have g3:=g3 m (by omega)
   have g4:=g4 m (by omega)
   dsimp only at g1 g2 g3 g4⊢
   have e0:((0:Int)).toNat=0:=rfl
   have e1:((1:Int)).toNat=1:=rfl
   show (qAp (qa m) m (l.map qd) i t).run=_
   refine qF (decide_eq_true hxb) (qA hcr (qF rfl (qA (qAU _) (qA (qAV _) (qA (qAW _) (qA (qAX _) (qA (qAY _) (qA (qAZ _) (qA (qAa _) (qA (qAb _) (qA (qAc _) (qA (qAd _) (qA (qy _) (qA (qz _) (qA (q7 _) (qA (q8 _) ?_))))))))))))))))
   have z1:(qp l f (kid (ndi l i) 0) (lvl (ndi l i).2.1)).size+(qo (ndi l i).2.1).size≤9223372036854775807:=by omega
   have z2:(qp l f (kid (ndi l i) 0) (lvl (ndi l i).2.1)++qo (ndi l i).2.1).size+(qp l f (kid (ndi l i) 1) (lvl (ndi l i).2.1+1)).size≤9223372036854775807:=by rw [ByteArray.size_append];omega
   have z3:(⟨#[40]⟩:ByteArray).size+((qp l f (kid (ndi l i) 0) (lvl (ndi l i).2.1)++qo (ndi l i).2.1)++qp l f (kid (ndi l i) 1) (lvl (ndi l i).2.1+1)).size≤9223372036854775807:=by rw [ByteArray.size_append,ByteArray.size_append];omega
   have z4:((⟨#[40]⟩:ByteArray)++((qp l f (kid (ndi l i) 0) (lvl (ndi l i).2.1)++qo (ndi l i).2.1)++qp l f (kid (ndi l i) 1) (lvl (ndi l i).2.1+1))).size+(⟨#[41]⟩:ByteArray).size≤9223372036854775807:=by rw [ByteArray.size_append,ByteArray.size_append,ByteArray.size_append];omega
   have g2:qa m (l.map qd) (kid (ndi l i) 1) (IntKind.i64.wrap (lvl (ndi l i).2.1+1))=some (qp l f (kid (ndi l i) 1) (lvl (ndi l i).2.1+1)):=by rw [hw];exact g2
   refine qO (by rw [k];rfl) (qO (by rw [k];rfl) (qO (by rw [k];rfl) (qO (by rw [k];rfl) (qF (by rw [k];rfl) (qA g3 (qF (decide_eq_true y1) (qA c0 (qF rfl (qA (qAq _) (qF (decide_eq_true y2) (qA c1 (qF rfl (qA (qAq _) (qA g1 (qA g4 (qF (decide_eq_true z1) (qA g2 (qF (decide_eq_true z2) ?_))))))))))))))))))
   rw [qp,if_neg (by omega),if_neg (by omega),if_neg (by omega),if_neg (by omega),if_pos k]
   unfold par
   by_cases ht:lvl (ndi l i).2.1<t
   ·refine qF (decide_eq_true ht) (qF (decide_eq_true z3) (qF (decide_eq_true z4) ?_))
    rw [qC,if_pos (decide_eq_true ht)]
   ·refine qO (decide_eq_false ht) ?_
    rw [qC,if_neg (by simpa using ht)]
  ·obtain ⟨n0,g0⟩:=qCk (F:=fun k n=>qa n (l.map qd) k 1) (f:=fun k=>qp l f k 1) (qT l i) (fun k hk=>ih k hk 1)
   obtain ⟨n1,g1⟩:=qJK (ndi l i).2.1 ho
   have h1:=qN1 ho
   have hs11:=qRn (f:=f) (by omega)
   have h3:(qT l i).length≤10:=hk.2
   have hjs:=qKk (xs:=(qT l i).map fun k=>qp l f k 1) (b:=szB f) (fun x hx=>by
    obtain ⟨k,hk,rfl⟩:=List.mem_map.1 hx
    exact isz k hk 1)
   have h4:(qT l i).length*(szB f+1)≤10*(szB f+1):=Nat.mul_le_mul_right _ h3
   rw [List.length_map] at hjs
   have gj:∀n,1≤n→qGD n (((qT l i).map fun k=>qp l f k 1).map fun x=> [PV.s x]) ⟨#[44]⟩=some (qJL ((qT l i).map fun k=>qp l f k 1)):=fun n hn=>by
    obtain ⟨m,rfl,_⟩:=up1 (n0:=0) hn
    show zAT _ _=_
    unfold zAT
    rw [qP0,Option.bind_some,if_pos]
    ·rfl
    ·rw [qCu] at hjs
     refine ⟨by rw [List.length_map];omega,?_⟩
     have:(Lib.join (((qT l i).map fun k=>qp l f k 1).map (·.data.toList)) [44]).length≤(qT l i).length*(szB f+1):=hjs
     show (Lib.join (((qT l i).map fun k=>qp l f k 1).map (·.data.toList)) [44]).length≤_
     omega
   refine ⟨n0+n1+20,fun n hn=>?_⟩
   obtain ⟨m,rfl,hm⟩:=up1 hn
   have g0:=g0 m (by omega)
   have g1:=g1 m (by omega)
   have gj:=gj m (by omega)
   have hj:=qOt (qa m) m (l.map qd) (fun k=>qp l f k 1) (ndi l i).1 (ndi l i).2.1 (ndi l i).2.2.1 (ndi l i).2.2.2.1 (ndi l i).2.2.2.2.1 (ndi l i).2.2.2.2.2.1 (ndi l i).2.2.2.2.2.2.1 (ndi l i).2.2.2.2.2.2.2.1 (ndi l i).2.2.2.2.2.2.2.2.1 (ndi l i).2.2.2.2.2.2.2.2.2.1 (ndi l i).2.2.2.2.2.2.2.2.2.2.1 (ndi l i).2.2.2.2.2.2.2.2.2.2.2.1 (ndi l i).2.2.2.2.2.2.2.2.2.2.2.2.1 ((kd (ndi l i)).map qBE) (kd (ndi l i)) hk.2 g0 (kd (ndi l i)) [] m rfl (by omega)
   simp only [List.length_nil,Int.natCast_zero,List.map_nil,List.length_map] at hj
   obtain ⟨J,hJ⟩:∃J,qJL ((qT l i).map fun k=>qp l f k 1)=J:=⟨_,rfl⟩
   rw [hJ] at gj hjs
   have z1:(fnS (ndi l i).2.1).size+(⟨#[40]⟩:ByteArray).size≤9223372036854775807:=by omega
   have z2:(fnS (ndi l i).2.1++(⟨#[40]⟩:ByteArray)).size+J.size≤9223372036854775807:=by rw [ByteArray.size_append];omega
   have z3:((fnS (ndi l i).2.1++(⟨#[40]⟩:ByteArray))++J).size+(⟨#[41]⟩:ByteArray).size≤9223372036854775807:=by rw [ByteArray.size_append,ByteArray.size_append];omega
   unfold qT at gj
   unfold kd at hj gj
   dsimp only at g1⊢
   rw [List.map_map] at gj
   have hkl':(((ndi l i).2.2.2.2.2.2.2.2.2.2.2.2.2.map qBE).length:Int)=((ndi l i).2.2.2.2.2.2.2.2.2.2.2.2.2.length:Int):=by rw [List.length_map]
   have hll:decide ((ndi l i).2.2.2.2.2.2.2.2.2.2.2.2.2.length=(List.map ((fun x=> [PV.s x])∘fun k=>qp l f k 1) (ndi l i).2.2.2.2.2.2.2.2.2.2.2.2.2).length)=true:=by simp
   have hmm:(List.map (fun k=> [PV.s (qp l f k 1)]) (ndi l i).2.2.2.2.2.2.2.2.2.2.2.2.2)=List.map ((fun x=> [PV.s x])∘fun k=>qp l f k 1) (ndi l i).2.2.2.2.2.2.2.2.2.2.2.2.2:=rfl
   rw [hmm] at hj
   rw [←hkl'] at hj
   show (qAp (qa m) m (l.map qd) i t).run=_
   refine qF (decide_eq_true hxb) (qA hcr (qF rfl (qA (qAU _) (qA (qAV _) (qA (qAW _) (qA (qAX _) (qA (qAY _) (qA (qAZ _) (qA (qAa _) (qA (qAb _) (qA (qAc _) (qA (qAd _) (qA (qy _) (qA (qz _) (qA (q7 _) (qA (q8 _) ?_))))))))))))))))
   refine qO (by rw [k];rfl) (qO (by rw [k];rfl) (qO (by rw [k];rfl) (qO (by rw [k];rfl) (qO (by rw [k];rfl) (qA hj (qA g1 (qF (decide_eq_true z1) (qF hll (qA gj (qF rfl (qF (decide_eq_true z2) (qF (decide_eq_true z3) ?_))))))))))))
   rw [qC,qp,if_neg (by omega),if_neg (by omega),if_neg (by omega),if_neg (by omega),if_neg (by omega),hJ]
theorem qFo {l:List Nd} (h:Fine l):∀(f:Nat) (i t:Int),f≤12→(0≤i∧i<l.length)→qA0 (qT l) (i.toNat+1) i≤f→Ev (qa · (l.map qd) i t) (qp l f i t)
 |0,i,t,hf,hx,hd=>by
  have:=qHl (qT l) (i.toNat+1) i hx.1 (by omega)
  omega
 |f+1,i,t,hf,hx,hd=>qHL h f i t hf hx hd fun k hk t'=>qFo h f k t' (by omega) (h.kid hx hd hk).1 (h.kid hx hd hk).2
def qBU (l:List Nd):ByteArray:=if qD1 l=true then (if ((qp l 12 ((l.length:Int)-1) 1).size:Int)>200 then ⟨#[]⟩ else qp l 12 ((l.length:Int)-1) 1) else ⟨#[]⟩
theorem qPT {l:List Nd} (h:qD1 l=true) (hk:∀c∈l,(kd c).length≤140737488351232∧c.2.2.2.2.1.size≤140737488351232):Fine l∧(0≤(l.length:Int)-1∧(l.length:Int)-1<l.length)∧qA0 (qT l) (((l.length:Int)-1).toNat+1) ((l.length:Int)-1)≤(12:Nat):=by
 unfold qD1 at h
 simp only [Bool.and_eq_true,decide_eq_true_eq] at h
 obtain ⟨h1,h2,h3,h4,h5⟩:=h
 have e:((l.length:Int)-1).toNat+1=l.length:=by omega
 rw [e]
 exact ⟨⟨h1.2,qFP.1 h2,hk⟩,by omega,h5⟩
theorem qJy (l:List Nd) (hl:l.length≤140737488351232) (hk:∀c∈l,(kd c).length≤140737488351232∧c.2.2.2.2.1.size≤140737488351232):Ev (qBr · (l.map qd)) (qBU l):=by
 obtain ⟨n1,g1⟩:=qGu l hk
 unfold qBU
 cases hf:qD1 l with
 |false=>
  rw [hf] at g1
  refine ⟨n1+1,fun n hn=>?_⟩
  obtain ⟨m,rfl,hm⟩:=up1 hn
  have g1:=g1 m (by omega)
  dsimp only at g1⊢
  simp [qBr,qDE,qC,qD,qG,qH,qJ,qK,Option.bind_some,qE,qM,qN,g1]
 |true=>
  rw [hf] at g1
  obtain ⟨q1,q2,q3⟩:=qPT hf hk
  obtain ⟨n2,g2⟩:=qJM q1 12 ((l.length:Int)-1) 0 (by decide) q2 q3
  rw [qQ1] at g2
  have hw:IntKind.i64.wrap ((l.length:Int)-1)=(l.length:Int)-1:=qX (by omega)
  refine ⟨n1+n2+1,fun n hn=>?_⟩
  obtain ⟨m,rfl,hm⟩:=up1 hn
  have g1:=g1 m (by omega)
  have g2:=g2 m (by omega)
  dsimp only at g1 g2⊢
  generalize qp l 12 ((l.length:Int)-1) 1=t at*
  simp only [qBr,qDE,qC,qD,qG,qH,qJ,qK,Option.bind_some,qE,qM,qN,g1,List.length_map,hw,g2]
  by_cases h2:(t.size:Int)>200<;>simp [h2]
theorem qJz (l:List Nd) (hl:l.length≤140737488351232) (hk:∀c∈l,(kd c).length≤140737488351232∧c.2.2.2.2.1.size≤140737488351232):Ev (qBO · (l.map qd)) (qBU l):=by
 obtain ⟨n1,g1⟩:=qGv l hl hk
 unfold qBU
 cases hf:qD1 l with
 |false=>
  rw [hf] at g1
  refine ⟨n1+1,fun n hn=>?_⟩
  obtain ⟨m,rfl,hm⟩:=up1 hn
  have g1:=g1 m (by omega)
  dsimp only at g1⊢
  simp [qBO,qDC,qC,qD,qG,qH,qJ,qK,Option.bind_some,qE,qM,qN,g1]
 |true=>
  rw [hf] at g1
  obtain ⟨q1,q2,q3⟩:=qPT hf hk
  obtain ⟨n2,g2⟩:=qFo q1 12 ((l.length:Int)-1) 1 (by decide) q2 q3
  have hw:IntKind.i64.wrap ((l.length:Int)-1)=(l.length:Int)-1:=qX (by omega)
  refine ⟨n1+n2+1,fun n hn=>?_⟩
  obtain ⟨m,rfl,hm⟩:=up1 hn
  have g1:=g1 m (by omega)
  have g2:=g2 m (by omega)
  dsimp only at g1 g2⊢
  generalize qp l 12 ((l.length:Int)-1) 1=t at*
  simp only [qBO,qDC,qC,qD,qG,qH,qJ,qK,Option.bind_some,qE,qM,qN,g1,List.length_map,hw,g2]
  by_cases h2:(t.size:Int)>200<;>simp [h2]
abbrev PS:=List UInt8×Bool×List Nd
def tb (r:List UInt8):List UInt8:=r.dropWhile (· ==32)
def wch (c:UInt8):Bool:=(decide (65≤c.toNat)&&decide (c.toNat≤90))||((decide (48≤c.toNat)&&decide (c.toNat≤57))||c==36)
def wd (r:List UInt8):List UInt8:=r.takeWhile wch
def wr (r:List UInt8):List UInt8:=r.dropWhile wch
def BR (r:List UInt8):ByteArray:=⟨r.toArray⟩
def qEJ:List (List UInt8):= [[60,62],[60,61],[62,61],[60],[62],[61],[38],[43],[45],[42],[47],[40],[41],[44],[58]]
def sgn (r:List UInt8):List UInt8:=match qEJ.find? (fun w=>w.isPrefixOf r) with|some w=>w|none=> []
def nd1 (v:V3):Nd:=(1,0,v.1,v.2.1,v.2.2,0,0,false,false,0,0,false,false,[])
def ndK (k op:Int) (kids:List Int):Nd:=(k,op,0,0,em,0,0,false,false,0,0,false,false,kids)
def ndC (p:Int×Int×Bool×Bool×Bool):Nd:=(2,0,0,0,em,p.1,p.2.1,p.2.2.1,p.2.2.2.1,0,0,false,false,[])
def ndA (p q:Int×Int×Bool×Bool×Bool):Nd:=(3,0,0,0,em,p.1,p.2.1,p.2.2.1,p.2.2.2.1,q.1,q.2.1,q.2.2.1,q.2.2.2.1,[])
def qBx:List UInt8→List UInt8→Option (List UInt8×List UInt8)
 |_,[]=>none
 |acc,c::t=>if c=34 then (match t with
   |d::t'=>if d=34 then qBx (acc++ [34]) t' else some (acc,t)
   | []=>some (acc,[])) else qBx (acc++ [c]) t
def qGw (r:List UInt8):Int→Nat→Option Int
 |_,0=>none
 |n,k+1=>if (qY n).toList.isPrefixOf r=true then some n else qGw r (n+1) k
def qFR (w:List UInt8):Int→Nat→Option Int
 |_,0=>none
 |n,k+1=>if (fnS n).toList=w then some n else qFR w (n+1) k
def qAS (r:List UInt8):Int:=
 if sgn r= [43] then 1 else if sgn r= [45] then 2 else if sgn r= [42] then 3 else if sgn r= [47] then 4 else if sgn r= [38] then 5 else if sgn r= [61] then 6 else
 if sgn r= [60,62] then 7 else if sgn r= [60] then 8 else if sgn r= [60,61] then 9 else if sgn r= [62] then 10 else if sgn r= [62,61] then 11 else 0
def qW (w:List UInt8) (p:PS):Bool×PS:=if sgn (tb p.1)=w then (true,(tb p.1).drop w.length,p.2) else (false,tb p.1,p.2)
def qC7 (x:Nd) (p:PS):Int×PS:=if p.2.1=true∨60≤p.2.2.length then ((p.2.2.length:Int)-1,p.1,true,p.2.2) else ((p.2.2.length:Int),p.1,false,p.2.2++ [x])
def qQb (p:PS):PS:=(p.1,true,p.2.2)
def qCC (w:List UInt8) (p:PS):PS:=if p.2.1=true then p else if (qW w p).1=true then (qW w p).2 else qQb (qW w p).2
def qA1 (p:PS):Option Nd×PS:=
 let w:=wd (tb p.1)
 let p1:PS:=(wr (tb p.1),p.2)
 if (qAv (BR w)).2.2.2.2=true∧(qW [58] p1).1=true then
  let p2:=(qW [58] p1).2
  let w2:=wd (tb p2.1)
  (some (ndA (qAv (BR w)) (qAv (BR w2))),wr (tb p2.1),p2.2.1||!(qAv (BR w2)).2.2.2.2,p2.2.2)
 else (none,p)
def qDb (o:Option Nd×PS) (g:PS→Int×PS):Int×PS:=match o.1 with
 |some x=>qC7 x o.2
 |none=>g o.2
inductive PJ where
 |bin (least deep:Int)
 |loop (least deep a:Int)
 |un (deep:Int)
 |at (deep:Int)
 |call (op deep:Int)
 |args (op deep:Int) (kids:List Int)
def pP:Nat→PJ→PS→Int×PS
 |0,_,p=>(0,p)
 |f+1,.bin least deep,p=>pP f (.loop least deep (pP f (.un deep) p).1) (pP f (.un deep) p).2
 |f+1,.loop least deep a,p=>
  if p.2.1=true then (a,p) else
  if qAS (tb p.1)=0∨lvl (qAS (tb p.1))<least then (a,tb p.1,p.2) else
  let p1:PS:=((tb p.1).drop (sgn (tb p.1)).length,p.2)
  let q:=pP f (.bin (lvl (qAS (tb p.1))+1) deep) p1
  let c:=qC7 (ndK 5 (qAS (tb p.1)) [a,q.1]) q.2
  pP f (.loop least deep c.1) c.2
 |f+1,.un deep,p=>
  if deep>400∨p.2.1=true then (-1,qQb p) else
  if (qW [45] p).1=true then
   let q:=pP f (.un (deep+1)) (qW [45] p).2
   qC7 (ndK 4 0 [q.1]) q.2
  else pP f (.at deep) (qW [45] p).2
 |f+1,.at deep,p=>
  let r:=tb p.1
  if r.head?=some 34 then (match qBx [] r.tail with
   |none=>(-1,r,true,p.2.2)
   |some (s,t)=>qC7 (nd1 (2,0,BR s)) (t,p.2))
  else match (if r.head?=some 35 then qGw r 1 5 else none) with
  |some n=>qC7 (nd1 (4,n,em)) (r.drop (qY n).size,p.2)
  |none=>
   if r.head?≠some 35∧(qW [40] p).1=true then
    let q:=pP f (.bin 1 (deep+1)) (qW [40] p).2
    (q.1,qCC [41] q.2)
   else
    let w:=wd r
    let p2:PS:=(wr r,p.2)
    if (qj (BR w)).2.2.2=true∧((qj (BR w)).1=1∨(qj (BR w)).1=3) then qC7 (nd1 ((qj (BR w)).1,(qj (BR w)).2.1,(qj (BR w)).2.2.1)) p2
    else if (qAv (BR w)).2.2.2.2=true then qC7 (ndC (qAv (BR w))) p2
    else match qFR w 1 10 with
    |some op=>pP f (.call op deep) p2
    |none=>(-1,qQb p2)
 |f+1,.call op deep,p=>pP f (.args op deep []) (qCC [40] p)
 |f+1,.args op deep kids,p=>
  if p.2.1=true then qC7 (ndK 6 op kids) p else
  let q:=qDb (qA1 p) (fun p=>pP f (.bin 1 (deep+1)) p)
  if (qW [44] q.2).1=true then pP f (.args op deep (kids++ [q.1])) (qW [44] q.2).2
  else qC7 (ndK 6 op (kids++ [q.1])) (qCC [41] (qW [44] q.2).2)
def sIs (w:List UInt8) (q:PS):Bool×PS:=if q.2.1=true then (false,tb q.1,q.2) else if w.isPrefixOf (tb q.1)=true then (true,(tb q.1).drop w.length,q.2) else (false,tb q.1,q.2)
def qD2 (x:Nd) (q:PS):Int×PS:=((q.2.2.length:Int),q.1,(if 60<q.2.2.length+1∨qCI x=false then true else q.2.1),q.2.2++ [x])
def qKl (q:PS):PS:=(q.1,true,q.2.2)
def qCE:List Int:= [7,9,11,6,8,10,1,2,3,4,5]
def qDm (level:Int) (r:List UInt8):List Int→Int
 | []=>0
 |o::l=>if lvl o=level∧(qo o).toList.isPrefixOf r=true then o else qDm level r l
def sOp (level:Int) (q:PS):Int×PS:=
 if q.2.1=true then (0,tb q.1,q.2) else
 (qDm level (tb q.1) qCE,(if qDm level (tb q.1) qCE=0 then tb q.1 else (tb q.1).drop (qo (qDm level (tb q.1) qCE)).size),q.2)
def qP1 (r:List UInt8):Int→Nat→Option Int
 |_,0=>none
 |n,k+1=>if (qY n).toList.tail.isPrefixOf r=true then some n else qP1 r (n+1) k
inductive SJ where
 |row (level:Int)
 |rl (level a:Int)
 |one
 |call (op:Int) (kids:List Int)
 |arg
def sP:Nat→SJ→PS→Int×PS
 |0,_,q=>(0,q)
 |f+1,.row level,q=>
  if q.2.1=true then (0,q) else
  if level=5 then sP f .one q else
  sP f (.rl level (sP f (.row (level+1)) q).1) (sP f (.row (level+1)) q).2
 |f+1,.rl level a,q=>
  if q.2.1=true then (a,q) else
  let o:=sOp level q
  if o.1=0 then (a,o.2) else
  let b:=sP f (.row (level+1)) o.2
  let c:=qD2 (ndK 5 o.1 [a,b.1]) b.2
  sP f (.rl level c.1) c.2
 |f+1,.one,q=>
  if (sIs [45] q).1=true then
   let b:=sP f (.row 5) (sIs [45] q).2
   qD2 (ndK 4 0 [b.1]) b.2
  else if (sIs [40] (sIs [45] q).2).1=true then
   let b:=sP f (.row 1) (sIs [40] (sIs [45] q).2).2
   (b.1,if (sIs [41] b.2).1=true then (sIs [41] b.2).2 else qKl (sIs [41] b.2).2)
  else
   let q2:PS:=(tb q.1,q.2)
   if (sIs [34] q2).1=true then (match qBx [] (sIs [34] q2).2.1 with
    |none=>(0,[],true,q.2.2)
    |some (s,t)=>qD2 (nd1 (2,0,BR s)) (t,q.2))
   else if (sIs [35] q2).1=true then (match qP1 (sIs [35] q2).2.1 1 5 with
    |some n=>qD2 (nd1 (4,n,em)) ((sIs [35] q2).2.1.drop ((qY n).size-1),q.2)
    |none=>(0,(sIs [35] q2).2.1,true,q.2.2))
   else
    let w:=wd (tb q.1)
    let q3:PS:=(wr (tb q.1),q.2)
    match qFR w 1 10 with
    |some op=>if (sIs [40] q3).1=true then sP f (.call op []) (sIs [40] q3).2 else (0,qKl (sIs [40] q3).2)
    |none=>
     if (qj (BR w)).2.2.2=true∧w≠ [] then qD2 (nd1 ((qj (BR w)).1,(qj (BR w)).2.1,(qj (BR w)).2.2.1)) q3
     else if (qAv (BR w)).2.2.2.2=true then qD2 (ndC (qAv (BR w))) q3
     else (0,qKl q3)
 |f+1,.call op kids,q=>
  if q.2.1=true then (0,q) else
  let a:=sP f .arg q
  if (sIs [41] a.2).1=true then qD2 (ndK 6 op (kids++ [a.1])) (sIs [41] a.2).2
  else sP f (.call op (kids++ [a.1])) (if (sIs [44] (sIs [41] a.2).2).1=true then (sIs [44] (sIs [41] a.2).2).2 else qKl (sIs [44] (sIs [41] a.2).2).2)
 |f+1,.arg,q=>
  let w:=wd (tb q.1)
  let q1:PS:=(wr (tb q.1),q.2)
  if (qAv (BR w)).2.2.2.2=true∧(sIs [58] q1).1=true then
   let q2:=(sIs [58] q1).2
   let w2:=wd (tb q2.1)
   if (qAv (BR w2)).2.2.2.2=true then qD2 (ndA (qAv (BR w)) (qAv (BR w2))) (wr (tb q2.1),q2.2) else (0,wr (tb q2.1),true,q2.2.2)
  else sP f (.row 1) (tb q.1,q.2)
theorem qCW:∀r:List UInt8,tb (tb r)=tb r
 | []=>rfl
 |c::r=>by
  unfold tb
  by_cases h:(c==32)=true
  ·simp only [List.dropWhile_cons,h,if_true];exact qCW r
  ·simp [List.dropWhile_cons,h]
theorem qAA:∀r:List UInt8,(tb r).length≤r.length
 | []=>Nat.le_refl _
 |c::r=>by
  unfold tb
  by_cases h:(c==32)=true
  ·simp only [List.dropWhile_cons,h,if_true];exact Nat.le_succ_of_le (qAA r)
  ·simp [List.dropWhile_cons,h]
theorem qOu {p:UInt8→Bool}:∀r:List UInt8,(r.dropWhile p).length≤r.length
 | []=>Nat.le_refl _
 |c::r=>by
  by_cases h:p c=true
  ·simp only [List.dropWhile_cons,h,if_true];exact Nat.le_succ_of_le (qOu r)
  ·simp [List.dropWhile_cons,h]
theorem qGY (r:List UInt8):(wr r).length≤r.length:=qOu r
theorem wdr (r:List UInt8):wd r++wr r=r:=List.takeWhile_append_dropWhile
theorem qEp (c:UInt8) (t:List UInt8) (h1:c≠60) (h2:c≠62):sgn (c::t)=if c∈([61,38,43,45,42,47,40,41,44,58]:List UInt8) then [c] else []:=by
 have e1:(60==c)=false:=by simpa using fun e=>h1 e.symm
 have e2:(62==c)=false:=by simpa using fun e=>h2 e.symm
 by_cases h:c∈([61,38,43,45,42,47,40,41,44,58]:List UInt8)
 ·rw [if_pos h]
  simp only [List.mem_cons,List.not_mem_nil,or_false] at h
  rcases h with rfl|rfl|rfl|rfl|rfl|rfl|rfl|rfl|rfl|rfl<;>rfl
 ·rw [if_neg h]
  simp only [List.mem_cons,List.not_mem_nil,or_false,not_or] at h
  obtain ⟨a1,a2,a3,a4,a5,a6,a7,a8,a9,a10⟩:=h
  have f:∀d:UInt8,c≠d→(d==c)=false:=fun d hd=>by simpa using fun e=>hd e.symm
  simp [sgn,qEJ,List.find?,List.isPrefixOf,e1,e2,f _ a1,f _ a2,f _ a3,f _ a4,f _ a5,f _ a6,f _ a7,f _ a8,f _ a9,f _ a10]
theorem qJN (t:List UInt8):sgn (60::t)=if t.head?=some 62 then [60,62] else if t.head?=some 61 then [60,61] else [60]:=by
 cases t with
 |nil=>rfl
 |cons d t=>
  by_cases h:d=62
  ·subst h;rfl
  ·by_cases h2:d=61
   ·subst h2;rfl
   ·have e1:(62==d)=false:=by simpa using fun e=>h e.symm
    have e2:(61==d)=false:=by simpa using fun e=>h2 e.symm
    simp [sgn,qEJ,List.find?,List.isPrefixOf,e1,e2,h,h2]
theorem qMS (t:List UInt8):sgn (62::t)=if t.head?=some 61 then [62,61] else [62]:=by
 cases t with
 |nil=>rfl
 |cons d t=>
  by_cases h2:d=61
  ·subst h2;rfl
  ·have e2:(61==d)=false:=by simpa using fun e=>h2 e.symm
   simp [sgn,qEJ,List.find?,List.isPrefixOf,e2,h2]
theorem qQ2 {c:UInt8} (hc:c∈([45,40,41,44,58]:List UInt8)) (r:List UInt8):(sgn r= [c])↔([c].isPrefixOf r=true):=by
 cases r with
 |nil=>
  have:sgn []= []:=rfl
  rw [this]
  simp [List.isPrefixOf]
 |cons d t=>
  have hcc:c≠60∧c≠62∧c∈([61,38,43,45,42,47,40,41,44,58]:List UInt8):=by
   simp only [List.mem_cons,List.not_mem_nil,or_false] at hc
   rcases hc with rfl|rfl|rfl|rfl|rfl<;>decide
  have e:([c].isPrefixOf (d::t)=true)↔c=d:=by simp [List.isPrefixOf]
  rw [e]
  by_cases h1:d=60
  ·subst h1
   rw [qJN]
   constructor
   ·intro h;split at h
    ·cases h
    ·split at h
     ·cases h
     ·simp only [List.cons.injEq,and_true] at h;exact absurd h.symm hcc.1
   ·intro h;exact absurd h hcc.1
  ·by_cases h2:d=62
   ·subst h2
    rw [qMS]
    constructor
    ·intro h;split at h
     ·cases h
     ·simp only [List.cons.injEq,and_true] at h;exact absurd h.symm hcc.2.1
    ·intro h;exact absurd h hcc.2.1
   ·rw [qEp d t h1 h2]
    constructor
    ·intro h;split at h
     ·simp only [List.cons.injEq,and_true] at h;exact h.symm
     ·cases h
    ·intro h;subst h;rw [if_pos hcc.2.2]
theorem qSQ {c:UInt8} (hc:c∈([45,40,41,44,58]:List UInt8)) {p q:PS} (hb:q.2.1=false) (ht:tb p.1=tb q.1):(qW [c] p).1=(sIs [c] q).1∧(qW [c] p).2.1=(sIs [c] q).2.1∧(qW [c] p).2.2=p.2∧(sIs [c] q).2.2=q.2:=by
 have h:=qQ2 hc (tb q.1)
 unfold qW sIs
 rw [ht,hb]
 by_cases hs:sgn (tb q.1)= [c]
 ·rw [if_pos hs,if_neg (by simp),if_pos (h.1 hs)]
  exact ⟨rfl,rfl,rfl,rfl⟩
 ·rw [if_neg hs,if_neg (by simp),if_neg (fun e=>hs (h.2 e))]
  exact ⟨rfl,rfl,rfl,rfl⟩
theorem qDc {w:List UInt8} (hw:w≠ []) {p:PS} (h:(qW w p).1=true):(qW w p).2.1.length<(tb p.1).length:=by
 unfold qW at h⊢
 by_cases hs:sgn (tb p.1)=w
 ·rw [if_pos hs]
  have hp:w.isPrefixOf (tb p.1)=true:=by
   unfold sgn at hs
   split at hs
   ·rename_i x hx
    subst hs
    have:=List.find?_some hx
    simpa using this
   ·exact absurd hs.symm hw
  obtain ⟨t,ht⟩:=List.isPrefixOf_iff_prefix.1 hp
  have h0:0<w.length:=List.length_pos_iff.2 hw
  have h1:=congrArg List.length ht
  simp only [List.length_append] at h1
  simp only [List.length_drop]
  omega
 ·rw [if_neg hs] at h;cases h
theorem qIA (w:List UInt8) (p:PS):(qW w p).2.1.length≤(tb p.1).length:=by
 unfold qW
 split
 ·simp
 ·exact Nat.le_refl _
theorem qQ3 (r:List UInt8):(qAS r=0)∨(1≤qAS r∧qAS r≤11∧sgn r=(qo (qAS r)).toList):=by
 unfold qAS
 repeat' (split; · rename_i h;right;rw [h];exact ⟨by decide,by decide,by decide+kernel⟩)
 left;rfl
theorem sg1:(qo 1).toList= [43]:=by decide+kernel
theorem sg2:(qo 2).toList= [45]:=by decide+kernel
theorem sg3:(qo 3).toList= [42]:=by decide+kernel
theorem sg4:(qo 4).toList= [47]:=by decide+kernel
theorem sg5:(qo 5).toList= [38]:=by decide+kernel
theorem sg6:(qo 6).toList= [61]:=by decide+kernel
theorem sg7:(qo 7).toList= [60,62]:=by decide+kernel
theorem sg8:(qo 8).toList= [60]:=by decide+kernel
theorem sg9:(qo 9).toList= [60,61]:=by decide+kernel
theorem qQc:(qo 10).toList= [62]:=by decide+kernel
theorem qQd:(qo 11).toList= [62,61]:=by decide+kernel
theorem qHM (r:List UInt8):qDm 1 r qCE=if [60,62].isPrefixOf r=true then 7 else if [60,61].isPrefixOf r=true then 9 else if [62,61].isPrefixOf r=true then 11 else if [61].isPrefixOf r=true then 6 else if [60].isPrefixOf r=true then 8 else if [62].isPrefixOf r=true then 10 else 0:=by
 simp [qDm,qCE,lvl,sg1,sg2,sg3,sg4,sg5,sg6,sg7,sg8,sg9,qQc,qQd]
theorem qHN (r:List UInt8):qDm 2 r qCE=if [38].isPrefixOf r=true then 5 else 0:=by
 simp [qDm,qCE,lvl,sg1,sg2,sg3,sg4,sg5,sg6,sg7,sg8,sg9,qQc,qQd]
theorem qHO (r:List UInt8):qDm 3 r qCE=if [43].isPrefixOf r=true then 1 else if [45].isPrefixOf r=true then 2 else 0:=by
 simp [qDm,qCE,lvl,sg1,sg2,sg3,sg4,sg5,sg6,sg7,sg8,sg9,qQc,qQd]
theorem qHP (r:List UInt8):qDm 4 r qCE=if [42].isPrefixOf r=true then 3 else if [47].isPrefixOf r=true then 4 else 0:=by
 simp [qDm,qCE,lvl,sg1,sg2,sg3,sg4,sg5,sg6,sg7,sg8,sg9,qQc,qQd]
theorem qSR {m:Int} (hm:1≤m∧m≤4) (r:List UInt8):qDm m r qCE=if qAS r≠0∧lvl (qAS r)=m then qAS r else 0:=by
 have hm:m=1∨m=2∨m=3∨m=4:=by omega
 cases r with
 |nil=>rcases hm with rfl|rfl|rfl|rfl<;>simp [qHM,qHN,qHO,qHP,qAS,sgn,qEJ,List.find?,List.isPrefixOf]
 |cons c t=>
  have f:∀d:UInt8,c≠d→(d==c)=false:=fun d hd=>by simpa using fun e=>hd e.symm
  by_cases h1:c=60
  ·subst h1
   cases t with
   |nil=>rcases hm with rfl|rfl|rfl|rfl<;>simp [qHM,qHN,qHO,qHP,qAS,qJN,List.isPrefixOf,lvl]
   |cons d t=>
    have g:∀e:UInt8,d≠e→(e==d)=false:=fun e hd=>by simpa using fun x=>hd x.symm
    by_cases hd:d=62
    ·subst hd;rcases hm with rfl|rfl|rfl|rfl<;>simp [qHM,qHN,qHO,qHP,qAS,qJN,List.isPrefixOf,lvl]
    ·by_cases hd2:d=61
     ·subst hd2;rcases hm with rfl|rfl|rfl|rfl<;>simp [qHM,qHN,qHO,qHP,qAS,qJN,List.isPrefixOf,lvl]
     ·rcases hm with rfl|rfl|rfl|rfl<;>simp [qHM,qHN,qHO,qHP,qAS,qJN,List.isPrefixOf,lvl,hd,hd2,g _ hd,g _ hd2]
  ·by_cases h2:c=62
   ·subst h2
    cases t with
    |nil=>rcases hm with rfl|rfl|rfl|rfl<;>simp [qHM,qHN,qHO,qHP,qAS,qMS,List.isPrefixOf,lvl]
    |cons d t=>
     have g:∀e:UInt8,d≠e→(e==d)=false:=fun e hd=>by simpa using fun x=>hd x.symm
     by_cases hd2:d=61
     ·subst hd2;rcases hm with rfl|rfl|rfl|rfl<;>simp [qHM,qHN,qHO,qHP,qAS,qMS,List.isPrefixOf,lvl]
     ·rcases hm with rfl|rfl|rfl|rfl<;>simp [qHM,qHN,qHO,qHP,qAS,qMS,List.isPrefixOf,lvl,hd2,g _ hd2]
   ·by_cases h:c∈([61,38,43,45,42,47,40,41,44,58]:List UInt8)
    ·have hs:sgn (c::t)= [c]:=by rw [qEp c t h1 h2,if_pos h]
     simp only [List.mem_cons,List.not_mem_nil,or_false] at h
     rcases h with rfl|rfl|rfl|rfl|rfl|rfl|rfl|rfl|rfl|rfl<;>rcases hm with rfl|rfl|rfl|rfl<;>
      simp [qHM,qHN,qHO,qHP,qAS,hs,List.isPrefixOf,lvl]
    ·have hs:sgn (c::t)= []:=by rw [qEp c t h1 h2,if_neg h]
     simp only [List.mem_cons,List.not_mem_nil,or_false,not_or] at h
     obtain ⟨a1,a2,a3,a4,a5,a6,a7,a8,a9,a10⟩:=h
     rcases hm with rfl|rfl|rfl|rfl<;>
      simp [qHM,qHN,qHO,qHP,qAS,hs,List.isPrefixOf,f _ h1,f _ h2,f _ a1,f _ a2,f _ a3,f _ a4,f _ a5,f _ a6]
theorem qPU {op:Int}:1≤lvl op∧lvl op≤4:=by unfold lvl;split<;>(try split)<;>(try split)<;>omega
def qLP (p:PS):Prop:=p.2.1=true∨∃x∈p.2.2,qCI x=false
theorem qCo {x:Nd} {p:PS} (h:qLP p):qLP (qC7 x p).2:=by
 unfold qC7
 split
 ·exact .inl rfl
 ·rename_i hn
  rcases h with h|⟨y,hy,hb⟩
  ·exact absurd (.inl h) hn
  ·exact .inr ⟨y,List.mem_append_left _ hy,hb⟩
theorem qEN {w:List UInt8} {p:PS} (h:qLP p):qLP (qW w p).2:=by unfold qW;split<;>exact h
theorem qFS (p:PS):qLP (qQb p):= .inl rfl
theorem qHn {w:List UInt8} {p:PS} (h:qLP p):qLP (qCC w p):=by
 unfold qCC
 split
 ·exact h
 ·split
  ·exact qEN h
  ·exact qFS _
theorem qOv {p:PS} (h:qLP p):qLP (qA1 p).2:=by
 unfold qA1
 simp only
 split
 ·rcases h with h|h
  ·left
   simp only [Bool.or_eq_true]
   left
   have:(qW [58] (wr (tb p.1),p.2)).2.2=p.2:=by unfold qW;split<;>rfl
   rw [this];exact h
  ·right
   have:(qW [58] (wr (tb p.1),p.2)).2.2=p.2:=by unfold qW;split<;>rfl
   simp only [this]
   exact h
 ·exact h
theorem qCv:∀(f:Nat) (j:PJ) (p:PS),qLP p→qLP (pP f j p).2
 |0,j,p,h=>h
 |f+1,.bin least deep,p,h=>by
  simp only [pP]
  exact qCv f _ _ (qCv f _ _ h)
 |f+1,.loop least deep a,p,h=>by
  simp only [pP]
  split
  ·exact h
  ·split
   ·exact h
   ·exact qCv f _ _ (qCo (qCv f _ _ h))
 |f+1,.un deep,p,h=>by
  simp only [pP]
  split
  ·exact qFS _
  ·split
   ·exact qCo (qCv f _ _ (qEN h))
   ·exact qCv f _ _ (qEN h)
 |f+1,.at deep,p,h=>by
  simp only [pP]
  split
  ·split
   ·exact .inl rfl
   ·exact qCo h
  ·split
   ·exact qCo h
   ·split
    ·exact qHn (qCv f _ _ (qEN h))
    ·split
     ·exact qCo h
     ·split
      ·exact qCo h
      ·split
       ·exact qCv f _ _ h
       ·exact qFS _
 |f+1,.call op deep,p,h=>by
  simp only [pP]
  exact qCv f _ _ (qHn h)
 |f+1,.args op deep kids,p,h=>by
  simp only [pP]
  have hq:qLP (qDb (qA1 p) (fun p=>pP f (.bin 1 (deep+1)) p)).2:=by
   unfold qDb
   split
   ·exact qCo (qOv h)
   ·exact qCv f _ _ (qOv h)
  revert hq
  generalize qDb (qA1 p) (fun p=>pP f (.bin 1 (deep+1)) p)=q
  intro hq
  split
  ·exact qCo h
  ·split
   ·exact qCv f _ _ (qEN hq)
   ·exact qCo (qHn (qEN hq))
theorem qA5 (x:Nd) (p:PS):(qC7 x p).2.1=p.1:=by unfold qC7;split<;>rfl
theorem qDn (w:List UInt8) (p:PS):(tb (qW w p).2.1).length≤(tb p.1).length:=by
 unfold qW
 split
 ·refine Nat.le_trans (qAA _) ?_
  simp
 ·simp only;rw [qCW];exact Nat.le_refl _
theorem qJY (w:List UInt8) (p:PS):(tb (qCC w p).1).length≤(tb p.1).length:=by
 unfold qCC
 split
 ·exact Nat.le_refl _
 ·split
  ·exact qDn w p
  ·exact qDn w p
theorem qHo (p:PS):(tb (qA1 p).2.1).length≤(tb p.1).length:=by
 unfold qA1
 simp only
 split
 ·simp only
  refine Nat.le_trans (qAA _) (Nat.le_trans (qGY _) (Nat.le_trans (qDn [58] _) ?_))
  exact Nat.le_trans (qAA _) (qGY _)
 ·exact Nat.le_refl _
theorem qJZ:∀(acc r:List UInt8) {s t:List UInt8},qBx acc r=some (s,t)→t.length<r.length
 |acc,[],s,t,h=>by simp [qBx] at h
 |acc,c::r,s,t,h=>by
  unfold qBx at h
  by_cases hc:c=34
  ·rw [if_pos hc] at h
   match r,h with
   | [],h=>simp only [Option.some.injEq,Prod.mk.injEq] at h;rw [←h.2];simp
   |d::t',h=>
    simp only at h
    by_cases hd:d=34
    ·rw [if_pos hd] at h
     have:=qJZ _ t' h
     simp only [List.length_cons];omega
    ·rw [if_neg hd] at h
     simp only [Option.some.injEq,Prod.mk.injEq] at h
     rw [←h.2];simp
  ·rw [if_neg hc] at h
   have:=qJZ _ r h
   simp only [List.length_cons];omega
theorem qDd:∀(f:Nat) (j:PJ) (p:PS),(tb (pP f j p).2.1).length≤(tb p.1).length
 |0,j,p=>Nat.le_refl _
 |f+1,.bin least deep,p=>by
  simp only [pP]
  exact Nat.le_trans (qDd f _ _) (qDd f _ _)
 |f+1,.loop least deep a,p=>by
  simp only [pP]
  split
  ·exact Nat.le_refl _
  ·split
   ·simp only;rw [qCW];exact Nat.le_refl _
   ·refine Nat.le_trans (qDd f _ _) ?_
    rw [qA5]
    refine Nat.le_trans (qDd f _ _) (Nat.le_trans (qAA _) ?_)
    simp
 |f+1,.un deep,p=>by
  simp only [pP]
  split
  ·exact Nat.le_refl _
  ·split
   ·rw [qA5]
    exact Nat.le_trans (qDd f _ _) (qDn _ _)
   ·exact Nat.le_trans (qDd f _ _) (qDn _ _)
 |f+1,.at deep,p=>by
  simp only [pP]
  split
  ·split
   ·simp only;rw [qCW];exact Nat.le_refl _
   ·rename_i s t hq
    rw [qA5]
    have:=qJZ _ _ hq
    refine Nat.le_trans (qAA _) ?_
    have h2:((tb p.1).tail).length≤(tb p.1).length:=by simp
    simp only;omega
  ·split
   ·rw [qA5]
    refine Nat.le_trans (qAA _) ?_
    simp
   ·split
    ·exact Nat.le_trans (qJY _ _) (Nat.le_trans (qDd f _ _) (qDn _ _))
    ·have hw:(tb (wr (tb p.1))).length≤(tb p.1).length:=Nat.le_trans (qAA _) (qGY _)
     split
     ·rw [qA5];exact hw
     ·split
      ·rw [qA5];exact hw
      ·split
       ·exact Nat.le_trans (qDd f _ _) hw
       ·exact hw
 |f+1,.call op deep,p=>by
  simp only [pP]
  exact Nat.le_trans (qDd f _ _) (qJY _ _)
 |f+1,.args op deep kids,p=>by
  simp only [pP]
  have hq:(tb (qDb (qA1 p) (fun p=>pP f (.bin 1 (deep+1)) p)).2.1).length≤(tb p.1).length:=by
   unfold qDb
   split
   ·rw [qA5];exact qHo p
   ·exact Nat.le_trans (qDd f _ _) (qHo p)
  revert hq
  generalize qDb (qA1 p) (fun p=>pP f (.bin 1 (deep+1)) p)=q
  intro hq
  split
  ·rw [qA5];exact Nat.le_refl _
  ·split
   ·exact Nat.le_trans (qDd f _ _) (Nat.le_trans (qDn _ _) hq)
   ·rw [qA5]
    exact Nat.le_trans (qJY _ _) (Nat.le_trans (qDn _ _) hq)
structure RdOK:Prop where
 v:∀w:List UInt8,w.all wch=true→w≠ []→(qj (BR w)).2.2.2=true→(qj (BR w)).1=1∨(qj (BR w)).1=3
 v0:¬((qj (BR [])).1=1∨(qj (BR [])).1=3)
 p0:(qAv (BR [])).2.2.2.2=false
 f:∀w op,qFR w 1 10=some op→(qj (BR w)).2.2.2=false∧(qAv (BR w)).2.2.2.2=false
 f0:qFR [] 1 10=none
 n:∀n:Int,1≤n∧n≤5→∃t,(qY n).toList=35::t
def Lk (p q:PS):Prop:=p.2.1=false∧q.2.1=false∧p.2.2=q.2.2∧tb p.1=tb q.1
def Sim (a b:Int×PS):Prop:=(a.1=b.1∧Lk a.2 b.2)∨(b.2.2.1=true∧qLP a.2)
def qTM (least:Int) (p:PS):Prop:=qAS (tb p.1)=0∨lvl (qAS (tb p.1))<least
def SimP (least:Int) (a b:Int×PS):Prop:=(a.1=b.1∧Lk a.2 b.2∧qTM least a.2)∨(b.2.2.1=true∧qLP a.2)
theorem SimP.sim {least:Int} {a b:Int×PS} (h:SimP least a b):Sim a b:=h.elim (fun h=> .inl ⟨h.1,h.2.1⟩) .inr
theorem qLQ {x:Nd} {q:PS} (h:q.2.1=true):(qD2 x q).2.2.1=true:=by
 unfold qD2;simp only;split
 ·rfl
 ·exact h
theorem qIB {w:List UInt8} {q:PS} (h:q.2.1=true):sIs w q=(false,tb q.1,q.2):=by unfold sIs;rw [if_pos h]
theorem qMT:∀(g:Nat) (j:SJ) (q:PS),q.2.1=true→(sP g j q).2.2.1=true
 |0,j,q,h=>h
 |g+1,.row level,q,h=>by simp only [sP];rw [if_pos h];exact h
 |g+1,.rl level a,q,h=>by simp only [sP];rw [if_pos h];exact h
 |g+1,.one,q,h=>by
  simp only [sP]
  rw [qIB (w:= [45]) h]
  simp only [Bool.false_eq_true,if_false]
  rw [qIB (w:= [40]) (q:=(tb q.1,q.2)) h]
  simp only [Bool.false_eq_true,if_false]
  rw [qIB (w:= [34]) (q:=(tb q.1,q.2)) h]
  simp only [Bool.false_eq_true,if_false]
  rw [qIB (w:= [35]) (q:=(tb q.1,q.2)) h]
  simp only [Bool.false_eq_true,if_false]
  split
  ·rw [qIB (w:= [40]) (q:=(wr (tb q.1),q.2)) h]
   simp [qKl]
  ·split
   ·exact qLQ h
   ·split
    ·exact qLQ h
    ·rfl
 |g+1,.call op kids,q,h=>by simp only [sP];rw [if_pos h];exact h
 |g+1,.arg,q,h=>by
  simp only [sP]
  rw [qIB (w:= [58]) (q:=(wr (tb q.1),q.2)) h]
  simp only [Bool.false_eq_true,and_false,if_false]
  exact qMT g _ _ h
theorem qIC {x:Nd} {p q:PS} (h:Lk p q):Sim (qC7 x p) (qD2 x q):=by
 obtain ⟨h1,h2,h3,h4⟩:=h
 unfold qC7 qD2
 rw [h1,h2,h3]
 by_cases hl:60≤q.2.2.length
 ·refine .inr ⟨?_,.inl ?_⟩
  ·simp only;rw [if_pos (.inl (by omega))]
  ·rw [if_pos (.inr hl)]
 ·rw [if_neg (by simp;omega)]
  by_cases hn:qCI x=false
  ·exact .inr ⟨by simp only;rw [if_pos (.inr hn)],.inr ⟨x,by simp,hn⟩⟩
  ·refine .inl ⟨rfl,rfl,?_,rfl,h4⟩
   simp only
   rw [if_neg]
   intro e
   rcases e with e|e
   ·omega
   ·exact hn e
theorem qP2 {a b:Int×PS} (f:Int→Nd) (h:Sim a b):Sim (qC7 (f a.1) a.2) (qD2 (f b.1) b.2):=by
 rcases h with ⟨h1,h2⟩|⟨h1,h2⟩
 ·rw [h1];exact qIC h2
 ·exact .inr ⟨qLQ h1,qCo h2⟩
theorem qJa {c:UInt8} (hc:c∈([45,40,41,44,58]:List UInt8)) {p q:PS} (h:Lk p q):(qW [c] p).1=(sIs [c] q).1∧Lk (qW [c] p).2 (sIs [c] q).2:=by
 obtain ⟨h1,h2,h3,h4⟩:=h
 obtain ⟨e1,e2,e3,e4⟩:=qSQ hc h2 h4
 refine ⟨e1,?_,?_,?_,?_⟩
 ·rw [e3];exact h1
 ·rw [e4];exact h2
 ·rw [e3,e4];exact h3
 ·rw [e2]
theorem qP3 {c:UInt8} (hc:c∈([45,40,41,44,58]:List UInt8)) {a b:Int×PS} (h:Sim a b):Sim (a.1,qCC [c] a.2) (b.1,if (sIs [c] b.2).1=true then (sIs [c] b.2).2 else qKl (sIs [c] b.2).2):=by
 rcases h with ⟨h1,h2⟩|⟨h1,h2⟩
 ·obtain ⟨e1,e2⟩:=qJa hc h2
  unfold qCC
  rw [if_neg (by rw [h2.1];simp),e1]
  by_cases ht:(sIs [c] b.2).1=true
  ·rw [if_pos ht,if_pos ht]
   exact .inl ⟨h1,e2⟩
  ·rw [if_neg ht,if_neg ht]
   exact .inr ⟨rfl,qFS _⟩
 ·refine .inr ⟨?_,qHn h2⟩
  rw [qIB h1]
  simp [qKl]
def qIm (G:Nat) (least:Int):Nat→Int×PS→Int×PS→Prop
 |0,x,res=>res=x
 |m+1,x,res=>if ((m:Int)+1)<least then res=x else ∃g,G≤g∧qIm G least m (sP g (.rl ((m:Int)+1) x.1) x.2) res
theorem qMU {G G':Nat} (h:G'≤G) {least:Int}:∀(m:Nat) {x res:Int×PS},qIm G least m x res→qIm G' least m x res
 |0,x,res,ht=>ht
 |m+1,x,res,ht=>by
  unfold qIm at ht⊢
  split
  ·rename_i hc;rw [if_pos hc] at ht;exact ht
  ·rename_i hc
   rw [if_neg hc] at ht
   obtain ⟨g,h1,h2⟩:=ht
   exact ⟨g,Nat.le_trans h h1,qMU h m h2⟩
theorem qLR {G:Nat} {least:Int}:∀(m:Nat) {x res:Int×PS},x.2.2.1=true→qIm G least m x res→res.2.2.1=true
 |0,x,res,hb,ht=>by unfold qIm at ht;rw [ht];exact hb
 |m+1,x,res,hb,ht=>by
  unfold qIm at ht
  split at ht
  ·rw [ht];exact hb
  ·obtain ⟨g,_,h2⟩:=ht
   exact qLR m (qMT g _ _ hb) h2
theorem qOw {G:Nat} {l:Nat} (hl0:1≤l) {g:Nat} (hg:G≤g):∀(m:Nat) {x y:Int×PS},l≤m→qIm G ((l:Int)+1) m x y→qIm G (l:Int) m x (sP g (.rl (l:Int) y.1) y.2)
 |0,x,y,hl,ht=>by omega
 |m+1,x,y,hl,ht=>by
  unfold qIm at ht⊢
  rw [if_neg (by omega)]
  by_cases e:l=m+1
  ·subst e
   rw [if_pos (by omega)] at ht
   subst ht
   refine ⟨g,hg,?_⟩
   have key:∀{z:Int×PS},qIm G ((m+1:Nat):Int) m z z:=fun {z}=>by
    cases m with
    |zero=>rfl
    |succ k=>unfold qIm;rw [if_pos (by omega)]
   exact key
  ·rw [if_neg (by omega)] at ht
   obtain ⟨g',h1,h2⟩:=ht
   exact ⟨g',h1,qOw hl0 hg m (by omega) h2⟩
theorem qP4 {G:Nat} {q:PS} (hq:q.2.1=false):∀(k:Nat),k≤4→∀g,G+k≤g→∃g5,G≤g5∧qIm G (5-(k:Int)) 4 (sP g5 (.row 5) q) (sP g (.row (5-(k:Int))) q)
 |0,_,g,hg=>⟨g,hg,by
  unfold qIm
  rw [if_pos (by decide)]
  simp⟩
 |k+1,hk,0,hg=>by omega
 |k+1,hk,g+1,hg=>by
  obtain ⟨g5,h1,h2⟩:=qP4 (G:=G) hq k (by omega) g (by omega)
  refine ⟨g5,h1,?_⟩
  have e:(5-((k+1:Nat):Int))=((4-k:Nat):Int):=by omega
  have e1:(5-(k:Int))=((4-k:Nat):Int)+1:=by omega
  rw [e1] at h2
  rw [e]
  have:=qOw (G:=G) (l:=4-k) (by omega) (g:=g) (by omega) 4 (by omega) h2
  have e2:sP (g+1) (.row ((4-k:Nat):Int)) q=sP g (.rl ((4-k:Nat):Int) (sP g (.row (((4-k:Nat):Int)+1)) q).1) (sP g (.row (((4-k:Nat):Int)+1)) q).2:=by
   simp only [sP]
   rw [if_neg (by rw [hq];simp),if_neg (by omega)]
  rw [e2]
  exact this
theorem qRo (H:RdOK) {r:List UInt8} (h:r.head?=some 35):∀(k:Nat) (n:Int),1≤n→n+k≤6→qP1 r.tail n k=qGw r n k
 |0,n,_,_=>rfl
 |k+1,n,h1,h2=>by
  obtain ⟨t,ht⟩:=H.n n ⟨h1,by omega⟩
  cases r with
  |nil=>cases h
  |cons c r=>
   simp only [List.head?_cons,Option.some.injEq] at h
   subst h
   simp only [qP1,qGw,ht,List.tail_cons]
   have ih:=qRo H (r:=35::r) rfl k (n+1) (by omega) (by omega)
   simp only [List.tail_cons] at ih
   rw [ih]
   simp [List.isPrefixOf]
theorem qP5 {r:List UInt8}:∀(k:Nat) (n:Int) {m:Int},qGw r n k=some m→n≤m∧m<n+k
 |0,n,m,h=>by cases h
 |k+1,n,m,h=>by
  simp only [qGw] at h
  split at h
  ·simp only [Option.some.injEq] at h;omega
  ·have:=qP5 k (n+1) h;omega
theorem qDJ (c:UInt8) (r:List UInt8):([c].isPrefixOf r=true)↔r.head?=some c:=by
 cases r with
 |nil=>simp [List.isPrefixOf]
 |cons d t=>simp [List.isPrefixOf];exact eq_comm
theorem qLS {c:UInt8} {q:PS} (hb:q.2.1=false):(sIs [c] q).1=true↔(tb q.1).head?=some c:=by
 unfold sIs
 rw [if_neg (by rw [hb];simp)]
 split
 ·rename_i h;exact ⟨fun _=>(qDJ c _).1 h,fun _=>rfl⟩
 ·rename_i h;exact ⟨fun e=>(by cases e),fun e=>absurd ((qDJ c _).2 e) h⟩
theorem qQe (r:List UInt8):(wd r).all wch=true:=by
 unfold wd
 induction r with
 |nil=>rfl
 |cons c r ih=>
  by_cases h:wch c=true
  ·simp only [List.takeWhile_cons,h,if_true,List.all_cons,Bool.true_and];exact ih
  ·simp [List.takeWhile_cons,h]
def qSS (N:Nat):Prop:=∀(p q:PS) (deep:Int) (f g:Nat),Lk p q→(tb p.1).length=N→0≤deep→deep+N≤400→20*N+4≤f→20*N+5≤g→Sim (pP f (.un deep) p) (sP g (.row 5) q)
end Go.Proofs.YthhngmnbcmkhpaaGreatDoor.KFnInputs

