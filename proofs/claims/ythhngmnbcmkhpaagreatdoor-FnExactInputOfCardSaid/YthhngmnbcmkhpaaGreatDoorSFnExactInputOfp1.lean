import Derived.Test.YthhngmnbcmkhpaaGreatDoorTFnExactInputOf
import Derived.Test.YthhngmnbcmkhpaaGreatDoorE32
import Derived.Lib.Strings
namespace Go.Proofs.YthhngmnbcmkhpaaGreatDoor.KFnExactInputOf
open Go.Eng
set_option linter.unusedVariables false
set_option linter.unusedSimpArgs false
def Ev {R:Type} (F:Nat→Option R) (r:R):Prop:=∃n0,∀n,n0≤n→F n=some r
theorem qAW (s:ByteArray):s.toList.length=s.size:=by rw [Go.Lib.toList_data];rfl
theorem qAI:(ByteArray.mk #[]).toList= []:=by decide+kernel
theorem qa {x:Int} (h: -9223372036854775808≤x∧x≤9223372036854775807):IntKind.i64.wrap x=x:=by
 unfold IntKind.wrap
 have e1:(2:Int)^(64-1)=9223372036854775808:=by decide
 have e2:(2:Int)^64=18446744073709551616:=by decide
 simp only [IntKind.signed,IntKind.bits,Bool.true_and,decide_eq_true_eq,e1,e2]
 split<;>omega
theorem qeQ {s:ByteArray} {i:Nat} (h:i<s.size):∃c,s.toList[i]?=some c:=⟨_,List.getElem?_eq_getElem (by rw [qAW];exact h)⟩
theorem qLc {α:Type} {s:List α} {i:Nat} {c:α} (h:s[i]?=some c):s.drop i=c::s.drop (i+1):=by
 obtain ⟨h1,rfl⟩:=List.getElem?_eq_some_iff.1 h
 exact List.drop_eq_getElem_cons h1
theorem qX {V R:Type} {B:V→Tr (V⊕R)} {m:Nat} {v v':V} (h:(B v).run=some (.inl v')):zL B (m+1) v=zL B m v':=by simp only [zL,h]
theorem qN {V R:Type} {B:V→Tr (V⊕R)} {m:Nat} {v:V} {r:R} (h:(B v).run=some (.inr r)):zL B (m+1) v=some r:=by simp only [zL,h]
theorem up1 {n n0:Nat} (h:n0+1≤n):∃m,n=m+1∧n0≤m:=⟨n-1,by omega,by omega⟩
theorem qB {α:Type} (x:α):(Tr.done x).run=some x:=rfl
theorem qC {α:Type}:(Tr.fail:Tr α).run=none:=rfl
theorem qF {α:Type} (b:Bool) (t f:Tr α):(Tr.ask b t f).run=if b=true then t.run else f.run:=by cases b<;>rfl
theorem qG {α β:Type} (o:Option β) (k:β→Tr α):(Tr.opt o k).run=o.bind fun x=>(k x).run:=by cases o<;>rfl
theorem qH {α β γ:Type} (x:β) (k:β→Tr α) (l:γ→Tr α):(Tr.alt (.inl x) k l).run=(k x).run:=rfl
theorem qI {α β γ:Type} (x:γ) (k:β→Tr α) (l:γ→Tr α):(Tr.alt (.inr x) k l).run=(l x).run:=rfl
theorem qDn {α R:Type} {F:α→Nat→Option R} {f:α→R}:∀(l:List α),(∀c∈l,Ev (F c) (f c))→∃n0,∀n,n0≤n→∀c∈l,F c n=some (f c)
 | [],_=>⟨0,fun n _ c hc=>by cases hc⟩
 |a::l,h=>by
  obtain ⟨n1,h1⟩:=h a (List.mem_cons_self ..)
  obtain ⟨n2,h2⟩:=qDn l fun c hc=>h c (List.mem_cons_of_mem _ hc)
  exact ⟨n1+n2,fun n hn c hc=>by
   rcases List.mem_cons.1 hc with rfl|hc
   ·exact h1 n (by omega)
   ·exact h2 n (by omega) c hc⟩
theorem qA {α β:Type} {o:Option β} {x:β} {k:β→Tr α} {y:Option α} (h:o=some x) (h2:(k x).run=y):(Tr.opt o k).run=y:=by rw [h];exact h2
theorem qD {α:Type} {b:Bool} {t f:Tr α} {y:Option α} (h:b=true) (h2:t.run=y):(Tr.ask b t f).run=y:=by rw [h];exact h2
theorem qM {α:Type} {b:Bool} {t f:Tr α} {y:Option α} (h:b=false) (h2:f.run=y):(Tr.ask b t f).run=y:=by rw [h];exact h2
theorem qE (b:Bool):zBT (⟨(.c (.p (.b b))),[],[]⟩:Res)=true:=rfl
theorem qJ (x:Int):zBT (⟨(.c (.p (.i .i64 x))),[],[]⟩:Res)=true:=rfl
theorem qK (x:ByteArray):zBT (⟨(.c (.p (.s x))),[],[]⟩:Res)=true:=rfl
theorem qDo (x lo hi:Int):Ev (qBK · x lo hi) (decide (lo≤x∧x≤hi)):=by
 refine ⟨1,fun n hn=>?_⟩
 obtain ⟨m,rfl,hm⟩:=up1 hn
 simp only [qBK,qP2,qB,qC,qF,qG,qH,qI,Option.bind_some,qE,qJ,qK]
 by_cases h:x≥lo<;>simp [h]
theorem qAU (x lo hi:Int):Ev (qAV · x lo hi) (decide (lo≤x∧x≤hi)):=by
 refine ⟨1,fun n hn=>?_⟩
 obtain ⟨m,rfl,hm⟩:=up1 hn
 simp only [qAV,qRW,qB,qC,qF,qG,qH,qI,Option.bind_some,qE,qJ,qK]
 by_cases h:x≥lo<;>simp [h]
def okc (c:UInt8):Bool:=decide (32≤c.toNat∧c.toNat≤126)
def qFO (s:ByteArray) (most:Int):Bool:=s.toList.all okc&&decide ((s.size:Int)≤most)
def okV (k n:Int) (s:ByteArray):Bool:=
 if k=2 then decide (n=0)&&qFO s 200 else (s.toList== [])&&(if k=0 then decide (n=0) else if k=1 then decide (-1000000000000000≤n∧n≤1000000000000000) else if k=3 then decide (0≤n∧n≤1) else if k=4 then decide (1≤n∧n≤5) else false)
theorem qZ5 (n:Nat) (s:ByteArray) (hb:s.size≤140737488351232):∀(m i M:Nat),s.size=i+m→m+1≤M→
  zL (qBJ n) M (s,(i:Int))=some (if (s.toList.drop i).all okc then .inr s else .inl false)
 |m,i,0,h1,h2=>by omega
 |0,i,M+1,h1,h2=>by
  rw [qN (r:= .inr s) (by simp [qBJ,qB,qC,qF,qG,qH,qI,Option.bind_some,qE,qJ,qK,show ¬((i:Int)<s.size) by omega])]
  rw [List.drop_eq_nil_of_le (by rw [qAW];omega)]
  rfl
 |m+1,i,M+1,h1,h2=>by
  obtain ⟨c,hc⟩:=qeQ (s:=s) (i:=i) (by omega)
  have hi:(i:Int)<s.size:=by omega
  rw [qLc hc]
  by_cases c1:(c.toNat:Int)<32
  ·rw [qN (r:= .inl false) (by simp [qBJ,qB,qC,qF,qG,qH,qI,Option.bind_some,qE,qJ,qK,hi,hc,c1])]
   have:okc c=false:=by simp [okc];omega
   simp [this]
  ·by_cases c2:(c.toNat:Int)>126
   ·rw [qN (r:= .inl false) (by simp [qBJ,qB,qC,qF,qG,qH,qI,Option.bind_some,qE,qJ,qK,hi,hc,c1,c2])]
    have:okc c=false:=by simp [okc];omega
    simp [this]
   ·have hw:IntKind.i64.wrap ((i:Int)+1)=((i+1:Nat):Int):=by rw [qa (by omega)];omega
    rw [qX (v':=(s,((i+1:Nat):Int))) (by simp [qBJ,qB,qC,qF,qG,qH,qI,Option.bind_some,qE,qJ,qK,hi,hc,c1,c2,hw])]
    rw [qZ5 n s hb m (i+1) M (by omega) (by omega)]
    have:okc c=true:=by simp [okc];omega
    simp [this]
theorem qND (s:ByteArray) (hb:s.size≤140737488351232):Ev (qC1 · s) (qFO s 200):=by
 refine ⟨s.size+2,fun n hn=>?_⟩
 obtain ⟨m,rfl,hm⟩:=up1 hn
 have h:=qZ5 m s hb s.size 0 m (by omega) (by omega)
 simp only [qC1,qOT,qB,qC,qF,qG,qH,qI,Option.bind_some,qE,qJ,qK]
 simp only [Int.natCast_zero,List.drop_zero] at h
 rw [h]
 cases hc:s.toList.all okc<;>simp [qB,qC,qF,qG,qH,qI,Option.bind_some,qE,qJ,qK,qFO,hc]
theorem qbJ (n:Nat) (s:ByteArray) (y:Int) (hb:s.size≤140737488351232):∀(m i M:Nat),s.size=i+m→m+1≤M→
  zL (qBe n) M (s,y,(s.size:Int),(i:Int))=some (if (s.toList.drop i).all okc then .inr (s,y) else .inl false)
 |m,i,0,h1,h2=>by omega
 |0,i,M+1,h1,h2=>by
  rw [qN (r:= .inr (s,y)) (by simp [qBe,qB,qC,qF,qG,qH,qI,Option.bind_some,qE,qJ,qK,show ¬((i:Int)<s.size) by omega])]
  rw [List.drop_eq_nil_of_le (by rw [qAW];omega)]
  rfl
 |m+1,i,M+1,h1,h2=>by
  obtain ⟨c,hc⟩:=qeQ (s:=s) (i:=i) (by omega)
  have hi:(i:Int)<s.size:=by omega
  rw [qLc hc]
  by_cases c1:(c.toNat:Int)<32
  ·rw [qN (r:= .inl false) (by simp [qBe,qB,qC,qF,qG,qH,qI,Option.bind_some,qE,qJ,qK,hi,hc,c1])]
   have:okc c=false:=by simp [okc];omega
   simp [this]
  ·by_cases c2:(c.toNat:Int)>126
   ·rw [qN (r:= .inl false) (by simp [qBe,qB,qC,qF,qG,qH,qI,Option.bind_some,qE,qJ,qK,hi,hc,c1,c2])]
    have:okc c=false:=by simp [okc];omega
    simp [this]
   ·have hw:IntKind.i64.wrap ((i:Int)+1)=((i+1:Nat):Int):=by rw [qa (by omega)];omega
    rw [qX (v':=(s,y,(s.size:Int),((i+1:Nat):Int))) (by simp [qBe,qB,qC,qF,qG,qH,qI,Option.bind_some,qE,qJ,qK,hi,hc,c1,c2,hw])]
    rw [qbJ n s y hb m (i+1) M (by omega) (by omega)]
    have:okc c=true:=by simp [okc];omega
    simp [this]
theorem qPh (s:ByteArray) (y:Int) (hb:s.size≤140737488351232):Ev (qDw · s y) (qFO s y):=by
 refine ⟨s.size+2,fun n hn=>?_⟩
 obtain ⟨m,rfl,hm⟩:=up1 hn
 have h:=qbJ m s y hb s.size 0 m (by omega) (by omega)
 simp only [qDw,qRP,qB,qC,qF,qG,qH,qI,Option.bind_some,qE,qJ,qK]
 simp only [Int.natCast_zero,List.drop_zero] at h
 rw [h]
 cases hc:s.toList.all okc<;>simp [qB,qC,qF,qG,qH,qI,Option.bind_some,qE,qJ,qK,qFO,hc]
theorem qAE (k x:Int) (s:ByteArray) (hb:s.size≤140737488351232):Ev (qT · k x s) (okV k x s):=by
 obtain ⟨n1,h1⟩:=qDo x (-1000000000000000) 1000000000000000
 obtain ⟨n2,h2⟩:=qDo x 0 1
 obtain ⟨n3,h3⟩:=qDo x 1 5
 obtain ⟨n4,h4⟩:=qND s hb
 refine ⟨n1+n2+n3+n4+1,fun n hn=>?_⟩
 obtain ⟨m,rfl,hm⟩:=up1 hn
 have h1:=h1 m (by omega)
 dsimp only at h1
 have h2:=h2 m (by omega)
 dsimp only at h2
 have h3:=h3 m (by omega)
 dsimp only at h3
 have h4:=h4 m (by omega)
 dsimp only at h4
 simp only [qT,qOX,qB,qC,qF,qG,qH,qI,Option.bind_some,qE,qJ,qK,h1,h2,h3,h4]
 simp only [okV,qAI]
 by_cases k2:k=2
 ·subst k2
  by_cases x0:x=0<;>simp [x0]
 ·by_cases k0:k=0
  ·subst k0
   by_cases x0:x=0<;>simp [x0]
  ·by_cases k1:k=1
   ·subst k1
    by_cases hx: -1000000000000000≤x∧x≤1000000000000000<;>simp [hx]
   ·by_cases k3:k=3
    ·subst k3
     by_cases hx:0≤x∧x≤1<;>simp [hx]
    ·by_cases k4:k=4
     ·subst k4
      by_cases hx:1≤x∧x≤5<;>simp [hx]
     ·simp [k0,k1,k2,k3,k4]
theorem qNE (k x:Int) (s:ByteArray) (hb:s.size≤140737488351232):Ev (qAK · k x s) (okV k x s):=by
 obtain ⟨n1,h1⟩:=qAU x (-1000000000000000) 1000000000000000
 obtain ⟨n2,h2⟩:=qAU x 0 1
 obtain ⟨n3,h3⟩:=qAU x 1 5
 obtain ⟨n4,h4⟩:=qPh s 200 hb
 refine ⟨n1+n2+n3+n4+1,fun n hn=>?_⟩
 obtain ⟨m,rfl,hm⟩:=up1 hn
 have h1:=h1 m (by omega)
 dsimp only at h1
 have h2:=h2 m (by omega)
 dsimp only at h2
 have h3:=h3 m (by omega)
 dsimp only at h3
 have h4:=h4 m (by omega)
 dsimp only at h4
 simp only [qAK,qPG,qB,qC,qF,qG,qH,qI,Option.bind_some,qE,qJ,qK,h1,h2,h3,h4]
 simp only [okV,qAI]
 by_cases k2:k=2
 ·subst k2
  by_cases x0:x=0<;>simp [x0]
 ·by_cases he:s.toList= []
  ·by_cases k0:k=0
   ·subst k0
    by_cases x0:x=0<;>simp [x0,he]
   ·by_cases k1:k=1
    ·subst k1;simp [he]
    ·by_cases k3:k=3
     ·subst k3;simp [he]
     ·by_cases k4:k=4
      ·subst k4;simp [he]
      ·simp [k0,k1,k2,k3,k4,he]
  ·simp [k2,he]
abbrev V3:=Int×Int×ByteArray
def em:ByteArray:=⟨#[]⟩
theorem qcW (x:Int):Ev (qC2 · x) (4,x,em):=by
 refine ⟨1,fun n hn=>?_⟩
 obtain ⟨m,rfl,hm⟩:=up1 hn
 simp only [qC2,qOa,qB,qC,qF,qG,qH,qI,Option.bind_some,qE,qJ,qK]
 rfl
theorem qYG (x:Int):Ev (qBk · x) (4,x,em):=by
 refine ⟨1,fun n hn=>?_⟩
 obtain ⟨m,rfl,hm⟩:=up1 hn
 simp only [qBk,qSw,qB,qC,qF,qG,qH,qI,Option.bind_some,qE,qJ,qK]
 rfl
theorem qWO (x:Int):Ev (qCr · x) (1,x,em):=by
 refine ⟨1,fun n hn=>?_⟩
 obtain ⟨m,rfl,hm⟩:=up1 hn
 simp only [qCr,qRY,qB,qC,qF,qG,qH,qI,Option.bind_some,qE,qJ,qK]
 rfl
def qCU (c r:Int):Bool:=decide (1≤c∧c≤52)&&decide (1≤r∧r≤99)
def qPi (a b c d:Int):Bool:=qCU a b&&qCU c d&&decide (a≤c)&&decide (b≤d)
theorem qFZ (c r:Int):Ev (qAR · c r) (qCU c r):=by
 obtain ⟨n1,h1⟩:=qDo c 1 52
 obtain ⟨n2,h2⟩:=qDo r 1 99
 refine ⟨n1+n2+1,fun n hn=>?_⟩
 obtain ⟨m,rfl,hm⟩:=up1 hn
 have h1:=h1 m (by omega)
 dsimp only at h1
 have h2:=h2 m (by omega)
 dsimp only at h2
 simp only [qAR,qSp,qB,qC,qF,qG,qH,qI,Option.bind_some,qE,qJ,qK,h1,h2]
 unfold qCU
 cases decide (1≤c∧c≤52)<;>simp
theorem qHm (c r:Int):Ev (qCj · c r) (qCU c r):=by
 obtain ⟨n1,h1⟩:=qAU c 1 52
 obtain ⟨n2,h2⟩:=qAU r 1 99
 refine ⟨n1+n2+1,fun n hn=>?_⟩
 obtain ⟨m,rfl,hm⟩:=up1 hn
 have h1:=h1 m (by omega)
 dsimp only at h1
 have h2:=h2 m (by omega)
 dsimp only at h2
 simp only [qCj,qS4,qB,qC,qF,qG,qH,qI,Option.bind_some,qE,qJ,qK,h1,h2]
 unfold qCU
 cases decide (1≤c∧c≤52)<;>simp
theorem qda (a b c d:Int):Ev (qHe · a b c d) (qPi a b c d):=by
 obtain ⟨n1,h1⟩:=qFZ a b
 obtain ⟨n2,h2⟩:=qFZ c d
 refine ⟨n1+n2+1,fun n hn=>?_⟩
 obtain ⟨m,rfl,hm⟩:=up1 hn
 have h1:=h1 m (by omega)
 dsimp only at h1
 have h2:=h2 m (by omega)
 dsimp only at h2
 simp only [qHe,qQ8,qB,qC,qF,qG,qH,qI,Option.bind_some,qE,qJ,qK,h1,h2]
 unfold qPi
 cases qCU a b<;>cases qCU c d<;>by_cases h:a≤c<;>simp [h]
theorem qWP (a b c d:Int):Ev (qFY · a b c d) (qPi a b c d):=by
 obtain ⟨n1,h1⟩:=qHm a b
 obtain ⟨n2,h2⟩:=qHm c d
 refine ⟨n1+n2+1,fun n hn=>?_⟩
 obtain ⟨m,rfl,hm⟩:=up1 hn
 have h1:=h1 m (by omega)
 dsimp only at h1
 have h2:=h2 m (by omega)
 dsimp only at h2
 simp only [qFY,qRm,qB,qC,qF,qG,qH,qI,Option.bind_some,qE,qJ,qK,h1,h2]
 unfold qPi
 cases qCU a b<;>cases qCU c d<;>by_cases h:a≤c<;>simp [h]
theorem qYH (b:Bool):Ev (qGv · b) (3,if b=true then 1 else 0,em):=by
 refine ⟨1,fun n hn=>?_⟩
 obtain ⟨m,rfl,hm⟩:=up1 hn
 simp only [qGv,qSz,qB,qC,qF,qG,qH,qI,Option.bind_some,qE,qJ,qK]
 cases b<;>rfl
def qPv (x:Int):ByteArray:=⟨(Lib.itoa x).toArray⟩
theorem qGN (a b:ByteArray):(a++b).data.toList=a.data.toList++b.data.toList:=by
 rw [ByteArray.data_append,Array.toList_append]
theorem qQz {a b:ByteArray} (h:a.data.toList=b.data.toList):a=b:=by
 cases a;cases b
 congr 1
 exact Array.toList_inj.1 h
theorem qKa {a b:ByteArray} (h:a.toList=b.toList):a=b:=qQz (by rw [←Go.Lib.toList_data,←Go.Lib.toList_data];exact h)
theorem qEC (a:ByteArray):a.size=a.data.toList.length:=by rw [Array.length_toList];rfl
theorem u8w {q:Nat} (h:q<10):IntKind.u8.wrap (IntKind.i64.wrap (48+(q:Int)))=((48+q:Nat):Int):=by
 rw [qa (by omega)]
 unfold IntKind.wrap
 have e2:(2:Int)^8=256:=by decide
 simp only [IntKind.signed,IntKind.bits,Bool.false_and,Bool.false_eq_true,if_false,e2]
 omega
theorem qhX:∀(k v:Nat),1≤v→v<10^k→Lib.nDigits v≤k:=by
 intro k
 induction k with
 |zero=>intro v hv hv';simp at hv';omega
 |succ k ih=>
  intro v hv hv'
  by_cases h10:v<10
  ·rw [Lib.nDigits_small h10];omega
  ·rw [Lib.nDigits_big h10]
   have:=ih (v/10) (by omega) (by rw [Nat.pow_succ] at hv';omega)
   omega
theorem qWd (u:Nat) (h:u≤1000000000000000000):(Lib.decDigits u).length≤19:=by
 have p:(10:Nat)^19=10000000000000000000:=by decide
 rw [Lib.decDigits_length]
 rcases Nat.lt_or_ge u 1 with h6|h6
 ·have:u=0:=by omega
  subst this
  rw [Lib.nDigits_small (by decide)]
  decide
 ·exact qhX 19 u h6 (by omega)
def qd (x:Int):ByteArray:=if x=1 then ⟨#[35,68,73,86,33]⟩ else if x=2 then ⟨#[35,84,89,80,69,33]⟩ else if x=3 then ⟨#[35,82,69,70,33]⟩ else if x=4 then ⟨#[35,79,86,69,82,33]⟩ else if x=5 then ⟨#[35,67,89,67,76,69,33]⟩ else ⟨#[]⟩
theorem lt6 {x:Int} (h:0≤x∧x≤5):x=0∨x=1∨x=2∨x=3∨x=4∨x=5:=by omega
def qfJ (x:Int):ByteArray:=if x=1 then ⟨#[84,82,85,69]⟩ else ⟨#[70,65,76,83,69]⟩
theorem qgg {x:Int} {s:ByteArray} (h:okV 1 x s=true): -1000000000000000≤x∧x≤1000000000000000:=by
 simp [okV] at h;exact h.2
theorem qeR {x:Int} {s:ByteArray} (h:okV 2 x s=true):x=0∧(s.size:Int)≤200∧s.toList.all okc=true:=by
 simp only [okV,qFO,if_true,Bool.and_eq_true,decide_eq_true_eq] at h
 exact ⟨h.1,h.2.2,h.2.1⟩
theorem qiL {x:Int} {s:ByteArray} (h:okV 3 x s=true):0≤x∧x≤1:=by
 simp [okV] at h;exact h.2
theorem qhY {x:Int} {s:ByteArray} (h:okV 4 x s=true):1≤x∧x≤5:=by
 simp [okV] at h;exact h.2
def qCb (k x:Int) (s:ByteArray):ByteArray:=if k=1 then qPv x else if k=2 then ⟨#[39]⟩++s else if k=3 then qfJ x else if k=4 then qd x else ⟨#[]⟩
theorem qgN {x:Int} (h: -1000000000000000000≤x∧x≤1000000000000000000):(qPv x).size≤20:=by
 rw [qEC]
 show (Lib.itoa x).length≤20
 unfold Lib.itoa
 split
 ·have:=qWd x.natAbs (by omega);simp;omega
 ·have:=qWd x.toNat (by omega);omega
theorem qfo {k x:Int} {s:ByteArray} (h:okV k x s=true):(qCb k x s).size≤300:=by
 unfold qCb
 split
 ·rename_i k1;subst k1;have:=qgg h;have:=qgN (x:=x) (by omega);omega
 ·split
  ·rename_i k2;subst k2
   have:=qeR h
   rw [ByteArray.size_append]
   show 1+s.size≤300
   omega
  ·split
   ·unfold qfJ;split<;>decide
   ·split
    ·unfold qd
     repeat' split
     all_goals decide
    ·decide
def qFV (x:Int):ByteArray:=if x<1∨x>52 then ⟨#[]⟩ else if x≤26 then ⟨#[UInt8.ofNat (64+x.toNat)]⟩ else ⟨#[65,UInt8.ofNat (65+(x.toNat-1)%26)]⟩
theorem qa1 (x:Int):(qFV x).size≤2:=by
 unfold qFV
 split
 ·decide
 ·split
  ·exact (show (1:Nat)≤2 by decide)
  ·exact (show (2:Nat)≤2 by decide)
theorem qez {q:Int} (h:0≤q∧q<256):IntKind.u8.wrap q=q:=by
 unfold IntKind.wrap
 have e2:(2:Int)^8=256:=by decide
 simp only [IntKind.signed,IntKind.bits,Bool.false_and,Bool.false_eq_true,if_false,e2]
 omega
def qCn (c r:Int) (fc fr:Bool):ByteArray:=if qCU c r=true then ⟨((if fc=true then [36] else [])++(qFV c).data.toList++(if fr=true then [36] else [])++(qPv r).data.toList).toArray⟩ else ⟨#[]⟩
theorem qYs {x:Int} (h:1≤x∧x≤99):(qPv x).size≤20:=by
 rw [qEC]
 show (Lib.itoa x).length≤20
 unfold Lib.itoa
 rw [if_neg (by omega)]
 have:=qWd x.toNat (by omega)
 omega
theorem qSf {c r:Int} (h:qCU c r=true):(1≤c∧c≤52)∧(1≤r∧r≤99):=by
 simpa [qCU] using h
def qBH (c:UInt8):Bool:=decide (48≤c.toNat)&&decide (c.toNat≤57)
def qAi (acc:Nat) (l:List UInt8):Nat:=l.foldl (fun a c=>a*10+(c.toNat-48)) acc
theorem qPj (acc:Nat):qAi acc []=acc:=rfl
theorem qG5 (acc:Nat) (c:UInt8) (r:List UInt8):qAi acc (c::r)=qAi (acc*10+(c.toNat-48)) r:=by simp only [qAi,List.foldl_cons]
theorem qfK (l:List UInt8) (acc:Nat) (c:UInt8):qAi acc (l++ [c])=qAi acc l*10+(c.toNat-48):=by
 simp only [qAi,List.foldl_append,List.foldl_cons,List.foldl_nil]
theorem qf4:∀(l:List UInt8) (acc:Nat),acc≤qAi acc l
 | [],acc=>by rw [qPj];exact Nat.le_refl _
 |c::r,acc=>by
  have h:=qf4 r (acc*10+(c.toNat-48))
  have h2:acc≤acc*10+(c.toNat-48):=by omega
  rw [qG5]
  exact Nat.le_trans h2 h
theorem qe0 {d:Nat} (h:d<10):(UInt8.ofNat (48+d)).toNat=48+d:=by
 rw [UInt8.toNat_ofNat'];omega
theorem qfL {d:Nat} (h:d<10):qBH (UInt8.ofNat (48+d))=true:=by
 unfold qBH
 rw [qe0 h]
 simp
 omega
theorem qSg:∀u:Nat,(Lib.decDigits u).all qBH=true∧qAi 0 (Lib.decDigits u)=u∧Lib.decDigits u≠ []∧(10≤u→(Lib.decDigits u).head?≠some 48)∧(1≤u→(Lib.decDigits u).head?≠some 48):=by
 intro u
 induction u using Nat.strongRecOn with
 |_ u ih=>
  by_cases h:u<10
  ·rw [Lib.decDigits,dif_pos h]
   have h1:∀k,1≤k→k<10→UInt8.ofNat (48+k)≠48:=fun k hk hk' e=>by
    have:=congrArg UInt8.toNat e
    rw [qe0 hk'] at this
    have h2:(48:UInt8).toNat=48:=rfl
    omega
   refine ⟨by simp only [List.all_cons,List.all_nil,qfL h,Bool.and_true],by rw [qG5,qPj,qe0 h];omega,by simp,fun _=>by omega,fun hu=>?_⟩
   simp only [List.head?_cons,ne_eq,Option.some.injEq]
   exact h1 u hu h
  ·obtain ⟨i1,i2,i3,i4,i5⟩:=ih (u/10) (by omega)
   rw [Lib.decDigits,dif_neg h]
   have hd:u%10<10:=by omega
   have hh:(Lib.decDigits (u/10)++ [UInt8.ofNat (48+u%10)]).head?=(Lib.decDigits (u/10)).head?:=by
    cases hq:Lib.decDigits (u/10) with
    |nil=>exact absurd hq i3
    |cons a b=>rfl
   refine ⟨by simp only [List.all_append,i1,List.all_cons,List.all_nil,qfL hd,Bool.and_true],by rw [qfK,i2,qe0 hd];omega,by simp,fun _=>?_,fun _=>?_⟩
   ·rw [hh];exact i5 (by omega)
   ·rw [hh];exact i5 (by omega)
def qNy (l:List UInt8):Bool:=!(l== [])&&l.all qBH&&(!(l.head?==some 48)||l.length==1)
theorem qeS (u:Nat):qNy (Lib.decDigits u)=true:=by
 obtain ⟨h1,h2,h3,h4,h5⟩:=qSg u
 simp only [qNy,h1,Bool.and_true,Bool.and_eq_true,Bool.not_eq_true',beq_eq_false_iff_ne,Bool.or_eq_true]
 refine ⟨h3,?_⟩
 by_cases hu:u<10
 ·right;rw [Lib.decDigits,dif_pos hu];rfl
 ·left;exact h4 (by omega)
theorem qa2:∀(n:Nat) (l:List UInt8),l.length=n→qNy l=true→Lib.decDigits (qAi 0 l)=l
 |0,l,hn,h=>by
  have:=List.eq_nil_of_length_eq_zero hn
  subst this
  simp [qNy] at h
 |n+1,l,hn,h=>by
  simp only [qNy,Bool.and_eq_true,Bool.not_eq_true',beq_eq_false_iff_ne,Bool.or_eq_true,beq_iff_eq] at h
  obtain ⟨⟨h1,h2⟩,h3⟩:=h
  obtain ⟨ini,c,rfl⟩:∃ini c,l=ini++ [c]:=⟨l.dropLast,l.getLast h1,(List.dropLast_concat_getLast h1).symm⟩
  simp only [List.all_append,Bool.and_eq_true,List.all_cons,List.all_nil,Bool.and_true] at h2
  obtain ⟨h2,hc⟩:=h2
  simp only [qBH,Bool.and_eq_true,decide_eq_true_eq] at hc
  have ec:UInt8.ofNat (48+(c.toNat-48))=c:=by
   have:48+(c.toNat-48)=c.toNat:=by omega
   rw [this];simp
  rw [qfK]
  cases ini with
  |nil=>
   rw [qPj,Nat.zero_mul,Nat.zero_add,List.nil_append,Lib.decDigits,dif_pos (by omega),ec]
  |cons a b=>
   have hl:(a::b).length=n:=by simp at hn⊢;omega
   have h48:¬a=48:=by
    rcases h3 with h3|h3
    ·simpa using h3
    ·simp at h3
   have hcn:qNy (a::b)=true:=by
    simp only [qNy,h2,Bool.and_true,Bool.and_eq_true,Bool.not_eq_true',beq_eq_false_iff_ne,Bool.or_eq_true]
    exact ⟨by simp,.inl (by simpa using h48)⟩
   have ih:=qa2 n (a::b) hl hcn
   have hp:1≤qAi 0 (a::b):=by
    rcases Nat.eq_zero_or_pos (qAi 0 (a::b)) with h0|h0
    ·rw [h0,Lib.decDigits,dif_pos (by decide)] at ih
     have:a=48:=by
      have:=congrArg List.head? ih
      simpa using this.symm
     exact absurd this h48
    ·exact h0
   rw [Lib.decDigits,dif_neg (by omega)]
   have e1:(qAi 0 (a::b)*10+(c.toNat-48))/10=qAi 0 (a::b):=by omega
   have e2:(qAi 0 (a::b)*10+(c.toNat-48))%10=c.toNat-48:=by omega
   rw [e1,e2,ih,ec]
def l1I (l:List UInt8) (most:Int):Int×Bool:=if (l.length:Int)≤most∧qNy l=true then ((qAi 0 l:Int),true) else (0,false)
theorem qe1:∀(l:List UInt8) (acc k:Nat),l.all qBH=true→acc<10^k→qAi acc l<10^(k+l.length)
 | [],acc,k,_,h=>by rw [qPj];simpa using h
 |c::r,acc,k,hd,h=>by
  simp only [List.all_cons,Bool.and_eq_true] at hd
  have hc:=hd.1
  simp only [qBH,Bool.and_eq_true,decide_eq_true_eq] at hc
  have:=qe1 r (acc*10+(c.toNat-48)) (k+1) hd.2 (by rw [Nat.pow_succ];omega)
  rw [qG5,List.length_cons,show k+(r.length+1)=k+1+r.length by omega]
  exact this
theorem qa3:∀(l:List UInt8) (acc:Nat),l.all qBH=true→qAi acc l≤1000000000000000000→Lib.parseUintM (2^64-1) acc l= .ok (qAi acc l)
 | [],acc,_,_=>by simp only [Lib.parseUintM,qPj]
 |c::r,acc,hd,h=>by
  simp only [List.all_cons,Bool.and_eq_true] at hd
  have hc:=hd.1
  simp only [qBH,Bool.and_eq_true,decide_eq_true_eq] at hc
  rw [qG5] at h⊢
  have g1:=qf4 r (acc*10+(c.toNat-48))
  have p:(2:Nat)^64-1=18446744073709551615:=by decide
  simp only [Lib.parseUintM]
  rw [if_pos hc,if_neg (by omega),if_neg (by rw [p];omega)]
  exact qa3 r _ hd.2 h
theorem qeT {u:Nat} (h:u≤1000000000000000000):Lib.parseUintB 64 (Lib.decDigits u)= .ok u:=by
 obtain ⟨h1,h2,h3,_,_⟩:=qSg u
 unfold Lib.parseUintB
 rw [if_neg h3,qa3 _ 0 h1 (by rw [h2];exact h),h2]
theorem qfM (u:Nat):∃c r,Lib.decDigits u=c::r∧qBH c=true:=by
 obtain ⟨h1,_,h3,_,_⟩:=qSg u
 cases hq:Lib.decDigits u with
 |nil=>exact absurd hq h3
 |cons c r=>
  rw [hq] at h1
  simp only [List.all_cons,Bool.and_eq_true] at h1
  exact ⟨c,r,rfl,h1.1⟩
theorem qfp {x:Int} (h: -1000000000000000≤x∧x≤1000000000000000):Lib.parseIntB 64 (Lib.itoa x)= .ok x:=by
 have p:(2:Nat)^(64-1)=9223372036854775808:=by decide
 by_cases hx:x<0
 ·have e:Lib.itoa x=45::Lib.decDigits x.natAbs:=by unfold Lib.itoa;rw [if_pos hx]
  have c45:(45:UInt8).toNat=45:=rfl
  rw [e]
  simp only [Lib.parseIntB,c45,or_true,if_true,qeT (u:=x.natAbs) (by omega),p]
  rw [if_neg (by simp),if_neg (by omega)]
  congr 1
  omega
 ·have e:Lib.itoa x=Lib.decDigits x.toNat:=by unfold Lib.itoa;rw [if_neg hx]
  obtain ⟨c,r,hcr,hd⟩:=qfM x.toNat
  simp only [qBH,Bool.and_eq_true,decide_eq_true_eq] at hd
  rw [e,hcr]
  simp only [Lib.parseIntB]
  rw [if_neg (by omega),←hcr,qeT (u:=x.toNat) (by omega)]
  simp only [p]
  rw [if_neg (by omega),if_neg (by omega),if_neg (by omega)]
  congr 1
  omega
def qe2 (l:List UInt8):Option Int:=if l.head?=some 45 then (if (l1I (l.drop 1) 16).2=true∧(l1I (l.drop 1) 16).1≠0 then some (-(l1I (l.drop 1) 16).1) else none) else (if (l1I l 16).2=true then some (l1I l 16).1 else none)
theorem qdb {l:List UInt8} (h:(l1I l 16).2=true):l.length≤16∧qNy l=true∧(l1I l 16).1=(qAi 0 l:Int)∧Lib.decDigits (qAi 0 l)=l:=by
 unfold l1I at h⊢
 split at h
 ·rename_i hc
  rw [if_pos hc]
  exact ⟨by omega,hc.2,rfl,qa2 _ l rfl hc.2⟩
 ·cases h
theorem qf5 {u:Nat} (h:u≤1000000000000000):l1I (Lib.decDigits u) 16=((u:Int),true):=by
 obtain ⟨h1,h2,h3,_,_⟩:=qSg u
 have hl:(Lib.decDigits u).length≤16:=by
  rw [Lib.decDigits_length]
  have:Lib.nDigits 1000000000000000=16:=Lib.nDigits_unique 15 _ (by decide) (by decide)
  rcases Nat.lt_or_ge 16 (Lib.nDigits u) with h4|h4
  ·have h5:u<10^16:=by
    have:(10:Nat)^16=10000000000000000:=by decide
    omega
   exfalso
   rcases Nat.lt_or_ge u 1 with h6|h6
   ·have:u=0:=by omega
    subst this
    rw [Lib.nDigits_small (by decide)] at h4
    omega
   ·have key:∀(k v:Nat),1≤v→v<10^k→Lib.nDigits v≤k:=by
     intro k
     induction k with
     |zero=>intro v hv hv';simp at hv';omega
     |succ k ih=>
      intro v hv hv'
      by_cases h10:v<10
      ·rw [Lib.nDigits_small h10];omega
      ·rw [Lib.nDigits_big h10]
       have:=ih (v/10) (by omega) (by rw [Nat.pow_succ] at hv';omega)
       omega
    have:=key 16 u h6 h5
    omega
  ·exact h4
 unfold l1I
 rw [if_pos ⟨by omega,qeS u⟩,h2]
theorem qgO {l:List UInt8} {x:Int} (h:qe2 l=some x):l=Lib.itoa x:=by
 unfold qe2 at h
 split at h
 ·rename_i h45
  split at h
  ·rename_i hc
   cases h
   obtain ⟨a1,a2,a3,a4⟩:=qdb hc.1
   have hne:=hc.2
   rw [a3] at hne⊢
   unfold Lib.itoa
   rw [if_pos (by omega)]
   have:(-(qAi 0 (l.drop 1):Int)).natAbs=qAi 0 (l.drop 1):=by omega
   rw [this,a4]
   cases l with
   |nil=>cases h45
   |cons c r=>simp at h45;simp [h45]
  ·cases h
 ·split at h
  ·rename_i hc
   cases h
   obtain ⟨a1,a2,a3,a4⟩:=qdb hc
   rw [a3]
   unfold Lib.itoa
   rw [if_neg (by omega),Int.toNat_natCast,a4]
  ·cases h
theorem qgP {x:Int} (h: -1000000000000000≤x∧x≤1000000000000000):qe2 (Lib.itoa x)=some x:=by
 unfold qe2
 by_cases hx:x<0
 ·have e:Lib.itoa x=45::Lib.decDigits x.natAbs:=by unfold Lib.itoa;rw [if_pos hx]
  have e2:=qf5 (u:=x.natAbs) (by omega)
  rw [e,List.head?_cons,if_pos rfl,List.drop_succ_cons,List.drop_zero,e2,if_pos ⟨rfl,by show ((x.natAbs:Nat):Int)≠0;omega⟩]
  congr 1
  show-((x.natAbs:Nat):Int)=x
  omega
 ·have e:Lib.itoa x=Lib.decDigits x.toNat:=by unfold Lib.itoa;rw [if_neg hx]
  have e2:=qf5 (u:=x.toNat) (by omega)
  obtain ⟨c,r,hcr,hd⟩:=qfM x.toNat
  have h45:¬(Lib.decDigits x.toNat).head?=some 45:=by
   rw [hcr]
   simp only [List.head?_cons,Option.some.injEq]
   intro hc
   subst hc
   simp [qBH] at hd
  rw [e,if_neg h45,e2,if_pos rfl]
  congr 1
  show ((x.toNat:Nat):Int)=x
  omega
def qB2 (s:ByteArray):Int:=match zb s 10 64 with
 |some (.inl v)=>v
 |some (.inr v)=>v
 |none=>0
theorem qbK {s:ByteArray} {x:Int} (hs:s.toList=Lib.itoa x) (h: -1000000000000000≤x∧x≤1000000000000000):qB2 s=x:=by
 have hd:s.data.toList=Lib.itoa x:=by rw [←Go.Lib.toList_data];exact hs
 have hsz:s.size≤281474976710656:=by
  rw [←qAW,hs]
  unfold Lib.itoa
  split
  ·have:=qWd x.natAbs (by omega);simp;omega
  ·have:=qWd x.toNat (by omega);omega
 unfold qB2 zb
 rw [if_pos ⟨rfl,rfl,hsz⟩,hd,qfp h]
def qIm (s:ByteArray):Int:=if (qd 5).toList=s.toList then 5 else if (qd 4).toList=s.toList then 4 else if (qd 3).toList=s.toList then 3 else if (qd 2).toList=s.toList then 2 else if (qd 1).toList=s.toList then 1 else 0
theorem qhB (s:ByteArray):0≤qIm s∧qIm s≤5:=by
 unfold qIm
 repeat' split
 all_goals decide
theorem qhC {s:ByteArray} (h:¬qIm s=0):qd (qIm s)=s:=by
 unfold qIm at h⊢
 by_cases h5:(qd 5).toList=s.toList
 ·rw [if_pos h5];exact qKa h5
 rw [if_neg h5] at h⊢
 by_cases h4:(qd 4).toList=s.toList
 ·rw [if_pos h4];exact qKa h4
 rw [if_neg h4] at h⊢
 by_cases h3:(qd 3).toList=s.toList
 ·rw [if_pos h3];exact qKa h3
 rw [if_neg h3] at h⊢
 by_cases h2:(qd 2).toList=s.toList
 ·rw [if_pos h2];exact qKa h2
 rw [if_neg h2] at h⊢
 by_cases h1:(qd 1).toList=s.toList
 ·rw [if_pos h1];exact qKa h1
 rw [if_neg h1] at h
 exact absurd rfl h
def qBT (s:ByteArray):V3:=
 if s.toList.head?=some 39 then (2,0,⟨s.toList.tail.toArray⟩) else
 if s.toList= [70,65,76,83,69] then (3,0,em) else if s.toList= [84,82,85,69] then (3,1,em) else
 if s.toList.head?=some 35 then (if qIm s=0 then (0,0,em) else (4,qIm s,em)) else
 if s.toList= [] then (0,0,em) else (1,qB2 s,em)
def qh (s:ByteArray):Int×Int×ByteArray×Bool:=if okV (qBT s).1 (qBT s).2.1 (qBT s).2.2=true∧(qCb (qBT s).1 (qBT s).2.1 (qBT s).2.2).toList=s.toList then ((qBT s).1,(qBT s).2.1,(qBT s).2.2,true) else (0,0,⟨#[]⟩,false)
theorem qhD (c:UInt8) (k:Nat) (hk:k<256):((c.toNat:Int)==(k:Int))=(some c==some (UInt8.ofNat k)):=by
 by_cases e:c=UInt8.ofNat k
 ·subst e
  have:(UInt8.ofNat k).toNat=k:=by rw [UInt8.toNat_ofNat'];omega
  simp [this]
 ·have h1:¬(c.toNat:Int)=(k:Int):=fun h=>e (by
   have:c.toNat=k:=by omega
   rw [←this];simp)
  have h2:¬some c=some (UInt8.ofNat k):=fun h=>e (by simpa using h)
  rw [beq_eq_false_iff_ne.2 h1,beq_eq_false_iff_ne.2 h2]
theorem qCV (l:List UInt8):(⟨l.toArray⟩:ByteArray).toList=l:=by rw [Go.Lib.toList_data]
theorem qdc (n:Nat):∀(f u:Nat) (s:ByteArray),u<10^(f+1)→u≤9223372036854775807→s.size+f≤1000→∃(q:Nat) (t:ByteArray),q<10∧t.size≤s.size+f∧UInt8.ofNat (48+q)::t.data.toList=Lib.decDigits u++s.data.toList∧∀M,f+1≤M→zL (qDV n) M ((u:Int),s)=some ((q:Int),t)
 |f,u,s,h1,h2,h3=>by
  by_cases h:u<10
  ·refine ⟨u,s,h,by omega,by rw [Lib.decDigits,dif_pos h];rfl,fun M hM=>?_⟩
   obtain ⟨M,rfl⟩:∃k,M=k+1:=⟨M-1,by omega⟩
   have hc:¬(u:Int)≥10:=by omega
   rw [qN (r:=((u:Int),s)) (by simp [qDV,qB,qC,qF,qG,qH,qI,Option.bind_some,qE,qJ,qK,hc])]
  ·cases f with
   |zero=>simp at h1;omega
   |succ f=>
    have e1:Int.tmod (u:Int) 10=((u%10:Nat):Int):=by rw [Int.tmod_eq_emod_of_nonneg (by omega)];omega
    have e2:IntKind.i64.wrap (Int.tdiv (u:Int) 10)=((u/10:Nat):Int):=by
     rw [Int.tdiv_eq_ediv_of_nonneg (by omega),qa (by omega)];omega
    have e3:=u8w (q:=u%10) (by omega)
    have h4:u/10<10^(f+1):=by
     have:10^(f+1+1)=10^(f+1)*10:=Nat.pow_succ 10 (f+1)
     omega
    let d:ByteArray:=⟨#[UInt8.ofNat (48+u%10)]⟩
    have hd:d.size=1:=rfl
    have hs:(d++s).size=s.size+1:=by rw [ByteArray.size_append];omega
    obtain ⟨q,t,g1,g2,g3,g4⟩:=qdc n f (u/10) (d++s) h4 (by omega) (by omega)
    refine ⟨q,t,g1,by omega,?_,fun M hM=>?_⟩
    ·rw [g3,qGN,Lib.decDigits.eq_1 u,dif_neg h]
     simp [d]
    ·obtain ⟨M,rfl⟩:∃k,M=k+1:=⟨M-1,by omega⟩
     have hc:(u:Int)≥10:=by omega
     have hz:d.size+s.size≤9223372036854775807:=by omega
     rw [qX (v':=(((u/10:Nat):Int),d++s)) (by
      simp only [qDV,qB,qC,qF,qG,qH,qI,Option.bind_some,qE,qJ,qK,e1,e2,e3,bytesOf,Option.map_some,Int.toNat_natCast]
      rw [if_pos (by simpa using hc),if_pos (by simp),if_pos (decide_eq_true hz)])]
     exact g4 M (by omega)
theorem qZ6 (u:Nat) (h:u≤1000000000000000000):∀n,25≤n→qAH n (u:Int)=some (qPv u):=by
 intro n hn
 obtain ⟨m,rfl,hm⟩:=up1 hn
 have p:(10:Nat)^(18+1)=10000000000000000000:=by decide
 obtain ⟨q,t,g1,g2,g3,g4⟩:=qdc m 18 u ⟨#[]⟩ (by omega) (by omega) (by show 0+18≤1000;decide)
 have g4:=g4 m (by omega)
 have e3:=u8w g1
 have hc:¬(u:Int)<0:=by omega
 have hz:(⟨#[UInt8.ofNat (48+q)]⟩:ByteArray).size+t.size≤9223372036854775807:=by
  have g2:t.size≤0+18:=g2
  show 1+t.size≤_
  omega
 simp only [qAH,qOB,qB,qC,qF,qG,qH,qI,Option.bind_some,qE,qJ,qK,g4,e3,bytesOf,Option.map_some,Int.toNat_natCast]
 rw [if_neg (by simp),if_pos (by simp),if_pos (decide_eq_true hz)]
 congr 1
 apply qQz
 rw [qGN]
 have e:Lib.itoa (u:Int)=Lib.decDigits u:=by unfold Lib.itoa;rw [if_neg hc];simp
 show UInt8.ofNat (48+q)::t.data.toList=Lib.itoa (u:Int)
 rw [g3,e]
 simp
theorem qYI (x:Int) (h: -1000000000000000000≤x∧x≤1000000000000000000):Ev (qAH · x) (qPv x):=by
 by_cases hx:x<0
 ·refine ⟨30,fun n hn=>?_⟩
  obtain ⟨m,rfl,hm⟩:=up1 hn
  have e1:IntKind.i64.wrap (0-x)=((x.natAbs:Nat):Int):=by rw [qa (by omega)];omega
  have g:=qZ6 x.natAbs (by omega) m (by omega)
  have hl:=qWd x.natAbs (by omega)
  have e0:Lib.itoa ((x.natAbs:Nat):Int)=Lib.decDigits x.natAbs:=by unfold Lib.itoa;rw [if_neg (by omega)];simp
  have hz:(⟨#[45]⟩:ByteArray).size+(qPv ((x.natAbs:Nat):Int)).size≤9223372036854775807:=by
   have:(qPv ((x.natAbs:Nat):Int)).size=(Lib.decDigits x.natAbs).length:=by rw [qEC];simp [qPv,e0]
   show 1+_≤_
   omega
  simp only [qAH,qOB,qB,qC,qF,qG,qH,qI,Option.bind_some,qE,qJ,qK,e1,g]
  rw [if_pos (by simpa using hx),if_pos (decide_eq_true hz)]
  congr 1
  apply qQz
  rw [qGN]
  have e:Lib.itoa x=45::Lib.decDigits x.natAbs:=by unfold Lib.itoa;rw [if_pos hx]
  show 45::(Lib.itoa ((x.natAbs:Nat):Int))=Lib.itoa x
  rw [e,e0]
 ·obtain ⟨u,rfl⟩:∃u:Nat,x=u:=⟨x.toNat,by omega⟩
  exact ⟨25,qZ6 u (by omega)⟩
theorem qe3 (x:Int) (h: -9223372036854775808≤x∧x≤9223372036854775807):Ev (qD7 · x 10) (qPv x):=by
 refine ⟨1,fun n hn=>?_⟩
 obtain ⟨m,rfl,hm⟩:=up1 hn
 show zu x 10=_
 unfold zu
 rw [if_pos ⟨rfl,h⟩]
 rfl
theorem qNF (x:Int) (h: -9223372036854775808≤x∧x≤9223372036854775807):Ev (qA8 · x) (qPv x):=by
 obtain ⟨n1,h1⟩:=qe3 x h
 refine ⟨n1+1,fun n hn=>?_⟩
 obtain ⟨m,rfl,hm⟩:=up1 hn
 have h1:=h1 m (by omega)
 dsimp only at h1
 simp only [qA8,qPI,qB,qC,qF,qG,qH,qI,Option.bind_some,qE,qJ,qK,h1]
theorem qPk (x:Int) (h:0≤x∧x≤5):Ev (qBO · x) (qd x):=by
 refine ⟨1,fun n hn=>?_⟩
 obtain ⟨m,rfl,hm⟩:=up1 hn
 simp only [qBO,qRC,qB,qC,qF,qG,qH,qI,Option.bind_some,qE,qJ,qK]
 rcases lt6 h with rfl|rfl|rfl|rfl|rfl|rfl<;>simp [zAv,qd]
theorem qKb (x:Int) (h:0≤x∧x≤5):Ev (qAP · x) (qd x):=by
 refine ⟨1,fun n hn=>?_⟩
 obtain ⟨m,rfl,hm⟩:=up1 hn
 simp only [qAP,qLQ,qB,qC,qF,qG,qH,qI,Option.bind_some,qE,qJ,qK]
 rcases lt6 h with rfl|rfl|rfl|rfl|rfl|rfl<;>simp [zAv,qd]
theorem qdd (x:Int):Ev (qHg · x) (qfJ x):=by
 refine ⟨1,fun n hn=>?_⟩
 obtain ⟨m,rfl,hm⟩:=up1 hn
 simp only [qHg,qRN,qB,qC,qF,qG,qH,qI,Option.bind_some,qE,qJ,qK]
 by_cases h:x=1<;>simp [qfJ,h]
theorem qFs (k x:Int) (s:ByteArray) (hb:s.size≤140737488351232):Ev (qAJ · k x s) (if okV k x s=true then qCb k x s else ⟨#[]⟩):=by
 cases ho:okV k x s with
 |false=>
  obtain ⟨n1,h1⟩:=qAE k x s hb
  refine ⟨n1+1,fun n hn=>?_⟩
  obtain ⟨m,rfl,hm⟩:=up1 hn
  have h1:=h1 m (by omega)
  dsimp only at h1
  simp only [qAJ,qBc,qB,qC,qF,qG,qH,qI,Option.bind_some,qE,qJ,qK,h1]
  simp [ho]
 |true=>
  by_cases k1:k=1
  ·subst k1
   have:=qgg ho
   obtain ⟨n1,h1⟩:=qAE 1 x s hb
   obtain ⟨n2,h2⟩:=qYI x (by omega)
   refine ⟨n1+n2+1,fun n hn=>?_⟩
   obtain ⟨m,rfl,hm⟩:=up1 hn
   have h1:=h1 m (by omega)
   dsimp only at h1
   have h2:=h2 m (by omega)
   dsimp only at h2
   simp only [qAJ,qBc,qB,qC,qF,qG,qH,qI,Option.bind_some,qE,qJ,qK,h1,h2]
   simp [ho,qCb]
  ·by_cases k2:k=2
   ·subst k2
    have:=qeR ho
    have hz:(⟨#[39]⟩:ByteArray).size+s.size≤9223372036854775807:=by show 1+s.size≤_;omega
    obtain ⟨n1,h1⟩:=qAE 2 x s hb
    refine ⟨n1+1,fun n hn=>?_⟩
    obtain ⟨m,rfl,hm⟩:=up1 hn
    have h1:=h1 m (by omega)
    dsimp only at h1
    simp only [qAJ,qBc,qB,qC,qF,qG,qH,qI,Option.bind_some,qE,qJ,qK,h1]
    simp [ho,qCb,hz]
   ·by_cases k3:k=3
    ·subst k3
     obtain ⟨n1,h1⟩:=qAE 3 x s hb
     obtain ⟨n2,h2⟩:=qdd x
     refine ⟨n1+n2+1,fun n hn=>?_⟩
     obtain ⟨m,rfl,hm⟩:=up1 hn
     have h1:=h1 m (by omega)
     dsimp only at h1
     have h2:=h2 m (by omega)
     dsimp only at h2
     simp only [qAJ,qBc,qB,qC,qF,qG,qH,qI,Option.bind_some,qE,qJ,qK,h1,h2]
     simp [ho,qCb]
    ·by_cases k4:k=4
     ·subst k4
      have:=qhY ho
      obtain ⟨n1,h1⟩:=qAE 4 x s hb
      obtain ⟨n2,h2⟩:=qPk x (by omega)
      refine ⟨n1+n2+1,fun n hn=>?_⟩
      obtain ⟨m,rfl,hm⟩:=up1 hn
      have h1:=h1 m (by omega)
      dsimp only at h1
      have h2:=h2 m (by omega)
      dsimp only at h2
      simp only [qAJ,qBc,qB,qC,qF,qG,qH,qI,Option.bind_some,qE,qJ,qK,h1,h2]
      simp [ho,qCb]
     ·obtain ⟨n1,h1⟩:=qAE k x s hb
      refine ⟨n1+1,fun n hn=>?_⟩
      obtain ⟨m,rfl,hm⟩:=up1 hn
      have h1:=h1 m (by omega)
      dsimp only at h1
      simp only [qAJ,qBc,qB,qC,qF,qG,qH,qI,Option.bind_some,qE,qJ,qK,h1]
      simp [ho,qCb,k1,k2,k3,k4]
theorem qQ0 (k x:Int) (s:ByteArray) (ho:okV k x s=true):Ev (ql · k x s) (qCb k x s):=by
 by_cases k1:k=1
 ·subst k1
  have:=qgg ho
  obtain ⟨n1,h1⟩:=qNF x (by omega)
  refine ⟨n1+1,fun n hn=>?_⟩
  obtain ⟨m,rfl,hm⟩:=up1 hn
  have h1:=h1 m (by omega)
  dsimp only at h1
  simp only [ql,qB1,qB,qC,qF,qG,qH,qI,Option.bind_some,qE,qJ,qK,h1]
  simp [qCb]
 ·by_cases k2:k=2
  ·subst k2
   have:=qeR ho
   have hz:(⟨#[39]⟩:ByteArray).size+s.size≤9223372036854775807:=by show 1+s.size≤_;omega
   refine ⟨1,fun n hn=>?_⟩
   obtain ⟨m,rfl,hm⟩:=up1 hn
   simp only [ql,qB1,qB,qC,qF,qG,qH,qI,Option.bind_some,qE,qJ,qK]
   simp [qCb,hz]
  ·by_cases k3:k=3
   ·subst k3
    have:=qiL ho
    refine ⟨1,fun n hn=>?_⟩
    obtain ⟨m,rfl,hm⟩:=up1 hn
    simp only [ql,qB1,qB,qC,qF,qG,qH,qI,Option.bind_some,qE,qJ,qK]
    have c:x=0∨x=1:=by omega
    rcases c with rfl|rfl<;>simp [zAv,qCb,qfJ]
   ·by_cases k4:k=4
    ·subst k4
     have:=qhY ho
     obtain ⟨n1,h1⟩:=qKb x (by omega)
     refine ⟨n1+1,fun n hn=>?_⟩
     obtain ⟨m,rfl,hm⟩:=up1 hn
     have h1:=h1 m (by omega)
     dsimp only at h1
     simp only [ql,qB1,qB,qC,qF,qG,qH,qI,Option.bind_some,qE,qJ,qK,h1]
     simp [qCb]
    ·refine ⟨1,fun n hn=>?_⟩
     obtain ⟨m,rfl,hm⟩:=up1 hn
     simp only [ql,qB1,qB,qC,qF,qG,qH,qI,Option.bind_some,qE,qJ,qK]
     simp [qCb,k1,k2,k3,k4]
theorem qUQ (x:Int):Ev (qBl · x) (qFV x):=by
 by_cases h:1≤x∧x≤52
 ·by_cases h26:x≤26
  ·have w1:IntKind.i64.wrap (65+x)=65+x:=qa (by omega)
   have w2:IntKind.i64.wrap (65+x-1)=65+x-1:=qa (by omega)
   have w3:IntKind.u8.wrap (65+x-1)=65+x-1:=qez (by omega)
   have e:(65+x-1).toNat=64+x.toNat:=by omega
   obtain ⟨n1,h1⟩:=qAU x 1 52
   refine ⟨n1+1,fun n hn=>?_⟩
   obtain ⟨m,rfl,hm⟩:=up1 hn
   have h1:=h1 m (by omega)
   dsimp only at h1
   simp only [qBl,qGH,qB,qC,qF,qG,qH,qI,Option.bind_some,qE,qJ,qK,h1]
   simp only [w1,w2,w3,bytesOf,Option.map_some,e]
   simp [h,h26,qFV,show ¬x<1 by omega,show ¬52<x by omega]
  ·have w1:IntKind.i64.wrap (x-1)=x-1:=qa (by omega)
   have e1:Int.tdiv (x-1) 26=1:=by rw [Int.tdiv_eq_ediv_of_nonneg (by omega)];omega
   have e2:Int.tmod (x-1) 26=(((x.toNat-1)%26:Nat):Int):=by rw [Int.tmod_eq_emod_of_nonneg (by omega)];omega
   have w2:IntKind.u8.wrap (IntKind.i64.wrap (IntKind.i64.wrap (65+IntKind.i64.wrap 1)-1))=65:=by decide
   have w3:IntKind.i64.wrap (65+(((x.toNat-1)%26:Nat):Int))=65+(((x.toNat-1)%26:Nat):Int):=qa (by omega)
   have w4:IntKind.u8.wrap (65+(((x.toNat-1)%26:Nat):Int))=65+(((x.toNat-1)%26:Nat):Int):=qez (by omega)
   have e3:(65+(((x.toNat-1)%26:Nat):Int)).toNat=65+(x.toNat-1)%26:=by omega
   obtain ⟨n1,h1⟩:=qAU x 1 52
   refine ⟨n1+1,fun n hn=>?_⟩
   obtain ⟨m,rfl,hm⟩:=up1 hn
   have h1:=h1 m (by omega)
   dsimp only at h1
   simp only [qBl,qGH,qB,qC,qF,qG,qH,qI,Option.bind_some,qE,qJ,qK,h1]
   simp only [w1,e1,e2,w2,w3,w4,e3,bytesOf,Option.map_some]
   simp [h,h26,qFV,show ¬x<1 by omega,show ¬52<x by omega]
 ·have hx:x<1∨x>52:=by omega
  obtain ⟨n1,h1⟩:=qAU x 1 52
  refine ⟨n1+1,fun n hn=>?_⟩
  obtain ⟨m,rfl,hm⟩:=up1 hn
  have h1:=h1 m (by omega)
  dsimp only at h1
  simp only [qBl,qGH,qB,qC,qF,qG,qH,qI,Option.bind_some,qE,qJ,qK,h1]
  simp [h,qFV,hx]
theorem qeU (n x:Nat) (s:ByteArray) (h:1≤x∧x≤1000) (hs:s.size≤100):(qBL n ((x:Int),s)).run=some (.inl ((((x-1)/26:Nat):Int),(⟨#[UInt8.ofNat (65+(x-1)%26)]⟩:ByteArray)++s)):=by
 have w1:IntKind.i64.wrap ((x:Int)-1)=((x-1:Nat):Int):=by rw [qa (by omega)];omega
 have e1:Int.tdiv ((x-1:Nat):Int) 26=(((x-1)/26:Nat):Int):=by rw [Int.tdiv_eq_ediv_of_nonneg (by omega)];omega
 have e2:Int.tmod ((x-1:Nat):Int) 26=(((x-1)%26:Nat):Int):=by rw [Int.tmod_eq_emod_of_nonneg (by omega)];omega
 have w2:IntKind.i64.wrap (((x-1)/26:Nat):Int)=(((x-1)/26:Nat):Int):=qa (by omega)
 have w3:IntKind.i64.wrap (65+(((x-1)%26:Nat):Int))=65+(((x-1)%26:Nat):Int):=qa (by omega)
 have w4:IntKind.u8.wrap (65+(((x-1)%26:Nat):Int))=65+(((x-1)%26:Nat):Int):=qez (by omega)
 have e3:(65+(((x-1)%26:Nat):Int)).toNat=65+(x-1)%26:=by omega
 have hz:(⟨#[UInt8.ofNat (65+(x-1)%26)]⟩:ByteArray).size+s.size≤9223372036854775807:=by show 1+s.size≤_;omega
 have hc:(x:Int)>0:=by omega
 simp only [qBL,qB,qC,qF,qG,qH,qI,Option.bind_some,qE,qJ,qK,w1,e1,e2,w2,w3,w4,e3,bytesOf,Option.map_some]
 rw [if_pos (decide_eq_true hc),if_pos (by simp),if_pos (decide_eq_true hz)]
theorem qfN (n:Nat) (s:ByteArray):(qBL n (((0:Nat):Int),s)).run=some (.inr s):=by
 simp [qBL,qB,qC,qF,qG,qH,qI,Option.bind_some,qE,qJ,qK]
theorem qUR (x:Int):Ev (qC3 · x) (qFV x):=by
 by_cases h:1≤x∧x≤52
 ·obtain ⟨n1,h1⟩:=qDo x 1 52
  refine ⟨n1+10,fun n hn=>?_⟩
  obtain ⟨m,rfl,hm⟩:=up1 hn
  have h1:=h1 m (by omega)
  dsimp only at h1
  obtain ⟨u,rfl⟩:∃u:Nat,x=u:=⟨x.toNat,by omega⟩
  obtain ⟨M,hM⟩:∃M,m=M+3:=⟨m-3,by omega⟩
  have key:zL (qBL m) m ((u:Int),(⟨#[]⟩:ByteArray))=some (qFV u):=by
   rw [hM,qX (qeU _ u ⟨#[]⟩ (by omega) (by decide))]
   by_cases h26:u≤26
   ·have e:(u-1)/26=0:=by omega
    have e2:65+(u-1)%26=64+u:=by omega
    rw [e,qN (qfN _ _),e2]
    congr 1
    apply qQz
    rw [qGN]
    simp [qFV,show ¬(u:Int)<1 by omega,show ¬(52:Int)<u by omega,show (u:Int)≤26 by omega]
   ·have e:(u-1)/26=1:=by omega
    have e4:(⟨#[UInt8.ofNat (65+(u-1)%26)]⟩++(⟨#[]⟩:ByteArray)).size≤100:=by rw [ByteArray.size_append];show 1+0≤100;decide
    rw [e,qX (qeU _ 1 _ (by decide) e4)]
    have e3:(1-1)/26=0:=by decide
    rw [e3,qN (qfN _ _)]
    congr 1
    apply qQz
    rw [qGN,qGN]
    simp [qFV,show ¬(u:Int)<1 by omega,show ¬(52:Int)<u by omega,show ¬(u:Int)≤26 by omega]
  simp only [qC3,qJd,qB,qC,qF,qG,qH,qI,Option.bind_some,qE,qJ,qK,h1,key]
  simp [h]
 ·have hx:x<1∨x>52:=by omega
  obtain ⟨n1,h1⟩:=qDo x 1 52
  refine ⟨n1+1,fun n hn=>?_⟩
  obtain ⟨m,rfl,hm⟩:=up1 hn
  have h1:=h1 m (by omega)
  dsimp only at h1
  simp only [qC3,qJd,qB,qC,qF,qG,qH,qI,Option.bind_some,qE,qJ,qK,h1]
  simp [h,qFV,hx]
theorem qKc (c r:Int) (fc fr:Bool):Ev (qBd · c r fc fr) (qCn c r fc fr):=by
 cases ho:qCU c r with
 |false=>
  obtain ⟨n1,h1⟩:=qFZ c r
  refine ⟨n1+1,fun n hn=>?_⟩
  obtain ⟨m,rfl,hm⟩:=up1 hn
  have h1:=h1 m (by omega)
  dsimp only at h1
  simp only [qBd,qGp,qB,qC,qF,qG,qH,qI,Option.bind_some,qE,qJ,qK,h1]
  simp [ho,qCn]
 |true=>
  have h:=qSf ho
  have s1:=qa1 c
  have s2:=qYs h.2
  have d1:(⟨#[36]⟩:ByteArray).size=1:=rfl
  have z1:(⟨#[36]⟩:ByteArray).size+(qFV c).size≤9223372036854775807:=by omega
  have z2:((⟨#[36]⟩:ByteArray)++qFV c).size+(⟨#[36]⟩:ByteArray).size≤9223372036854775807:=by rw [ByteArray.size_append];omega
  have z3:(((⟨#[36]⟩:ByteArray)++qFV c)++(⟨#[36]⟩:ByteArray)).size+(qPv r).size≤9223372036854775807:=by rw [ByteArray.size_append,ByteArray.size_append];omega
  have z4:((⟨#[36]⟩:ByteArray)++qFV c).size+(qPv r).size≤9223372036854775807:=by rw [ByteArray.size_append];omega
  have z5:(qFV c).size+(⟨#[36]⟩:ByteArray).size≤9223372036854775807:=by omega
  have z6:(qFV c++(⟨#[36]⟩:ByteArray)).size+(qPv r).size≤9223372036854775807:=by rw [ByteArray.size_append];omega
  have z7:(qFV c).size+(qPv r).size≤9223372036854775807:=by omega
  obtain ⟨n1,h1⟩:=qFZ c r
  obtain ⟨n2,h2⟩:=qUR c
  obtain ⟨n3,h3⟩:=qYI r (by omega)
  refine ⟨n1+n2+n3+1,fun n hn=>?_⟩
  obtain ⟨m,rfl,hm⟩:=up1 hn
  have h1:=h1 m (by omega)
  dsimp only at h1
  have h2:=h2 m (by omega)
  dsimp only at h2
  have h3:=h3 m (by omega)
  dsimp only at h3
  simp only [qBd,qGp,qB,qC,qF,qG,qH,qI,Option.bind_some,qE,qJ,qK,h1,h2,h3]
  simp only [ho,decide_eq_true z1,decide_eq_true z2,decide_eq_true z3,decide_eq_true z4,decide_eq_true z5,decide_eq_true z6,decide_eq_true z7,if_true,Bool.not_true,Bool.false_eq_true,if_false]
  cases fc<;>cases fr<;>simp only [if_true,if_false,Bool.false_eq_true,Option.some.injEq]<;>apply qQz<;>simp [qCn,ho,qGN]
theorem qFt (c r:Int) (fc fr:Bool):Ev (qAx · c r fc fr) (qCn c r fc fr):=by
 cases ho:qCU c r with
 |false=>
  obtain ⟨n1,h1⟩:=qHm c r
  refine ⟨n1+1,fun n hn=>?_⟩
  obtain ⟨m,rfl,hm⟩:=up1 hn
  have h1:=h1 m (by omega)
  dsimp only at h1
  simp only [qAx,qG0,qB,qC,qF,qG,qH,qI,Option.bind_some,qE,qJ,qK,h1]
  simp [ho,qCn]
 |true=>
  have h:=qSf ho
  have s1:=qa1 c
  have s2:=qYs h.2
  have d1:(⟨#[36]⟩:ByteArray).size=1:=rfl
  have d0:(⟨#[]⟩:ByteArray).size=0:=rfl
  have z1:(⟨#[36]⟩:ByteArray).size+(qFV c).size≤9223372036854775807:=by omega
  have z2:((⟨#[36]⟩:ByteArray)++qFV c).size+(⟨#[36]⟩:ByteArray).size≤9223372036854775807:=by rw [ByteArray.size_append];omega
  have z3:(((⟨#[36]⟩:ByteArray)++qFV c)++(⟨#[36]⟩:ByteArray)).size+(qPv r).size≤9223372036854775807:=by rw [ByteArray.size_append,ByteArray.size_append];omega
  have z4:((⟨#[36]⟩:ByteArray)++qFV c).size+(qPv r).size≤9223372036854775807:=by rw [ByteArray.size_append];omega
  have y1:(⟨#[]⟩:ByteArray).size+(qFV c).size≤9223372036854775807:=by omega
  have y2:((⟨#[]⟩:ByteArray)++qFV c).size+(⟨#[36]⟩:ByteArray).size≤9223372036854775807:=by rw [ByteArray.size_append];omega
  have y3:(((⟨#[]⟩:ByteArray)++qFV c)++(⟨#[36]⟩:ByteArray)).size+(qPv r).size≤9223372036854775807:=by rw [ByteArray.size_append,ByteArray.size_append];omega
  have y4:((⟨#[]⟩:ByteArray)++qFV c).size+(qPv r).size≤9223372036854775807:=by rw [ByteArray.size_append];omega
  obtain ⟨n1,h1⟩:=qHm c r
  obtain ⟨n2,h2⟩:=qUQ c
  obtain ⟨n3,h3⟩:=qNF r (by omega)
  refine ⟨n1+n2+n3+1,fun n hn=>?_⟩
  obtain ⟨m,rfl,hm⟩:=up1 hn
  have h1:=h1 m (by omega)
  dsimp only at h1
  have h2:=h2 m (by omega)
  dsimp only at h2
  have h3:=h3 m (by omega)
  dsimp only at h3
  simp only [qAx,qG0,qB,qC,qF,qG,qH,qI,Option.bind_some,qE,qJ,qK,h1,h2,h3]
  simp only [ho,decide_eq_true z1,decide_eq_true z2,decide_eq_true z3,decide_eq_true z4,decide_eq_true y1,decide_eq_true y2,decide_eq_true y3,decide_eq_true y4,if_true,Bool.not_true,Bool.false_eq_true,if_false]
  cases fc<;>cases fr<;>simp only [if_true,if_false,Bool.false_eq_true,Option.some.injEq]<;>apply qQz<;>simp [qCn,ho,qGN]
theorem qde (n:Nat) (s:ByteArray):∀(r pre:List UInt8) (acc M:Nat),s.toList=pre++r→acc<10^pre.length→pre.length+r.length≤17→r.length+1≤M→
  zL (qBS n) M (s,(acc:Int),(pre.length:Int))=some (if r.all qBH=true then .inr ((qAi acc r:Nat):Int) else .inl (0,false))
 |r,pre,acc,0,h1,h2,h3,h4=>by omega
 | [],pre,acc,M+1,h1,h2,h3,h4=>by
  have hs:s.size=pre.length:=by rw [←qAW,h1];simp
  rw [qN (r:= .inr (acc:Int)) (by simp [qBS,qB,qC,qF,qG,qH,qI,Option.bind_some,qE,qJ,qK,hs])]
  simp [qPj]
 |c::r,pre,acc,M+1,h1,h2,h3,h4=>by
  have hs:s.size=pre.length+(r.length+1):=by rw [←qAW,h1];simp
  have hi:(pre.length:Int)<s.size:=by omega
  have hg:s.toList[pre.length]?=some c:=by rw [h1];simp
  simp only [List.length_cons] at h3 h4
  by_cases c1:(c.toNat:Int)<48
  ·rw [qN (r:= .inl (0,false)) (by simp [qBS,qB,qC,qF,qG,qH,qI,Option.bind_some,qE,qJ,qK,hi,hg,c1])]
   have:qBH c=false:=by simp [qBH];omega
   simp [this]
  ·by_cases c2:(c.toNat:Int)>57
   ·rw [qN (r:= .inl (0,false)) (by simp [qBS,qB,qC,qF,qG,qH,qI,Option.bind_some,qE,qJ,qK,hi,hg,c1,c2])]
    have:qBH c=false:=by simp [qBH];omega
    simp [this]
   ·have hc:qBH c=true:=by simp [qBH];omega
    have hp:10^pre.length≤10^16:=Nat.pow_le_pow_right (by decide) (by omega)
    have p16:(10:Nat)^16=10000000000000000:=by decide
    have w1:IntKind.i64.wrap ((acc:Int)*10)=(acc:Int)*10:=qa (by omega)
    have w2:IntKind.u8.wrap ((c.toNat:Int)-48)=((c.toNat-48:Nat):Int):=by rw [qez (by omega)];omega
    have w3:IntKind.i64.wrap ((c.toNat-48:Nat):Int)=((c.toNat-48:Nat):Int):=qa (by omega)
    have w4:IntKind.i64.wrap ((acc:Int)*10+((c.toNat-48:Nat):Int))=((acc*10+(c.toNat-48):Nat):Int):=by rw [qa (by omega)];omega
    have w5:IntKind.i64.wrap ((pre.length:Int)+1)=(pre.length:Int)+1:=qa (by omega)
    have e0:((pre++ [c]).length:Int)=(pre.length:Int)+1:=by simp
    rw [qX (v':=(s,((acc*10+(c.toNat-48):Nat):Int),((pre++ [c]).length:Int))) (by
     rw [e0]
     simp [qBS,qB,qC,qF,qG,qH,qI,Option.bind_some,qE,qJ,qK,hi,hg,c1,c2,w1,w2,w3,w4,w5])]
    rw [qde n s r (pre++ [c]) (acc*10+(c.toNat-48)) M (by rw [h1];simp) (by rw [List.length_append,List.length_singleton,Nat.pow_succ];omega) (by simp;omega) (by omega)]
    simp [hc,qG5]
theorem qHn (s:ByteArray) (most:Int) (hm:most≤16):Ev (qn · s most) (l1I s.toList most):=by
 have hsz:s.size=s.toList.length:=(qAW s).symm
 by_cases h0:s.toList= []
 ·have hz:s.size=0:=by rw [hsz,h0];rfl
  refine ⟨1,fun n hn=>?_⟩
  obtain ⟨m,rfl,hm⟩:=up1 hn
  simp only [qn,qJi,qB,qC,qF,qG,qH,qI,Option.bind_some,qE,qJ,qK]
  simp [hz,h0,l1I,qNy]
 ·obtain ⟨c,r,hcr⟩:∃c r,s.toList=c::r:=by
   cases hq:s.toList with
   |nil=>exact absurd hq h0
   |cons a b=>exact ⟨a,b,rfl⟩
  have hl:s.size=r.length+1:=by rw [hsz,hcr];rfl
  have z1:¬(s.size:Int)<1:=by omega
  by_cases h1:(s.size:Int)>most
  ·refine ⟨1,fun n hn=>?_⟩
   obtain ⟨m,rfl,hm⟩:=up1 hn
   simp only [qn,qJi,qB,qC,qF,qG,qH,qI,Option.bind_some,qE,qJ,qK]
   have:¬((s.toList.length:Int)≤most):=by rw [←hsz];omega
   simp [z1,h1,l1I,this]
  ·have hle:(s.toList.length:Int)≤most:=by rw [←hsz];omega
   refine ⟨30,fun n hn=>?_⟩
   obtain ⟨m,rfl,hm'⟩:=up1 hn
   have hg:s.toList[0]?=some c:=by rw [hcr];rfl
   have lp:=qde m s s.toList [] 0 m rfl (by decide) (by simp;omega) (by omega)
   simp only [List.length_nil,Int.natCast_zero] at lp
   have c48:((c.toNat:Int)==48)=(c==48):=by
    by_cases e:c=48
    ·subst e;rfl
    ·have:¬(c.toNat:Int)=48:=fun h=>e (UInt8.toNat_inj.1 (by show c.toNat=48;omega))
     rw [beq_eq_false_iff_ne.2 this,beq_eq_false_iff_ne.2 e]
   simp only [qn,qJi,qB,qC,qF,qG,qH,qI,Option.bind_some,qE,qJ,qK,lp,Int.toNat_zero,hg,c48]
   rw [if_neg (by simpa using z1),if_neg (by simpa using h1),if_pos (by simp)]
   have ne:(s.toList== [])=false:=by simpa using h0
   have hd:s.toList.head?=some c:=by rw [hcr];rfl
   by_cases hc:c=48
   ·subst hc
    by_cases h2:(s.size:Int)>1
    ·have:¬s.toList.length=1:=by omega
     simp [h2,l1I,qNy,hd,this]
    ·have:s.toList.length=1:=by omega
     cases hall:s.toList.all qBH<;>simp [h2,l1I,qNy,hd,this,hall,ne,hle,qB,qC,qF,qG,qH,qI,Option.bind_some,qE,qJ,qK]
     ·omega
   ·have:(some c==some 48)=false:=by simpa using hc
    cases hall:s.toList.all qBH<;>simp [hc,l1I,qNy,hd,this,hall,ne,hle,qB,qC,qF,qG,qH,qI,Option.bind_some,qE,qJ,qK]
theorem qbL (s:ByteArray) (h:s.size≤281474976710656):Ev (qAl · s 10 64) (.inl (qB2 s))∨Ev (qAl · s 10 64) (.inr (qB2 s)):=by
 have key:∃r,zb s 10 64=some r:=by
  unfold zb
  rw [if_pos ⟨rfl,rfl,h⟩]
  split<;>exact ⟨_,rfl⟩
 obtain ⟨r,hr⟩:=key
 have e:Ev (qAl · s 10 64) r:=⟨1,fun n hn=>by
  obtain ⟨m,rfl,hm⟩:=up1 hn
  exact hr⟩
 rcases r with v|v
 ·exact .inl (by unfold qB2;rw [hr];exact e)
 ·exact .inr (by unfold qB2;rw [hr];exact e)
theorem qOL (s:ByteArray) (c:UInt8):Ev (qr · s ⟨#[c]⟩) (if s.toList.head?=some c then (⟨s.toList.tail.toArray⟩,true) else (s,false)):=by
 refine ⟨1,fun n hn=>?_⟩
 obtain ⟨m,rfl,hm⟩:=up1 hn
 show zl s ⟨#[c]⟩=_
 unfold zl Lib.trimPrefix Lib.hasPrefix
 rw [←Go.Lib.toList_data s]
 have es:(⟨s.toList.toArray⟩:ByteArray)=s:=qQz (by rw [←Go.Lib.toList_data s])
 generalize s.toList=l at*
 cases l with
 |nil=>simp [es]
 |cons a r=>
  by_cases h:a=c
  ·subst h;simp
  ·have:¬c=a:=fun e=>h e.symm
   simp [h,this,es,List.isPrefixOf]
theorem qe4 (s:ByteArray) (c:UInt8):Ev (qe · s ⟨#[c]⟩) (s.toList.head?==some c):=by
 refine ⟨2,fun n hn=>?_⟩
 obtain ⟨m,rfl,hm⟩:=up1 hn
 obtain ⟨m,rfl,hm⟩:=up1 hm
 have z:(⟨#[c]⟩:ByteArray).size=1:=rfl
 have tc:(⟨#[c]⟩:ByteArray).toList= [c]:=by rw [Go.Lib.toList_data]
 have hsz:s.size=s.toList.length:=(qAW s).symm
 simp only [qe,qCY,qo,qA4,qB,qC,qF,qG,qH,qI,Option.bind_some,qE,qJ,qK,z,tc]
 cases hq:s.toList with
 |nil=>
  have:s.size=0:=by rw [hsz,hq];rfl
  simp [this]
 |cons a r=>
  have h1:(1:Int)≤s.size:=by rw [hsz,hq];simp;omega
  have e:(s.extract 0 1).toList= [a]:=by
   rw [Go.Lib.toList_data,ByteArray.data_extract,Array.toList_extract]
   rw [Go.Lib.toList_data] at hq
   simp [hq]
  have h2:1≤s.size:=by omega
  simp [h1,h2,e]
theorem qe5 (n:Nat) (s:ByteArray) (a b:Int) (c:ByteArray) (i:Int) (v:V3) (hi:1≤i∧i≤5) (h1:qAP n i=some (qd i)) (h2:qBk n i=some (4,i,em)):
  (qA0 n (s,i,a,b,c,v.1,v.2.1,v.2.2)).run=some (.inl (s,i+1,a,b,c,if (qd i).toList=s.toList then (4,i,em) else v)):=by
 have w1:IntKind.i64.wrap (i+1)=i+1:=qa (by omega)
 simp only [qA0,qB,qC,qF,qG,qH,qI,Option.bind_some,qE,qJ,qK,h1,h2,w1]
 rw [if_pos (decide_eq_true hi.2)]
 by_cases h:(qd i).toList=s.toList<;>simp [h]
def qYt (s:ByteArray):Nat→Int→V3→V3
 |0,_,v=>v
 |k+1,i,v=>qYt s k (i+1) (if (qd i).toList=s.toList then (4,i,em) else v)
theorem qgh (s:ByteArray):qYt s 5 1 (0,0,em)=if qIm s=0 then (0,0,em) else (4,qIm s,em):=by
 have a2:(1:Int)+1=2:=by decide
 have a3:(2:Int)+1=3:=by decide
 have a4:(3:Int)+1=4:=by decide
 have a5:(4:Int)+1=5:=by decide
 simp only [qYt,qIm,a2,a3,a4,a5]
 by_cases h5:(qd 5).toList=s.toList
 ·simp [h5]
 by_cases h4:(qd 4).toList=s.toList
 ·simp [h5,h4]
 by_cases h3:(qd 3).toList=s.toList
 ·simp [h5,h4,h3]
 by_cases h2:(qd 2).toList=s.toList
 ·simp [h5,h4,h3,h2]
 by_cases h1:(qd 1).toList=s.toList<;>simp [h5,h4,h3,h2,h1]
theorem qZ7 (n:Nat) (s:ByteArray) (a b:Int) (c:ByteArray) (h1:∀i,0≤i∧i≤5→qAP n i=some (qd i)) (h2:∀i,1≤i∧i≤5→qBk n i=some (4,i,em)):
  ∀(k:Nat) (i:Int) (v:V3) (M:Nat),i+k=6→1≤i→k+1≤M→zL (qA0 n) M (s,i,a,b,c,v.1,v.2.1,v.2.2)=some (s,a,b,c,(qYt s k i v).1,(qYt s k i v).2.1,(qYt s k i v).2.2)
 |k,i,v,0,e,h,hM=>by omega
 |0,i,v,M+1,e,h,hM=>by
  have hi:¬i≤5:=by omega
  rw [qN (r:=(s,a,b,c,v.1,v.2.1,v.2.2)) (by simp [qA0,qB,qC,qF,qG,qH,qI,Option.bind_some,qE,qJ,qK,hi])]
  rfl
 |k+1,i,v,M+1,e,h,hM=>by
  rw [qX (qe5 n s a b c i v (by omega) (h1 i (by omega)) (h2 i (by omega)))]
  exact qZ7 n s a b c h1 h2 k (i+1) _ M (by omega) (by omega) (by omega)
theorem qeV:okV 0 0 em=true:=by simp [okV,em,qAI]
theorem qbM:qCb 0 0 em=⟨#[]⟩:=rfl
theorem qOM {R:Type} {F:Nat→Int→Option R} {f:Int→R} {lo:Int} (h0:0≤lo) (h:∀i,lo≤i∧i≤5→Ev (F · i) (f i)):∃n0,∀n,n0≤n→∀i,lo≤i∧i≤5→F n i=some (f i):=by
 obtain ⟨n0,h1⟩:=qDn (F:=fun i n=>if lo≤i∧i≤5 then F n i else some (f i)) (f:=f) [0,1,2,3,4,5] (fun i _=>by
  by_cases hi:lo≤i∧i≤5
  ·obtain ⟨n0,h1⟩:=h i hi
   exact ⟨n0,fun n hn=>by simp only [if_pos hi];exact h1 n hn⟩
  ·exact ⟨0,fun n _=>by simp only [if_neg hi]⟩)
 refine ⟨n0,fun n hn i hi=>?_⟩
 have:=h1 n hn i (by
  have c:i=0∨i=1∨i=2∨i=3∨i=4∨i=5:=by omega
  rcases c with rfl|rfl|rfl|rfl|rfl|rfl<;>simp)
 simp only [if_pos hi] at this
 exact this
theorem qQ1 (s:ByteArray) (hb:s.size≤1048576):Ev (qZ · s) (qh s):=by
 have te:(⟨#[]⟩:ByteArray).toList= []:=qAI
 have tF:(⟨#[70,65,76,83,69]⟩:ByteArray).toList= [70,65,76,83,69]:=by rw [Go.Lib.toList_data]
 have tT:(⟨#[84,82,85,69]⟩:ByteArray).toList= [84,82,85,69]:=by rw [Go.Lib.toList_data]
 have fin:∀k x (t:ByteArray),qBT s=(k,x,t)→t.size≤140737488351232→∃n0,∀n,n0≤n→qAK n k x t=some (okV k x t)∧(okV k x t=true→ql n k x t=some (qCb k x t)):=fun k x t _ ht=>by
  obtain ⟨n1,h1⟩:=qNE k x t ht
  by_cases ho:okV k x t=true
  ·obtain ⟨n2,h2⟩:=qQ0 k x t ho
   exact ⟨n1+n2,fun n hn=>⟨h1 n (by omega),fun _=>h2 n (by omega)⟩⟩
  ·exact ⟨n1,fun n hn=>⟨h1 n hn,fun h=>absurd h ho⟩⟩
 have rd:∀k x (t:ByteArray),qBT s=(k,x,t)→qh s=if okV k x t=true∧(qCb k x t).toList=s.toList then (k,x,t,true) else (0,0,⟨#[]⟩,false):=fun k x t h=>by unfold qh;rw [h]
 by_cases h39:s.toList.head?=some 39
 ·have hc:qBT s=(2,0,⟨s.toList.tail.toArray⟩):=by unfold qBT;rw [if_pos h39]
  have hsz:(⟨s.toList.tail.toArray⟩:ByteArray).size≤140737488351232:=by rw [qEC];simp only [List.length_tail];rw [qAW];omega
  obtain ⟨n0,hf⟩:=fin _ _ _ hc hsz
  rw [rd _ _ _ hc]
  obtain ⟨n1,h1⟩:=qOL s 39
  refine ⟨n0+n1+1,fun n hn=>?_⟩
  obtain ⟨m,rfl,hm⟩:=up1 hn
  have h1:=h1 m (by omega)
  obtain ⟨g1,g2⟩:=hf m (by omega)
  dsimp only at h1
  simp only [qZ,qBf,qB,qC,qF,qG,qH,qI,Option.bind_some,qE,qJ,qK,h1,if_pos h39,g1]
  cases ho:okV 2 0 (⟨s.toList.tail.toArray⟩:ByteArray) with
  |false=>simp
  |true=>
   simp only [g2 ho]
   by_cases e:(qCb 2 0 (⟨s.toList.tail.toArray⟩:ByteArray)).toList=s.toList<;>simp [e]
 ·have cut:=qOL s 39
  rw [if_neg h39] at cut
  by_cases hF:s.toList= [70,65,76,83,69]
  ·have hc:qBT s=(3,0,em):=by unfold qBT;rw [if_neg h39,if_pos hF]
   have hT:¬s.toList= [84,82,85,69]:=by rw [hF];decide
   obtain ⟨n0,hf⟩:=fin _ _ _ hc (by decide)
   rw [rd _ _ _ hc]
   obtain ⟨n1,h1⟩:=cut
   obtain ⟨n2,h2⟩:=qYH false
   refine ⟨n0+n1+n2+1,fun n hn=>?_⟩
   obtain ⟨m,rfl,hm⟩:=up1 hn
   have h1:=h1 m (by omega)
   have h2:=h2 m (by omega)
   obtain ⟨g1,g2⟩:=hf m (by omega)
   dsimp only at h1 h2
   simp only [Bool.false_eq_true,if_false] at h2
   have bT:(s.toList== [84,82,85,69])=false:=by simpa using hT
   have bF:(s.toList== [70,65,76,83,69])=true:=by simpa using hF
   simp only [qZ,qBf,qB,qC,qF,qG,qH,qI,Option.bind_some,qE,qJ,qK,h1,tF,tT,bT,bF,h2,g1]
   cases ho:okV 3 0 em with
   |false=>simp
   |true=>
    simp only [g2 ho]
    by_cases e:(qCb 3 0 em).toList=s.toList<;>simp [e]
  ·by_cases hT:s.toList= [84,82,85,69]
   ·have hc:qBT s=(3,1,em):=by unfold qBT;rw [if_neg h39,if_neg hF,if_pos hT]
    obtain ⟨n0,hf⟩:=fin _ _ _ hc (by decide)
    rw [rd _ _ _ hc]
    obtain ⟨n1,h1⟩:=cut
    obtain ⟨n2,h2⟩:=qYH true
    refine ⟨n0+n1+n2+1,fun n hn=>?_⟩
    obtain ⟨m,rfl,hm⟩:=up1 hn
    have h1:=h1 m (by omega)
    have h2:=h2 m (by omega)
    obtain ⟨g1,g2⟩:=hf m (by omega)
    dsimp only at h1 h2
    simp only [if_true] at h2
    have bT:(s.toList== [84,82,85,69])=true:=by simpa using hT
    have bF:(s.toList== [70,65,76,83,69])=false:=by simpa using hF
    simp only [qZ,qBf,qB,qC,qF,qG,qH,qI,Option.bind_some,qE,qJ,qK,h1,tF,tT,bT,bF,h2,g1]
    cases ho:okV 3 1 em with
    |false=>simp
    |true=>
     simp only [g2 ho]
     by_cases e:(qCb 3 1 em).toList=s.toList<;>simp [e]
   ·have bT:(s.toList== [84,82,85,69])=false:=by simpa using hT
    have bF:(s.toList== [70,65,76,83,69])=false:=by simpa using hF
    have pre:=qe4 s 35
    by_cases h35:s.toList.head?=some 35
    ·have hc:qBT s=(if qIm s=0 then (0,0,em) else (4,qIm s,em)):=by unfold qBT;rw [if_neg h39,if_neg hF,if_neg hT,if_pos h35]
     have main:∀k x (t:ByteArray),qBT s=(k,x,t)→qYt s 5 1 (0,0,em)=(k,x,t)→t.size≤140737488351232→Ev (qZ · s) (qh s):=fun k x t hc hu ht=>by
      obtain ⟨n0,hf⟩:=fin _ _ _ hc ht
      rw [rd _ _ _ hc]
      obtain ⟨n1,h1⟩:=cut
      obtain ⟨n2,h2⟩:=pre
      obtain ⟨n3,h3⟩:=qOM (F:=qAP) (f:=qd) (lo:=0) (by decide) qKb
      obtain ⟨n4,h4⟩:=qOM (F:=qBk) (f:=fun i=>(4,i,em)) (lo:=1) (by decide) (fun i _=>qYG i)
      refine ⟨n0+n1+n2+n3+n4+10,fun n hn=>?_⟩
      obtain ⟨m,rfl,hm⟩:=up1 hn
      have h1:=h1 m (by omega)
      have h2:=h2 m (by omega)
      have lp:=qZ7 m s 0 0 ⟨#[]⟩ (h3 m (by omega)) (h4 m (by omega)) 5 1 (0,0,em) m (by decide) (by decide) (by omega)
      rw [hu] at lp
      obtain ⟨g1,g2⟩:=hf m (by omega)
      dsimp only [em] at h1 h2 lp g1 g2
      have b35:(s.toList.head?==some 35)=true:=by simpa using h35
      simp only [qZ,qBf,qB,qC,qF,qG,qH,qI,Option.bind_some,qE,qJ,qK,h1,tF,tT,bT,bF,h2,b35,lp,g1]
      cases ho:okV k x t with
      |false=>simp
      |true=>
       simp only [g2 ho]
       by_cases e:(qCb k x t).toList=s.toList<;>simp [e]
     by_cases hz:qIm s=0
     ·rw [if_pos hz] at hc
      exact main _ _ _ hc (by rw [qgh,if_pos hz]) (show (0:Nat)≤140737488351232 by decide)
     ·rw [if_neg hz] at hc
      exact main _ _ _ hc (by rw [qgh,if_neg hz]) (show (0:Nat)≤140737488351232 by decide)
    ·have b35:(s.toList.head?==some 35)=false:=by simpa using h35
     by_cases h0:s.toList= []
     ·have hc:qBT s=(0,0,em):=by unfold qBT;rw [if_neg h39,if_neg hF,if_neg hT,if_neg h35,if_pos h0]
      obtain ⟨n0,hf⟩:=fin _ _ _ hc (by decide)
      rw [rd _ _ _ hc]
      obtain ⟨n1,h1⟩:=cut
      obtain ⟨n2,h2⟩:=pre
      refine ⟨n0+n1+n2+1,fun n hn=>?_⟩
      obtain ⟨m,rfl,hm⟩:=up1 hn
      have h1:=h1 m (by omega)
      have h2:=h2 m (by omega)
      obtain ⟨g1,g2⟩:=hf m (by omega)
      dsimp only [em] at h1 h2 g1 g2
      have b0:(!(s.toList== []))=false:=by simpa using h0
      simp only [qZ,qBf,qB,qC,qF,qG,qH,qI,Option.bind_some,qE,qJ,qK,h1,tF,tT,bT,bF,h2,b35,te,b0,g1]
      have ho:=qeV
      dsimp only [em] at ho
      simp only [g2 ho,ho]
      by_cases e:(qCb 0 0 (⟨#[]⟩:ByteArray)).toList=s.toList<;>simp [em,ho,e]
     ·have hc:qBT s=(1,qB2 s,em):=by unfold qBT;rw [if_neg h39,if_neg hF,if_neg hT,if_neg h35,if_neg h0]
      obtain ⟨n0,hf⟩:=fin _ _ _ hc (by decide)
      rw [rd _ _ _ hc]
      obtain ⟨n1,h1⟩:=cut
      obtain ⟨n2,h2⟩:=pre
      obtain ⟨n4,h4⟩:=qWO (qB2 s)
      have b0:(!(s.toList== []))=true:=by simpa using h0
      rcases qbL s (by omega) with ⟨n3,h3⟩|⟨n3,h3⟩
      all_goals
       refine ⟨n0+n1+n2+n3+n4+1,fun n hn=>?_⟩
       obtain ⟨m,rfl,hm⟩:=up1 hn
       have h1:=h1 m (by omega)
       have h2:=h2 m (by omega)
       have h3:=h3 m (by omega)
       have h4:=h4 m (by omega)
       obtain ⟨g1,g2⟩:=hf m (by omega)
       dsimp only at h1 h2 h3 h4
       simp only [qZ,qBf,qB,qC,qF,qG,qH,qI,Option.bind_some,qE,qJ,qK,h1,tF,tT,bT,bF,h2,b35,te,b0,h3,h4,g1]
       cases ho:okV 1 (qB2 s) em with
       |false=>simp
       |true=>
        simp only [g2 ho]
        by_cases e:(qCb 1 (qB2 s) em).toList=s.toList<;>simp [e]
theorem qZ8 (n:Nat) (s:ByteArray) (a b:Int) (c:ByteArray) (h1:∀i,0≤i∧i≤5→qBO n i=some (qd i)):
  ∀(k:Nat) (i x:Int) (M:Nat),i+k=6→1≤i→k+1≤M→(qYt s k i (4,x,em)).1=4∧(qYt s k i (4,x,em)).2.2=em∧zL (qBD n) M (s,i,a,b,c,4,x,⟨#[]⟩)=some (a,b,c,4,(qYt s k i (4,x,em)).2.1,⟨#[]⟩)
 |k,i,x,0,e,h,hM=>by omega
 |0,i,x,M+1,e,h,hM=>by
  have hi:¬i≤5:=by omega
  refine ⟨rfl,rfl,?_⟩
  rw [qN (r:=(a,b,c,4,x,⟨#[]⟩)) (by simp [qBD,qB,qC,qF,qG,qH,qI,Option.bind_some,qE,qJ,qK,hi])]
  rfl
 |k+1,i,x,M+1,e,h,hM=>by
  have hi:i≤5:=by omega
  have g:=h1 i (by omega)
  have w1:IntKind.i64.wrap (i+1)=i+1:=qa (by omega)
  have hu:qYt s (k+1) i (4,x,em)=qYt s k (i+1) (4,if (qd i).toList=s.toList then i else x,em):=by
   simp only [qYt]
   split<;>rfl
  rw [hu,qX (v':=(s,i+1,a,b,c,4,(if (qd i).toList=s.toList then i else x),⟨#[]⟩)) (by
   simp only [qBD,qB,qC,qF,qG,qH,qI,Option.bind_some,qE,qJ,qK,g,w1]
   rw [if_pos (decide_eq_true hi)]
   by_cases hq:(qd i).toList=s.toList<;>simp [hq])]
  exact qZ8 n s a b c h1 k (i+1) _ M (by omega) (by omega) (by omega)
theorem qhE (s:ByteArray):qYt s 5 1 (4,0,em)=(4,qIm s,em):=by
 have a2:(1:Int)+1=2:=by decide
 have a3:(2:Int)+1=3:=by decide
 have a4:(3:Int)+1=4:=by decide
 have a5:(4:Int)+1=5:=by decide
 simp only [qYt,qIm,a2,a3,a4,a5]
 by_cases h5:(qd 5).toList=s.toList
 ·simp [h5]
 by_cases h4:(qd 4).toList=s.toList
 ·simp [h5,h4]
 by_cases h3:(qd 3).toList=s.toList
 ·simp [h5,h4,h3]
 by_cases h2:(qd 2).toList=s.toList
 ·simp [h5,h4,h3,h2]
 by_cases h1:(qd 1).toList=s.toList<;>simp [h5,h4,h3,h2,h1]
theorem qiM (s:ByteArray):(s.extract (1:Int).toNat ((s.size:Int)).toNat).toList=s.toList.tail:=by
 have e1:(1:Int).toNat=1:=rfl
 rw [Int.toNat_natCast,e1,Go.Lib.toList_data,ByteArray.data_extract,Array.toList_extract,Go.Lib.toList_data]
 have hl:s.data.toList.length=s.size:=by rw [←qEC]
 show (s.data.toList.drop 1).take (s.size-1)=s.data.toList.tail
 rw [List.take_of_length_le (by rw [List.length_drop,hl];exact Nat.le_refl _),List.drop_one]
theorem qgi {s:ByteArray} {c:UInt8} {r:List UInt8} (h:s.toList=c::r):s.toList[((0:Int)).toNat]?=some c:=by rw [h];rfl
theorem qf6 {x:Int}:okV 1 x em=decide (-1000000000000000≤x∧x≤1000000000000000):=by
 simp [okV,em,qAI]
theorem qgQ {s:ByteArray} (h39:¬s.toList.head?=some 39) (hF:¬s.toList= [70,65,76,83,69]) (hT:¬s.toList= [84,82,85,69]) (h35:¬s.toList.head?=some 35) (h0:¬s.toList= []):
  qh s=match qe2 s.toList with
   |some x=>if okV 1 x em=true then (1,x,em,true) else (0,0,⟨#[]⟩,false)
   |none=>(0,0,⟨#[]⟩,false):=by
 have hc:qBT s=(1,qB2 s,em):=by unfold qBT;rw [if_neg h39,if_neg hF,if_neg hT,if_neg h35,if_neg h0]
 have rd:qh s=if okV 1 (qB2 s) em=true∧(qCb 1 (qB2 s) em).toList=s.toList then (1,qB2 s,em,true) else (0,0,⟨#[]⟩,false):=by unfold qh;rw [hc]
 have tx:∀x,(qCb 1 x em).toList=Lib.itoa x:=fun x=>by
  rw [Go.Lib.toList_data];simp [qCb,qPv]
 have back:okV 1 (qB2 s) em=true∧(qCb 1 (qB2 s) em).toList=s.toList→qe2 s.toList=some (qB2 s):=fun ⟨a,b⟩=>by
  rw [tx] at b
  rw [qf6] at a
  rw [←b]
  exact qgP (by simpa using a)
 rw [rd]
 cases hn:qe2 s.toList with
 |none=>
  rw [if_neg (fun h=>by rw [back h] at hn;cases hn)]
 |some x=>
  by_cases hx:okV 1 x em=true
  ·have hi:=qgO hn
   have hr: -1000000000000000≤x∧x≤1000000000000000:=by rw [qf6] at hx;simpa using hx
   have hp:=qbK hi hr
   dsimp only
   rw [hp,if_pos ⟨hx,by rw [tx,hi]⟩,if_pos hx]
  ·dsimp only
   rw [if_neg hx,if_neg (fun h=>by
    have:=back h
    rw [hn] at this
    cases this
    exact hx h.1)]
theorem qgR (s:ByteArray) {c:UInt8} {r:List UInt8} (hcr:s.toList=c::r):qe2 s.toList=if c=45 then (if (l1I s.toList.tail 16).2=true∧(l1I s.toList.tail 16).1≠0 then some (-(l1I s.toList.tail 16).1) else none) else (if (l1I s.toList 16).2=true then some (l1I s.toList 16).1 else none):=by
 unfold qe2
 rw [hcr]
 simp only [List.head?_cons,Option.some.injEq,List.drop_one]
theorem qQ2 (s:ByteArray) (hb:s.size≤1048576):Ev (qAD · s) (qh s):=by
 have te:(⟨#[]⟩:ByteArray).toList= []:=qAI
 have tF:(⟨#[70,65,76,83,69]⟩:ByteArray).toList= [70,65,76,83,69]:=by rw [Go.Lib.toList_data]
 have tT:(⟨#[84,82,85,69]⟩:ByteArray).toList= [84,82,85,69]:=by rw [Go.Lib.toList_data]
 have hsz:s.size=s.toList.length:=(qAW s).symm
 by_cases h0:s.toList= []
 ·have hv:qh s=(0,0,⟨#[]⟩,true):=by
   have hc:qBT s=(0,0,em):=by unfold qBT;rw [h0];simp
   unfold qh
   rw [hc,if_pos ⟨qeV,by rw [qbM,h0];exact te⟩]
   rfl
  rw [hv]
  refine ⟨1,fun n hn=>?_⟩
  obtain ⟨m,rfl,hm⟩:=up1 hn
  simp only [qAD,qBE,qB,qC,qF,qG,qH,qI,Option.bind_some,qE,qJ,qK]
  simp [h0,te]
 ·obtain ⟨c,r,hcr⟩:∃c r,s.toList=c::r:=by
   cases hq:s.toList with
   |nil=>exact absurd hq h0
   |cons a b=>exact ⟨a,b,rfl⟩
  have hg:=qgi hcr
  have hd:s.toList.head?=some c:=by rw [hcr];rfl
  have b0:(s.toList== [])=false:=by simpa using h0
  have s1:(1:Int)≤(s.size:Int):=by rw [hsz,hcr];simp;omega
  have k39:=qhD c 39 (by decide)
  have k35:=qhD c 35 (by decide)
  have k45:=qhD c 45 (by decide)
  have u39:UInt8.ofNat 39=39:=rfl
  have u35:UInt8.ofNat 35=35:=rfl
  have u45:UInt8.ofNat 45=45:=rfl
  rw [u39] at k39
  rw [u35] at k35
  rw [u45] at k45
  have q39:((39:Nat):Int)=39:=rfl
  have q35:((35:Nat):Int)=35:=rfl
  have q45:((45:Nat):Int)=45:=rfl
  rw [q39] at k39
  rw [q35] at k35
  rw [q45] at k45
  by_cases h39:c=39
  ·have hx:(⟨s.toList.tail.toArray⟩:ByteArray)=s.extract (1:Int).toNat ((s.size:Int)).toNat:=qKa (by rw [qiM];rw [Go.Lib.toList_data])
   have hc:qBT s=(2,0,s.extract (1:Int).toNat ((s.size:Int)).toNat):=by unfold qBT;rw [if_pos (by rw [hd,h39]),hx]
   have hz:(s.extract (1:Int).toNat ((s.size:Int)).toNat).size≤140737488351232:=by rw [←hx,qEC];simp only [List.length_tail];rw [qAW];omega
   have hvt:(qCb 2 0 (s.extract (1:Int).toNat ((s.size:Int)).toNat)).toList=s.toList:=by
    rw [←hx,Go.Lib.toList_data]
    show ((⟨#[39]⟩:ByteArray)++_).data.toList=_
    rw [qGN,hcr,h39]
    rfl
   have hv:qh s=if okV 2 0 (s.extract (1:Int).toNat ((s.size:Int)).toNat)=true then (2,0,s.extract (1:Int).toNat ((s.size:Int)).toNat,true) else (0,0,⟨#[]⟩,false):=by
    unfold qh
    rw [hc]
    simp only [hvt,and_true]
   rw [hv]
   have e39:(some c==some 39)=true:=by rw [h39];rfl
   obtain ⟨n1,h1⟩:=qAE 2 0 (s.extract (1:Int).toNat ((s.size:Int)).toNat) hz
   refine ⟨n1+1,fun n hn=>?_⟩
   obtain ⟨m,rfl,hm⟩:=up1 hn
   have h1:=h1 m (by omega)
   dsimp only at h1
   simp only [qAD,qBE,qB,qC,qF,qG,qH,qI,Option.bind_some,qE,qJ,qK,h1]
   simp only [qB,qC,qF,qG,qH,qI,Option.bind_some,qE,qJ,qK,te,b0,hg,k39,e39]
   cases ho:okV 2 0 (s.extract (1:Int).toNat ((s.size:Int)).toNat)<;>simp [s1]
  ·have n39:¬s.toList.head?=some 39:=by rw [hd];simpa using h39
   have e39:(some c==some 39)=false:=by simpa using h39
   by_cases hT:s.toList= [84,82,85,69]
   ·have hF:¬s.toList= [70,65,76,83,69]:=by rw [hT];decide
    have hc:qBT s=(3,1,em):=by unfold qBT;rw [if_neg n39,if_neg hF,if_pos hT]
    have ho:okV 3 1 em=true:=by simp [okV,em,qAI]
    have hv:qh s=(3,1,⟨#[]⟩,true):=by
     unfold qh
     rw [hc,if_pos ⟨ho,by rw [hT];exact tT⟩]
     rfl
    rw [hv]
    have bT:(s.toList== [84,82,85,69])=true:=by simpa using hT
    obtain ⟨n1,h1⟩:=qAE 3 1 ⟨#[]⟩ (by decide)
    refine ⟨n1+1,fun n hn=>?_⟩
    obtain ⟨m,rfl,hm⟩:=up1 hn
    have h1:=h1 m (by omega)
    dsimp only at h1
    simp only [qAD,qBE,qB,qC,qF,qG,qH,qI,Option.bind_some,qE,qJ,qK,h1]
    dsimp only [em] at ho
    simp only [qB,qC,qF,qG,qH,qI,Option.bind_some,qE,qJ,qK,te,b0,hg,k39,e39,tT,bT,ho]
    simp
   ·have bT:(s.toList== [84,82,85,69])=false:=by simpa using hT
    by_cases hF:s.toList= [70,65,76,83,69]
    ·have hc:qBT s=(3,0,em):=by unfold qBT;rw [if_neg n39,if_pos hF]
     have ho:okV 3 0 em=true:=by simp [okV,em,qAI]
     have hv:qh s=(3,0,⟨#[]⟩,true):=by
      unfold qh
      rw [hc,if_pos ⟨ho,by rw [hF];exact tF⟩]
      rfl
     rw [hv]
     have bF:(s.toList== [70,65,76,83,69])=true:=by simpa using hF
     obtain ⟨n1,h1⟩:=qAE 3 0 ⟨#[]⟩ (by decide)
     refine ⟨n1+1,fun n hn=>?_⟩
     obtain ⟨m,rfl,hm⟩:=up1 hn
     have h1:=h1 m (by omega)
     dsimp only at h1
     simp only [qAD,qBE,qB,qC,qF,qG,qH,qI,Option.bind_some,qE,qJ,qK,h1]
     dsimp only [em] at ho
     simp only [qB,qC,qF,qG,qH,qI,Option.bind_some,qE,qJ,qK,te,b0,hg,k39,e39,tT,bT,tF,bF,ho]
     simp
    ·have bF:(s.toList== [70,65,76,83,69])=false:=by simpa using hF
     by_cases h35:c=35
     ·have n35:s.toList.head?=some 35:=by rw [hd,h35]
      have e35:(some c==some 35)=true:=by rw [h35];rfl
      have hc:qBT s=(if qIm s=0 then (0,0,em) else (4,qIm s,em)):=by unfold qBT;rw [if_neg n39,if_neg hF,if_neg hT,if_pos n35]
      have hin:=qhB s
      have ho:okV 4 (qIm s) (⟨#[]⟩:ByteArray)=!(qIm s==0):=by
       by_cases hz:qIm s=0
       ·simp [okV,qAI,hz]
       ·have hr:1≤qIm s∧qIm s≤5:=by omega
        simp [okV,qAI,hr,hz]
      have hv:qh s=if qIm s=0 then (0,0,⟨#[]⟩,false) else (4,qIm s,⟨#[]⟩,true):=by
       unfold qh
       rw [hc]
       by_cases hz:qIm s=0
       ·simp only [if_pos hz]
        rw [if_neg (fun h=>h0 (by rw [←h.2,qbM];exact te))]
       ·simp only [if_neg hz]
        have ho':okV 4 (qIm s) em=true:=by show okV 4 (qIm s) ⟨#[]⟩=true;rw [ho];simpa using hz
        rw [if_pos ⟨ho',by show (qd (qIm s)).toList=s.toList;rw [qhC hz]⟩]
        rfl
      rw [hv]
      obtain ⟨n1,h1⟩:=qAE 4 (qIm s) ⟨#[]⟩ (by decide)
      obtain ⟨n3,h3⟩:=qOM (F:=qBO) (f:=qd) (lo:=0) (by decide) qPk
      refine ⟨n1+n3+10,fun n hn=>?_⟩
      obtain ⟨m,rfl,hm⟩:=up1 hn
      have h1:=h1 m (by omega)
      dsimp only at h1
      obtain ⟨_,_,lp⟩:=qZ8 m s 0 0 ⟨#[]⟩ (h3 m (by omega)) 5 1 0 m (by decide) (by decide) (by omega)
      rw [qhE] at lp
      simp only [qAD,qBE,qB,qC,qF,qG,qH,qI,Option.bind_some,qE,qJ,qK,te,b0,hg,k39,e39,tT,bT,tF,bF,k35,e35,lp,h1,ho]
      by_cases hz:qIm s=0<;>simp [hz]
     ·have n35:¬s.toList.head?=some 35:=by rw [hd];simpa using h35
      have e35:(some c==some 35)=false:=by simpa using h35
      rw [qgQ n39 hF hT n35 h0,qgR s hcr]
      dsimp only [em]
      by_cases h45:c=45
      ·have e45:(some c==some 45)=true:=by rw [h45];rfl
       have g16:∀{q:List UInt8},(l1I q 16).2=true→(0≤(l1I q 16).1∧(l1I q 16).1≤10000000000000000):=fun {q} hq=>by
        have p16:(10:Nat)^16=10000000000000000:=by decide
        obtain ⟨a1,a2,a3,a4⟩:=qdb hq
        rw [a3]
        simp only [qNy,Bool.and_eq_true] at a2
        have:=qe1 q 0 0 a2.1.2 (by decide)
        have h2:(10:Nat)^(0+q.length)≤10^16:=Nat.pow_le_pow_right (by decide) (by omega)
        omega
       have hl:=qHn (s.extract (1:Int).toNat ((s.size:Int)).toNat) 16 (by decide)
       rw [qiM] at hl
       have hrange:= @g16 s.toList.tail
       generalize l1I s.toList.tail 16=q at*
       obtain ⟨x,ok⟩:=q
       have w1:ok=true→IntKind.i64.wrap (0-x)= -x:=fun h=>by
        have:=hrange h
        dsimp only at this
        rw [Int.zero_sub];exact qa (by omega)
       obtain ⟨n1,h1⟩:=hl
       obtain ⟨n2,h2⟩:=qAE 1 (-x) ⟨#[]⟩ (by decide)
       refine ⟨n1+n2+1,fun n hn=>?_⟩
       obtain ⟨m,rfl,hm⟩:=up1 hn
       have h1:=h1 m (by omega)
       dsimp only at h1
       have h2:=h2 m (by omega)
       dsimp only at h2
       simp only [qAD,qBE,qB,qC,qF,qG,qH,qI,Option.bind_some,qE,qJ,qK,h1,h2]
       simp only [qB,qC,qF,qG,qH,qI,Option.bind_some,qE,qJ,qK,te,b0,hg,k39,e39,tT,bT,tF,bF,k35,e35,k45,e45,h45,if_true]
       cases ok with
       |false=>simp [s1]
       |true=>
        simp only [qB,qC,qF,qG,qH,qI,Option.bind_some,qE,qJ,qK,w1 rfl,h2]
        by_cases hx:x=0
        ·simp [s1,hx]
        ·cases ho:okV 1 (-x) (⟨#[]⟩:ByteArray)<;>simp [s1,hx,ho]
      ·have e45:(some c==some 45)=false:=by simpa using h45
       have hl:=qHn s 16 (by decide)
       generalize l1I s.toList 16=q at*
       obtain ⟨x,ok⟩:=q
       obtain ⟨n1,h1⟩:=hl
       obtain ⟨n2,h2⟩:=qAE 1 x ⟨#[]⟩ (by decide)
       refine ⟨n1+n2+1,fun n hn=>?_⟩
       obtain ⟨m,rfl,hm⟩:=up1 hn
       have h1:=h1 m (by omega)
       dsimp only at h1
       have h2:=h2 m (by omega)
       dsimp only at h2
       simp only [qAD,qBE,qB,qC,qF,qG,qH,qI,Option.bind_some,qE,qJ,qK,h1,h2]
       simp only [qB,qC,qF,qG,qH,qI,Option.bind_some,qE,qJ,qK,te,b0,hg,k39,e39,tT,bT,tF,bF,k35,e35,k45,e45,if_neg h45]
       cases ok with
       |false=>simp
       |true=>cases ho:okV 1 x (⟨#[]⟩:ByteArray)<;>simp [ho]
def rcK (s:ByteArray):Nat→Int→Int
 |0,_=>0
 |k+1,i=>if (qFV i).toList=s.toList then i else rcK s k (i+1)
def qLd (s:ByteArray):Int:=rcK s 52 1
theorem qgj (s:ByteArray):∀(k:Nat) (i:Int),1≤rcK s k i→(qFV (rcK s k i)).toList=s.toList
 |0,i,h=>by simp [rcK] at h
 |k+1,i,h=>by
  simp only [rcK] at h⊢
  by_cases e:(qFV i).toList=s.toList
  ·rw [if_pos e];exact e
  ·rw [if_neg e] at h⊢;exact qgj s k (i+1) h
def qSh (c:UInt8):Bool:=decide (65≤c.toNat)&&decide (c.toNat≤90)
def qS (l:List UInt8):List UInt8:=if l.head?=some 36 then l.tail else l
def qP (l:List UInt8):List UInt8:=l.takeWhile qSh
def qi (l:List UInt8):List UInt8:=l.dropWhile qSh
def qBC (s:ByteArray):Int×Int×Bool×Bool×Bool:=
 if (l1I (qS (qi (qS s.toList))) 2).2=true∧qCU (qLd ⟨(qP (qS s.toList)).toArray⟩) (l1I (qS (qi (qS s.toList))) 2).1=true then
  (qLd ⟨(qP (qS s.toList)).toArray⟩,(l1I (qS (qi (qS s.toList))) 2).1,s.toList.head?==some 36,(qi (qS s.toList)).head?==some 36,true) else (0,0,false,false,false)
theorem qYu {R:Type} {B:ByteArray×Int→Tr ((ByteArray×Int)⊕(Int⊕Unit))} {s:ByteArray} (hs:∀i:Int,1≤i∧i≤52→(B (s,i)).run=some (if (qFV i).toList=s.toList then .inr (.inl i) else .inl (s,i+1))) (he:(B (s,53)).run=some (.inr (.inr ()))):
  ∀(k:Nat) (i:Int) (M:Nat),1≤i→i+k=53→k+1≤M→zL B M (s,i)=some (if rcK s k i=0 then .inr () else .inl (rcK s k i))
 |k,i,0,h1,h2,h3=>by omega
 |0,i,M+1,h1,h2,h3=>by
  have:i=53:=by omega
  subst this
  rw [qN he]
  rfl
 |k+1,i,M+1,h1,h2,h3=>by
  have h:=hs i ⟨h1,by omega⟩
  by_cases e:(qFV i).toList=s.toList
  ·rw [if_pos e] at h
   rw [qN h]
   simp only [rcK,if_pos e]
   rw [if_neg (by omega)]
  ·rw [if_neg e] at h
   rw [qX h]
   simp only [rcK,if_neg e]
   exact qYu (R:=R) hs he k (i+1) M (by omega) (by omega) (by omega)
theorem qf7 {F:Nat→Int→Option ByteArray} (h:∀i,Ev (F · i) (qFV i)):∃n0,∀n,n0≤n→∀i,1≤i∧i≤52→F n i=some (qFV i):=by
 obtain ⟨n0,h1⟩:=qDn (F:=fun (i:Nat) n=>F n (i:Int)) (f:=fun i=>qFV (i:Int)) (List.range 53) (fun i _=>h i)
 refine ⟨n0,fun n hn i hi=>?_⟩
 have:=h1 n hn i.toNat (by rw [List.mem_range];omega)
 rwa [Int.toNat_of_nonneg (by omega)] at this
theorem qcX (s:ByteArray):Ev (qCF · s) (qLd s):=by
 obtain ⟨n0,h⟩:=qf7 qUR
 refine ⟨n0+60,fun n hn=>?_⟩
 obtain ⟨m,rfl,hm⟩:=up1 hn
 have hc:=h m (by omega)
 have lp:=qYu (R:=Unit) (B:=qCN m) (s:=s) (fun i hi=>by
  have g:=hc i hi
  have w1:IntKind.i64.wrap (i+1)=i+1:=qa (by omega)
  simp only [qCN,qB,qC,qF,qG,qH,qI,Option.bind_some,qE,qJ,qK,g,w1]
  rw [if_pos (decide_eq_true hi.2)]
  by_cases e:(qFV i).toList=s.toList<;>simp [e]) (by simp [qCN,qB,qC,qF,qG,qH,qI,Option.bind_some,qE,qJ,qK]) 52 1 m (by decide) (by decide) (by omega)
 simp only [qCF,qOi,qB,qC,qF,qG,qH,qI,Option.bind_some,qE,qJ,qK,lp]
 show _=some (rcK s 52 1)
 by_cases e:rcK s 52 1=0
 ·rw [if_pos e,e];rfl
 ·rw [if_neg e];rfl
theorem qcY (s:ByteArray):Ev (qGI · s) (qLd s):=by
 obtain ⟨n0,h⟩:=qf7 qUQ
 refine ⟨n0+60,fun n hn=>?_⟩
 obtain ⟨m,rfl,hm⟩:=up1 hn
 have hc:=h m (by omega)
 have lp:=qYu (R:=Unit) (B:=qCR m) (s:=s) (fun i hi=>by
  have g:=hc i hi
  have w1:IntKind.i64.wrap (i+1)=i+1:=qa (by omega)
  simp only [qCR,qB,qC,qF,qG,qH,qI,Option.bind_some,qE,qJ,qK,g,w1]
  rw [if_pos (decide_eq_true hi.2)]
  by_cases e:(qFV i).toList=s.toList<;>simp [e]) (by simp [qCR,qB,qC,qF,qG,qH,qI,Option.bind_some,qE,qJ,qK]) 52 1 m (by decide) (by decide) (by omega)
 simp only [qGI,qPP,qB,qC,qF,qG,qH,qI,Option.bind_some,qE,qJ,qK,lp]
 show _=some (rcK s 52 1)
 by_cases e:rcK s 52 1=0
 ·rw [if_pos e,e];rfl
 ·rw [if_neg e];rfl
theorem qCK (b:ByteArray):b.size=b.toList.length:=(qAW b).symm
theorem qfO (b:ByteArray) (k:Nat):(b.extract 0 k).toList=b.toList.take k:=by
 rw [Go.Lib.toList_data,ByteArray.data_extract,Array.toList_extract,Go.Lib.toList_data]
 show (b.data.toList.drop 0).take (k-0)=_
 simp
theorem qMm (b:ByteArray) (k:Nat):(b.extract k b.size).toList=b.toList.drop k:=by
 rw [Go.Lib.toList_data,ByteArray.data_extract,Array.toList_extract,Go.Lib.toList_data]
 have hl:b.data.toList.length=b.size:=by rw [←qEC]
 show (b.data.toList.drop k).take (b.size-k)=_
 rw [List.take_of_length_le (by rw [List.length_drop,hl];exact Nat.le_refl _)]
theorem qZ9 (l:List UInt8):l.take (qP l).length=qP l:=by
 have h:=List.takeWhile_append_dropWhile (p:=qSh) (l:=l)
 have h2:(List.takeWhile qSh l++List.dropWhile qSh l).take (List.takeWhile qSh l).length=List.takeWhile qSh l:=List.take_left ..
 rw [h] at h2
 exact h2
theorem qTM (l:List UInt8):l.drop (qP l).length=qi l:=by
 have h:=List.takeWhile_append_dropWhile (p:=qSh) (l:=l)
 have h2:(List.takeWhile qSh l++List.dropWhile qSh l).drop (List.takeWhile qSh l).length=List.dropWhile qSh l:=List.drop_left ..
 rw [h] at h2
 exact h2
theorem qbN (l:List UInt8):(qP l).length≤l.length:=by
 have h:=congrArg List.length (List.takeWhile_append_dropWhile (p:=qSh) (l:=l))
 rw [List.length_append] at h
 unfold qP
 omega
theorem qaA (n:Nat) (b:ByteArray) (fc:Bool) (hb:b.size≤1048576):∀(r pre:List UInt8) (M:Nat),b.toList=pre++r→r.length+1≤M→
  zL (qAF n) M (b,(pre.length:Int),0,0,false,false,0,0,fc,false)=some (b,((pre.length+(qP r).length:Nat):Int),0,0,false,false,0,0,fc,false)
 |r,pre,0,h1,h2=>by omega
 | [],pre,M+1,h1,h2=>by
  have hi:¬(pre.length:Int)<b.size:=by rw [qCK,h1];simp
  rw [qN (r:=(b,(pre.length:Int),0,0,false,false,0,0,fc,false)) (by simp [qAF,qB,qC,qF,qG,qH,qI,Option.bind_some,qE,qJ,qK,hi])]
  simp [qP]
 |c::r,pre,M+1,h1,h2=>by
  have hl:b.size=pre.length+(r.length+1):=by rw [qCK,h1];simp
  have hi:(pre.length:Int)<b.size:=by omega
  have hg:b.toList[pre.length]?=some c:=by rw [h1];simp
  have w1:IntKind.i64.wrap ((pre.length:Int)+1)=(pre.length:Int)+1:=qa (by omega)
  by_cases hc:qSh c=true
  ·have hc':65≤c.toNat∧c.toNat≤90:=by simpa [qSh] using hc
   have c1:(c.toNat:Int)≥65:=by omega
   have c2:(c.toNat:Int)≤90:=by omega
   have e0:((pre++ [c]).length:Int)=(pre.length:Int)+1:=by simp
   rw [qX (v':=(b,((pre++ [c]).length:Int),0,0,false,false,0,0,fc,false)) (by
    rw [e0]
    simp [qAF,qB,qC,qF,qG,qH,qI,Option.bind_some,qE,qJ,qK,hi,hg,c1,c2,w1])]
   rw [qaA n b fc hb r (pre++ [c]) M (by rw [h1];simp) (by simp at h2;omega)]
   simp [qP,hc]
   omega
  ·rw [qN (r:=(b,(pre.length:Int),0,0,false,false,0,0,fc,false)) (by
    by_cases c1:(c.toNat:Int)≥65
    ·have c2:¬(c.toNat:Int)≤90:=fun h=>hc (by simp [qSh];omega)
     simp [qAF,qB,qC,qF,qG,qH,qI,Option.bind_some,qE,qJ,qK,hi,hg,c1,c2]
    ·simp [qAF,qB,qC,qF,qG,qH,qI,Option.bind_some,qE,qJ,qK,hi,hg,c1])]
   simp [qP,hc]
theorem qaB (s:ByteArray) (hb:s.size≤1048576):Ev (qAj · s) (qBC s):=by
 have main:∀(b:ByteArray) (fc:Bool),b.size≤1048576→b.toList=qS s.toList→fc=(s.toList.head?==some 36)→
   ∃n0,∀m,n0≤m→zL (qAF m) m (b,0,0,0,false,false,0,0,fc,false)=some (b,((qP (qS s.toList)).length:Int),0,0,false,false,0,0,fc,false)∧
    qCF m (b.extract 0 (qP (qS s.toList)).length)=some (qLd ⟨(qP (qS s.toList)).toArray⟩)∧
    qn m (b.extract (qP (qS s.toList)).length b.size) 2=some (l1I (qi (qS s.toList)) 2)∧
    qn m ((b.extract (qP (qS s.toList)).length b.size).extract 1 (b.extract (qP (qS s.toList)).length b.size).size) 2=some (l1I (qi (qS s.toList)).tail 2):=fun b fc hb hl _=>by
  have x1:b.extract 0 (qP (qS s.toList)).length=⟨(qP (qS s.toList)).toArray⟩:=qKa (by rw [qfO,hl,qZ9,qCV (qP (qS s.toList))])
  have x2:(b.extract (qP (qS s.toList)).length b.size).toList=qi (qS s.toList):=by rw [qMm,hl,qTM]
  have x3:((b.extract (qP (qS s.toList)).length b.size).extract 1 (b.extract (qP (qS s.toList)).length b.size).size).toList=(qi (qS s.toList)).tail:=by rw [qMm,x2,List.drop_one]
  obtain ⟨n1,h1⟩:=qcX (b.extract 0 (qP (qS s.toList)).length)
  obtain ⟨n2,h2⟩:=qHn (b.extract (qP (qS s.toList)).length b.size) 2 (by decide)
  obtain ⟨n3,h3⟩:=qHn ((b.extract (qP (qS s.toList)).length b.size).extract 1 (b.extract (qP (qS s.toList)).length b.size).size) 2 (by decide)
  rw [x1] at h1
  rw [x2] at h2
  rw [x3] at h3
  refine ⟨n1+n2+n3+b.size+2,fun m hm=>⟨?_,by rw [x1];exact h1 m (by omega),h2 m (by omega),h3 m (by omega)⟩⟩
  have:=qaA m b fc hb b.toList [] m rfl (by rw [←qCK];omega)
  simp only [List.length_nil,Int.natCast_zero,Nat.zero_add] at this
  rw [this,hl]
 have z:∀(b:ByteArray),b.toList=qS s.toList→((qP (qS s.toList)).length:Int)≤b.size:=fun b hl=>by
  have:=qbN (qS s.toList)
  rw [←hl] at this⊢
  rw [qCK]
  omega
 have k36:∀c:UInt8,((c.toNat:Int)==36)=(some c==some 36):=fun c=>by
  have h:=qhD c 36 (by decide)
  have u:UInt8.ofNat 36=36:=rfl
  rw [u] at h
  exact h
 unfold qBC
 have part:∀(b:ByteArray) (fc:Bool),b.size≤1048576→b.toList=qS s.toList→fc=(s.toList.head?==some 36)→
   ((fc=true∧b=s.extract 1 s.size∧∃c r,s.toList=c::r∧c=36)∨(fc=false∧b=s∧∀c r,s.toList=c::r→(some c==some (36:UInt8))=false))→
   Ev (qAj · s) (if (l1I (qS (qi (qS s.toList))) 2).2=true∧qCU (qLd ⟨(qP (qS s.toList)).toArray⟩) (l1I (qS (qi (qS s.toList))) 2).1=true then
    (qLd ⟨(qP (qS s.toList)).toArray⟩,(l1I (qS (qi (qS s.toList))) 2).1,s.toList.head?==some 36,(qi (qS s.toList)).head?==some 36,true) else (0,0,false,false,false)):=fun b fc hb2 hl hfc hcase=>by
  obtain ⟨n0,hm0⟩:=main b fc hb2 hl hfc
  have hz:=z b hl
  obtain ⟨n2,h2⟩:=qFZ (qLd ⟨(qP (qS s.toList)).toArray⟩) (l1I (qS (qi (qS s.toList))) 2).1
  have x2:(b.extract (qP (qS s.toList)).length b.size).toList=qi (qS s.toList):=by rw [qMm,hl,qTM]
  rw [←hfc]
  refine ⟨n0+n2+1,fun n hn=>?_⟩
  obtain ⟨m,rfl,hm⟩:=up1 hn
  obtain ⟨g1,g2,g3,g4⟩:=hm0 m (by omega)
  have h2:=h2 m (by omega)
  dsimp only at h2
  have e1:(1:Int).toNat=1:=rfl
  have e0:(0:Int).toNat=0:=rfl
  have start:∀q,(qCu m s).run=q→qAj (m+1) s=q:=fun q h=>h
  apply start
  rcases hcase with ⟨rfl,rfl,c,r,hcr,rfl⟩|⟨rfl,rfl,hno⟩
  ·have hsz:(s.size:Int)>0:=by rw [qCK,hcr];simp<;>omega
   have hs1:(1:Int)≤s.size:=by omega
   have hg:s.toList[0]?=some 36:=by rw [hcr];rfl
   have bs:(s.extract 1 s.size).size=s.size-1:=by rw [qCK,qMm,List.length_drop,←qCK]
   have zn:(qP (qS s.toList)).length≤s.size-1:=by rw [←bs];omega
   have sn:0<s.size:=by omega
   have c36:((((36:UInt8)).toNat:Int)==36)=true:=rfl
   simp only [qCu,qB,qC,qF,qG,qH,qI,Option.bind_some,qE,qJ,qK,Int.toNat_natCast,e0,e1,hg,c36,g1,g2]
   cases hq:qi (qS s.toList) with
   |nil=>
    have y0:((s.extract 1 s.size).extract (qP (qS s.toList)).length (s.extract 1 s.size).size).size=0:=by rw [qCK,x2,hq];rfl
    have hoff:qS (qi (qS s.toList))= []:=by rw [hq];rfl
    rw [hoff] at h2
    rw [hq] at g3
    simp only [y0,g3,h2,qB,qC,qF,qG,qH,qI,Option.bind_some,qE,qJ,qK]
    have hoff':qS ([]:List UInt8)= []:=rfl
    rw [hoff']
    generalize l1I ([]:List UInt8) 2=q at*
    obtain ⟨x,ok⟩:=q
    cases ok<;>cases hk:qCU (qLd ⟨(qP (qS s.toList)).toArray⟩) x<;>simp [hz,hsz,hs1,zn,sn]
   |cons d w=>
    have y0:(((s.extract 1 s.size).extract (qP (qS s.toList)).length (s.extract 1 s.size).size).size:Int)>0:=by rw [qCK,x2,hq];simp<;>omega
    have y1:(1:Int)≤((s.extract 1 s.size).extract (qP (qS s.toList)).length (s.extract 1 s.size).size).size:=by omega
    have ys:((s.extract 1 s.size).extract (qP (qS s.toList)).length (s.extract 1 s.size).size).size=(s.extract 1 s.size).size-(qP (qS s.toList)).length:=by rw [qCK,qMm,List.length_drop,←qCK]
    have yn:(qP (qS s.toList)).length<(s.size-1):=by rw [←bs];omega
    have yn2:1≤(s.size-1)-(qP (qS s.toList)).length:=by omega
    have yn3:0<(s.size-1)-(qP (qS s.toList)).length:=by omega
    have yn4:(1:Int)≤(((s.size-1)-(qP (qS s.toList)).length:Nat):Int):=by omega
    have yg:((s.extract 1 s.size).extract (qP (qS s.toList)).length (s.extract 1 s.size).size).toList[0]?=some d:=by rw [x2,hq];rfl
    rw [hq] at g3 g4 h2
    simp only [yg,k36 d,qB,qC,qF,qG,qH,qI,Option.bind_some,qE,qJ,qK]
    by_cases hd:d=36
    ·have hoff:qS (d::w)=w:=by unfold qS;rw [if_pos (by rw [hd];rfl)];rfl
     rw [hoff] at h2⊢
     have e36:(some d==some (36:UInt8))=true:=by rw [hd];rfl
     simp only [List.tail_cons] at g4
     simp only [e36,g4,h2,List.head?_cons,qB,qC,qF,qG,qH,qI,Option.bind_some,qE,qJ,qK]
     generalize l1I w 2=q at*
     obtain ⟨x,ok⟩:=q
     cases ok<;>cases hk:qCU (qLd ⟨(qP (qS s.toList)).toArray⟩) x<;>simp [hz,hsz,hs1,y0,y1,zn,sn,yn,yn2,yn3,yn4]
    ·have hoff:qS (d::w)=d::w:=by unfold qS;rw [if_neg (by simpa using hd)]
     rw [hoff] at h2⊢
     have e36:(some d==some (36:UInt8))=false:=by simpa using hd
     simp only [e36,g3,h2,List.head?_cons,qB,qC,qF,qG,qH,qI,Option.bind_some,qE,qJ,qK]
     generalize l1I (d::w) 2=q at*
     obtain ⟨x,ok⟩:=q
     cases ok<;>cases hk:qCU (qLd ⟨(qP (qS s.toList)).toArray⟩) x<;>simp [hz,hsz,hs1,y0,y1,zn,sn,yn,yn2,yn3,yn4]
  ·by_cases hs0:(b.size:Int)>0
   ·obtain ⟨c,r,hcr⟩:∃c r,b.toList=c::r:=by
     cases hq:b.toList with
     |nil=>rw [qCK,hq] at hs0;simp at hs0
     |cons a l=>exact ⟨a,l,rfl⟩
    have hg:b.toList[0]?=some c:=by rw [hcr];rfl
    have hc:=hno c r hcr
    have hsz:(b.size:Int)>0:=hs0
    have hs1:(1:Int)≤b.size:=by omega
    have zn:(qP (qS b.toList)).length≤b.size:=by omega
    have sn:0<b.size:=by omega
    simp only [qCu,qB,qC,qF,qG,qH,qI,Option.bind_some,qE,qJ,qK,Int.toNat_natCast,e0,e1,hg,k36 c,hc,g1,g2]
    cases hq:qi (qS b.toList) with
    |nil=>
     have y0:(b.extract (qP (qS b.toList)).length b.size).size=0:=by rw [qCK,x2,hq];rfl
     have hoff:qS (qi (qS b.toList))= []:=by rw [hq];rfl
     rw [hoff] at h2
     rw [hq] at g3
     simp only [y0,g3,h2,qB,qC,qF,qG,qH,qI,Option.bind_some,qE,qJ,qK]
     have hoff':qS ([]:List UInt8)= []:=rfl
     rw [hoff']
     generalize l1I ([]:List UInt8) 2=q at*
     obtain ⟨x,ok⟩:=q
     cases ok<;>cases hk:qCU (qLd ⟨(qP (qS b.toList)).toArray⟩) x<;>simp [hz,hsz,hs1,zn,sn]
    |cons d w=>
     have y0:((b.extract (qP (qS b.toList)).length b.size).size:Int)>0:=by rw [qCK,x2,hq];simp<;>omega
     have y1:(1:Int)≤(b.extract (qP (qS b.toList)).length b.size).size:=by omega
     have ys:(b.extract (qP (qS b.toList)).length b.size).size=b.size-(qP (qS b.toList)).length:=by rw [qCK,qMm,List.length_drop,←qCK]
     have yn:(qP (qS b.toList)).length<b.size:=by omega
     have yn2:1≤b.size-(qP (qS b.toList)).length:=by omega
     have yn3:0<b.size-(qP (qS b.toList)).length:=by omega
     have yn4:(1:Int)≤((b.size-(qP (qS b.toList)).length:Nat):Int):=by omega
     have yg:(b.extract (qP (qS b.toList)).length b.size).toList[0]?=some d:=by rw [x2,hq];rfl
     rw [hq] at g3 g4 h2
     simp only [yg,k36 d,qB,qC,qF,qG,qH,qI,Option.bind_some,qE,qJ,qK]
     by_cases hd:d=36
     ·have hoff:qS (d::w)=w:=by unfold qS;rw [if_pos (by rw [hd];rfl)];rfl
      rw [hoff] at h2⊢
      have e36:(some d==some (36:UInt8))=true:=by rw [hd];rfl
      simp only [List.tail_cons] at g4
      simp only [e36,g4,h2,List.head?_cons,qB,qC,qF,qG,qH,qI,Option.bind_some,qE,qJ,qK]
      generalize l1I w 2=q at*
      obtain ⟨x,ok⟩:=q
      cases ok<;>cases hk:qCU (qLd ⟨(qP (qS b.toList)).toArray⟩) x<;>simp [hz,hsz,hs1,y0,y1,zn,sn,yn,yn2,yn3,yn4]
     ·have hoff:qS (d::w)=d::w:=by unfold qS;rw [if_neg (by simpa using hd)]
      rw [hoff] at h2⊢
      have e36:(some d==some (36:UInt8))=false:=by simpa using hd
      simp only [e36,g3,h2,List.head?_cons,qB,qC,qF,qG,qH,qI,Option.bind_some,qE,qJ,qK]
      generalize l1I (d::w) 2=q at*
      obtain ⟨x,ok⟩:=q
      cases ok<;>cases hk:qCU (qLd ⟨(qP (qS b.toList)).toArray⟩) x<;>simp [hz,hsz,hs1,y0,y1,zn,sn,yn,yn2,yn3,yn4]
   ·have hsz:¬(b.size:Int)>0:=hs0
    have hs1:True:=trivial
    have zn:(qP (qS b.toList)).length≤b.size:=by omega
    have sn:b.size=0:=by omega
    have lb:b.toList= []:=List.eq_nil_of_length_eq_zero (by rw [←qCK];omega)
    have hb0:qi (qS b.toList)= []:=by rw [lb];rfl
    have ln:qP (qS b.toList)= []:=by rw [lb];rfl
    simp only [qCu,qB,qC,qF,qG,qH,qI,Option.bind_some,qE,qJ,qK,Int.toNat_natCast,e0,e1,g1,g2]
    cases hq:qi (qS b.toList) with
    |nil=>
     have y0:(b.extract (qP (qS b.toList)).length b.size).size=0:=by rw [qCK,x2,hq];rfl
     have hoff:qS (qi (qS b.toList))= []:=by rw [hq];rfl
     rw [hoff] at h2
     rw [hq] at g3
     simp only [y0,g3,h2,qB,qC,qF,qG,qH,qI,Option.bind_some,qE,qJ,qK]
     have hoff':qS ([]:List UInt8)= []:=rfl
     rw [hoff']
     generalize l1I ([]:List UInt8) 2=q at*
     obtain ⟨x,ok⟩:=q
     cases ok<;>cases hk:qCU (qLd ⟨(qP (qS b.toList)).toArray⟩) x<;>simp [hz,hsz,hs1,zn,sn,ln]
    |cons d w=>rw [hb0] at hq;cases hq
 by_cases h36:s.toList.head?=some 36
 ·have ho:qS s.toList=s.toList.tail:=by unfold qS;rw [if_pos h36]
  have ht:(s.extract 1 s.size).toList=s.toList.tail:=by rw [qMm,List.drop_one]
  obtain ⟨c,r,hcr⟩:∃c r,s.toList=c::r:=by
   cases hq:s.toList with
   |nil=>rw [hq] at h36;cases h36
   |cons a l=>exact ⟨a,l,rfl⟩
  refine part (s.extract 1 s.size) true (by rw [qCK,ht,List.length_tail,←qCK];omega) (by rw [ht,ho]) (by rw [h36];rfl) (.inl ⟨rfl,rfl,c,r,hcr,?_⟩)
  rw [hcr] at h36
  simpa using h36
 ·have ho:qS s.toList=s.toList:=by unfold qS;rw [if_neg h36]
  refine part s false hb ho.symm (by symm;simpa using h36) (.inr ⟨rfl,rfl,fun c r hcr=>?_⟩)
  rw [hcr] at h36
  simpa using h36
def upS:ByteArray:=⟨#[65,66,67,68,69,70,71,72,73,74,75,76,77,78,79,80,81,82,83,84,85,86,87,88,89,90]⟩
theorem qhj:∀i:Fin 256,(upS.data.toList.contains (UInt8.ofNat i.val))=(decide (65≤i.val)&&decide (i.val≤90)):=by decide+kernel
theorem qiN (c:UInt8):(upS.data.toList.contains c)=qSh c:=by
 have h:=qhj ⟨c.toNat,UInt8.toNat_lt c⟩
 have e:UInt8.ofNat c.toNat=c:=by simp
 simp only [e] at h
 exact h
theorem qgk:(upS.data.toList.all fun b=>decide (b.toNat<128))=true:=by decide+kernel
theorem qfP (s:ByteArray):Ev (qA6 · s ⟨#[65,66,67,68,69,70,71,72,73,74,75,76,77,78,79,80,81,82,83,84,85,86,87,88,89,90]⟩) ⟨(qi s.toList).toArray⟩:=by
 refine ⟨1,fun n hn=>?_⟩
 obtain ⟨m,rfl,hm⟩:=up1 hn
 show zg s upS=_
 unfold zg
 rw [if_pos ⟨by decide,qgk⟩]
 unfold Lib.trimLeftS qi
 rw [Go.Lib.toList_data]
 have:(fun c=>upS.data.toList.contains c)=qSh:=funext qiN
 rw [this]
theorem qfQ (s:ByteArray):Ev (qr · s ⟨#[36]⟩) (⟨(qS s.toList).toArray⟩,s.toList.head?==some 36):=by
 have h:=qOL s 36
 have es:(⟨s.toList.toArray⟩:ByteArray)=s:=qKa (qCV s.toList)
 by_cases e:s.toList.head?=some 36
 ·rw [if_pos e] at h
  have:(s.toList.head?==some 36)=true:=by simpa using e
  unfold qS
  rw [if_pos e,this]
  exact h
 ·rw [if_neg e] at h
  have:(s.toList.head?==some 36)=false:=by simpa using e
  unfold qS
  rw [if_neg e,this,es]
  exact h
theorem qhF {r:Int} (h:1≤r∧r≤99):l1I (Lib.itoa r) 2=(r,true):=by
 have e:Lib.itoa r=Lib.decDigits r.toNat:=by unfold Lib.itoa;rw [if_neg (by omega)]
 obtain ⟨h1,h2,h3,_,_⟩:=qSg r.toNat
 have hl:(Lib.decDigits r.toNat).length≤2:=by
  rw [Lib.decDigits_length]
  exact qhX 2 r.toNat (by omega) (by
   have:(10:Nat)^2=100:=by decide
   omega)
 rw [e]
 unfold l1I
 rw [if_pos ⟨by omega,qeS _⟩,h2]
 congr 1
 omega
theorem qiO {l:List UInt8} (h:(l1I l 2).2=true):(l1I l 2).1=(qAi 0 l:Int)∧Lib.decDigits (qAi 0 l)=l:=by
 unfold l1I at h⊢
 split at h
 ·rename_i hc
  rw [if_pos hc]
  exact ⟨rfl,qa2 _ l rfl hc.2⟩
 ·cases h
theorem qgl (s:ByteArray):qBC s=if qCU (qLd ⟨(qP (qS s.toList)).toArray⟩) (qB2 ⟨(qS (qi (qS s.toList))).toArray⟩)=true∧
  (qCn (qLd ⟨(qP (qS s.toList)).toArray⟩) (qB2 ⟨(qS (qi (qS s.toList))).toArray⟩) (s.toList.head?==some 36) ((qi (qS s.toList)).head?==some 36)).toList=s.toList then
   (qLd ⟨(qP (qS s.toList)).toArray⟩,qB2 ⟨(qS (qi (qS s.toList))).toArray⟩,s.toList.head?==some 36,(qi (qS s.toList)).head?==some 36,true) else (0,0,false,false,false):=by
 have hoff:∀l:List UInt8,l=(if (l.head?==some 36)=true then [36] else [])++qS l:=fun l=>by
  unfold qS
  cases l with
  |nil=>rfl
  |cons c r=>
   by_cases e:c=36
   ·subst e;simp
   ·simp [e]
 have hsplit:qS s.toList=qP (qS s.toList)++qi (qS s.toList):=(List.takeWhile_append_dropWhile (p:=qSh) (l:=qS s.toList)).symm
 have hs:s.toList=(if (s.toList.head?==some 36)=true then [36] else [])++qP (qS s.toList)++(if ((qi (qS s.toList)).head?==some 36)=true then [36] else [])++qS (qi (qS s.toList)):=by
  conv=>lhs;rw [hoff s.toList,hsplit,hoff (qi (qS s.toList))]
  simp only [List.append_assoc]
 unfold qBC
 generalize hL:qP (qS s.toList)=L at*
 generalize hR:qS (qi (qS s.toList))=R at*
 generalize (s.toList.head?==some 36)=fc at*
 generalize ((qi (qS s.toList)).head?==some 36)=fr at*
 have col:∀r,qCU (qLd ⟨L.toArray⟩) r=true→(qFV (qLd ⟨L.toArray⟩)).data.toList=L:=fun r h=>by
  have:=qgj (⟨L.toArray⟩:ByteArray) 52 1 (qSf h).1.1
  rw [qCV L,Go.Lib.toList_data] at this
  exact this
 have pl:∀r,qCU (qLd ⟨L.toArray⟩) r=true→(qCn (qLd ⟨L.toArray⟩) r fc fr).toList=(if fc=true then [36] else [])++L++(if fr=true then [36] else [])++Lib.itoa r:=fun r h=>by
  rw [Go.Lib.toList_data]
  unfold qCn
  rw [if_pos h,col r h]
  simp [qPv]
 have tR:(⟨R.toArray⟩:ByteArray).toList=R:=qCV R
 by_cases hA:(l1I R 2).2=true∧qCU (qLd ⟨L.toArray⟩) (l1I R 2).1=true
 ·obtain ⟨a1,a2⟩:=qiO hA.1
  have hr:=(qSf hA.2).2
  have hi:R=Lib.itoa (l1I R 2).1:=by
   rw [a1]
   unfold Lib.itoa
   rw [if_neg (by omega),Int.toNat_natCast,a2]
  have hp:qB2 ⟨R.toArray⟩=(l1I R 2).1:=qbK (by rw [tR];exact hi) (by omega)
  rw [if_pos hA,hp,if_pos ⟨hA.2,by rw [pl _ hA.2,←hi];exact hs.symm⟩]
 ·rw [if_neg hA,if_neg]
  rintro ⟨h1,h2⟩
  rw [pl _ h1] at h2
  have h3:R=Lib.itoa (qB2 ⟨R.toArray⟩):=by
   rw [hs] at h2
   exact (List.append_cancel_left h2).symm
  have h4:=qhF (qSf h1).2
  rw [←h3] at h4
  exact hA (by rw [h4];exact ⟨rfl,h1⟩)
theorem qaC (s:ByteArray) (hb:s.size≤1048576):Ev (qAQ · s) (qBC s):=by
 rw [qgl]
 have hlen:=qbN (qS s.toList)
 have lo:(qS s.toList).length≤s.size:=by
  unfold qS
  rw [qCK]
  split
  ·rw [List.length_tail];omega
  ·exact Nat.le_refl _
 have l2:(qi (qS s.toList)).length+(qP (qS s.toList)).length=(qS s.toList).length:=by
  have h:=congrArg List.length (List.takeWhile_append_dropWhile (p:=qSh) (l:=qS s.toList))
  rw [List.length_append] at h
  unfold qi qP
  omega
 have z1:(⟨(qS s.toList).toArray⟩:ByteArray).size=(qS s.toList).length:=by rw [qCK,qCV (qS s.toList)]
 have z2:(⟨(qi (qS s.toList)).toArray⟩:ByteArray).size=(qi (qS s.toList)).length:=by rw [qCK,qCV (qi (qS s.toList))]
 have w1:IntKind.i64.wrap (((qS s.toList).length:Int)-(qi (qS s.toList)).length)=((qP (qS s.toList)).length:Int):=by rw [qa (by omega)];omega
 have x1:(⟨(qS s.toList).toArray⟩:ByteArray).extract 0 (qP (qS s.toList)).length=⟨(qP (qS s.toList)).toArray⟩:=qKa (by rw [qfO,qCV (qS s.toList),qZ9,qCV (qP (qS s.toList))])
 have x2:(⟨(qS s.toList).toArray⟩:ByteArray).extract (qP (qS s.toList)).length (qS s.toList).length=⟨(qi (qS s.toList)).toArray⟩:=qKa (by rw [←z1,qMm,qCV (qS s.toList),qTM,qCV (qi (qS s.toList))])
 have lr:(⟨(qS (qi (qS s.toList))).toArray⟩:ByteArray).size≤281474976710656:=by
  rw [qCK,qCV (qS (qi (qS s.toList)))]
  have:(qS (qi (qS s.toList))).length≤(qi (qS s.toList)).length:=by
   generalize qi (qS s.toList)=q
   unfold qS
   split
   ·rw [List.length_tail];omega
   ·exact Nat.le_refl _
  omega
 obtain ⟨n1,h1⟩:=qfQ s
 obtain ⟨n2,h2⟩:=qfP ⟨(qS s.toList).toArray⟩
 rw [qCV (qS s.toList)] at h2
 obtain ⟨n3,h3⟩:=qcY ⟨(qP (qS s.toList)).toArray⟩
 obtain ⟨n4,h4⟩:=qfQ ⟨(qi (qS s.toList)).toArray⟩
 rw [qCV (qi (qS s.toList))] at h4
 generalize qS s.toList=A at*
 generalize qi A=Bq at*
 generalize qP A=L at*
 generalize qS Bq=R at*
 generalize (s.toList.head?==some 36)=fc at*
 generalize (Bq.head?==some 36)=fr at*
 obtain ⟨n5,h5⟩:=qHm (qLd ⟨L.toArray⟩) (qB2 ⟨R.toArray⟩)
 obtain ⟨n6,h6⟩:=qFt (qLd ⟨L.toArray⟩) (qB2 ⟨R.toArray⟩) fc fr
 have e0:(0:Int).toNat=0:=rfl
 have c1:L.length≤A.length:=by omega
 rcases qbL ⟨R.toArray⟩ lr with ⟨n7,h7⟩|⟨n7,h7⟩
 all_goals
  refine ⟨n1+n2+n3+n4+n5+n6+n7+1,fun n hn=>?_⟩
  obtain ⟨m,rfl,hm⟩:=up1 hn
  have h1:=h1 m (by omega)
  have h2:=h2 m (by omega)
  have h3:=h3 m (by omega)
  have h4:=h4 m (by omega)
  have h5:=h5 m (by omega)
  have h6:=h6 m (by omega)
  have h7:=h7 m (by omega)
  dsimp only at h1 h2 h3 h4 h5 h6 h7
  simp only [qAQ,qLY,qB,qC,qF,qG,qH,qI,Option.bind_some,qE,qJ,qK,h1,h2,z1,z2,w1,Int.toNat_natCast,e0,x1,x2,h3,h4,h5,h6,h7]
  cases hk:qCU (qLd ⟨L.toArray⟩) (qB2 ⟨R.toArray⟩) with
  |false=>simp [c1]
  |true=>by_cases e:(qCn (qLd ⟨L.toArray⟩) (qB2 ⟨R.toArray⟩) fc fr).toList=s.toList<;>simp [c1,e]
theorem qWQ (c r:Int) (fc fr:Bool):(qCn c r fc fr).size≤30:=by
 unfold qCn
 split
 ·rename_i h
  have h1:=qa1 c
  have h2:=qYs (qSf h).2
  rw [qEC]
  cases fc<;>cases fr<;>simp<;>omega
 ·decide
abbrev Nd:=Int×Int×Int×Int×ByteArray×Int×Int×Bool×Bool×Int×Int×Bool×Bool×List Int
def qBI (x:Int):List PV:= [.i .i64 x]
def qV (c:Nd):List PV:= [.i .i64 c.1,.i .i64 c.2.1,.i .i64 c.2.2.1,.i .i64 c.2.2.2.1,.s c.2.2.2.2.1,.i .i64 c.2.2.2.2.2.1,.i .i64 c.2.2.2.2.2.2.1,.b c.2.2.2.2.2.2.2.1,.b c.2.2.2.2.2.2.2.2.1,.i .i64 c.2.2.2.2.2.2.2.2.2.1,.i .i64 c.2.2.2.2.2.2.2.2.2.2.1,.b c.2.2.2.2.2.2.2.2.2.2.2.1,.b c.2.2.2.2.2.2.2.2.2.2.2.2.1,.ls ((c.2.2.2.2.2.2.2.2.2.2.2.2.2).map qBI)]
def kd (c:Nd):List Int:=c.2.2.2.2.2.2.2.2.2.2.2.2.2
def qSi (op n:Int):Bool:=if op=5 then decide (n=2∨n=3) else if 8≤op∧op≤10 then decide (n=1) else if 1≤op∧op≤7 then decide (1≤n∧n≤10) else false
theorem ten {op:Int} (h:1≤op∧op≤10):op=1∨op=2∨op=3∨op=4∨op=5∨op=6∨op=7∨op=8∨op=9∨op=10:=by omega
theorem qdf (op n:Int):Ev (qHf · op n) (qSi op n):=by
 refine ⟨1,fun n hn=>?_⟩
 obtain ⟨m,rfl,hm⟩:=up1 hn
 simp only [qHf,qRA,qB,qC,qF,qG,qH,qI,Option.bind_some,qE,qJ,qK]
 by_cases h:1≤op∧op≤10
 ·rcases ten h with rfl|rfl|rfl|rfl|rfl|rfl|rfl|rfl|rfl|rfl
  all_goals
   first
   |(by_cases h2:n=2<;>simp [qSi,h2];done)
   |(by_cases h1:n≥1<;>simp [qSi,h1];done)
   |(by_cases h1:n=1<;>simp [qSi,h1];done)
   |(by_cases h2:n=2<;>by_cases h3:n=3<;>simp [qSi,h2,h3];done)
   |(simp [qSi];done)
 ·have e1:¬op=1:=by omega
  have e2:¬op=2:=by omega
  have e3:¬op=3:=by omega
  have e4:¬op=4:=by omega
  have e5:¬op=5:=by omega
  have e6:¬op=6:=by omega
  have e7:¬op=7:=by omega
  have e8:¬op=8:=by omega
  have e9:¬op=9:=by omega
  have e10:¬op=10:=by omega
  have g1:¬(8≤op∧op≤10):=by omega
  have g2:¬(1≤op∧op≤7):=by omega
  simp [qSi,e1,e2,e3,e4,e5,e6,e7,e8,e9,e10,g1,g2]
def zV (k x:Int) (s:ByteArray):Bool:=decide (k=0)&&(decide (x=0)&&(s.toList== []))
def zP (a b:Int) (f g:Bool):Bool:=decide (a=0)&&(decide (b=0)&&(!f&&!g))
def qNz (c:Nd):Bool:=
 if c.1=1 then decide (c.2.1=0)&&(zP c.2.2.2.2.2.1 c.2.2.2.2.2.2.1 c.2.2.2.2.2.2.2.1 c.2.2.2.2.2.2.2.2.1&&(zP c.2.2.2.2.2.2.2.2.2.1 c.2.2.2.2.2.2.2.2.2.2.1 c.2.2.2.2.2.2.2.2.2.2.2.1 c.2.2.2.2.2.2.2.2.2.2.2.2.1&&(decide ((kd c).length=0)&&(okV c.2.2.1 c.2.2.2.1 c.2.2.2.2.1&&(!decide (c.2.2.1=0)&&(!decide (c.2.2.1=1)||decide (c.2.2.2.1≥0))))))) else
 if c.1=2 then decide (c.2.1=0)&&(zV c.2.2.1 c.2.2.2.1 c.2.2.2.2.1&&(zP c.2.2.2.2.2.2.2.2.2.1 c.2.2.2.2.2.2.2.2.2.2.1 c.2.2.2.2.2.2.2.2.2.2.2.1 c.2.2.2.2.2.2.2.2.2.2.2.2.1&&(decide ((kd c).length=0)&&qCU c.2.2.2.2.2.1 c.2.2.2.2.2.2.1))) else
 if c.1=3 then decide (c.2.1=0)&&(zV c.2.2.1 c.2.2.2.1 c.2.2.2.2.1&&(decide ((kd c).length=0)&&qPi c.2.2.2.2.2.1 c.2.2.2.2.2.2.1 c.2.2.2.2.2.2.2.2.2.1 c.2.2.2.2.2.2.2.2.2.2.1)) else
 if c.1=4 then decide (c.2.1=0)&&(zV c.2.2.1 c.2.2.2.1 c.2.2.2.2.1&&(zP c.2.2.2.2.2.1 c.2.2.2.2.2.2.1 c.2.2.2.2.2.2.2.1 c.2.2.2.2.2.2.2.2.1&&(zP c.2.2.2.2.2.2.2.2.2.1 c.2.2.2.2.2.2.2.2.2.2.1 c.2.2.2.2.2.2.2.2.2.2.2.1 c.2.2.2.2.2.2.2.2.2.2.2.2.1&&decide ((kd c).length=1)))) else
 if c.1=5 then decide (1≤c.2.1∧c.2.1≤11)&&(zV c.2.2.1 c.2.2.2.1 c.2.2.2.2.1&&(zP c.2.2.2.2.2.1 c.2.2.2.2.2.2.1 c.2.2.2.2.2.2.2.1 c.2.2.2.2.2.2.2.2.1&&(zP c.2.2.2.2.2.2.2.2.2.1 c.2.2.2.2.2.2.2.2.2.2.1 c.2.2.2.2.2.2.2.2.2.2.2.1 c.2.2.2.2.2.2.2.2.2.2.2.2.1&&decide ((kd c).length=2)))) else
 if c.1=6 then qSi c.2.1 ((kd c).length:Int)&&(zV c.2.2.1 c.2.2.2.1 c.2.2.2.2.1&&(zP c.2.2.2.2.2.1 c.2.2.2.2.2.2.1 c.2.2.2.2.2.2.2.1 c.2.2.2.2.2.2.2.2.1&&zP c.2.2.2.2.2.2.2.2.2.1 c.2.2.2.2.2.2.2.2.2.2.1 c.2.2.2.2.2.2.2.2.2.2.2.1 c.2.2.2.2.2.2.2.2.2.2.2.2.1)) else false
theorem qiP (k x:Int) (s:ByteArray):((k==(0:Int))&&((x==(0:Int))&&((s.toList==(⟨#[]⟩:ByteArray).toList)&&true)))=zV k x s:=by
 rw [qAI]
 unfold zV
 by_cases h:k=0<;>by_cases h2:x=0<;>simp [h,h2]
theorem qiQ (k x:Int) (s:ByteArray):(((0:Int)==k)&&(((0:Int)==x)&&(((⟨#[]⟩:ByteArray).toList==s.toList)&&true)))=zV k x s:=by
 rw [←qiP]
 congr 1
 ·exact Bool.beq_comm
 ·congr 1
  ·exact Bool.beq_comm
  ·congr 1
   exact Bool.beq_comm
theorem qiR (a b:Int) (f g:Bool):((a==(0:Int))&&((b==(0:Int))&&((f==false)&&((g==false)&&true))))=zP a b f g:=by
 unfold zP
 by_cases h:a=0<;>by_cases h2:b=0<;>cases f<;>cases g<;>simp [h,h2]
theorem qiS (a b:Int) (f g:Bool):(((0:Int)==a)&&(((0:Int)==b)&&((false==f)&&((false==g)&&true))))=zP a b f g:=by
 rw [←qiR]
 congr 1
 ·exact Bool.beq_comm
 ·congr 1
  ·exact Bool.beq_comm
  ·cases f<;>cases g<;>rfl
theorem qSj (c:Nd) (hb:c.2.2.2.2.1.size≤140737488351232):Ev (qBt · c.1 c.2.1 c.2.2.1 c.2.2.2.1 c.2.2.2.2.1 c.2.2.2.2.2.1 c.2.2.2.2.2.2.1 c.2.2.2.2.2.2.2.1 c.2.2.2.2.2.2.2.2.1 c.2.2.2.2.2.2.2.2.2.1 c.2.2.2.2.2.2.2.2.2.2.1 c.2.2.2.2.2.2.2.2.2.2.2.1 c.2.2.2.2.2.2.2.2.2.2.2.2.1 ((c.2.2.2.2.2.2.2.2.2.2.2.2.2).map qBI)) (qNz c):=by
 obtain ⟨n1,h1⟩:=qAE c.2.2.1 c.2.2.2.1 c.2.2.2.2.1 hb
 obtain ⟨n2,h2⟩:=qFZ c.2.2.2.2.2.1 c.2.2.2.2.2.2.1
 obtain ⟨n3,h3⟩:=qda c.2.2.2.2.2.1 c.2.2.2.2.2.2.1 c.2.2.2.2.2.2.2.2.2.1 c.2.2.2.2.2.2.2.2.2.2.1
 obtain ⟨n4,h4⟩:=qDo c.2.1 1 11
 obtain ⟨n5,h5⟩:=qdf c.2.1 (((c.2.2.2.2.2.2.2.2.2.2.2.2.2).map qBI).length:Int)
 refine ⟨n1+n2+n3+n4+n5+1,fun n hn=>?_⟩
 obtain ⟨m,rfl,hm⟩:=up1 hn
 have h1:=h1 m (by omega)
 dsimp only at h1
 have h2:=h2 m (by omega)
 dsimp only at h2
 have h3:=h3 m (by omega)
 dsimp only at h3
 have h4:=h4 m (by omega)
 dsimp only at h4
 have h5:=h5 m (by omega)
 dsimp only at h5
 simp only [qBt,qMv,qB,qC,qF,qG,qH,qI,Option.bind_some,qE,qJ,qK,h1,h2,h3,h4,h5]
 have hk:((c.2.2.2.2.2.2.2.2.2.2.2.2.2).map qBI).length=(kd c).length:=by rw [List.length_map];rfl
 simp only [qiP,qiR,hk]
 unfold qNz
 by_cases k1:c.1=1
 ·simp only [k1,if_true,beq_self_eq_true]
  cases zP c.2.2.2.2.2.1 c.2.2.2.2.2.2.1 c.2.2.2.2.2.2.2.1 c.2.2.2.2.2.2.2.2.1<;>cases zP c.2.2.2.2.2.2.2.2.2.1 c.2.2.2.2.2.2.2.2.2.2.1 c.2.2.2.2.2.2.2.2.2.2.2.1 c.2.2.2.2.2.2.2.2.2.2.2.2.1<;>cases okV c.2.2.1 c.2.2.2.1 c.2.2.2.2.1<;>by_cases h0:c.2.1=0<;>by_cases h1:(kd c).length=0<;>by_cases h2:c.2.2.1=0<;>by_cases h3:c.2.2.1=1<;>simp [h0,h1,h2,h3]
 by_cases k2:c.1=2
 ·simp only [k2]
  cases zV c.2.2.1 c.2.2.2.1 c.2.2.2.2.1<;>cases zP c.2.2.2.2.2.2.2.2.2.1 c.2.2.2.2.2.2.2.2.2.2.1 c.2.2.2.2.2.2.2.2.2.2.2.1 c.2.2.2.2.2.2.2.2.2.2.2.2.1<;>cases qCU c.2.2.2.2.2.1 c.2.2.2.2.2.2.1<;>by_cases h0:c.2.1=0<;>by_cases h1:(kd c).length=0<;>simp [h0,h1]
 by_cases k3:c.1=3
 ·simp only [k3]
  cases zV c.2.2.1 c.2.2.2.1 c.2.2.2.2.1<;>cases qPi c.2.2.2.2.2.1 c.2.2.2.2.2.2.1 c.2.2.2.2.2.2.2.2.2.1 c.2.2.2.2.2.2.2.2.2.2.1<;>by_cases h0:c.2.1=0<;>by_cases h1:(kd c).length=0<;>simp [h0,h1]
 by_cases k4:c.1=4
 ·simp only [k4]
  cases zV c.2.2.1 c.2.2.2.1 c.2.2.2.2.1<;>cases zP c.2.2.2.2.2.1 c.2.2.2.2.2.2.1 c.2.2.2.2.2.2.2.1 c.2.2.2.2.2.2.2.2.1<;>cases zP c.2.2.2.2.2.2.2.2.2.1 c.2.2.2.2.2.2.2.2.2.2.1 c.2.2.2.2.2.2.2.2.2.2.2.1 c.2.2.2.2.2.2.2.2.2.2.2.2.1<;>by_cases h0:c.2.1=0<;>by_cases h1:(kd c).length=1<;>simp [h0,h1]<;>omega
 by_cases k5:c.1=5
 ·simp only [k5]
  cases zV c.2.2.1 c.2.2.2.1 c.2.2.2.2.1<;>cases zP c.2.2.2.2.2.1 c.2.2.2.2.2.2.1 c.2.2.2.2.2.2.2.1 c.2.2.2.2.2.2.2.2.1<;>cases zP c.2.2.2.2.2.2.2.2.2.1 c.2.2.2.2.2.2.2.2.2.2.1 c.2.2.2.2.2.2.2.2.2.2.2.1 c.2.2.2.2.2.2.2.2.2.2.2.2.1<;>by_cases h0:1≤c.2.1∧c.2.1≤11<;>by_cases h1:(kd c).length=2<;>simp [h0,h1]<;>omega
 by_cases k6:c.1=6
 ·simp only [k6]
  cases zV c.2.2.1 c.2.2.2.1 c.2.2.2.2.1<;>cases zP c.2.2.2.2.2.1 c.2.2.2.2.2.2.1 c.2.2.2.2.2.2.2.1 c.2.2.2.2.2.2.2.2.1<;>cases zP c.2.2.2.2.2.2.2.2.2.1 c.2.2.2.2.2.2.2.2.2.2.1 c.2.2.2.2.2.2.2.2.2.2.2.1 c.2.2.2.2.2.2.2.2.2.2.2.2.1<;>cases qSi c.2.1 ((kd c).length:Int)<;>simp
 simp [k1,k2,k3,k4,k5,k6]
theorem qdg (c:Nd):Ev (qAG · c.1 c.2.1 c.2.2.1 c.2.2.2.1 c.2.2.2.2.1 c.2.2.2.2.2.1 c.2.2.2.2.2.2.1 c.2.2.2.2.2.2.2.1 c.2.2.2.2.2.2.2.2.1 c.2.2.2.2.2.2.2.2.2.1 c.2.2.2.2.2.2.2.2.2.2.1 c.2.2.2.2.2.2.2.2.2.2.2.1 c.2.2.2.2.2.2.2.2.2.2.2.2.1 ((c.2.2.2.2.2.2.2.2.2.2.2.2.2).map qBI)) (if c.1=4 then decide (c.2.1=0)&&decide ((kd c).length=1) else if c.1=5 then decide (1≤c.2.1∧c.2.1≤11)&&decide ((kd c).length=2) else if c.1=6 then qSi c.2.1 ((kd c).length:Int) else decide (c.2.1=0)&&decide ((kd c).length=0)):=by
 obtain ⟨n1,h1⟩:=qAU c.2.1 1 11
 obtain ⟨n2,h2⟩:=qAU c.2.1 1 10
 obtain ⟨n3,h3⟩:=qAU (((c.2.2.2.2.2.2.2.2.2.2.2.2.2).map qBI).length:Int) 2 3
 obtain ⟨n4,h4⟩:=qAU (((c.2.2.2.2.2.2.2.2.2.2.2.2.2).map qBI).length:Int) 1 10
 refine ⟨n1+n2+n3+n4+1,fun n hn=>?_⟩
 obtain ⟨m,rfl,hm⟩:=up1 hn
 have h1:=h1 m (by omega)
 dsimp only at h1
 have h2:=h2 m (by omega)
 dsimp only at h2
 have h3:=h3 m (by omega)
 dsimp only at h3
 have h4:=h4 m (by omega)
 dsimp only at h4
 simp only [qAG,qHX,qB,qC,qF,qG,qH,qI,Option.bind_some,qE,qJ,qK,h1,h2,h3,h4]
 have hk:((c.2.2.2.2.2.2.2.2.2.2.2.2.2).map qBI).length=(kd c).length:=by rw [List.length_map];rfl
 simp only [hk]
 by_cases k4:c.1=4
 ·simp only [k4]
  by_cases h0:c.2.1=0<;>by_cases h1:(kd c).length=1<;>simp [h0,h1]<;>omega
 by_cases k5:c.1=5
 ·simp only [k5]
  by_cases h0:1≤c.2.1∧c.2.1≤11<;>by_cases h1:(kd c).length=2<;>simp [h0,h1]<;>omega
 by_cases k6:c.1=6
 ·simp only [k6]
  unfold qSi
  by_cases h:1≤c.2.1∧c.2.1≤10
  ·by_cases h5:c.2.1=5
   ·have:(2≤((kd c).length:Int)∧((kd c).length:Int)≤3)↔(((kd c).length:Int)=2∨((kd c).length:Int)=3):=by omega
    simp [h5,this]
   ·by_cases h8:c.2.1≥8
    ·have g:8≤c.2.1∧c.2.1≤10:=by omega
     by_cases h1:((kd c).length:Int)=1<;>simp [h,h5,h8,g,h1]
    ·have g:¬(8≤c.2.1∧c.2.1≤10):=by omega
     have g':1≤c.2.1∧c.2.1≤7:=by omega
     simp [h,h5,h8,g,g']
  ·have h5:¬c.2.1=5:=by omega
   have g:¬(8≤c.2.1∧c.2.1≤10):=by omega
   have g':¬(1≤c.2.1∧c.2.1≤7):=by omega
   simp [h,h5,g,g']
 by_cases h0:c.2.1=0<;>by_cases h1:(kd c).length=0<;>simp [k4,k5,k6,h0,h1]<;>omega
theorem qa4 (c:Nd):Ev (qp · c.1 c.2.1 c.2.2.1 c.2.2.2.1 c.2.2.2.2.1 c.2.2.2.2.2.1 c.2.2.2.2.2.2.1 c.2.2.2.2.2.2.2.1 c.2.2.2.2.2.2.2.2.1 c.2.2.2.2.2.2.2.2.2.1 c.2.2.2.2.2.2.2.2.2.2.1 c.2.2.2.2.2.2.2.2.2.2.2.1 c.2.2.2.2.2.2.2.2.2.2.2.2.1 ((c.2.2.2.2.2.2.2.2.2.2.2.2.2).map qBI)) (if c.1=2 then qPi c.2.2.2.2.2.1 c.2.2.2.2.2.2.1 c.2.2.2.2.2.1 c.2.2.2.2.2.2.1 else if c.1=3 then qPi c.2.2.2.2.2.1 c.2.2.2.2.2.2.1 c.2.2.2.2.2.2.2.2.2.1 c.2.2.2.2.2.2.2.2.2.2.1 else true):=by
 have g:Ev (qCT · c.1 c.2.1 c.2.2.1 c.2.2.2.1 c.2.2.2.2.1 c.2.2.2.2.2.1 c.2.2.2.2.2.2.1 c.2.2.2.2.2.2.2.1 c.2.2.2.2.2.2.2.2.1 c.2.2.2.2.2.2.2.2.2.1 c.2.2.2.2.2.2.2.2.2.2.1 c.2.2.2.2.2.2.2.2.2.2.2.1 c.2.2.2.2.2.2.2.2.2.2.2.2.1 ((c.2.2.2.2.2.2.2.2.2.2.2.2.2).map qBI)) (if c.1=2 then (c.2.2.2.2.2.1,c.2.2.2.2.2.2.1,c.2.2.2.2.2.1,c.2.2.2.2.2.2.1) else (c.2.2.2.2.2.1,c.2.2.2.2.2.2.1,c.2.2.2.2.2.2.2.2.2.1,c.2.2.2.2.2.2.2.2.2.2.1)):=by
  refine ⟨1,fun n hn=>?_⟩
  obtain ⟨m,rfl,hm⟩:=up1 hn
  simp only [qCT,qKQ,qB,qC,qF,qG,qH,qI,Option.bind_some,qE,qJ,qK]
  by_cases k2:c.1=2<;>simp [k2]
 obtain ⟨n1,h1⟩:=g
 obtain ⟨n2,h2⟩:=qWP c.2.2.2.2.2.1 c.2.2.2.2.2.2.1 c.2.2.2.2.2.1 c.2.2.2.2.2.2.1
 obtain ⟨n3,h3⟩:=qWP c.2.2.2.2.2.1 c.2.2.2.2.2.2.1 c.2.2.2.2.2.2.2.2.2.1 c.2.2.2.2.2.2.2.2.2.2.1
 refine ⟨n1+n2+n3+1,fun n hn=>?_⟩
 obtain ⟨m,rfl,hm⟩:=up1 hn
 have h1:=h1 m (by omega)
 dsimp only at h1
 have h2:=h2 m (by omega)
 dsimp only at h2
 have h3:=h3 m (by omega)
 dsimp only at h3
 simp only [qp,qFj,qB,qC,qF,qG,qH,qI,Option.bind_some,qE,qJ,qK,h1,h2,h3]
 by_cases k2:c.1=2
 ·simp [k2,h2]
 ·by_cases k3:c.1=3
  ·simp [k3,h3]
  ·simp [k2,k3]
theorem qgm (a b:Int):qPi a b a b=qCU a b:=by
 unfold qPi
 cases qCU a b<;>simp
theorem qeM (c:Nd) (hb:c.2.2.2.2.1.size≤140737488351232):Ev (qC7 · c.1 c.2.1 c.2.2.1 c.2.2.2.1 c.2.2.2.2.1 c.2.2.2.2.2.1 c.2.2.2.2.2.2.1 c.2.2.2.2.2.2.2.1 c.2.2.2.2.2.2.2.2.1 c.2.2.2.2.2.2.2.2.2.1 c.2.2.2.2.2.2.2.2.2.2.1 c.2.2.2.2.2.2.2.2.2.2.2.1 c.2.2.2.2.2.2.2.2.2.2.2.2.1 ((c.2.2.2.2.2.2.2.2.2.2.2.2.2).map qBI)) (qNz c):=by
 obtain ⟨n1,g1⟩:=qNE c.2.2.1 c.2.2.2.1 c.2.2.2.2.1 hb
 obtain ⟨n2,g2⟩:=qa4 c
 obtain ⟨n3,g3⟩:=qdg c
 refine ⟨n1+n2+n3+1,fun n hn=>?_⟩
 obtain ⟨m,rfl,hm⟩:=up1 hn
 have g1:=g1 m (by omega)
 have g2:=g2 m (by omega)
 have g3:=g3 m (by omega)
 dsimp only at g1 g2 g3
 rw [qgm] at g2
 simp only [qC7,qIe,qB,qC,qF,qG,qH,qI,Option.bind_some,qE,qJ,qK,g1,g2,g3,qiQ,qiS]
 simp only [beq_self_eq_true,Bool.and_true,Bool.true_and]
 unfold qNz
 by_cases k1:c.1=1
 ·have h5:(c.2.2.2.1≥0)=¬(c.2.2.2.1<0):=propext Int.not_lt.symm
  simp only [k1,h5]
  cases zP c.2.2.2.2.2.1 c.2.2.2.2.2.2.1 c.2.2.2.2.2.2.2.1 c.2.2.2.2.2.2.2.2.1<;>cases zP c.2.2.2.2.2.2.2.2.2.1 c.2.2.2.2.2.2.2.2.2.2.1 c.2.2.2.2.2.2.2.2.2.2.2.1 c.2.2.2.2.2.2.2.2.2.2.2.2.1<;>cases okV c.2.2.1 c.2.2.2.1 c.2.2.2.2.1<;>by_cases h0:c.2.1=0<;>by_cases h1:(kd c).length=0<;>by_cases h2:c.2.2.1=0<;>by_cases h3:c.2.2.1=1<;>by_cases h4:c.2.2.2.1<0<;>simp [h0,h1,h2,h3,h4]<;>(try omega)
 by_cases k2:c.1=2
 ·simp only [k2]
  cases zV c.2.2.1 c.2.2.2.1 c.2.2.2.2.1<;>cases zP c.2.2.2.2.2.2.2.2.2.1 c.2.2.2.2.2.2.2.2.2.2.1 c.2.2.2.2.2.2.2.2.2.2.2.1 c.2.2.2.2.2.2.2.2.2.2.2.2.1<;>cases qCU c.2.2.2.2.2.1 c.2.2.2.2.2.2.1<;>by_cases h0:c.2.1=0<;>by_cases h1:(kd c).length=0<;>simp [h0,h1]
 by_cases k3:c.1=3
 ·simp only [k3]
  cases zV c.2.2.1 c.2.2.2.1 c.2.2.2.2.1<;>cases qPi c.2.2.2.2.2.1 c.2.2.2.2.2.2.1 c.2.2.2.2.2.2.2.2.2.1 c.2.2.2.2.2.2.2.2.2.2.1<;>by_cases h0:c.2.1=0<;>by_cases h1:(kd c).length=0<;>simp [h0,h1]
 by_cases k4:c.1=4
 ·simp only [k4]
  cases zV c.2.2.1 c.2.2.2.1 c.2.2.2.2.1<;>cases zP c.2.2.2.2.2.1 c.2.2.2.2.2.2.1 c.2.2.2.2.2.2.2.1 c.2.2.2.2.2.2.2.2.1<;>cases zP c.2.2.2.2.2.2.2.2.2.1 c.2.2.2.2.2.2.2.2.2.2.1 c.2.2.2.2.2.2.2.2.2.2.2.1 c.2.2.2.2.2.2.2.2.2.2.2.2.1<;>by_cases h0:c.2.1=0<;>by_cases h1:(kd c).length=1<;>simp [h0,h1]
 by_cases k5:c.1=5
 ·simp only [k5]
  cases zV c.2.2.1 c.2.2.2.1 c.2.2.2.2.1<;>cases zP c.2.2.2.2.2.1 c.2.2.2.2.2.2.1 c.2.2.2.2.2.2.2.1 c.2.2.2.2.2.2.2.2.1<;>cases zP c.2.2.2.2.2.2.2.2.2.1 c.2.2.2.2.2.2.2.2.2.2.1 c.2.2.2.2.2.2.2.2.2.2.2.1 c.2.2.2.2.2.2.2.2.2.2.2.2.1<;>by_cases h0:1≤c.2.1∧c.2.1≤11<;>by_cases h1:(kd c).length=2<;>simp [h0,h1]
 by_cases k6:c.1=6
 ·simp only [k6]
  cases zV c.2.2.1 c.2.2.2.1 c.2.2.2.2.1<;>cases zP c.2.2.2.2.2.1 c.2.2.2.2.2.2.1 c.2.2.2.2.2.2.2.1 c.2.2.2.2.2.2.2.2.1<;>cases zP c.2.2.2.2.2.2.2.2.2.1 c.2.2.2.2.2.2.2.2.2.2.1 c.2.2.2.2.2.2.2.2.2.2.2.1 c.2.2.2.2.2.2.2.2.2.2.2.2.1<;>cases qSi c.2.1 ((kd c).length:Int)<;>simp
 simp [k1,k2,k3,k4,k5,k6]
section
variable (own area call:Int→Bool) (kids:Int→List Int)
def goF (F:Int→Int) (n:Int):List Int→Int→Int
 | [],start=>start
 |k::r,start=>if k≠start-1∨k<0∨(area k=true∧call n=false) then-1 else if F k<0 then-1 else goF F n r (F k)
def qDp:Nat→Int→Int
 |0,_=> -1
 |f+1,n=>if n<0∨own n=false then-1 else goF area call (qDp f) n (kids n).reverse n
def goT (F:Int→Int):List Int→Int→Int
 | [],x=>x+1
 |k::r,x=>if x<0∨k≠x then-1 else if F x<0 then-1 else goT F r (F x-1)
def qEW:Nat→Int→Int
 |0,_=> -1
 |f+1,n=>goT (qEW f) (kids n).reverse (n-1)
def qWR:List Int→Int
 | []=>0
 |x::r=>max x (qWR r)
def qBA:Nat→Int→Int
 |0,_=>0
 |f+1,n=>qWR ((kids n).map fun k=>qBA f k)+1
def qPl (i:Int):Prop:=∀k∈kids i,0≤k∧k≤i-1∧¬(area k=true∧call i=false)
theorem qdh:∀(f:Nat) (n:Int),0≤n→qEW kids f n≤n
 |0,n,h=>by rw [qEW];omega
 |f+1,n,h=>by
  have go:∀(l:List Int) (x:Int),x+1≤n→-1≤x→goT (qEW kids f) l x≤n:=by
   intro l
   induction l with
   |nil=>intro x h1 h2;rw [goT];omega
   |cons k r ih=>
    intro x h1 h2
    rw [goT]
    split
    ·omega
    ·split
     ·omega
     ·have:=qdh f x (by omega)
      exact ih _ (by omega) (by omega)
  rw [qEW]
  exact go _ _ (by omega) (by omega)
theorem qf8 {l:List Int} {b:Int} (h0:0≤b):qWR l≤b↔∀x∈l,x≤b:=by
 induction l with
 |nil=>simp [qWR,h0]
 |cons a r ih=>simp only [qWR,List.mem_cons,forall_eq_or_imp];rw [Int.max_le,ih]
theorem qdi {n b:Int} {f:Nat} (h0:1≤b):qBA kids (f+1) n≤b↔∀k∈kids n,qBA kids f k≤b-1:=by
 rw [qBA]
 constructor
 ·intro h k hk
  exact (qf8 (l:=(kids n).map fun k=>qBA kids f k) (by omega)).1 (by omega) _ (List.mem_map_of_mem (f:=fun k=>qBA kids f k) hk)
 ·intro h
  have:=(qf8 (l:=(kids n).map fun k=>qBA kids f k) (b:=b-1) (by omega)).2 (by
   intro x hx
   obtain ⟨k,hk,rfl⟩:=List.mem_map.1 hx
   exact h k hk)
  omega
theorem qdj:∀(f g:Nat) (n:Int),n<f→n<g→(∀i,0≤i→i≤n→qPl area call kids i)→0≤n→qBA kids f n=qBA kids g n
 |0,g,n,h1,h2,_,h3=>by omega
 |f+1,0,n,h1,h2,_,h3=>by omega
 |f+1,g+1,n,h1,h2,hk,h3=>by
  rw [qBA,qBA]
  congr 2
  apply List.map_congr_left
  intro k hm
  have:=hk n h3 (by omega) k hm
  exact qdj f g k (by omega) (by omega) (fun i h0 h1=>hk i h0 (by omega)) (by omega)
theorem qa5:∀(f:Nat) (n:Int),0≤n→n<f→1≤qBA kids f n
 |0,n,h,h'=>by omega
 |f+1,n,h,h'=>by
  rw [qBA]
  have:∀l:List Int,0≤qWR l:=by
   intro l
   induction l with
   |nil=>exact Int.le_refl 0
   |cons a r ih=>simp only [qWR];omega
  have:=this ((kids n).map fun k=>qBA kids f k)
  omega
theorem qe6:∀(f g:Nat) (n:Int),0≤n→n<g→0≤qDp own area call kids f n→
  qDp own area call kids f n≤n∧qEW kids g n=qDp own area call kids f n∧(∀i,qDp own area call kids f n≤i→i≤n→own i=true∧qPl area call kids i)∧(∀h:Nat,(∀i,0≤i→i≤n→qPl area call kids i)→n<h→qBA kids h n≤f)
 |0,g,n,h0,h1,h2=>by rw [qDp] at h2;omega
 |f+1,0,n,h0,h1,h2=>by omega
 |f+1,g+1,n,h0,h1,h2=>by
  rw [qDp] at h2⊢
  split at h2
  ·omega
  ·rename_i hc
   rw [if_neg hc]
   have go:∀(l:List Int) (s:Int),0≤s→s≤n→0≤goF area call (qDp own area call kids f) n l s→
     goF area call (qDp own area call kids f) n l s≤s∧goT (qEW kids g) l (s-1)=goF area call (qDp own area call kids f) n l s∧(∀i,goF area call (qDp own area call kids f) n l s≤i→i≤s-1→own i=true∧qPl area call kids i)∧(∀k∈l,0≤k∧k≤n-1∧¬(area k=true∧call n=false))∧(∀h:Nat,(∀i,0≤i→i≤n→qPl area call kids i)→n<h→∀k∈l,qBA kids h k≤f):=by
    intro l
    induction l with
    |nil=>
     intro s h3 h4 h5
     rw [goF] at h5⊢
     rw [goT]
     refine ⟨by omega,by omega,fun i _ _=>by omega,fun k hk=>(by cases hk),fun h _ _ k hk=>(by cases hk)⟩
    |cons k r ih=>
     intro s h3 h4 h5
     rw [goF] at h5⊢
     split at h5
     ·omega
     ·rename_i hd
      rw [if_neg hd]
      split at h5
      ·omega
      ·rename_i he
       rw [if_neg he]
       have hk:k=s-1:=by omega
       subst hk
       obtain ⟨a1,a2,a3,a4⟩:=qe6 f g (s-1) (by omega) (by omega) (by omega)
       obtain ⟨b1,b2,b3,b4,b5⟩:=ih _ (by omega) (by omega) h5
       refine ⟨by omega,?_,?_,?_,?_⟩
       ·rw [goT,if_neg (by omega),a2,if_neg he,b2]
       ·intro i i1 i2
        by_cases hi:qDp own area call kids f (s-1)≤i
        ·exact a3 i hi i2
        ·exact b3 i i1 (by omega)
       ·intro k hk
        rcases List.mem_cons.1 hk with rfl|hk
        ·exact ⟨by omega,by omega,fun h=>hd (.inr (.inr h))⟩
        ·exact b4 k hk
       ·intro h hx hy k hk
        rcases List.mem_cons.1 hk with rfl|hk
        ·exact a4 h (fun i i1 i2=>hx i i1 (by omega)) (by omega)
        ·exact b5 h hx hy k hk
   obtain ⟨c1,c2,c3,c4,c5⟩:=go _ n h0 (Int.le_refl n) h2
   have hown:own n=true:=by cases ho:own n with
    |true=>rfl
    |false=>exact absurd (.inr ho) hc
   refine ⟨c1,by rw [qEW];exact c2,?_,?_⟩
   ·intro i i1 i2
    by_cases hi:i=n
    ·subst hi
     exact ⟨hown,fun k hk=>c4 k (List.mem_reverse.2 hk)⟩
    ·exact c3 i i1 (by omega)
   ·intro h hx hy
    cases h with
    |zero=>omega
    |succ h=>
     refine (qdi kids (by omega)).2 fun k hk=>?_
     have hin:=hx n h0 (Int.le_refl n) k hk
     have e:qBA kids h k=qBA kids (n.toNat+1) k:=qdj area call kids _ _ _ (by omega) (by omega) (fun i i1 i2=>hx i i1 (by omega)) (by omega)
     rw [e]
     have:=c5 (n.toNat+1) hx (by omega) k (List.mem_reverse.2 hk)
     omega
theorem qf9:∀(f g h:Nat) (n:Int),0≤n→n<g→n<h→(∀i,0≤i→i≤n→own i=true∧qPl area call kids i)→0≤qEW kids g n→qBA kids h n≤f→qDp own area call kids f n=qEW kids g n
 |0,g,h,n,h0,h1,h1',h2,h3,h4=>by have:=qa5 kids h n h0 h1';omega
 |f+1,0,h,n,h0,h1,_,h2,h3,h4=>by omega
 |f+1,g+1,0,n,h0,h1,_,h2,h3,h4=>by omega
 |f+1,g+1,h+1,n,h0,h1,h1',h2,h3,h4=>by
  have hd:=(qdi kids (b:=((f+1:Nat):Int)) (by omega)).1 h4
  have go:∀(l:List Int) (s:Int),(∀k∈l,k∈kids n)→0≤s→s≤n→0≤goT (qEW kids g) l (s-1)→goF area call (qDp own area call kids f) n l s=goT (qEW kids g) l (s-1):=by
   intro l
   induction l with
   |nil=>intro s _ _ _ _;rw [goF,goT];omega
   |cons k r ih=>
    intro s hm h3 h4 h5
    rw [goT] at h5⊢
    rw [goF]
    split at h5
    ·omega
    ·rename_i hc
     rw [if_neg hc]
     split at h5
     ·omega
     ·rename_i he
      rw [if_neg he]
      have hk:k=s-1:=by omega
      have hin:=(h2 n h0 (Int.le_refl n)).2 k (hm k (List.mem_cons_self ..))
      have hdk:=hd k (hm k (List.mem_cons_self ..))
      subst hk
      have e:=qf9 f g h (s-1) (by omega) (by omega) (by omega) (fun i i1 i2=>h2 i i1 (by omega)) (by omega) (by omega)
      have hb:¬(s-1≠s-1∨s-1<0∨(area (s-1)=true∧call n=false)):=fun hx=>by
       rcases hx with hx|hx|hx
       ·exact hx rfl
       ·omega
       ·exact hin.2.2 hx
      rw [if_neg hb,e,if_neg he]
      have hle:=qdh kids g (s-1) (by omega)
      exact ih _ (fun k hk=>hm k (List.mem_cons_of_mem _ hk)) (by omega) (by omega) h5
  rw [qEW] at h3
  have hn:¬(n<0∨own n=false):=fun hx=>by
   rcases hx with hx|hx
   ·omega
   ·rw [(h2 n h0 (Int.le_refl n)).1] at hx;cases hx
  rw [qDp,qEW,if_neg hn]
  exact go _ n (fun k hk=>List.mem_reverse.1 hk) h0 (Int.le_refl n) h3
end
theorem qBn (c:Nd):(qV c).length=14:=rfl
theorem qBQ (k:Int):(qBI k).length=1:=rfl
theorem qAr (k:Int):zU .i64 (qBI k) 0=some k:=rfl
theorem qAX (c:Nd):zU .i64 (qV c) 0=some c.1:=rfl
theorem qAY (c:Nd):zU .i64 (qV c) 1=some c.2.1:=rfl
theorem qAZ (c:Nd):zU .i64 (qV c) 2=some c.2.2.1:=rfl
theorem qAa (c:Nd):zU .i64 (qV c) 3=some c.2.2.2.1:=rfl
theorem qAb (c:Nd):zAv (qV c) 4=some c.2.2.2.2.1:=rfl
theorem qAc (c:Nd):zU .i64 (qV c) 5=some c.2.2.2.2.2.1:=rfl
theorem qAd (c:Nd):zU .i64 (qV c) 6=some c.2.2.2.2.2.2.1:=rfl
theorem qAe (c:Nd):zAd (qV c) 7=some c.2.2.2.2.2.2.2.1:=rfl
theorem qAf (c:Nd):zAd (qV c) 8=some c.2.2.2.2.2.2.2.2.1:=rfl
theorem qAg (c:Nd):zU .i64 (qV c) 9=some c.2.2.2.2.2.2.2.2.2.1:=rfl
theorem qx (c:Nd):zU .i64 (qV c) 10=some c.2.2.2.2.2.2.2.2.2.2.1:=rfl
theorem qy (c:Nd):zAd (qV c) 11=some c.2.2.2.2.2.2.2.2.2.2.2.1:=rfl
theorem qz (c:Nd):zAd (qV c) 12=some c.2.2.2.2.2.2.2.2.2.2.2.2.1:=rfl
theorem q7 (c:Nd):zBD (qV c) 13=some ((c.2.2.2.2.2.2.2.2.2.2.2.2.2).map qBI):=rfl
def nd0:Nd:=(0,0,0,0,⟨#[]⟩,0,0,false,false,0,0,false,false,[])
def ndi (l:List Nd) (i:Int):Nd:=l.getD i.toNat nd0
def qR (l:List Nd) (i:Int):List Int:=kd (ndi l i)
def qON (l:List Nd) (i:Int):Bool:=qNz (ndi l i)
def qBu (l:List Nd) (i:Int):Bool:=decide ((ndi l i).1=3)
def qCs (l:List Nd) (i:Int):Bool:=decide ((ndi l i).1=6)
theorem qED {l:List Nd} {i:Int} (h:0≤i∧i<l.length):l[i.toNat]?=some (ndi l i):=by
 have:i.toNat<l.length:=by omega
 unfold ndi
 rw [List.getElem?_eq_getElem this,List.getD_eq_getElem?_getD,List.getElem?_eq_getElem this]
 rfl
theorem qTN {l:List Nd} {i:Int} (h:0≤i∧i<l.length):ndi l i∈l:=List.mem_of_getElem? (qED h)
theorem qfR {α:Type} {l:List α} {j:Nat} {k:α} (h:l[j]?=some k):(l.take (j+1)).reverse=k::(l.take j).reverse:=by
 rw [List.take_add_one,h]
 simp
theorem qfS {R:Type} {F:Int→Nat→Option R} {f:Int→R} (x:Int) (h:∀y,0≤y→y<x→Ev (F y) (f y)):∃n0,∀n,n0≤n→∀y,0≤y→y<x→F y n=some (f y):=by
 obtain ⟨n0,h0⟩:=qDn (F:=F) (f:=f) ((List.range x.toNat).map fun (i:Nat)=>(i:Int)) (fun c hc=>by
  obtain ⟨i,hi,rfl⟩:=List.mem_map.1 hc
  have:=List.mem_range.1 hi
  exact h _ (Int.natCast_nonneg i) (by omega))
 refine ⟨n0,fun n hn y h1 h2=>h0 n hn y (List.mem_map.2 ⟨y.toNat,List.mem_range.2 (by omega),by omega⟩)⟩
theorem qeW (l:List Nd) (x1:Int) (f n:Nat) (hx:0≤x1∧x1<l.length) (hl:l.length≤140737488351232) (hk:(kd (ndi l x1)).length≤140737488351232)
  (hrec:∀y:Int,0≤y→y<x1→qv n (l.map qV) y=some (qEW (qR l) f y)):
  ∀(j M:Nat) (s:Int),j≤(kd (ndi l x1)).length→j+1≤M→-1≤s→s<x1→
   (∃x,zL (qAw (qv n) n) M (l.map qV,x1,s,(j:Int)-1)=some (.inr x)∧goT (qEW (qR l) f) ((qR l x1).take j).reverse s=x+1∧-1≤x∧x<x1)∨
   (zL (qAw (qv n) n) M (l.map qV,x1,s,(j:Int)-1)=some (.inl (-1))∧goT (qEW (qR l) f) ((qR l x1).take j).reverse s= -1)
 |0,0,s,h1,h2,h3,h4=>by omega
 |0,M+1,s,h1,h2,h3,h4=>by
  refine .inl ⟨s,?_,by simp [goT],h3,h4⟩
  rw [qN (r:= .inr s) (by simp [-getElem?_pos,qAw,qB,qC,qF,qG,qH,qI,Option.bind_some,qE,qJ,qK])]
 |j+1,0,s,h1,h2,h3,h4=>by omega
 |j+1,M+1,s,h1,h2,h3,h4=>by
  have hc:=qED hx
  have hj:j<(kd (ndi l x1)).length:=by omega
  have hg:(qR l x1)[j]?=some (qR l x1)[j]:=List.getElem?_eq_getElem hj
  have ih:=qeW l x1 f n hx hl hk hrec j M
  rw [qfR hg]
  generalize (qR l x1)[j]=k at hg
  have hi:(((j+1:Nat):Int)-1)=(j:Int):=by omega
  rw [hi,goT]
  have hg':(ndi l x1).2.2.2.2.2.2.2.2.2.2.2.2.2[j]?=some k:=hg
  have hj':j<(ndi l x1).2.2.2.2.2.2.2.2.2.2.2.2.2.length:=hj
  by_cases hs:s<0
  ·refine .inr ⟨?_,by rw [if_pos (.inl hs)]⟩
   rw [qN (r:= .inl (-1)) (by simp [-getElem?_pos,qAw,qB,qC,qF,qG,qH,qI,Option.bind_some,qE,qJ,qK,hs])]
  ·by_cases hks:k=s
   ·subst hks
    have hr:=hrec k (by omega) h4
    by_cases ht:qEW (qR l) f k<0
    ·refine .inr ⟨?_,by rw [if_neg (by omega),if_pos ht]⟩
     rw [qN (r:= .inl (-1)) (by simp [-getElem?_pos,qAw,qB,qC,qF,qG,qH,qI,Option.bind_some,qE,qJ,qK,hs,hc,hx,qBn,qBQ,qAr,qAX,qAY,qAZ,qAa,qAb,qAc,qAd,qAe,qAf,qAg,qx,qy,qz,q7,hg',hj',hr,ht])]
    ·have hle:=qdh (qR l) f k (by omega)
     have hw:IntKind.i64.wrap (qEW (qR l) f k-1)=qEW (qR l) f k-1:=qa (by omega)
     have hw2:IntKind.i64.wrap ((j:Int)-1)=(j:Int)-1:=qa (by omega)
     rw [if_neg (by omega),if_neg ht]
     rw [qX (v':=(l.map qV,x1,qEW (qR l) f k-1,(j:Int)-1)) (by simp [-getElem?_pos,qAw,qB,qC,qF,qG,qH,qI,Option.bind_some,qE,qJ,qK,hs,hc,hx,qBn,qBQ,qAr,qAX,qAY,qAZ,qAa,qAb,qAc,qAd,qAe,qAf,qAg,qx,qy,qz,q7,hg',hj',hr,ht,hw,hw2])]
     exact ih _ (by omega) (by omega) (by omega) (by omega)
   ·refine .inr ⟨?_,by rw [if_pos (.inr hks)]⟩
    rw [qN (r:= .inl (-1)) (by simp [-getElem?_pos,qAw,qB,qC,qF,qG,qH,qI,Option.bind_some,qE,qJ,qK,hs,hc,hx,qBn,qBQ,qAr,qAX,qAY,qAZ,qAa,qAb,qAc,qAd,qAe,qAf,qAg,qx,qy,qz,q7,hg',hj',hks])]
theorem qWS (l:List Nd) (hl:l.length≤140737488351232) (hk:∀c∈l,(kd c).length≤140737488351232):∀(f:Nat) (x:Int),0≤x→x<l.length→x<f→Ev (qv · (l.map qV) x) (qEW (qR l) f x)
 |0,x,h0,h1,h2=>by omega
 |f+1,x,h0,h1,h2=>by
  obtain ⟨n0,hn0⟩:=qfS (F:=fun y n=>qv n (l.map qV) y) (f:=fun y=>qEW (qR l) f y) x (fun y h3 h4=>qWS l hl hk f y h3 (by omega) (by omega))
  refine ⟨n0+(kd (ndi l x)).length+5,fun n hn=>?_⟩
  obtain ⟨m,rfl,hm⟩:=up1 hn
  have hc:=qED (l:=l) (i:=x) ⟨h0,h1⟩
  have hkx:=hk _ (qTN (l:=l) ⟨h0,h1⟩)
  have hw:IntKind.i64.wrap (x-1)=x-1:=qa (by omega)
  have hw2:IntKind.i64.wrap (((kd (ndi l x)).length:Int)-1)=((kd (ndi l x)).length:Int)-1:=qa (by omega)
  have h:=qeW l x f m ⟨h0,h1⟩ hl hkx (hn0 m (by omega)) (kd (ndi l x)).length m (x-1) (Nat.le_refl _) (by omega) (by omega) (by omega)
  have e:(qR l x).take (kd (ndi l x)).length=qR l x:=List.take_length
  rw [e] at h
  rw [show qEW (qR l) (f+1) x=goT (qEW (qR l) f) (qR l x).reverse (x-1) from rfl]
  unfold kd at h hw2
  dsimp only
  simp only [qv,qRI,qB,qC,qF,qG,qH,qI,Option.bind_some,qE,qJ,qK]
  rcases h with ⟨y,g1,g2,g3,g4⟩|⟨g1,g2⟩
  ·have hw3:IntKind.i64.wrap (y+1)=y+1:=qa (by omega)
   rw [g2]
   simp [-getElem?_pos,qB,qC,qF,qG,qH,qI,Option.bind_some,qE,qJ,qK,hc,h0,h1,qBn,qBQ,qAr,qAX,qAY,qAZ,qAa,qAb,qAc,qAd,qAe,qAf,qAg,qx,qy,qz,q7,hw,hw2,g1,hw3]
  ·rw [g2]
   simp [-getElem?_pos,qB,qC,qF,qG,qH,qI,Option.bind_some,qE,qJ,qK,hc,h0,h1,qBn,qBQ,qAr,qAX,qAY,qAZ,qAa,qAb,qAc,qAd,qAe,qAf,qAg,qx,qy,qz,q7,hw,hw2,g1]
theorem qa6 (kids:Int→List Int):∀(f:Nat) (n:Int),0≤qBA kids f n∧qBA kids f n≤f
 |0,n=>by rw [qBA];omega
 |f+1,n=>by
  have:∀l:List Int,0≤qWR (l.map fun k=>qBA kids f k)∧qWR (l.map fun k=>qBA kids f k)≤f:=by
   intro l
   induction l with
   |nil=>exact ⟨Int.le_refl 0,Int.natCast_nonneg f⟩
   |cons a r ih=>have:=qa6 kids f a;simp only [List.map_cons,qWR];omega
  have:=this (kids n)
  rw [qBA]
  omega
theorem qeX (l:List Nd) (x1:Int) (f n:Nat) (hx:0≤x1∧x1<l.length) (hf:f≤1000) (hk:(kd (ndi l x1)).length≤140737488351232)
  (hrec:∀k∈qR l x1,qw n (l.map qV) k=some (qBA (qR l) f k)):
  ∀(m i M:Nat) (a:Int),(kd (ndi l x1)).length=i+m→m+1≤M→0≤a→
   zL (qCv (qw n) n) M (l.map qV,x1,a,(i:Int))=some (max a (qWR (((qR l x1).drop i).map fun k=>qBA (qR l) f k)))
 |m,i,0,a,h1,h2,h3=>by omega
 |0,i,M+1,a,h1,h2,h3=>by
  have hc:=qED hx
  have hi:¬i<(ndi l x1).2.2.2.2.2.2.2.2.2.2.2.2.2.length:=by unfold kd at h1;omega
  rw [qN (r:=a) (by simp [-getElem?_pos,qCv,qB,qC,qF,qG,qH,qI,Option.bind_some,qE,qJ,qK,hc,hx,qBn,qBQ,qAr,qAX,qAY,qAZ,qAa,qAb,qAc,qAd,qAe,qAf,qAg,qx,qy,qz,q7,hi])]
  rw [List.drop_eq_nil_of_le (by unfold qR;omega)]
  simp only [List.map_nil,qWR]
  congr 1
  omega
 |m+1,i,M+1,a,h1,h2,h3=>by
  have hc:=qED hx
  have hj:i<(kd (ndi l x1)).length:=by omega
  have hg:(qR l x1)[i]?=some (qR l x1)[i]:=List.getElem?_eq_getElem hj
  rw [qLc hg]
  have hr:=hrec _ (List.mem_of_getElem? hg)
  generalize (qR l x1)[i]=k at hg hr
  have hg':(ndi l x1).2.2.2.2.2.2.2.2.2.2.2.2.2[i]?=some k:=hg
  have hj':i<(ndi l x1).2.2.2.2.2.2.2.2.2.2.2.2.2.length:=hj
  have hj'':(i:Int)<((ndi l x1).2.2.2.2.2.2.2.2.2.2.2.2.2.length:Int):=by omega
  have hw:IntKind.i64.wrap ((i:Int)+1)=((i+1:Nat):Int):=by rw [qa (by omega)];omega
  have hd:=qa6 (qR l) f k
  rw [qX (v':=(l.map qV,x1,(if qBA (qR l) f k>a then qBA (qR l) f k else a),((i+1:Nat):Int))) (by simp [-getElem?_pos,qCv,qB,qC,qF,qG,qH,qI,Option.bind_some,qE,qJ,qK,hc,hx,qBn,qBQ,qAr,qAX,qAY,qAZ,qAa,qAb,qAc,qAd,qAe,qAf,qAg,qx,qy,qz,q7,hg',hj',hr,hw])]
  rw [qeX l x1 f n hx hf hk hrec m (i+1) M _ (by omega) (by omega) (by split<;>omega)]
  simp only [List.map_cons,qWR]
  congr 1
  split<;>omega
theorem qWT (l:List Nd) (hl:l.length≤60) (hk:∀c∈l,(kd c).length≤140737488351232) (hin:∀i:Int,0≤i→i<l.length→qPl (qBu l) (qCs l) (qR l) i):∀(f:Nat) (x:Int),f≤1000→0≤x→x<l.length→x<f→Ev (qw · (l.map qV) x) (qBA (qR l) f x)
 |0,x,hf,h0,h1,h2=>by omega
 |f+1,x,hf,h0,h1,h2=>by
  obtain ⟨n0,hn0⟩:=qDn (F:=fun y n=>qw n (l.map qV) y) (f:=fun y=>qBA (qR l) f y) (qR l x) (fun y hy=>by
   have:=hin x h0 h1 y hy
   exact qWT l hl hk hin f y (by omega) (by omega) (by omega) (by omega))
  refine ⟨n0+(kd (ndi l x)).length+5,fun n hn=>?_⟩
  obtain ⟨m,rfl,hm⟩:=up1 hn
  have h:=qeX l x f m ⟨h0,h1⟩ (by omega) (hk _ (qTN (l:=l) ⟨h0,h1⟩)) (hn0 m (by omega)) (kd (ndi l x)).length 0 m 0 (by omega) (by omega) (by omega)
  have hd:=qa6 (qR l) (f+1) x
  have e:max 0 (qWR ((qR l x).map fun k=>qBA (qR l) f k))+1=qBA (qR l) (f+1) x:=by
   rw [qBA]
   have:∀q:List Int,0≤qWR q:=by
    intro q
    induction q with
    |nil=>exact Int.le_refl 0
    |cons a r ih=>simp only [qWR];omega
   have:=this ((qR l x).map fun k=>qBA (qR l) f k)
   omega
  rw [List.drop_zero] at h
  simp only [Int.natCast_zero] at h
  have hw:IntKind.i64.wrap (max 0 (qWR ((qR l x).map fun k=>qBA (qR l) f k))+1)=qBA (qR l) (f+1) x:=by rw [e,qa (by omega)]
  simp only [qw,qRJ,qB,qC,qF,qG,qH,qI,Option.bind_some,qE,qJ,qK,h,hw]
def inB (l:List Nd) (i:Int):Bool:=(qR l i).all fun k=>decide (0≤k∧k≤i-1)&&!(qBu l k&&!qCs l i)
theorem qgA {l:List Nd} {i:Int}:inB l i=true↔qPl (qBu l) (qCs l) (qR l) i:=by
 unfold inB qPl
 rw [List.all_eq_true]
 refine forall_congr' fun k=>forall_congr' fun hk=>?_
 cases qBu l k<;>cases qCs l i<;>simp
theorem qe7 (l:List Nd) (x1:Int) (n:Nat) (hx:0≤x1∧x1<l.length) (hl:l.length≤60) (hk:(kd (ndi l x1)).length≤140737488351232):
  ∀(m i M:Nat),(kd (ndi l x1)).length=i+m→m+1≤M→
   zL (qAS (n+1)) M (l.map qV,x1,(i:Int))=some (if ((qR l x1).drop i).all (fun k=>decide (0≤k∧k≤x1-1)&&!(qBu l k&&!qCs l x1))=true then .inr (l.map qV,x1) else .inl false)
 |m,i,0,h1,h2=>by omega
 |0,i,M+1,h1,h2=>by
  have hc:=qED hx
  have hi:¬i<(ndi l x1).2.2.2.2.2.2.2.2.2.2.2.2.2.length:=by unfold kd at h1;omega
  rw [qN (r:= .inr (l.map qV,x1)) (by simp [-getElem?_pos,qAS,qB,qC,qF,qG,qH,qI,Option.bind_some,qE,qJ,qK,hc,hx,qBn,qBQ,qAr,qAX,qAY,qAZ,qAa,qAb,qAc,qAd,qAe,qAf,qAg,qx,qy,qz,q7,hi])]
  rw [List.drop_eq_nil_of_le (by unfold qR;omega)]
  rfl
 |m+1,i,M+1,h1,h2=>by
  have hc:=qED hx
  have hj:i<(kd (ndi l x1)).length:=by omega
  have hg:(qR l x1)[i]?=some (qR l x1)[i]:=List.getElem?_eq_getElem hj
  rw [qLc hg]
  generalize (qR l x1)[i]=k at hg
  have hg':(ndi l x1).2.2.2.2.2.2.2.2.2.2.2.2.2[i]?=some k:=hg
  have hj':i<(ndi l x1).2.2.2.2.2.2.2.2.2.2.2.2.2.length:=hj
  have hw:IntKind.i64.wrap ((i:Int)+1)=((i+1:Nat):Int):=by rw [qa (by omega)];omega
  have hw2:IntKind.i64.wrap (x1-1)=x1-1:=qa (by omega)
  have hin:qBK (n+1) k 0 (x1-1)=some (decide (0≤k∧k≤x1-1)):=by
   simp only [qBK,qP2,qB,qC,qF,qG,qH,qI,Option.bind_some,qE,qJ,qK]
   by_cases h:k≥0<;>simp [h]
  rw [List.all_cons]
  by_cases hr:0≤k∧k≤x1-1
  ·have hck:=qED (l:=l) (i:=k) ⟨hr.1,by omega⟩
   have hkl:k<(l.length:Int):=by omega
   by_cases ha:(ndi l k).1=3
   ·by_cases hcl:(ndi l x1).1=6
    ·rw [qX (v':=(l.map qV,x1,((i+1:Nat):Int))) (by simp [-getElem?_pos,qAS,qB,qC,qF,qG,qH,qI,Option.bind_some,qE,qJ,qK,hc,hx,qBn,qBQ,qAr,qAX,qAY,qAZ,qAa,qAb,qAc,qAd,qAe,qAf,qAg,qx,qy,qz,q7,hg',hj',hw,hw2,hin,hr,hck,hkl,ha,hcl])]
     rw [qe7 l x1 n hx hl hk m (i+1) M (by omega) (by omega)]
     simp [hr,qBu,qCs,ha,hcl]
    ·rw [qN (r:= .inl false) (by simp [-getElem?_pos,qAS,qB,qC,qF,qG,qH,qI,Option.bind_some,qE,qJ,qK,hc,hx,qBn,qBQ,qAr,qAX,qAY,qAZ,qAa,qAb,qAc,qAd,qAe,qAf,qAg,qx,qy,qz,q7,hg',hj',hw,hw2,hin,hr,hck,hkl,ha,hcl])]
     simp [hr,qBu,qCs,ha,hcl]
   ·rw [qX (v':=(l.map qV,x1,((i+1:Nat):Int))) (by simp [-getElem?_pos,qAS,qB,qC,qF,qG,qH,qI,Option.bind_some,qE,qJ,qK,hc,hx,qBn,qBQ,qAr,qAX,qAY,qAZ,qAa,qAb,qAc,qAd,qAe,qAf,qAg,qx,qy,qz,q7,hg',hj',hw,hw2,hin,hr,hck,hkl,ha])]
    rw [qe7 l x1 n hx hl hk m (i+1) M (by omega) (by omega)]
    simp [hr,qBu,qCs,ha]
  ·rw [qN (r:= .inl false) (by simp [-getElem?_pos,qAS,qB,qC,qF,qG,qH,qI,Option.bind_some,qE,qJ,qK,hc,hx,qBn,qBQ,qAr,qAX,qAY,qAZ,qAa,qAb,qAc,qAd,qAe,qAf,qAg,qx,qy,qz,q7,hg',hj',hw2,hin,hr])]
   simp [hr]
def qMG (l:List Nd) (i m:Nat):Bool:=(List.range' i m).all fun (i:Nat)=>qON l (i:Int)&&inB l (i:Int)
theorem qMn {l:List Nd}:qMG l 0 l.length=true↔∀i:Int,0≤i→i<l.length→qON l i=true∧qPl (qBu l) (qCs l) (qR l) i:=by
 unfold qMG
 rw [List.all_eq_true]
 constructor
 ·intro h i h0 h1
  have:=h i.toNat (by rw [List.mem_range'];exact ⟨i.toNat,by omega,by omega⟩)
  rw [show ((i.toNat:Nat):Int)=i by omega,Bool.and_eq_true,qgA] at this
  exact this
 ·intro h i hi
  rw [List.mem_range'] at hi
  obtain ⟨j,hj,rfl⟩:=hi
  rw [Bool.and_eq_true,qgA]
  exact h _ (by omega) (by omega)
theorem qgB (l:List Nd) (n:Nat) (hl:l.length≤60) (hk:∀c∈l,(kd c).length≤140737488351232) (hn:∀c∈l,(kd c).length+2≤n)
  (hok:∀c∈l,qBt n c.1 c.2.1 c.2.2.1 c.2.2.2.1 c.2.2.2.2.1 c.2.2.2.2.2.1 c.2.2.2.2.2.2.1 c.2.2.2.2.2.2.2.1 c.2.2.2.2.2.2.2.2.1 c.2.2.2.2.2.2.2.2.2.1 c.2.2.2.2.2.2.2.2.2.2.1 c.2.2.2.2.2.2.2.2.2.2.2.1 c.2.2.2.2.2.2.2.2.2.2.2.2.1 ((c.2.2.2.2.2.2.2.2.2.2.2.2.2).map qBI)=some (qNz c)):
  ∀(m i M:Nat),l.length=i+m→m+1≤M→
   zL (qAz n) M (l.map qV,(i:Int))=some (if qMG l i m=true then .inr (l.map qV) else .inl false)
 |m,i,0,h1,h2=>by omega
 |0,i,M+1,h1,h2=>by
  have hi:¬(i:Int)<(l.length:Int):=by omega
  rw [qN (r:= .inr (l.map qV)) (by simp [-getElem?_pos,qAz,qB,qC,qF,qG,qH,qI,Option.bind_some,qE,qJ,qK,hi])]
  rfl
 |m+1,i,M+1,h1,h2=>by
  have hi:(i:Int)<(l.length:Int):=by omega
  have hx:0≤(i:Int)∧(i:Int)<l.length:=⟨by omega,hi⟩
  have hc:=qED hx
  have hm:=qTN hx
  have ho:=hok _ hm
  have hw:IntKind.i64.wrap ((i:Int)+1)=((i+1:Nat):Int):=by rw [qa (by omega)];omega
  have hnn:=hn _ hm
  obtain ⟨q,rfl⟩:∃q,n=q+1:=⟨n-1,by omega⟩
  have hlp:=qe7 l i q hx hl (hk _ hm) (kd (ndi l i)).length 0 (q+1) (by omega) (by omega)
  rw [List.drop_zero,show ((qR l (i:Int)).all fun k=>decide (0≤k∧k≤(i:Int)-1)&&!(qBu l k&&!qCs l (i:Int)))=inB l i from rfl] at hlp
  simp only [Int.natCast_zero] at hlp
  have e:qMG l i (m+1)=(qON l i&&inB l i&&qMG l (i+1) m):=by unfold qMG;rw [List.range'_succ,List.all_cons]
  rw [e]
  rw [Int.toNat_natCast] at hc
  cases hnb:qNz (ndi l i) with
  |false=>
   rw [hnb] at ho
   rw [qN (r:= .inl false) (by simp [-getElem?_pos,qAz,qB,qC,qF,qG,qH,qI,Option.bind_some,qE,qJ,qK,hi,hc,qBn,qBQ,qAr,qAX,qAY,qAZ,qAa,qAb,qAc,qAd,qAe,qAf,qAg,qx,qy,qz,q7,ho])]
   simp [qON,hnb]
  |true=>
   rw [hnb] at ho
   cases hib:inB l i with
   |false=>
    rw [hib] at hlp
    rw [qN (r:= .inl false) (by simp [-getElem?_pos,qAz,qB,qC,qF,qG,qH,qI,Option.bind_some,qE,qJ,qK,hi,hc,qBn,qBQ,qAr,qAX,qAY,qAZ,qAa,qAb,qAc,qAd,qAe,qAf,qAg,qx,qy,qz,q7,ho,hlp])]
    simp
   |true=>
    rw [hib] at hlp
    rw [qX (v':=(l.map qV,((i+1:Nat):Int))) (by simp [-getElem?_pos,qAz,qB,qC,qF,qG,qH,qI,Option.bind_some,qE,qJ,qK,hi,hc,qBn,qBQ,qAr,qAX,qAY,qAZ,qAa,qAb,qAc,qAd,qAe,qAf,qAg,qx,qy,qz,q7,ho,hlp,hw])]
    rw [qgB l (q+1) hl hk hn hok m (i+1) M (by omega) (by omega)]
    simp [qON,hnb]
def qMo (l:List Nd):Bool:=decide (1≤l.length∧l.length≤60)&&(qMG l 0 l.length&&(decide (qEW (qR l) l.length ((l.length:Int)-1)=0)&&(!qBu l ((l.length:Int)-1)&&decide (qBA (qR l) l.length ((l.length:Int)-1)≤12))))
theorem qQ3 (l:List Nd) (hk:∀c∈l,(kd c).length≤140737488351232∧c.2.2.2.2.1.size≤140737488351232):Ev (qBb · (l.map qV)) (qMo l):=by
 by_cases h1:1≤l.length
 ·by_cases h60:l.length≤60
  ·have hk1:∀c∈l,(kd c).length≤140737488351232:=fun c hc=>(hk c hc).1
   obtain ⟨n1,g1⟩:=qDn (F:=fun (c:Nd) n=>qBt n c.1 c.2.1 c.2.2.1 c.2.2.2.1 c.2.2.2.2.1 c.2.2.2.2.2.1 c.2.2.2.2.2.2.1 c.2.2.2.2.2.2.2.1 c.2.2.2.2.2.2.2.2.1 c.2.2.2.2.2.2.2.2.2.1 c.2.2.2.2.2.2.2.2.2.2.1 c.2.2.2.2.2.2.2.2.2.2.2.1 c.2.2.2.2.2.2.2.2.2.2.2.2.1 ((c.2.2.2.2.2.2.2.2.2.2.2.2.2).map qBI)) (f:=qNz) l (fun c hc=>qSj c (hk c hc).2)
   obtain ⟨n2,g2⟩:=qDn (F:=fun (c:Nd) n=>if (kd c).length+2≤n then some () else none) (f:=fun _=>()) l (fun c hc=>⟨(kd c).length+2,fun n hn=>if_pos hn⟩)
   obtain ⟨n3,g3⟩:=qWS l (by omega) hk1 l.length ((l.length:Int)-1) (by omega) (by omega) (by omega)
   obtain ⟨n4,g4⟩:∃n0,qMG l 0 l.length=true→∀n,n0≤n→qw n (l.map qV) ((l.length:Int)-1)=some (qBA (qR l) l.length ((l.length:Int)-1)):=by
    by_cases ho:qMG l 0 l.length=true
    ·obtain ⟨n4,g4⟩:=qWT l h60 hk1 (fun (i:Int) h0 h1=>(qMn.1 ho i h0 h1).2) l.length ((l.length:Int)-1) (by omega) (by omega) (by omega) (by omega)
     exact ⟨n4,fun _=>g4⟩
    ·exact ⟨0,fun h=>absurd h ho⟩
   refine ⟨n1+n2+n3+n4+l.length+5,fun n hn=>?_⟩
   obtain ⟨m,rfl,hm⟩:=up1 hn
   have hlp:=qgB l m h60 hk1 (fun c hc=>by
    have:=g2 m (by omega) c hc
    split at this
    ·assumption
    ·cases this) (g1 m (by omega)) l.length 0 m (by omega) (by omega)
   have g3:=g3 m (by omega)
   dsimp only at g3
   simp only [Int.natCast_zero] at hlp
   have hw:IntKind.i64.wrap ((l.length:Int)-1)=(l.length:Int)-1:=qa (by omega)
   have hx:0≤(l.length:Int)-1∧(l.length:Int)-1<l.length:=by omega
   have hc:=qED hx
   have a1:¬(l.length:Int)<1:=by omega
   have a2:¬(l.length:Int)>60:=by omega
   generalize hxe:(l.length:Int)-1=x at hw hx hc g3 g4⊢
   simp only [qBb,qEP,qB,qC,qF,qG,qH,qI,Option.bind_some,qE,qJ,qK,List.length_map,decide_eq_true_eq,a1,a2,if_false,hlp]
   unfold qMo
   rw [hxe]
   cases ho:qMG l 0 l.length with
   |false=>simp [qB,qC,qF,qG,qH,qI,Option.bind_some,qE,qJ,qK]
   |true=>
    have g4:=g4 ho m (by omega)
    simp only [if_true,qB,qC,qF,qG,qH,qI,Option.bind_some,qE,qJ,qK,List.length_map,hxe,hw,g3]
    by_cases ht:qEW (qR l) l.length x=0
    ·by_cases ha:(ndi l x).1=3
     ·simp [-getElem?_pos,qB,qC,qF,qG,qH,qI,Option.bind_some,qE,qJ,qK,ht,hx,hc,qBn,qBQ,qAr,qAX,qAY,qAZ,qAa,qAb,qAc,qAd,qAe,qAf,qAg,qx,qy,qz,q7,ha,qBu]
     ·simp [-getElem?_pos,qB,qC,qF,qG,qH,qI,Option.bind_some,qE,qJ,qK,ht,hx,hc,qBn,qBQ,qAr,qAX,qAY,qAZ,qAa,qAb,qAc,qAd,qAe,qAf,qAg,qx,qy,qz,q7,ha,qBu,g4,h1,h60]
    ·simp [-getElem?_pos,qB,qC,qF,qG,qH,qI,Option.bind_some,qE,qJ,qK,ht]
  ·refine ⟨1,fun n hn=>?_⟩
   obtain ⟨m,rfl,hm⟩:=up1 (n0:=0) hn
   have a1:¬(l.length:Int)<1:=by omega
   have a2:(l.length:Int)>60:=by omega
   simp [-getElem?_pos,qBb,qEP,qB,qC,qF,qG,qH,qI,Option.bind_some,qE,qJ,qK,a1,a2,qMo,h60]
 ·refine ⟨1,fun n hn=>?_⟩
  obtain ⟨m,rfl,hm⟩:=up1 (n0:=0) hn
  have a1:(l.length:Int)<1:=by omega
  simp [-getElem?_pos,qBb,qEP,qB,qC,qF,qG,qH,qI,Option.bind_some,qE,qJ,qK,a1,qMo,h1]
theorem qeY (l:List Nd) (x1 d:Int) (f n:Nat) (hx:0≤x1∧x1<l.length) (hl:l.length≤140737488351232) (hd:0≤d∧d≤1000) (hk:(kd (ndi l x1)).length≤140737488351232)
  (hrec:∀y:Int,0≤y→y<x1→qAB n (l.map qV) y (d+1)=some (qDp (qON l) (qBu l) (qCs l) (qR l) f y)):
  ∀(j M:Nat) (s:Int),j≤(kd (ndi l x1)).length→j+1≤M→0≤s→s≤x1→
   zL (qAL (qAB n) n) M (l.map qV,x1,d,s,(j:Int)-1)=some (.inr (goF (qBu l) (qCs l) (qDp (qON l) (qBu l) (qCs l) (qR l) f) x1 ((qR l x1).take j).reverse s))∨
   (zL (qAL (qAB n) n) M (l.map qV,x1,d,s,(j:Int)-1)=some (.inl (-1))∧goF (qBu l) (qCs l) (qDp (qON l) (qBu l) (qCs l) (qR l) f) x1 ((qR l x1).take j).reverse s= -1)
 |0,0,s,h1,h2,h3,h4=>by omega
 |0,M+1,s,h1,h2,h3,h4=>by
  refine .inl ?_
  rw [qN (r:= .inr s) (by simp [-getElem?_pos,qAL,qB,qC,qF,qG,qH,qI,Option.bind_some,qE,qJ,qK])]
  simp [goF]
 |j+1,0,s,h1,h2,h3,h4=>by omega
 |j+1,M+1,s,h1,h2,h3,h4=>by
  have hc:=qED hx
  have hj:j<(kd (ndi l x1)).length:=by omega
  have hg:(qR l x1)[j]?=some (qR l x1)[j]:=List.getElem?_eq_getElem hj
  have ih:=qeY l x1 d f n hx hl hd hk hrec j M
  rw [qfR hg]
  generalize (qR l x1)[j]=k at hg
  have hi:(((j+1:Nat):Int)-1)=(j:Int):=by omega
  rw [hi,goF]
  have hg':(ndi l x1).2.2.2.2.2.2.2.2.2.2.2.2.2[j]?=some k:=hg
  have hj':j<(ndi l x1).2.2.2.2.2.2.2.2.2.2.2.2.2.length:=hj
  have hws:IntKind.i64.wrap (s-1)=s-1:=qa (by omega)
  by_cases hks:k=s-1
  ·by_cases hk0:k<0
   ·refine .inr ⟨?_,by rw [if_pos (.inr (.inl hk0))]⟩
    rw [qN (r:= .inl (-1)) (by simp [-getElem?_pos,qAL,qB,qC,qF,qG,qH,qI,Option.bind_some,qE,qJ,qK,hc,hx,qBn,qBQ,qAr,qAX,qAY,qAZ,qAa,qAb,qAc,qAd,qAe,qAf,qAg,qx,qy,qz,q7,hg',hj',hks,hws,show s-1<0 by omega])]
   ·have hws':IntKind.i64.wrap (s-1)=k:=by rw [hws,hks]
    have hkx:0≤k∧k<l.length:=by omega
    have hck:=qED hkx
    by_cases hac:qBu l k=true∧qCs l x1=false
    ·have ha:(ndi l k).1=3:=by simpa [qBu] using hac.1
     have hb:¬(ndi l x1).1=6:=by simpa [qCs] using hac.2
     refine .inr ⟨?_,by rw [if_pos (.inr (.inr hac))]⟩
     rw [qN (r:= .inl (-1)) (by simp [-getElem?_pos,qAL,qB,qC,qF,qG,qH,qI,Option.bind_some,qE,qJ,qK,hc,hx,qBn,qBQ,qAr,qAX,qAY,qAZ,qAa,qAb,qAc,qAd,qAe,qAf,qAg,qx,qy,qz,q7,hg',hj',hws',hk0,hck,hkx,ha,hb])]
    ·have hr:=hrec k (by omega) (by omega)
     have hwd:IntKind.i64.wrap (d+1)=d+1:=qa (by omega)
     have hw2:IntKind.i64.wrap ((j:Int)-1)=(j:Int)-1:=qa (by omega)
     have hno:¬(k≠s-1∨k<0∨(qBu l k=true∧qCs l x1=false)):=fun h=>by
      rcases h with h|h|h
      ·exact h hks
      ·exact hk0 h
      ·exact hac h
     have hcase:¬(ndi l k).1=3∨((ndi l k).1=3∧(ndi l x1).1=6):=by
      by_cases ha:(ndi l k).1=3
      ·refine .inr ⟨ha,?_⟩
       refine Decidable.byContradiction fun hb=>hac ⟨by simp [qBu,ha],by simp [qCs,hb]⟩
      ·exact .inl ha
     rw [if_neg hno]
     by_cases ht:qDp (qON l) (qBu l) (qCs l) (qR l) f k<0
     ·refine .inr ⟨?_,by rw [if_pos ht]⟩
      rcases hcase with ha|⟨ha,hb⟩
      ·rw [qN (r:= .inl (-1)) (by simp [-getElem?_pos,qAL,qB,qC,qF,qG,qH,qI,Option.bind_some,qE,qJ,qK,hc,hx,qBn,qBQ,qAr,qAX,qAY,qAZ,qAa,qAb,qAc,qAd,qAe,qAf,qAg,qx,qy,qz,q7,hg',hj',hws',hk0,hck,hkx,ha,hwd,hr,ht])]
      ·rw [qN (r:= .inl (-1)) (by simp [-getElem?_pos,qAL,qB,qC,qF,qG,qH,qI,Option.bind_some,qE,qJ,qK,hc,hx,qBn,qBQ,qAr,qAX,qAY,qAZ,qAa,qAb,qAc,qAd,qAe,qAf,qAg,qx,qy,qz,q7,hg',hj',hws',hk0,hck,hkx,ha,hb,hwd,hr,ht])]
     ·rw [if_neg ht]
      have hb1:=(qe6 (qON l) (qBu l) (qCs l) (qR l) f (k.toNat+1) k (by omega) (by omega) (by omega)).1
      have hstep:zL (qAL (qAB n) n) (M+1) (l.map qV,x1,d,s,(j:Int))=zL (qAL (qAB n) n) M (l.map qV,x1,d,qDp (qON l) (qBu l) (qCs l) (qR l) f k,(j:Int)-1):=by
       rcases hcase with ha|⟨ha,hb⟩
       ·rw [qX (v':=(l.map qV,x1,d,qDp (qON l) (qBu l) (qCs l) (qR l) f k,(j:Int)-1)) (by simp [-getElem?_pos,qAL,qB,qC,qF,qG,qH,qI,Option.bind_some,qE,qJ,qK,hc,hx,qBn,qBQ,qAr,qAX,qAY,qAZ,qAa,qAb,qAc,qAd,qAe,qAf,qAg,qx,qy,qz,q7,hg',hj',hws',hk0,hck,hkx,ha,hwd,hr,ht,hw2])]
       ·rw [qX (v':=(l.map qV,x1,d,qDp (qON l) (qBu l) (qCs l) (qR l) f k,(j:Int)-1)) (by simp [-getElem?_pos,qAL,qB,qC,qF,qG,qH,qI,Option.bind_some,qE,qJ,qK,hc,hx,qBn,qBQ,qAr,qAX,qAY,qAZ,qAa,qAb,qAc,qAd,qAe,qAf,qAg,qx,qy,qz,q7,hg',hj',hws',hk0,hck,hkx,ha,hb,hwd,hr,ht,hw2])]
      rw [hstep]
      exact ih _ (by omega) (by omega) (by omega) (by omega)
  ·refine .inr ⟨?_,by rw [if_pos (.inl hks)]⟩
   rw [qN (r:= .inl (-1)) (by simp [-getElem?_pos,qAL,qB,qC,qF,qG,qH,qI,Option.bind_some,qE,qJ,qK,hc,hx,qBn,qBQ,qAr,qAX,qAY,qAZ,qAa,qAb,qAc,qAd,qAe,qAf,qAg,qx,qy,qz,q7,hg',hj',hws,hks])]
theorem qaD (l:List Nd) (hl:l.length≤140737488351232) (hk:∀c∈l,(kd c).length≤140737488351232∧c.2.2.2.2.1.size≤140737488351232):∀(f:Nat) (x d:Int),x<l.length→d=12-f→0≤d→Ev (qAB · (l.map qV) x d) (qDp (qON l) (qBu l) (qCs l) (qR l) f x)
 |0,x,d,h1,h2,h3=>by
  refine ⟨1,fun n hn=>?_⟩
  obtain ⟨m,rfl,hm⟩:=up1 (n0:=0) hn
  have a:d≥12:=by omega
  by_cases h:x<0<;>simp [-getElem?_pos,qAB,qMg,qB,qC,qF,qG,qH,qI,Option.bind_some,qE,qJ,qK,h,a,qDp]
 |f+1,x,d,h1,h2,h3=>by
  by_cases h0:x<0
  ·refine ⟨1,fun n hn=>?_⟩
   obtain ⟨m,rfl,hm⟩:=up1 (n0:=0) hn
   simp [-getElem?_pos,qAB,qMg,qB,qC,qF,qG,qH,qI,Option.bind_some,qE,qJ,qK,h0,qDp]
  ·have hx:0≤x∧x<l.length:=by omega
   have hc:=qED hx
   have hm':=qTN hx
   obtain ⟨n0,hn0⟩:=qfS (F:=fun y n=>qAB n (l.map qV) y (d+1)) (f:=fun y=>qDp (qON l) (qBu l) (qCs l) (qR l) f y) x (fun y h3 h4=>qaD l hl hk f y (d+1) (by omega) (by omega) (by omega))
   obtain ⟨n1,g1⟩:=qeM (ndi l x) (hk _ hm').2
   refine ⟨n0+n1+(kd (ndi l x)).length+5,fun n hn=>?_⟩
   obtain ⟨m,rfl,hm⟩:=up1 hn
   have g1:=g1 m (by omega)
   have h:=qeY l x d f m hx hl (by omega) (hk _ hm').1 (hn0 m (by omega)) (kd (ndi l x)).length m x (Nat.le_refl _) (by omega) (by omega) (by omega)
   have e:(qR l x).take (kd (ndi l x)).length=qR l x:=List.take_length
   rw [e] at h
   have hw2:IntKind.i64.wrap (((kd (ndi l x)).length:Int)-1)=((kd (ndi l x)).length:Int)-1:=by
    have:=(hk _ hm').1
    exact qa (by omega)
   have a:¬d≥12:=by omega
   unfold kd at h hw2
   dsimp only at g1⊢
   simp only [qAB,qMg,qDp,qB,qC,qF,qG,qH,qI,Option.bind_some,qE,qJ,qK]
   cases hnb:qNz (ndi l x) with
   |false=>
    rw [hnb] at g1
    simp [-getElem?_pos,qB,qC,qF,qG,qH,qI,Option.bind_some,qE,qJ,qK,h0,a,hc,hx,qBn,qBQ,qAr,qAX,qAY,qAZ,qAa,qAb,qAc,qAd,qAe,qAf,qAg,qx,qy,qz,q7,g1,qON,hnb]
   |true=>
    rw [hnb] at g1
    rcases h with h|⟨h,h'⟩
    ·simp [-getElem?_pos,qB,qC,qF,qG,qH,qI,Option.bind_some,qE,qJ,qK,h0,a,hc,hx,qBn,qBQ,qAr,qAX,qAY,qAZ,qAa,qAb,qAc,qAd,qAe,qAf,qAg,qx,qy,qz,q7,g1,qON,hnb,hw2,h]
    ·simp only [h']
     simp [-getElem?_pos,qB,qC,qF,qG,qH,qI,Option.bind_some,qE,qJ,qK,h0,a,hc,hx,qBn,qBQ,qAr,qAX,qAY,qAZ,qAa,qAb,qAc,qAd,qAe,qAf,qAg,qx,qy,qz,q7,g1,qON,hnb,hw2,h]
theorem qgn {l:List Nd}:qMo l=(decide (1≤l.length∧l.length≤60)&&(!qBu l ((l.length:Int)-1)&&decide (qDp (qON l) (qBu l) (qCs l) (qR l) 12 ((l.length:Int)-1)=0))):=by
 rw [Bool.eq_iff_iff]
 unfold qMo
 simp only [Bool.and_eq_true,decide_eq_true_eq]
 constructor
 ·intro ⟨h1,h2,h3,h4,h5⟩
  refine ⟨h1,h4,?_⟩
  rw [qf9 (qON l) (qBu l) (qCs l) (qR l) 12 l.length l.length ((l.length:Int)-1) (by omega) (by omega) (by omega) (fun i i0 i1=>qMn.1 h2 i i0 (by omega)) (by omega) (by simpa using h5)]
  exact h3
 ·intro ⟨h1,h4,h5⟩
  obtain ⟨b1,b2,b3,b4⟩:=qe6 (qON l) (qBu l) (qCs l) (qR l) 12 l.length ((l.length:Int)-1) (by omega) (by omega) (by omega)
  rw [h5] at b2 b3
  refine ⟨h1,qMn.2 (fun i i0 i1=>b3 i i0 (by omega)),b2,h4,?_⟩
  have:=b4 l.length (fun i i0 i1=>(b3 i i0 i1).2) (by omega)
  simpa using this
theorem qQ4 (l:List Nd) (hl:l.length≤140737488351232) (hk:∀c∈l,(kd c).length≤140737488351232∧c.2.2.2.2.1.size≤140737488351232):Ev (qBg · (l.map qV)) (qMo l):=by
 rw [qgn]
 by_cases h:1≤l.length∧l.length≤60
 ·obtain ⟨n1,g1⟩:=qaD l hl hk 12 ((l.length:Int)-1) 0 (by omega) (by omega) (by omega)
  obtain ⟨n2,g2⟩:=qAU (l.length:Int) 1 60
  refine ⟨n1+n2+1,fun n hn=>?_⟩
  obtain ⟨m,rfl,hm⟩:=up1 hn
  have g1:=g1 m (by omega)
  have g2:=g2 m (by omega)
  dsimp only at g1 g2⊢
  have hw:IntKind.i64.wrap ((l.length:Int)-1)=(l.length:Int)-1:=qa (by omega)
  have hx:0≤(l.length:Int)-1∧(l.length:Int)-1<l.length:=by omega
  have hc:=qED hx
  have h':(1:Int)≤l.length∧(l.length:Int)≤60:=by omega
  generalize hxe:(l.length:Int)-1=x at hw hx hc g1⊢
  by_cases ha:(ndi l x).1=3
  ·simp [-getElem?_pos,qBg,qEV,qB,qC,qF,qG,qH,qI,Option.bind_some,qE,qJ,qK,hxe,g2,h',hw,hx,hc,qBn,qBQ,qAr,qAX,qAY,qAZ,qAa,qAb,qAc,qAd,qAe,qAf,qAg,qx,qy,qz,q7,ha,qBu]
  ·by_cases hf:qDp (qON l) (qBu l) (qCs l) (qR l) 12 x=0<;>simp [-getElem?_pos,qBg,qEV,qB,qC,qF,qG,qH,qI,Option.bind_some,qE,qJ,qK,hxe,g1,g2,h,h',hw,hx,hc,qBn,qBQ,qAr,qAX,qAY,qAZ,qAa,qAb,qAc,qAd,qAe,qAf,qAg,qx,qy,qz,q7,ha,qBu,hf]
 ·obtain ⟨n2,g2⟩:=qAU (l.length:Int) 1 60
  refine ⟨n2+1,fun n hn=>?_⟩
  obtain ⟨m,rfl,hm⟩:=up1 hn
  have g2:=g2 m (by omega)
  dsimp only at g2⊢
  have h':¬((1:Int)≤l.length∧(l.length:Int)≤60):=by omega
  simp [-getElem?_pos,qBg,qEV,qB,qC,qF,qG,qH,qI,Option.bind_some,qE,qJ,qK,g2,h,h']
def qBv (l:List UInt8):List UInt8:=l.flatMap fun c=>if c=34 then [34,34] else [c]
def qa7 (s:ByteArray):ByteArray:=⟨(34::qBv s.toList++ [34]).toArray⟩
theorem qPm (c:UInt8) (l:List UInt8):qBv (c::l)=(if c=34 then [34,34] else [c])++qBv l:=by simp [qBv]
theorem qeZ (l r:List UInt8):qBv (l++r)=qBv l++qBv r:=by simp [qBv]
theorem qSk:∀l:List UInt8,(qBv l).length≤2*l.length
 | []=>by simp [qBv]
 |c::l=>by
  have:=qSk l
  rw [qPm]
  by_cases h:c=34<;>simp [h]<;>omega
theorem qYJ:∀s:List UInt8,Lib.replaceK [34] [34,34] (Lib.count s [34]) s=qBv s
 | []=>by
  rw [Lib.count_miss (by rfl)]
  rfl
 |b::l=>by
  have ih:=qYJ l
  by_cases hb:b=34
  ·subst hb
   have h0:Lib.index (34::l) [34]=((0:Nat):Int):=by simp [Lib.index,List.isPrefixOf]
   rw [Lib.count_hit (by simp) h0,Nat.add_comm,Lib.replaceK_hit _ _ _ _ 0 h0]
   simp only [List.take_zero,List.nil_append,Nat.zero_add,List.length_singleton,List.drop_succ_cons,List.drop_zero]
   rw [ih,qPm,if_pos rfl]
  ·have hix:Lib.index (b::l) [34]=if Lib.index l [34]== -1 then-1 else Lib.index l [34]+1:=by
    have:((34:UInt8)==b)=false:=by simpa using fun e=>hb e.symm
    simp [Lib.index,List.isPrefixOf,this]
   rw [qPm,if_neg hb]
   by_cases hm:Lib.index l [34]= -1
   ·rw [hm] at hix
    rw [Lib.count_miss hm] at ih
    rw [Lib.count_miss (by rw [hix];rfl)]
    rw [Lib.replaceK] at ih⊢
    rw [←ih]
    rfl
   ·have hge:=Lib.index_ge l [34]
    obtain ⟨i,hi⟩:∃i:Nat,Lib.index l [34]=i:=⟨(Lib.index l [34]).toNat,by omega⟩
    have hix':Lib.index (b::l) [34]=((i+1:Nat):Int):=by
     rw [hix,if_neg (by simp [hm]),hi]
     omega
    rw [Lib.count_hit (by simp) hi,Nat.add_comm,Lib.replaceK_hit _ _ _ _ i hi] at ih
    rw [Lib.count_hit (by simp) hix',Nat.add_comm,Lib.replaceK_hit _ _ _ _ (i+1) hix']
    rw [←ih]
    simp only [List.length_singleton,List.take_succ_cons,List.drop_succ_cons,List.cons_append,List.singleton_append,List.nil_append]
theorem qa8 (s:List UInt8):Lib.replaceAll s [34] [34,34]=qBv s:=by
 have h1:(([34]:List UInt8)== [34,34])=false:=by decide
 have h2:Lib.replaceNum s [34] (-1)=Lib.count s [34]:=by unfold Lib.replaceNum;rw [if_pos (.inl (by decide))]
 unfold Lib.replaceAll Lib.replace
 rw [h1,h2]
 exact qYJ s
theorem qhG {s:ByteArray} {i:Nat} {c:UInt8} (h:s.toList[i]?=some c):s.extract i (i+1)=⟨#[c]⟩:=by
 apply qQz
 rw [Go.Lib.toList_data] at h
 rw [ByteArray.data_extract,Array.toList_extract]
 show (s.data.toList.drop i).take (i+1-i)=_
 rw [qLc h,Nat.add_sub_cancel_left]
 rfl
theorem qfq (n:Nat) (s A:ByteArray) (i:Nat) (c:UInt8) (hg:s.toList[i]?=some c) (hi:i<s.size) (hA:A.size≤10000) (hs:s.size≤1000):
  (qBM n (s,A,(i:Int))).run=some (.inl (s,if c=34 then (A++⟨#[34]⟩)++⟨#[c]⟩ else A++⟨#[c]⟩,((i+1:Nat):Int))):=by
 have hi':(i:Int)<s.size:=by omega
 have w1:IntKind.i64.wrap ((i:Int)+1)=((i+1:Nat):Int):=by rw [qa (by omega)];omega
 have hx:=qhG hg
 have d1:(⟨#[34]⟩:ByteArray).size=1:=rfl
 have d2:(⟨#[c]⟩:ByteArray).size=1:=rfl
 have y1:(0:Int)≤(i:Int)∧(i:Int)≤((i+1:Nat):Int)∧((i+1:Nat):Int)≤s.size:=by omega
 have y0:(0:Int)≤(i:Int):=by omega
 have z1:A.size+(⟨#[34]⟩:ByteArray).size≤9223372036854775807:=by omega
 have z2:(A++(⟨#[34]⟩:ByteArray)).size+(⟨#[c]⟩:ByteArray).size≤9223372036854775807:=by rw [ByteArray.size_append];omega
 have z3:A.size+(⟨#[c]⟩:ByteArray).size≤9223372036854775807:=by omega
 by_cases hc:c=34
 ·have hb:((c.toNat:Int)==(34:Int))=true:=by rw [hc];rfl
  rw [if_pos hc]
  simp only [qBM,qB,qC,qF,qG,qH,qI,Option.bind_some,qE,qJ,qK,decide_eq_true hi',decide_eq_true y0,Int.toNat_natCast,hg,hb,decide_eq_true z1,w1,decide_eq_true y1,hx,decide_eq_true z2,if_true]
 ·have hb:((c.toNat:Int)==(34:Int))=false:=by
   have:c.toNat≠34:=fun e=>hc (UInt8.toNat_inj.1 e)
   simp
   omega
  simp only [qBM,qB,qC,qF,qG,qH,qI,Option.bind_some,qE,qJ,qK,decide_eq_true hi',decide_eq_true y0,Int.toNat_natCast,hg,hb,w1,decide_eq_true y1,hx,decide_eq_true z3,if_true,hc,if_false,Bool.false_eq_true]
theorem qdk (n:Nat) (s:ByteArray) (hs:s.size≤1000):∀(r pre:List UInt8) (M:Nat),s.toList=pre++r→r.length+1≤M→
  zL (qBM n) M (s,⟨(34::qBv pre).toArray⟩,(pre.length:Int))=some ⟨(34::qBv s.toList).toArray⟩
 |r,pre,0,h1,h2=>by omega
 | [],pre,M+1,h1,h2=>by
  have hi:¬(pre.length:Int)<s.size:=by rw [qCK,h1];simp
  rw [h1,List.append_nil]
  generalize (⟨(34::qBv pre).toArray⟩:ByteArray)=A
  rw [qN (r:=A) (by simp [qBM,qB,qC,qF,qG,qH,qI,Option.bind_some,qE,qJ,qK,hi])]
 |c::r,pre,M+1,h1,h2=>by
  have hl:s.size=pre.length+(r.length+1):=by rw [qCK,h1];simp
  have hg:s.toList[pre.length]?=some c:=by rw [h1];simp
  have hq:=qSk pre
  have hA:(⟨(34::qBv pre).toArray⟩:ByteArray).size≤10000:=by
   rw [qEC]
   simp
   omega
  rw [qX (qfq n s _ pre.length c hg (by omega) hA hs)]
  have e:(if c=34 then ((⟨(34::qBv pre).toArray⟩:ByteArray)++⟨#[34]⟩)++⟨#[c]⟩ else (⟨(34::qBv pre).toArray⟩:ByteArray)++⟨#[c]⟩)=⟨(34::qBv (pre++ [c])).toArray⟩:=by
   apply qQz
   by_cases hc:c=34
   ·rw [if_pos hc,qGN,qGN,qeZ,qPm,if_pos hc,hc]
    simp [qBv]
   ·rw [if_neg hc,qGN,qeZ,qPm,if_neg hc]
    simp [qBv]
  rw [e]
  have h:=qdk n s hs r (pre++ [c]) M (by rw [h1];simp) (by simp at h2;omega)
  rw [show ((pre++ [c]).length:Int)=((pre.length+1:Nat):Int) by simp] at h
  exact h
theorem qfr (s:ByteArray):(qa7 s).size≤2*s.size+2:=by
 have:=qSk s.toList
 rw [qAW] at this
 rw [qEC]
 simp [qa7]
 omega
theorem qcZ (s:ByteArray) (hs:s.size≤1000):Ev (qGC · s) (qa7 s):=by
 refine ⟨s.size+5,fun n hn=>?_⟩
 obtain ⟨m,rfl,hm⟩:=up1 hn
 have h:=qdk m s hs s.toList [] m rfl (by rw [qAW];omega)
 simp only [List.length_nil,Int.natCast_zero] at h
 have e0:(⟨(34::qBv []).toArray⟩:ByteArray)=⟨#[34]⟩:=rfl
 rw [e0] at h
 have hz:(⟨(34::qBv s.toList).toArray⟩:ByteArray).size+(⟨#[34]⟩:ByteArray).size≤9223372036854775807:=by
  have:=qSk s.toList
  rw [qAW] at this
  have d1:(⟨#[34]⟩:ByteArray).size=1:=rfl
  rw [qEC,d1]
  simp
  omega
 simp only [qGC,qOz,qB,qC,qF,qG,qH,qI,Option.bind_some,qE,qJ,qK,h,decide_eq_true hz,if_true]
 congr 1
theorem qeN (s:ByteArray) (hs:s.size≤1000):Ev (qDj · s ⟨#[34]⟩ ⟨#[34,34]⟩) ⟨(qBv s.toList).toArray⟩:=by
 refine ⟨1,fun n hn=>?_⟩
 obtain ⟨m,rfl,hm⟩:=up1 (n0:=0) hn
 show zq s ⟨#[34]⟩ ⟨#[34,34]⟩=_
 have hc:=Lib.countB_mul_le (⟨#[34]⟩:ByteArray) (by decide) s.size s (Nat.le_refl _)
 have d1:(⟨#[34]⟩:ByteArray).size=1:=rfl
 have d2:(⟨#[34,34]⟩:ByteArray).size=2:=rfl
 unfold zq
 rw [d1] at hc
 rw [if_pos (by rw [d1,d2];omega)]
 congr 3
 rw [←Go.Lib.toList_data]
 exact qa8 _
def lvl (op:Int):Int:=if op≥6 then 1 else if op=5 then 2 else if op≥3 then 4 else 3
theorem qfs (op:Int):1≤lvl op∧lvl op≤4:=by
 unfold lvl
 split
 ·omega
 ·split
  ·omega
  ·split<;>omega
theorem qUS (op:Int):Ev (qCG · op) (lvl op):=by
 refine ⟨1,fun n hn=>?_⟩
 obtain ⟨m,rfl,hm⟩:=up1 hn
 simp only [qCG,qOk,qB,qC,qF,qG,qH,qI,Option.bind_some,qE,qJ,qK]
 unfold lvl
 by_cases h1:op≥6
 ·simp [h1]
 ·by_cases h2:op=5
  ·simp [h2]
  ·by_cases h3:op≥3<;>simp [h1,h2,h3]
theorem qhH {op:Int} (h:1≤op∧op≤11):op=1∨op=2∨op=3∨op=4∨op=5∨op=6∨op=7∨op=8∨op=9∨op=10∨op=11:=by omega
theorem qYK (op:Int) (h:1≤op∧op≤11):Ev (qE6 · op) (lvl op):=by
 refine ⟨1,fun n hn=>?_⟩
 obtain ⟨m,rfl,hm⟩:=up1 hn
 simp only [qE6,qS6,qB,qC,qF,qG,qH,qI,Option.bind_some,qE,qJ,qK]
 rcases qhH h with rfl|rfl|rfl|rfl|rfl|rfl|rfl|rfl|rfl|rfl|rfl<;>rfl
def qAM (op:Int):ByteArray:=if op=1 then ⟨#[43]⟩ else if op=2 then ⟨#[45]⟩ else if op=3 then ⟨#[42]⟩ else if op=4 then ⟨#[47]⟩ else if op=5 then ⟨#[38]⟩ else if op=6 then ⟨#[61]⟩ else if op=7 then ⟨#[60,62]⟩ else if op=8 then ⟨#[60]⟩ else if op=9 then ⟨#[60,61]⟩ else if op=10 then ⟨#[62]⟩ else ⟨#[62,61]⟩
def fnS (op:Int):ByteArray:=if op=1 then ⟨#[83,85,77]⟩ else if op=2 then ⟨#[77,73,78]⟩ else if op=3 then ⟨#[77,65,88]⟩ else if op=4 then ⟨#[67,79,85,78,84]⟩ else if op=5 then ⟨#[73,70]⟩ else if op=6 then ⟨#[65,78,68]⟩ else if op=7 then ⟨#[79,82]⟩ else if op=8 then ⟨#[78,79,84]⟩ else if op=9 then ⟨#[65,66,83]⟩ else ⟨#[76,69,78]⟩
theorem qYv {op:Int} (h:1≤op∧op≤11):(qAM op).size≤2:=by
 rcases qhH h with rfl|rfl|rfl|rfl|rfl|rfl|rfl|rfl|rfl|rfl|rfl<;>decide
theorem qdl {op:Int} (h:1≤op∧op≤10):(fnS op).size≤5:=by
 rcases ten h with rfl|rfl|rfl|rfl|rfl|rfl|rfl|rfl|rfl|rfl<;>decide
theorem qWU (op:Int) (h:1≤op∧op≤11):Ev (qCq · op) (qAM op):=by
 refine ⟨1,fun n hn=>?_⟩
 obtain ⟨m,rfl,hm⟩:=up1 hn
 simp only [qCq,qRG,qB,qC,qF,qG,qH,qI,Option.bind_some,qE,qJ,qK]
 rcases qhH h with rfl|rfl|rfl|rfl|rfl|rfl|rfl|rfl|rfl|rfl|rfl<;>rfl
theorem qPn (op:Int) (h:1≤op∧op≤11):Ev (qBP · op) (qAM op):=by
 refine ⟨1,fun n hn=>?_⟩
 obtain ⟨m,rfl,hm⟩:=up1 hn
 simp only [qBP,qRf,qB,qC,qF,qG,qH,qI,Option.bind_some,qE,qJ,qK]
 rcases qhH h with rfl|rfl|rfl|rfl|rfl|rfl|rfl|rfl|rfl|rfl|rfl<;>rfl
theorem qaE (op:Int) (h:1≤op∧op≤10):Ev (qCp · op) (fnS op):=by
 refine ⟨1,fun n hn=>?_⟩
 obtain ⟨m,rfl,hm⟩:=up1 hn
 simp only [qCp,qVE,qB,qC,qF,qG,qH,qI,Option.bind_some,qE,qJ,qK]
 rcases ten h with rfl|rfl|rfl|rfl|rfl|rfl|rfl|rfl|rfl|rfl<;>rfl
theorem qWV (op:Int) (h:1≤op∧op≤10):Ev (qCB · op) (fnS op):=by
 refine ⟨1,fun n hn=>?_⟩
 obtain ⟨m,rfl,hm⟩:=up1 hn
 simp only [qCB,qRc,qB,qC,qF,qG,qH,qI,Option.bind_some,qE,qJ,qK]
 rcases ten h with rfl|rfl|rfl|rfl|rfl|rfl|rfl|rfl|rfl|rfl<;>rfl
def qdm (xs:List ByteArray):ByteArray:=⟨(Lib.join (xs.map (·.data.toList)) [44]).toArray⟩
def par (b:Bool) (s:ByteArray):ByteArray:=if b=true then ((⟨#[40]⟩:ByteArray)++s)++⟨#[41]⟩ else s
def kid (c:Nd) (j:Nat):Int:=(kd c).getD j 0
def qq (l:List Nd):Nat→Int→Int→ByteArray
 |0,_,_=>⟨#[]⟩
 |f+1,i,t=>
  if (ndi l i).1=1 then (if (ndi l i).2.2.1=2 then qa7 (ndi l i).2.2.2.2.1 else qCb (ndi l i).2.2.1 (ndi l i).2.2.2.1 (ndi l i).2.2.2.2.1)
  else if (ndi l i).1=2 then qCn (ndi l i).2.2.2.2.2.1 (ndi l i).2.2.2.2.2.2.1 (ndi l i).2.2.2.2.2.2.2.1 (ndi l i).2.2.2.2.2.2.2.2.1
  else if (ndi l i).1=3 then (qCn (ndi l i).2.2.2.2.2.1 (ndi l i).2.2.2.2.2.2.1 (ndi l i).2.2.2.2.2.2.2.1 (ndi l i).2.2.2.2.2.2.2.2.1++⟨#[58]⟩)++qCn (ndi l i).2.2.2.2.2.2.2.2.2.1 (ndi l i).2.2.2.2.2.2.2.2.2.2.1 (ndi l i).2.2.2.2.2.2.2.2.2.2.2.1 (ndi l i).2.2.2.2.2.2.2.2.2.2.2.2.1
  else if (ndi l i).1=4 then (⟨#[45]⟩:ByteArray)++qq l f (kid (ndi l i) 0) 5
  else if (ndi l i).1=5 then par (decide (lvl (ndi l i).2.1<t)) ((qq l f (kid (ndi l i) 0) (lvl (ndi l i).2.1)++qAM (ndi l i).2.1)++qq l f (kid (ndi l i) 1) (lvl (ndi l i).2.1+1))
  else ((fnS (ndi l i).2.1++⟨#[40]⟩)++qdm ((qR l i).map fun k=>qq l f k 1))++⟨#[41]⟩
theorem qgC (l:List Nd) (f:Nat) (i:Int):qq l f i 0=qq l f i 1:=by
 cases f with
 |zero=>rfl
 |succ f=>
  have h:=qfs (ndi l i).2.1
  have e:decide (lvl (ndi l i).2.1<0)=decide (lvl (ndi l i).2.1<1):=by
   rw [decide_eq_false (by omega),decide_eq_false (by omega)]
  simp only [qq,e]
theorem qWW {c:Nd} (h:qNz c=true):(c.1=1∧okV c.2.2.1 c.2.2.2.1 c.2.2.2.2.1=true)∨c.1=2∨c.1=3∨(c.1=4∧(kd c).length=1)∨(c.1=5∧(1≤c.2.1∧c.2.1≤11)∧(kd c).length=2)∨(c.1=6∧(1≤c.2.1∧c.2.1≤10)∧(1≤(kd c).length∧(kd c).length≤10)):=by
 unfold qNz at h
 by_cases k1:c.1=1
 ·rw [if_pos k1] at h
  simp only [Bool.and_eq_true] at h
  exact .inl ⟨k1,h.2.2.2.2.1⟩
 rw [if_neg k1] at h
 by_cases k2:c.1=2
 ·exact .inr (.inl k2)
 rw [if_neg k2] at h
 by_cases k3:c.1=3
 ·exact .inr (.inr (.inl k3))
 rw [if_neg k3] at h
 by_cases k4:c.1=4
 ·rw [if_pos k4] at h
  simp only [Bool.and_eq_true,decide_eq_true_eq] at h
  exact .inr (.inr (.inr (.inl ⟨k4,h.2.2.2.2⟩)))
 rw [if_neg k4] at h
 by_cases k5:c.1=5
 ·rw [if_pos k5] at h
  simp only [Bool.and_eq_true,decide_eq_true_eq] at h
  exact .inr (.inr (.inr (.inr (.inl ⟨k5,h.1,h.2.2.2.2⟩))))
 rw [if_neg k5] at h
 by_cases k6:c.1=6
 ·rw [if_pos k6] at h
  simp only [Bool.and_eq_true] at h
  have ha:=h.1
  unfold qSi at ha
  refine .inr (.inr (.inr (.inr (.inr ⟨k6,?_⟩))))
  by_cases h5:c.2.1=5
  ·rw [if_pos h5] at ha
   have:=of_decide_eq_true ha
   omega
  ·rw [if_neg h5] at ha
   by_cases h8:8≤c.2.1∧c.2.1≤10
   ·rw [if_pos h8] at ha
    have:=of_decide_eq_true ha
    omega
   ·rw [if_neg h8] at ha
    by_cases h1:1≤c.2.1∧c.2.1≤7
    ·rw [if_pos h1] at ha
     have:=of_decide_eq_true ha
     omega
    ·rw [if_neg h1] at ha
     cases ha
 ·rw [if_neg k6] at h
  cases h
def szB:Nat→Nat
 |0=>37
 |f+1=>11*szB f
theorem qhI:∀f:Fin 13,szB f.val≤120000000000000:=by decide
theorem qgo {f:Nat} (h:f≤12):szB f≤120000000000000:=qhI ⟨f,by omega⟩
theorem qgp:∀f:Nat,37≤szB f
 |0=>Nat.le_refl _
 |f+1=>by have:=qgp f;simp only [szB];omega
theorem qYL (x:List UInt8) (r:List (List UInt8)) (sep:List UInt8):Lib.joinTail sep (x::r)=sep++x++Lib.joinTail sep r:=by simp [Lib.joinTail]
theorem qaF:∀(xs:List ByteArray) (b:Nat),(∀x∈xs,x.size≤b)→(Lib.joinTail [44] (xs.map (·.data.toList))).length≤xs.length*(b+1)
 | [],b,h=>by simp [Lib.joinTail]
 |x::r,b,h=>by
  have ih:=qaF r b fun y hy=>h y (List.mem_cons_of_mem _ hy)
  have hx:=h x (List.mem_cons_self ..)
  rw [qEC] at hx
  rw [List.map_cons,qYL,List.length_append,List.length_append,List.length_singleton,List.length_cons,Nat.add_mul]
  omega
theorem qYw {xs:List ByteArray} {b:Nat} (h:∀x∈xs,x.size≤b):(qdm xs).size≤xs.length*(b+1):=by
 rw [qEC]
 show (Lib.join (xs.map (·.data.toList)) [44]).length≤_
 cases xs with
 |nil=>simp [Lib.join_nil]
 |cons x r=>
  have h1:=qaF r b fun y hy=>h y (List.mem_cons_of_mem _ hy)
  have hx:=h x (List.mem_cons_self ..)
  rw [qEC] at hx
  rw [List.map_cons,Lib.join_cons,List.length_append,List.length_cons,Nat.add_mul]
  omega
structure Fine (l:List Nd):Prop where
 len:l.length≤60
 own:∀i:Int,0≤i→i<l.length→qON l i=true∧qPl (qBu l) (qCs l) (qR l) i
 sz:∀c∈l,(kd c).length≤140737488351232∧c.2.2.2.2.1.size≤140737488351232
theorem Fine.kid {l:List Nd} (h:Fine l) {f:Nat} {i k:Int} (hi:0≤i∧i<l.length) (hd:qBA (qR l) (i.toNat+1) i≤(f+1:Nat)) (hk:k∈qR l i):(0≤k∧k<l.length)∧qBA (qR l) (k.toNat+1) k≤f:=by
 have hin:=(h.own i hi.1 hi.2).2 k hk
 have h1:=(qdi (qR l) (n:=i) (b:=((f+1:Nat):Int)) (f:=i.toNat) (by omega)).1 hd k hk
 refine ⟨by omega,?_⟩
 rw [qdj (qBu l) (qCs l) (qR l) (k.toNat+1) i.toNat k (by omega) (by omega) (fun j j0 j1=>(h.own j j0 (by omega)).2) (by omega)]
 omega
theorem qa9 {l:List Nd} (h:Fine l):∀(f:Nat) (i t:Int),f≤12→(0≤i∧i<l.length)→qBA (qR l) (i.toNat+1) i≤f→(qq l f i t).size≤szB f
 |0,i,t,hf,hi,hd=>by show (⟨#[]⟩:ByteArray).size≤_;exact Nat.zero_le _
 |f+1,i,t,hf,hi,hd=>by
  have ih:=fun k hk t'=>qa9 h f k t' (by omega) (h.kid hi hd hk).1 (h.kid hi hd hk).2
  have hs:=qgp f
  have hp:∀a b c d,(qCn a b c d).size≤30:=qWQ
  have hz:=(h.sz _ (qTN hi)).2
  have d1:(⟨#[58]⟩:ByteArray).size=1:=rfl
  have d2:(⟨#[45]⟩:ByteArray).size=1:=rfl
  have d3:(⟨#[40]⟩:ByteArray).size=1:=rfl
  have d4:(⟨#[41]⟩:ByteArray).size=1:=rfl
  have hk0:∀j,j<(kd (ndi l i)).length→kid (ndi l i) j∈qR l i:=fun j hj=>by
   unfold kid
   rw [List.getD_eq_getElem?_getD,List.getElem?_eq_getElem hj]
   exact List.getElem_mem hj
  rw [szB,qq]
  rcases qWW (h.own i hi.1 hi.2).1 with ⟨k,hv⟩|k|k|⟨k,hk⟩|⟨k,ho,hk⟩|⟨k,ho,hk⟩
  ·rw [if_pos k]
   by_cases k2:(ndi l i).2.2.1=2
   ·rw [if_pos k2]
    rw [k2] at hv
    have:=(qeR hv).2.1
    have:=qfr (ndi l i).2.2.2.2.1
    omega
   ·rw [if_neg k2]
    have:=qfo hv
    omega
  ·rw [if_neg (by omega),if_pos k]
   have:=hp (ndi l i).2.2.2.2.2.1 (ndi l i).2.2.2.2.2.2.1 (ndi l i).2.2.2.2.2.2.2.1 (ndi l i).2.2.2.2.2.2.2.2.1
   omega
  ·rw [if_neg (by omega),if_neg (by omega),if_pos k,ByteArray.size_append,ByteArray.size_append]
   have h1:=hp (ndi l i).2.2.2.2.2.1 (ndi l i).2.2.2.2.2.2.1 (ndi l i).2.2.2.2.2.2.2.1 (ndi l i).2.2.2.2.2.2.2.2.1
   have h2:=hp (ndi l i).2.2.2.2.2.2.2.2.2.1 (ndi l i).2.2.2.2.2.2.2.2.2.2.1 (ndi l i).2.2.2.2.2.2.2.2.2.2.2.1 (ndi l i).2.2.2.2.2.2.2.2.2.2.2.2.1
   omega
  ·rw [if_neg (by omega),if_neg (by omega),if_neg (by omega),if_pos k,ByteArray.size_append]
   have:=ih _ (hk0 0 (by omega)) 5
   omega
  ·rw [if_neg (by omega),if_neg (by omega),if_neg (by omega),if_neg (by omega),if_pos k]
   have h1:=ih _ (hk0 0 (by omega)) (lvl (ndi l i).2.1)
   have h2:=ih _ (hk0 1 (by omega)) (lvl (ndi l i).2.1+1)
   have h3:=qYv ho
   unfold par
   split
   ·rw [ByteArray.size_append,ByteArray.size_append,ByteArray.size_append,ByteArray.size_append]
    omega
   ·rw [ByteArray.size_append,ByteArray.size_append]
    omega
  ·rw [if_neg (by omega),if_neg (by omega),if_neg (by omega),if_neg (by omega),if_neg (by omega)]
   rw [ByteArray.size_append,ByteArray.size_append,ByteArray.size_append]
   have h1:=qdl ho
   have h2:=qYw (xs:=(qR l i).map fun k=>qq l f k 1) (b:=szB f) (fun x hx=>by
    obtain ⟨k,hk,rfl⟩:=List.mem_map.1 hx
    exact ih k hk 1)
   have h3:(qR l i).length≤10:=hk.2
   have h4:(qR l i).length*(szB f+1)≤10*(szB f+1):=Nat.mul_le_mul_right _ h3
   rw [List.length_map] at h2
   omega
abbrev R14:=Int×Int×Int×Int×ByteArray×Int×Int×Bool×Bool×Int×Int×Bool×Bool×List (List PV)
theorem qdn (rec:List (List PV)→Int→Int→Option ByteArray) (n:Nat) (rows:List (List PV)) (A t:ByteArray) (R:R14) (i:Nat) (k:Int) (hg:R.2.2.2.2.2.2.2.2.2.2.2.2.2[i]?=some (qBI k)) (hr:rec rows k 0=some t) (hA:A.size≤2000000000000000) (ht:t.size≤120000000000000) (hi:i≤1000):
  (qBN rec n (rows,A,(i:Int),R)).run=some (.inl (rows,(if i=0 then A++t else (A++(⟨#[44]⟩:ByteArray))++t),((i+1:Nat):Int),R)):=by
 obtain ⟨a0,a1,a2,a3,a4,a5,a6,a7,a8,a9,a10,a11,a12,a13⟩:=R
 have hl:i<a13.length:=(List.getElem?_eq_some_iff.1 hg).1
 have h1:(i:Int)<(a13.length:Int):=by omega
 have h2:0≤(i:Int)∧(i:Int)<(a13.length:Int):=by omega
 have w1:IntKind.i64.wrap ((i:Int)+1)=((i+1:Nat):Int):=by rw [qa (by omega)];omega
 have d1:(⟨#[44]⟩:ByteArray).size=1:=rfl
 have z1:A.size+(⟨#[44]⟩:ByteArray).size≤9223372036854775807:=by omega
 have z2:(A++(⟨#[44]⟩:ByteArray)).size+t.size≤9223372036854775807:=by rw [ByteArray.size_append];omega
 have z3:A.size+t.size≤9223372036854775807:=by omega
 by_cases h0:i=0
 ·subst h0
  simp only [qBN,qB,qC,qF,qG,qH,qI,Option.bind_some,qE,qJ,qK,decide_eq_true h1,Int.natCast_zero,gt_iff_lt,Int.lt_irrefl,decide_false,Bool.false_eq_true,if_false,if_true] at*
  simp only [decide_eq_true h1,decide_eq_true h2,if_true,Int.toNat_zero,hg,Option.bind_some,qBQ,qAr,decide_true,hr,decide_eq_true z3,w1]
 ·have hp:(i:Int)>0:=by omega
  simp only [qBN,qB,qC,qF,qG,qH,qI,Option.bind_some,qE,qJ,qK,decide_eq_true h1,decide_eq_true hp,if_true,decide_eq_true z1,decide_eq_true h2,Int.toNat_natCast,hg,qBQ,qAr,decide_true,hr,decide_eq_true z2,w1,h0,if_false]
theorem qea (l:List Nd) (f n:Nat) (R:R14) (b:Nat) (hb:b≤120000000000000) (ks:List Int) (hks:R.2.2.2.2.2.2.2.2.2.2.2.2.2=ks.map qBI) (hk10:ks.length≤10)
  (hr:∀k∈ks,qW n (l.map qV) k 0=some (qq l f k 1)∧(qq l f k 1).size≤b):
  ∀(r pre:List Int) (A:ByteArray) (M:Nat),ks=pre++r→r.length+1≤M→A.size≤100+pre.length*(b+1)→
   zL (qBN (qW n) n) M (l.map qV,A,(pre.length:Int),R)=some ⟨(A.data.toList++(if pre.length=0 then Lib.join (r.map fun k=>(qq l f k 1).data.toList) [44] else Lib.joinTail [44] (r.map fun k=>(qq l f k 1).data.toList))).toArray⟩
 |r,pre,A,0,h1,h2,h3=>by omega
 | [],pre,A,M+1,h1,h2,h3=>by
  obtain ⟨a0,a1,a2,a3,a4,a5,a6,a7,a8,a9,a10,a11,a12,a13⟩:=R
  simp only at hks
  subst hks
  have hi:¬(pre.length:Int)<((ks.map qBI).length:Int):=by rw [List.length_map,h1];simp
  rw [qN (r:=A) (by simp only [qBN,qB,qC,qF,qG,qH,qI,Option.bind_some,qE,qJ,qK,decide_eq_false hi,Bool.false_eq_true,if_false])]
  congr 1
  apply qQz
  simp [Lib.joinTail,Lib.join_nil]
 |k::r,pre,A,M+1,h1,h2,h3=>by
  have hm:k∈ks:=by rw [h1];simp
  obtain ⟨g1,g2⟩:=hr k hm
  have hpl:pre.length+(r.length+1)=ks.length:=by rw [h1];simp
  have hmul:pre.length*(b+1)≤10*(b+1):=Nat.mul_le_mul_right _ (by omega)
  have hg:R.2.2.2.2.2.2.2.2.2.2.2.2.2[pre.length]?=some (qBI k):=by rw [hks,h1,List.getElem?_map];simp
  rw [qX (qdn (qW n) n (l.map qV) A (qq l f k 1) R pre.length k hg g1 (by omega) (by omega) (by omega))]
  have h:=qea l f n R b hb ks hks hk10 hr r (pre++ [k]) (if pre.length=0 then A++qq l f k 1 else (A++(⟨#[44]⟩:ByteArray))++qq l f k 1) M (by rw [h1];simp) (by simp at h2;omega) (by
   have d1:(⟨#[44]⟩:ByteArray).size=1:=rfl
   rw [List.length_append,List.length_singleton,Nat.add_mul]
   split
   ·rw [ByteArray.size_append];omega
   ·rw [ByteArray.size_append,ByteArray.size_append];omega)
  rw [show ((pre++ [k]).length:Int)=((pre.length+1:Nat):Int) by simp] at h
  rw [h]
  congr 1
  apply qQz
  have e:(pre++ [k]).length≠0:=by simp
  simp only [if_neg e]
  by_cases h0:pre.length=0
  ·simp only [if_pos h0,qGN,List.map_cons,Lib.join_cons,List.append_assoc]
  ·simp only [if_neg h0,qGN,List.map_cons,qYL,List.append_assoc,List.cons_append,List.nil_append]
set_option maxHeartbeats 4000000 in
theorem qXi {l:List Nd} (h:Fine l) (f:Nat) (i t:Int) (hf:f+1≤12) (hx:0≤i∧i<l.length) (hd:qBA (qR l) (i.toNat+1) i≤(f+1:Nat)) (ih:∀k∈qR l i,∀t',Ev (qW · (l.map qV) k t') (qq l f k t')):Ev (qW · (l.map qV) i t) (qq l (f+1) i t):=by
  have ih:=fun k hk t'=>ih k hk t'
  have isz:=fun k hk t'=>qa9 h f k t' (by omega) (h.kid hx hd hk).1 (h.kid hx hd hk).2
  have hs:=qgo (f:=f) (by omega)
  have hcr:(l.map qV)[i.toNat]?=some (qV (ndi l i)):=by rw [List.getElem?_map,qED hx];rfl
  have hxb:0≤i∧i<((l.map qV).length:Int):=by rw [List.length_map];exact hx
  have hz:=(h.sz _ (qTN hx)).2
  have hp:∀a b c d,(qCn a b c d).size≤30:=qWQ
  have d1:(⟨#[58]⟩:ByteArray).size=1:=rfl
  have d2:(⟨#[45]⟩:ByteArray).size=1:=rfl
  have d3:(⟨#[40]⟩:ByteArray).size=1:=rfl
  have d4:(⟨#[41]⟩:ByteArray).size=1:=rfl
  have hk0:∀j,j<(kd (ndi l i)).length→kid (ndi l i) j∈qR l i∧(List.map qBI (ndi l i).2.2.2.2.2.2.2.2.2.2.2.2.2)[j]?=some (qBI (kid (ndi l i) j)):=fun j hj=>by
   unfold kid
   rw [List.getD_eq_getElem?_getD,List.getElem?_eq_getElem hj]
   refine ⟨List.getElem_mem hj,?_⟩
   rw [List.getElem?_map]
   show ((kd (ndi l i))[j]?).map qBI=_
   rw [List.getElem?_eq_getElem hj]
   rfl
  have hkl:(List.map qBI (ndi l i).2.2.2.2.2.2.2.2.2.2.2.2.2).length=(kd (ndi l i)).length:=by rw [List.length_map];rfl
  rcases qWW (h.own i hx.1 hx.2).1 with ⟨k,hv⟩|k|k|⟨k,hk⟩|⟨k,ho,hk⟩|⟨k,ho,hk⟩
  ·by_cases k2:(ndi l i).2.2.1=2
   ·have hv2:okV 2 (ndi l i).2.2.2.1 (ndi l i).2.2.2.2.1=true:=by rw [←k2];exact hv
    obtain ⟨n1,g1⟩:=qcZ (ndi l i).2.2.2.2.1 (by have:=(qeR hv2).2.1;omega)
    refine ⟨n1+1,fun n hn=>?_⟩
    obtain ⟨m,rfl,hm⟩:=up1 hn
    have g1:=g1 m (by omega)
    dsimp only at g1⊢
    show (qCA (qW m) m (l.map qV) i t).run=_
    refine qD (decide_eq_true hxb) (qA hcr (qD rfl (qA (qAX _) (qA (qAY _) (qA (qAZ _) (qA (qAa _) (qA (qAb _) (qA (qAc _) (qA (qAd _) (qA (qAe _) (qA (qAf _) (qA (qAg _) (qA (qx _) (qA (qy _) (qA (qz _) (qA (q7 _) ?_))))))))))))))))
    refine qD (by rw [k];rfl) (qD (by rw [k2];rfl) (qA g1 ?_))
    rw [qB,qq,if_pos k,if_pos k2]
   ·obtain ⟨n1,g1⟩:=qFs (ndi l i).2.2.1 (ndi l i).2.2.2.1 (ndi l i).2.2.2.2.1 hz
    have kb:((ndi l i).2.2.1==(2:Int))=false:=by simpa using k2
    refine ⟨n1+1,fun n hn=>?_⟩
    obtain ⟨m,rfl,hm⟩:=up1 hn
    have g1:=g1 m (by omega)
    rw [hv] at g1
    dsimp only at g1⊢
    simp only [if_true] at g1
    show (qCA (qW m) m (l.map qV) i t).run=_
    refine qD (decide_eq_true hxb) (qA hcr (qD rfl (qA (qAX _) (qA (qAY _) (qA (qAZ _) (qA (qAa _) (qA (qAb _) (qA (qAc _) (qA (qAd _) (qA (qAe _) (qA (qAf _) (qA (qAg _) (qA (qx _) (qA (qy _) (qA (qz _) (qA (q7 _) ?_))))))))))))))))
    refine qD (by rw [k];rfl) (qM kb (qA g1 ?_))
    rw [qB,qq,if_pos k,if_neg k2]
  ·obtain ⟨n1,g1⟩:=qKc (ndi l i).2.2.2.2.2.1 (ndi l i).2.2.2.2.2.2.1 (ndi l i).2.2.2.2.2.2.2.1 (ndi l i).2.2.2.2.2.2.2.2.1
   refine ⟨n1+1,fun n hn=>?_⟩
   obtain ⟨m,rfl,hm⟩:=up1 hn
   have g1:=g1 m (by omega)
   dsimp only at g1⊢
   show (qCA (qW m) m (l.map qV) i t).run=_
   refine qD (decide_eq_true hxb) (qA hcr (qD rfl (qA (qAX _) (qA (qAY _) (qA (qAZ _) (qA (qAa _) (qA (qAb _) (qA (qAc _) (qA (qAd _) (qA (qAe _) (qA (qAf _) (qA (qAg _) (qA (qx _) (qA (qy _) (qA (qz _) (qA (q7 _) ?_))))))))))))))))
   refine qM (by rw [k];rfl) (qD (by rw [k];rfl) (qA g1 ?_))
   rw [qB,qq,if_neg (by omega),if_pos k]
  ·obtain ⟨n1,g1⟩:=qKc (ndi l i).2.2.2.2.2.1 (ndi l i).2.2.2.2.2.2.1 (ndi l i).2.2.2.2.2.2.2.1 (ndi l i).2.2.2.2.2.2.2.2.1
   obtain ⟨n2,g2⟩:=qKc (ndi l i).2.2.2.2.2.2.2.2.2.1 (ndi l i).2.2.2.2.2.2.2.2.2.2.1 (ndi l i).2.2.2.2.2.2.2.2.2.2.2.1 (ndi l i).2.2.2.2.2.2.2.2.2.2.2.2.1
   have h1:=hp (ndi l i).2.2.2.2.2.1 (ndi l i).2.2.2.2.2.2.1 (ndi l i).2.2.2.2.2.2.2.1 (ndi l i).2.2.2.2.2.2.2.2.1
   have h2:=hp (ndi l i).2.2.2.2.2.2.2.2.2.1 (ndi l i).2.2.2.2.2.2.2.2.2.2.1 (ndi l i).2.2.2.2.2.2.2.2.2.2.2.1 (ndi l i).2.2.2.2.2.2.2.2.2.2.2.2.1
   have z1:(qCn (ndi l i).2.2.2.2.2.1 (ndi l i).2.2.2.2.2.2.1 (ndi l i).2.2.2.2.2.2.2.1 (ndi l i).2.2.2.2.2.2.2.2.1).size+(⟨#[58]⟩:ByteArray).size≤9223372036854775807:=by omega
   have z2:(qCn (ndi l i).2.2.2.2.2.1 (ndi l i).2.2.2.2.2.2.1 (ndi l i).2.2.2.2.2.2.2.1 (ndi l i).2.2.2.2.2.2.2.2.1++(⟨#[58]⟩:ByteArray)).size+(qCn (ndi l i).2.2.2.2.2.2.2.2.2.1 (ndi l i).2.2.2.2.2.2.2.2.2.2.1 (ndi l i).2.2.2.2.2.2.2.2.2.2.2.1 (ndi l i).2.2.2.2.2.2.2.2.2.2.2.2.1).size≤9223372036854775807:=by rw [ByteArray.size_append];omega
   refine ⟨n1+n2+1,fun n hn=>?_⟩
   obtain ⟨m,rfl,hm⟩:=up1 hn
   have g1:=g1 m (by omega)
   have g2:=g2 m (by omega)
   dsimp only at g1 g2⊢
   show (qCA (qW m) m (l.map qV) i t).run=_
   refine qD (decide_eq_true hxb) (qA hcr (qD rfl (qA (qAX _) (qA (qAY _) (qA (qAZ _) (qA (qAa _) (qA (qAb _) (qA (qAc _) (qA (qAd _) (qA (qAe _) (qA (qAf _) (qA (qAg _) (qA (qx _) (qA (qy _) (qA (qz _) (qA (q7 _) ?_))))))))))))))))
   refine qM (by rw [k];rfl) (qM (by rw [k];rfl) (qD (by rw [k];rfl) (qA g1 (qD (decide_eq_true z1) (qA g2 (qD (decide_eq_true z2) ?_))))))
   rw [qB,qq,if_neg (by omega),if_neg (by omega),if_pos k]
  ·obtain ⟨m0,c0⟩:=hk0 0 (by omega)
   obtain ⟨n1,g1⟩:=ih _ m0 5
   have h1:=isz _ m0 5
   have z1:(⟨#[45]⟩:ByteArray).size+(qq l f (kid (ndi l i) 0) 5).size≤9223372036854775807:=by omega
   have y1:(0:Int)≤(0:Int)∧(0:Int)<((List.map qBI (ndi l i).2.2.2.2.2.2.2.2.2.2.2.2.2).length:Int):=by rw [hkl];omega
   refine ⟨n1+1,fun n hn=>?_⟩
   obtain ⟨m,rfl,hm⟩:=up1 hn
   have g1:=g1 m (by omega)
   dsimp only at g1⊢
   have e0:((0:Int)).toNat=0:=rfl
   show (qCA (qW m) m (l.map qV) i t).run=_
   refine qD (decide_eq_true hxb) (qA hcr (qD rfl (qA (qAX _) (qA (qAY _) (qA (qAZ _) (qA (qAa _) (qA (qAb _) (qA (qAc _) (qA (qAd _) (qA (qAe _) (qA (qAf _) (qA (qAg _) (qA (qx _) (qA (qy _) (qA (qz _) (qA (q7 _) ?_))))))))))))))))
   refine qM (by rw [k];rfl) (qM (by rw [k];rfl) (qM (by rw [k];rfl) (qD (by rw [k];rfl) (qD (decide_eq_true y1) (qA c0 (qD rfl (qA (qAr _) (qA g1 (qD (decide_eq_true z1) ?_)))))))))
   rw [qB,qq,if_neg (by omega),if_neg (by omega),if_neg (by omega),if_pos k]
  ·obtain ⟨m0,c0⟩:=hk0 0 (by omega)
   obtain ⟨m1,c1⟩:=hk0 1 (by omega)
   have hlv:=qfs (ndi l i).2.1
   obtain ⟨n1,g1⟩:=ih _ m0 (lvl (ndi l i).2.1)
   obtain ⟨n2,g2⟩:=ih _ m1 (lvl (ndi l i).2.1+1)
   obtain ⟨n3,g3⟩:=qUS (ndi l i).2.1
   obtain ⟨n4,g4⟩:=qWU (ndi l i).2.1 ho
   have h1:=isz _ m0 (lvl (ndi l i).2.1)
   have h2:=isz _ m1 (lvl (ndi l i).2.1+1)
   have h3:=qYv ho
   have hw:IntKind.i64.wrap (lvl (ndi l i).2.1+1)=lvl (ndi l i).2.1+1:=qa (by omega)
   have y1:(0:Int)≤(0:Int)∧(0:Int)<((List.map qBI (ndi l i).2.2.2.2.2.2.2.2.2.2.2.2.2).length:Int):=by rw [hkl];omega
   have y2:(0:Int)≤(1:Int)∧(1:Int)<((List.map qBI (ndi l i).2.2.2.2.2.2.2.2.2.2.2.2.2).length:Int):=by rw [hkl];omega
   refine ⟨n1+n2+n3+n4+1,fun n hn=>?_⟩
   obtain ⟨m,rfl,hm⟩:=up1 hn
   have g1:=g1 m (by omega)
   have g2:=g2 m (by omega)
   have g3:=g3 m (by omega)
   have g4:=g4 m (by omega)
   dsimp only at g1 g2 g3 g4⊢
   have e0:((0:Int)).toNat=0:=rfl
   have e1:((1:Int)).toNat=1:=rfl
   show (qCA (qW m) m (l.map qV) i t).run=_
   refine qD (decide_eq_true hxb) (qA hcr (qD rfl (qA (qAX _) (qA (qAY _) (qA (qAZ _) (qA (qAa _) (qA (qAb _) (qA (qAc _) (qA (qAd _) (qA (qAe _) (qA (qAf _) (qA (qAg _) (qA (qx _) (qA (qy _) (qA (qz _) (qA (q7 _) ?_))))))))))))))))
   have z1:(qq l f (kid (ndi l i) 0) (lvl (ndi l i).2.1)).size+(qAM (ndi l i).2.1).size≤9223372036854775807:=by omega
   have z2:(qq l f (kid (ndi l i) 0) (lvl (ndi l i).2.1)++qAM (ndi l i).2.1).size+(qq l f (kid (ndi l i) 1) (lvl (ndi l i).2.1+1)).size≤9223372036854775807:=by rw [ByteArray.size_append];omega
   have z3:(⟨#[40]⟩:ByteArray).size+((qq l f (kid (ndi l i) 0) (lvl (ndi l i).2.1)++qAM (ndi l i).2.1)++qq l f (kid (ndi l i) 1) (lvl (ndi l i).2.1+1)).size≤9223372036854775807:=by rw [ByteArray.size_append,ByteArray.size_append];omega
   have z4:((⟨#[40]⟩:ByteArray)++((qq l f (kid (ndi l i) 0) (lvl (ndi l i).2.1)++qAM (ndi l i).2.1)++qq l f (kid (ndi l i) 1) (lvl (ndi l i).2.1+1))).size+(⟨#[41]⟩:ByteArray).size≤9223372036854775807:=by rw [ByteArray.size_append,ByteArray.size_append,ByteArray.size_append];omega
   have g2:qW m (l.map qV) (kid (ndi l i) 1) (IntKind.i64.wrap (lvl (ndi l i).2.1+1))=some (qq l f (kid (ndi l i) 1) (lvl (ndi l i).2.1+1)):=by rw [hw];exact g2
   refine qM (by rw [k];rfl) (qM (by rw [k];rfl) (qM (by rw [k];rfl) (qM (by rw [k];rfl) (qD (by rw [k];rfl) (qA g3 (qD (decide_eq_true y1) (qA c0 (qD rfl (qA (qAr _) (qD (decide_eq_true y2) (qA c1 (qD rfl (qA (qAr _) (qA g1 (qA g4 (qD (decide_eq_true z1) (qA g2 (qD (decide_eq_true z2) ?_))))))))))))))))))
   rw [qq,if_neg (by omega),if_neg (by omega),if_neg (by omega),if_neg (by omega),if_pos k]
   unfold par
   by_cases ht:lvl (ndi l i).2.1<t
   ·refine qD (decide_eq_true ht) (qD (decide_eq_true z3) (qD (decide_eq_true z4) ?_))
    rw [qB,if_pos (decide_eq_true ht)]
   ·refine qM (decide_eq_false ht) ?_
    rw [qB,if_neg (by simpa using ht)]
  ·obtain ⟨n0,g0⟩:=qDn (F:=fun k n=>qW n (l.map qV) k 0) (f:=fun k=>qq l f k 1) (qR l i) (fun k hk=>by
    have:=ih k hk 0
    rw [qgC] at this
    exact this)
   obtain ⟨n1,g1⟩:=qaE (ndi l i).2.1 ho
   have h1:=qdl ho
   refine ⟨n0+n1+20,fun n hn=>?_⟩
   obtain ⟨m,rfl,hm⟩:=up1 hn
   have g0:=g0 m (by omega)
   have g1:=g1 m (by omega)
   have hj:=qea l f m ((ndi l i).1,(ndi l i).2.1,(ndi l i).2.2.1,(ndi l i).2.2.2.1,(ndi l i).2.2.2.2.1,(ndi l i).2.2.2.2.2.1,(ndi l i).2.2.2.2.2.2.1,(ndi l i).2.2.2.2.2.2.2.1,(ndi l i).2.2.2.2.2.2.2.2.1,(ndi l i).2.2.2.2.2.2.2.2.2.1,(ndi l i).2.2.2.2.2.2.2.2.2.2.1,(ndi l i).2.2.2.2.2.2.2.2.2.2.2.1,(ndi l i).2.2.2.2.2.2.2.2.2.2.2.2.1,(kd (ndi l i)).map qBI) (szB f) hs (kd (ndi l i)) rfl hk.2 (fun k hk=>⟨g0 k hk,isz k hk 1⟩) (kd (ndi l i)) [] (fnS (ndi l i).2.1++(⟨#[40]⟩:ByteArray)) m rfl (by omega) (by rw [ByteArray.size_append];omega)
   simp only [List.length_nil,Int.natCast_zero,if_true] at hj
   have hjs:=qYw (xs:=(qR l i).map fun k=>qq l f k 1) (b:=szB f) (fun x hx=>by
    obtain ⟨k,hk,rfl⟩:=List.mem_map.1 hx
    exact isz k hk 1)
   have h3:(qR l i).length≤10:=hk.2
   have h4:(qR l i).length*(szB f+1)≤10*(szB f+1):=Nat.mul_le_mul_right _ h3
   rw [List.length_map] at hjs
   have ej:(⟨((fnS (ndi l i).2.1++(⟨#[40]⟩:ByteArray)).data.toList++Lib.join ((kd (ndi l i)).map fun k=>(qq l f k 1).data.toList) [44]).toArray⟩:ByteArray)=(fnS (ndi l i).2.1++(⟨#[40]⟩:ByteArray))++qdm ((qR l i).map fun k=>qq l f k 1):=by
    apply qQz
    rw [qGN]
    simp [qdm,qR,Function.comp_def]
   rw [ej] at hj
   obtain ⟨J,hJ⟩:∃J,qdm ((qR l i).map fun k=>qq l f k 1)=J:=⟨_,rfl⟩
   rw [hJ] at hj hjs
   have z1:(fnS (ndi l i).2.1).size+(⟨#[40]⟩:ByteArray).size≤9223372036854775807:=by omega
   have z2:((fnS (ndi l i).2.1++(⟨#[40]⟩:ByteArray))++J).size+(⟨#[41]⟩:ByteArray).size≤9223372036854775807:=by rw [ByteArray.size_append,ByteArray.size_append];omega
   unfold kd at hj
   dsimp only at g1⊢
   show (qCA (qW m) m (l.map qV) i t).run=_
   refine qD (decide_eq_true hxb) (qA hcr (qD rfl (qA (qAX _) (qA (qAY _) (qA (qAZ _) (qA (qAa _) (qA (qAb _) (qA (qAc _) (qA (qAd _) (qA (qAe _) (qA (qAf _) (qA (qAg _) (qA (qx _) (qA (qy _) (qA (qz _) (qA (q7 _) ?_))))))))))))))))
   refine qM (by rw [k];rfl) (qM (by rw [k];rfl) (qM (by rw [k];rfl) (qM (by rw [k];rfl) (qM (by rw [k];rfl) (qA g1 (qD (decide_eq_true z1) (qA hj (qD (decide_eq_true z2) ?_))))))))
   rw [qB,qq,if_neg (by omega),if_neg (by omega),if_neg (by omega),if_neg (by omega),if_neg (by omega),hJ]
theorem qWX {l:List Nd} (h:Fine l):∀(f:Nat) (i t:Int),f≤12→(0≤i∧i<l.length)→qBA (qR l) (i.toNat+1) i≤f→Ev (qW · (l.map qV) i t) (qq l f i t)
 |0,i,t,hf,hx,hd=>by
  have:=qa5 (qR l) (i.toNat+1) i hx.1 (by omega)
  omega
 |f+1,i,t,hf,hx,hd=>qXi h f i t hf hx hd fun k hk t'=>qWX h f k t' (by omega) (h.kid hx hd hk).1 (h.kid hx hd hk).2
theorem qgS:∀f:Fin 12,szB f.val≤12000000000000:=by decide
theorem qgq {f:Nat} (h:f≤11):szB f≤12000000000000:=qgS ⟨f,by omega⟩
theorem qfT:∀xs:List ByteArray,zBl (xs.map fun x=> [PV.s x])=some xs
 | []=>rfl
 |x::r=>by simp only [List.map_cons,zBl,qfT r,Option.map_some]
theorem qeb (rec:List (List PV)→Int→Int→Option ByteArray) (n:Nat) (rows:List (List PV)) (T:Int→ByteArray) (a0 a1 a2 a3:Int) (a4:ByteArray) (a5 a6:Int) (a7 a8:Bool) (a9 a10:Int) (a11 a12:Bool) (a13:List (List PV)) (ks:List Int) (hk10:ks.length≤10)
  (hr:∀k∈ks,rec rows k 1=some (T k)):
  ∀(r pre:List Int) (M:Nat),ks=pre++r→r.length+1≤M→
   zL (qBG rec n) M (rows,pre.length,ks.map qBI,((ks.map qBI).length:Int),(pre.length:Int),a0,a1,a2,a3,a4,a5,a6,a7,a8,a9,a10,a11,a12,a13,pre.map fun k=> [PV.s (T k)])=some (ks.length,a0,a1,a2,a3,a4,a5,a6,a7,a8,a9,a10,a11,a12,a13,ks.map fun k=> [PV.s (T k)])
 |r,pre,0,h1,h2=>by omega
 | [],pre,M+1,h1,h2=>by
  have hi:¬(pre.length:Int)<((ks.map qBI).length:Int):=by rw [List.length_map,h1];simp
  have e:pre=ks:=by rw [h1];simp
  rw [qN (r:=(pre.length,a0,a1,a2,a3,a4,a5,a6,a7,a8,a9,a10,a11,a12,a13,pre.map fun k=> [PV.s (T k)])) (by simp only [qBG,qB,qC,qF,qG,qH,qI,Option.bind_some,qE,qJ,qK,decide_eq_false hi,Bool.false_eq_true,if_false])]
  rw [e]
 |k::r,pre,M+1,h1,h2=>by
  have hm:k∈ks:=by rw [h1];simp
  have g1:=hr k hm
  have hpl:pre.length+(r.length+1)=ks.length:=by rw [h1];simp
  have hg:(ks.map qBI)[pre.length]?=some (qBI k):=by rw [h1,List.getElem?_map];simp
  have hi:(pre.length:Int)<((ks.map qBI).length:Int):=by rw [List.length_map];omega
  have h3:0≤(pre.length:Int)∧(pre.length:Int)<((ks.map qBI).length:Int):=by omega
  have w1:IntKind.i64.wrap ((pre.length:Int)+1)=((pre.length+1:Nat):Int):=by rw [qa (by omega)];omega
  have hc:pre.length=(pre.map fun k=> [PV.s (T k)]).length∧0<1∧0<16∧(pre.length+([[PV.s (T k)]]:List (List PV)).length)*16≤140737488355328∧([[PV.s (T k)]]:List (List PV)).all (fun e=>e.length==1)=true:=by
   refine ⟨by simp,by decide,by decide,?_,rfl⟩
   rw [List.length_singleton]
   omega
  have h1l:decide (1=([[PV.s (T k)]]:List (List PV)).length)=true:=rfl
  rw [qX (v':=(rows,pre.length+1,ks.map qBI,((ks.map qBI).length:Int),((pre.length+1:Nat):Int),a0,a1,a2,a3,a4,a5,a6,a7,a8,a9,a10,a11,a12,a13,(pre.map fun k=> [PV.s (T k)])++ [[PV.s (T k)]])) (by
   simp only [qBG,qB,qC,qF,qG,qH,qI,Option.bind_some,qE,qJ,qK,decide_eq_true hi,if_true,decide_eq_true h3,Int.toNat_natCast,hg,qBQ,qAr,decide_true,g1,h1l,decide_eq_true hc,w1])]
  have h:=qeb rec n rows T a0 a1 a2 a3 a4 a5 a6 a7 a8 a9 a10 a11 a12 a13 ks hk10 hr r (pre++ [k]) M (by rw [h1];simp) (by simp at h2;omega)
  simp only [List.map_append,List.map_cons,List.map_nil,List.length_append,List.length_singleton] at h⊢
  exact h
set_option maxHeartbeats 4000000 in
theorem qRn {l:List Nd} (h:Fine l) (f:Nat) (i t:Int) (hf:f+1≤12) (hx:0≤i∧i<l.length) (hd:qBA (qR l) (i.toNat+1) i≤(f+1:Nat)) (ih:∀k∈qR l i,∀t',Ev (qQ · (l.map qV) k t') (qq l f k t')):Ev (qQ · (l.map qV) i t) (qq l (f+1) i t):=by
  have ih:=fun k hk t'=>ih k hk t'
  have isz:=fun k hk t'=>qa9 h f k t' (by omega) (h.kid hx hd hk).1 (h.kid hx hd hk).2
  have hs:=qgo (f:=f) (by omega)
  have hcr:(l.map qV)[i.toNat]?=some (qV (ndi l i)):=by rw [List.getElem?_map,qED hx];rfl
  have hxb:0≤i∧i<((l.map qV).length:Int):=by rw [List.length_map];exact hx
  have hz:=(h.sz _ (qTN hx)).2
  have hp:∀a b c d,(qCn a b c d).size≤30:=qWQ
  have d1:(⟨#[58]⟩:ByteArray).size=1:=rfl
  have d2:(⟨#[45]⟩:ByteArray).size=1:=rfl
  have d3:(⟨#[40]⟩:ByteArray).size=1:=rfl
  have d4:(⟨#[41]⟩:ByteArray).size=1:=rfl
  have hk0:∀j,j<(kd (ndi l i)).length→kid (ndi l i) j∈qR l i∧(List.map qBI (ndi l i).2.2.2.2.2.2.2.2.2.2.2.2.2)[j]?=some (qBI (kid (ndi l i) j)):=fun j hj=>by
   unfold kid
   rw [List.getD_eq_getElem?_getD,List.getElem?_eq_getElem hj]
   refine ⟨List.getElem_mem hj,?_⟩
   rw [List.getElem?_map]
   show ((kd (ndi l i))[j]?).map qBI=_
   rw [List.getElem?_eq_getElem hj]
   rfl
  have hkl:(List.map qBI (ndi l i).2.2.2.2.2.2.2.2.2.2.2.2.2).length=(kd (ndi l i)).length:=by rw [List.length_map];rfl
  rcases qWW (h.own i hx.1 hx.2).1 with ⟨k,hv⟩|k|k|⟨k,hk⟩|⟨k,ho,hk⟩|⟨k,ho,hk⟩
  ·by_cases k2:(ndi l i).2.2.1=2
   ·have hv2:okV 2 (ndi l i).2.2.2.1 (ndi l i).2.2.2.2.1=true:=by rw [←k2];exact hv
    have hq:=(qeR hv2).2.1
    obtain ⟨n1,g1⟩:=qeN (ndi l i).2.2.2.2.1 (by omega)
    have h1:=qSk (ndi l i).2.2.2.2.1.toList
    rw [qAW] at h1
    have h2:(⟨(qBv (ndi l i).2.2.2.2.1.toList).toArray⟩:ByteArray).size=(qBv (ndi l i).2.2.2.2.1.toList).length:=by rw [qEC]
    have e:((⟨#[34]⟩:ByteArray)++⟨(qBv (ndi l i).2.2.2.2.1.toList).toArray⟩)++(⟨#[34]⟩:ByteArray)=qa7 (ndi l i).2.2.2.2.1:=by
     apply qQz
     rw [qGN,qGN]
     simp [qa7]
    have d5:(⟨#[34]⟩:ByteArray).size=1:=rfl
    refine ⟨n1+1,fun n hn=>?_⟩
    obtain ⟨m,rfl,hm⟩:=up1 hn
    have g1:=g1 m (by omega)
    dsimp only at g1⊢
    obtain ⟨q,hqe⟩:∃q,(⟨(qBv (ndi l i).2.2.2.2.1.toList).toArray⟩:ByteArray)=q:=⟨_,rfl⟩
    rw [hqe] at g1 h2 e
    have z1:(⟨#[34]⟩:ByteArray).size+q.size≤9223372036854775807:=by omega
    have z2:((⟨#[34]⟩:ByteArray)++q).size+(⟨#[34]⟩:ByteArray).size≤9223372036854775807:=by rw [ByteArray.size_append];omega
    show (qAo (qQ m) m (l.map qV) i t).run=_
    refine qD (decide_eq_true hxb) (qA hcr (qD rfl (qA (qAX _) (qA (qAY _) (qA (qAZ _) (qA (qAa _) (qA (qAb _) (qA (qAc _) (qA (qAd _) (qA (qAe _) (qA (qAf _) (qA (qAg _) (qA (qx _) (qA (qy _) (qA (qz _) (qA (q7 _) ?_))))))))))))))))
    refine qD (by rw [k];rfl) (qD (by rw [k2];rfl) (qA g1 (qD (decide_eq_true z1) (qD (decide_eq_true z2) ?_))))
    rw [qB,qq,if_pos k,if_pos k2,e]
   ·obtain ⟨n1,g1⟩:=qQ0 (ndi l i).2.2.1 (ndi l i).2.2.2.1 (ndi l i).2.2.2.2.1 hv
    have kb:((ndi l i).2.2.1==(2:Int))=false:=by simpa using k2
    refine ⟨n1+1,fun n hn=>?_⟩
    obtain ⟨m,rfl,hm⟩:=up1 hn
    have g1:=g1 m (by omega)
    dsimp only at g1⊢
    show (qAo (qQ m) m (l.map qV) i t).run=_
    refine qD (decide_eq_true hxb) (qA hcr (qD rfl (qA (qAX _) (qA (qAY _) (qA (qAZ _) (qA (qAa _) (qA (qAb _) (qA (qAc _) (qA (qAd _) (qA (qAe _) (qA (qAf _) (qA (qAg _) (qA (qx _) (qA (qy _) (qA (qz _) (qA (q7 _) ?_))))))))))))))))
    refine qD (by rw [k];rfl) (qM kb (qA g1 ?_))
    rw [qB,qq,if_pos k,if_neg k2]
  ·obtain ⟨n1,g1⟩:=qFt (ndi l i).2.2.2.2.2.1 (ndi l i).2.2.2.2.2.2.1 (ndi l i).2.2.2.2.2.2.2.1 (ndi l i).2.2.2.2.2.2.2.2.1
   refine ⟨n1+1,fun n hn=>?_⟩
   obtain ⟨m,rfl,hm⟩:=up1 hn
   have g1:=g1 m (by omega)
   dsimp only at g1⊢
   show (qAo (qQ m) m (l.map qV) i t).run=_
   refine qD (decide_eq_true hxb) (qA hcr (qD rfl (qA (qAX _) (qA (qAY _) (qA (qAZ _) (qA (qAa _) (qA (qAb _) (qA (qAc _) (qA (qAd _) (qA (qAe _) (qA (qAf _) (qA (qAg _) (qA (qx _) (qA (qy _) (qA (qz _) (qA (q7 _) ?_))))))))))))))))
   refine qM (by rw [k];rfl) (qD (by rw [k];rfl) (qA g1 ?_))
   rw [qB,qq,if_neg (by omega),if_pos k]
  ·obtain ⟨n1,g1⟩:=qFt (ndi l i).2.2.2.2.2.1 (ndi l i).2.2.2.2.2.2.1 (ndi l i).2.2.2.2.2.2.2.1 (ndi l i).2.2.2.2.2.2.2.2.1
   obtain ⟨n2,g2⟩:=qFt (ndi l i).2.2.2.2.2.2.2.2.2.1 (ndi l i).2.2.2.2.2.2.2.2.2.2.1 (ndi l i).2.2.2.2.2.2.2.2.2.2.2.1 (ndi l i).2.2.2.2.2.2.2.2.2.2.2.2.1
   have h1:=hp (ndi l i).2.2.2.2.2.1 (ndi l i).2.2.2.2.2.2.1 (ndi l i).2.2.2.2.2.2.2.1 (ndi l i).2.2.2.2.2.2.2.2.1
   have h2:=hp (ndi l i).2.2.2.2.2.2.2.2.2.1 (ndi l i).2.2.2.2.2.2.2.2.2.2.1 (ndi l i).2.2.2.2.2.2.2.2.2.2.2.1 (ndi l i).2.2.2.2.2.2.2.2.2.2.2.2.1
   have z1:(qCn (ndi l i).2.2.2.2.2.1 (ndi l i).2.2.2.2.2.2.1 (ndi l i).2.2.2.2.2.2.2.1 (ndi l i).2.2.2.2.2.2.2.2.1).size+(⟨#[58]⟩:ByteArray).size≤9223372036854775807:=by omega
   have z2:(qCn (ndi l i).2.2.2.2.2.1 (ndi l i).2.2.2.2.2.2.1 (ndi l i).2.2.2.2.2.2.2.1 (ndi l i).2.2.2.2.2.2.2.2.1++(⟨#[58]⟩:ByteArray)).size+(qCn (ndi l i).2.2.2.2.2.2.2.2.2.1 (ndi l i).2.2.2.2.2.2.2.2.2.2.1 (ndi l i).2.2.2.2.2.2.2.2.2.2.2.1 (ndi l i).2.2.2.2.2.2.2.2.2.2.2.2.1).size≤9223372036854775807:=by rw [ByteArray.size_append];omega
   refine ⟨n1+n2+1,fun n hn=>?_⟩
   obtain ⟨m,rfl,hm⟩:=up1 hn
   have g1:=g1 m (by omega)
   have g2:=g2 m (by omega)
   dsimp only at g1 g2⊢
   show (qAo (qQ m) m (l.map qV) i t).run=_
   refine qD (decide_eq_true hxb) (qA hcr (qD rfl (qA (qAX _) (qA (qAY _) (qA (qAZ _) (qA (qAa _) (qA (qAb _) (qA (qAc _) (qA (qAd _) (qA (qAe _) (qA (qAf _) (qA (qAg _) (qA (qx _) (qA (qy _) (qA (qz _) (qA (q7 _) ?_))))))))))))))))
   refine qM (by rw [k];rfl) (qM (by rw [k];rfl) (qD (by rw [k];rfl) (qA g1 (qD (decide_eq_true z1) (qA g2 (qD (decide_eq_true z2) ?_))))))
   rw [qB,qq,if_neg (by omega),if_neg (by omega),if_pos k]
  ·obtain ⟨m0,c0⟩:=hk0 0 (by omega)
   obtain ⟨n1,g1⟩:=ih _ m0 5
   have h1:=isz _ m0 5
   have z1:(⟨#[45]⟩:ByteArray).size+(qq l f (kid (ndi l i) 0) 5).size≤9223372036854775807:=by omega
   have y1:(0:Int)≤(0:Int)∧(0:Int)<((List.map qBI (ndi l i).2.2.2.2.2.2.2.2.2.2.2.2.2).length:Int):=by rw [hkl];omega
   refine ⟨n1+1,fun n hn=>?_⟩
   obtain ⟨m,rfl,hm⟩:=up1 hn
   have g1:=g1 m (by omega)
   dsimp only at g1⊢
   have e0:((0:Int)).toNat=0:=rfl
   show (qAo (qQ m) m (l.map qV) i t).run=_
   refine qD (decide_eq_true hxb) (qA hcr (qD rfl (qA (qAX _) (qA (qAY _) (qA (qAZ _) (qA (qAa _) (qA (qAb _) (qA (qAc _) (qA (qAd _) (qA (qAe _) (qA (qAf _) (qA (qAg _) (qA (qx _) (qA (qy _) (qA (qz _) (qA (q7 _) ?_))))))))))))))))
   refine qM (by rw [k];rfl) (qM (by rw [k];rfl) (qM (by rw [k];rfl) (qD (by rw [k];rfl) (qD (decide_eq_true y1) (qA c0 (qD rfl (qA (qAr _) (qA g1 (qD (decide_eq_true z1) ?_)))))))))
   rw [qB,qq,if_neg (by omega),if_neg (by omega),if_neg (by omega),if_pos k]
  ·obtain ⟨m0,c0⟩:=hk0 0 (by omega)
   obtain ⟨m1,c1⟩:=hk0 1 (by omega)
   have hlv:=qfs (ndi l i).2.1
   obtain ⟨n1,g1⟩:=ih _ m0 (lvl (ndi l i).2.1)
   obtain ⟨n2,g2⟩:=ih _ m1 (lvl (ndi l i).2.1+1)
   obtain ⟨n3,g3⟩:=qYK (ndi l i).2.1 ho
   obtain ⟨n4,g4⟩:=qPn (ndi l i).2.1 ho
   have h1:=isz _ m0 (lvl (ndi l i).2.1)
   have h2:=isz _ m1 (lvl (ndi l i).2.1+1)
   have h3:=qYv ho
   have hw:IntKind.i64.wrap (lvl (ndi l i).2.1+1)=lvl (ndi l i).2.1+1:=qa (by omega)
   have y1:(0:Int)≤(0:Int)∧(0:Int)<((List.map qBI (ndi l i).2.2.2.2.2.2.2.2.2.2.2.2.2).length:Int):=by rw [hkl];omega
   have y2:(0:Int)≤(1:Int)∧(1:Int)<((List.map qBI (ndi l i).2.2.2.2.2.2.2.2.2.2.2.2.2).length:Int):=by rw [hkl];omega
   refine ⟨n1+n2+n3+n4+1,fun n hn=>?_⟩
   obtain ⟨m,rfl,hm⟩:=up1 hn
   have g1:=g1 m (by omega)
   have g2:=g2 m (by omega)
   have g3:=g3 m (by omega)
   have g4:=g4 m (by omega)
   dsimp only at g1 g2 g3 g4⊢
   have e0:((0:Int)).toNat=0:=rfl
   have e1:((1:Int)).toNat=1:=rfl
   show (qAo (qQ m) m (l.map qV) i t).run=_
   refine qD (decide_eq_true hxb) (qA hcr (qD rfl (qA (qAX _) (qA (qAY _) (qA (qAZ _) (qA (qAa _) (qA (qAb _) (qA (qAc _) (qA (qAd _) (qA (qAe _) (qA (qAf _) (qA (qAg _) (qA (qx _) (qA (qy _) (qA (qz _) (qA (q7 _) ?_))))))))))))))))
   have z1:(qq l f (kid (ndi l i) 0) (lvl (ndi l i).2.1)).size+(qAM (ndi l i).2.1).size≤9223372036854775807:=by omega
   have z2:(qq l f (kid (ndi l i) 0) (lvl (ndi l i).2.1)++qAM (ndi l i).2.1).size+(qq l f (kid (ndi l i) 1) (lvl (ndi l i).2.1+1)).size≤9223372036854775807:=by rw [ByteArray.size_append];omega
   have z3:(⟨#[40]⟩:ByteArray).size+((qq l f (kid (ndi l i) 0) (lvl (ndi l i).2.1)++qAM (ndi l i).2.1)++qq l f (kid (ndi l i) 1) (lvl (ndi l i).2.1+1)).size≤9223372036854775807:=by rw [ByteArray.size_append,ByteArray.size_append];omega
   have z4:((⟨#[40]⟩:ByteArray)++((qq l f (kid (ndi l i) 0) (lvl (ndi l i).2.1)++qAM (ndi l i).2.1)++qq l f (kid (ndi l i) 1) (lvl (ndi l i).2.1+1))).size+(⟨#[41]⟩:ByteArray).size≤9223372036854775807:=by rw [ByteArray.size_append,ByteArray.size_append,ByteArray.size_append];omega
   have g2:qQ m (l.map qV) (kid (ndi l i) 1) (IntKind.i64.wrap (lvl (ndi l i).2.1+1))=some (qq l f (kid (ndi l i) 1) (lvl (ndi l i).2.1+1)):=by rw [hw];exact g2
   refine qM (by rw [k];rfl) (qM (by rw [k];rfl) (qM (by rw [k];rfl) (qM (by rw [k];rfl) (qD (by rw [k];rfl) (qA g3 (qD (decide_eq_true y1) (qA c0 (qD rfl (qA (qAr _) (qD (decide_eq_true y2) (qA c1 (qD rfl (qA (qAr _) (qA g1 (qA g4 (qD (decide_eq_true z1) (qA g2 (qD (decide_eq_true z2) ?_))))))))))))))))))
   rw [qq,if_neg (by omega),if_neg (by omega),if_neg (by omega),if_neg (by omega),if_pos k]
   unfold par
   by_cases ht:lvl (ndi l i).2.1<t
   ·refine qD (decide_eq_true ht) (qD (decide_eq_true z3) (qD (decide_eq_true z4) ?_))
    rw [qB,if_pos (decide_eq_true ht)]
   ·refine qM (decide_eq_false ht) ?_
    rw [qB,if_neg (by simpa using ht)]
  ·obtain ⟨n0,g0⟩:=qDn (F:=fun k n=>qQ n (l.map qV) k 1) (f:=fun k=>qq l f k 1) (qR l i) (fun k hk=>ih k hk 1)
   obtain ⟨n1,g1⟩:=qWV (ndi l i).2.1 ho
   have h1:=qdl ho
   have hs11:=qgq (f:=f) (by omega)
   have h3:(qR l i).length≤10:=hk.2
   have hjs:=qYw (xs:=(qR l i).map fun k=>qq l f k 1) (b:=szB f) (fun x hx=>by
    obtain ⟨k,hk,rfl⟩:=List.mem_map.1 hx
    exact isz k hk 1)
   have h4:(qR l i).length*(szB f+1)≤10*(szB f+1):=Nat.mul_le_mul_right _ h3
   rw [List.length_map] at hjs
   have gj:∀n,1≤n→qKT n (((qR l i).map fun k=>qq l f k 1).map fun x=> [PV.s x]) ⟨#[44]⟩=some (qdm ((qR l i).map fun k=>qq l f k 1)):=fun n hn=>by
    obtain ⟨m,rfl,_⟩:=up1 (n0:=0) hn
    show zAg _ _=_
    unfold zAg
    rw [qfT,Option.bind_some,if_pos]
    ·rfl
    ·rw [qEC] at hjs
     refine ⟨by rw [List.length_map];omega,?_⟩
     have:(Lib.join (((qR l i).map fun k=>qq l f k 1).map (·.data.toList)) [44]).length≤(qR l i).length*(szB f+1):=hjs
     show (Lib.join (((qR l i).map fun k=>qq l f k 1).map (·.data.toList)) [44]).length≤_
     omega
   refine ⟨n0+n1+20,fun n hn=>?_⟩
   obtain ⟨m,rfl,hm⟩:=up1 hn
   have g0:=g0 m (by omega)
   have g1:=g1 m (by omega)
   have gj:=gj m (by omega)
   have hj:=qeb (qQ m) m (l.map qV) (fun k=>qq l f k 1) (ndi l i).1 (ndi l i).2.1 (ndi l i).2.2.1 (ndi l i).2.2.2.1 (ndi l i).2.2.2.2.1 (ndi l i).2.2.2.2.2.1 (ndi l i).2.2.2.2.2.2.1 (ndi l i).2.2.2.2.2.2.2.1 (ndi l i).2.2.2.2.2.2.2.2.1 (ndi l i).2.2.2.2.2.2.2.2.2.1 (ndi l i).2.2.2.2.2.2.2.2.2.2.1 (ndi l i).2.2.2.2.2.2.2.2.2.2.2.1 (ndi l i).2.2.2.2.2.2.2.2.2.2.2.2.1 ((kd (ndi l i)).map qBI) (kd (ndi l i)) hk.2 g0 (kd (ndi l i)) [] m rfl (by omega)
   simp only [List.length_nil,Int.natCast_zero,List.map_nil,List.length_map] at hj
   obtain ⟨J,hJ⟩:∃J,qdm ((qR l i).map fun k=>qq l f k 1)=J:=⟨_,rfl⟩
   rw [hJ] at gj hjs
   have z1:(fnS (ndi l i).2.1).size+(⟨#[40]⟩:ByteArray).size≤9223372036854775807:=by omega
   have z2:(fnS (ndi l i).2.1++(⟨#[40]⟩:ByteArray)).size+J.size≤9223372036854775807:=by rw [ByteArray.size_append];omega
   have z3:((fnS (ndi l i).2.1++(⟨#[40]⟩:ByteArray))++J).size+(⟨#[41]⟩:ByteArray).size≤9223372036854775807:=by rw [ByteArray.size_append,ByteArray.size_append];omega
   unfold qR at gj
   unfold kd at hj gj
   dsimp only at g1⊢
   rw [List.map_map] at gj
   have hkl':(((ndi l i).2.2.2.2.2.2.2.2.2.2.2.2.2.map qBI).length:Int)=((ndi l i).2.2.2.2.2.2.2.2.2.2.2.2.2.length:Int):=by rw [List.length_map]
   have hll:decide ((ndi l i).2.2.2.2.2.2.2.2.2.2.2.2.2.length=(List.map ((fun x=> [PV.s x])∘fun k=>qq l f k 1) (ndi l i).2.2.2.2.2.2.2.2.2.2.2.2.2).length)=true:=by simp
   have hmm:(List.map (fun k=> [PV.s (qq l f k 1)]) (ndi l i).2.2.2.2.2.2.2.2.2.2.2.2.2)=List.map ((fun x=> [PV.s x])∘fun k=>qq l f k 1) (ndi l i).2.2.2.2.2.2.2.2.2.2.2.2.2:=rfl
   rw [hmm] at hj
   rw [←hkl'] at hj
   show (qAo (qQ m) m (l.map qV) i t).run=_
   refine qD (decide_eq_true hxb) (qA hcr (qD rfl (qA (qAX _) (qA (qAY _) (qA (qAZ _) (qA (qAa _) (qA (qAb _) (qA (qAc _) (qA (qAd _) (qA (qAe _) (qA (qAf _) (qA (qAg _) (qA (qx _) (qA (qy _) (qA (qz _) (qA (q7 _) ?_))))))))))))))))
   refine qM (by rw [k];rfl) (qM (by rw [k];rfl) (qM (by rw [k];rfl) (qM (by rw [k];rfl) (qM (by rw [k];rfl) (qA hj (qA g1 (qD (decide_eq_true z1) (qD hll (qA gj (qD rfl (qD (decide_eq_true z2) (qD (decide_eq_true z3) ?_))))))))))))
   rw [qB,qq,if_neg (by omega),if_neg (by omega),if_neg (by omega),if_neg (by omega),if_neg (by omega),hJ]
theorem qN0 {l:List Nd} (h:Fine l):∀(f:Nat) (i t:Int),f≤12→(0≤i∧i<l.length)→qBA (qR l) (i.toNat+1) i≤f→Ev (qQ · (l.map qV) i t) (qq l f i t)
 |0,i,t,hf,hx,hd=>by
  have:=qa5 (qR l) (i.toNat+1) i hx.1 (by omega)
  omega
 |f+1,i,t,hf,hx,hd=>qRn h f i t hf hx hd fun k hk t'=>qN0 h f k t' (by omega) (h.kid hx hd hk).1 (h.kid hx hd hk).2
def qEX (l:List Nd):ByteArray:=if qMo l=true then (if ((qq l 12 ((l.length:Int)-1) 1).size:Int)>200 then ⟨#[]⟩ else qq l 12 ((l.length:Int)-1) 1) else ⟨#[]⟩
theorem qgD {l:List Nd} (h:qMo l=true) (hk:∀c∈l,(kd c).length≤140737488351232∧c.2.2.2.2.1.size≤140737488351232):Fine l∧(0≤(l.length:Int)-1∧(l.length:Int)-1<l.length)∧qBA (qR l) (((l.length:Int)-1).toNat+1) ((l.length:Int)-1)≤(12:Nat):=by
 unfold qMo at h
 simp only [Bool.and_eq_true,decide_eq_true_eq] at h
 obtain ⟨h1,h2,h3,h4,h5⟩:=h
 have e:((l.length:Int)-1).toNat+1=l.length:=by omega
 rw [e]
 exact ⟨⟨h1.2,qMn.1 h2,hk⟩,by omega,h5⟩
theorem qXj (l:List Nd) (hl:l.length≤140737488351232) (hk:∀c∈l,(kd c).length≤140737488351232∧c.2.2.2.2.1.size≤140737488351232):Ev (qBV · (l.map qV)) (qEX l):=by
 obtain ⟨n1,g1⟩:=qQ3 l hk
 unfold qEX
 cases hf:qMo l with
 |false=>
  rw [hf] at g1
  refine ⟨n1+1,fun n hn=>?_⟩
  obtain ⟨m,rfl,hm⟩:=up1 hn
  have g1:=g1 m (by omega)
  dsimp only at g1⊢
  simp [qBV,qEu,qB,qC,qF,qG,qH,qI,Option.bind_some,qE,qJ,qK,g1]
 |true=>
  rw [hf] at g1
  obtain ⟨q1,q2,q3⟩:=qgD hf hk
  obtain ⟨n2,g2⟩:=qWX q1 12 ((l.length:Int)-1) 0 (by decide) q2 q3
  rw [qgC] at g2
  have hw:IntKind.i64.wrap ((l.length:Int)-1)=(l.length:Int)-1:=qa (by omega)
  refine ⟨n1+n2+1,fun n hn=>?_⟩
  obtain ⟨m,rfl,hm⟩:=up1 hn
  have g1:=g1 m (by omega)
  have g2:=g2 m (by omega)
  dsimp only at g1 g2⊢
  generalize qq l 12 ((l.length:Int)-1) 1=t at*
  simp only [qBV,qEu,qB,qC,qF,qG,qH,qI,Option.bind_some,qE,qJ,qK,g1,List.length_map,hw,g2]
  by_cases h2:(t.size:Int)>200<;>simp [h2]
theorem qXk (l:List Nd) (hl:l.length≤140737488351232) (hk:∀c∈l,(kd c).length≤140737488351232∧c.2.2.2.2.1.size≤140737488351232):Ev (qBZ · (l.map qV)) (qEX l):=by
 obtain ⟨n1,g1⟩:=qQ4 l hl hk
 unfold qEX
 cases hf:qMo l with
 |false=>
  rw [hf] at g1
  refine ⟨n1+1,fun n hn=>?_⟩
  obtain ⟨m,rfl,hm⟩:=up1 hn
  have g1:=g1 m (by omega)
  dsimp only at g1⊢
  simp [qBZ,qFN,qB,qC,qF,qG,qH,qI,Option.bind_some,qE,qJ,qK,g1]
 |true=>
  rw [hf] at g1
  obtain ⟨q1,q2,q3⟩:=qgD hf hk
  obtain ⟨n2,g2⟩:=qN0 q1 12 ((l.length:Int)-1) 1 (by decide) q2 q3
  have hw:IntKind.i64.wrap ((l.length:Int)-1)=(l.length:Int)-1:=qa (by omega)
  refine ⟨n1+n2+1,fun n hn=>?_⟩
  obtain ⟨m,rfl,hm⟩:=up1 hn
  have g1:=g1 m (by omega)
  have g2:=g2 m (by omega)
  dsimp only at g1 g2⊢
  generalize qq l 12 ((l.length:Int)-1) 1=t at*
  simp only [qBZ,qFN,qB,qC,qF,qG,qH,qI,Option.bind_some,qE,qJ,qK,g1,List.length_map,hw,g2]
  by_cases h2:(t.size:Int)>200<;>simp [h2]
abbrev PS:=List UInt8×Bool×List Nd
def tb (r:List UInt8):List UInt8:=r.dropWhile (· ==32)
def wch (c:UInt8):Bool:=(decide (65≤c.toNat)&&decide (c.toNat≤90))||((decide (48≤c.toNat)&&decide (c.toNat≤57))||c==36)
def wd (r:List UInt8):List UInt8:=r.takeWhile wch
def wr (r:List UInt8):List UInt8:=r.dropWhile wch
def BR (r:List UInt8):ByteArray:=⟨r.toArray⟩
def qIn:List (List UInt8):= [[60,62],[60,61],[62,61],[60],[62],[61],[38],[43],[45],[42],[47],[40],[41],[44],[58]]
def sgn (r:List UInt8):List UInt8:=match qIn.find? (fun w=>w.isPrefixOf r) with|some w=>w|none=> []
def nd1 (v:V3):Nd:=(1,0,v.1,v.2.1,v.2.2,0,0,false,false,0,0,false,false,[])
def ndK (k op:Int) (kids:List Int):Nd:=(k,op,0,0,em,0,0,false,false,0,0,false,false,kids)
def ndC (p:Int×Int×Bool×Bool×Bool):Nd:=(2,0,0,0,em,p.1,p.2.1,p.2.2.1,p.2.2.2.1,0,0,false,false,[])
def ndA (p q:Int×Int×Bool×Bool×Bool):Nd:=(3,0,0,0,em,p.1,p.2.1,p.2.2.1,p.2.2.2.1,q.1,q.2.1,q.2.2.1,q.2.2.2.1,[])
def qCc:List UInt8→List UInt8→Option (List UInt8×List UInt8)
 |_,[]=>none
 |acc,c::t=>if c=34 then (match t with
   |d::t'=>if d=34 then qCc (acc++ [34]) t' else some (acc,t)
   | []=>some (acc,[])) else qCc (acc++ [c]) t
def qUT (r:List UInt8):Int→Nat→Option Int
 |_,0=>none
 |n,k+1=>if (qd n).toList.isPrefixOf r=true then some n else qUT r (n+1) k
def qOO (w:List UInt8):Int→Nat→Option Int
 |_,0=>none
 |n,k+1=>if (fnS n).toList=w then some n else qOO w (n+1) k
def qA5 (r:List UInt8):Int:=
 if sgn r= [43] then 1 else if sgn r= [45] then 2 else if sgn r= [42] then 3 else if sgn r= [47] then 4 else if sgn r= [38] then 5 else if sgn r= [61] then 6 else
 if sgn r= [60,62] then 7 else if sgn r= [60] then 8 else if sgn r= [60,61] then 9 else if sgn r= [62] then 10 else if sgn r= [62,61] then 11 else 0
def qU (w:List UInt8) (p:PS):Bool×PS:=if sgn (tb p.1)=w then (true,(tb p.1).drop w.length,p.2) else (false,tb p.1,p.2)
def qFW (x:Nd) (p:PS):Int×PS:=if p.2.1=true∨60≤p.2.2.length then ((p.2.2.length:Int)-1,p.1,true,p.2.2) else ((p.2.2.length:Int),p.1,false,p.2.2++ [x])
def qft (p:PS):PS:=(p.1,true,p.2.2)
def qDA (w:List UInt8) (p:PS):PS:=if p.2.1=true then p else if (qU w p).1=true then (qU w p).2 else qft (qU w p).2
def qBR (p:PS):Option Nd×PS:=
 let w:=wd (tb p.1)
 let p1:PS:=(wr (tb p.1),p.2)
 if (qBC (BR w)).2.2.2.2=true∧(qU [58] p1).1=true then
  let p2:=(qU [58] p1).2
  let w2:=wd (tb p2.1)
  (some (ndA (qBC (BR w)) (qBC (BR w2))),wr (tb p2.1),p2.2.1||!(qBC (BR w2)).2.2.2.2,p2.2.2)
 else (none,p)
def qI1 (o:Option Nd×PS) (g:PS→Int×PS):Int×PS:=match o.1 with
 |some x=>qFW x o.2
 |none=>g o.2
inductive PJ where
 |bin (least deep:Int)
 |loop (least deep a:Int)
 |un (deep:Int)
 |at (deep:Int)
 |call (op deep:Int)
 |args (op deep:Int) (kids:List Int)
def pP:Nat→PJ→PS→Int×PS
 |0,_,p=>(0,p)
 |f+1,.bin least deep,p=>pP f (.loop least deep (pP f (.un deep) p).1) (pP f (.un deep) p).2
 |f+1,.loop least deep a,p=>
  if p.2.1=true then (a,p) else
  if qA5 (tb p.1)=0∨lvl (qA5 (tb p.1))<least then (a,tb p.1,p.2) else
  let p1:PS:=((tb p.1).drop (sgn (tb p.1)).length,p.2)
  let q:=pP f (.bin (lvl (qA5 (tb p.1))+1) deep) p1
  let c:=qFW (ndK 5 (qA5 (tb p.1)) [a,q.1]) q.2
  pP f (.loop least deep c.1) c.2
 |f+1,.un deep,p=>
  if deep>400∨p.2.1=true then (-1,qft p) else
  if (qU [45] p).1=true then
   let q:=pP f (.un (deep+1)) (qU [45] p).2
   qFW (ndK 4 0 [q.1]) q.2
  else pP f (.at deep) (qU [45] p).2
 |f+1,.at deep,p=>
  let r:=tb p.1
  if r.head?=some 34 then (match qCc [] r.tail with
   |none=>(-1,r,true,p.2.2)
   |some (s,t)=>qFW (nd1 (2,0,BR s)) (t,p.2))
  else match (if r.head?=some 35 then qUT r 1 5 else none) with
  |some n=>qFW (nd1 (4,n,em)) (r.drop (qd n).size,p.2)
  |none=>
   if r.head?≠some 35∧(qU [40] p).1=true then
    let q:=pP f (.bin 1 (deep+1)) (qU [40] p).2
    (q.1,qDA [41] q.2)
   else
    let w:=wd r
    let p2:PS:=(wr r,p.2)
    if (qh (BR w)).2.2.2=true∧((qh (BR w)).1=1∨(qh (BR w)).1=3) then qFW (nd1 ((qh (BR w)).1,(qh (BR w)).2.1,(qh (BR w)).2.2.1)) p2
    else if (qBC (BR w)).2.2.2.2=true then qFW (ndC (qBC (BR w))) p2
    else match qOO w 1 10 with
    |some op=>pP f (.call op deep) p2
    |none=>(-1,qft p2)
 |f+1,.call op deep,p=>pP f (.args op deep []) (qDA [40] p)
 |f+1,.args op deep kids,p=>
  if p.2.1=true then qFW (ndK 6 op kids) p else
  let q:=qI1 (qBR p) (fun p=>pP f (.bin 1 (deep+1)) p)
  if (qU [44] q.2).1=true then pP f (.args op deep (kids++ [q.1])) (qU [44] q.2).2
  else qFW (ndK 6 op (kids++ [q.1])) (qDA [41] (qU [44] q.2).2)
def sIs (w:List UInt8) (q:PS):Bool×PS:=if q.2.1=true then (false,tb q.1,q.2) else if w.isPrefixOf (tb q.1)=true then (true,(tb q.1).drop w.length,q.2) else (false,tb q.1,q.2)
def qHo (x:Nd) (q:PS):Int×PS:=((q.2.2.length:Int),q.1,(if 60<q.2.2.length+1∨qNz x=false then true else q.2.1),q.2.2++ [x])
def qYx (q:PS):PS:=(q.1,true,q.2.2)
def qCo:List Int:= [7,9,11,6,8,10,1,2,3,4,5]
end Go.Proofs.YthhngmnbcmkhpaaGreatDoor.KFnExactInputOf

