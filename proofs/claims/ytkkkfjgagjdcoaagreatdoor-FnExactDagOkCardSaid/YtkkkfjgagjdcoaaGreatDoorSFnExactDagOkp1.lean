import Derived.Test.YtkkkfjgagjdcoaaGreatDoorTFnExactDagOk
import Derived.Test.YtkkkfjgagjdcoaaGreatDoorE32
import Derived.Lib.Strings
namespace Go.Proofs.YtkkkfjgagjdcoaaGreatDoor.KFnExactDagOk
open Go.Eng
set_option linter.unusedVariables false
set_option linter.unusedSimpArgs false
def Ev {R:Type} (F:Nat→Option R) (r:R):Prop:=∃n0,∀n,n0≤n→F n=some r
theorem qAT (s:ByteArray):s.toList.length=s.size:=by rw [Go.Lib.toList_data];rfl
theorem qAE:(ByteArray.mk #[]).toList= []:=by decide+kernel
theorem qT {x:Int} (h: -9223372036854775808≤x∧x≤9223372036854775807):IntKind.i64.wrap x=x:=by
 unfold IntKind.wrap
 have e1:(2:Int)^(64-1)=9223372036854775808:=by decide
 have e2:(2:Int)^64=18446744073709551616:=by decide
 simp only [IntKind.signed,IntKind.bits,Bool.true_and,decide_eq_true_eq,e1,e2]
 split<;>omega
theorem qRK {s:ByteArray} {i:Nat} (h:i<s.size):∃c,s.toList[i]?=some c:=⟨_,List.getElem?_eq_getElem (by rw [qAT];exact h)⟩
theorem qDN {α:Type} {s:List α} {i:Nat} {c:α} (h:s[i]?=some c):s.drop i=c::s.drop (i+1):=by
 obtain ⟨h1,rfl⟩:=List.getElem?_eq_some_iff.1 h
 exact List.drop_eq_getElem_cons h1
theorem qU {V R:Type} {B:V→Tr (V⊕R)} {m:Nat} {v v':V} (h:(B v).run=some (.inl v')):zD B (m+1) v=zD B m v':=by simp only [zD,h]
theorem qP {V R:Type} {B:V→Tr (V⊕R)} {m:Nat} {v:V} {r:R} (h:(B v).run=some (.inr r)):zD B (m+1) v=some r:=by simp only [zD,h]
theorem up1 {n n0:Nat} (h:n0+1≤n):∃m,n=m+1∧n0≤m:=⟨n-1,by omega,by omega⟩
theorem qC {α:Type} (x:α):(Tr.done x).run=some x:=rfl
theorem qE {α:Type}:(Tr.fail:Tr α).run=none:=rfl
theorem qG {α:Type} (b:Bool) (t f:Tr α):(Tr.ask b t f).run=if b=true then t.run else f.run:=by cases b<;>rfl
theorem qH {α β:Type} (o:Option β) (k:β→Tr α):(Tr.opt o k).run=o.bind fun x=>(k x).run:=by cases o<;>rfl
theorem qJ {α β γ:Type} (x:β) (k:β→Tr α) (l:γ→Tr α):(Tr.alt (.inl x) k l).run=(k x).run:=rfl
theorem qK {α β γ:Type} (x:γ) (k:β→Tr α) (l:γ→Tr α):(Tr.alt (.inr x) k l).run=(l x).run:=rfl
theorem qAl {α R:Type} {F:α→Nat→Option R} {f:α→R}:∀(l:List α),(∀c∈l,Ev (F c) (f c))→∃n0,∀n,n0≤n→∀c∈l,F c n=some (f c)
 | [],_=>⟨0,fun n _ c hc=>by cases hc⟩
 |a::l,h=>by
  obtain ⟨n1,h1⟩:=h a (List.mem_cons_self ..)
  obtain ⟨n2,h2⟩:=qAl l fun c hc=>h c (List.mem_cons_of_mem _ hc)
  exact ⟨n1+n2,fun n hn c hc=>by
   rcases List.mem_cons.1 hc with rfl|hc
   ·exact h1 n (by omega)
   ·exact h2 n (by omega) c hc⟩
theorem qRL {R:Type} {B:List (List PV)×Nat×Int×List (List PV)→Tr ((List (List PV)×Nat×Int×List (List PV))⊕R)} {rows:List (List PV)} {z:List PV} {r:List (List PV)→R}
  (hs:∀(i:Nat) (acc:List (List PV)) (e:List PV),rows[i]?=some e→acc.length=rows.length→acc[i]?=some z→(B (rows,rows.length,(i:Int),acc)).run=some (.inl (rows,rows.length,((i+1:Nat):Int),acc.set i e)))
  (he:∀acc:List (List PV),acc.length=rows.length→(B (rows,rows.length,(rows.length:Int),acc)).run=some (.inr (r acc))):
  ∀(m i M:Nat),rows.length=i+m→m+1≤M→zD B M (rows,rows.length,(i:Int),rows.take i++zAK z m)=some (r rows)
 |m,i,0,h1,h2=>by omega
 |0,i,M+1,h1,h2=>by
  have hi:i=rows.length:=by omega
  subst hi
  have e:rows.take rows.length++zAK z 0=rows:=by simp [zAK]
  rw [e,qP (he rows rfl)]
 |m+1,i,M+1,h1,h2=>by
  have hl:i<rows.length:=by omega
  have hg:=List.getElem?_eq_getElem hl
  have hlen:(rows.take i++zAK z (m+1)).length=rows.length:=by simp [zAK];omega
  have hz:(rows.take i++zAK z (m+1))[i]?=some z:=by
   rw [List.getElem?_append_right (by simp;omega)]
   simp [zAK,Nat.min_eq_left (Nat.le_of_lt hl)]
  rw [qU (hs i _ _ hg hlen hz)]
  have e:(rows.take i++zAK z (m+1)).set i rows[i]=rows.take (i+1)++zAK z m:=by
   have hx:zAK z (m+1)=z::zAK z m:=by simp [zAK,List.replicate_succ]
   rw [hx,List.set_append_right (h:=by simp;omega)]
   have:i-(rows.take i).length=0:=by simp;omega
   rw [this,List.set_cons_zero,show rows.take (i+1)=rows.take i++ [rows[i]] from by rw [List.take_add_one,hg];rfl,List.append_assoc]
   rfl
  rw [e]
  exact qRL hs he m (i+1) M (by omega) (by omega)
theorem qMs {R:Type} {B:List (List PV)×Nat×Int×List (List PV)→Tr ((List (List PV)×Nat×Int×List (List PV))⊕R)} {rows:List (List PV)} {z:List PV} {r:List (List PV)→R} {M:Nat}
  (hs:∀(i:Nat) (acc:List (List PV)) (e:List PV),rows[i]?=some e→acc.length=rows.length→acc[i]?=some z→(B (rows,rows.length,(i:Int),acc)).run=some (.inl (rows,rows.length,((i+1:Nat):Int),acc.set i e)))
  (he:∀acc:List (List PV),acc.length=rows.length→(B (rows,rows.length,(rows.length:Int),acc)).run=some (.inr (r acc))) (hM:rows.length+1≤M):
  zD B M (rows,rows.length,0,zAK z rows.length)=some (r rows):=by
 have:=qRL (B:=B) hs he rows.length 0 M (by omega) hM
 simpa using this
theorem qMt {R:Type} {B:List (List PV)×List (List PV)×Int→Tr ((List (List PV)×List (List PV)×Int)⊕R)} {rows:List (List PV)} {r:R}
  (hs:∀(i:Nat) (e:List PV),rows[i]?=some e→(B (rows,rows,(i:Int))).run=some (.inl (rows,rows,((i+1:Nat):Int)))) (he:(B (rows,rows,(rows.length:Int))).run=some (.inr r)):
  ∀(m i M:Nat),rows.length=i+m→m+1≤M→zD B M (rows,rows,(i:Int))=some r
 |m,i,0,h1,h2=>by omega
 |0,i,M+1,h1,h2=>by
  have hi:i=rows.length:=by omega
  subst hi
  rw [qP he]
 |m+1,i,M+1,h1,h2=>by
  have hg:=List.getElem?_eq_getElem (l:=rows) (i:=i) (by omega)
  rw [qU (hs i _ hg)]
  exact qMt hs he m (i+1) M (by omega) (by omega)
theorem qPT {R:Type} {B:List (List PV)×Int×Int→Tr ((List (List PV)×Int×Int)⊕R)} {rows:List (List PV)}
  (hs:∀(i:Nat) (e:List PV) (x:Int),rows[i]?=some e→(∃y,(B (rows,x,(i:Int))).run=some (.inl (rows,y,((i+1:Nat):Int))))∨∃r,(B (rows,x,(i:Int))).run=some (.inr r)) (he:∀x,∃r,(B (rows,x,(rows.length:Int))).run=some (.inr r)):
  ∀(m i M:Nat) (x:Int),rows.length=i+m→m+1≤M→∃r,zD B M (rows,x,(i:Int))=some r
 |m,i,0,x,h1,h2=>by omega
 |0,i,M+1,x,h1,h2=>by
  have hi:i=rows.length:=by omega
  subst hi
  obtain ⟨r,hr⟩:=he x
  exact ⟨r,qP hr⟩
 |m+1,i,M+1,x,h1,h2=>by
  have hg:=List.getElem?_eq_getElem (l:=rows) (i:=i) (by omega)
  rcases hs i _ x hg with ⟨y,hy⟩|⟨r,hr⟩
  ·rw [qU hy]
   exact qPT hs he m (i+1) M y (by omega) (by omega)
  ·exact ⟨r,qP hr⟩
theorem qKS {α:Type} {enc:α→List PV} {P:α→Prop} {sh:List Sh} (hd:∀e,okR sh e→∃a,e=enc a∧P a):∀{rows:List (List PV)},(∀e∈rows,okR sh e)→∃l:List α,rows=l.map enc∧∀a∈l,P a
 | [],_=>⟨[],rfl,fun a h=>by cases h⟩
 |e::rows,h=>by
  obtain ⟨a,rfl,ha⟩:=hd e (h e (List.mem_cons_self ..))
  obtain ⟨l,rfl,hl⟩:=qKS hd fun e he=>h e (List.mem_cons_of_mem _ he)
  exact ⟨a::l,rfl,fun b hb=>by
   rcases List.mem_cons.1 hb with rfl|hb
   ·exact ha
   ·exact hl b hb⟩
theorem qA {α β:Type} {o:Option β} {x:β} {k:β→Tr α} {y:Option α} (h:o=some x) (h2:(k x).run=y):(Tr.opt o k).run=y:=by rw [h];exact h2
theorem qD {α:Type} {b:Bool} {t f:Tr α} {y:Option α} (h:b=true) (h2:t.run=y):(Tr.ask b t f).run=y:=by rw [h];exact h2
theorem qO {α:Type} {b:Bool} {t f:Tr α} {y:Option α} (h:b=false) (h2:f.run=y):(Tr.ask b t f).run=y:=by rw [h];exact h2
theorem qF (b:Bool):zAv (⟨(.c (.p (.b b))),[],[]⟩:Res)=true:=rfl
theorem qM (x:Int):zAv (⟨(.c (.p (.i .i64 x))),[],[]⟩:Res)=true:=rfl
theorem qN (x:ByteArray):zAv (⟨(.c (.p (.s x))),[],[]⟩:Res)=true:=rfl
theorem qBw (x lo hi:Int):Ev (qAq · x lo hi) (decide (lo≤x∧x≤hi)):=by
 refine ⟨1,fun n hn=>?_⟩
 obtain ⟨m,rfl,hm⟩:=up1 hn
 simp only [qAq,qHJ,qC,qE,qG,qH,qJ,qK,Option.bind_some,qF,qM,qN]
 by_cases h:x≥lo<;>simp [h]
theorem qv (x lo hi:Int):Ev (qw · x lo hi) (decide (lo≤x∧x≤hi)):=by
 refine ⟨1,fun n hn=>?_⟩
 obtain ⟨m,rfl,hm⟩:=up1 hn
 simp only [qw,qHr,qC,qE,qG,qH,qJ,qK,Option.bind_some,qF,qM,qN]
 by_cases h:x≥lo<;>simp [h]
def okc (c:UInt8):Bool:=decide (32≤c.toNat∧c.toNat≤126)
def qCs (s:ByteArray) (most:Int):Bool:=s.toList.all okc&&decide ((s.size:Int)≤most)
def okV (k n:Int) (s:ByteArray):Bool:=
 if k=2 then decide (n=0)&&qCs s 200 else (s.toList== [])&&(if k=0 then decide (n=0) else if k=1 then decide (-1000000000000000≤n∧n≤1000000000000000) else if k=3 then decide (0≤n∧n≤1) else if k=4 then decide (1≤n∧n≤5) else false)
theorem qMu (n:Nat) (s:ByteArray) (hb:s.size≤140737488355328):∀(m i M:Nat),s.size=i+m→m+1≤M→
  zD (qBU n) M (s,(i:Int))=some (if (s.toList.drop i).all okc then .inr s else .inl false)
 |m,i,0,h1,h2=>by omega
 |0,i,M+1,h1,h2=>by
  rw [qP (r:= .inr s) (by simp [qBU,qC,qE,qG,qH,qJ,qK,Option.bind_some,qF,qM,qN,show ¬((i:Int)<s.size) by omega])]
  rw [List.drop_eq_nil_of_le (by rw [qAT];omega)]
  rfl
 |m+1,i,M+1,h1,h2=>by
  obtain ⟨c,hc⟩:=qRK (s:=s) (i:=i) (by omega)
  have hi:(i:Int)<s.size:=by omega
  rw [qDN hc]
  by_cases c1:(c.toNat:Int)<32
  ·rw [qP (r:= .inl false) (by simp [qBU,qC,qE,qG,qH,qJ,qK,Option.bind_some,qF,qM,qN,hi,hc,c1])]
   have:okc c=false:=by simp [okc];omega
   simp [this]
  ·by_cases c2:(c.toNat:Int)>126
   ·rw [qP (r:= .inl false) (by simp [qBU,qC,qE,qG,qH,qJ,qK,Option.bind_some,qF,qM,qN,hi,hc,c1,c2])]
    have:okc c=false:=by simp [okc];omega
    simp [this]
   ·have hw:IntKind.i64.wrap ((i:Int)+1)=((i+1:Nat):Int):=by rw [qT (by omega)];omega
    rw [qU (v':=(s,((i+1:Nat):Int))) (by simp [qBU,qC,qE,qG,qH,qJ,qK,Option.bind_some,qF,qM,qN,hi,hc,c1,c2,hw])]
    rw [qMu n s hb m (i+1) M (by omega) (by omega)]
    have:okc c=true:=by simp [okc];omega
    simp [this]
theorem qIO (s:ByteArray) (hb:s.size≤140737488355328):Ev (qCK · s) (qCs s 200):=by
 refine ⟨s.size+2,fun n hn=>?_⟩
 obtain ⟨m,rfl,hm⟩:=up1 hn
 have h:=qMu m s hb s.size 0 m (by omega) (by omega)
 simp only [qCK,qGW,qC,qE,qG,qH,qJ,qK,Option.bind_some,qF,qM,qN]
 simp only [Int.natCast_zero,List.drop_zero] at h
 rw [h]
 cases hc:s.toList.all okc<;>simp [qC,qE,qG,qH,qJ,qK,Option.bind_some,qF,qM,qN,qCs,hc]
theorem qJW (s:ByteArray) (hb:s.size≤140737488351232):Ev (qCK · s) (qCs s 200):=qIO s (by omega)
theorem qOU (n:Nat) (s:ByteArray) (y:Int) (hb:s.size≤140737488355328):∀(m i M:Nat),s.size=i+m→m+1≤M→
  zD (qBn n) M (s,y,(s.size:Int),(i:Int))=some (if (s.toList.drop i).all okc then .inr (s,y) else .inl false)
 |m,i,0,h1,h2=>by omega
 |0,i,M+1,h1,h2=>by
  rw [qP (r:= .inr (s,y)) (by simp [qBn,qC,qE,qG,qH,qJ,qK,Option.bind_some,qF,qM,qN,show ¬((i:Int)<s.size) by omega])]
  rw [List.drop_eq_nil_of_le (by rw [qAT];omega)]
  rfl
 |m+1,i,M+1,h1,h2=>by
  obtain ⟨c,hc⟩:=qRK (s:=s) (i:=i) (by omega)
  have hi:(i:Int)<s.size:=by omega
  rw [qDN hc]
  by_cases c1:(c.toNat:Int)<32
  ·rw [qP (r:= .inl false) (by simp [qBn,qC,qE,qG,qH,qJ,qK,Option.bind_some,qF,qM,qN,hi,hc,c1])]
   have:okc c=false:=by simp [okc];omega
   simp [this]
  ·by_cases c2:(c.toNat:Int)>126
   ·rw [qP (r:= .inl false) (by simp [qBn,qC,qE,qG,qH,qJ,qK,Option.bind_some,qF,qM,qN,hi,hc,c1,c2])]
    have:okc c=false:=by simp [okc];omega
    simp [this]
   ·have hw:IntKind.i64.wrap ((i:Int)+1)=((i+1:Nat):Int):=by rw [qT (by omega)];omega
    rw [qU (v':=(s,y,(s.size:Int),((i+1:Nat):Int))) (by simp [qBn,qC,qE,qG,qH,qJ,qK,Option.bind_some,qF,qM,qN,hi,hc,c1,c2,hw])]
    rw [qOU n s y hb m (i+1) M (by omega) (by omega)]
    have:okc c=true:=by simp [okc];omega
    simp [this]
theorem qJX (s:ByteArray) (y:Int) (hb:s.size≤140737488355328):Ev (qCq · s y) (qCs s y):=by
 refine ⟨s.size+2,fun n hn=>?_⟩
 obtain ⟨m,rfl,hm⟩:=up1 hn
 have h:=qOU m s y hb s.size 0 m (by omega) (by omega)
 simp only [qCq,qHs,qC,qE,qG,qH,qJ,qK,Option.bind_some,qF,qM,qN]
 simp only [Int.natCast_zero,List.drop_zero] at h
 rw [h]
 cases hc:s.toList.all okc<;>simp [qC,qE,qG,qH,qJ,qK,Option.bind_some,qF,qM,qN,qCs,hc]
theorem qKT (s:ByteArray) (y:Int) (hb:s.size≤140737488351232):Ev (qCq · s y) (qCs s y):=qJX s y (by omega)
theorem qAF (k x:Int) (s:ByteArray) (hb:s.size≤140737488351232):Ev (qY · k x s) (okV k x s):=by
 obtain ⟨n1,h1⟩:=qBw x (-1000000000000000) 1000000000000000
 obtain ⟨n2,h2⟩:=qBw x 0 1
 obtain ⟨n3,h3⟩:=qBw x 1 5
 obtain ⟨n4,h4⟩:=qJW s hb
 refine ⟨n1+n2+n3+n4+1,fun n hn=>?_⟩
 obtain ⟨m,rfl,hm⟩:=up1 hn
 have h1:=h1 m (by omega)
 dsimp only at h1
 have h2:=h2 m (by omega)
 dsimp only at h2
 have h3:=h3 m (by omega)
 dsimp only at h3
 have h4:=h4 m (by omega)
 dsimp only at h4
 simp only [qY,qGY,qC,qE,qG,qH,qJ,qK,Option.bind_some,qF,qM,qN,h1,h2,h3,h4]
 simp only [okV,qAE]
 by_cases k2:k=2
 ·subst k2
  by_cases x0:x=0<;>simp [x0]
 ·by_cases k0:k=0
  ·subst k0
   by_cases x0:x=0<;>simp [x0]
  ·by_cases k1:k=1
   ·subst k1
    by_cases hx: -1000000000000000≤x∧x≤1000000000000000<;>simp [hx]
   ·by_cases k3:k=3
    ·subst k3
     by_cases hx:0≤x∧x≤1<;>simp [hx]
    ·by_cases k4:k=4
     ·subst k4
      by_cases hx:1≤x∧x≤5<;>simp [hx]
     ·simp [k0,k1,k2,k3,k4]
theorem qF4 (k x:Int) (s:ByteArray) (hb:s.size≤140737488351232):Ev (qAR · k x s) (okV k x s):=by
 obtain ⟨n1,h1⟩:=qv x (-1000000000000000) 1000000000000000
 obtain ⟨n2,h2⟩:=qv x 0 1
 obtain ⟨n3,h3⟩:=qv x 1 5
 obtain ⟨n4,h4⟩:=qKT s 200 hb
 refine ⟨n1+n2+n3+n4+1,fun n hn=>?_⟩
 obtain ⟨m,rfl,hm⟩:=up1 hn
 have h1:=h1 m (by omega)
 dsimp only at h1
 have h2:=h2 m (by omega)
 dsimp only at h2
 have h3:=h3 m (by omega)
 dsimp only at h3
 have h4:=h4 m (by omega)
 dsimp only at h4
 simp only [qAR,qGr,qC,qE,qG,qH,qJ,qK,Option.bind_some,qF,qM,qN,h1,h2,h3,h4]
 simp only [okV,qAE]
 by_cases k2:k=2
 ·subst k2
  by_cases x0:x=0<;>simp [x0]
 ·by_cases he:s.toList= []
  ·by_cases k0:k=0
   ·subst k0
    by_cases x0:x=0<;>simp [x0,he]
   ·by_cases k1:k=1
    ·subst k1;simp [he]
    ·by_cases k3:k=3
     ·subst k3;simp [he]
     ·by_cases k4:k=4
      ·subst k4;simp [he]
      ·simp [k0,k1,k2,k3,k4,he]
  ·simp [k2,he]
abbrev V3:=Int×Int×ByteArray
def em:ByteArray:=⟨#[]⟩
theorem qPI (x:Int):Ev (qC0 · x) (4,x,em):=by
 refine ⟨1,fun n hn=>?_⟩
 obtain ⟨m,rfl,hm⟩:=up1 hn
 simp only [qC0,qGa,qC,qE,qG,qH,qJ,qK,Option.bind_some,qF,qM,qN]
 rfl
theorem qLY (x:Int):Ev (qBv · x) (4,x,em):=by
 refine ⟨1,fun n hn=>?_⟩
 obtain ⟨m,rfl,hm⟩:=up1 hn
 simp only [qBv,qIn,qC,qE,qG,qH,qJ,qK,Option.bind_some,qF,qM,qN]
 rfl
theorem qKU (x:Int):Ev (qCr · x) (1,x,em):=by
 refine ⟨1,fun n hn=>?_⟩
 obtain ⟨m,rfl,hm⟩:=up1 hn
 simp only [qCr,qHu,qC,qE,qG,qH,qJ,qK,Option.bind_some,qF,qM,qN]
 rfl
def qBI (c r:Int):Bool:=decide (1≤c∧c≤52)&&decide (1≤r∧r≤99)
def qF5 (a b c d:Int):Bool:=qBI a b&&qBI c d&&decide (a≤c)&&decide (b≤d)
theorem qCt (c r:Int):Ev (qAK · c r) (qBI c r):=by
 obtain ⟨n1,h1⟩:=qBw c 1 52
 obtain ⟨n2,h2⟩:=qBw r 1 99
 refine ⟨n1+n2+1,fun n hn=>?_⟩
 obtain ⟨m,rfl,hm⟩:=up1 hn
 have h1:=h1 m (by omega)
 dsimp only at h1
 have h2:=h2 m (by omega)
 dsimp only at h2
 simp only [qAK,qIe,qC,qE,qG,qH,qJ,qK,Option.bind_some,qF,qM,qN,h1,h2]
 unfold qBI
 cases decide (1≤c∧c≤52)<;>simp
theorem qDO (c r:Int):Ev (qBu · c r) (qBI c r):=by
 obtain ⟨n1,h1⟩:=qv c 1 52
 obtain ⟨n2,h2⟩:=qv r 1 99
 refine ⟨n1+n2+1,fun n hn=>?_⟩
 obtain ⟨m,rfl,hm⟩:=up1 hn
 have h1:=h1 m (by omega)
 dsimp only at h1
 have h2:=h2 m (by omega)
 dsimp only at h2
 simp only [qBu,qIj,qC,qE,qG,qH,qJ,qK,Option.bind_some,qF,qM,qN,h1,h2]
 unfold qBI
 cases decide (1≤c∧c≤52)<;>simp
theorem qQB (a b c d:Int):Ev (qFU · a b c d) (qF5 a b c d):=by
 obtain ⟨n1,h1⟩:=qCt a b
 obtain ⟨n2,h2⟩:=qCt c d
 refine ⟨n1+n2+1,fun n hn=>?_⟩
 obtain ⟨m,rfl,hm⟩:=up1 hn
 have h1:=h1 m (by omega)
 dsimp only at h1
 have h2:=h2 m (by omega)
 dsimp only at h2
 simp only [qFU,qHg,qC,qE,qG,qH,qJ,qK,Option.bind_some,qF,qM,qN,h1,h2]
 unfold qF5
 cases qBI a b<;>cases qBI c d<;>by_cases h:a≤c<;>simp [h]
theorem qKV (a b c d:Int):Ev (qD7 · a b c d) (qF5 a b c d):=by
 obtain ⟨n1,h1⟩:=qDO a b
 obtain ⟨n2,h2⟩:=qDO c d
 refine ⟨n1+n2+1,fun n hn=>?_⟩
 obtain ⟨m,rfl,hm⟩:=up1 hn
 have h1:=h1 m (by omega)
 dsimp only at h1
 have h2:=h2 m (by omega)
 dsimp only at h2
 simp only [qD7,qHy,qC,qE,qG,qH,qJ,qK,Option.bind_some,qF,qM,qN,h1,h2]
 unfold qF5
 cases qBI a b<;>cases qBI c d<;>by_cases h:a≤c<;>simp [h]
def qMD (x y:Int):Int:=if x<y then-1 else if x>y then 1 else 0
def qVl (x y:ByteArray):Int:=if Op.bytesLess x.toList y.toList=true then-1 else if x.toList=y.toList then 0 else 1
def qDH:List Int→Int
 | []=>0
 |x::r=>if x≠0 then x else qDH r
theorem qQC (x:Int):Ev (qCe · x) false:=by
 refine ⟨1,fun n hn=>?_⟩
 obtain ⟨m,rfl,hm⟩:=up1 hn
 simp only [qCe,qEt,qC,qE,qG,qH,qJ,qK,Option.bind_some,qF,qM,qN]
 simp
theorem qSW (x y:Int):Ev (qB7 · x y) (qMD x y):=by
 obtain ⟨n1,h1⟩:=qQC x
 obtain ⟨n2,h2⟩:=qQC y
 refine ⟨n1+n2+1,fun n hn=>?_⟩
 obtain ⟨m,rfl,hm⟩:=up1 hn
 have h1:=h1 m (by omega)
 dsimp only at h1
 have h2:=h2 m (by omega)
 dsimp only at h2
 simp only [qB7,qD0,qC,qE,qG,qH,qJ,qK,Option.bind_some,qF,qM,qN,h1,h2]
 unfold qMD
 by_cases h:x<y
 ·simp [h]
 ·by_cases h':x>y
  ·have h'':y<x:=h'
   simp [h,h'']
  ·have h'':¬y<x:=h'
   simp [h,h'']
theorem qTQ (n:Nat) (l:List Int) (hb:l.length≤1000):∀(m i M:Nat),l.length=i+m→m+1≤M→
  zD (qCZ n) M (0,l.map (fun x=> [PV.i .i64 x]),(l.length:Int),(i:Int))=some (if qDH (l.drop i)≠0 then .inl (qDH (l.drop i)) else .inr 0)
 |m,i,0,h1,h2=>by omega
 |0,i,M+1,h1,h2=>by
  rw [qP (r:= .inr 0) (by simp [qCZ,qC,qE,qG,qH,qJ,qK,Option.bind_some,qF,qM,qN,show ¬((i:Int)<l.length) by omega])]
  rw [List.drop_eq_nil_of_le (by omega)]
  rfl
 |m+1,i,M+1,h1,h2=>by
  have hl:i<l.length:=by omega
  have hg:=List.getElem?_eq_getElem hl
  have hi:(i:Int)<l.length:=by omega
  rw [qDN hg]
  generalize l[i]=c at hg
  by_cases hc:c=0
  ·subst hc
   have hw:IntKind.i64.wrap ((i:Int)+1)=((i+1:Nat):Int):=by rw [qT (by omega)];omega
   rw [qU (v':=(0,l.map (fun x=> [PV.i .i64 x]),(l.length:Int),((i+1:Nat):Int))) (by simp [qCZ,qC,qE,qG,qH,qJ,qK,Option.bind_some,qF,qM,qN,hi,hg,zC,hw])]
   rw [qTQ n l hb m (i+1) M (by omega) (by omega)]
   simp [qDH]
  ·rw [qP (r:= .inl c) (by simp [qCZ,qC,qE,qG,qH,qJ,qK,Option.bind_some,qF,qM,qN,hi,hg,zC,hc])]
   simp [qDH,hc]
theorem qTm (l:List Int) (hb:l.length≤1000):Ev (qGO · (l.map (fun x=> [PV.i .i64 x]))) (qDH l):=by
 refine ⟨l.length+2,fun n hn=>?_⟩
 obtain ⟨m,rfl,hm⟩:=up1 hn
 have h:=qTQ m l hb l.length 0 m (by omega) (by omega)
 simp only [qGO,qIk,qC,qE,qG,qH,qJ,qK,Option.bind_some,qF,qM,qN]
 simp only [Int.natCast_zero,List.drop_zero] at h
 simp only [List.length_map]
 rw [h]
 by_cases hc:qDH l=0<;>simp [qC,qE,qG,qH,qJ,qK,Option.bind_some,qF,qM,qN,hc]
def qVm (k x:Int) (s:ByteArray) (k' x':Int) (s':ByteArray):Int:=qDH [qMD k k',qMD x x',qVl s s']
theorem qLZ (b:Bool):Ev (qEx · b) (3,if b=true then 1 else 0,em):=by
 refine ⟨1,fun n hn=>?_⟩
 obtain ⟨m,rfl,hm⟩:=up1 hn
 simp only [qEx,qIo,qC,qE,qG,qH,qJ,qK,Option.bind_some,qF,qM,qN]
 cases b<;>rfl
def qVV (op o:Int):Bool:=if op=6 then o==0 else if op=7 then o !=0 else if op=8 then decide (o<0) else if op=9 then decide (o≤0) else if op=10 then decide (o>0) else decide (o≥0)
def qVk (op k x:Int) (s:ByteArray) (k' x':Int) (s':ByteArray):Int×Int×ByteArray:=
 if okV k x s=true∧okV k' x' s'=true∧6≤op∧op≤11 then
  (if k=4 then (k,x,s) else if k'=4 then (k',x',s') else (3,if qVV op (qVm (if k=0 then k' else k) x s (if k'=0 then k else k') x' s')=true then 1 else 0,em))
 else (4,2,em)
def qJY (a b c d:Int):Bool:=decide (b<d∨(b=d∧a<c))
theorem qLK (a b c d:Int):Ev (qBm · a b c d) (qDH [qMD b d,qMD a c]):=by
 obtain ⟨n1,h1⟩:=qSW b d
 obtain ⟨n2,h2⟩:=qSW a c
 obtain ⟨n3,h3⟩:=qTm [qMD b d,qMD a c] (by simp)
 refine ⟨n1+n2+n3+1,fun n hn=>?_⟩
 obtain ⟨m,rfl,hm⟩:=up1 hn
 have h1:=h1 m (by omega)
 dsimp only at h1
 have h2:=h2 m (by omega)
 dsimp only at h2
 have h3:=h3 m (by omega)
 dsimp only at h3
 simp only [qBm,qEQ,qC,qE,qG,qH,qJ,qK,Option.bind_some,qF,qM,qN,h1,h2,h3]
 simp only [List.map_cons,List.map_nil] at h3
 simp [h3]
theorem qTn (a b c d:Int):decide (qDH [qMD b d,qMD a c]≥0)=!(qJY a b c d):=by
 unfold qDH qDH qDH qMD qJY
 by_cases h1:b<d
 ·simp [h1]
 ·by_cases h2:b>d
  ·have:¬b=d:=by omega
   simp [h1,h2,this]
  ·have:b=d:=by omega
   subst this
   by_cases h3:a<c
   ·simp [h3]
   ·by_cases h4:a>c<;>simp [h3,h4]
def qHE (x:Int):ByteArray:=⟨(Lib.itoa x).toArray⟩
theorem qDg (a b:ByteArray):(a++b).data.toList=a.data.toList++b.data.toList:=by
 rw [ByteArray.data_append,Array.toList_append]
theorem qHW {a b:ByteArray} (h:a.data.toList=b.data.toList):a=b:=by
 cases a;cases b
 congr 1
 exact Array.toList_inj.1 h
theorem qE4 {a b:ByteArray} (h:a.toList=b.toList):a=b:=qHW (by rw [←Go.Lib.toList_data,←Go.Lib.toList_data];exact h)
theorem qCw (a:ByteArray):a.size=a.data.toList.length:=by rw [Array.length_toList];rfl
theorem u8w {q:Nat} (h:q<10):IntKind.u8.wrap (IntKind.i64.wrap (48+(q:Int)))=((48+q:Nat):Int):=by
 rw [qT (by omega)]
 unfold IntKind.wrap
 have e2:(2:Int)^8=256:=by decide
 simp only [IntKind.signed,IntKind.bits,Bool.false_and,Bool.false_eq_true,if_false,e2]
 omega
theorem qU7:∀(k v:Nat),1≤v→v<10^k→Lib.nDigits v≤k:=by
 intro k
 induction k with
 |zero=>intro v hv hv';simp at hv';omega
 |succ k ih=>
  intro v hv hv'
  by_cases h10:v<10
  ·rw [Lib.nDigits_small h10];omega
  ·rw [Lib.nDigits_big h10]
   have:=ih (v/10) (by omega) (by rw [Nat.pow_succ] at hv';omega)
   omega
theorem qKl (u:Nat) (h:u≤1000000000000000000):(Lib.decDigits u).length≤19:=by
 have p:(10:Nat)^19=10000000000000000000:=by decide
 rw [Lib.decDigits_length]
 rcases Nat.lt_or_ge u 1 with h6|h6
 ·have:u=0:=by omega
  subst this
  rw [Lib.nDigits_small (by decide)]
  decide
 ·exact qU7 19 u h6 (by omega)
def qe (x:Int):ByteArray:=if x=1 then ⟨#[35,68,73,86,33]⟩ else if x=2 then ⟨#[35,84,89,80,69,33]⟩ else if x=3 then ⟨#[35,82,69,70,33]⟩ else if x=4 then ⟨#[35,79,86,69,82,33]⟩ else if x=5 then ⟨#[35,67,89,67,76,69,33]⟩ else ⟨#[]⟩
theorem lt6 {x:Int} (h:0≤x∧x≤5):x=0∨x=1∨x=2∨x=3∨x=4∨x=5:=by omega
def qSX (x:Int):ByteArray:=if x=1 then ⟨#[84,82,85,69]⟩ else ⟨#[70,65,76,83,69]⟩
theorem qT5 {x:Int} {s:ByteArray} (h:okV 1 x s=true): -1000000000000000≤x∧x≤1000000000000000:=by
 simp [okV] at h;exact h.2
theorem qRM {x:Int} {s:ByteArray} (h:okV 2 x s=true):x=0∧(s.size:Int)≤200∧s.toList.all okc=true:=by
 simp only [okV,qCs,if_true,Bool.and_eq_true,decide_eq_true_eq] at h
 exact ⟨h.1,h.2.2,h.2.1⟩
theorem qVW {x:Int} {s:ByteArray} (h:okV 3 x s=true):0≤x∧x≤1:=by
 simp [okV] at h;exact h.2
theorem qU8 {x:Int} {s:ByteArray} (h:okV 4 x s=true):1≤x∧x≤5:=by
 simp [okV] at h;exact h.2
def qCB (k x:Int) (s:ByteArray):ByteArray:=if k=1 then qHE x else if k=2 then ⟨#[39]⟩++s else if k=3 then qSX x else if k=4 then qe x else ⟨#[]⟩
theorem qTo {x:Int} (h: -1000000000000000000≤x∧x≤1000000000000000000):(qHE x).size≤20:=by
 rw [qCw]
 show (Lib.itoa x).length≤20
 unfold Lib.itoa
 split
 ·have:=qKl x.natAbs (by omega);simp;omega
 ·have:=qKl x.toNat (by omega);omega
theorem qS6 {k x:Int} {s:ByteArray} (h:okV k x s=true):(qCB k x s).size≤300:=by
 unfold qCB
 split
 ·rename_i k1;subst k1;have:=qT5 h;have:=qTo (x:=x) (by omega);omega
 ·split
  ·rename_i k2;subst k2
   have:=qRM h
   rw [ByteArray.size_append]
   show 1+s.size≤300
   omega
  ·split
   ·unfold qSX;split<;>decide
   ·split
    ·unfold qe
     repeat' split
     all_goals decide
    ·decide
def qDL (x:Int):ByteArray:=if x<1∨x>52 then ⟨#[]⟩ else if x≤26 then ⟨#[UInt8.ofNat (64+x.toNat)]⟩ else ⟨#[65,UInt8.ofNat (65+(x.toNat-1)%26)]⟩
theorem qN5 (x:Int):(qDL x).size≤2:=by
 unfold qDL
 split
 ·decide
 ·split
  ·exact (show (1:Nat)≤2 by decide)
  ·exact (show (2:Nat)≤2 by decide)
theorem qR2 {q:Int} (h:0≤q∧q<256):IntKind.u8.wrap q=q:=by
 unfold IntKind.wrap
 have e2:(2:Int)^8=256:=by decide
 simp only [IntKind.signed,IntKind.bits,Bool.false_and,Bool.false_eq_true,if_false,e2]
 omega
def qCE (c r:Int) (fc fr:Bool):ByteArray:=if qBI c r=true then ⟨((if fc=true then [36] else [])++(qDL c).data.toList++(if fr=true then [36] else [])++(qHE r).data.toList).toArray⟩ else ⟨#[]⟩
theorem qME {x:Int} (h:1≤x∧x≤99):(qHE x).size≤20:=by
 rw [qCw]
 show (Lib.itoa x).length≤20
 unfold Lib.itoa
 rw [if_neg (by omega)]
 have:=qKl x.toNat (by omega)
 omega
theorem qIP {c r:Int} (h:qBI c r=true):(1≤c∧c≤52)∧(1≤r∧r≤99):=by
 simpa [qBI] using h
def qA9 (c:UInt8):Bool:=decide (48≤c.toNat)&&decide (c.toNat≤57)
def qAe (acc:Nat) (l:List UInt8):Nat:=l.foldl (fun a c=>a*10+(c.toNat-48)) acc
theorem qG3 (acc:Nat):qAe acc []=acc:=rfl
theorem qDt (acc:Nat) (c:UInt8) (r:List UInt8):qAe acc (c::r)=qAe (acc*10+(c.toNat-48)) r:=by simp only [qAe,List.foldl_cons]
theorem qSY (l:List UInt8) (acc:Nat) (c:UInt8):qAe acc (l++ [c])=qAe acc l*10+(c.toNat-48):=by
 simp only [qAe,List.foldl_append,List.foldl_cons,List.foldl_nil]
theorem qTR:∀(l:List UInt8) (acc:Nat),acc≤qAe acc l
 | [],acc=>by rw [qG3];exact Nat.le_refl _
 |c::r,acc=>by
  have h:=qTR r (acc*10+(c.toNat-48))
  have h2:acc≤acc*10+(c.toNat-48):=by omega
  rw [qDt]
  exact Nat.le_trans h2 h
theorem qR3 {d:Nat} (h:d<10):(UInt8.ofNat (48+d)).toNat=48+d:=by
 rw [UInt8.toNat_ofNat'];omega
theorem qSZ {d:Nat} (h:d<10):qA9 (UInt8.ofNat (48+d))=true:=by
 unfold qA9
 rw [qR3 h]
 simp
 omega
theorem qIQ:∀u:Nat,(Lib.decDigits u).all qA9=true∧qAe 0 (Lib.decDigits u)=u∧Lib.decDigits u≠ []∧(10≤u→(Lib.decDigits u).head?≠some 48)∧(1≤u→(Lib.decDigits u).head?≠some 48):=by
 intro u
 induction u using Nat.strongRecOn with
 |_ u ih=>
  by_cases h:u<10
  ·rw [Lib.decDigits,dif_pos h]
   have h1:∀k,1≤k→k<10→UInt8.ofNat (48+k)≠48:=fun k hk hk' e=>by
    have:=congrArg UInt8.toNat e
    rw [qR3 hk'] at this
    have h2:(48:UInt8).toNat=48:=rfl
    omega
   refine ⟨by simp only [List.all_cons,List.all_nil,qSZ h,Bool.and_true],by rw [qDt,qG3,qR3 h];omega,by simp,fun _=>by omega,fun hu=>?_⟩
   simp only [List.head?_cons,ne_eq,Option.some.injEq]
   exact h1 u hu h
  ·obtain ⟨i1,i2,i3,i4,i5⟩:=ih (u/10) (by omega)
   rw [Lib.decDigits,dif_neg h]
   have hd:u%10<10:=by omega
   have hh:(Lib.decDigits (u/10)++ [UInt8.ofNat (48+u%10)]).head?=(Lib.decDigits (u/10)).head?:=by
    cases hq:Lib.decDigits (u/10) with
    |nil=>exact absurd hq i3
    |cons a b=>rfl
   refine ⟨by simp only [List.all_append,i1,List.all_cons,List.all_nil,qSZ hd,Bool.and_true],by rw [qSY,i2,qR3 hd];omega,by simp,fun _=>?_,fun _=>?_⟩
   ·rw [hh];exact i5 (by omega)
   ·rw [hh];exact i5 (by omega)
def qGI (l:List UInt8):Bool:=!(l== [])&&l.all qA9&&(!(l.head?==some 48)||l.length==1)
theorem qRN (u:Nat):qGI (Lib.decDigits u)=true:=by
 obtain ⟨h1,h2,h3,h4,h5⟩:=qIQ u
 simp only [qGI,h1,Bool.and_true,Bool.and_eq_true,Bool.not_eq_true',beq_eq_false_iff_ne,Bool.or_eq_true]
 refine ⟨h3,?_⟩
 by_cases hu:u<10
 ·right;rw [Lib.decDigits,dif_pos hu];rfl
 ·left;exact h4 (by omega)
theorem qN6:∀(n:Nat) (l:List UInt8),l.length=n→qGI l=true→Lib.decDigits (qAe 0 l)=l
 |0,l,hn,h=>by
  have:=List.eq_nil_of_length_eq_zero hn
  subst this
  simp [qGI] at h
 |n+1,l,hn,h=>by
  simp only [qGI,Bool.and_eq_true,Bool.not_eq_true',beq_eq_false_iff_ne,Bool.or_eq_true,beq_iff_eq] at h
  obtain ⟨⟨h1,h2⟩,h3⟩:=h
  obtain ⟨ini,c,rfl⟩:∃ini c,l=ini++ [c]:=⟨l.dropLast,l.getLast h1,(List.dropLast_concat_getLast h1).symm⟩
  simp only [List.all_append,Bool.and_eq_true,List.all_cons,List.all_nil,Bool.and_true] at h2
  obtain ⟨h2,hc⟩:=h2
  simp only [qA9,Bool.and_eq_true,decide_eq_true_eq] at hc
  have ec:UInt8.ofNat (48+(c.toNat-48))=c:=by
   have:48+(c.toNat-48)=c.toNat:=by omega
   rw [this];simp
  rw [qSY]
  cases ini with
  |nil=>
   rw [qG3,Nat.zero_mul,Nat.zero_add,List.nil_append,Lib.decDigits,dif_pos (by omega),ec]
  |cons a b=>
   have hl:(a::b).length=n:=by simp at hn⊢;omega
   have h48:¬a=48:=by
    rcases h3 with h3|h3
    ·simpa using h3
    ·simp at h3
   have hcn:qGI (a::b)=true:=by
    simp only [qGI,h2,Bool.and_true,Bool.and_eq_true,Bool.not_eq_true',beq_eq_false_iff_ne,Bool.or_eq_true]
    exact ⟨by simp,.inl (by simpa using h48)⟩
   have ih:=qN6 n (a::b) hl hcn
   have hp:1≤qAe 0 (a::b):=by
    rcases Nat.eq_zero_or_pos (qAe 0 (a::b)) with h0|h0
    ·rw [h0,Lib.decDigits,dif_pos (by decide)] at ih
     have:a=48:=by
      have:=congrArg List.head? ih
      simpa using this.symm
     exact absurd this h48
    ·exact h0
   rw [Lib.decDigits,dif_neg (by omega)]
   have e1:(qAe 0 (a::b)*10+(c.toNat-48))/10=qAe 0 (a::b):=by omega
   have e2:(qAe 0 (a::b)*10+(c.toNat-48))%10=c.toNat-48:=by omega
   rw [e1,e2,ih,ec]
def l1I (l:List UInt8) (most:Int):Int×Bool:=if (l.length:Int)≤most∧qGI l=true then ((qAe 0 l:Int),true) else (0,false)
theorem qR4:∀(l:List UInt8) (acc k:Nat),l.all qA9=true→acc<10^k→qAe acc l<10^(k+l.length)
 | [],acc,k,_,h=>by rw [qG3];simpa using h
 |c::r,acc,k,hd,h=>by
  simp only [List.all_cons,Bool.and_eq_true] at hd
  have hc:=hd.1
  simp only [qA9,Bool.and_eq_true,decide_eq_true_eq] at hc
  have:=qR4 r (acc*10+(c.toNat-48)) (k+1) hd.2 (by rw [Nat.pow_succ];omega)
  rw [qDt,List.length_cons,show k+(r.length+1)=k+1+r.length by omega]
  exact this
theorem qN7:∀(l:List UInt8) (acc:Nat),l.all qA9=true→qAe acc l≤1000000000000000000→Lib.parseUintM (2^64-1) acc l= .ok (qAe acc l)
 | [],acc,_,_=>by simp only [Lib.parseUintM,qG3]
 |c::r,acc,hd,h=>by
  simp only [List.all_cons,Bool.and_eq_true] at hd
  have hc:=hd.1
  simp only [qA9,Bool.and_eq_true,decide_eq_true_eq] at hc
  rw [qDt] at h⊢
  have g1:=qTR r (acc*10+(c.toNat-48))
  have p:(2:Nat)^64-1=18446744073709551615:=by decide
  simp only [Lib.parseUintM]
  rw [if_pos hc,if_neg (by omega),if_neg (by rw [p];omega)]
  exact qN7 r _ hd.2 h
theorem qRO {u:Nat} (h:u≤1000000000000000000):Lib.parseUintB 64 (Lib.decDigits u)= .ok u:=by
 obtain ⟨h1,h2,h3,_,_⟩:=qIQ u
 unfold Lib.parseUintB
 rw [if_neg h3,qN7 _ 0 h1 (by rw [h2];exact h),h2]
theorem qSa (u:Nat):∃c r,Lib.decDigits u=c::r∧qA9 c=true:=by
 obtain ⟨h1,_,h3,_,_⟩:=qIQ u
 cases hq:Lib.decDigits u with
 |nil=>exact absurd hq h3
 |cons c r=>
  rw [hq] at h1
  simp only [List.all_cons,Bool.and_eq_true] at h1
  exact ⟨c,r,rfl,h1.1⟩
theorem qS7 {x:Int} (h: -1000000000000000≤x∧x≤1000000000000000):Lib.parseIntB 64 (Lib.itoa x)= .ok x:=by
 have p:(2:Nat)^(64-1)=9223372036854775808:=by decide
 by_cases hx:x<0
 ·have e:Lib.itoa x=45::Lib.decDigits x.natAbs:=by unfold Lib.itoa;rw [if_pos hx]
  have c45:(45:UInt8).toNat=45:=rfl
  rw [e]
  simp only [Lib.parseIntB,c45,or_true,if_true,qRO (u:=x.natAbs) (by omega),p]
  rw [if_neg (by simp),if_neg (by omega)]
  congr 1
  omega
 ·have e:Lib.itoa x=Lib.decDigits x.toNat:=by unfold Lib.itoa;rw [if_neg hx]
  obtain ⟨c,r,hcr,hd⟩:=qSa x.toNat
  simp only [qA9,Bool.and_eq_true,decide_eq_true_eq] at hd
  rw [e,hcr]
  simp only [Lib.parseIntB]
  rw [if_neg (by omega),←hcr,qRO (u:=x.toNat) (by omega)]
  simp only [p]
  rw [if_neg (by omega),if_neg (by omega),if_neg (by omega)]
  congr 1
  omega
def qR5 (l:List UInt8):Option Int:=if l.head?=some 45 then (if (l1I (l.drop 1) 16).2=true∧(l1I (l.drop 1) 16).1≠0 then some (-(l1I (l.drop 1) 16).1) else none) else (if (l1I l 16).2=true then some (l1I l 16).1 else none)
theorem qQD {l:List UInt8} (h:(l1I l 16).2=true):l.length≤16∧qGI l=true∧(l1I l 16).1=(qAe 0 l:Int)∧Lib.decDigits (qAe 0 l)=l:=by
 unfold l1I at h⊢
 split at h
 ·rename_i hc
  rw [if_pos hc]
  exact ⟨by omega,hc.2,rfl,qN6 _ l rfl hc.2⟩
 ·cases h
theorem qTS {u:Nat} (h:u≤1000000000000000):l1I (Lib.decDigits u) 16=((u:Int),true):=by
 obtain ⟨h1,h2,h3,_,_⟩:=qIQ u
 have hl:(Lib.decDigits u).length≤16:=by
  rw [Lib.decDigits_length]
  have:Lib.nDigits 1000000000000000=16:=Lib.nDigits_unique 15 _ (by decide) (by decide)
  rcases Nat.lt_or_ge 16 (Lib.nDigits u) with h4|h4
  ·have h5:u<10^16:=by
    have:(10:Nat)^16=10000000000000000:=by decide
    omega
   exfalso
   rcases Nat.lt_or_ge u 1 with h6|h6
   ·have:u=0:=by omega
    subst this
    rw [Lib.nDigits_small (by decide)] at h4
    omega
   ·have key:∀(k v:Nat),1≤v→v<10^k→Lib.nDigits v≤k:=by
     intro k
     induction k with
     |zero=>intro v hv hv';simp at hv';omega
     |succ k ih=>
      intro v hv hv'
      by_cases h10:v<10
      ·rw [Lib.nDigits_small h10];omega
      ·rw [Lib.nDigits_big h10]
       have:=ih (v/10) (by omega) (by rw [Nat.pow_succ] at hv';omega)
       omega
    have:=key 16 u h6 h5
    omega
  ·exact h4
 unfold l1I
 rw [if_pos ⟨by omega,qRN u⟩,h2]
theorem qTp {l:List UInt8} {x:Int} (h:qR5 l=some x):l=Lib.itoa x:=by
 unfold qR5 at h
 split at h
 ·rename_i h45
  split at h
  ·rename_i hc
   cases h
   obtain ⟨a1,a2,a3,a4⟩:=qQD hc.1
   have hne:=hc.2
   rw [a3] at hne⊢
   unfold Lib.itoa
   rw [if_pos (by omega)]
   have:(-(qAe 0 (l.drop 1):Int)).natAbs=qAe 0 (l.drop 1):=by omega
   rw [this,a4]
   cases l with
   |nil=>cases h45
   |cons c r=>simp at h45;simp [h45]
  ·cases h
 ·split at h
  ·rename_i hc
   cases h
   obtain ⟨a1,a2,a3,a4⟩:=qQD hc
   rw [a3]
   unfold Lib.itoa
   rw [if_neg (by omega),Int.toNat_natCast,a4]
  ·cases h
theorem qTq {x:Int} (h: -1000000000000000≤x∧x≤1000000000000000):qR5 (Lib.itoa x)=some x:=by
 unfold qR5
 by_cases hx:x<0
 ·have e:Lib.itoa x=45::Lib.decDigits x.natAbs:=by unfold Lib.itoa;rw [if_pos hx]
  have e2:=qTS (u:=x.natAbs) (by omega)
  rw [e,List.head?_cons,if_pos rfl,List.drop_succ_cons,List.drop_zero,e2,if_pos ⟨rfl,by show ((x.natAbs:Nat):Int)≠0;omega⟩]
  congr 1
  show-((x.natAbs:Nat):Int)=x
  omega
 ·have e:Lib.itoa x=Lib.decDigits x.toNat:=by unfold Lib.itoa;rw [if_neg hx]
  have e2:=qTS (u:=x.toNat) (by omega)
  obtain ⟨c,r,hcr,hd⟩:=qSa x.toNat
  have h45:¬(Lib.decDigits x.toNat).head?=some 45:=by
   rw [hcr]
   simp only [List.head?_cons,Option.some.injEq]
   intro hc
   subst hc
   simp [qA9] at hd
  rw [e,if_neg h45,e2,if_pos rfl]
  congr 1
  show ((x.toNat:Nat):Int)=x
  omega
def qBs (s:ByteArray):Int:=match zL s 10 64 with
 |some (.inl v)=>v
 |some (.inr v)=>v
 |none=>0
theorem qOV {s:ByteArray} {x:Int} (hs:s.toList=Lib.itoa x) (h: -1000000000000000≤x∧x≤1000000000000000):qBs s=x:=by
 have hd:s.data.toList=Lib.itoa x:=by rw [←Go.Lib.toList_data];exact hs
 have hsz:s.size≤281474976710656:=by
  rw [←qAT,hs]
  unfold Lib.itoa
  split
  ·have:=qKl x.natAbs (by omega);simp;omega
  ·have:=qKl x.toNat (by omega);omega
 unfold qBs zL
 rw [if_pos ⟨rfl,rfl,hsz⟩,hd,qS7 h]
def qEW (s:ByteArray):Int:=if (qe 5).toList=s.toList then 5 else if (qe 4).toList=s.toList then 4 else if (qe 3).toList=s.toList then 3 else if (qe 2).toList=s.toList then 2 else if (qe 1).toList=s.toList then 1 else 0
theorem qUe (s:ByteArray):0≤qEW s∧qEW s≤5:=by
 unfold qEW
 repeat' split
 all_goals decide
theorem qUf {s:ByteArray} (h:¬qEW s=0):qe (qEW s)=s:=by
 unfold qEW at h⊢
 by_cases h5:(qe 5).toList=s.toList
 ·rw [if_pos h5];exact qE4 h5
 rw [if_neg h5] at h⊢
 by_cases h4:(qe 4).toList=s.toList
 ·rw [if_pos h4];exact qE4 h4
 rw [if_neg h4] at h⊢
 by_cases h3:(qe 3).toList=s.toList
 ·rw [if_pos h3];exact qE4 h3
 rw [if_neg h3] at h⊢
 by_cases h2:(qe 2).toList=s.toList
 ·rw [if_pos h2];exact qE4 h2
 rw [if_neg h2] at h⊢
 by_cases h1:(qe 1).toList=s.toList
 ·rw [if_pos h1];exact qE4 h1
 rw [if_neg h1] at h
 exact absurd rfl h
def qBJ (s:ByteArray):V3:=
 if s.toList.head?=some 39 then (2,0,⟨s.toList.tail.toArray⟩) else
 if s.toList= [70,65,76,83,69] then (3,0,em) else if s.toList= [84,82,85,69] then (3,1,em) else
 if s.toList.head?=some 35 then (if qEW s=0 then (0,0,em) else (4,qEW s,em)) else
 if s.toList= [] then (0,0,em) else (1,qBs s,em)
def qh (s:ByteArray):Int×Int×ByteArray×Bool:=if okV (qBJ s).1 (qBJ s).2.1 (qBJ s).2.2=true∧(qCB (qBJ s).1 (qBJ s).2.1 (qBJ s).2.2).toList=s.toList then ((qBJ s).1,(qBJ s).2.1,(qBJ s).2.2,true) else (0,0,⟨#[]⟩,false)
theorem qUg (c:UInt8) (k:Nat) (hk:k<256):((c.toNat:Int)==(k:Int))=(some c==some (UInt8.ofNat k)):=by
 by_cases e:c=UInt8.ofNat k
 ·subst e
  have:(UInt8.ofNat k).toNat=k:=by rw [UInt8.toNat_ofNat'];omega
  simp [this]
 ·have h1:¬(c.toNat:Int)=(k:Int):=fun h=>e (by
   have:c.toNat=k:=by omega
   rw [←this];simp)
  have h2:¬some c=some (UInt8.ofNat k):=fun h=>e (by simpa using h)
  rw [beq_eq_false_iff_ne.2 h1,beq_eq_false_iff_ne.2 h2]
theorem qB3 (l:List UInt8):(⟨l.toArray⟩:ByteArray).toList=l:=by rw [Go.Lib.toList_data]
theorem qQE (n:Nat):∀(f u:Nat) (s:ByteArray),u<10^(f+1)→u≤9223372036854775807→s.size+f≤1000→∃(q:Nat) (t:ByteArray),q<10∧t.size≤s.size+f∧UInt8.ofNat (48+q)::t.data.toList=Lib.decDigits u++s.data.toList∧∀M,f+1≤M→zD (qDJ n) M ((u:Int),s)=some ((q:Int),t)
 |f,u,s,h1,h2,h3=>by
  by_cases h:u<10
  ·refine ⟨u,s,h,by omega,by rw [Lib.decDigits,dif_pos h];rfl,fun M hM=>?_⟩
   obtain ⟨M,rfl⟩:∃k,M=k+1:=⟨M-1,by omega⟩
   have hc:¬(u:Int)≥10:=by omega
   rw [qP (r:=((u:Int),s)) (by simp [qDJ,qC,qE,qG,qH,qJ,qK,Option.bind_some,qF,qM,qN,hc])]
  ·cases f with
   |zero=>simp at h1;omega
   |succ f=>
    have e1:Int.tmod (u:Int) 10=((u%10:Nat):Int):=by rw [Int.tmod_eq_emod_of_nonneg (by omega)];omega
    have e2:IntKind.i64.wrap (Int.tdiv (u:Int) 10)=((u/10:Nat):Int):=by
     rw [Int.tdiv_eq_ediv_of_nonneg (by omega),qT (by omega)];omega
    have e3:=u8w (q:=u%10) (by omega)
    have h4:u/10<10^(f+1):=by
     have:10^(f+1+1)=10^(f+1)*10:=Nat.pow_succ 10 (f+1)
     omega
    let d:ByteArray:=⟨#[UInt8.ofNat (48+u%10)]⟩
    have hd:d.size=1:=rfl
    have hs:(d++s).size=s.size+1:=by rw [ByteArray.size_append];omega
    obtain ⟨q,t,g1,g2,g3,g4⟩:=qQE n f (u/10) (d++s) h4 (by omega) (by omega)
    refine ⟨q,t,g1,by omega,?_,fun M hM=>?_⟩
    ·rw [g3,qDg,Lib.decDigits.eq_1 u,dif_neg h]
     simp [d]
    ·obtain ⟨M,rfl⟩:∃k,M=k+1:=⟨M-1,by omega⟩
     have hc:(u:Int)≥10:=by omega
     have hz:d.size+s.size≤9223372036854775807:=by omega
     rw [qU (v':=(((u/10:Nat):Int),d++s)) (by
      simp only [qDJ,qC,qE,qG,qH,qJ,qK,Option.bind_some,qF,qM,qN,e1,e2,e3,bytesOf,Option.map_some,Int.toNat_natCast]
      rw [if_pos (by simpa using hc),if_pos (by simp),if_pos (decide_eq_true hz)])]
     exact g4 M (by omega)
theorem qMv (u:Nat) (h:u≤1000000000000000000):∀n,25≤n→qAu n (u:Int)=some (qHE u):=by
 intro n hn
 obtain ⟨m,rfl,hm⟩:=up1 hn
 have p:(10:Nat)^(18+1)=10000000000000000000:=by decide
 obtain ⟨q,t,g1,g2,g3,g4⟩:=qQE m 18 u ⟨#[]⟩ (by omega) (by omega) (by show 0+18≤1000;decide)
 have g4:=g4 m (by omega)
 have e3:=u8w g1
 have hc:¬(u:Int)<0:=by omega
 have hz:(⟨#[UInt8.ofNat (48+q)]⟩:ByteArray).size+t.size≤9223372036854775807:=by
  have g2:t.size≤0+18:=g2
  show 1+t.size≤_
  omega
 simp only [qAu,qGM,qC,qE,qG,qH,qJ,qK,Option.bind_some,qF,qM,qN,g4,e3,bytesOf,Option.map_some,Int.toNat_natCast]
 rw [if_neg (by simp),if_pos (by simp),if_pos (decide_eq_true hz)]
 congr 1
 apply qHW
 rw [qDg]
 have e:Lib.itoa (u:Int)=Lib.decDigits u:=by unfold Lib.itoa;rw [if_neg hc];simp
 show UInt8.ofNat (48+q)::t.data.toList=Lib.itoa (u:Int)
 rw [g3,e]
 simp
theorem qLa (x:Int) (h: -1000000000000000000≤x∧x≤1000000000000000000):Ev (qAu · x) (qHE x):=by
 by_cases hx:x<0
 ·refine ⟨30,fun n hn=>?_⟩
  obtain ⟨m,rfl,hm⟩:=up1 hn
  have e1:IntKind.i64.wrap (0-x)=((x.natAbs:Nat):Int):=by rw [qT (by omega)];omega
  have g:=qMv x.natAbs (by omega) m (by omega)
  have hl:=qKl x.natAbs (by omega)
  have e0:Lib.itoa ((x.natAbs:Nat):Int)=Lib.decDigits x.natAbs:=by unfold Lib.itoa;rw [if_neg (by omega)];simp
  have hz:(⟨#[45]⟩:ByteArray).size+(qHE ((x.natAbs:Nat):Int)).size≤9223372036854775807:=by
   have:(qHE ((x.natAbs:Nat):Int)).size=(Lib.decDigits x.natAbs).length:=by rw [qCw];simp [qHE,e0]
   show 1+_≤_
   omega
  simp only [qAu,qGM,qC,qE,qG,qH,qJ,qK,Option.bind_some,qF,qM,qN,e1,g]
  rw [if_pos (by simpa using hx),if_pos (decide_eq_true hz)]
  congr 1
  apply qHW
  rw [qDg]
  have e:Lib.itoa x=45::Lib.decDigits x.natAbs:=by unfold Lib.itoa;rw [if_pos hx]
  show 45::(Lib.itoa ((x.natAbs:Nat):Int))=Lib.itoa x
  rw [e,e0]
 ·obtain ⟨u,rfl⟩:∃u:Nat,x=u:=⟨x.toNat,by omega⟩
  exact ⟨25,qMv u (by omega)⟩
theorem qR6 (x:Int) (h: -9223372036854775808≤x∧x≤9223372036854775807):Ev (qD2 · x 10) (qHE x):=by
 refine ⟨1,fun n hn=>?_⟩
 obtain ⟨m,rfl,hm⟩:=up1 hn
 show zf x 10=_
 unfold zf
 rw [if_pos ⟨rfl,h⟩]
 rfl
theorem qF6 (x:Int) (h: -9223372036854775808≤x∧x≤9223372036854775807):Ev (qBD · x) (qHE x):=by
 obtain ⟨n1,h1⟩:=qR6 x h
 refine ⟨n1+1,fun n hn=>?_⟩
 obtain ⟨m,rfl,hm⟩:=up1 hn
 have h1:=h1 m (by omega)
 dsimp only at h1
 simp only [qBD,qGs,qC,qE,qG,qH,qJ,qK,Option.bind_some,qF,qM,qN,h1]
theorem qG4 (x:Int) (h:0≤x∧x≤5):Ev (qBS · x) (qe x):=by
 refine ⟨1,fun n hn=>?_⟩
 obtain ⟨m,rfl,hm⟩:=up1 hn
 simp only [qBS,qHi,qC,qE,qG,qH,qJ,qK,Option.bind_some,qF,qM,qN]
 rcases lt6 h with rfl|rfl|rfl|rfl|rfl|rfl<;>simp [zR,qe]
theorem qE5 (x:Int) (h:0≤x∧x≤5):Ev (qAf · x) (qe x):=by
 refine ⟨1,fun n hn=>?_⟩
 obtain ⟨m,rfl,hm⟩:=up1 hn
 simp only [qAf,qFK,qC,qE,qG,qH,qJ,qK,Option.bind_some,qF,qM,qN]
 rcases lt6 h with rfl|rfl|rfl|rfl|rfl|rfl<;>simp [zR,qe]
theorem qQF (x:Int):Ev (qFX · x) (qSX x):=by
 refine ⟨1,fun n hn=>?_⟩
 obtain ⟨m,rfl,hm⟩:=up1 hn
 simp only [qFX,qHp,qC,qE,qG,qH,qJ,qK,Option.bind_some,qF,qM,qN]
 by_cases h:x=1<;>simp [qSX,h]
theorem qDT (k x:Int) (s:ByteArray) (hb:s.size≤140737488351232):Ev (qAQ · k x s) (if okV k x s=true then qCB k x s else ⟨#[]⟩):=by
 cases ho:okV k x s with
 |false=>
  obtain ⟨n1,h1⟩:=qAF k x s hb
  refine ⟨n1+1,fun n hn=>?_⟩
  obtain ⟨m,rfl,hm⟩:=up1 hn
  have h1:=h1 m (by omega)
  dsimp only at h1
  simp only [qAQ,qBP,qC,qE,qG,qH,qJ,qK,Option.bind_some,qF,qM,qN,h1]
  simp [ho]
 |true=>
  by_cases k1:k=1
  ·subst k1
   have:=qT5 ho
   obtain ⟨n1,h1⟩:=qAF 1 x s hb
   obtain ⟨n2,h2⟩:=qLa x (by omega)
   refine ⟨n1+n2+1,fun n hn=>?_⟩
   obtain ⟨m,rfl,hm⟩:=up1 hn
   have h1:=h1 m (by omega)
   dsimp only at h1
   have h2:=h2 m (by omega)
   dsimp only at h2
   simp only [qAQ,qBP,qC,qE,qG,qH,qJ,qK,Option.bind_some,qF,qM,qN,h1,h2]
   simp [ho,qCB]
  ·by_cases k2:k=2
   ·subst k2
    have:=qRM ho
    have hz:(⟨#[39]⟩:ByteArray).size+s.size≤9223372036854775807:=by show 1+s.size≤_;omega
    obtain ⟨n1,h1⟩:=qAF 2 x s hb
    refine ⟨n1+1,fun n hn=>?_⟩
    obtain ⟨m,rfl,hm⟩:=up1 hn
    have h1:=h1 m (by omega)
    dsimp only at h1
    simp only [qAQ,qBP,qC,qE,qG,qH,qJ,qK,Option.bind_some,qF,qM,qN,h1]
    simp [ho,qCB,hz]
   ·by_cases k3:k=3
    ·subst k3
     obtain ⟨n1,h1⟩:=qAF 3 x s hb
     obtain ⟨n2,h2⟩:=qQF x
     refine ⟨n1+n2+1,fun n hn=>?_⟩
     obtain ⟨m,rfl,hm⟩:=up1 hn
     have h1:=h1 m (by omega)
     dsimp only at h1
     have h2:=h2 m (by omega)
     dsimp only at h2
     simp only [qAQ,qBP,qC,qE,qG,qH,qJ,qK,Option.bind_some,qF,qM,qN,h1,h2]
     simp [ho,qCB]
    ·by_cases k4:k=4
     ·subst k4
      have:=qU8 ho
      obtain ⟨n1,h1⟩:=qAF 4 x s hb
      obtain ⟨n2,h2⟩:=qG4 x (by omega)
      refine ⟨n1+n2+1,fun n hn=>?_⟩
      obtain ⟨m,rfl,hm⟩:=up1 hn
      have h1:=h1 m (by omega)
      dsimp only at h1
      have h2:=h2 m (by omega)
      dsimp only at h2
      simp only [qAQ,qBP,qC,qE,qG,qH,qJ,qK,Option.bind_some,qF,qM,qN,h1,h2]
      simp [ho,qCB]
     ·obtain ⟨n1,h1⟩:=qAF k x s hb
      refine ⟨n1+1,fun n hn=>?_⟩
      obtain ⟨m,rfl,hm⟩:=up1 hn
      have h1:=h1 m (by omega)
      dsimp only at h1
      simp only [qAQ,qBP,qC,qE,qG,qH,qJ,qK,Option.bind_some,qF,qM,qN,h1]
      simp [ho,qCB,k1,k2,k3,k4]
theorem qHX (k x:Int) (s:ByteArray) (ho:okV k x s=true):Ev (qq · k x s) (qCB k x s):=by
 by_cases k1:k=1
 ·subst k1
  have:=qT5 ho
  obtain ⟨n1,h1⟩:=qF6 x (by omega)
  refine ⟨n1+1,fun n hn=>?_⟩
  obtain ⟨m,rfl,hm⟩:=up1 hn
  have h1:=h1 m (by omega)
  dsimp only at h1
  simp only [qq,qBp,qC,qE,qG,qH,qJ,qK,Option.bind_some,qF,qM,qN,h1]
  simp [qCB]
 ·by_cases k2:k=2
  ·subst k2
   have:=qRM ho
   have hz:(⟨#[39]⟩:ByteArray).size+s.size≤9223372036854775807:=by show 1+s.size≤_;omega
   refine ⟨1,fun n hn=>?_⟩
   obtain ⟨m,rfl,hm⟩:=up1 hn
   simp only [qq,qBp,qC,qE,qG,qH,qJ,qK,Option.bind_some,qF,qM,qN]
   simp [qCB,hz]
  ·by_cases k3:k=3
   ·subst k3
    have:=qVW ho
    refine ⟨1,fun n hn=>?_⟩
    obtain ⟨m,rfl,hm⟩:=up1 hn
    simp only [qq,qBp,qC,qE,qG,qH,qJ,qK,Option.bind_some,qF,qM,qN]
    have c:x=0∨x=1:=by omega
    rcases c with rfl|rfl<;>simp [zR,qCB,qSX]
   ·by_cases k4:k=4
    ·subst k4
     have:=qU8 ho
     obtain ⟨n1,h1⟩:=qE5 x (by omega)
     refine ⟨n1+1,fun n hn=>?_⟩
     obtain ⟨m,rfl,hm⟩:=up1 hn
     have h1:=h1 m (by omega)
     dsimp only at h1
     simp only [qq,qBp,qC,qE,qG,qH,qJ,qK,Option.bind_some,qF,qM,qN,h1]
     simp [qCB]
    ·refine ⟨1,fun n hn=>?_⟩
     obtain ⟨m,rfl,hm⟩:=up1 hn
     simp only [qq,qBp,qC,qE,qG,qH,qJ,qK,Option.bind_some,qF,qM,qN]
     simp [qCB,k1,k2,k3,k4]
theorem qJZ (x:Int):Ev (qBz · x) (qDL x):=by
 by_cases h:1≤x∧x≤52
 ·by_cases h26:x≤26
  ·have w1:IntKind.i64.wrap (65+x)=65+x:=qT (by omega)
   have w2:IntKind.i64.wrap (65+x-1)=65+x-1:=qT (by omega)
   have w3:IntKind.u8.wrap (65+x-1)=65+x-1:=qR2 (by omega)
   have e:(65+x-1).toNat=64+x.toNat:=by omega
   obtain ⟨n1,h1⟩:=qv x 1 52
   refine ⟨n1+1,fun n hn=>?_⟩
   obtain ⟨m,rfl,hm⟩:=up1 hn
   have h1:=h1 m (by omega)
   dsimp only at h1
   simp only [qBz,qDa,qC,qE,qG,qH,qJ,qK,Option.bind_some,qF,qM,qN,h1]
   simp only [w1,w2,w3,bytesOf,Option.map_some,e]
   simp [h,h26,qDL,show ¬x<1 by omega,show ¬52<x by omega]
  ·have w1:IntKind.i64.wrap (x-1)=x-1:=qT (by omega)
   have e1:Int.tdiv (x-1) 26=1:=by rw [Int.tdiv_eq_ediv_of_nonneg (by omega)];omega
   have e2:Int.tmod (x-1) 26=(((x.toNat-1)%26:Nat):Int):=by rw [Int.tmod_eq_emod_of_nonneg (by omega)];omega
   have w2:IntKind.u8.wrap (IntKind.i64.wrap (IntKind.i64.wrap (65+IntKind.i64.wrap 1)-1))=65:=by decide
   have w3:IntKind.i64.wrap (65+(((x.toNat-1)%26:Nat):Int))=65+(((x.toNat-1)%26:Nat):Int):=qT (by omega)
   have w4:IntKind.u8.wrap (65+(((x.toNat-1)%26:Nat):Int))=65+(((x.toNat-1)%26:Nat):Int):=qR2 (by omega)
   have e3:(65+(((x.toNat-1)%26:Nat):Int)).toNat=65+(x.toNat-1)%26:=by omega
   obtain ⟨n1,h1⟩:=qv x 1 52
   refine ⟨n1+1,fun n hn=>?_⟩
   obtain ⟨m,rfl,hm⟩:=up1 hn
   have h1:=h1 m (by omega)
   dsimp only at h1
   simp only [qBz,qDa,qC,qE,qG,qH,qJ,qK,Option.bind_some,qF,qM,qN,h1]
   simp only [w1,e1,e2,w2,w3,w4,e3,bytesOf,Option.map_some]
   simp [h,h26,qDL,show ¬x<1 by omega,show ¬52<x by omega]
 ·have hx:x<1∨x>52:=by omega
  obtain ⟨n1,h1⟩:=qv x 1 52
  refine ⟨n1+1,fun n hn=>?_⟩
  obtain ⟨m,rfl,hm⟩:=up1 hn
  have h1:=h1 m (by omega)
  dsimp only at h1
  simp only [qBz,qDa,qC,qE,qG,qH,qJ,qK,Option.bind_some,qF,qM,qN,h1]
  simp [h,qDL,hx]
theorem qRP (n x:Nat) (s:ByteArray) (h:1≤x∧x≤1000) (hs:s.size≤100):(qBV n ((x:Int),s)).run=some (.inl ((((x-1)/26:Nat):Int),(⟨#[UInt8.ofNat (65+(x-1)%26)]⟩:ByteArray)++s)):=by
 have w1:IntKind.i64.wrap ((x:Int)-1)=((x-1:Nat):Int):=by rw [qT (by omega)];omega
 have e1:Int.tdiv ((x-1:Nat):Int) 26=(((x-1)/26:Nat):Int):=by rw [Int.tdiv_eq_ediv_of_nonneg (by omega)];omega
 have e2:Int.tmod ((x-1:Nat):Int) 26=(((x-1)%26:Nat):Int):=by rw [Int.tmod_eq_emod_of_nonneg (by omega)];omega
 have w2:IntKind.i64.wrap (((x-1)/26:Nat):Int)=(((x-1)/26:Nat):Int):=qT (by omega)
 have w3:IntKind.i64.wrap (65+(((x-1)%26:Nat):Int))=65+(((x-1)%26:Nat):Int):=qT (by omega)
 have w4:IntKind.u8.wrap (65+(((x-1)%26:Nat):Int))=65+(((x-1)%26:Nat):Int):=qR2 (by omega)
 have e3:(65+(((x-1)%26:Nat):Int)).toNat=65+(x-1)%26:=by omega
 have hz:(⟨#[UInt8.ofNat (65+(x-1)%26)]⟩:ByteArray).size+s.size≤9223372036854775807:=by show 1+s.size≤_;omega
 have hc:(x:Int)>0:=by omega
 simp only [qBV,qC,qE,qG,qH,qJ,qK,Option.bind_some,qF,qM,qN,w1,e1,e2,w2,w3,w4,e3,bytesOf,Option.map_some]
 rw [if_pos (decide_eq_true hc),if_pos (by simp),if_pos (decide_eq_true hz)]
theorem qSb (n:Nat) (s:ByteArray):(qBV n (((0:Nat):Int),s)).run=some (.inr s):=by
 simp [qBV,qC,qE,qG,qH,qJ,qK,Option.bind_some,qF,qM,qN]
theorem qJa (x:Int):Ev (qC2 · x) (qDL x):=by
 by_cases h:1≤x∧x≤52
 ·obtain ⟨n1,h1⟩:=qBw x 1 52
  refine ⟨n1+10,fun n hn=>?_⟩
  obtain ⟨m,rfl,hm⟩:=up1 hn
  have h1:=h1 m (by omega)
  dsimp only at h1
  obtain ⟨u,rfl⟩:∃u:Nat,x=u:=⟨x.toNat,by omega⟩
  obtain ⟨M,hM⟩:∃M,m=M+3:=⟨m-3,by omega⟩
  have key:zD (qBV m) m ((u:Int),(⟨#[]⟩:ByteArray))=some (qDL u):=by
   rw [hM,qU (qRP _ u ⟨#[]⟩ (by omega) (by decide))]
   by_cases h26:u≤26
   ·have e:(u-1)/26=0:=by omega
    have e2:65+(u-1)%26=64+u:=by omega
    rw [e,qP (qSb _ _),e2]
    congr 1
    apply qHW
    rw [qDg]
    simp [qDL,show ¬(u:Int)<1 by omega,show ¬(52:Int)<u by omega,show (u:Int)≤26 by omega]
   ·have e:(u-1)/26=1:=by omega
    have e4:(⟨#[UInt8.ofNat (65+(u-1)%26)]⟩++(⟨#[]⟩:ByteArray)).size≤100:=by rw [ByteArray.size_append];show 1+0≤100;decide
    rw [e,qU (qRP _ 1 _ (by decide) e4)]
    have e3:(1-1)/26=0:=by decide
    rw [e3,qP (qSb _ _)]
    congr 1
    apply qHW
    rw [qDg,qDg]
    simp [qDL,show ¬(u:Int)<1 by omega,show ¬(52:Int)<u by omega,show ¬(u:Int)≤26 by omega]
  simp only [qC2,qEj,qC,qE,qG,qH,qJ,qK,Option.bind_some,qF,qM,qN,h1,key]
  simp [h]
 ·have hx:x<1∨x>52:=by omega
  obtain ⟨n1,h1⟩:=qBw x 1 52
  refine ⟨n1+1,fun n hn=>?_⟩
  obtain ⟨m,rfl,hm⟩:=up1 hn
  have h1:=h1 m (by omega)
  dsimp only at h1
  simp only [qC2,qEj,qC,qE,qG,qH,qJ,qK,Option.bind_some,qF,qM,qN,h1]
  simp [h,qDL,hx]
theorem qE6 (c r:Int) (fc fr:Bool):Ev (qBj · c r fc fr) (qCE c r fc fr):=by
 cases ho:qBI c r with
 |false=>
  obtain ⟨n1,h1⟩:=qCt c r
  refine ⟨n1+1,fun n hn=>?_⟩
  obtain ⟨m,rfl,hm⟩:=up1 hn
  have h1:=h1 m (by omega)
  dsimp only at h1
  simp only [qBj,qDo,qC,qE,qG,qH,qJ,qK,Option.bind_some,qF,qM,qN,h1]
  simp [ho,qCE]
 |true=>
  have h:=qIP ho
  have s1:=qN5 c
  have s2:=qME h.2
  have d1:(⟨#[36]⟩:ByteArray).size=1:=rfl
  have z1:(⟨#[36]⟩:ByteArray).size+(qDL c).size≤9223372036854775807:=by omega
  have z2:((⟨#[36]⟩:ByteArray)++qDL c).size+(⟨#[36]⟩:ByteArray).size≤9223372036854775807:=by rw [ByteArray.size_append];omega
  have z3:(((⟨#[36]⟩:ByteArray)++qDL c)++(⟨#[36]⟩:ByteArray)).size+(qHE r).size≤9223372036854775807:=by rw [ByteArray.size_append,ByteArray.size_append];omega
  have z4:((⟨#[36]⟩:ByteArray)++qDL c).size+(qHE r).size≤9223372036854775807:=by rw [ByteArray.size_append];omega
  have z5:(qDL c).size+(⟨#[36]⟩:ByteArray).size≤9223372036854775807:=by omega
  have z6:(qDL c++(⟨#[36]⟩:ByteArray)).size+(qHE r).size≤9223372036854775807:=by rw [ByteArray.size_append];omega
  have z7:(qDL c).size+(qHE r).size≤9223372036854775807:=by omega
  obtain ⟨n1,h1⟩:=qCt c r
  obtain ⟨n2,h2⟩:=qJa c
  obtain ⟨n3,h3⟩:=qLa r (by omega)
  refine ⟨n1+n2+n3+1,fun n hn=>?_⟩
  obtain ⟨m,rfl,hm⟩:=up1 hn
  have h1:=h1 m (by omega)
  dsimp only at h1
  have h2:=h2 m (by omega)
  dsimp only at h2
  have h3:=h3 m (by omega)
  dsimp only at h3
  simp only [qBj,qDo,qC,qE,qG,qH,qJ,qK,Option.bind_some,qF,qM,qN,h1,h2,h3]
  simp only [ho,decide_eq_true z1,decide_eq_true z2,decide_eq_true z3,decide_eq_true z4,decide_eq_true z5,decide_eq_true z6,decide_eq_true z7,if_true,Bool.not_true,Bool.false_eq_true,if_false]
  cases fc<;>cases fr<;>simp only [if_true,if_false,Bool.false_eq_true,Option.some.injEq]<;>apply qHW<;>simp [qCE,ho,qDg]
theorem qDU (c r:Int) (fc fr:Bool):Ev (qA7 · c r fc fr) (qCE c r fc fr):=by
 cases ho:qBI c r with
 |false=>
  obtain ⟨n1,h1⟩:=qDO c r
  refine ⟨n1+1,fun n hn=>?_⟩
  obtain ⟨m,rfl,hm⟩:=up1 hn
  have h1:=h1 m (by omega)
  dsimp only at h1
  simp only [qA7,qDp,qC,qE,qG,qH,qJ,qK,Option.bind_some,qF,qM,qN,h1]
  simp [ho,qCE]
 |true=>
  have h:=qIP ho
  have s1:=qN5 c
  have s2:=qME h.2
  have d1:(⟨#[36]⟩:ByteArray).size=1:=rfl
  have d0:(⟨#[]⟩:ByteArray).size=0:=rfl
  have z1:(⟨#[36]⟩:ByteArray).size+(qDL c).size≤9223372036854775807:=by omega
  have z2:((⟨#[36]⟩:ByteArray)++qDL c).size+(⟨#[36]⟩:ByteArray).size≤9223372036854775807:=by rw [ByteArray.size_append];omega
  have z3:(((⟨#[36]⟩:ByteArray)++qDL c)++(⟨#[36]⟩:ByteArray)).size+(qHE r).size≤9223372036854775807:=by rw [ByteArray.size_append,ByteArray.size_append];omega
  have z4:((⟨#[36]⟩:ByteArray)++qDL c).size+(qHE r).size≤9223372036854775807:=by rw [ByteArray.size_append];omega
  have y1:(⟨#[]⟩:ByteArray).size+(qDL c).size≤9223372036854775807:=by omega
  have y2:((⟨#[]⟩:ByteArray)++qDL c).size+(⟨#[36]⟩:ByteArray).size≤9223372036854775807:=by rw [ByteArray.size_append];omega
  have y3:(((⟨#[]⟩:ByteArray)++qDL c)++(⟨#[36]⟩:ByteArray)).size+(qHE r).size≤9223372036854775807:=by rw [ByteArray.size_append,ByteArray.size_append];omega
  have y4:((⟨#[]⟩:ByteArray)++qDL c).size+(qHE r).size≤9223372036854775807:=by rw [ByteArray.size_append];omega
  obtain ⟨n1,h1⟩:=qDO c r
  obtain ⟨n2,h2⟩:=qJZ c
  obtain ⟨n3,h3⟩:=qF6 r (by omega)
  refine ⟨n1+n2+n3+1,fun n hn=>?_⟩
  obtain ⟨m,rfl,hm⟩:=up1 hn
  have h1:=h1 m (by omega)
  dsimp only at h1
  have h2:=h2 m (by omega)
  dsimp only at h2
  have h3:=h3 m (by omega)
  dsimp only at h3
  simp only [qA7,qDp,qC,qE,qG,qH,qJ,qK,Option.bind_some,qF,qM,qN,h1,h2,h3]
  simp only [ho,decide_eq_true z1,decide_eq_true z2,decide_eq_true z3,decide_eq_true z4,decide_eq_true y1,decide_eq_true y2,decide_eq_true y3,decide_eq_true y4,if_true,Bool.not_true,Bool.false_eq_true,if_false]
  cases fc<;>cases fr<;>simp only [if_true,if_false,Bool.false_eq_true,Option.some.injEq]<;>apply qHW<;>simp [qCE,ho,qDg]
theorem qQG (n:Nat) (s:ByteArray):∀(r pre:List UInt8) (acc M:Nat),s.toList=pre++r→acc<10^pre.length→pre.length+r.length≤17→r.length+1≤M→
  zD (qBe n) M (s,(acc:Int),(pre.length:Int))=some (if r.all qA9=true then .inr ((qAe acc r:Nat):Int) else .inl (0,false))
 |r,pre,acc,0,h1,h2,h3,h4=>by omega
 | [],pre,acc,M+1,h1,h2,h3,h4=>by
  have hs:s.size=pre.length:=by rw [←qAT,h1];simp
  rw [qP (r:= .inr (acc:Int)) (by simp [qBe,qC,qE,qG,qH,qJ,qK,Option.bind_some,qF,qM,qN,hs])]
  simp [qG3]
 |c::r,pre,acc,M+1,h1,h2,h3,h4=>by
  have hs:s.size=pre.length+(r.length+1):=by rw [←qAT,h1];simp
  have hi:(pre.length:Int)<s.size:=by omega
  have hg:s.toList[pre.length]?=some c:=by rw [h1];simp
  simp only [List.length_cons] at h3 h4
  by_cases c1:(c.toNat:Int)<48
  ·rw [qP (r:= .inl (0,false)) (by simp [qBe,qC,qE,qG,qH,qJ,qK,Option.bind_some,qF,qM,qN,hi,hg,c1])]
   have:qA9 c=false:=by simp [qA9];omega
   simp [this]
  ·by_cases c2:(c.toNat:Int)>57
   ·rw [qP (r:= .inl (0,false)) (by simp [qBe,qC,qE,qG,qH,qJ,qK,Option.bind_some,qF,qM,qN,hi,hg,c1,c2])]
    have:qA9 c=false:=by simp [qA9];omega
    simp [this]
   ·have hc:qA9 c=true:=by simp [qA9];omega
    have hp:10^pre.length≤10^16:=Nat.pow_le_pow_right (by decide) (by omega)
    have p16:(10:Nat)^16=10000000000000000:=by decide
    have w1:IntKind.i64.wrap ((acc:Int)*10)=(acc:Int)*10:=qT (by omega)
    have w2:IntKind.u8.wrap ((c.toNat:Int)-48)=((c.toNat-48:Nat):Int):=by rw [qR2 (by omega)];omega
    have w3:IntKind.i64.wrap ((c.toNat-48:Nat):Int)=((c.toNat-48:Nat):Int):=qT (by omega)
    have w4:IntKind.i64.wrap ((acc:Int)*10+((c.toNat-48:Nat):Int))=((acc*10+(c.toNat-48):Nat):Int):=by rw [qT (by omega)];omega
    have w5:IntKind.i64.wrap ((pre.length:Int)+1)=(pre.length:Int)+1:=qT (by omega)
    have e0:((pre++ [c]).length:Int)=(pre.length:Int)+1:=by simp
    rw [qU (v':=(s,((acc*10+(c.toNat-48):Nat):Int),((pre++ [c]).length:Int))) (by
     rw [e0]
     simp [qBe,qC,qE,qG,qH,qJ,qK,Option.bind_some,qF,qM,qN,hi,hg,c1,c2,w1,w2,w3,w4,w5])]
    rw [qQG n s r (pre++ [c]) (acc*10+(c.toNat-48)) M (by rw [h1];simp) (by rw [List.length_append,List.length_singleton,Nat.pow_succ];omega) (by simp;omega) (by omega)]
    simp [hc,qDt]
theorem qD8 (s:ByteArray) (most:Int) (hm:most≤16):Ev (qu · s most) (l1I s.toList most):=by
 have hsz:s.size=s.toList.length:=(qAT s).symm
 by_cases h0:s.toList= []
 ·have hz:s.size=0:=by rw [hsz,h0];rfl
  refine ⟨1,fun n hn=>?_⟩
  obtain ⟨m,rfl,hm⟩:=up1 hn
  simp only [qu,qEk,qC,qE,qG,qH,qJ,qK,Option.bind_some,qF,qM,qN]
  simp [hz,h0,l1I,qGI]
 ·obtain ⟨c,r,hcr⟩:∃c r,s.toList=c::r:=by
   cases hq:s.toList with
   |nil=>exact absurd hq h0
   |cons a b=>exact ⟨a,b,rfl⟩
  have hl:s.size=r.length+1:=by rw [hsz,hcr];rfl
  have z1:¬(s.size:Int)<1:=by omega
  by_cases h1:(s.size:Int)>most
  ·refine ⟨1,fun n hn=>?_⟩
   obtain ⟨m,rfl,hm⟩:=up1 hn
   simp only [qu,qEk,qC,qE,qG,qH,qJ,qK,Option.bind_some,qF,qM,qN]
   have:¬((s.toList.length:Int)≤most):=by rw [←hsz];omega
   simp [z1,h1,l1I,this]
  ·have hle:(s.toList.length:Int)≤most:=by rw [←hsz];omega
   refine ⟨30,fun n hn=>?_⟩
   obtain ⟨m,rfl,hm'⟩:=up1 hn
   have hg:s.toList[0]?=some c:=by rw [hcr];rfl
   have lp:=qQG m s s.toList [] 0 m rfl (by decide) (by simp;omega) (by omega)
   simp only [List.length_nil,Int.natCast_zero] at lp
   have c48:((c.toNat:Int)==48)=(c==48):=by
    by_cases e:c=48
    ·subst e;rfl
    ·have:¬(c.toNat:Int)=48:=fun h=>e (UInt8.toNat_inj.1 (by show c.toNat=48;omega))
     rw [beq_eq_false_iff_ne.2 this,beq_eq_false_iff_ne.2 e]
   simp only [qu,qEk,qC,qE,qG,qH,qJ,qK,Option.bind_some,qF,qM,qN,lp,Int.toNat_zero,hg,c48]
   rw [if_neg (by simpa using z1),if_neg (by simpa using h1),if_pos (by simp)]
   have ne:(s.toList== [])=false:=by simpa using h0
   have hd:s.toList.head?=some c:=by rw [hcr];rfl
   by_cases hc:c=48
   ·subst hc
    by_cases h2:(s.size:Int)>1
    ·have:¬s.toList.length=1:=by omega
     simp [h2,l1I,qGI,hd,this]
    ·have:s.toList.length=1:=by omega
     cases hall:s.toList.all qA9<;>simp [h2,l1I,qGI,hd,this,hall,ne,hle,qC,qE,qG,qH,qJ,qK,Option.bind_some,qF,qM,qN]
     ·omega
   ·have:(some c==some 48)=false:=by simpa using hc
    cases hall:s.toList.all qA9<;>simp [hc,l1I,qGI,hd,this,hall,ne,hle,qC,qE,qG,qH,qJ,qK,Option.bind_some,qF,qM,qN]
theorem qOW (s:ByteArray) (h:s.size≤281474976710656):Ev (qAy · s 10 64) (.inl (qBs s))∨Ev (qAy · s 10 64) (.inr (qBs s)):=by
 have key:∃r,zL s 10 64=some r:=by
  unfold zL
  rw [if_pos ⟨rfl,rfl,h⟩]
  split<;>exact ⟨_,rfl⟩
 obtain ⟨r,hr⟩:=key
 have e:Ev (qAy · s 10 64) r:=⟨1,fun n hn=>by
  obtain ⟨m,rfl,hm⟩:=up1 hn
  exact hr⟩
 rcases r with v|v
 ·exact .inl (by unfold qBs;rw [hr];exact e)
 ·exact .inr (by unfold qBs;rw [hr];exact e)
theorem qGP (s:ByteArray) (c:UInt8):Ev (qAH · s ⟨#[c]⟩) (if s.toList.head?=some c then (⟨s.toList.tail.toArray⟩,true) else (s,false)):=by
 refine ⟨1,fun n hn=>?_⟩
 obtain ⟨m,rfl,hm⟩:=up1 hn
 show zY s ⟨#[c]⟩=_
 unfold zY Lib.trimPrefix Lib.hasPrefix
 rw [←Go.Lib.toList_data s]
 have es:(⟨s.toList.toArray⟩:ByteArray)=s:=qHW (by rw [←Go.Lib.toList_data s])
 generalize s.toList=l at*
 cases l with
 |nil=>simp [es]
 |cons a r=>
  by_cases h:a=c
  ·subst h;simp
  ·have:¬c=a:=fun e=>h e.symm
   simp [h,this,es,List.isPrefixOf]
theorem qR7 (s:ByteArray) (c:UInt8):Ev (qm · s ⟨#[c]⟩) (s.toList.head?==some c):=by
 refine ⟨2,fun n hn=>?_⟩
 obtain ⟨m,rfl,hm⟩:=up1 hn
 obtain ⟨m,rfl,hm⟩:=up1 hm
 have z:(⟨#[c]⟩:ByteArray).size=1:=rfl
 have tc:(⟨#[c]⟩:ByteArray).toList= [c]:=by rw [Go.Lib.toList_data]
 have hsz:s.size=s.toList.length:=(qAT s).symm
 simp only [qm,qB8,qAB,qAv,qC,qE,qG,qH,qJ,qK,Option.bind_some,qF,qM,qN,z,tc]
 cases hq:s.toList with
 |nil=>
  have:s.size=0:=by rw [hsz,hq];rfl
  simp [this]
 |cons a r=>
  have h1:(1:Int)≤s.size:=by rw [hsz,hq];simp;omega
  have e:(s.extract 0 1).toList= [a]:=by
   rw [Go.Lib.toList_data,ByteArray.data_extract,Array.toList_extract]
   rw [Go.Lib.toList_data] at hq
   simp [hq]
  have h2:1≤s.size:=by omega
  simp [h1,h2,e]
theorem qR8 (n:Nat) (s:ByteArray) (a b:Int) (c:ByteArray) (i:Int) (v:V3) (hi:1≤i∧i≤5) (h1:qAf n i=some (qe i)) (h2:qBv n i=some (4,i,em)):
  (qBC n (s,i,a,b,c,v.1,v.2.1,v.2.2)).run=some (.inl (s,i+1,a,b,c,if (qe i).toList=s.toList then (4,i,em) else v)):=by
 have w1:IntKind.i64.wrap (i+1)=i+1:=qT (by omega)
 simp only [qBC,qC,qE,qG,qH,qJ,qK,Option.bind_some,qF,qM,qN,h1,h2,w1]
 rw [if_pos (decide_eq_true hi.2)]
 by_cases h:(qe i).toList=s.toList<;>simp [h]
def qMF (s:ByteArray):Nat→Int→V3→V3
 |0,_,v=>v
 |k+1,i,v=>qMF s k (i+1) (if (qe i).toList=s.toList then (4,i,em) else v)
theorem qT6 (s:ByteArray):qMF s 5 1 (0,0,em)=if qEW s=0 then (0,0,em) else (4,qEW s,em):=by
 have a2:(1:Int)+1=2:=by decide
 have a3:(2:Int)+1=3:=by decide
 have a4:(3:Int)+1=4:=by decide
 have a5:(4:Int)+1=5:=by decide
 simp only [qMF,qEW,a2,a3,a4,a5]
 by_cases h5:(qe 5).toList=s.toList
 ·simp [h5]
 by_cases h4:(qe 4).toList=s.toList
 ·simp [h5,h4]
 by_cases h3:(qe 3).toList=s.toList
 ·simp [h5,h4,h3]
 by_cases h2:(qe 2).toList=s.toList
 ·simp [h5,h4,h3,h2]
 by_cases h1:(qe 1).toList=s.toList<;>simp [h5,h4,h3,h2,h1]
theorem qMw (n:Nat) (s:ByteArray) (a b:Int) (c:ByteArray) (h1:∀i,0≤i∧i≤5→qAf n i=some (qe i)) (h2:∀i,1≤i∧i≤5→qBv n i=some (4,i,em)):
  ∀(k:Nat) (i:Int) (v:V3) (M:Nat),i+k=6→1≤i→k+1≤M→zD (qBC n) M (s,i,a,b,c,v.1,v.2.1,v.2.2)=some (s,a,b,c,(qMF s k i v).1,(qMF s k i v).2.1,(qMF s k i v).2.2)
 |k,i,v,0,e,h,hM=>by omega
 |0,i,v,M+1,e,h,hM=>by
  have hi:¬i≤5:=by omega
  rw [qP (r:=(s,a,b,c,v.1,v.2.1,v.2.2)) (by simp [qBC,qC,qE,qG,qH,qJ,qK,Option.bind_some,qF,qM,qN,hi])]
  rfl
 |k+1,i,v,M+1,e,h,hM=>by
  rw [qU (qR8 n s a b c i v (by omega) (h1 i (by omega)) (h2 i (by omega)))]
  exact qMw n s a b c h1 h2 k (i+1) _ M (by omega) (by omega) (by omega)
theorem qRQ:okV 0 0 em=true:=by simp [okV,em,qAE]
theorem qOX:qCB 0 0 em=⟨#[]⟩:=rfl
theorem qGQ {R:Type} {F:Nat→Int→Option R} {f:Int→R} {lo:Int} (h0:0≤lo) (h:∀i,lo≤i∧i≤5→Ev (F · i) (f i)):∃n0,∀n,n0≤n→∀i,lo≤i∧i≤5→F n i=some (f i):=by
 obtain ⟨n0,h1⟩:=qAl (F:=fun i n=>if lo≤i∧i≤5 then F n i else some (f i)) (f:=f) [0,1,2,3,4,5] (fun i _=>by
  by_cases hi:lo≤i∧i≤5
  ·obtain ⟨n0,h1⟩:=h i hi
   exact ⟨n0,fun n hn=>by simp only [if_pos hi];exact h1 n hn⟩
  ·exact ⟨0,fun n _=>by simp only [if_neg hi]⟩)
 refine ⟨n0,fun n hn i hi=>?_⟩
 have:=h1 n hn i (by
  have c:i=0∨i=1∨i=2∨i=3∨i=4∨i=5:=by omega
  rcases c with rfl|rfl|rfl|rfl|rfl|rfl<;>simp)
 simp only [if_pos hi] at this
 exact this
theorem qHY (s:ByteArray) (hb:s.size≤1048576):Ev (qd · s) (qh s):=by
 have te:(⟨#[]⟩:ByteArray).toList= []:=qAE
 have tF:(⟨#[70,65,76,83,69]⟩:ByteArray).toList= [70,65,76,83,69]:=by rw [Go.Lib.toList_data]
 have tT:(⟨#[84,82,85,69]⟩:ByteArray).toList= [84,82,85,69]:=by rw [Go.Lib.toList_data]
 have fin:∀k x (t:ByteArray),qBJ s=(k,x,t)→t.size≤140737488351232→∃n0,∀n,n0≤n→qAR n k x t=some (okV k x t)∧(okV k x t=true→qq n k x t=some (qCB k x t)):=fun k x t _ ht=>by
  obtain ⟨n1,h1⟩:=qF4 k x t ht
  by_cases ho:okV k x t=true
  ·obtain ⟨n2,h2⟩:=qHX k x t ho
   exact ⟨n1+n2,fun n hn=>⟨h1 n (by omega),fun _=>h2 n (by omega)⟩⟩
  ·exact ⟨n1,fun n hn=>⟨h1 n hn,fun h=>absurd h ho⟩⟩
 have rd:∀k x (t:ByteArray),qBJ s=(k,x,t)→qh s=if okV k x t=true∧(qCB k x t).toList=s.toList then (k,x,t,true) else (0,0,⟨#[]⟩,false):=fun k x t h=>by unfold qh;rw [h]
 by_cases h39:s.toList.head?=some 39
 ·have hc:qBJ s=(2,0,⟨s.toList.tail.toArray⟩):=by unfold qBJ;rw [if_pos h39]
  have hsz:(⟨s.toList.tail.toArray⟩:ByteArray).size≤140737488351232:=by rw [qCw];simp only [List.length_tail];rw [qAT];omega
  obtain ⟨n0,hf⟩:=fin _ _ _ hc hsz
  rw [rd _ _ _ hc]
  obtain ⟨n1,h1⟩:=qGP s 39
  refine ⟨n0+n1+1,fun n hn=>?_⟩
  obtain ⟨m,rfl,hm⟩:=up1 hn
  have h1:=h1 m (by omega)
  obtain ⟨g1,g2⟩:=hf m (by omega)
  dsimp only at h1
  simp only [qd,qBQ,qC,qE,qG,qH,qJ,qK,Option.bind_some,qF,qM,qN,h1,if_pos h39,g1]
  cases ho:okV 2 0 (⟨s.toList.tail.toArray⟩:ByteArray) with
  |false=>simp
  |true=>
   simp only [g2 ho]
   by_cases e:(qCB 2 0 (⟨s.toList.tail.toArray⟩:ByteArray)).toList=s.toList<;>simp [e]
 ·have cut:=qGP s 39
  rw [if_neg h39] at cut
  by_cases hF:s.toList= [70,65,76,83,69]
  ·have hc:qBJ s=(3,0,em):=by unfold qBJ;rw [if_neg h39,if_pos hF]
   have hT:¬s.toList= [84,82,85,69]:=by rw [hF];decide
   obtain ⟨n0,hf⟩:=fin _ _ _ hc (by decide)
   rw [rd _ _ _ hc]
   obtain ⟨n1,h1⟩:=cut
   obtain ⟨n2,h2⟩:=qLZ false
   refine ⟨n0+n1+n2+1,fun n hn=>?_⟩
   obtain ⟨m,rfl,hm⟩:=up1 hn
   have h1:=h1 m (by omega)
   have h2:=h2 m (by omega)
   obtain ⟨g1,g2⟩:=hf m (by omega)
   dsimp only at h1 h2
   simp only [Bool.false_eq_true,if_false] at h2
   have bT:(s.toList== [84,82,85,69])=false:=by simpa using hT
   have bF:(s.toList== [70,65,76,83,69])=true:=by simpa using hF
   simp only [qd,qBQ,qC,qE,qG,qH,qJ,qK,Option.bind_some,qF,qM,qN,h1,tF,tT,bT,bF,h2,g1]
   cases ho:okV 3 0 em with
   |false=>simp
   |true=>
    simp only [g2 ho]
    by_cases e:(qCB 3 0 em).toList=s.toList<;>simp [e]
  ·by_cases hT:s.toList= [84,82,85,69]
   ·have hc:qBJ s=(3,1,em):=by unfold qBJ;rw [if_neg h39,if_neg hF,if_pos hT]
    obtain ⟨n0,hf⟩:=fin _ _ _ hc (by decide)
    rw [rd _ _ _ hc]
    obtain ⟨n1,h1⟩:=cut
    obtain ⟨n2,h2⟩:=qLZ true
    refine ⟨n0+n1+n2+1,fun n hn=>?_⟩
    obtain ⟨m,rfl,hm⟩:=up1 hn
    have h1:=h1 m (by omega)
    have h2:=h2 m (by omega)
    obtain ⟨g1,g2⟩:=hf m (by omega)
    dsimp only at h1 h2
    simp only [if_true] at h2
    have bT:(s.toList== [84,82,85,69])=true:=by simpa using hT
    have bF:(s.toList== [70,65,76,83,69])=false:=by simpa using hF
    simp only [qd,qBQ,qC,qE,qG,qH,qJ,qK,Option.bind_some,qF,qM,qN,h1,tF,tT,bT,bF,h2,g1]
    cases ho:okV 3 1 em with
    |false=>simp
    |true=>
     simp only [g2 ho]
     by_cases e:(qCB 3 1 em).toList=s.toList<;>simp [e]
   ·have bT:(s.toList== [84,82,85,69])=false:=by simpa using hT
    have bF:(s.toList== [70,65,76,83,69])=false:=by simpa using hF
    have pre:=qR7 s 35
    by_cases h35:s.toList.head?=some 35
    ·have hc:qBJ s=(if qEW s=0 then (0,0,em) else (4,qEW s,em)):=by unfold qBJ;rw [if_neg h39,if_neg hF,if_neg hT,if_pos h35]
     have main:∀k x (t:ByteArray),qBJ s=(k,x,t)→qMF s 5 1 (0,0,em)=(k,x,t)→t.size≤140737488351232→Ev (qd · s) (qh s):=fun k x t hc hu ht=>by
      obtain ⟨n0,hf⟩:=fin _ _ _ hc ht
      rw [rd _ _ _ hc]
      obtain ⟨n1,h1⟩:=cut
      obtain ⟨n2,h2⟩:=pre
      obtain ⟨n3,h3⟩:=qGQ (F:=qAf) (f:=qe) (lo:=0) (by decide) qE5
      obtain ⟨n4,h4⟩:=qGQ (F:=qBv) (f:=fun i=>(4,i,em)) (lo:=1) (by decide) (fun i _=>qLY i)
      refine ⟨n0+n1+n2+n3+n4+10,fun n hn=>?_⟩
      obtain ⟨m,rfl,hm⟩:=up1 hn
      have h1:=h1 m (by omega)
      have h2:=h2 m (by omega)
      have lp:=qMw m s 0 0 ⟨#[]⟩ (h3 m (by omega)) (h4 m (by omega)) 5 1 (0,0,em) m (by decide) (by decide) (by omega)
      rw [hu] at lp
      obtain ⟨g1,g2⟩:=hf m (by omega)
      dsimp only [em] at h1 h2 lp g1 g2
      have b35:(s.toList.head?==some 35)=true:=by simpa using h35
      simp only [qd,qBQ,qC,qE,qG,qH,qJ,qK,Option.bind_some,qF,qM,qN,h1,tF,tT,bT,bF,h2,b35,lp,g1]
      cases ho:okV k x t with
      |false=>simp
      |true=>
       simp only [g2 ho]
       by_cases e:(qCB k x t).toList=s.toList<;>simp [e]
     by_cases hz:qEW s=0
     ·rw [if_pos hz] at hc
      exact main _ _ _ hc (by rw [qT6,if_pos hz]) (show (0:Nat)≤140737488351232 by decide)
     ·rw [if_neg hz] at hc
      exact main _ _ _ hc (by rw [qT6,if_neg hz]) (show (0:Nat)≤140737488351232 by decide)
    ·have b35:(s.toList.head?==some 35)=false:=by simpa using h35
     by_cases h0:s.toList= []
     ·have hc:qBJ s=(0,0,em):=by unfold qBJ;rw [if_neg h39,if_neg hF,if_neg hT,if_neg h35,if_pos h0]
      obtain ⟨n0,hf⟩:=fin _ _ _ hc (by decide)
      rw [rd _ _ _ hc]
      obtain ⟨n1,h1⟩:=cut
      obtain ⟨n2,h2⟩:=pre
      refine ⟨n0+n1+n2+1,fun n hn=>?_⟩
      obtain ⟨m,rfl,hm⟩:=up1 hn
      have h1:=h1 m (by omega)
      have h2:=h2 m (by omega)
      obtain ⟨g1,g2⟩:=hf m (by omega)
      dsimp only [em] at h1 h2 g1 g2
      have b0:(!(s.toList== []))=false:=by simpa using h0
      simp only [qd,qBQ,qC,qE,qG,qH,qJ,qK,Option.bind_some,qF,qM,qN,h1,tF,tT,bT,bF,h2,b35,te,b0,g1]
      have ho:=qRQ
      dsimp only [em] at ho
      simp only [g2 ho,ho]
      by_cases e:(qCB 0 0 (⟨#[]⟩:ByteArray)).toList=s.toList<;>simp [em,ho,e]
     ·have hc:qBJ s=(1,qBs s,em):=by unfold qBJ;rw [if_neg h39,if_neg hF,if_neg hT,if_neg h35,if_neg h0]
      obtain ⟨n0,hf⟩:=fin _ _ _ hc (by decide)
      rw [rd _ _ _ hc]
      obtain ⟨n1,h1⟩:=cut
      obtain ⟨n2,h2⟩:=pre
      obtain ⟨n4,h4⟩:=qKU (qBs s)
      have b0:(!(s.toList== []))=true:=by simpa using h0
      rcases qOW s (by omega) with ⟨n3,h3⟩|⟨n3,h3⟩
      all_goals
       refine ⟨n0+n1+n2+n3+n4+1,fun n hn=>?_⟩
       obtain ⟨m,rfl,hm⟩:=up1 hn
       have h1:=h1 m (by omega)
       have h2:=h2 m (by omega)
       have h3:=h3 m (by omega)
       have h4:=h4 m (by omega)
       obtain ⟨g1,g2⟩:=hf m (by omega)
       dsimp only at h1 h2 h3 h4
       simp only [qd,qBQ,qC,qE,qG,qH,qJ,qK,Option.bind_some,qF,qM,qN,h1,tF,tT,bT,bF,h2,b35,te,b0,h3,h4,g1]
       cases ho:okV 1 (qBs s) em with
       |false=>simp
       |true=>
        simp only [g2 ho]
        by_cases e:(qCB 1 (qBs s) em).toList=s.toList<;>simp [e]
theorem qMx (n:Nat) (s:ByteArray) (a b:Int) (c:ByteArray) (h1:∀i,0≤i∧i≤5→qBS n i=some (qe i)):
  ∀(k:Nat) (i x:Int) (M:Nat),i+k=6→1≤i→k+1≤M→(qMF s k i (4,x,em)).1=4∧(qMF s k i (4,x,em)).2.2=em∧zD (qBW n) M (s,i,a,b,c,4,x,⟨#[]⟩)=some (a,b,c,4,(qMF s k i (4,x,em)).2.1,⟨#[]⟩)
 |k,i,x,0,e,h,hM=>by omega
 |0,i,x,M+1,e,h,hM=>by
  have hi:¬i≤5:=by omega
  refine ⟨rfl,rfl,?_⟩
  rw [qP (r:=(a,b,c,4,x,⟨#[]⟩)) (by simp [qBW,qC,qE,qG,qH,qJ,qK,Option.bind_some,qF,qM,qN,hi])]
  rfl
 |k+1,i,x,M+1,e,h,hM=>by
  have hi:i≤5:=by omega
  have g:=h1 i (by omega)
  have w1:IntKind.i64.wrap (i+1)=i+1:=qT (by omega)
  have hu:qMF s (k+1) i (4,x,em)=qMF s k (i+1) (4,if (qe i).toList=s.toList then i else x,em):=by
   simp only [qMF]
   split<;>rfl
  rw [hu,qU (v':=(s,i+1,a,b,c,4,(if (qe i).toList=s.toList then i else x),⟨#[]⟩)) (by
   simp only [qBW,qC,qE,qG,qH,qJ,qK,Option.bind_some,qF,qM,qN,g,w1]
   rw [if_pos (decide_eq_true hi)]
   by_cases hq:(qe i).toList=s.toList<;>simp [hq])]
  exact qMx n s a b c h1 k (i+1) _ M (by omega) (by omega) (by omega)
theorem qUh (s:ByteArray):qMF s 5 1 (4,0,em)=(4,qEW s,em):=by
 have a2:(1:Int)+1=2:=by decide
 have a3:(2:Int)+1=3:=by decide
 have a4:(3:Int)+1=4:=by decide
 have a5:(4:Int)+1=5:=by decide
 simp only [qMF,qEW,a2,a3,a4,a5]
 by_cases h5:(qe 5).toList=s.toList
 ·simp [h5]
 by_cases h4:(qe 4).toList=s.toList
 ·simp [h5,h4]
 by_cases h3:(qe 3).toList=s.toList
 ·simp [h5,h4,h3]
 by_cases h2:(qe 2).toList=s.toList
 ·simp [h5,h4,h3,h2]
 by_cases h1:(qe 1).toList=s.toList<;>simp [h5,h4,h3,h2,h1]
theorem qVX (s:ByteArray):(s.extract (1:Int).toNat ((s.size:Int)).toNat).toList=s.toList.tail:=by
 have e1:(1:Int).toNat=1:=rfl
 rw [Int.toNat_natCast,e1,Go.Lib.toList_data,ByteArray.data_extract,Array.toList_extract,Go.Lib.toList_data]
 have hl:s.data.toList.length=s.size:=by rw [←qCw]
 show (s.data.toList.drop 1).take (s.size-1)=s.data.toList.tail
 rw [List.take_of_length_le (by rw [List.length_drop,hl];exact Nat.le_refl _),List.drop_one]
theorem qT7 {s:ByteArray} {c:UInt8} {r:List UInt8} (h:s.toList=c::r):s.toList[((0:Int)).toNat]?=some c:=by rw [h];rfl
theorem qTT {x:Int}:okV 1 x em=decide (-1000000000000000≤x∧x≤1000000000000000):=by
 simp [okV,em,qAE]
theorem qTr {s:ByteArray} (h39:¬s.toList.head?=some 39) (hF:¬s.toList= [70,65,76,83,69]) (hT:¬s.toList= [84,82,85,69]) (h35:¬s.toList.head?=some 35) (h0:¬s.toList= []):
  qh s=match qR5 s.toList with
   |some x=>if okV 1 x em=true then (1,x,em,true) else (0,0,⟨#[]⟩,false)
   |none=>(0,0,⟨#[]⟩,false):=by
 have hc:qBJ s=(1,qBs s,em):=by unfold qBJ;rw [if_neg h39,if_neg hF,if_neg hT,if_neg h35,if_neg h0]
 have rd:qh s=if okV 1 (qBs s) em=true∧(qCB 1 (qBs s) em).toList=s.toList then (1,qBs s,em,true) else (0,0,⟨#[]⟩,false):=by unfold qh;rw [hc]
 have tx:∀x,(qCB 1 x em).toList=Lib.itoa x:=fun x=>by
  rw [Go.Lib.toList_data];simp [qCB,qHE]
 have back:okV 1 (qBs s) em=true∧(qCB 1 (qBs s) em).toList=s.toList→qR5 s.toList=some (qBs s):=fun ⟨a,b⟩=>by
  rw [tx] at b
  rw [qTT] at a
  rw [←b]
  exact qTq (by simpa using a)
 rw [rd]
 cases hn:qR5 s.toList with
 |none=>
  rw [if_neg (fun h=>by rw [back h] at hn;cases hn)]
 |some x=>
  by_cases hx:okV 1 x em=true
  ·have hi:=qTp hn
   have hr: -1000000000000000≤x∧x≤1000000000000000:=by rw [qTT] at hx;simpa using hx
   have hp:=qOV hi hr
   dsimp only
   rw [hp,if_pos ⟨hx,by rw [tx,hi]⟩,if_pos hx]
  ·dsimp only
   rw [if_neg hx,if_neg (fun h=>by
    have:=back h
    rw [hn] at this
    cases this
    exact hx h.1)]
theorem qTs (s:ByteArray) {c:UInt8} {r:List UInt8} (hcr:s.toList=c::r):qR5 s.toList=if c=45 then (if (l1I s.toList.tail 16).2=true∧(l1I s.toList.tail 16).1≠0 then some (-(l1I s.toList.tail 16).1) else none) else (if (l1I s.toList 16).2=true then some (l1I s.toList 16).1 else none):=by
 unfold qR5
 rw [hcr]
 simp only [List.head?_cons,Option.some.injEq,List.drop_one]
theorem qHZ (s:ByteArray) (hb:s.size≤1048576):Ev (qAI · s) (qh s):=by
 have te:(⟨#[]⟩:ByteArray).toList= []:=qAE
 have tF:(⟨#[70,65,76,83,69]⟩:ByteArray).toList= [70,65,76,83,69]:=by rw [Go.Lib.toList_data]
 have tT:(⟨#[84,82,85,69]⟩:ByteArray).toList= [84,82,85,69]:=by rw [Go.Lib.toList_data]
 have hsz:s.size=s.toList.length:=(qAT s).symm
 by_cases h0:s.toList= []
 ·have hv:qh s=(0,0,⟨#[]⟩,true):=by
   have hc:qBJ s=(0,0,em):=by unfold qBJ;rw [h0];simp
   unfold qh
   rw [hc,if_pos ⟨qRQ,by rw [qOX,h0];exact te⟩]
   rfl
  rw [hv]
  refine ⟨1,fun n hn=>?_⟩
  obtain ⟨m,rfl,hm⟩:=up1 hn
  simp only [qAI,qA3,qC,qE,qG,qH,qJ,qK,Option.bind_some,qF,qM,qN]
  simp [h0,te]
 ·obtain ⟨c,r,hcr⟩:∃c r,s.toList=c::r:=by
   cases hq:s.toList with
   |nil=>exact absurd hq h0
   |cons a b=>exact ⟨a,b,rfl⟩
  have hg:=qT7 hcr
  have hd:s.toList.head?=some c:=by rw [hcr];rfl
  have b0:(s.toList== [])=false:=by simpa using h0
  have s1:(1:Int)≤(s.size:Int):=by rw [hsz,hcr];simp;omega
  have k39:=qUg c 39 (by decide)
  have k35:=qUg c 35 (by decide)
  have k45:=qUg c 45 (by decide)
  have u39:UInt8.ofNat 39=39:=rfl
  have u35:UInt8.ofNat 35=35:=rfl
  have u45:UInt8.ofNat 45=45:=rfl
  rw [u39] at k39
  rw [u35] at k35
  rw [u45] at k45
  have q39:((39:Nat):Int)=39:=rfl
  have q35:((35:Nat):Int)=35:=rfl
  have q45:((45:Nat):Int)=45:=rfl
  rw [q39] at k39
  rw [q35] at k35
  rw [q45] at k45
  by_cases h39:c=39
  ·have hx:(⟨s.toList.tail.toArray⟩:ByteArray)=s.extract (1:Int).toNat ((s.size:Int)).toNat:=qE4 (by rw [qVX];rw [Go.Lib.toList_data])
   have hc:qBJ s=(2,0,s.extract (1:Int).toNat ((s.size:Int)).toNat):=by unfold qBJ;rw [if_pos (by rw [hd,h39]),hx]
   have hz:(s.extract (1:Int).toNat ((s.size:Int)).toNat).size≤140737488351232:=by rw [←hx,qCw];simp only [List.length_tail];rw [qAT];omega
   have hvt:(qCB 2 0 (s.extract (1:Int).toNat ((s.size:Int)).toNat)).toList=s.toList:=by
    rw [←hx,Go.Lib.toList_data]
    show ((⟨#[39]⟩:ByteArray)++_).data.toList=_
    rw [qDg,hcr,h39]
    rfl
   have hv:qh s=if okV 2 0 (s.extract (1:Int).toNat ((s.size:Int)).toNat)=true then (2,0,s.extract (1:Int).toNat ((s.size:Int)).toNat,true) else (0,0,⟨#[]⟩,false):=by
    unfold qh
    rw [hc]
    simp only [hvt,and_true]
   rw [hv]
   have e39:(some c==some 39)=true:=by rw [h39];rfl
   obtain ⟨n1,h1⟩:=qAF 2 0 (s.extract (1:Int).toNat ((s.size:Int)).toNat) hz
   refine ⟨n1+1,fun n hn=>?_⟩
   obtain ⟨m,rfl,hm⟩:=up1 hn
   have h1:=h1 m (by omega)
   dsimp only at h1
   simp only [qAI,qA3,qC,qE,qG,qH,qJ,qK,Option.bind_some,qF,qM,qN,h1]
   simp only [qC,qE,qG,qH,qJ,qK,Option.bind_some,qF,qM,qN,te,b0,hg,k39,e39]
   cases ho:okV 2 0 (s.extract (1:Int).toNat ((s.size:Int)).toNat)<;>simp [s1]
  ·have n39:¬s.toList.head?=some 39:=by rw [hd];simpa using h39
   have e39:(some c==some 39)=false:=by simpa using h39
   by_cases hT:s.toList= [84,82,85,69]
   ·have hF:¬s.toList= [70,65,76,83,69]:=by rw [hT];decide
    have hc:qBJ s=(3,1,em):=by unfold qBJ;rw [if_neg n39,if_neg hF,if_pos hT]
    have ho:okV 3 1 em=true:=by simp [okV,em,qAE]
    have hv:qh s=(3,1,⟨#[]⟩,true):=by
     unfold qh
     rw [hc,if_pos ⟨ho,by rw [hT];exact tT⟩]
     rfl
    rw [hv]
    have bT:(s.toList== [84,82,85,69])=true:=by simpa using hT
    obtain ⟨n1,h1⟩:=qAF 3 1 ⟨#[]⟩ (by decide)
    refine ⟨n1+1,fun n hn=>?_⟩
    obtain ⟨m,rfl,hm⟩:=up1 hn
    have h1:=h1 m (by omega)
    dsimp only at h1
    simp only [qAI,qA3,qC,qE,qG,qH,qJ,qK,Option.bind_some,qF,qM,qN,h1]
    dsimp only [em] at ho
    simp only [qC,qE,qG,qH,qJ,qK,Option.bind_some,qF,qM,qN,te,b0,hg,k39,e39,tT,bT,ho]
    simp
   ·have bT:(s.toList== [84,82,85,69])=false:=by simpa using hT
    by_cases hF:s.toList= [70,65,76,83,69]
    ·have hc:qBJ s=(3,0,em):=by unfold qBJ;rw [if_neg n39,if_pos hF]
     have ho:okV 3 0 em=true:=by simp [okV,em,qAE]
     have hv:qh s=(3,0,⟨#[]⟩,true):=by
      unfold qh
      rw [hc,if_pos ⟨ho,by rw [hF];exact tF⟩]
      rfl
     rw [hv]
     have bF:(s.toList== [70,65,76,83,69])=true:=by simpa using hF
     obtain ⟨n1,h1⟩:=qAF 3 0 ⟨#[]⟩ (by decide)
     refine ⟨n1+1,fun n hn=>?_⟩
     obtain ⟨m,rfl,hm⟩:=up1 hn
     have h1:=h1 m (by omega)
     dsimp only at h1
     simp only [qAI,qA3,qC,qE,qG,qH,qJ,qK,Option.bind_some,qF,qM,qN,h1]
     dsimp only [em] at ho
     simp only [qC,qE,qG,qH,qJ,qK,Option.bind_some,qF,qM,qN,te,b0,hg,k39,e39,tT,bT,tF,bF,ho]
     simp
    ·have bF:(s.toList== [70,65,76,83,69])=false:=by simpa using hF
     by_cases h35:c=35
     ·have n35:s.toList.head?=some 35:=by rw [hd,h35]
      have e35:(some c==some 35)=true:=by rw [h35];rfl
      have hc:qBJ s=(if qEW s=0 then (0,0,em) else (4,qEW s,em)):=by unfold qBJ;rw [if_neg n39,if_neg hF,if_neg hT,if_pos n35]
      have hin:=qUe s
      have ho:okV 4 (qEW s) (⟨#[]⟩:ByteArray)=!(qEW s==0):=by
       by_cases hz:qEW s=0
       ·simp [okV,qAE,hz]
       ·have hr:1≤qEW s∧qEW s≤5:=by omega
        simp [okV,qAE,hr,hz]
      have hv:qh s=if qEW s=0 then (0,0,⟨#[]⟩,false) else (4,qEW s,⟨#[]⟩,true):=by
       unfold qh
       rw [hc]
       by_cases hz:qEW s=0
       ·simp only [if_pos hz]
        rw [if_neg (fun h=>h0 (by rw [←h.2,qOX];exact te))]
       ·simp only [if_neg hz]
        have ho':okV 4 (qEW s) em=true:=by show okV 4 (qEW s) ⟨#[]⟩=true;rw [ho];simpa using hz
        rw [if_pos ⟨ho',by show (qe (qEW s)).toList=s.toList;rw [qUf hz]⟩]
        rfl
      rw [hv]
      obtain ⟨n1,h1⟩:=qAF 4 (qEW s) ⟨#[]⟩ (by decide)
      obtain ⟨n3,h3⟩:=qGQ (F:=qBS) (f:=qe) (lo:=0) (by decide) qG4
      refine ⟨n1+n3+10,fun n hn=>?_⟩
      obtain ⟨m,rfl,hm⟩:=up1 hn
      have h1:=h1 m (by omega)
      dsimp only at h1
      obtain ⟨_,_,lp⟩:=qMx m s 0 0 ⟨#[]⟩ (h3 m (by omega)) 5 1 0 m (by decide) (by decide) (by omega)
      rw [qUh] at lp
      simp only [qAI,qA3,qC,qE,qG,qH,qJ,qK,Option.bind_some,qF,qM,qN,te,b0,hg,k39,e39,tT,bT,tF,bF,k35,e35,lp,h1,ho]
      by_cases hz:qEW s=0<;>simp [hz]
     ·have n35:¬s.toList.head?=some 35:=by rw [hd];simpa using h35
      have e35:(some c==some 35)=false:=by simpa using h35
      rw [qTr n39 hF hT n35 h0,qTs s hcr]
      dsimp only [em]
      by_cases h45:c=45
      ·have e45:(some c==some 45)=true:=by rw [h45];rfl
       have g16:∀{q:List UInt8},(l1I q 16).2=true→(0≤(l1I q 16).1∧(l1I q 16).1≤10000000000000000):=fun {q} hq=>by
        have p16:(10:Nat)^16=10000000000000000:=by decide
        obtain ⟨a1,a2,a3,a4⟩:=qQD hq
        rw [a3]
        simp only [qGI,Bool.and_eq_true] at a2
        have:=qR4 q 0 0 a2.1.2 (by decide)
        have h2:(10:Nat)^(0+q.length)≤10^16:=Nat.pow_le_pow_right (by decide) (by omega)
        omega
       have hl:=qD8 (s.extract (1:Int).toNat ((s.size:Int)).toNat) 16 (by decide)
       rw [qVX] at hl
       have hrange:= @g16 s.toList.tail
       generalize l1I s.toList.tail 16=q at*
       obtain ⟨x,ok⟩:=q
       have w1:ok=true→IntKind.i64.wrap (0-x)= -x:=fun h=>by
        have:=hrange h
        dsimp only at this
        rw [Int.zero_sub];exact qT (by omega)
       obtain ⟨n1,h1⟩:=hl
       obtain ⟨n2,h2⟩:=qAF 1 (-x) ⟨#[]⟩ (by decide)
       refine ⟨n1+n2+1,fun n hn=>?_⟩
       obtain ⟨m,rfl,hm⟩:=up1 hn
       have h1:=h1 m (by omega)
       dsimp only at h1
       have h2:=h2 m (by omega)
       dsimp only at h2
       simp only [qAI,qA3,qC,qE,qG,qH,qJ,qK,Option.bind_some,qF,qM,qN,h1,h2]
       simp only [qC,qE,qG,qH,qJ,qK,Option.bind_some,qF,qM,qN,te,b0,hg,k39,e39,tT,bT,tF,bF,k35,e35,k45,e45,h45,if_true]
       cases ok with
       |false=>simp [s1]
       |true=>
        simp only [qC,qE,qG,qH,qJ,qK,Option.bind_some,qF,qM,qN,w1 rfl,h2]
        by_cases hx:x=0
        ·simp [s1,hx]
        ·cases ho:okV 1 (-x) (⟨#[]⟩:ByteArray)<;>simp [s1,hx,ho]
      ·have e45:(some c==some 45)=false:=by simpa using h45
       have hl:=qD8 s 16 (by decide)
       generalize l1I s.toList 16=q at*
       obtain ⟨x,ok⟩:=q
       obtain ⟨n1,h1⟩:=hl
       obtain ⟨n2,h2⟩:=qAF 1 x ⟨#[]⟩ (by decide)
       refine ⟨n1+n2+1,fun n hn=>?_⟩
       obtain ⟨m,rfl,hm⟩:=up1 hn
       have h1:=h1 m (by omega)
       dsimp only at h1
       have h2:=h2 m (by omega)
       dsimp only at h2
       simp only [qAI,qA3,qC,qE,qG,qH,qJ,qK,Option.bind_some,qF,qM,qN,h1,h2]
       simp only [qC,qE,qG,qH,qJ,qK,Option.bind_some,qF,qM,qN,te,b0,hg,k39,e39,tT,bT,tF,bF,k35,e35,k45,e45,if_neg h45]
       cases ok with
       |false=>simp
       |true=>cases ho:okV 1 x (⟨#[]⟩:ByteArray)<;>simp [ho]
def rcK (s:ByteArray):Nat→Int→Int
 |0,_=>0
 |k+1,i=>if (qDL i).toList=s.toList then i else rcK s k (i+1)
def qFO (s:ByteArray):Int:=rcK s 52 1
theorem qT8 (s:ByteArray):∀(k:Nat) (i:Int),1≤rcK s k i→(qDL (rcK s k i)).toList=s.toList
 |0,i,h=>by simp [rcK] at h
 |k+1,i,h=>by
  simp only [rcK] at h⊢
  by_cases e:(qDL i).toList=s.toList
  ·rw [if_pos e];exact e
  ·rw [if_neg e] at h⊢;exact qT8 s k (i+1) h
def qIR (c:UInt8):Bool:=decide (65≤c.toNat)&&decide (c.toNat≤90)
def qW (l:List UInt8):List UInt8:=if l.head?=some 36 then l.tail else l
def qQ (l:List UInt8):List UInt8:=l.takeWhile qIR
def qj (l:List UInt8):List UInt8:=l.dropWhile qIR
def qA2 (s:ByteArray):Int×Int×Bool×Bool×Bool:=
 if (l1I (qW (qj (qW s.toList))) 2).2=true∧qBI (qFO ⟨(qQ (qW s.toList)).toArray⟩) (l1I (qW (qj (qW s.toList))) 2).1=true then
  (qFO ⟨(qQ (qW s.toList)).toArray⟩,(l1I (qW (qj (qW s.toList))) 2).1,s.toList.head?==some 36,(qj (qW s.toList)).head?==some 36,true) else (0,0,false,false,false)
theorem qMG {R:Type} {B:ByteArray×Int→Tr ((ByteArray×Int)⊕(Int⊕Unit))} {s:ByteArray} (hs:∀i:Int,1≤i∧i≤52→(B (s,i)).run=some (if (qDL i).toList=s.toList then .inr (.inl i) else .inl (s,i+1))) (he:(B (s,53)).run=some (.inr (.inr ()))):
  ∀(k:Nat) (i:Int) (M:Nat),1≤i→i+k=53→k+1≤M→zD B M (s,i)=some (if rcK s k i=0 then .inr () else .inl (rcK s k i))
 |k,i,0,h1,h2,h3=>by omega
 |0,i,M+1,h1,h2,h3=>by
  have:i=53:=by omega
  subst this
  rw [qP he]
  rfl
 |k+1,i,M+1,h1,h2,h3=>by
  have h:=hs i ⟨h1,by omega⟩
  by_cases e:(qDL i).toList=s.toList
  ·rw [if_pos e] at h
   rw [qP h]
   simp only [rcK,if_pos e]
   rw [if_neg (by omega)]
  ·rw [if_neg e] at h
   rw [qU h]
   simp only [rcK,if_neg e]
   exact qMG (R:=R) hs he k (i+1) M (by omega) (by omega) (by omega)
theorem qTU {F:Nat→Int→Option ByteArray} (h:∀i,Ev (F · i) (qDL i)):∃n0,∀n,n0≤n→∀i,1≤i∧i≤52→F n i=some (qDL i):=by
 obtain ⟨n0,h1⟩:=qAl (F:=fun (i:Nat) n=>F n (i:Int)) (f:=fun i=>qDL (i:Int)) (List.range 53) (fun i _=>h i)
 refine ⟨n0,fun n hn i hi=>?_⟩
 have:=h1 n hn i.toNat (by rw [List.mem_range];omega)
 rwa [Int.toNat_of_nonneg (by omega)] at this
theorem qPJ (s:ByteArray):Ev (qCL · s) (qFO s):=by
 obtain ⟨n0,h⟩:=qTU qJa
 refine ⟨n0+60,fun n hn=>?_⟩
 obtain ⟨m,rfl,hm⟩:=up1 hn
 have hc:=h m (by omega)
 have lp:=qMG (R:=Unit) (B:=qCc m) (s:=s) (fun i hi=>by
  have g:=hc i hi
  have w1:IntKind.i64.wrap (i+1)=i+1:=qT (by omega)
  simp only [qCc,qC,qE,qG,qH,qJ,qK,Option.bind_some,qF,qM,qN,g,w1]
  rw [if_pos (decide_eq_true hi.2)]
  by_cases e:(qDL i).toList=s.toList<;>simp [e]) (by simp [qCc,qC,qE,qG,qH,qJ,qK,Option.bind_some,qF,qM,qN]) 52 1 m (by decide) (by decide) (by omega)
 simp only [qCL,qGb,qC,qE,qG,qH,qJ,qK,Option.bind_some,qF,qM,qN,lp]
 show _=some (rcK s 52 1)
 by_cases e:rcK s 52 1=0
 ·rw [if_pos e,e];rfl
 ·rw [if_neg e];rfl
theorem qPK (s:ByteArray):Ev (qEy · s) (qFO s):=by
 obtain ⟨n0,h⟩:=qTU qJZ
 refine ⟨n0+60,fun n hn=>?_⟩
 obtain ⟨m,rfl,hm⟩:=up1 hn
 have hc:=h m (by omega)
 have lp:=qMG (R:=Unit) (B:=qCh m) (s:=s) (fun i hi=>by
  have g:=hc i hi
  have w1:IntKind.i64.wrap (i+1)=i+1:=qT (by omega)
  simp only [qCh,qC,qE,qG,qH,qJ,qK,Option.bind_some,qF,qM,qN,g,w1]
  rw [if_pos (decide_eq_true hi.2)]
  by_cases e:(qDL i).toList=s.toList<;>simp [e]) (by simp [qCh,qC,qE,qG,qH,qJ,qK,Option.bind_some,qF,qM,qN]) 52 1 m (by decide) (by decide) (by omega)
 simp only [qEy,qGt,qC,qE,qG,qH,qJ,qK,Option.bind_some,qF,qM,qN,lp]
 show _=some (rcK s 52 1)
 by_cases e:rcK s 52 1=0
 ·rw [if_pos e,e];rfl
 ·rw [if_neg e];rfl
theorem qB1 (b:ByteArray):b.size=b.toList.length:=(qAT b).symm
theorem qSc (b:ByteArray) (k:Nat):(b.extract 0 k).toList=b.toList.take k:=by
 rw [Go.Lib.toList_data,ByteArray.data_extract,Array.toList_extract,Go.Lib.toList_data]
 show (b.data.toList.drop 0).take (k-0)=_
 simp
theorem qFl (b:ByteArray) (k:Nat):(b.extract k b.size).toList=b.toList.drop k:=by
 rw [Go.Lib.toList_data,ByteArray.data_extract,Array.toList_extract,Go.Lib.toList_data]
 have hl:b.data.toList.length=b.size:=by rw [←qCw]
 show (b.data.toList.drop k).take (b.size-k)=_
 rw [List.take_of_length_le (by rw [List.length_drop,hl];exact Nat.le_refl _)]
theorem qMy (l:List UInt8):l.take (qQ l).length=qQ l:=by
 have h:=List.takeWhile_append_dropWhile (p:=qIR) (l:=l)
 have h2:(List.takeWhile qIR l++List.dropWhile qIR l).take (List.takeWhile qIR l).length=List.takeWhile qIR l:=List.take_left ..
 rw [h] at h2
 exact h2
theorem qI4 (l:List UInt8):l.drop (qQ l).length=qj l:=by
 have h:=List.takeWhile_append_dropWhile (p:=qIR) (l:=l)
 have h2:(List.takeWhile qIR l++List.dropWhile qIR l).drop (List.takeWhile qIR l).length=List.dropWhile qIR l:=List.drop_left ..
 rw [h] at h2
 exact h2
theorem qOY (l:List UInt8):(qQ l).length≤l.length:=by
 have h:=congrArg List.length (List.takeWhile_append_dropWhile (p:=qIR) (l:=l))
 rw [List.length_append] at h
 unfold qQ
 omega
theorem qMz (n:Nat) (b:ByteArray) (fc:Bool) (hb:b.size≤1048576):∀(r pre:List UInt8) (M:Nat),b.toList=pre++r→r.length+1≤M→
  zD (qAN n) M (b,(pre.length:Int),0,0,false,false,0,0,fc,false)=some (b,((pre.length+(qQ r).length:Nat):Int),0,0,false,false,0,0,fc,false)
 |r,pre,0,h1,h2=>by omega
 | [],pre,M+1,h1,h2=>by
  have hi:¬(pre.length:Int)<b.size:=by rw [qB1,h1];simp
  rw [qP (r:=(b,(pre.length:Int),0,0,false,false,0,0,fc,false)) (by simp [qAN,qC,qE,qG,qH,qJ,qK,Option.bind_some,qF,qM,qN,hi])]
  simp [qQ]
 |c::r,pre,M+1,h1,h2=>by
  have hl:b.size=pre.length+(r.length+1):=by rw [qB1,h1];simp
  have hi:(pre.length:Int)<b.size:=by omega
  have hg:b.toList[pre.length]?=some c:=by rw [h1];simp
  have w1:IntKind.i64.wrap ((pre.length:Int)+1)=(pre.length:Int)+1:=qT (by omega)
  by_cases hc:qIR c=true
  ·have hc':65≤c.toNat∧c.toNat≤90:=by simpa [qIR] using hc
   have c1:(c.toNat:Int)≥65:=by omega
   have c2:(c.toNat:Int)≤90:=by omega
   have e0:((pre++ [c]).length:Int)=(pre.length:Int)+1:=by simp
   rw [qU (v':=(b,((pre++ [c]).length:Int),0,0,false,false,0,0,fc,false)) (by
    rw [e0]
    simp [qAN,qC,qE,qG,qH,qJ,qK,Option.bind_some,qF,qM,qN,hi,hg,c1,c2,w1])]
   rw [qMz n b fc hb r (pre++ [c]) M (by rw [h1];simp) (by simp at h2;omega)]
   simp [qQ,hc]
   omega
  ·rw [qP (r:=(b,(pre.length:Int),0,0,false,false,0,0,fc,false)) (by
    by_cases c1:(c.toNat:Int)≥65
    ·have c2:¬(c.toNat:Int)≤90:=fun h=>hc (by simp [qIR];omega)
     simp [qAN,qC,qE,qG,qH,qJ,qK,Option.bind_some,qF,qM,qN,hi,hg,c1,c2]
    ·simp [qAN,qC,qE,qG,qH,qJ,qK,Option.bind_some,qF,qM,qN,hi,hg,c1])]
   simp [qQ,hc]
theorem qM0 (s:ByteArray) (hb:s.size≤1048576):Ev (qAn · s) (qA2 s):=by
 have main:∀(b:ByteArray) (fc:Bool),b.size≤1048576→b.toList=qW s.toList→fc=(s.toList.head?==some 36)→
   ∃n0,∀m,n0≤m→zD (qAN m) m (b,0,0,0,false,false,0,0,fc,false)=some (b,((qQ (qW s.toList)).length:Int),0,0,false,false,0,0,fc,false)∧
    qCL m (b.extract 0 (qQ (qW s.toList)).length)=some (qFO ⟨(qQ (qW s.toList)).toArray⟩)∧
    qu m (b.extract (qQ (qW s.toList)).length b.size) 2=some (l1I (qj (qW s.toList)) 2)∧
    qu m ((b.extract (qQ (qW s.toList)).length b.size).extract 1 (b.extract (qQ (qW s.toList)).length b.size).size) 2=some (l1I (qj (qW s.toList)).tail 2):=fun b fc hb hl _=>by
  have x1:b.extract 0 (qQ (qW s.toList)).length=⟨(qQ (qW s.toList)).toArray⟩:=qE4 (by rw [qSc,hl,qMy,qB3 (qQ (qW s.toList))])
  have x2:(b.extract (qQ (qW s.toList)).length b.size).toList=qj (qW s.toList):=by rw [qFl,hl,qI4]
  have x3:((b.extract (qQ (qW s.toList)).length b.size).extract 1 (b.extract (qQ (qW s.toList)).length b.size).size).toList=(qj (qW s.toList)).tail:=by rw [qFl,x2,List.drop_one]
  obtain ⟨n1,h1⟩:=qPJ (b.extract 0 (qQ (qW s.toList)).length)
  obtain ⟨n2,h2⟩:=qD8 (b.extract (qQ (qW s.toList)).length b.size) 2 (by decide)
  obtain ⟨n3,h3⟩:=qD8 ((b.extract (qQ (qW s.toList)).length b.size).extract 1 (b.extract (qQ (qW s.toList)).length b.size).size) 2 (by decide)
  rw [x1] at h1
  rw [x2] at h2
  rw [x3] at h3
  refine ⟨n1+n2+n3+b.size+2,fun m hm=>⟨?_,by rw [x1];exact h1 m (by omega),h2 m (by omega),h3 m (by omega)⟩⟩
  have:=qMz m b fc hb b.toList [] m rfl (by rw [←qB1];omega)
  simp only [List.length_nil,Int.natCast_zero,Nat.zero_add] at this
  rw [this,hl]
 have z:∀(b:ByteArray),b.toList=qW s.toList→((qQ (qW s.toList)).length:Int)≤b.size:=fun b hl=>by
  have:=qOY (qW s.toList)
  rw [←hl] at this⊢
  rw [qB1]
  omega
 have k36:∀c:UInt8,((c.toNat:Int)==36)=(some c==some 36):=fun c=>by
  have h:=qUg c 36 (by decide)
  have u:UInt8.ofNat 36=36:=rfl
  rw [u] at h
  exact h
 unfold qA2
 have part:∀(b:ByteArray) (fc:Bool),b.size≤1048576→b.toList=qW s.toList→fc=(s.toList.head?==some 36)→
   ((fc=true∧b=s.extract 1 s.size∧∃c r,s.toList=c::r∧c=36)∨(fc=false∧b=s∧∀c r,s.toList=c::r→(some c==some (36:UInt8))=false))→
   Ev (qAn · s) (if (l1I (qW (qj (qW s.toList))) 2).2=true∧qBI (qFO ⟨(qQ (qW s.toList)).toArray⟩) (l1I (qW (qj (qW s.toList))) 2).1=true then
    (qFO ⟨(qQ (qW s.toList)).toArray⟩,(l1I (qW (qj (qW s.toList))) 2).1,s.toList.head?==some 36,(qj (qW s.toList)).head?==some 36,true) else (0,0,false,false,false)):=fun b fc hb2 hl hfc hcase=>by
  obtain ⟨n0,hm0⟩:=main b fc hb2 hl hfc
  have hz:=z b hl
  obtain ⟨n2,h2⟩:=qCt (qFO ⟨(qQ (qW s.toList)).toArray⟩) (l1I (qW (qj (qW s.toList))) 2).1
  have x2:(b.extract (qQ (qW s.toList)).length b.size).toList=qj (qW s.toList):=by rw [qFl,hl,qI4]
  rw [←hfc]
  refine ⟨n0+n2+1,fun n hn=>?_⟩
  obtain ⟨m,rfl,hm⟩:=up1 hn
  obtain ⟨g1,g2,g3,g4⟩:=hm0 m (by omega)
  have h2:=h2 m (by omega)
  dsimp only at h2
  have e1:(1:Int).toNat=1:=rfl
  have e0:(0:Int).toNat=0:=rfl
  have start:∀q,(qCI m s).run=q→qAn (m+1) s=q:=fun q h=>h
  apply start
  rcases hcase with ⟨rfl,rfl,c,r,hcr,rfl⟩|⟨rfl,rfl,hno⟩
  ·have hsz:(s.size:Int)>0:=by rw [qB1,hcr];simp<;>omega
   have hs1:(1:Int)≤s.size:=by omega
   have hg:s.toList[0]?=some 36:=by rw [hcr];rfl
   have bs:(s.extract 1 s.size).size=s.size-1:=by rw [qB1,qFl,List.length_drop,←qB1]
   have zn:(qQ (qW s.toList)).length≤s.size-1:=by rw [←bs];omega
   have sn:0<s.size:=by omega
   have c36:((((36:UInt8)).toNat:Int)==36)=true:=rfl
   simp only [qCI,qC,qE,qG,qH,qJ,qK,Option.bind_some,qF,qM,qN,Int.toNat_natCast,e0,e1,hg,c36,g1,g2]
   cases hq:qj (qW s.toList) with
   |nil=>
    have y0:((s.extract 1 s.size).extract (qQ (qW s.toList)).length (s.extract 1 s.size).size).size=0:=by rw [qB1,x2,hq];rfl
    have hoff:qW (qj (qW s.toList))= []:=by rw [hq];rfl
    rw [hoff] at h2
    rw [hq] at g3
    simp only [y0,g3,h2,qC,qE,qG,qH,qJ,qK,Option.bind_some,qF,qM,qN]
    have hoff':qW ([]:List UInt8)= []:=rfl
    rw [hoff']
    generalize l1I ([]:List UInt8) 2=q at*
    obtain ⟨x,ok⟩:=q
    cases ok<;>cases hk:qBI (qFO ⟨(qQ (qW s.toList)).toArray⟩) x<;>simp [hz,hsz,hs1,zn,sn]
   |cons d w=>
    have y0:(((s.extract 1 s.size).extract (qQ (qW s.toList)).length (s.extract 1 s.size).size).size:Int)>0:=by rw [qB1,x2,hq];simp<;>omega
    have y1:(1:Int)≤((s.extract 1 s.size).extract (qQ (qW s.toList)).length (s.extract 1 s.size).size).size:=by omega
    have ys:((s.extract 1 s.size).extract (qQ (qW s.toList)).length (s.extract 1 s.size).size).size=(s.extract 1 s.size).size-(qQ (qW s.toList)).length:=by rw [qB1,qFl,List.length_drop,←qB1]
    have yn:(qQ (qW s.toList)).length<(s.size-1):=by rw [←bs];omega
    have yn2:1≤(s.size-1)-(qQ (qW s.toList)).length:=by omega
    have yn3:0<(s.size-1)-(qQ (qW s.toList)).length:=by omega
    have yn4:(1:Int)≤(((s.size-1)-(qQ (qW s.toList)).length:Nat):Int):=by omega
    have yg:((s.extract 1 s.size).extract (qQ (qW s.toList)).length (s.extract 1 s.size).size).toList[0]?=some d:=by rw [x2,hq];rfl
    rw [hq] at g3 g4 h2
    simp only [yg,k36 d,qC,qE,qG,qH,qJ,qK,Option.bind_some,qF,qM,qN]
    by_cases hd:d=36
    ·have hoff:qW (d::w)=w:=by unfold qW;rw [if_pos (by rw [hd];rfl)];rfl
     rw [hoff] at h2⊢
     have e36:(some d==some (36:UInt8))=true:=by rw [hd];rfl
     simp only [List.tail_cons] at g4
     simp only [e36,g4,h2,List.head?_cons,qC,qE,qG,qH,qJ,qK,Option.bind_some,qF,qM,qN]
     generalize l1I w 2=q at*
     obtain ⟨x,ok⟩:=q
     cases ok<;>cases hk:qBI (qFO ⟨(qQ (qW s.toList)).toArray⟩) x<;>simp [hz,hsz,hs1,y0,y1,zn,sn,yn,yn2,yn3,yn4]
    ·have hoff:qW (d::w)=d::w:=by unfold qW;rw [if_neg (by simpa using hd)]
     rw [hoff] at h2⊢
     have e36:(some d==some (36:UInt8))=false:=by simpa using hd
     simp only [e36,g3,h2,List.head?_cons,qC,qE,qG,qH,qJ,qK,Option.bind_some,qF,qM,qN]
     generalize l1I (d::w) 2=q at*
     obtain ⟨x,ok⟩:=q
     cases ok<;>cases hk:qBI (qFO ⟨(qQ (qW s.toList)).toArray⟩) x<;>simp [hz,hsz,hs1,y0,y1,zn,sn,yn,yn2,yn3,yn4]
  ·by_cases hs0:(b.size:Int)>0
   ·obtain ⟨c,r,hcr⟩:∃c r,b.toList=c::r:=by
     cases hq:b.toList with
     |nil=>rw [qB1,hq] at hs0;simp at hs0
     |cons a l=>exact ⟨a,l,rfl⟩
    have hg:b.toList[0]?=some c:=by rw [hcr];rfl
    have hc:=hno c r hcr
    have hsz:(b.size:Int)>0:=hs0
    have hs1:(1:Int)≤b.size:=by omega
    have zn:(qQ (qW b.toList)).length≤b.size:=by omega
    have sn:0<b.size:=by omega
    simp only [qCI,qC,qE,qG,qH,qJ,qK,Option.bind_some,qF,qM,qN,Int.toNat_natCast,e0,e1,hg,k36 c,hc,g1,g2]
    cases hq:qj (qW b.toList) with
    |nil=>
     have y0:(b.extract (qQ (qW b.toList)).length b.size).size=0:=by rw [qB1,x2,hq];rfl
     have hoff:qW (qj (qW b.toList))= []:=by rw [hq];rfl
     rw [hoff] at h2
     rw [hq] at g3
     simp only [y0,g3,h2,qC,qE,qG,qH,qJ,qK,Option.bind_some,qF,qM,qN]
     have hoff':qW ([]:List UInt8)= []:=rfl
     rw [hoff']
     generalize l1I ([]:List UInt8) 2=q at*
     obtain ⟨x,ok⟩:=q
     cases ok<;>cases hk:qBI (qFO ⟨(qQ (qW b.toList)).toArray⟩) x<;>simp [hz,hsz,hs1,zn,sn]
    |cons d w=>
     have y0:((b.extract (qQ (qW b.toList)).length b.size).size:Int)>0:=by rw [qB1,x2,hq];simp<;>omega
     have y1:(1:Int)≤(b.extract (qQ (qW b.toList)).length b.size).size:=by omega
     have ys:(b.extract (qQ (qW b.toList)).length b.size).size=b.size-(qQ (qW b.toList)).length:=by rw [qB1,qFl,List.length_drop,←qB1]
     have yn:(qQ (qW b.toList)).length<b.size:=by omega
     have yn2:1≤b.size-(qQ (qW b.toList)).length:=by omega
     have yn3:0<b.size-(qQ (qW b.toList)).length:=by omega
     have yn4:(1:Int)≤((b.size-(qQ (qW b.toList)).length:Nat):Int):=by omega
     have yg:(b.extract (qQ (qW b.toList)).length b.size).toList[0]?=some d:=by rw [x2,hq];rfl
     rw [hq] at g3 g4 h2
     simp only [yg,k36 d,qC,qE,qG,qH,qJ,qK,Option.bind_some,qF,qM,qN]
     by_cases hd:d=36
     ·have hoff:qW (d::w)=w:=by unfold qW;rw [if_pos (by rw [hd];rfl)];rfl
      rw [hoff] at h2⊢
      have e36:(some d==some (36:UInt8))=true:=by rw [hd];rfl
      simp only [List.tail_cons] at g4
      simp only [e36,g4,h2,List.head?_cons,qC,qE,qG,qH,qJ,qK,Option.bind_some,qF,qM,qN]
      generalize l1I w 2=q at*
      obtain ⟨x,ok⟩:=q
      cases ok<;>cases hk:qBI (qFO ⟨(qQ (qW b.toList)).toArray⟩) x<;>simp [hz,hsz,hs1,y0,y1,zn,sn,yn,yn2,yn3,yn4]
     ·have hoff:qW (d::w)=d::w:=by unfold qW;rw [if_neg (by simpa using hd)]
      rw [hoff] at h2⊢
      have e36:(some d==some (36:UInt8))=false:=by simpa using hd
      simp only [e36,g3,h2,List.head?_cons,qC,qE,qG,qH,qJ,qK,Option.bind_some,qF,qM,qN]
      generalize l1I (d::w) 2=q at*
      obtain ⟨x,ok⟩:=q
      cases ok<;>cases hk:qBI (qFO ⟨(qQ (qW b.toList)).toArray⟩) x<;>simp [hz,hsz,hs1,y0,y1,zn,sn,yn,yn2,yn3,yn4]
   ·have hsz:¬(b.size:Int)>0:=hs0
    have hs1:True:=trivial
    have zn:(qQ (qW b.toList)).length≤b.size:=by omega
    have sn:b.size=0:=by omega
    have lb:b.toList= []:=List.eq_nil_of_length_eq_zero (by rw [←qB1];omega)
    have hb0:qj (qW b.toList)= []:=by rw [lb];rfl
    have ln:qQ (qW b.toList)= []:=by rw [lb];rfl
    simp only [qCI,qC,qE,qG,qH,qJ,qK,Option.bind_some,qF,qM,qN,Int.toNat_natCast,e0,e1,g1,g2]
    cases hq:qj (qW b.toList) with
    |nil=>
     have y0:(b.extract (qQ (qW b.toList)).length b.size).size=0:=by rw [qB1,x2,hq];rfl
     have hoff:qW (qj (qW b.toList))= []:=by rw [hq];rfl
     rw [hoff] at h2
     rw [hq] at g3
     simp only [y0,g3,h2,qC,qE,qG,qH,qJ,qK,Option.bind_some,qF,qM,qN]
     have hoff':qW ([]:List UInt8)= []:=rfl
     rw [hoff']
     generalize l1I ([]:List UInt8) 2=q at*
     obtain ⟨x,ok⟩:=q
     cases ok<;>cases hk:qBI (qFO ⟨(qQ (qW b.toList)).toArray⟩) x<;>simp [hz,hsz,hs1,zn,sn,ln]
    |cons d w=>rw [hb0] at hq;cases hq
 by_cases h36:s.toList.head?=some 36
 ·have ho:qW s.toList=s.toList.tail:=by unfold qW;rw [if_pos h36]
  have ht:(s.extract 1 s.size).toList=s.toList.tail:=by rw [qFl,List.drop_one]
  obtain ⟨c,r,hcr⟩:∃c r,s.toList=c::r:=by
   cases hq:s.toList with
   |nil=>rw [hq] at h36;cases h36
   |cons a l=>exact ⟨a,l,rfl⟩
  refine part (s.extract 1 s.size) true (by rw [qB1,ht,List.length_tail,←qB1];omega) (by rw [ht,ho]) (by rw [h36];rfl) (.inl ⟨rfl,rfl,c,r,hcr,?_⟩)
  rw [hcr] at h36
  simpa using h36
 ·have ho:qW s.toList=s.toList:=by unfold qW;rw [if_neg h36]
  refine part s false hb ho.symm (by symm;simpa using h36) (.inr ⟨rfl,rfl,fun c r hcr=>?_⟩)
  rw [hcr] at h36
  simpa using h36
def upS:ByteArray:=⟨#[65,66,67,68,69,70,71,72,73,74,75,76,77,78,79,80,81,82,83,84,85,86,87,88,89,90]⟩
theorem qVC:∀i:Fin 256,(upS.data.toList.contains (UInt8.ofNat i.val))=(decide (65≤i.val)&&decide (i.val≤90)):=by decide+kernel
theorem qVY (c:UInt8):(upS.data.toList.contains c)=qIR c:=by
 have h:=qVC ⟨c.toNat,UInt8.toNat_lt c⟩
 have e:UInt8.ofNat c.toNat=c:=by simp
 simp only [e] at h
 exact h
theorem qT9:(upS.data.toList.all fun b=>decide (b.toNat<128))=true:=by decide+kernel
theorem qSd (s:ByteArray):Ev (qBM · s ⟨#[65,66,67,68,69,70,71,72,73,74,75,76,77,78,79,80,81,82,83,84,85,86,87,88,89,90]⟩) ⟨(qj s.toList).toArray⟩:=by
 refine ⟨1,fun n hn=>?_⟩
 obtain ⟨m,rfl,hm⟩:=up1 hn
 show zN s upS=_
 unfold zN
 rw [if_pos ⟨by decide,qT9⟩]
 unfold Lib.trimLeftS qj
 rw [Go.Lib.toList_data]
 have:(fun c=>upS.data.toList.contains c)=qIR:=funext qVY
 rw [this]
theorem qSe (s:ByteArray):Ev (qAH · s ⟨#[36]⟩) (⟨(qW s.toList).toArray⟩,s.toList.head?==some 36):=by
 have h:=qGP s 36
 have es:(⟨s.toList.toArray⟩:ByteArray)=s:=qE4 (qB3 s.toList)
 by_cases e:s.toList.head?=some 36
 ·rw [if_pos e] at h
  have:(s.toList.head?==some 36)=true:=by simpa using e
  unfold qW
  rw [if_pos e,this]
  exact h
 ·rw [if_neg e] at h
  have:(s.toList.head?==some 36)=false:=by simpa using e
  unfold qW
  rw [if_neg e,this,es]
  exact h
theorem qUi {r:Int} (h:1≤r∧r≤99):l1I (Lib.itoa r) 2=(r,true):=by
 have e:Lib.itoa r=Lib.decDigits r.toNat:=by unfold Lib.itoa;rw [if_neg (by omega)]
 obtain ⟨h1,h2,h3,_,_⟩:=qIQ r.toNat
 have hl:(Lib.decDigits r.toNat).length≤2:=by
  rw [Lib.decDigits_length]
  exact qU7 2 r.toNat (by omega) (by
   have:(10:Nat)^2=100:=by decide
   omega)
 rw [e]
 unfold l1I
 rw [if_pos ⟨by omega,qRN _⟩,h2]
 congr 1
 omega
theorem qVZ {l:List UInt8} (h:(l1I l 2).2=true):(l1I l 2).1=(qAe 0 l:Int)∧Lib.decDigits (qAe 0 l)=l:=by
 unfold l1I at h⊢
 split at h
 ·rename_i hc
  rw [if_pos hc]
  exact ⟨rfl,qN6 _ l rfl hc.2⟩
 ·cases h
theorem qUA (s:ByteArray):qA2 s=if qBI (qFO ⟨(qQ (qW s.toList)).toArray⟩) (qBs ⟨(qW (qj (qW s.toList))).toArray⟩)=true∧
  (qCE (qFO ⟨(qQ (qW s.toList)).toArray⟩) (qBs ⟨(qW (qj (qW s.toList))).toArray⟩) (s.toList.head?==some 36) ((qj (qW s.toList)).head?==some 36)).toList=s.toList then
   (qFO ⟨(qQ (qW s.toList)).toArray⟩,qBs ⟨(qW (qj (qW s.toList))).toArray⟩,s.toList.head?==some 36,(qj (qW s.toList)).head?==some 36,true) else (0,0,false,false,false):=by
 have hoff:∀l:List UInt8,l=(if (l.head?==some 36)=true then [36] else [])++qW l:=fun l=>by
  unfold qW
  cases l with
  |nil=>rfl
  |cons c r=>
   by_cases e:c=36
   ·subst e;simp
   ·simp [e]
 have hsplit:qW s.toList=qQ (qW s.toList)++qj (qW s.toList):=(List.takeWhile_append_dropWhile (p:=qIR) (l:=qW s.toList)).symm
 have hs:s.toList=(if (s.toList.head?==some 36)=true then [36] else [])++qQ (qW s.toList)++(if ((qj (qW s.toList)).head?==some 36)=true then [36] else [])++qW (qj (qW s.toList)):=by
  conv=>lhs;rw [hoff s.toList,hsplit,hoff (qj (qW s.toList))]
  simp only [List.append_assoc]
 unfold qA2
 generalize hL:qQ (qW s.toList)=L at*
 generalize hR:qW (qj (qW s.toList))=R at*
 generalize (s.toList.head?==some 36)=fc at*
 generalize ((qj (qW s.toList)).head?==some 36)=fr at*
 have col:∀r,qBI (qFO ⟨L.toArray⟩) r=true→(qDL (qFO ⟨L.toArray⟩)).data.toList=L:=fun r h=>by
  have:=qT8 (⟨L.toArray⟩:ByteArray) 52 1 (qIP h).1.1
  rw [qB3 L,Go.Lib.toList_data] at this
  exact this
 have pl:∀r,qBI (qFO ⟨L.toArray⟩) r=true→(qCE (qFO ⟨L.toArray⟩) r fc fr).toList=(if fc=true then [36] else [])++L++(if fr=true then [36] else [])++Lib.itoa r:=fun r h=>by
  rw [Go.Lib.toList_data]
  unfold qCE
  rw [if_pos h,col r h]
  simp [qHE]
 have tR:(⟨R.toArray⟩:ByteArray).toList=R:=qB3 R
 by_cases hA:(l1I R 2).2=true∧qBI (qFO ⟨L.toArray⟩) (l1I R 2).1=true
 ·obtain ⟨a1,a2⟩:=qVZ hA.1
  have hr:=(qIP hA.2).2
  have hi:R=Lib.itoa (l1I R 2).1:=by
   rw [a1]
   unfold Lib.itoa
   rw [if_neg (by omega),Int.toNat_natCast,a2]
  have hp:qBs ⟨R.toArray⟩=(l1I R 2).1:=qOV (by rw [tR];exact hi) (by omega)
  rw [if_pos hA,hp,if_pos ⟨hA.2,by rw [pl _ hA.2,←hi];exact hs.symm⟩]
 ·rw [if_neg hA,if_neg]
  rintro ⟨h1,h2⟩
  rw [pl _ h1] at h2
  have h3:R=Lib.itoa (qBs ⟨R.toArray⟩):=by
   rw [hs] at h2
   exact (List.append_cancel_left h2).symm
  have h4:=qUi (qIP h1).2
  rw [←h3] at h4
  exact hA (by rw [h4];exact ⟨rfl,h1⟩)
theorem qM1 (s:ByteArray) (hb:s.size≤1048576):Ev (qAg · s) (qA2 s):=by
 rw [qUA]
 have hlen:=qOY (qW s.toList)
 have lo:(qW s.toList).length≤s.size:=by
  unfold qW
  rw [qB1]
  split
  ·rw [List.length_tail];omega
  ·exact Nat.le_refl _
 have l2:(qj (qW s.toList)).length+(qQ (qW s.toList)).length=(qW s.toList).length:=by
  have h:=congrArg List.length (List.takeWhile_append_dropWhile (p:=qIR) (l:=qW s.toList))
  rw [List.length_append] at h
  unfold qj qQ
  omega
 have z1:(⟨(qW s.toList).toArray⟩:ByteArray).size=(qW s.toList).length:=by rw [qB1,qB3 (qW s.toList)]
 have z2:(⟨(qj (qW s.toList)).toArray⟩:ByteArray).size=(qj (qW s.toList)).length:=by rw [qB1,qB3 (qj (qW s.toList))]
 have w1:IntKind.i64.wrap (((qW s.toList).length:Int)-(qj (qW s.toList)).length)=((qQ (qW s.toList)).length:Int):=by rw [qT (by omega)];omega
 have x1:(⟨(qW s.toList).toArray⟩:ByteArray).extract 0 (qQ (qW s.toList)).length=⟨(qQ (qW s.toList)).toArray⟩:=qE4 (by rw [qSc,qB3 (qW s.toList),qMy,qB3 (qQ (qW s.toList))])
 have x2:(⟨(qW s.toList).toArray⟩:ByteArray).extract (qQ (qW s.toList)).length (qW s.toList).length=⟨(qj (qW s.toList)).toArray⟩:=qE4 (by rw [←z1,qFl,qB3 (qW s.toList),qI4,qB3 (qj (qW s.toList))])
 have lr:(⟨(qW (qj (qW s.toList))).toArray⟩:ByteArray).size≤281474976710656:=by
  rw [qB1,qB3 (qW (qj (qW s.toList)))]
  have:(qW (qj (qW s.toList))).length≤(qj (qW s.toList)).length:=by
   generalize qj (qW s.toList)=q
   unfold qW
   split
   ·rw [List.length_tail];omega
   ·exact Nat.le_refl _
  omega
 obtain ⟨n1,h1⟩:=qSe s
 obtain ⟨n2,h2⟩:=qSd ⟨(qW s.toList).toArray⟩
 rw [qB3 (qW s.toList)] at h2
 obtain ⟨n3,h3⟩:=qPK ⟨(qQ (qW s.toList)).toArray⟩
 obtain ⟨n4,h4⟩:=qSe ⟨(qj (qW s.toList)).toArray⟩
 rw [qB3 (qj (qW s.toList))] at h4
 generalize qW s.toList=A at*
 generalize qj A=Bq at*
 generalize qQ A=L at*
 generalize qW Bq=R at*
 generalize (s.toList.head?==some 36)=fc at*
 generalize (Bq.head?==some 36)=fr at*
 obtain ⟨n5,h5⟩:=qDO (qFO ⟨L.toArray⟩) (qBs ⟨R.toArray⟩)
 obtain ⟨n6,h6⟩:=qDU (qFO ⟨L.toArray⟩) (qBs ⟨R.toArray⟩) fc fr
 have e0:(0:Int).toNat=0:=rfl
 have c1:L.length≤A.length:=by omega
 rcases qOW ⟨R.toArray⟩ lr with ⟨n7,h7⟩|⟨n7,h7⟩
 all_goals
  refine ⟨n1+n2+n3+n4+n5+n6+n7+1,fun n hn=>?_⟩
  obtain ⟨m,rfl,hm⟩:=up1 hn
  have h1:=h1 m (by omega)
  have h2:=h2 m (by omega)
  have h3:=h3 m (by omega)
  have h4:=h4 m (by omega)
  have h5:=h5 m (by omega)
  have h6:=h6 m (by omega)
  have h7:=h7 m (by omega)
  dsimp only at h1 h2 h3 h4 h5 h6 h7
  simp only [qAg,qFL,qC,qE,qG,qH,qJ,qK,Option.bind_some,qF,qM,qN,h1,h2,z1,z2,w1,Int.toNat_natCast,e0,x1,x2,h3,h4,h5,h6,h7]
  cases hk:qBI (qFO ⟨L.toArray⟩) (qBs ⟨R.toArray⟩) with
  |false=>simp [c1]
  |true=>by_cases e:(qCE (qFO ⟨L.toArray⟩) (qBs ⟨R.toArray⟩) fc fr).toList=s.toList<;>simp [c1,e]
theorem qKW (c r:Int) (fc fr:Bool):(qCE c r fc fr).size≤30:=by
 unfold qCE
 split
 ·rename_i h
  have h1:=qN5 c
  have h2:=qME (qIP h).2
  rw [qCw]
  cases fc<;>cases fr<;>simp<;>omega
 ·decide
abbrev Nd:=Int×Int×Int×Int×ByteArray×Int×Int×Bool×Bool×Int×Int×Bool×Bool×List Int
def q9 (x:Int):List PV:= [.i .i64 x]
def qa (c:Nd):List PV:= [.i .i64 c.1,.i .i64 c.2.1,.i .i64 c.2.2.1,.i .i64 c.2.2.2.1,.s c.2.2.2.2.1,.i .i64 c.2.2.2.2.2.1,.i .i64 c.2.2.2.2.2.2.1,.b c.2.2.2.2.2.2.2.1,.b c.2.2.2.2.2.2.2.2.1,.i .i64 c.2.2.2.2.2.2.2.2.2.1,.i .i64 c.2.2.2.2.2.2.2.2.2.2.1,.b c.2.2.2.2.2.2.2.2.2.2.2.1,.b c.2.2.2.2.2.2.2.2.2.2.2.2.1,.ls ((c.2.2.2.2.2.2.2.2.2.2.2.2.2).map q9)]
def kd (c:Nd):List Int:=c.2.2.2.2.2.2.2.2.2.2.2.2.2
theorem qSf {l:List Int} {i:Nat} {e:List PV} (h:(l.map q9)[i]?=some e):∃c,l[i]?=some c∧e=q9 c:=by
 rw [List.getElem?_map] at h
 obtain ⟨c,h1,h2⟩:=Option.map_eq_some_iff.1 h
 exact ⟨c,h1,h2.symm⟩
theorem qN8 (n:Nat) (rows:List (List PV)) (left:Int):∃r,qEA (n+1) rows left=some r:=by
 simp only [qEA,qFr,qC,qE,qG,qH,qJ,qK,Option.bind_some,qF,qM,qN]
 by_cases h:IntKind.i64.wrap (left-rows.length)<0
 ·exact ⟨-1,by simp [h]⟩
 ·exact ⟨IntKind.i64.wrap (left-rows.length),by simp [h]⟩
theorem qN9 (l:List Int) (hb:l.length*8≤140737488351232):∀n,l.length+5≤n→qEC n (l.map q9)=some (l.length,l.map q9):=by
 intro n hn
 obtain ⟨m,rfl,hm⟩:=up1 hn
 simp only [qEC,qFt,qC,qE,qG,qH,qJ,qK,Option.bind_some,qF,qM,qN]
 have h:=qMs (B:=qCJ m) (rows:=l.map q9) (z:= [.i .i64 0]) (r:=fun acc=>((l.map q9).length,acc)) (M:=m)
  (fun i acc e he ha hz=>by
   obtain ⟨c,hc,rfl⟩:=qSf he
   have hi:i<l.length:=(List.getElem?_eq_some_iff.1 hc).1
   have hi':(i:Int)<l.length:=by omega
   have hw:IntKind.i64.wrap ((i:Int)+1)=(i:Int)+1:=qT (by omega)
   have ha':acc.length=l.length:=by simpa using ha
   simp [qCJ,qC,qE,qG,qH,qJ,qK,Option.bind_some,qF,qM,qN,hi',hc,q9,zC,hz,ha',hw,zi])
  (fun acc ha=>by
   have ha':acc.length=l.length:=by simpa using ha
   simp [qCJ,qC,qE,qG,qH,qJ,qK,Option.bind_some,qF,qM,qN])
  (by simp;omega)
 simp only [List.length_map,Int.toNat_natCast] at h⊢
 rw [h]
 have h1:(8:Int)*(l.length:Int)≤140737488355328:=by omega
 have h2:(l.length:Int)≤9223372036854775807:=by omega
 simp [qC,qE,qG,qH,qJ,qK,Option.bind_some,qF,qM,qN,h1,h2]
theorem qOA (l:List Int) (hb:l.length≤140737488351232):∀n,l.length+5≤n→qEL n (l.map q9) (l.map q9)=some true:=by
 intro n hn
 obtain ⟨m,rfl,hm⟩:=up1 hn
 simp only [qEL,qF2,qC,qE,qG,qH,qJ,qK,Option.bind_some,qF,qM,qN]
 have h:=qMt (B:=qCQ m) (rows:=l.map q9) (r:= .inr ())
  (fun i e he=>by
   obtain ⟨c,hc,rfl⟩:=qSf he
   have hi:i<l.length:=(List.getElem?_eq_some_iff.1 hc).1
   have hi':(i:Int)<l.length:=by omega
   have hw:IntKind.i64.wrap ((i:Int)+1)=(i:Int)+1:=qT (by omega)
   simp [qCQ,qC,qE,qG,qH,qJ,qK,Option.bind_some,qF,qM,qN,hi',hc,q9,zC,hw])
  (by simp [qCQ,qC,qE,qG,qH,qJ,qK,Option.bind_some,qF,qM,qN]) l.length 0 m (by simp) (by omega)
 simp only [Int.natCast_zero] at h
 simp [h,qC,qE,qG,qH,qJ,qK,Option.bind_some,qF,qM,qN]
def qIS (op n:Int):Bool:=if op=5 then decide (n=2∨n=3) else if 8≤op∧op≤10 then decide (n=1) else if 1≤op∧op≤7 then decide (1≤n∧n≤10) else false
theorem ten {op:Int} (h:1≤op∧op≤10):op=1∨op=2∨op=3∨op=4∨op=5∨op=6∨op=7∨op=8∨op=9∨op=10:=by omega
theorem qQH (op n:Int):Ev (qFV · op n) (qIS op n):=by
 refine ⟨1,fun n hn=>?_⟩
 obtain ⟨m,rfl,hm⟩:=up1 hn
 simp only [qFV,qHh,qC,qE,qG,qH,qJ,qK,Option.bind_some,qF,qM,qN]
 by_cases h:1≤op∧op≤10
 ·rcases ten h with rfl|rfl|rfl|rfl|rfl|rfl|rfl|rfl|rfl|rfl
  all_goals
   first
   |(by_cases h2:n=2<;>simp [qIS,h2];done)
   |(by_cases h1:n≥1<;>simp [qIS,h1];done)
   |(by_cases h1:n=1<;>simp [qIS,h1];done)
   |(by_cases h2:n=2<;>by_cases h3:n=3<;>simp [qIS,h2,h3];done)
   |(simp [qIS];done)
 ·have e1:¬op=1:=by omega
  have e2:¬op=2:=by omega
  have e3:¬op=3:=by omega
  have e4:¬op=4:=by omega
  have e5:¬op=5:=by omega
  have e6:¬op=6:=by omega
  have e7:¬op=7:=by omega
  have e8:¬op=8:=by omega
  have e9:¬op=9:=by omega
  have e10:¬op=10:=by omega
  have g1:¬(8≤op∧op≤10):=by omega
  have g2:¬(1≤op∧op≤7):=by omega
  simp [qIS,e1,e2,e3,e4,e5,e6,e7,e8,e9,e10,g1,g2]
def zV (k x:Int) (s:ByteArray):Bool:=decide (k=0)&&(decide (x=0)&&(s.toList== []))
def zP (a b:Int) (f g:Bool):Bool:=decide (a=0)&&(decide (b=0)&&(!f&&!g))
def qFA (c:Nd):Bool:=
 if c.1=1 then decide (c.2.1=0)&&(zP c.2.2.2.2.2.1 c.2.2.2.2.2.2.1 c.2.2.2.2.2.2.2.1 c.2.2.2.2.2.2.2.2.1&&(zP c.2.2.2.2.2.2.2.2.2.1 c.2.2.2.2.2.2.2.2.2.2.1 c.2.2.2.2.2.2.2.2.2.2.2.1 c.2.2.2.2.2.2.2.2.2.2.2.2.1&&(decide ((kd c).length=0)&&(okV c.2.2.1 c.2.2.2.1 c.2.2.2.2.1&&(!decide (c.2.2.1=0)&&(!decide (c.2.2.1=1)||decide (c.2.2.2.1≥0))))))) else
 if c.1=2 then decide (c.2.1=0)&&(zV c.2.2.1 c.2.2.2.1 c.2.2.2.2.1&&(zP c.2.2.2.2.2.2.2.2.2.1 c.2.2.2.2.2.2.2.2.2.2.1 c.2.2.2.2.2.2.2.2.2.2.2.1 c.2.2.2.2.2.2.2.2.2.2.2.2.1&&(decide ((kd c).length=0)&&qBI c.2.2.2.2.2.1 c.2.2.2.2.2.2.1))) else
 if c.1=3 then decide (c.2.1=0)&&(zV c.2.2.1 c.2.2.2.1 c.2.2.2.2.1&&(decide ((kd c).length=0)&&qF5 c.2.2.2.2.2.1 c.2.2.2.2.2.2.1 c.2.2.2.2.2.2.2.2.2.1 c.2.2.2.2.2.2.2.2.2.2.1)) else
 if c.1=4 then decide (c.2.1=0)&&(zV c.2.2.1 c.2.2.2.1 c.2.2.2.2.1&&(zP c.2.2.2.2.2.1 c.2.2.2.2.2.2.1 c.2.2.2.2.2.2.2.1 c.2.2.2.2.2.2.2.2.1&&(zP c.2.2.2.2.2.2.2.2.2.1 c.2.2.2.2.2.2.2.2.2.2.1 c.2.2.2.2.2.2.2.2.2.2.2.1 c.2.2.2.2.2.2.2.2.2.2.2.2.1&&decide ((kd c).length=1)))) else
 if c.1=5 then decide (1≤c.2.1∧c.2.1≤11)&&(zV c.2.2.1 c.2.2.2.1 c.2.2.2.2.1&&(zP c.2.2.2.2.2.1 c.2.2.2.2.2.2.1 c.2.2.2.2.2.2.2.1 c.2.2.2.2.2.2.2.2.1&&(zP c.2.2.2.2.2.2.2.2.2.1 c.2.2.2.2.2.2.2.2.2.2.1 c.2.2.2.2.2.2.2.2.2.2.2.1 c.2.2.2.2.2.2.2.2.2.2.2.2.1&&decide ((kd c).length=2)))) else
 if c.1=6 then qIS c.2.1 ((kd c).length:Int)&&(zV c.2.2.1 c.2.2.2.1 c.2.2.2.2.1&&(zP c.2.2.2.2.2.1 c.2.2.2.2.2.2.1 c.2.2.2.2.2.2.2.1 c.2.2.2.2.2.2.2.2.1&&zP c.2.2.2.2.2.2.2.2.2.1 c.2.2.2.2.2.2.2.2.2.2.1 c.2.2.2.2.2.2.2.2.2.2.2.1 c.2.2.2.2.2.2.2.2.2.2.2.2.1)) else false
theorem qVa (k x:Int) (s:ByteArray):((k==(0:Int))&&((x==(0:Int))&&((s.toList==(⟨#[]⟩:ByteArray).toList)&&true)))=zV k x s:=by
 rw [qAE]
 unfold zV
 by_cases h:k=0<;>by_cases h2:x=0<;>simp [h,h2]
theorem qVb (k x:Int) (s:ByteArray):(((0:Int)==k)&&(((0:Int)==x)&&(((⟨#[]⟩:ByteArray).toList==s.toList)&&true)))=zV k x s:=by
 rw [←qVa]
 congr 1
 ·exact Bool.beq_comm
 ·congr 1
  ·exact Bool.beq_comm
  ·congr 1
   exact Bool.beq_comm
theorem qVc (a b:Int) (f g:Bool):((a==(0:Int))&&((b==(0:Int))&&((f==false)&&((g==false)&&true))))=zP a b f g:=by
 unfold zP
 by_cases h:a=0<;>by_cases h2:b=0<;>cases f<;>cases g<;>simp [h,h2]
theorem qVd (a b:Int) (f g:Bool):(((0:Int)==a)&&(((0:Int)==b)&&((false==f)&&((false==g)&&true))))=zP a b f g:=by
 rw [←qVc]
 congr 1
 ·exact Bool.beq_comm
 ·congr 1
  ·exact Bool.beq_comm
  ·cases f<;>cases g<;>rfl
theorem qIT (c:Nd) (hb:c.2.2.2.2.1.size≤140737488351232):Ev (qB4 · c.1 c.2.1 c.2.2.1 c.2.2.2.1 c.2.2.2.2.1 c.2.2.2.2.2.1 c.2.2.2.2.2.2.1 c.2.2.2.2.2.2.2.1 c.2.2.2.2.2.2.2.2.1 c.2.2.2.2.2.2.2.2.2.1 c.2.2.2.2.2.2.2.2.2.2.1 c.2.2.2.2.2.2.2.2.2.2.2.1 c.2.2.2.2.2.2.2.2.2.2.2.2.1 ((c.2.2.2.2.2.2.2.2.2.2.2.2.2).map q9)) (qFA c):=by
 obtain ⟨n1,h1⟩:=qAF c.2.2.1 c.2.2.2.1 c.2.2.2.2.1 hb
 obtain ⟨n2,h2⟩:=qCt c.2.2.2.2.2.1 c.2.2.2.2.2.2.1
 obtain ⟨n3,h3⟩:=qQB c.2.2.2.2.2.1 c.2.2.2.2.2.2.1 c.2.2.2.2.2.2.2.2.2.1 c.2.2.2.2.2.2.2.2.2.2.1
 obtain ⟨n4,h4⟩:=qBw c.2.1 1 11
 obtain ⟨n5,h5⟩:=qQH c.2.1 (((c.2.2.2.2.2.2.2.2.2.2.2.2.2).map q9).length:Int)
 refine ⟨n1+n2+n3+n4+n5+1,fun n hn=>?_⟩
 obtain ⟨m,rfl,hm⟩:=up1 hn
 have h1:=h1 m (by omega)
 dsimp only at h1
 have h2:=h2 m (by omega)
 dsimp only at h2
 have h3:=h3 m (by omega)
 dsimp only at h3
 have h4:=h4 m (by omega)
 dsimp only at h4
 have h5:=h5 m (by omega)
 dsimp only at h5
 simp only [qB4,qFw,qC,qE,qG,qH,qJ,qK,Option.bind_some,qF,qM,qN,h1,h2,h3,h4,h5]
 have hk:((c.2.2.2.2.2.2.2.2.2.2.2.2.2).map q9).length=(kd c).length:=by rw [List.length_map];rfl
 simp only [qVa,qVc,hk]
 unfold qFA
 by_cases k1:c.1=1
 ·simp only [k1,if_true,beq_self_eq_true]
  cases zP c.2.2.2.2.2.1 c.2.2.2.2.2.2.1 c.2.2.2.2.2.2.2.1 c.2.2.2.2.2.2.2.2.1<;>cases zP c.2.2.2.2.2.2.2.2.2.1 c.2.2.2.2.2.2.2.2.2.2.1 c.2.2.2.2.2.2.2.2.2.2.2.1 c.2.2.2.2.2.2.2.2.2.2.2.2.1<;>cases okV c.2.2.1 c.2.2.2.1 c.2.2.2.2.1<;>by_cases h0:c.2.1=0<;>by_cases h1:(kd c).length=0<;>by_cases h2:c.2.2.1=0<;>by_cases h3:c.2.2.1=1<;>simp [h0,h1,h2,h3]
 by_cases k2:c.1=2
 ·simp only [k2]
  cases zV c.2.2.1 c.2.2.2.1 c.2.2.2.2.1<;>cases zP c.2.2.2.2.2.2.2.2.2.1 c.2.2.2.2.2.2.2.2.2.2.1 c.2.2.2.2.2.2.2.2.2.2.2.1 c.2.2.2.2.2.2.2.2.2.2.2.2.1<;>cases qBI c.2.2.2.2.2.1 c.2.2.2.2.2.2.1<;>by_cases h0:c.2.1=0<;>by_cases h1:(kd c).length=0<;>simp [h0,h1]
 by_cases k3:c.1=3
 ·simp only [k3]
  cases zV c.2.2.1 c.2.2.2.1 c.2.2.2.2.1<;>cases qF5 c.2.2.2.2.2.1 c.2.2.2.2.2.2.1 c.2.2.2.2.2.2.2.2.2.1 c.2.2.2.2.2.2.2.2.2.2.1<;>by_cases h0:c.2.1=0<;>by_cases h1:(kd c).length=0<;>simp [h0,h1]
 by_cases k4:c.1=4
 ·simp only [k4]
  cases zV c.2.2.1 c.2.2.2.1 c.2.2.2.2.1<;>cases zP c.2.2.2.2.2.1 c.2.2.2.2.2.2.1 c.2.2.2.2.2.2.2.1 c.2.2.2.2.2.2.2.2.1<;>cases zP c.2.2.2.2.2.2.2.2.2.1 c.2.2.2.2.2.2.2.2.2.2.1 c.2.2.2.2.2.2.2.2.2.2.2.1 c.2.2.2.2.2.2.2.2.2.2.2.2.1<;>by_cases h0:c.2.1=0<;>by_cases h1:(kd c).length=1<;>simp [h0,h1]<;>omega
 by_cases k5:c.1=5
 ·simp only [k5]
  cases zV c.2.2.1 c.2.2.2.1 c.2.2.2.2.1<;>cases zP c.2.2.2.2.2.1 c.2.2.2.2.2.2.1 c.2.2.2.2.2.2.2.1 c.2.2.2.2.2.2.2.2.1<;>cases zP c.2.2.2.2.2.2.2.2.2.1 c.2.2.2.2.2.2.2.2.2.2.1 c.2.2.2.2.2.2.2.2.2.2.2.1 c.2.2.2.2.2.2.2.2.2.2.2.2.1<;>by_cases h0:1≤c.2.1∧c.2.1≤11<;>by_cases h1:(kd c).length=2<;>simp [h0,h1]<;>omega
 by_cases k6:c.1=6
 ·simp only [k6]
  cases zV c.2.2.1 c.2.2.2.1 c.2.2.2.2.1<;>cases zP c.2.2.2.2.2.1 c.2.2.2.2.2.2.1 c.2.2.2.2.2.2.2.1 c.2.2.2.2.2.2.2.2.1<;>cases zP c.2.2.2.2.2.2.2.2.2.1 c.2.2.2.2.2.2.2.2.2.2.1 c.2.2.2.2.2.2.2.2.2.2.2.1 c.2.2.2.2.2.2.2.2.2.2.2.2.1<;>cases qIS c.2.1 ((kd c).length:Int)<;>simp
 simp [k1,k2,k3,k4,k5,k6]
theorem qQI (c:Nd):Ev (qAO · c.1 c.2.1 c.2.2.1 c.2.2.2.1 c.2.2.2.2.1 c.2.2.2.2.2.1 c.2.2.2.2.2.2.1 c.2.2.2.2.2.2.2.1 c.2.2.2.2.2.2.2.2.1 c.2.2.2.2.2.2.2.2.2.1 c.2.2.2.2.2.2.2.2.2.2.1 c.2.2.2.2.2.2.2.2.2.2.2.1 c.2.2.2.2.2.2.2.2.2.2.2.2.1 ((c.2.2.2.2.2.2.2.2.2.2.2.2.2).map q9)) (if c.1=4 then decide (c.2.1=0)&&decide ((kd c).length=1) else if c.1=5 then decide (1≤c.2.1∧c.2.1≤11)&&decide ((kd c).length=2) else if c.1=6 then qIS c.2.1 ((kd c).length:Int) else decide (c.2.1=0)&&decide ((kd c).length=0)):=by
 obtain ⟨n1,h1⟩:=qv c.2.1 1 11
 obtain ⟨n2,h2⟩:=qv c.2.1 1 10
 obtain ⟨n3,h3⟩:=qv (((c.2.2.2.2.2.2.2.2.2.2.2.2.2).map q9).length:Int) 2 3
 obtain ⟨n4,h4⟩:=qv (((c.2.2.2.2.2.2.2.2.2.2.2.2.2).map q9).length:Int) 1 10
 refine ⟨n1+n2+n3+n4+1,fun n hn=>?_⟩
 obtain ⟨m,rfl,hm⟩:=up1 hn
 have h1:=h1 m (by omega)
 dsimp only at h1
 have h2:=h2 m (by omega)
 dsimp only at h2
 have h3:=h3 m (by omega)
 dsimp only at h3
 have h4:=h4 m (by omega)
 dsimp only at h4
 simp only [qAO,qD4,qC,qE,qG,qH,qJ,qK,Option.bind_some,qF,qM,qN,h1,h2,h3,h4]
 have hk:((c.2.2.2.2.2.2.2.2.2.2.2.2.2).map q9).length=(kd c).length:=by rw [List.length_map];rfl
 simp only [hk]
 by_cases k4:c.1=4
 ·simp only [k4]
  by_cases h0:c.2.1=0<;>by_cases h1:(kd c).length=1<;>simp [h0,h1]<;>omega
 by_cases k5:c.1=5
 ·simp only [k5]
  by_cases h0:1≤c.2.1∧c.2.1≤11<;>by_cases h1:(kd c).length=2<;>simp [h0,h1]<;>omega
 by_cases k6:c.1=6
 ·simp only [k6]
  unfold qIS
  by_cases h:1≤c.2.1∧c.2.1≤10
  ·by_cases h5:c.2.1=5
   ·have:(2≤((kd c).length:Int)∧((kd c).length:Int)≤3)↔(((kd c).length:Int)=2∨((kd c).length:Int)=3):=by omega
    simp [h5,this]
   ·by_cases h8:c.2.1≥8
    ·have g:8≤c.2.1∧c.2.1≤10:=by omega
     by_cases h1:((kd c).length:Int)=1<;>simp [h,h5,h8,g,h1]
    ·have g:¬(8≤c.2.1∧c.2.1≤10):=by omega
     have g':1≤c.2.1∧c.2.1≤7:=by omega
     simp [h,h5,h8,g,g']
  ·have h5:¬c.2.1=5:=by omega
   have g:¬(8≤c.2.1∧c.2.1≤10):=by omega
   have g':¬(1≤c.2.1∧c.2.1≤7):=by omega
   simp [h,h5,g,g']
 by_cases h0:c.2.1=0<;>by_cases h1:(kd c).length=0<;>simp [k4,k5,k6,h0,h1]<;>omega
theorem qOB (c:Nd):Ev (qAD · c.1 c.2.1 c.2.2.1 c.2.2.2.1 c.2.2.2.2.1 c.2.2.2.2.2.1 c.2.2.2.2.2.2.1 c.2.2.2.2.2.2.2.1 c.2.2.2.2.2.2.2.2.1 c.2.2.2.2.2.2.2.2.2.1 c.2.2.2.2.2.2.2.2.2.2.1 c.2.2.2.2.2.2.2.2.2.2.2.1 c.2.2.2.2.2.2.2.2.2.2.2.2.1 ((c.2.2.2.2.2.2.2.2.2.2.2.2.2).map q9)) (if c.1=2 then qF5 c.2.2.2.2.2.1 c.2.2.2.2.2.2.1 c.2.2.2.2.2.1 c.2.2.2.2.2.2.1 else if c.1=3 then qF5 c.2.2.2.2.2.1 c.2.2.2.2.2.2.1 c.2.2.2.2.2.2.2.2.2.1 c.2.2.2.2.2.2.2.2.2.2.1 else true):=by
 have g:Ev (qCj · c.1 c.2.1 c.2.2.1 c.2.2.2.1 c.2.2.2.2.1 c.2.2.2.2.2.1 c.2.2.2.2.2.2.1 c.2.2.2.2.2.2.2.1 c.2.2.2.2.2.2.2.2.1 c.2.2.2.2.2.2.2.2.2.1 c.2.2.2.2.2.2.2.2.2.2.1 c.2.2.2.2.2.2.2.2.2.2.2.1 c.2.2.2.2.2.2.2.2.2.2.2.2.1 ((c.2.2.2.2.2.2.2.2.2.2.2.2.2).map q9)) (if c.1=2 then (c.2.2.2.2.2.1,c.2.2.2.2.2.2.1,c.2.2.2.2.2.1,c.2.2.2.2.2.2.1) else (c.2.2.2.2.2.1,c.2.2.2.2.2.2.1,c.2.2.2.2.2.2.2.2.2.1,c.2.2.2.2.2.2.2.2.2.2.1)):=by
  refine ⟨1,fun n hn=>?_⟩
  obtain ⟨m,rfl,hm⟩:=up1 hn
  simp only [qCj,qE0,qC,qE,qG,qH,qJ,qK,Option.bind_some,qF,qM,qN]
  by_cases k2:c.1=2<;>simp [k2]
 obtain ⟨n1,h1⟩:=g
 obtain ⟨n2,h2⟩:=qKV c.2.2.2.2.2.1 c.2.2.2.2.2.2.1 c.2.2.2.2.2.1 c.2.2.2.2.2.2.1
 obtain ⟨n3,h3⟩:=qKV c.2.2.2.2.2.1 c.2.2.2.2.2.2.1 c.2.2.2.2.2.2.2.2.2.1 c.2.2.2.2.2.2.2.2.2.2.1
 refine ⟨n1+n2+n3+1,fun n hn=>?_⟩
 obtain ⟨m,rfl,hm⟩:=up1 hn
 have h1:=h1 m (by omega)
 dsimp only at h1
 have h2:=h2 m (by omega)
 dsimp only at h2
 have h3:=h3 m (by omega)
 dsimp only at h3
 simp only [qAD,qDP,qC,qE,qG,qH,qJ,qK,Option.bind_some,qF,qM,qN,h1,h2,h3]
 by_cases k2:c.1=2
 ·simp [k2,h2]
 ·by_cases k3:c.1=3
  ·simp [k3,h3]
  ·simp [k2,k3]
theorem qUB (a b:Int):qF5 a b a b=qBI a b:=by
 unfold qF5
 cases qBI a b<;>simp
theorem qQ7 (c:Nd) (hb:c.2.2.2.2.1.size≤140737488351232):Ev (qDF · c.1 c.2.1 c.2.2.1 c.2.2.2.1 c.2.2.2.2.1 c.2.2.2.2.2.1 c.2.2.2.2.2.2.1 c.2.2.2.2.2.2.2.1 c.2.2.2.2.2.2.2.2.1 c.2.2.2.2.2.2.2.2.2.1 c.2.2.2.2.2.2.2.2.2.2.1 c.2.2.2.2.2.2.2.2.2.2.2.1 c.2.2.2.2.2.2.2.2.2.2.2.2.1 ((c.2.2.2.2.2.2.2.2.2.2.2.2.2).map q9)) (qFA c):=by
 obtain ⟨n1,g1⟩:=qF4 c.2.2.1 c.2.2.2.1 c.2.2.2.2.1 hb
 obtain ⟨n2,g2⟩:=qOB c
 obtain ⟨n3,g3⟩:=qQI c
 refine ⟨n1+n2+n3+1,fun n hn=>?_⟩
 obtain ⟨m,rfl,hm⟩:=up1 hn
 have g1:=g1 m (by omega)
 have g2:=g2 m (by omega)
 have g3:=g3 m (by omega)
 dsimp only at g1 g2 g3
 rw [qUB] at g2
 simp only [qDF,qES,qC,qE,qG,qH,qJ,qK,Option.bind_some,qF,qM,qN,g1,g2,g3,qVb,qVd]
 simp only [beq_self_eq_true,Bool.and_true,Bool.true_and]
 unfold qFA
 by_cases k1:c.1=1
 ·have h5:(c.2.2.2.1≥0)=¬(c.2.2.2.1<0):=propext Int.not_lt.symm
  simp only [k1,h5]
  cases zP c.2.2.2.2.2.1 c.2.2.2.2.2.2.1 c.2.2.2.2.2.2.2.1 c.2.2.2.2.2.2.2.2.1<;>cases zP c.2.2.2.2.2.2.2.2.2.1 c.2.2.2.2.2.2.2.2.2.2.1 c.2.2.2.2.2.2.2.2.2.2.2.1 c.2.2.2.2.2.2.2.2.2.2.2.2.1<;>cases okV c.2.2.1 c.2.2.2.1 c.2.2.2.2.1<;>by_cases h0:c.2.1=0<;>by_cases h1:(kd c).length=0<;>by_cases h2:c.2.2.1=0<;>by_cases h3:c.2.2.1=1<;>by_cases h4:c.2.2.2.1<0<;>simp [h0,h1,h2,h3,h4]<;>(try omega)
 by_cases k2:c.1=2
 ·simp only [k2]
  cases zV c.2.2.1 c.2.2.2.1 c.2.2.2.2.1<;>cases zP c.2.2.2.2.2.2.2.2.2.1 c.2.2.2.2.2.2.2.2.2.2.1 c.2.2.2.2.2.2.2.2.2.2.2.1 c.2.2.2.2.2.2.2.2.2.2.2.2.1<;>cases qBI c.2.2.2.2.2.1 c.2.2.2.2.2.2.1<;>by_cases h0:c.2.1=0<;>by_cases h1:(kd c).length=0<;>simp [h0,h1]
 by_cases k3:c.1=3
 ·simp only [k3]
  cases zV c.2.2.1 c.2.2.2.1 c.2.2.2.2.1<;>cases qF5 c.2.2.2.2.2.1 c.2.2.2.2.2.2.1 c.2.2.2.2.2.2.2.2.2.1 c.2.2.2.2.2.2.2.2.2.2.1<;>by_cases h0:c.2.1=0<;>by_cases h1:(kd c).length=0<;>simp [h0,h1]
 by_cases k4:c.1=4
 ·simp only [k4]
  cases zV c.2.2.1 c.2.2.2.1 c.2.2.2.2.1<;>cases zP c.2.2.2.2.2.1 c.2.2.2.2.2.2.1 c.2.2.2.2.2.2.2.1 c.2.2.2.2.2.2.2.2.1<;>cases zP c.2.2.2.2.2.2.2.2.2.1 c.2.2.2.2.2.2.2.2.2.2.1 c.2.2.2.2.2.2.2.2.2.2.2.1 c.2.2.2.2.2.2.2.2.2.2.2.2.1<;>by_cases h0:c.2.1=0<;>by_cases h1:(kd c).length=1<;>simp [h0,h1]
 by_cases k5:c.1=5
 ·simp only [k5]
  cases zV c.2.2.1 c.2.2.2.1 c.2.2.2.2.1<;>cases zP c.2.2.2.2.2.1 c.2.2.2.2.2.2.1 c.2.2.2.2.2.2.2.1 c.2.2.2.2.2.2.2.2.1<;>cases zP c.2.2.2.2.2.2.2.2.2.1 c.2.2.2.2.2.2.2.2.2.2.1 c.2.2.2.2.2.2.2.2.2.2.2.1 c.2.2.2.2.2.2.2.2.2.2.2.2.1<;>by_cases h0:1≤c.2.1∧c.2.1≤11<;>by_cases h1:(kd c).length=2<;>simp [h0,h1]
 by_cases k6:c.1=6
 ·simp only [k6]
  cases zV c.2.2.1 c.2.2.2.1 c.2.2.2.2.1<;>cases zP c.2.2.2.2.2.1 c.2.2.2.2.2.2.1 c.2.2.2.2.2.2.2.1 c.2.2.2.2.2.2.2.2.1<;>cases zP c.2.2.2.2.2.2.2.2.2.1 c.2.2.2.2.2.2.2.2.2.2.1 c.2.2.2.2.2.2.2.2.2.2.2.1 c.2.2.2.2.2.2.2.2.2.2.2.2.1<;>cases qIS c.2.1 ((kd c).length:Int)<;>simp
 simp [k1,k2,k3,k4,k5,k6]
section
variable (own area call:Int→Bool) (kids:Int→List Int)
def goF (F:Int→Int) (n:Int):List Int→Int→Int
 | [],start=>start
 |k::r,start=>if k≠start-1∨k<0∨(area k=true∧call n=false) then-1 else if F k<0 then-1 else goF F n r (F k)
def qCl:Nat→Int→Int
 |0,_=> -1
 |f+1,n=>if n<0∨own n=false then-1 else goF area call (qCl f) n (kids n).reverse n
def goT (F:Int→Int):List Int→Int→Int
 | [],x=>x+1
 |k::r,x=>if x<0∨k≠x then-1 else if F x<0 then-1 else goT F r (F x-1)
def qCu:Nat→Int→Int
 |0,_=> -1
 |f+1,n=>goT (qCu f) (kids n).reverse (n-1)
def qKX:List Int→Int
 | []=>0
 |x::r=>max x (qKX r)
def qAz:Nat→Int→Int
 |0,_=>0
 |f+1,n=>qKX ((kids n).map fun k=>qAz f k)+1
def qG5 (i:Int):Prop:=∀k∈kids i,0≤k∧k≤i-1∧¬(area k=true∧call i=false)
theorem qQJ:∀(f:Nat) (n:Int),0≤n→qCu kids f n≤n
 |0,n,h=>by rw [qCu];omega
 |f+1,n,h=>by
  have go:∀(l:List Int) (x:Int),x+1≤n→-1≤x→goT (qCu kids f) l x≤n:=by
   intro l
   induction l with
   |nil=>intro x h1 h2;rw [goT];omega
   |cons k r ih=>
    intro x h1 h2
    rw [goT]
    split
    ·omega
    ·split
     ·omega
     ·have:=qQJ f x (by omega)
      exact ih _ (by omega) (by omega)
  rw [qCu]
  exact go _ _ (by omega) (by omega)
theorem qTV {l:List Int} {b:Int} (h0:0≤b):qKX l≤b↔∀x∈l,x≤b:=by
 induction l with
 |nil=>simp [qKX,h0]
 |cons a r ih=>simp only [qKX,List.mem_cons,forall_eq_or_imp];rw [Int.max_le,ih]
theorem qQK {n b:Int} {f:Nat} (h0:1≤b):qAz kids (f+1) n≤b↔∀k∈kids n,qAz kids f k≤b-1:=by
 rw [qAz]
 constructor
 ·intro h k hk
  exact (qTV (l:=(kids n).map fun k=>qAz kids f k) (by omega)).1 (by omega) _ (List.mem_map_of_mem (f:=fun k=>qAz kids f k) hk)
 ·intro h
  have:=(qTV (l:=(kids n).map fun k=>qAz kids f k) (b:=b-1) (by omega)).2 (by
   intro x hx
   obtain ⟨k,hk,rfl⟩:=List.mem_map.1 hx
   exact h k hk)
  omega
theorem qQL:∀(f g:Nat) (n:Int),n<f→n<g→(∀i,0≤i→i≤n→qG5 area call kids i)→0≤n→qAz kids f n=qAz kids g n
 |0,g,n,h1,h2,_,h3=>by omega
 |f+1,0,n,h1,h2,_,h3=>by omega
 |f+1,g+1,n,h1,h2,hk,h3=>by
  rw [qAz,qAz]
  congr 2
  apply List.map_congr_left
  intro k hm
  have:=hk n h3 (by omega) k hm
  exact qQL f g k (by omega) (by omega) (fun i h0 h1=>hk i h0 (by omega)) (by omega)
theorem qOC:∀(f:Nat) (n:Int),0≤n→n<f→1≤qAz kids f n
 |0,n,h,h'=>by omega
 |f+1,n,h,h'=>by
  rw [qAz]
  have:∀l:List Int,0≤qKX l:=by
   intro l
   induction l with
   |nil=>exact Int.le_refl 0
   |cons a r ih=>simp only [qKX];omega
  have:=this ((kids n).map fun k=>qAz kids f k)
  omega
theorem qR9:∀(f g:Nat) (n:Int),0≤n→n<g→0≤qCl own area call kids f n→
  qCl own area call kids f n≤n∧qCu kids g n=qCl own area call kids f n∧(∀i,qCl own area call kids f n≤i→i≤n→own i=true∧qG5 area call kids i)∧(∀h:Nat,(∀i,0≤i→i≤n→qG5 area call kids i)→n<h→qAz kids h n≤f)
 |0,g,n,h0,h1,h2=>by rw [qCl] at h2;omega
 |f+1,0,n,h0,h1,h2=>by omega
 |f+1,g+1,n,h0,h1,h2=>by
  rw [qCl] at h2⊢
  split at h2
  ·omega
  ·rename_i hc
   rw [if_neg hc]
   have go:∀(l:List Int) (s:Int),0≤s→s≤n→0≤goF area call (qCl own area call kids f) n l s→
     goF area call (qCl own area call kids f) n l s≤s∧goT (qCu kids g) l (s-1)=goF area call (qCl own area call kids f) n l s∧(∀i,goF area call (qCl own area call kids f) n l s≤i→i≤s-1→own i=true∧qG5 area call kids i)∧(∀k∈l,0≤k∧k≤n-1∧¬(area k=true∧call n=false))∧(∀h:Nat,(∀i,0≤i→i≤n→qG5 area call kids i)→n<h→∀k∈l,qAz kids h k≤f):=by
    intro l
    induction l with
    |nil=>
     intro s h3 h4 h5
     rw [goF] at h5⊢
     rw [goT]
     refine ⟨by omega,by omega,fun i _ _=>by omega,fun k hk=>(by cases hk),fun h _ _ k hk=>(by cases hk)⟩
    |cons k r ih=>
     intro s h3 h4 h5
     rw [goF] at h5⊢
     split at h5
     ·omega
     ·rename_i hd
      rw [if_neg hd]
      split at h5
      ·omega
      ·rename_i he
       rw [if_neg he]
       have hk:k=s-1:=by omega
       subst hk
       obtain ⟨a1,a2,a3,a4⟩:=qR9 f g (s-1) (by omega) (by omega) (by omega)
       obtain ⟨b1,b2,b3,b4,b5⟩:=ih _ (by omega) (by omega) h5
       refine ⟨by omega,?_,?_,?_,?_⟩
       ·rw [goT,if_neg (by omega),a2,if_neg he,b2]
       ·intro i i1 i2
        by_cases hi:qCl own area call kids f (s-1)≤i
        ·exact a3 i hi i2
        ·exact b3 i i1 (by omega)
       ·intro k hk
        rcases List.mem_cons.1 hk with rfl|hk
        ·exact ⟨by omega,by omega,fun h=>hd (.inr (.inr h))⟩
        ·exact b4 k hk
       ·intro h hx hy k hk
        rcases List.mem_cons.1 hk with rfl|hk
        ·exact a4 h (fun i i1 i2=>hx i i1 (by omega)) (by omega)
        ·exact b5 h hx hy k hk
   obtain ⟨c1,c2,c3,c4,c5⟩:=go _ n h0 (Int.le_refl n) h2
   have hown:own n=true:=by cases ho:own n with
    |true=>rfl
    |false=>exact absurd (.inr ho) hc
   refine ⟨c1,by rw [qCu];exact c2,?_,?_⟩
   ·intro i i1 i2
    by_cases hi:i=n
    ·subst hi
     exact ⟨hown,fun k hk=>c4 k (List.mem_reverse.2 hk)⟩
    ·exact c3 i i1 (by omega)
   ·intro h hx hy
    cases h with
    |zero=>omega
    |succ h=>
     refine (qQK kids (by omega)).2 fun k hk=>?_
     have hin:=hx n h0 (Int.le_refl n) k hk
     have e:qAz kids h k=qAz kids (n.toNat+1) k:=qQL area call kids _ _ _ (by omega) (by omega) (fun i i1 i2=>hx i i1 (by omega)) (by omega)
     rw [e]
     have:=c5 (n.toNat+1) hx (by omega) k (List.mem_reverse.2 hk)
     omega
theorem qTW:∀(f g h:Nat) (n:Int),0≤n→n<g→n<h→(∀i,0≤i→i≤n→own i=true∧qG5 area call kids i)→0≤qCu kids g n→qAz kids h n≤f→qCl own area call kids f n=qCu kids g n
 |0,g,h,n,h0,h1,h1',h2,h3,h4=>by have:=qOC kids h n h0 h1';omega
 |f+1,0,h,n,h0,h1,_,h2,h3,h4=>by omega
 |f+1,g+1,0,n,h0,h1,_,h2,h3,h4=>by omega
 |f+1,g+1,h+1,n,h0,h1,h1',h2,h3,h4=>by
  have hd:=(qQK kids (b:=((f+1:Nat):Int)) (by omega)).1 h4
  have go:∀(l:List Int) (s:Int),(∀k∈l,k∈kids n)→0≤s→s≤n→0≤goT (qCu kids g) l (s-1)→goF area call (qCl own area call kids f) n l s=goT (qCu kids g) l (s-1):=by
   intro l
   induction l with
   |nil=>intro s _ _ _ _;rw [goF,goT];omega
   |cons k r ih=>
    intro s hm h3 h4 h5
    rw [goT] at h5⊢
    rw [goF]
    split at h5
    ·omega
    ·rename_i hc
     rw [if_neg hc]
     split at h5
     ·omega
     ·rename_i he
      rw [if_neg he]
      have hk:k=s-1:=by omega
      have hin:=(h2 n h0 (Int.le_refl n)).2 k (hm k (List.mem_cons_self ..))
      have hdk:=hd k (hm k (List.mem_cons_self ..))
      subst hk
      have e:=qTW f g h (s-1) (by omega) (by omega) (by omega) (fun i i1 i2=>h2 i i1 (by omega)) (by omega) (by omega)
      have hb:¬(s-1≠s-1∨s-1<0∨(area (s-1)=true∧call n=false)):=fun hx=>by
       rcases hx with hx|hx|hx
       ·exact hx rfl
       ·omega
       ·exact hin.2.2 hx
      rw [if_neg hb,e,if_neg he]
      have hle:=qQJ kids g (s-1) (by omega)
      exact ih _ (fun k hk=>hm k (List.mem_cons_of_mem _ hk)) (by omega) (by omega) h5
  rw [qCu] at h3
  have hn:¬(n<0∨own n=false):=fun hx=>by
   rcases hx with hx|hx
   ·omega
   ·rw [(h2 n h0 (Int.le_refl n)).1] at hx;cases hx
  rw [qCl,qCu,if_neg hn]
  exact go _ n (fun k hk=>List.mem_reverse.1 hk) h0 (Int.le_refl n) h3
end
theorem qBa (c:Nd):(qa c).length=14:=rfl
theorem qBF (k:Int):(q9 k).length=1:=rfl
theorem qAm (k:Int):zC .i64 (q9 k) 0=some k:=rfl
theorem qAU (c:Nd):zC .i64 (qa c) 0=some c.1:=rfl
theorem qAV (c:Nd):zC .i64 (qa c) 1=some c.2.1:=rfl
theorem qAW (c:Nd):zC .i64 (qa c) 2=some c.2.2.1:=rfl
theorem qAX (c:Nd):zC .i64 (qa c) 3=some c.2.2.2.1:=rfl
theorem qAY (c:Nd):zR (qa c) 4=some c.2.2.2.2.1:=rfl
theorem qAZ (c:Nd):zC .i64 (qa c) 5=some c.2.2.2.2.2.1:=rfl
theorem qAa (c:Nd):zC .i64 (qa c) 6=some c.2.2.2.2.2.2.1:=rfl
theorem qAb (c:Nd):zAG (qa c) 7=some c.2.2.2.2.2.2.2.1:=rfl
theorem qAc (c:Nd):zAG (qa c) 8=some c.2.2.2.2.2.2.2.2.1:=rfl
theorem qAd (c:Nd):zC .i64 (qa c) 9=some c.2.2.2.2.2.2.2.2.2.1:=rfl
theorem qx (c:Nd):zC .i64 (qa c) 10=some c.2.2.2.2.2.2.2.2.2.2.1:=rfl
theorem qy (c:Nd):zAG (qa c) 11=some c.2.2.2.2.2.2.2.2.2.2.2.1:=rfl
theorem qz (c:Nd):zAG (qa c) 12=some c.2.2.2.2.2.2.2.2.2.2.2.2.1:=rfl
theorem q7 (c:Nd):zd (qa c) 13=some ((c.2.2.2.2.2.2.2.2.2.2.2.2.2).map q9):=rfl
def nd0:Nd:=(0,0,0,0,⟨#[]⟩,0,0,false,false,0,0,false,false,[])
def ndi (l:List Nd) (i:Int):Nd:=l.getD i.toNat nd0
def qV (l:List Nd) (i:Int):List Int:=kd (ndi l i)
def qGR (l:List Nd) (i:Int):Bool:=qFA (ndi l i)
def qBf (l:List Nd) (i:Int):Bool:=decide ((ndi l i).1=3)
def qCH (l:List Nd) (i:Int):Bool:=decide ((ndi l i).1=6)
theorem qCx {l:List Nd} {i:Int} (h:0≤i∧i<l.length):l[i.toNat]?=some (ndi l i):=by
 have:i.toNat<l.length:=by omega
 unfold ndi
 rw [List.getElem?_eq_getElem this,List.getD_eq_getElem?_getD,List.getElem?_eq_getElem this]
 rfl
theorem qI5 {l:List Nd} {i:Int} (h:0≤i∧i<l.length):ndi l i∈l:=List.mem_of_getElem? (qCx h)
theorem qSg {α:Type} {l:List α} {j:Nat} {k:α} (h:l[j]?=some k):(l.take (j+1)).reverse=k::(l.take j).reverse:=by
 rw [List.take_add_one,h]
 simp
theorem qSh {R:Type} {F:Int→Nat→Option R} {f:Int→R} (x:Int) (h:∀y,0≤y→y<x→Ev (F y) (f y)):∃n0,∀n,n0≤n→∀y,0≤y→y<x→F y n=some (f y):=by
 obtain ⟨n0,h0⟩:=qAl (F:=F) (f:=f) ((List.range x.toNat).map fun (i:Nat)=>(i:Int)) (fun c hc=>by
  obtain ⟨i,hi,rfl⟩:=List.mem_map.1 hc
  have:=List.mem_range.1 hi
  exact h _ (Int.natCast_nonneg i) (by omega))
 refine ⟨n0,fun n hn y h1 h2=>h0 n hn y (List.mem_map.2 ⟨y.toNat,List.mem_range.2 (by omega),by omega⟩)⟩
theorem qRR (l:List Nd) (x1:Int) (f n:Nat) (hx:0≤x1∧x1<l.length) (hl:l.length≤140737488351232) (hk:(kd (ndi l x1)).length≤140737488351232)
  (hrec:∀y:Int,0≤y→y<x1→qAo n (l.map qa) y=some (qCu (qV l) f y)):
  ∀(j M:Nat) (s:Int),j≤(kd (ndi l x1)).length→j+1≤M→-1≤s→s<x1→
   (∃x,zD (qA6 (qAo n) n) M (l.map qa,x1,s,(j:Int)-1)=some (.inr x)∧goT (qCu (qV l) f) ((qV l x1).take j).reverse s=x+1∧-1≤x∧x<x1)∨
   (zD (qA6 (qAo n) n) M (l.map qa,x1,s,(j:Int)-1)=some (.inl (-1))∧goT (qCu (qV l) f) ((qV l x1).take j).reverse s= -1)
 |0,0,s,h1,h2,h3,h4=>by omega
 |0,M+1,s,h1,h2,h3,h4=>by
  refine .inl ⟨s,?_,by simp [goT],h3,h4⟩
  rw [qP (r:= .inr s) (by simp [-getElem?_pos,qA6,qC,qE,qG,qH,qJ,qK,Option.bind_some,qF,qM,qN])]
 |j+1,0,s,h1,h2,h3,h4=>by omega
 |j+1,M+1,s,h1,h2,h3,h4=>by
  have hc:=qCx hx
  have hj:j<(kd (ndi l x1)).length:=by omega
  have hg:(qV l x1)[j]?=some (qV l x1)[j]:=List.getElem?_eq_getElem hj
  have ih:=qRR l x1 f n hx hl hk hrec j M
  rw [qSg hg]
  generalize (qV l x1)[j]=k at hg
  have hi:(((j+1:Nat):Int)-1)=(j:Int):=by omega
  rw [hi,goT]
  have hg':(ndi l x1).2.2.2.2.2.2.2.2.2.2.2.2.2[j]?=some k:=hg
  have hj':j<(ndi l x1).2.2.2.2.2.2.2.2.2.2.2.2.2.length:=hj
  by_cases hs:s<0
  ·refine .inr ⟨?_,by rw [if_pos (.inl hs)]⟩
   rw [qP (r:= .inl (-1)) (by simp [-getElem?_pos,qA6,qC,qE,qG,qH,qJ,qK,Option.bind_some,qF,qM,qN,hs])]
  ·by_cases hks:k=s
   ·subst hks
    have hr:=hrec k (by omega) h4
    by_cases ht:qCu (qV l) f k<0
    ·refine .inr ⟨?_,by rw [if_neg (by omega),if_pos ht]⟩
     rw [qP (r:= .inl (-1)) (by simp [-getElem?_pos,qA6,qC,qE,qG,qH,qJ,qK,Option.bind_some,qF,qM,qN,hs,hc,hx,qBa,qBF,qAm,qAU,qAV,qAW,qAX,qAY,qAZ,qAa,qAb,qAc,qAd,qx,qy,qz,q7,hg',hj',hr,ht])]
    ·have hle:=qQJ (qV l) f k (by omega)
     have hw:IntKind.i64.wrap (qCu (qV l) f k-1)=qCu (qV l) f k-1:=qT (by omega)
     have hw2:IntKind.i64.wrap ((j:Int)-1)=(j:Int)-1:=qT (by omega)
     rw [if_neg (by omega),if_neg ht]
     rw [qU (v':=(l.map qa,x1,qCu (qV l) f k-1,(j:Int)-1)) (by simp [-getElem?_pos,qA6,qC,qE,qG,qH,qJ,qK,Option.bind_some,qF,qM,qN,hs,hc,hx,qBa,qBF,qAm,qAU,qAV,qAW,qAX,qAY,qAZ,qAa,qAb,qAc,qAd,qx,qy,qz,q7,hg',hj',hr,ht,hw,hw2])]
     exact ih _ (by omega) (by omega) (by omega) (by omega)
   ·refine .inr ⟨?_,by rw [if_pos (.inr hks)]⟩
    rw [qP (r:= .inl (-1)) (by simp [-getElem?_pos,qA6,qC,qE,qG,qH,qJ,qK,Option.bind_some,qF,qM,qN,hs,hc,hx,qBa,qBF,qAm,qAU,qAV,qAW,qAX,qAY,qAZ,qAa,qAb,qAc,qAd,qx,qy,qz,q7,hg',hj',hks])]
theorem qKY (l:List Nd) (hl:l.length≤140737488351232) (hk:∀c∈l,(kd c).length≤140737488351232):∀(f:Nat) (x:Int),0≤x→x<l.length→x<f→Ev (qAo · (l.map qa) x) (qCu (qV l) f x)
 |0,x,h0,h1,h2=>by omega
 |f+1,x,h0,h1,h2=>by
  obtain ⟨n0,hn0⟩:=qSh (F:=fun y n=>qAo n (l.map qa) y) (f:=fun y=>qCu (qV l) f y) x (fun y h3 h4=>qKY l hl hk f y h3 (by omega) (by omega))
  refine ⟨n0+(kd (ndi l x)).length+5,fun n hn=>?_⟩
  obtain ⟨m,rfl,hm⟩:=up1 hn
  have hc:=qCx (l:=l) (i:=x) ⟨h0,h1⟩
  have hkx:=hk _ (qI5 (l:=l) ⟨h0,h1⟩)
  have hw:IntKind.i64.wrap (x-1)=x-1:=qT (by omega)
  have hw2:IntKind.i64.wrap (((kd (ndi l x)).length:Int)-1)=((kd (ndi l x)).length:Int)-1:=qT (by omega)
  have h:=qRR l x f m ⟨h0,h1⟩ hl hkx (hn0 m (by omega)) (kd (ndi l x)).length m (x-1) (Nat.le_refl _) (by omega) (by omega) (by omega)
  have e:(qV l x).take (kd (ndi l x)).length=qV l x:=List.take_length
  rw [e] at h
  rw [show qCu (qV l) (f+1) x=goT (qCu (qV l) f) (qV l x).reverse (x-1) from rfl]
  unfold kd at h hw2
  dsimp only
  simp only [qAo,qHm,qC,qE,qG,qH,qJ,qK,Option.bind_some,qF,qM,qN]
  rcases h with ⟨y,g1,g2,g3,g4⟩|⟨g1,g2⟩
  ·have hw3:IntKind.i64.wrap (y+1)=y+1:=qT (by omega)
   rw [g2]
   simp [-getElem?_pos,qC,qE,qG,qH,qJ,qK,Option.bind_some,qF,qM,qN,hc,h0,h1,qBa,qBF,qAm,qAU,qAV,qAW,qAX,qAY,qAZ,qAa,qAb,qAc,qAd,qx,qy,qz,q7,hw,hw2,g1,hw3]
  ·rw [g2]
   simp [-getElem?_pos,qC,qE,qG,qH,qJ,qK,Option.bind_some,qF,qM,qN,hc,h0,h1,qBa,qBF,qAm,qAU,qAV,qAW,qAX,qAY,qAZ,qAa,qAb,qAc,qAd,qx,qy,qz,q7,hw,hw2,g1]
theorem qOD (kids:Int→List Int):∀(f:Nat) (n:Int),0≤qAz kids f n∧qAz kids f n≤f
 |0,n=>by rw [qAz];omega
 |f+1,n=>by
  have:∀l:List Int,0≤qKX (l.map fun k=>qAz kids f k)∧qKX (l.map fun k=>qAz kids f k)≤f:=by
   intro l
   induction l with
   |nil=>exact ⟨Int.le_refl 0,Int.natCast_nonneg f⟩
   |cons a r ih=>have:=qOD kids f a;simp only [List.map_cons,qKX];omega
  have:=this (kids n)
  rw [qAz]
  omega
theorem qRS (l:List Nd) (x1:Int) (f n:Nat) (hx:0≤x1∧x1<l.length) (hf:f≤1000) (hk:(kd (ndi l x1)).length≤140737488351232)
  (hrec:∀k∈qV l x1,qAp n (l.map qa) k=some (qAz (qV l) f k)):
  ∀(m i M:Nat) (a:Int),(kd (ndi l x1)).length=i+m→m+1≤M→0≤a→
   zD (qC3 (qAp n) n) M (l.map qa,x1,a,(i:Int))=some (max a (qKX (((qV l x1).drop i).map fun k=>qAz (qV l) f k)))
 |m,i,0,a,h1,h2,h3=>by omega
 |0,i,M+1,a,h1,h2,h3=>by
  have hc:=qCx hx
  have hi:¬i<(ndi l x1).2.2.2.2.2.2.2.2.2.2.2.2.2.length:=by unfold kd at h1;omega
  rw [qP (r:=a) (by simp [-getElem?_pos,qC3,qC,qE,qG,qH,qJ,qK,Option.bind_some,qF,qM,qN,hc,hx,qBa,qBF,qAm,qAU,qAV,qAW,qAX,qAY,qAZ,qAa,qAb,qAc,qAd,qx,qy,qz,q7,hi])]
  rw [List.drop_eq_nil_of_le (by unfold qV;omega)]
  simp only [List.map_nil,qKX]
  congr 1
  omega
 |m+1,i,M+1,a,h1,h2,h3=>by
  have hc:=qCx hx
  have hj:i<(kd (ndi l x1)).length:=by omega
  have hg:(qV l x1)[i]?=some (qV l x1)[i]:=List.getElem?_eq_getElem hj
  rw [qDN hg]
  have hr:=hrec _ (List.mem_of_getElem? hg)
  generalize (qV l x1)[i]=k at hg hr
  have hg':(ndi l x1).2.2.2.2.2.2.2.2.2.2.2.2.2[i]?=some k:=hg
  have hj':i<(ndi l x1).2.2.2.2.2.2.2.2.2.2.2.2.2.length:=hj
  have hj'':(i:Int)<((ndi l x1).2.2.2.2.2.2.2.2.2.2.2.2.2.length:Int):=by omega
  have hw:IntKind.i64.wrap ((i:Int)+1)=((i+1:Nat):Int):=by rw [qT (by omega)];omega
  have hd:=qOD (qV l) f k
  rw [qU (v':=(l.map qa,x1,(if qAz (qV l) f k>a then qAz (qV l) f k else a),((i+1:Nat):Int))) (by simp [-getElem?_pos,qC3,qC,qE,qG,qH,qJ,qK,Option.bind_some,qF,qM,qN,hc,hx,qBa,qBF,qAm,qAU,qAV,qAW,qAX,qAY,qAZ,qAa,qAb,qAc,qAd,qx,qy,qz,q7,hg',hj',hr,hw])]
  rw [qRS l x1 f n hx hf hk hrec m (i+1) M _ (by omega) (by omega) (by split<;>omega)]
  simp only [List.map_cons,qKX]
  congr 1
  split<;>omega
theorem qKZ (l:List Nd) (hl:l.length≤60) (hk:∀c∈l,(kd c).length≤140737488351232) (hin:∀i:Int,0≤i→i<l.length→qG5 (qBf l) (qCH l) (qV l) i):∀(f:Nat) (x:Int),f≤1000→0≤x→x<l.length→x<f→Ev (qAp · (l.map qa) x) (qAz (qV l) f x)
 |0,x,hf,h0,h1,h2=>by omega
 |f+1,x,hf,h0,h1,h2=>by
  obtain ⟨n0,hn0⟩:=qAl (F:=fun y n=>qAp n (l.map qa) y) (f:=fun y=>qAz (qV l) f y) (qV l x) (fun y hy=>by
   have:=hin x h0 h1 y hy
   exact qKZ l hl hk hin f y (by omega) (by omega) (by omega) (by omega))
  refine ⟨n0+(kd (ndi l x)).length+5,fun n hn=>?_⟩
  obtain ⟨m,rfl,hm⟩:=up1 hn
  have h:=qRS l x f m ⟨h0,h1⟩ (by omega) (hk _ (qI5 (l:=l) ⟨h0,h1⟩)) (hn0 m (by omega)) (kd (ndi l x)).length 0 m 0 (by omega) (by omega) (by omega)
  have hd:=qOD (qV l) (f+1) x
  have e:max 0 (qKX ((qV l x).map fun k=>qAz (qV l) f k))+1=qAz (qV l) (f+1) x:=by
   rw [qAz]
   have:∀q:List Int,0≤qKX q:=by
    intro q
    induction q with
    |nil=>exact Int.le_refl 0
    |cons a r ih=>simp only [qKX];omega
   have:=this ((qV l x).map fun k=>qAz (qV l) f k)
   omega
  rw [List.drop_zero] at h
  simp only [Int.natCast_zero] at h
  have hw:IntKind.i64.wrap (max 0 (qKX ((qV l x).map fun k=>qAz (qV l) f k))+1)=qAz (qV l) (f+1) x:=by rw [e,qT (by omega)]
  simp only [qAp,qHo,qC,qE,qG,qH,qJ,qK,Option.bind_some,qF,qM,qN,h,hw]
def inB (l:List Nd) (i:Int):Bool:=(qV l i).all fun k=>decide (0≤k∧k≤i-1)&&!(qBf l k&&!qCH l i)
theorem qTX {l:List Nd} {i:Int}:inB l i=true↔qG5 (qBf l) (qCH l) (qV l) i:=by
 unfold inB qG5
 rw [List.all_eq_true]
 refine forall_congr' fun k=>forall_congr' fun hk=>?_
 cases qBf l k<;>cases qCH l i<;>simp
theorem qSA (l:List Nd) (x1:Int) (n:Nat) (hx:0≤x1∧x1<l.length) (hl:l.length≤60) (hk:(kd (ndi l x1)).length≤140737488351232):
  ∀(m i M:Nat),(kd (ndi l x1)).length=i+m→m+1≤M→
   zD (qAh (n+1)) M (l.map qa,x1,(i:Int))=some (if ((qV l x1).drop i).all (fun k=>decide (0≤k∧k≤x1-1)&&!(qBf l k&&!qCH l x1))=true then .inr (l.map qa,x1) else .inl false)
 |m,i,0,h1,h2=>by omega
 |0,i,M+1,h1,h2=>by
  have hc:=qCx hx
  have hi:¬i<(ndi l x1).2.2.2.2.2.2.2.2.2.2.2.2.2.length:=by unfold kd at h1;omega
  rw [qP (r:= .inr (l.map qa,x1)) (by simp [-getElem?_pos,qAh,qC,qE,qG,qH,qJ,qK,Option.bind_some,qF,qM,qN,hc,hx,qBa,qBF,qAm,qAU,qAV,qAW,qAX,qAY,qAZ,qAa,qAb,qAc,qAd,qx,qy,qz,q7,hi])]
  rw [List.drop_eq_nil_of_le (by unfold qV;omega)]
  rfl
 |m+1,i,M+1,h1,h2=>by
  have hc:=qCx hx
  have hj:i<(kd (ndi l x1)).length:=by omega
  have hg:(qV l x1)[i]?=some (qV l x1)[i]:=List.getElem?_eq_getElem hj
  rw [qDN hg]
  generalize (qV l x1)[i]=k at hg
  have hg':(ndi l x1).2.2.2.2.2.2.2.2.2.2.2.2.2[i]?=some k:=hg
  have hj':i<(ndi l x1).2.2.2.2.2.2.2.2.2.2.2.2.2.length:=hj
  have hw:IntKind.i64.wrap ((i:Int)+1)=((i+1:Nat):Int):=by rw [qT (by omega)];omega
  have hw2:IntKind.i64.wrap (x1-1)=x1-1:=qT (by omega)
  have hin:qAq (n+1) k 0 (x1-1)=some (decide (0≤k∧k≤x1-1)):=by
   simp only [qAq,qHJ,qC,qE,qG,qH,qJ,qK,Option.bind_some,qF,qM,qN]
   by_cases h:k≥0<;>simp [h]
  rw [List.all_cons]
  by_cases hr:0≤k∧k≤x1-1
  ·have hck:=qCx (l:=l) (i:=k) ⟨hr.1,by omega⟩
   have hkl:k<(l.length:Int):=by omega
   by_cases ha:(ndi l k).1=3
   ·by_cases hcl:(ndi l x1).1=6
    ·rw [qU (v':=(l.map qa,x1,((i+1:Nat):Int))) (by simp [-getElem?_pos,qAh,qC,qE,qG,qH,qJ,qK,Option.bind_some,qF,qM,qN,hc,hx,qBa,qBF,qAm,qAU,qAV,qAW,qAX,qAY,qAZ,qAa,qAb,qAc,qAd,qx,qy,qz,q7,hg',hj',hw,hw2,hin,hr,hck,hkl,ha,hcl])]
     rw [qSA l x1 n hx hl hk m (i+1) M (by omega) (by omega)]
     simp [hr,qBf,qCH,ha,hcl]
    ·rw [qP (r:= .inl false) (by simp [-getElem?_pos,qAh,qC,qE,qG,qH,qJ,qK,Option.bind_some,qF,qM,qN,hc,hx,qBa,qBF,qAm,qAU,qAV,qAW,qAX,qAY,qAZ,qAa,qAb,qAc,qAd,qx,qy,qz,q7,hg',hj',hw,hw2,hin,hr,hck,hkl,ha,hcl])]
     simp [hr,qBf,qCH,ha,hcl]
   ·rw [qU (v':=(l.map qa,x1,((i+1:Nat):Int))) (by simp [-getElem?_pos,qAh,qC,qE,qG,qH,qJ,qK,Option.bind_some,qF,qM,qN,hc,hx,qBa,qBF,qAm,qAU,qAV,qAW,qAX,qAY,qAZ,qAa,qAb,qAc,qAd,qx,qy,qz,q7,hg',hj',hw,hw2,hin,hr,hck,hkl,ha])]
    rw [qSA l x1 n hx hl hk m (i+1) M (by omega) (by omega)]
    simp [hr,qBf,qCH,ha]
  ·rw [qP (r:= .inl false) (by simp [-getElem?_pos,qAh,qC,qE,qG,qH,qJ,qK,Option.bind_some,qF,qM,qN,hc,hx,qBa,qBF,qAm,qAU,qAV,qAW,qAX,qAY,qAZ,qAa,qAb,qAc,qAd,qx,qy,qz,q7,hg',hj',hw2,hin,hr])]
   simp [hr]
def qFb (l:List Nd) (i m:Nat):Bool:=(List.range' i m).all fun (i:Nat)=>qGR l (i:Int)&&inB l (i:Int)
theorem qFm {l:List Nd}:qFb l 0 l.length=true↔∀i:Int,0≤i→i<l.length→qGR l i=true∧qG5 (qBf l) (qCH l) (qV l) i:=by
 unfold qFb
 rw [List.all_eq_true]
 constructor
 ·intro h i h0 h1
  have:=h i.toNat (by rw [List.mem_range'];exact ⟨i.toNat,by omega,by omega⟩)
  rw [show ((i.toNat:Nat):Int)=i by omega,Bool.and_eq_true,qTX] at this
  exact this
 ·intro h i hi
  rw [List.mem_range'] at hi
  obtain ⟨j,hj,rfl⟩:=hi
  rw [Bool.and_eq_true,qTX]
  exact h _ (by omega) (by omega)
theorem qTY (l:List Nd) (n:Nat) (hl:l.length≤60) (hk:∀c∈l,(kd c).length≤140737488351232) (hn:∀c∈l,(kd c).length+2≤n)
  (hok:∀c∈l,qB4 n c.1 c.2.1 c.2.2.1 c.2.2.2.1 c.2.2.2.2.1 c.2.2.2.2.2.1 c.2.2.2.2.2.2.1 c.2.2.2.2.2.2.2.1 c.2.2.2.2.2.2.2.2.1 c.2.2.2.2.2.2.2.2.2.1 c.2.2.2.2.2.2.2.2.2.2.1 c.2.2.2.2.2.2.2.2.2.2.2.1 c.2.2.2.2.2.2.2.2.2.2.2.2.1 ((c.2.2.2.2.2.2.2.2.2.2.2.2.2).map q9)=some (qFA c)):
  ∀(m i M:Nat),l.length=i+m→m+1≤M→
   zD (qBA n) M (l.map qa,(i:Int))=some (if qFb l i m=true then .inr (l.map qa) else .inl false)
 |m,i,0,h1,h2=>by omega
 |0,i,M+1,h1,h2=>by
  have hi:¬(i:Int)<(l.length:Int):=by omega
  rw [qP (r:= .inr (l.map qa)) (by simp [-getElem?_pos,qBA,qC,qE,qG,qH,qJ,qK,Option.bind_some,qF,qM,qN,hi])]
  rfl
 |m+1,i,M+1,h1,h2=>by
  have hi:(i:Int)<(l.length:Int):=by omega
  have hx:0≤(i:Int)∧(i:Int)<l.length:=⟨by omega,hi⟩
  have hc:=qCx hx
  have hm:=qI5 hx
  have ho:=hok _ hm
  have hw:IntKind.i64.wrap ((i:Int)+1)=((i+1:Nat):Int):=by rw [qT (by omega)];omega
  have hnn:=hn _ hm
  obtain ⟨q,rfl⟩:∃q,n=q+1:=⟨n-1,by omega⟩
  have hlp:=qSA l i q hx hl (hk _ hm) (kd (ndi l i)).length 0 (q+1) (by omega) (by omega)
  rw [List.drop_zero,show ((qV l (i:Int)).all fun k=>decide (0≤k∧k≤(i:Int)-1)&&!(qBf l k&&!qCH l (i:Int)))=inB l i from rfl] at hlp
  simp only [Int.natCast_zero] at hlp
  have e:qFb l i (m+1)=(qGR l i&&inB l i&&qFb l (i+1) m):=by unfold qFb;rw [List.range'_succ,List.all_cons]
  rw [e]
  rw [Int.toNat_natCast] at hc
  cases hnb:qFA (ndi l i) with
  |false=>
   rw [hnb] at ho
   rw [qP (r:= .inl false) (by simp [-getElem?_pos,qBA,qC,qE,qG,qH,qJ,qK,Option.bind_some,qF,qM,qN,hi,hc,qBa,qBF,qAm,qAU,qAV,qAW,qAX,qAY,qAZ,qAa,qAb,qAc,qAd,qx,qy,qz,q7,ho])]
   simp [qGR,hnb]
  |true=>
   rw [hnb] at ho
   cases hib:inB l i with
   |false=>
    rw [hib] at hlp
    rw [qP (r:= .inl false) (by simp [-getElem?_pos,qBA,qC,qE,qG,qH,qJ,qK,Option.bind_some,qF,qM,qN,hi,hc,qBa,qBF,qAm,qAU,qAV,qAW,qAX,qAY,qAZ,qAa,qAb,qAc,qAd,qx,qy,qz,q7,ho,hlp])]
    simp
   |true=>
    rw [hib] at hlp
    rw [qU (v':=(l.map qa,((i+1:Nat):Int))) (by simp [-getElem?_pos,qBA,qC,qE,qG,qH,qJ,qK,Option.bind_some,qF,qM,qN,hi,hc,qBa,qBF,qAm,qAU,qAV,qAW,qAX,qAY,qAZ,qAa,qAb,qAc,qAd,qx,qy,qz,q7,ho,hlp,hw])]
    rw [qTY l (q+1) hl hk hn hok m (i+1) M (by omega) (by omega)]
    simp [qGR,hnb]
def qFn (l:List Nd):Bool:=decide (1≤l.length∧l.length≤60)&&(qFb l 0 l.length&&(decide (qCu (qV l) l.length ((l.length:Int)-1)=0)&&(!qBf l ((l.length:Int)-1)&&decide (qAz (qV l) l.length ((l.length:Int)-1)≤12))))
theorem qHa (l:List Nd) (hk:∀c∈l,(kd c).length≤140737488351232∧c.2.2.2.2.1.size≤140737488351232):Ev (qBi · (l.map qa)) (qFn l):=by
 by_cases h1:1≤l.length
 ·by_cases h60:l.length≤60
  ·have hk1:∀c∈l,(kd c).length≤140737488351232:=fun c hc=>(hk c hc).1
   obtain ⟨n1,g1⟩:=qAl (F:=fun (c:Nd) n=>qB4 n c.1 c.2.1 c.2.2.1 c.2.2.2.1 c.2.2.2.2.1 c.2.2.2.2.2.1 c.2.2.2.2.2.2.1 c.2.2.2.2.2.2.2.1 c.2.2.2.2.2.2.2.2.1 c.2.2.2.2.2.2.2.2.2.1 c.2.2.2.2.2.2.2.2.2.2.1 c.2.2.2.2.2.2.2.2.2.2.2.1 c.2.2.2.2.2.2.2.2.2.2.2.2.1 ((c.2.2.2.2.2.2.2.2.2.2.2.2.2).map q9)) (f:=qFA) l (fun c hc=>qIT c (hk c hc).2)
   obtain ⟨n2,g2⟩:=qAl (F:=fun (c:Nd) n=>if (kd c).length+2≤n then some () else none) (f:=fun _=>()) l (fun c hc=>⟨(kd c).length+2,fun n hn=>if_pos hn⟩)
   obtain ⟨n3,g3⟩:=qKY l (by omega) hk1 l.length ((l.length:Int)-1) (by omega) (by omega) (by omega)
   obtain ⟨n4,g4⟩:∃n0,qFb l 0 l.length=true→∀n,n0≤n→qAp n (l.map qa) ((l.length:Int)-1)=some (qAz (qV l) l.length ((l.length:Int)-1)):=by
    by_cases ho:qFb l 0 l.length=true
    ·obtain ⟨n4,g4⟩:=qKZ l h60 hk1 (fun (i:Int) h0 h1=>(qFm.1 ho i h0 h1).2) l.length ((l.length:Int)-1) (by omega) (by omega) (by omega) (by omega)
     exact ⟨n4,fun _=>g4⟩
    ·exact ⟨0,fun h=>absurd h ho⟩
   refine ⟨n1+n2+n3+n4+l.length+5,fun n hn=>?_⟩
   obtain ⟨m,rfl,hm⟩:=up1 hn
   have hlp:=qTY l m h60 hk1 (fun c hc=>by
    have:=g2 m (by omega) c hc
    split at this
    ·assumption
    ·cases this) (g1 m (by omega)) l.length 0 m (by omega) (by omega)
   have g3:=g3 m (by omega)
   dsimp only at g3
   simp only [Int.natCast_zero] at hlp
   have hw:IntKind.i64.wrap ((l.length:Int)-1)=(l.length:Int)-1:=qT (by omega)
   have hx:0≤(l.length:Int)-1∧(l.length:Int)-1<l.length:=by omega
   have hc:=qCx hx
   have a1:¬(l.length:Int)<1:=by omega
   have a2:¬(l.length:Int)>60:=by omega
   generalize hxe:(l.length:Int)-1=x at hw hx hc g3 g4⊢
   simp only [qBi,qC4,qC,qE,qG,qH,qJ,qK,Option.bind_some,qF,qM,qN,List.length_map,decide_eq_true_eq,a1,a2,if_false,hlp]
   unfold qFn
   rw [hxe]
   cases ho:qFb l 0 l.length with
   |false=>simp [qC,qE,qG,qH,qJ,qK,Option.bind_some,qF,qM,qN]
   |true=>
    have g4:=g4 ho m (by omega)
    simp only [if_true,qC,qE,qG,qH,qJ,qK,Option.bind_some,qF,qM,qN,List.length_map,hxe,hw,g3]
    by_cases ht:qCu (qV l) l.length x=0
    ·by_cases ha:(ndi l x).1=3
     ·simp [-getElem?_pos,qC,qE,qG,qH,qJ,qK,Option.bind_some,qF,qM,qN,ht,hx,hc,qBa,qBF,qAm,qAU,qAV,qAW,qAX,qAY,qAZ,qAa,qAb,qAc,qAd,qx,qy,qz,q7,ha,qBf]
     ·simp [-getElem?_pos,qC,qE,qG,qH,qJ,qK,Option.bind_some,qF,qM,qN,ht,hx,hc,qBa,qBF,qAm,qAU,qAV,qAW,qAX,qAY,qAZ,qAa,qAb,qAc,qAd,qx,qy,qz,q7,ha,qBf,g4,h1,h60]
    ·simp [-getElem?_pos,qC,qE,qG,qH,qJ,qK,Option.bind_some,qF,qM,qN,ht]
  ·refine ⟨1,fun n hn=>?_⟩
   obtain ⟨m,rfl,hm⟩:=up1 (n0:=0) hn
   have a1:¬(l.length:Int)<1:=by omega
   have a2:(l.length:Int)>60:=by omega
   simp [-getElem?_pos,qBi,qC4,qC,qE,qG,qH,qJ,qK,Option.bind_some,qF,qM,qN,a1,a2,qFn,h60]
 ·refine ⟨1,fun n hn=>?_⟩
  obtain ⟨m,rfl,hm⟩:=up1 (n0:=0) hn
  have a1:(l.length:Int)<1:=by omega
  simp [-getElem?_pos,qBi,qC4,qC,qE,qG,qH,qJ,qK,Option.bind_some,qF,qM,qN,a1,qFn,h1]
theorem qRT (l:List Nd) (x1 d:Int) (f n:Nat) (hx:0≤x1∧x1<l.length) (hl:l.length≤140737488351232) (hd:0≤d∧d≤1000) (hk:(kd (ndi l x1)).length≤140737488351232)
  (hrec:∀y:Int,0≤y→y<x1→qAi n (l.map qa) y (d+1)=some (qCl (qGR l) (qBf l) (qCH l) (qV l) f y)):
  ∀(j M:Nat) (s:Int),j≤(kd (ndi l x1)).length→j+1≤M→0≤s→s≤x1→
   zD (qAS (qAi n) n) M (l.map qa,x1,d,s,(j:Int)-1)=some (.inr (goF (qBf l) (qCH l) (qCl (qGR l) (qBf l) (qCH l) (qV l) f) x1 ((qV l x1).take j).reverse s))∨
   (zD (qAS (qAi n) n) M (l.map qa,x1,d,s,(j:Int)-1)=some (.inl (-1))∧goF (qBf l) (qCH l) (qCl (qGR l) (qBf l) (qCH l) (qV l) f) x1 ((qV l x1).take j).reverse s= -1)
 |0,0,s,h1,h2,h3,h4=>by omega
 |0,M+1,s,h1,h2,h3,h4=>by
  refine .inl ?_
  rw [qP (r:= .inr s) (by simp [-getElem?_pos,qAS,qC,qE,qG,qH,qJ,qK,Option.bind_some,qF,qM,qN])]
  simp [goF]
 |j+1,0,s,h1,h2,h3,h4=>by omega
 |j+1,M+1,s,h1,h2,h3,h4=>by
  have hc:=qCx hx
  have hj:j<(kd (ndi l x1)).length:=by omega
  have hg:(qV l x1)[j]?=some (qV l x1)[j]:=List.getElem?_eq_getElem hj
  have ih:=qRT l x1 d f n hx hl hd hk hrec j M
  rw [qSg hg]
  generalize (qV l x1)[j]=k at hg
  have hi:(((j+1:Nat):Int)-1)=(j:Int):=by omega
  rw [hi,goF]
  have hg':(ndi l x1).2.2.2.2.2.2.2.2.2.2.2.2.2[j]?=some k:=hg
  have hj':j<(ndi l x1).2.2.2.2.2.2.2.2.2.2.2.2.2.length:=hj
  have hws:IntKind.i64.wrap (s-1)=s-1:=qT (by omega)
  by_cases hks:k=s-1
  ·by_cases hk0:k<0
   ·refine .inr ⟨?_,by rw [if_pos (.inr (.inl hk0))]⟩
    rw [qP (r:= .inl (-1)) (by simp [-getElem?_pos,qAS,qC,qE,qG,qH,qJ,qK,Option.bind_some,qF,qM,qN,hc,hx,qBa,qBF,qAm,qAU,qAV,qAW,qAX,qAY,qAZ,qAa,qAb,qAc,qAd,qx,qy,qz,q7,hg',hj',hks,hws,show s-1<0 by omega])]
   ·have hws':IntKind.i64.wrap (s-1)=k:=by rw [hws,hks]
    have hkx:0≤k∧k<l.length:=by omega
    have hck:=qCx hkx
    by_cases hac:qBf l k=true∧qCH l x1=false
    ·have ha:(ndi l k).1=3:=by simpa [qBf] using hac.1
     have hb:¬(ndi l x1).1=6:=by simpa [qCH] using hac.2
     refine .inr ⟨?_,by rw [if_pos (.inr (.inr hac))]⟩
     rw [qP (r:= .inl (-1)) (by simp [-getElem?_pos,qAS,qC,qE,qG,qH,qJ,qK,Option.bind_some,qF,qM,qN,hc,hx,qBa,qBF,qAm,qAU,qAV,qAW,qAX,qAY,qAZ,qAa,qAb,qAc,qAd,qx,qy,qz,q7,hg',hj',hws',hk0,hck,hkx,ha,hb])]
    ·have hr:=hrec k (by omega) (by omega)
     have hwd:IntKind.i64.wrap (d+1)=d+1:=qT (by omega)
     have hw2:IntKind.i64.wrap ((j:Int)-1)=(j:Int)-1:=qT (by omega)
     have hno:¬(k≠s-1∨k<0∨(qBf l k=true∧qCH l x1=false)):=fun h=>by
      rcases h with h|h|h
      ·exact h hks
      ·exact hk0 h
      ·exact hac h
     have hcase:¬(ndi l k).1=3∨((ndi l k).1=3∧(ndi l x1).1=6):=by
      by_cases ha:(ndi l k).1=3
      ·refine .inr ⟨ha,?_⟩
       refine Decidable.byContradiction fun hb=>hac ⟨by simp [qBf,ha],by simp [qCH,hb]⟩
      ·exact .inl ha
     rw [if_neg hno]
     by_cases ht:qCl (qGR l) (qBf l) (qCH l) (qV l) f k<0
     ·refine .inr ⟨?_,by rw [if_pos ht]⟩
      rcases hcase with ha|⟨ha,hb⟩
      ·rw [qP (r:= .inl (-1)) (by simp [-getElem?_pos,qAS,qC,qE,qG,qH,qJ,qK,Option.bind_some,qF,qM,qN,hc,hx,qBa,qBF,qAm,qAU,qAV,qAW,qAX,qAY,qAZ,qAa,qAb,qAc,qAd,qx,qy,qz,q7,hg',hj',hws',hk0,hck,hkx,ha,hwd,hr,ht])]
      ·rw [qP (r:= .inl (-1)) (by simp [-getElem?_pos,qAS,qC,qE,qG,qH,qJ,qK,Option.bind_some,qF,qM,qN,hc,hx,qBa,qBF,qAm,qAU,qAV,qAW,qAX,qAY,qAZ,qAa,qAb,qAc,qAd,qx,qy,qz,q7,hg',hj',hws',hk0,hck,hkx,ha,hb,hwd,hr,ht])]
     ·rw [if_neg ht]
      have hb1:=(qR9 (qGR l) (qBf l) (qCH l) (qV l) f (k.toNat+1) k (by omega) (by omega) (by omega)).1
      have hstep:zD (qAS (qAi n) n) (M+1) (l.map qa,x1,d,s,(j:Int))=zD (qAS (qAi n) n) M (l.map qa,x1,d,qCl (qGR l) (qBf l) (qCH l) (qV l) f k,(j:Int)-1):=by
       rcases hcase with ha|⟨ha,hb⟩
       ·rw [qU (v':=(l.map qa,x1,d,qCl (qGR l) (qBf l) (qCH l) (qV l) f k,(j:Int)-1)) (by simp [-getElem?_pos,qAS,qC,qE,qG,qH,qJ,qK,Option.bind_some,qF,qM,qN,hc,hx,qBa,qBF,qAm,qAU,qAV,qAW,qAX,qAY,qAZ,qAa,qAb,qAc,qAd,qx,qy,qz,q7,hg',hj',hws',hk0,hck,hkx,ha,hwd,hr,ht,hw2])]
       ·rw [qU (v':=(l.map qa,x1,d,qCl (qGR l) (qBf l) (qCH l) (qV l) f k,(j:Int)-1)) (by simp [-getElem?_pos,qAS,qC,qE,qG,qH,qJ,qK,Option.bind_some,qF,qM,qN,hc,hx,qBa,qBF,qAm,qAU,qAV,qAW,qAX,qAY,qAZ,qAa,qAb,qAc,qAd,qx,qy,qz,q7,hg',hj',hws',hk0,hck,hkx,ha,hb,hwd,hr,ht,hw2])]
      rw [hstep]
      exact ih _ (by omega) (by omega) (by omega) (by omega)
  ·refine .inr ⟨?_,by rw [if_pos (.inl hks)]⟩
   rw [qP (r:= .inl (-1)) (by simp [-getElem?_pos,qAS,qC,qE,qG,qH,qJ,qK,Option.bind_some,qF,qM,qN,hc,hx,qBa,qBF,qAm,qAU,qAV,qAW,qAX,qAY,qAZ,qAa,qAb,qAc,qAd,qx,qy,qz,q7,hg',hj',hws,hks])]
theorem qM2 (l:List Nd) (hl:l.length≤140737488351232) (hk:∀c∈l,(kd c).length≤140737488351232∧c.2.2.2.2.1.size≤140737488351232):∀(f:Nat) (x d:Int),x<l.length→d=12-f→0≤d→Ev (qAi · (l.map qa) x d) (qCl (qGR l) (qBf l) (qCH l) (qV l) f x)
 |0,x,d,h1,h2,h3=>by
  refine ⟨1,fun n hn=>?_⟩
  obtain ⟨m,rfl,hm⟩:=up1 (n0:=0) hn
  have a:d≥12:=by omega
  by_cases h:x<0<;>simp [-getElem?_pos,qAi,qFi,qC,qE,qG,qH,qJ,qK,Option.bind_some,qF,qM,qN,h,a,qCl]
 |f+1,x,d,h1,h2,h3=>by
  by_cases h0:x<0
  ·refine ⟨1,fun n hn=>?_⟩
   obtain ⟨m,rfl,hm⟩:=up1 (n0:=0) hn
   simp [-getElem?_pos,qAi,qFi,qC,qE,qG,qH,qJ,qK,Option.bind_some,qF,qM,qN,h0,qCl]
  ·have hx:0≤x∧x<l.length:=by omega
   have hc:=qCx hx
   have hm':=qI5 hx
   obtain ⟨n0,hn0⟩:=qSh (F:=fun y n=>qAi n (l.map qa) y (d+1)) (f:=fun y=>qCl (qGR l) (qBf l) (qCH l) (qV l) f y) x (fun y h3 h4=>qM2 l hl hk f y (d+1) (by omega) (by omega) (by omega))
   obtain ⟨n1,g1⟩:=qQ7 (ndi l x) (hk _ hm').2
   refine ⟨n0+n1+(kd (ndi l x)).length+5,fun n hn=>?_⟩
   obtain ⟨m,rfl,hm⟩:=up1 hn
   have g1:=g1 m (by omega)
   have h:=qRT l x d f m hx hl (by omega) (hk _ hm').1 (hn0 m (by omega)) (kd (ndi l x)).length m x (Nat.le_refl _) (by omega) (by omega) (by omega)
   have e:(qV l x).take (kd (ndi l x)).length=qV l x:=List.take_length
   rw [e] at h
   have hw2:IntKind.i64.wrap (((kd (ndi l x)).length:Int)-1)=((kd (ndi l x)).length:Int)-1:=by
    have:=(hk _ hm').1
    exact qT (by omega)
   have a:¬d≥12:=by omega
   unfold kd at h hw2
   dsimp only at g1⊢
   simp only [qAi,qFi,qCl,qC,qE,qG,qH,qJ,qK,Option.bind_some,qF,qM,qN]
   cases hnb:qFA (ndi l x) with
   |false=>
    rw [hnb] at g1
    simp [-getElem?_pos,qC,qE,qG,qH,qJ,qK,Option.bind_some,qF,qM,qN,h0,a,hc,hx,qBa,qBF,qAm,qAU,qAV,qAW,qAX,qAY,qAZ,qAa,qAb,qAc,qAd,qx,qy,qz,q7,g1,qGR,hnb]
   |true=>
    rw [hnb] at g1
    rcases h with h|⟨h,h'⟩
    ·simp [-getElem?_pos,qC,qE,qG,qH,qJ,qK,Option.bind_some,qF,qM,qN,h0,a,hc,hx,qBa,qBF,qAm,qAU,qAV,qAW,qAX,qAY,qAZ,qAa,qAb,qAc,qAd,qx,qy,qz,q7,g1,qGR,hnb,hw2,h]
    ·simp only [h']
     simp [-getElem?_pos,qC,qE,qG,qH,qJ,qK,Option.bind_some,qF,qM,qN,h0,a,hc,hx,qBa,qBF,qAm,qAU,qAV,qAW,qAX,qAY,qAZ,qAa,qAb,qAc,qAd,qx,qy,qz,q7,g1,qGR,hnb,hw2,h]
theorem qUC {l:List Nd}:qFn l=(decide (1≤l.length∧l.length≤60)&&(!qBf l ((l.length:Int)-1)&&decide (qCl (qGR l) (qBf l) (qCH l) (qV l) 12 ((l.length:Int)-1)=0))):=by
 rw [Bool.eq_iff_iff]
 unfold qFn
 simp only [Bool.and_eq_true,decide_eq_true_eq]
 constructor
 ·intro ⟨h1,h2,h3,h4,h5⟩
  refine ⟨h1,h4,?_⟩
  rw [qTW (qGR l) (qBf l) (qCH l) (qV l) 12 l.length l.length ((l.length:Int)-1) (by omega) (by omega) (by omega) (fun i i0 i1=>qFm.1 h2 i i0 (by omega)) (by omega) (by simpa using h5)]
  exact h3
 ·intro ⟨h1,h4,h5⟩
  obtain ⟨b1,b2,b3,b4⟩:=qR9 (qGR l) (qBf l) (qCH l) (qV l) 12 l.length ((l.length:Int)-1) (by omega) (by omega) (by omega)
  rw [h5] at b2 b3
  refine ⟨h1,qFm.2 (fun i i0 i1=>b3 i i0 (by omega)),b2,h4,?_⟩
  have:=b4 l.length (fun i i0 i1=>(b3 i i0 i1).2) (by omega)
  simpa using this
theorem qHb (l:List Nd) (hl:l.length≤140737488351232) (hk:∀c∈l,(kd c).length≤140737488351232∧c.2.2.2.2.1.size≤140737488351232):Ev (qBq · (l.map qa)) (qFn l):=by
 rw [qUC]
 by_cases h:1≤l.length∧l.length≤60
 ·obtain ⟨n1,g1⟩:=qM2 l hl hk 12 ((l.length:Int)-1) 0 (by omega) (by omega) (by omega)
  obtain ⟨n2,g2⟩:=qv (l.length:Int) 1 60
  refine ⟨n1+n2+1,fun n hn=>?_⟩
  obtain ⟨m,rfl,hm⟩:=up1 hn
  have g1:=g1 m (by omega)
  have g2:=g2 m (by omega)
  dsimp only at g1 g2⊢
  have hw:IntKind.i64.wrap ((l.length:Int)-1)=(l.length:Int)-1:=qT (by omega)
  have hx:0≤(l.length:Int)-1∧(l.length:Int)-1<l.length:=by omega
  have hc:=qCx hx
  have h':(1:Int)≤l.length∧(l.length:Int)≤60:=by omega
  generalize hxe:(l.length:Int)-1=x at hw hx hc g1⊢
  by_cases ha:(ndi l x).1=3
  ·simp [-getElem?_pos,qBq,qDA,qC,qE,qG,qH,qJ,qK,Option.bind_some,qF,qM,qN,hxe,g2,h',hw,hx,hc,qBa,qBF,qAm,qAU,qAV,qAW,qAX,qAY,qAZ,qAa,qAb,qAc,qAd,qx,qy,qz,q7,ha,qBf]
  ·by_cases hf:qCl (qGR l) (qBf l) (qCH l) (qV l) 12 x=0<;>simp [-getElem?_pos,qBq,qDA,qC,qE,qG,qH,qJ,qK,Option.bind_some,qF,qM,qN,hxe,g1,g2,h,h',hw,hx,hc,qBa,qBF,qAm,qAU,qAV,qAW,qAX,qAY,qAZ,qAa,qAb,qAc,qAd,qx,qy,qz,q7,ha,qBf,hf]
 ·obtain ⟨n2,g2⟩:=qv (l.length:Int) 1 60
  refine ⟨n2+1,fun n hn=>?_⟩
  obtain ⟨m,rfl,hm⟩:=up1 hn
  have g2:=g2 m (by omega)
  dsimp only at g2⊢
  have h':¬((1:Int)≤l.length∧(l.length:Int)≤60):=by omega
  simp [-getElem?_pos,qBq,qDA,qC,qE,qG,qH,qJ,qK,Option.bind_some,qF,qM,qN,g2,h,h']
def qBg (l:List UInt8):List UInt8:=l.flatMap fun c=>if c=34 then [34,34] else [c]
def qOE (s:ByteArray):ByteArray:=⟨(34::qBg s.toList++ [34]).toArray⟩
theorem qG6 (c:UInt8) (l:List UInt8):qBg (c::l)=(if c=34 then [34,34] else [c])++qBg l:=by simp [qBg]
theorem qRU (l r:List UInt8):qBg (l++r)=qBg l++qBg r:=by simp [qBg]
theorem qIU:∀l:List UInt8,(qBg l).length≤2*l.length
 | []=>by simp [qBg]
 |c::l=>by
  have:=qIU l
  rw [qG6]
  by_cases h:c=34<;>simp [h]<;>omega
theorem qLb:∀s:List UInt8,Lib.replaceK [34] [34,34] (Lib.count s [34]) s=qBg s
 | []=>by
  rw [Lib.count_miss (by rfl)]
  rfl
 |b::l=>by
  have ih:=qLb l
  by_cases hb:b=34
  ·subst hb
   have h0:Lib.index (34::l) [34]=((0:Nat):Int):=by simp [Lib.index,List.isPrefixOf]
   rw [Lib.count_hit (by simp) h0,Nat.add_comm,Lib.replaceK_hit _ _ _ _ 0 h0]
   simp only [List.take_zero,List.nil_append,Nat.zero_add,List.length_singleton,List.drop_succ_cons,List.drop_zero]
   rw [ih,qG6,if_pos rfl]
  ·have hix:Lib.index (b::l) [34]=if Lib.index l [34]== -1 then-1 else Lib.index l [34]+1:=by
    have:((34:UInt8)==b)=false:=by simpa using fun e=>hb e.symm
    simp [Lib.index,List.isPrefixOf,this]
   rw [qG6,if_neg hb]
   by_cases hm:Lib.index l [34]= -1
   ·rw [hm] at hix
    rw [Lib.count_miss hm] at ih
    rw [Lib.count_miss (by rw [hix];rfl)]
    rw [Lib.replaceK] at ih⊢
    rw [←ih]
    rfl
   ·have hge:=Lib.index_ge l [34]
    obtain ⟨i,hi⟩:∃i:Nat,Lib.index l [34]=i:=⟨(Lib.index l [34]).toNat,by omega⟩
    have hix':Lib.index (b::l) [34]=((i+1:Nat):Int):=by
     rw [hix,if_neg (by simp [hm]),hi]
     omega
    rw [Lib.count_hit (by simp) hi,Nat.add_comm,Lib.replaceK_hit _ _ _ _ i hi] at ih
    rw [Lib.count_hit (by simp) hix',Nat.add_comm,Lib.replaceK_hit _ _ _ _ (i+1) hix']
    rw [←ih]
    simp only [List.length_singleton,List.take_succ_cons,List.drop_succ_cons,List.cons_append,List.singleton_append,List.nil_append]
theorem qOF (s:List UInt8):Lib.replaceAll s [34] [34,34]=qBg s:=by
 have h1:(([34]:List UInt8)== [34,34])=false:=by decide
 have h2:Lib.replaceNum s [34] (-1)=Lib.count s [34]:=by unfold Lib.replaceNum;rw [if_pos (.inl (by decide))]
 unfold Lib.replaceAll Lib.replace
 rw [h1,h2]
 exact qLb s
theorem qUj {s:ByteArray} {i:Nat} {c:UInt8} (h:s.toList[i]?=some c):s.extract i (i+1)=⟨#[c]⟩:=by
 apply qHW
 rw [Go.Lib.toList_data] at h
 rw [ByteArray.data_extract,Array.toList_extract]
 show (s.data.toList.drop i).take (i+1-i)=_
 rw [qDN h,Nat.add_sub_cancel_left]
 rfl
theorem qS8 (n:Nat) (s A:ByteArray) (i:Nat) (c:UInt8) (hg:s.toList[i]?=some c) (hi:i<s.size) (hA:A.size≤10000) (hs:s.size≤1000):
  (qBX n (s,A,(i:Int))).run=some (.inl (s,if c=34 then (A++⟨#[34]⟩)++⟨#[c]⟩ else A++⟨#[c]⟩,((i+1:Nat):Int))):=by
 have hi':(i:Int)<s.size:=by omega
 have w1:IntKind.i64.wrap ((i:Int)+1)=((i+1:Nat):Int):=by rw [qT (by omega)];omega
 have hx:=qUj hg
 have d1:(⟨#[34]⟩:ByteArray).size=1:=rfl
 have d2:(⟨#[c]⟩:ByteArray).size=1:=rfl
 have y1:(0:Int)≤(i:Int)∧(i:Int)≤((i+1:Nat):Int)∧((i+1:Nat):Int)≤s.size:=by omega
 have y0:(0:Int)≤(i:Int):=by omega
 have z1:A.size+(⟨#[34]⟩:ByteArray).size≤9223372036854775807:=by omega
 have z2:(A++(⟨#[34]⟩:ByteArray)).size+(⟨#[c]⟩:ByteArray).size≤9223372036854775807:=by rw [ByteArray.size_append];omega
 have z3:A.size+(⟨#[c]⟩:ByteArray).size≤9223372036854775807:=by omega
 by_cases hc:c=34
 ·have hb:((c.toNat:Int)==(34:Int))=true:=by rw [hc];rfl
  rw [if_pos hc]
  simp only [qBX,qC,qE,qG,qH,qJ,qK,Option.bind_some,qF,qM,qN,decide_eq_true hi',decide_eq_true y0,Int.toNat_natCast,hg,hb,decide_eq_true z1,w1,decide_eq_true y1,hx,decide_eq_true z2,if_true]
 ·have hb:((c.toNat:Int)==(34:Int))=false:=by
   have:c.toNat≠34:=fun e=>hc (UInt8.toNat_inj.1 e)
   simp
   omega
  simp only [qBX,qC,qE,qG,qH,qJ,qK,Option.bind_some,qF,qM,qN,decide_eq_true hi',decide_eq_true y0,Int.toNat_natCast,hg,hb,w1,decide_eq_true y1,hx,decide_eq_true z3,if_true,hc,if_false,Bool.false_eq_true]
theorem qQM (n:Nat) (s:ByteArray) (hs:s.size≤1000):∀(r pre:List UInt8) (M:Nat),s.toList=pre++r→r.length+1≤M→
  zD (qBX n) M (s,⟨(34::qBg pre).toArray⟩,(pre.length:Int))=some ⟨(34::qBg s.toList).toArray⟩
 |r,pre,0,h1,h2=>by omega
 | [],pre,M+1,h1,h2=>by
  have hi:¬(pre.length:Int)<s.size:=by rw [qB1,h1];simp
  rw [h1,List.append_nil]
  generalize (⟨(34::qBg pre).toArray⟩:ByteArray)=A
  rw [qP (r:=A) (by simp [qBX,qC,qE,qG,qH,qJ,qK,Option.bind_some,qF,qM,qN,hi])]
 |c::r,pre,M+1,h1,h2=>by
  have hl:s.size=pre.length+(r.length+1):=by rw [qB1,h1];simp
  have hg:s.toList[pre.length]?=some c:=by rw [h1];simp
  have hq:=qIU pre
  have hA:(⟨(34::qBg pre).toArray⟩:ByteArray).size≤10000:=by
   rw [qCw]
   simp
   omega
  rw [qU (qS8 n s _ pre.length c hg (by omega) hA hs)]
  have e:(if c=34 then ((⟨(34::qBg pre).toArray⟩:ByteArray)++⟨#[34]⟩)++⟨#[c]⟩ else (⟨(34::qBg pre).toArray⟩:ByteArray)++⟨#[c]⟩)=⟨(34::qBg (pre++ [c])).toArray⟩:=by
   apply qHW
   by_cases hc:c=34
   ·rw [if_pos hc,qDg,qDg,qRU,qG6,if_pos hc,hc]
    simp [qBg]
   ·rw [if_neg hc,qDg,qRU,qG6,if_neg hc]
    simp [qBg]
  rw [e]
  have h:=qQM n s hs r (pre++ [c]) M (by rw [h1];simp) (by simp at h2;omega)
  rw [show ((pre++ [c]).length:Int)=((pre.length+1:Nat):Int) by simp] at h
  exact h
theorem qS9 (s:ByteArray):(qOE s).size≤2*s.size+2:=by
 have:=qIU s.toList
 rw [qAT] at this
 rw [qCw]
 simp [qOE]
 omega
theorem qPL (s:ByteArray) (hs:s.size≤1000):Ev (qEn · s) (qOE s):=by
 refine ⟨s.size+5,fun n hn=>?_⟩
 obtain ⟨m,rfl,hm⟩:=up1 hn
 have h:=qQM m s hs s.toList [] m rfl (by rw [qAT];omega)
 simp only [List.length_nil,Int.natCast_zero] at h
 have e0:(⟨(34::qBg []).toArray⟩:ByteArray)=⟨#[34]⟩:=rfl
 rw [e0] at h
 have hz:(⟨(34::qBg s.toList).toArray⟩:ByteArray).size+(⟨#[34]⟩:ByteArray).size≤9223372036854775807:=by
  have:=qIU s.toList
  rw [qAT] at this
  have d1:(⟨#[34]⟩:ByteArray).size=1:=rfl
  rw [qCw,d1]
  simp
  omega
 simp only [qEn,qGg,qC,qE,qG,qH,qJ,qK,Option.bind_some,qF,qM,qN,h,decide_eq_true hz,if_true]
 congr 1
theorem qQ8 (s:ByteArray) (hs:s.size≤1000):Ev (qDc · s ⟨#[34]⟩ ⟨#[34,34]⟩) ⟨(qBg s.toList).toArray⟩:=by
 refine ⟨1,fun n hn=>?_⟩
 obtain ⟨m,rfl,hm⟩:=up1 (n0:=0) hn
 show zb s ⟨#[34]⟩ ⟨#[34,34]⟩=_
 have hc:=Lib.countB_mul_le (⟨#[34]⟩:ByteArray) (by decide) s.size s (Nat.le_refl _)
 have d1:(⟨#[34]⟩:ByteArray).size=1:=rfl
 have d2:(⟨#[34,34]⟩:ByteArray).size=2:=rfl
 unfold zb
 rw [d1] at hc
 rw [if_pos (by rw [d1,d2];omega)]
 congr 3
 rw [←Go.Lib.toList_data]
 exact qOF _
def lvl (op:Int):Int:=if op≥6 then 1 else if op=5 then 2 else if op≥3 then 4 else 3
theorem qTA (op:Int):1≤lvl op∧lvl op≤4:=by
 unfold lvl
 split
 ·omega
 ·split
  ·omega
  ·split<;>omega
theorem qJb (op:Int):Ev (qCM · op) (lvl op):=by
 refine ⟨1,fun n hn=>?_⟩
 obtain ⟨m,rfl,hm⟩:=up1 hn
 simp only [qCM,qGc,qC,qE,qG,qH,qJ,qK,Option.bind_some,qF,qM,qN]
 unfold lvl
 by_cases h1:op≥6
 ·simp [h1]
 ·by_cases h2:op=5
  ·simp [h2]
  ·by_cases h3:op≥3<;>simp [h1,h2,h3]
theorem qUk {op:Int} (h:1≤op∧op≤11):op=1∨op=2∨op=3∨op=4∨op=5∨op=6∨op=7∨op=8∨op=9∨op=10∨op=11:=by omega
theorem qLc (op:Int) (h:1≤op∧op≤11):Ev (qDq · op) (lvl op):=by
 refine ⟨1,fun n hn=>?_⟩
 obtain ⟨m,rfl,hm⟩:=up1 hn
 simp only [qDq,qIr,qC,qE,qG,qH,qJ,qK,Option.bind_some,qF,qM,qN]
 rcases qUk h with rfl|rfl|rfl|rfl|rfl|rfl|rfl|rfl|rfl|rfl|rfl<;>rfl
def qAP (op:Int):ByteArray:=if op=1 then ⟨#[43]⟩ else if op=2 then ⟨#[45]⟩ else if op=3 then ⟨#[42]⟩ else if op=4 then ⟨#[47]⟩ else if op=5 then ⟨#[38]⟩ else if op=6 then ⟨#[61]⟩ else if op=7 then ⟨#[60,62]⟩ else if op=8 then ⟨#[60]⟩ else if op=9 then ⟨#[60,61]⟩ else if op=10 then ⟨#[62]⟩ else ⟨#[62,61]⟩
def fnS (op:Int):ByteArray:=if op=1 then ⟨#[83,85,77]⟩ else if op=2 then ⟨#[77,73,78]⟩ else if op=3 then ⟨#[77,65,88]⟩ else if op=4 then ⟨#[67,79,85,78,84]⟩ else if op=5 then ⟨#[73,70]⟩ else if op=6 then ⟨#[65,78,68]⟩ else if op=7 then ⟨#[79,82]⟩ else if op=8 then ⟨#[78,79,84]⟩ else if op=9 then ⟨#[65,66,83]⟩ else ⟨#[76,69,78]⟩
theorem qMH {op:Int} (h:1≤op∧op≤11):(qAP op).size≤2:=by
 rcases qUk h with rfl|rfl|rfl|rfl|rfl|rfl|rfl|rfl|rfl|rfl|rfl<;>decide
theorem qQN {op:Int} (h:1≤op∧op≤10):(fnS op).size≤5:=by
 rcases ten h with rfl|rfl|rfl|rfl|rfl|rfl|rfl|rfl|rfl|rfl<;>decide
theorem qKa (op:Int) (h:1≤op∧op≤11):Ev (qCp · op) (qAP op):=by
 refine ⟨1,fun n hn=>?_⟩
 obtain ⟨m,rfl,hm⟩:=up1 hn
 simp only [qCp,qHk,qC,qE,qG,qH,qJ,qK,Option.bind_some,qF,qM,qN]
 rcases qUk h with rfl|rfl|rfl|rfl|rfl|rfl|rfl|rfl|rfl|rfl|rfl<;>rfl
theorem qG7 (op:Int) (h:1≤op∧op≤11):Ev (qBT · op) (qAP op):=by
 refine ⟨1,fun n hn=>?_⟩
 obtain ⟨m,rfl,hm⟩:=up1 hn
 simp only [qBT,qHw,qC,qE,qG,qH,qJ,qK,Option.bind_some,qF,qM,qN]
 rcases qUk h with rfl|rfl|rfl|rfl|rfl|rfl|rfl|rfl|rfl|rfl|rfl<;>rfl
theorem qM3 (op:Int) (h:1≤op∧op≤10):Ev (qCb · op) (fnS op):=by
 refine ⟨1,fun n hn=>?_⟩
 obtain ⟨m,rfl,hm⟩:=up1 hn
 simp only [qCb,qJv,qC,qE,qG,qH,qJ,qK,Option.bind_some,qF,qM,qN]
 rcases ten h with rfl|rfl|rfl|rfl|rfl|rfl|rfl|rfl|rfl|rfl<;>rfl
theorem qKb (op:Int) (h:1≤op∧op≤10):Ev (qCG · op) (fnS op):=by
 refine ⟨1,fun n hn=>?_⟩
 obtain ⟨m,rfl,hm⟩:=up1 hn
 simp only [qCG,qHv,qC,qE,qG,qH,qJ,qK,Option.bind_some,qF,qM,qN]
 rcases ten h with rfl|rfl|rfl|rfl|rfl|rfl|rfl|rfl|rfl|rfl<;>rfl
def qQO (xs:List ByteArray):ByteArray:=⟨(Lib.join (xs.map (·.data.toList)) [44]).toArray⟩
def par (b:Bool) (s:ByteArray):ByteArray:=if b=true then ((⟨#[40]⟩:ByteArray)++s)++⟨#[41]⟩ else s
def kid (c:Nd) (j:Nat):Int:=(kd c).getD j 0
def qt (l:List Nd):Nat→Int→Int→ByteArray
 |0,_,_=>⟨#[]⟩
 |f+1,i,t=>
  if (ndi l i).1=1 then (if (ndi l i).2.2.1=2 then qOE (ndi l i).2.2.2.2.1 else qCB (ndi l i).2.2.1 (ndi l i).2.2.2.1 (ndi l i).2.2.2.2.1)
  else if (ndi l i).1=2 then qCE (ndi l i).2.2.2.2.2.1 (ndi l i).2.2.2.2.2.2.1 (ndi l i).2.2.2.2.2.2.2.1 (ndi l i).2.2.2.2.2.2.2.2.1
  else if (ndi l i).1=3 then (qCE (ndi l i).2.2.2.2.2.1 (ndi l i).2.2.2.2.2.2.1 (ndi l i).2.2.2.2.2.2.2.1 (ndi l i).2.2.2.2.2.2.2.2.1++⟨#[58]⟩)++qCE (ndi l i).2.2.2.2.2.2.2.2.2.1 (ndi l i).2.2.2.2.2.2.2.2.2.2.1 (ndi l i).2.2.2.2.2.2.2.2.2.2.2.1 (ndi l i).2.2.2.2.2.2.2.2.2.2.2.2.1
  else if (ndi l i).1=4 then (⟨#[45]⟩:ByteArray)++qt l f (kid (ndi l i) 0) 5
  else if (ndi l i).1=5 then par (decide (lvl (ndi l i).2.1<t)) ((qt l f (kid (ndi l i) 0) (lvl (ndi l i).2.1)++qAP (ndi l i).2.1)++qt l f (kid (ndi l i) 1) (lvl (ndi l i).2.1+1))
  else ((fnS (ndi l i).2.1++⟨#[40]⟩)++qQO ((qV l i).map fun k=>qt l f k 1))++⟨#[41]⟩
theorem qTZ (l:List Nd) (f:Nat) (i:Int):qt l f i 0=qt l f i 1:=by
 cases f with
 |zero=>rfl
 |succ f=>
  have h:=qTA (ndi l i).2.1
  have e:decide (lvl (ndi l i).2.1<0)=decide (lvl (ndi l i).2.1<1):=by
   rw [decide_eq_false (by omega),decide_eq_false (by omega)]
  simp only [qt,e]
theorem qKc {c:Nd} (h:qFA c=true):(c.1=1∧okV c.2.2.1 c.2.2.2.1 c.2.2.2.2.1=true)∨c.1=2∨c.1=3∨(c.1=4∧(kd c).length=1)∨(c.1=5∧(1≤c.2.1∧c.2.1≤11)∧(kd c).length=2)∨(c.1=6∧(1≤c.2.1∧c.2.1≤10)∧(1≤(kd c).length∧(kd c).length≤10)):=by
 unfold qFA at h
 by_cases k1:c.1=1
 ·rw [if_pos k1] at h
  simp only [Bool.and_eq_true] at h
  exact .inl ⟨k1,h.2.2.2.2.1⟩
 rw [if_neg k1] at h
 by_cases k2:c.1=2
 ·exact .inr (.inl k2)
 rw [if_neg k2] at h
 by_cases k3:c.1=3
 ·exact .inr (.inr (.inl k3))
 rw [if_neg k3] at h
 by_cases k4:c.1=4
 ·rw [if_pos k4] at h
  simp only [Bool.and_eq_true,decide_eq_true_eq] at h
  exact .inr (.inr (.inr (.inl ⟨k4,h.2.2.2.2⟩)))
 rw [if_neg k4] at h
 by_cases k5:c.1=5
 ·rw [if_pos k5] at h
  simp only [Bool.and_eq_true,decide_eq_true_eq] at h
  exact .inr (.inr (.inr (.inr (.inl ⟨k5,h.1,h.2.2.2.2⟩))))
 rw [if_neg k5] at h
 by_cases k6:c.1=6
 ·rw [if_pos k6] at h
  simp only [Bool.and_eq_true] at h
  have ha:=h.1
  unfold qIS at ha
  refine .inr (.inr (.inr (.inr (.inr ⟨k6,?_⟩))))
  by_cases h5:c.2.1=5
  ·rw [if_pos h5] at ha
   have:=of_decide_eq_true ha
   omega
  ·rw [if_neg h5] at ha
   by_cases h8:8≤c.2.1∧c.2.1≤10
   ·rw [if_pos h8] at ha
    have:=of_decide_eq_true ha
    omega
   ·rw [if_neg h8] at ha
    by_cases h1:1≤c.2.1∧c.2.1≤7
    ·rw [if_pos h1] at ha
     have:=of_decide_eq_true ha
     omega
    ·rw [if_neg h1] at ha
     cases ha
 ·rw [if_neg k6] at h
  cases h
def szB:Nat→Nat
 |0=>37
 |f+1=>11*szB f
theorem qUl:∀f:Fin 13,szB f.val≤120000000000000:=by decide
theorem qUD {f:Nat} (h:f≤12):szB f≤120000000000000:=qUl ⟨f,by omega⟩
theorem qUE:∀f:Nat,37≤szB f
 |0=>Nat.le_refl _
 |f+1=>by have:=qUE f;simp only [szB];omega
theorem qLd (x:List UInt8) (r:List (List UInt8)) (sep:List UInt8):Lib.joinTail sep (x::r)=sep++x++Lib.joinTail sep r:=by simp [Lib.joinTail]
theorem qM4:∀(xs:List ByteArray) (b:Nat),(∀x∈xs,x.size≤b)→(Lib.joinTail [44] (xs.map (·.data.toList))).length≤xs.length*(b+1)
 | [],b,h=>by simp [Lib.joinTail]
 |x::r,b,h=>by
  have ih:=qM4 r b fun y hy=>h y (List.mem_cons_of_mem _ hy)
  have hx:=h x (List.mem_cons_self ..)
  rw [qCw] at hx
  rw [List.map_cons,qLd,List.length_append,List.length_append,List.length_singleton,List.length_cons,Nat.add_mul]
  omega
theorem qMI {xs:List ByteArray} {b:Nat} (h:∀x∈xs,x.size≤b):(qQO xs).size≤xs.length*(b+1):=by
 rw [qCw]
 show (Lib.join (xs.map (·.data.toList)) [44]).length≤_
 cases xs with
 |nil=>simp [Lib.join_nil]
 |cons x r=>
  have h1:=qM4 r b fun y hy=>h y (List.mem_cons_of_mem _ hy)
  have hx:=h x (List.mem_cons_self ..)
  rw [qCw] at hx
  rw [List.map_cons,Lib.join_cons,List.length_append,List.length_cons,Nat.add_mul]
  omega
structure Fine (l:List Nd):Prop where
 len:l.length≤60
 own:∀i:Int,0≤i→i<l.length→qGR l i=true∧qG5 (qBf l) (qCH l) (qV l) i
 sz:∀c∈l,(kd c).length≤140737488351232∧c.2.2.2.2.1.size≤140737488351232
theorem Fine.kid {l:List Nd} (h:Fine l) {f:Nat} {i k:Int} (hi:0≤i∧i<l.length) (hd:qAz (qV l) (i.toNat+1) i≤(f+1:Nat)) (hk:k∈qV l i):(0≤k∧k<l.length)∧qAz (qV l) (k.toNat+1) k≤f:=by
 have hin:=(h.own i hi.1 hi.2).2 k hk
 have h1:=(qQK (qV l) (n:=i) (b:=((f+1:Nat):Int)) (f:=i.toNat) (by omega)).1 hd k hk
 refine ⟨by omega,?_⟩
 rw [qQL (qBf l) (qCH l) (qV l) (k.toNat+1) i.toNat k (by omega) (by omega) (fun j j0 j1=>(h.own j j0 (by omega)).2) (by omega)]
 omega
theorem qOG {l:List Nd} (h:Fine l):∀(f:Nat) (i t:Int),f≤12→(0≤i∧i<l.length)→qAz (qV l) (i.toNat+1) i≤f→(qt l f i t).size≤szB f
 |0,i,t,hf,hi,hd=>by show (⟨#[]⟩:ByteArray).size≤_;exact Nat.zero_le _
 |f+1,i,t,hf,hi,hd=>by
  have ih:=fun k hk t'=>qOG h f k t' (by omega) (h.kid hi hd hk).1 (h.kid hi hd hk).2
  have hs:=qUE f
  have hp:∀a b c d,(qCE a b c d).size≤30:=qKW
  have hz:=(h.sz _ (qI5 hi)).2
  have d1:(⟨#[58]⟩:ByteArray).size=1:=rfl
  have d2:(⟨#[45]⟩:ByteArray).size=1:=rfl
  have d3:(⟨#[40]⟩:ByteArray).size=1:=rfl
  have d4:(⟨#[41]⟩:ByteArray).size=1:=rfl
  have hk0:∀j,j<(kd (ndi l i)).length→kid (ndi l i) j∈qV l i:=fun j hj=>by
   unfold kid
   rw [List.getD_eq_getElem?_getD,List.getElem?_eq_getElem hj]
   exact List.getElem_mem hj
  rw [szB,qt]
  rcases qKc (h.own i hi.1 hi.2).1 with ⟨k,hv⟩|k|k|⟨k,hk⟩|⟨k,ho,hk⟩|⟨k,ho,hk⟩
  ·rw [if_pos k]
   by_cases k2:(ndi l i).2.2.1=2
   ·rw [if_pos k2]
    rw [k2] at hv
    have:=(qRM hv).2.1
    have:=qS9 (ndi l i).2.2.2.2.1
    omega
   ·rw [if_neg k2]
    have:=qS6 hv
    omega
  ·rw [if_neg (by omega),if_pos k]
   have:=hp (ndi l i).2.2.2.2.2.1 (ndi l i).2.2.2.2.2.2.1 (ndi l i).2.2.2.2.2.2.2.1 (ndi l i).2.2.2.2.2.2.2.2.1
   omega
  ·rw [if_neg (by omega),if_neg (by omega),if_pos k,ByteArray.size_append,ByteArray.size_append]
   have h1:=hp (ndi l i).2.2.2.2.2.1 (ndi l i).2.2.2.2.2.2.1 (ndi l i).2.2.2.2.2.2.2.1 (ndi l i).2.2.2.2.2.2.2.2.1
   have h2:=hp (ndi l i).2.2.2.2.2.2.2.2.2.1 (ndi l i).2.2.2.2.2.2.2.2.2.2.1 (ndi l i).2.2.2.2.2.2.2.2.2.2.2.1 (ndi l i).2.2.2.2.2.2.2.2.2.2.2.2.1
   omega
  ·rw [if_neg (by omega),if_neg (by omega),if_neg (by omega),if_pos k,ByteArray.size_append]
   have:=ih _ (hk0 0 (by omega)) 5
   omega
  ·rw [if_neg (by omega),if_neg (by omega),if_neg (by omega),if_neg (by omega),if_pos k]
   have h1:=ih _ (hk0 0 (by omega)) (lvl (ndi l i).2.1)
   have h2:=ih _ (hk0 1 (by omega)) (lvl (ndi l i).2.1+1)
   have h3:=qMH ho
   unfold par
   split
   ·rw [ByteArray.size_append,ByteArray.size_append,ByteArray.size_append,ByteArray.size_append]
    omega
   ·rw [ByteArray.size_append,ByteArray.size_append]
    omega
  ·rw [if_neg (by omega),if_neg (by omega),if_neg (by omega),if_neg (by omega),if_neg (by omega)]
   rw [ByteArray.size_append,ByteArray.size_append,ByteArray.size_append]
   have h1:=qQN ho
   have h2:=qMI (xs:=(qV l i).map fun k=>qt l f k 1) (b:=szB f) (fun x hx=>by
    obtain ⟨k,hk,rfl⟩:=List.mem_map.1 hx
    exact ih k hk 1)
   have h3:(qV l i).length≤10:=hk.2
   have h4:(qV l i).length*(szB f+1)≤10*(szB f+1):=Nat.mul_le_mul_right _ h3
   rw [List.length_map] at h2
   omega
abbrev R14:=Int×Int×Int×Int×ByteArray×Int×Int×Bool×Bool×Int×Int×Bool×Bool×List (List PV)
theorem qQP (rec:List (List PV)→Int→Int→Option ByteArray) (n:Nat) (rows:List (List PV)) (A t:ByteArray) (R:R14) (i:Nat) (k:Int) (hg:R.2.2.2.2.2.2.2.2.2.2.2.2.2[i]?=some (q9 k)) (hr:rec rows k 0=some t) (hA:A.size≤2000000000000000) (ht:t.size≤120000000000000) (hi:i≤1000):
  (qBY rec n (rows,A,(i:Int),R)).run=some (.inl (rows,(if i=0 then A++t else (A++(⟨#[44]⟩:ByteArray))++t),((i+1:Nat):Int),R)):=by
 obtain ⟨a0,a1,a2,a3,a4,a5,a6,a7,a8,a9,a10,a11,a12,a13⟩:=R
 have hl:i<a13.length:=(List.getElem?_eq_some_iff.1 hg).1
 have h1:(i:Int)<(a13.length:Int):=by omega
 have h2:0≤(i:Int)∧(i:Int)<(a13.length:Int):=by omega
 have w1:IntKind.i64.wrap ((i:Int)+1)=((i+1:Nat):Int):=by rw [qT (by omega)];omega
 have d1:(⟨#[44]⟩:ByteArray).size=1:=rfl
 have z1:A.size+(⟨#[44]⟩:ByteArray).size≤9223372036854775807:=by omega
 have z2:(A++(⟨#[44]⟩:ByteArray)).size+t.size≤9223372036854775807:=by rw [ByteArray.size_append];omega
 have z3:A.size+t.size≤9223372036854775807:=by omega
 by_cases h0:i=0
 ·subst h0
  simp only [qBY,qC,qE,qG,qH,qJ,qK,Option.bind_some,qF,qM,qN,decide_eq_true h1,Int.natCast_zero,gt_iff_lt,Int.lt_irrefl,decide_false,Bool.false_eq_true,if_false,if_true] at*
  simp only [decide_eq_true h1,decide_eq_true h2,if_true,Int.toNat_zero,hg,Option.bind_some,qBF,qAm,decide_true,hr,decide_eq_true z3,w1]
 ·have hp:(i:Int)>0:=by omega
  simp only [qBY,qC,qE,qG,qH,qJ,qK,Option.bind_some,qF,qM,qN,decide_eq_true h1,decide_eq_true hp,if_true,decide_eq_true z1,decide_eq_true h2,Int.toNat_natCast,hg,qBF,qAm,decide_true,hr,decide_eq_true z2,w1,h0,if_false]
theorem qRV (l:List Nd) (f n:Nat) (R:R14) (b:Nat) (hb:b≤120000000000000) (ks:List Int) (hks:R.2.2.2.2.2.2.2.2.2.2.2.2.2=ks.map q9) (hk10:ks.length≤10)
  (hr:∀k∈ks,qn n (l.map qa) k 0=some (qt l f k 1)∧(qt l f k 1).size≤b):
  ∀(r pre:List Int) (A:ByteArray) (M:Nat),ks=pre++r→r.length+1≤M→A.size≤100+pre.length*(b+1)→
   zD (qBY (qn n) n) M (l.map qa,A,(pre.length:Int),R)=some ⟨(A.data.toList++(if pre.length=0 then Lib.join (r.map fun k=>(qt l f k 1).data.toList) [44] else Lib.joinTail [44] (r.map fun k=>(qt l f k 1).data.toList))).toArray⟩
 |r,pre,A,0,h1,h2,h3=>by omega
 | [],pre,A,M+1,h1,h2,h3=>by
  obtain ⟨a0,a1,a2,a3,a4,a5,a6,a7,a8,a9,a10,a11,a12,a13⟩:=R
  simp only at hks
  subst hks
  have hi:¬(pre.length:Int)<((ks.map q9).length:Int):=by rw [List.length_map,h1];simp
  rw [qP (r:=A) (by simp only [qBY,qC,qE,qG,qH,qJ,qK,Option.bind_some,qF,qM,qN,decide_eq_false hi,Bool.false_eq_true,if_false])]
  congr 1
  apply qHW
  simp [Lib.joinTail,Lib.join_nil]
 |k::r,pre,A,M+1,h1,h2,h3=>by
  have hm:k∈ks:=by rw [h1];simp
  obtain ⟨g1,g2⟩:=hr k hm
  have hpl:pre.length+(r.length+1)=ks.length:=by rw [h1];simp
  have hmul:pre.length*(b+1)≤10*(b+1):=Nat.mul_le_mul_right _ (by omega)
  have hg:R.2.2.2.2.2.2.2.2.2.2.2.2.2[pre.length]?=some (q9 k):=by rw [hks,h1,List.getElem?_map];simp
  rw [qU (qQP (qn n) n (l.map qa) A (qt l f k 1) R pre.length k hg g1 (by omega) (by omega) (by omega))]
  have h:=qRV l f n R b hb ks hks hk10 hr r (pre++ [k]) (if pre.length=0 then A++qt l f k 1 else (A++(⟨#[44]⟩:ByteArray))++qt l f k 1) M (by rw [h1];simp) (by simp at h2;omega) (by
   have d1:(⟨#[44]⟩:ByteArray).size=1:=rfl
   rw [List.length_append,List.length_singleton,Nat.add_mul]
   split
   ·rw [ByteArray.size_append];omega
   ·rw [ByteArray.size_append,ByteArray.size_append];omega)
  rw [show ((pre++ [k]).length:Int)=((pre.length+1:Nat):Int) by simp] at h
  rw [h]
  congr 1
  apply qHW
  have e:(pre++ [k]).length≠0:=by simp
  simp only [if_neg e]
  by_cases h0:pre.length=0
  ·simp only [if_pos h0,qDg,List.map_cons,Lib.join_cons,List.append_assoc]
  ·simp only [if_neg h0,qDg,List.map_cons,qLd,List.append_assoc,List.cons_append,List.nil_append]
set_option maxHeartbeats 4000000 in
theorem qLL {l:List Nd} (h:Fine l) (f:Nat) (i t:Int) (hf:f+1≤12) (hx:0≤i∧i<l.length) (hd:qAz (qV l) (i.toNat+1) i≤(f+1:Nat)) (ih:∀k∈qV l i,∀t',Ev (qn · (l.map qa) k t') (qt l f k t')):Ev (qn · (l.map qa) i t) (qt l (f+1) i t):=by
  have ih:=fun k hk t'=>ih k hk t'
  have isz:=fun k hk t'=>qOG h f k t' (by omega) (h.kid hx hd hk).1 (h.kid hx hd hk).2
  have hs:=qUD (f:=f) (by omega)
  have hcr:(l.map qa)[i.toNat]?=some (qa (ndi l i)):=by rw [List.getElem?_map,qCx hx];rfl
  have hxb:0≤i∧i<((l.map qa).length:Int):=by rw [List.length_map];exact hx
  have hz:=(h.sz _ (qI5 hx)).2
  have hp:∀a b c d,(qCE a b c d).size≤30:=qKW
  have d1:(⟨#[58]⟩:ByteArray).size=1:=rfl
  have d2:(⟨#[45]⟩:ByteArray).size=1:=rfl
  have d3:(⟨#[40]⟩:ByteArray).size=1:=rfl
  have d4:(⟨#[41]⟩:ByteArray).size=1:=rfl
  have hk0:∀j,j<(kd (ndi l i)).length→kid (ndi l i) j∈qV l i∧(List.map q9 (ndi l i).2.2.2.2.2.2.2.2.2.2.2.2.2)[j]?=some (q9 (kid (ndi l i) j)):=fun j hj=>by
   unfold kid
   rw [List.getD_eq_getElem?_getD,List.getElem?_eq_getElem hj]
   refine ⟨List.getElem_mem hj,?_⟩
   rw [List.getElem?_map]
   show ((kd (ndi l i))[j]?).map q9=_
   rw [List.getElem?_eq_getElem hj]
   rfl
  have hkl:(List.map q9 (ndi l i).2.2.2.2.2.2.2.2.2.2.2.2.2).length=(kd (ndi l i)).length:=by rw [List.length_map];rfl
  rcases qKc (h.own i hx.1 hx.2).1 with ⟨k,hv⟩|k|k|⟨k,hk⟩|⟨k,ho,hk⟩|⟨k,ho,hk⟩
  ·by_cases k2:(ndi l i).2.2.1=2
   ·have hv2:okV 2 (ndi l i).2.2.2.1 (ndi l i).2.2.2.2.1=true:=by rw [←k2];exact hv
    obtain ⟨n1,g1⟩:=qPL (ndi l i).2.2.2.2.1 (by have:=(qRM hv2).2.1;omega)
    refine ⟨n1+1,fun n hn=>?_⟩
    obtain ⟨m,rfl,hm⟩:=up1 hn
    have g1:=g1 m (by omega)
    dsimp only at g1⊢
    show (qBt (qn m) m (l.map qa) i t).run=_
    refine qD (decide_eq_true hxb) (qA hcr (qD rfl (qA (qAU _) (qA (qAV _) (qA (qAW _) (qA (qAX _) (qA (qAY _) (qA (qAZ _) (qA (qAa _) (qA (qAb _) (qA (qAc _) (qA (qAd _) (qA (qx _) (qA (qy _) (qA (qz _) (qA (q7 _) ?_))))))))))))))))
    refine qD (by rw [k];rfl) (qD (by rw [k2];rfl) (qA g1 ?_))
    rw [qC,qt,if_pos k,if_pos k2]
   ·obtain ⟨n1,g1⟩:=qDT (ndi l i).2.2.1 (ndi l i).2.2.2.1 (ndi l i).2.2.2.2.1 hz
    have kb:((ndi l i).2.2.1==(2:Int))=false:=by simpa using k2
    refine ⟨n1+1,fun n hn=>?_⟩
    obtain ⟨m,rfl,hm⟩:=up1 hn
    have g1:=g1 m (by omega)
    rw [hv] at g1
    dsimp only at g1⊢
    simp only [if_true] at g1
    show (qBt (qn m) m (l.map qa) i t).run=_
    refine qD (decide_eq_true hxb) (qA hcr (qD rfl (qA (qAU _) (qA (qAV _) (qA (qAW _) (qA (qAX _) (qA (qAY _) (qA (qAZ _) (qA (qAa _) (qA (qAb _) (qA (qAc _) (qA (qAd _) (qA (qx _) (qA (qy _) (qA (qz _) (qA (q7 _) ?_))))))))))))))))
    refine qD (by rw [k];rfl) (qO kb (qA g1 ?_))
    rw [qC,qt,if_pos k,if_neg k2]
  ·obtain ⟨n1,g1⟩:=qE6 (ndi l i).2.2.2.2.2.1 (ndi l i).2.2.2.2.2.2.1 (ndi l i).2.2.2.2.2.2.2.1 (ndi l i).2.2.2.2.2.2.2.2.1
   refine ⟨n1+1,fun n hn=>?_⟩
   obtain ⟨m,rfl,hm⟩:=up1 hn
   have g1:=g1 m (by omega)
   dsimp only at g1⊢
   show (qBt (qn m) m (l.map qa) i t).run=_
   refine qD (decide_eq_true hxb) (qA hcr (qD rfl (qA (qAU _) (qA (qAV _) (qA (qAW _) (qA (qAX _) (qA (qAY _) (qA (qAZ _) (qA (qAa _) (qA (qAb _) (qA (qAc _) (qA (qAd _) (qA (qx _) (qA (qy _) (qA (qz _) (qA (q7 _) ?_))))))))))))))))
   refine qO (by rw [k];rfl) (qD (by rw [k];rfl) (qA g1 ?_))
   rw [qC,qt,if_neg (by omega),if_pos k]
  ·obtain ⟨n1,g1⟩:=qE6 (ndi l i).2.2.2.2.2.1 (ndi l i).2.2.2.2.2.2.1 (ndi l i).2.2.2.2.2.2.2.1 (ndi l i).2.2.2.2.2.2.2.2.1
   obtain ⟨n2,g2⟩:=qE6 (ndi l i).2.2.2.2.2.2.2.2.2.1 (ndi l i).2.2.2.2.2.2.2.2.2.2.1 (ndi l i).2.2.2.2.2.2.2.2.2.2.2.1 (ndi l i).2.2.2.2.2.2.2.2.2.2.2.2.1
   have h1:=hp (ndi l i).2.2.2.2.2.1 (ndi l i).2.2.2.2.2.2.1 (ndi l i).2.2.2.2.2.2.2.1 (ndi l i).2.2.2.2.2.2.2.2.1
   have h2:=hp (ndi l i).2.2.2.2.2.2.2.2.2.1 (ndi l i).2.2.2.2.2.2.2.2.2.2.1 (ndi l i).2.2.2.2.2.2.2.2.2.2.2.1 (ndi l i).2.2.2.2.2.2.2.2.2.2.2.2.1
   have z1:(qCE (ndi l i).2.2.2.2.2.1 (ndi l i).2.2.2.2.2.2.1 (ndi l i).2.2.2.2.2.2.2.1 (ndi l i).2.2.2.2.2.2.2.2.1).size+(⟨#[58]⟩:ByteArray).size≤9223372036854775807:=by omega
   have z2:(qCE (ndi l i).2.2.2.2.2.1 (ndi l i).2.2.2.2.2.2.1 (ndi l i).2.2.2.2.2.2.2.1 (ndi l i).2.2.2.2.2.2.2.2.1++(⟨#[58]⟩:ByteArray)).size+(qCE (ndi l i).2.2.2.2.2.2.2.2.2.1 (ndi l i).2.2.2.2.2.2.2.2.2.2.1 (ndi l i).2.2.2.2.2.2.2.2.2.2.2.1 (ndi l i).2.2.2.2.2.2.2.2.2.2.2.2.1).size≤9223372036854775807:=by rw [ByteArray.size_append];omega
   refine ⟨n1+n2+1,fun n hn=>?_⟩
   obtain ⟨m,rfl,hm⟩:=up1 hn
   have g1:=g1 m (by omega)
   have g2:=g2 m (by omega)
   dsimp only at g1 g2⊢
   show (qBt (qn m) m (l.map qa) i t).run=_
   refine qD (decide_eq_true hxb) (qA hcr (qD rfl (qA (qAU _) (qA (qAV _) (qA (qAW _) (qA (qAX _) (qA (qAY _) (qA (qAZ _) (qA (qAa _) (qA (qAb _) (qA (qAc _) (qA (qAd _) (qA (qx _) (qA (qy _) (qA (qz _) (qA (q7 _) ?_))))))))))))))))
   refine qO (by rw [k];rfl) (qO (by rw [k];rfl) (qD (by rw [k];rfl) (qA g1 (qD (decide_eq_true z1) (qA g2 (qD (decide_eq_true z2) ?_))))))
   rw [qC,qt,if_neg (by omega),if_neg (by omega),if_pos k]
  ·obtain ⟨m0,c0⟩:=hk0 0 (by omega)
   obtain ⟨n1,g1⟩:=ih _ m0 5
   have h1:=isz _ m0 5
   have z1:(⟨#[45]⟩:ByteArray).size+(qt l f (kid (ndi l i) 0) 5).size≤9223372036854775807:=by omega
   have y1:(0:Int)≤(0:Int)∧(0:Int)<((List.map q9 (ndi l i).2.2.2.2.2.2.2.2.2.2.2.2.2).length:Int):=by rw [hkl];omega
   refine ⟨n1+1,fun n hn=>?_⟩
   obtain ⟨m,rfl,hm⟩:=up1 hn
   have g1:=g1 m (by omega)
   dsimp only at g1⊢
   have e0:((0:Int)).toNat=0:=rfl
   show (qBt (qn m) m (l.map qa) i t).run=_
   refine qD (decide_eq_true hxb) (qA hcr (qD rfl (qA (qAU _) (qA (qAV _) (qA (qAW _) (qA (qAX _) (qA (qAY _) (qA (qAZ _) (qA (qAa _) (qA (qAb _) (qA (qAc _) (qA (qAd _) (qA (qx _) (qA (qy _) (qA (qz _) (qA (q7 _) ?_))))))))))))))))
   refine qO (by rw [k];rfl) (qO (by rw [k];rfl) (qO (by rw [k];rfl) (qD (by rw [k];rfl) (qD (decide_eq_true y1) (qA c0 (qD rfl (qA (qAm _) (qA g1 (qD (decide_eq_true z1) ?_)))))))))
   rw [qC,qt,if_neg (by omega),if_neg (by omega),if_neg (by omega),if_pos k]
  ·obtain ⟨m0,c0⟩:=hk0 0 (by omega)
   obtain ⟨m1,c1⟩:=hk0 1 (by omega)
   have hlv:=qTA (ndi l i).2.1
   obtain ⟨n1,g1⟩:=ih _ m0 (lvl (ndi l i).2.1)
   obtain ⟨n2,g2⟩:=ih _ m1 (lvl (ndi l i).2.1+1)
   obtain ⟨n3,g3⟩:=qJb (ndi l i).2.1
   obtain ⟨n4,g4⟩:=qKa (ndi l i).2.1 ho
   have h1:=isz _ m0 (lvl (ndi l i).2.1)
   have h2:=isz _ m1 (lvl (ndi l i).2.1+1)
   have h3:=qMH ho
   have hw:IntKind.i64.wrap (lvl (ndi l i).2.1+1)=lvl (ndi l i).2.1+1:=qT (by omega)
   have y1:(0:Int)≤(0:Int)∧(0:Int)<((List.map q9 (ndi l i).2.2.2.2.2.2.2.2.2.2.2.2.2).length:Int):=by rw [hkl];omega
   have y2:(0:Int)≤(1:Int)∧(1:Int)<((List.map q9 (ndi l i).2.2.2.2.2.2.2.2.2.2.2.2.2).length:Int):=by rw [hkl];omega
   refine ⟨n1+n2+n3+n4+1,fun n hn=>?_⟩
   obtain ⟨m,rfl,hm⟩:=up1 hn
   have g1:=g1 m (by omega)
   have g2:=g2 m (by omega)
   have g3:=g3 m (by omega)
   have g4:=g4 m (by omega)
   dsimp only at g1 g2 g3 g4⊢
   have e0:((0:Int)).toNat=0:=rfl
   have e1:((1:Int)).toNat=1:=rfl
   show (qBt (qn m) m (l.map qa) i t).run=_
   refine qD (decide_eq_true hxb) (qA hcr (qD rfl (qA (qAU _) (qA (qAV _) (qA (qAW _) (qA (qAX _) (qA (qAY _) (qA (qAZ _) (qA (qAa _) (qA (qAb _) (qA (qAc _) (qA (qAd _) (qA (qx _) (qA (qy _) (qA (qz _) (qA (q7 _) ?_))))))))))))))))
   have z1:(qt l f (kid (ndi l i) 0) (lvl (ndi l i).2.1)).size+(qAP (ndi l i).2.1).size≤9223372036854775807:=by omega
   have z2:(qt l f (kid (ndi l i) 0) (lvl (ndi l i).2.1)++qAP (ndi l i).2.1).size+(qt l f (kid (ndi l i) 1) (lvl (ndi l i).2.1+1)).size≤9223372036854775807:=by rw [ByteArray.size_append];omega
   have z3:(⟨#[40]⟩:ByteArray).size+((qt l f (kid (ndi l i) 0) (lvl (ndi l i).2.1)++qAP (ndi l i).2.1)++qt l f (kid (ndi l i) 1) (lvl (ndi l i).2.1+1)).size≤9223372036854775807:=by rw [ByteArray.size_append,ByteArray.size_append];omega
   have z4:((⟨#[40]⟩:ByteArray)++((qt l f (kid (ndi l i) 0) (lvl (ndi l i).2.1)++qAP (ndi l i).2.1)++qt l f (kid (ndi l i) 1) (lvl (ndi l i).2.1+1))).size+(⟨#[41]⟩:ByteArray).size≤9223372036854775807:=by rw [ByteArray.size_append,ByteArray.size_append,ByteArray.size_append];omega
   have g2:qn m (l.map qa) (kid (ndi l i) 1) (IntKind.i64.wrap (lvl (ndi l i).2.1+1))=some (qt l f (kid (ndi l i) 1) (lvl (ndi l i).2.1+1)):=by rw [hw];exact g2
   refine qO (by rw [k];rfl) (qO (by rw [k];rfl) (qO (by rw [k];rfl) (qO (by rw [k];rfl) (qD (by rw [k];rfl) (qA g3 (qD (decide_eq_true y1) (qA c0 (qD rfl (qA (qAm _) (qD (decide_eq_true y2) (qA c1 (qD rfl (qA (qAm _) (qA g1 (qA g4 (qD (decide_eq_true z1) (qA g2 (qD (decide_eq_true z2) ?_))))))))))))))))))
   rw [qt,if_neg (by omega),if_neg (by omega),if_neg (by omega),if_neg (by omega),if_pos k]
   unfold par
   by_cases ht:lvl (ndi l i).2.1<t
   ·refine qD (decide_eq_true ht) (qD (decide_eq_true z3) (qD (decide_eq_true z4) ?_))
    rw [qC,if_pos (decide_eq_true ht)]
   ·refine qO (decide_eq_false ht) ?_
    rw [qC,if_neg (by simpa using ht)]
  ·obtain ⟨n0,g0⟩:=qAl (F:=fun k n=>qn n (l.map qa) k 0) (f:=fun k=>qt l f k 1) (qV l i) (fun k hk=>by
    have:=ih k hk 0
    rw [qTZ] at this
    exact this)
   obtain ⟨n1,g1⟩:=qM3 (ndi l i).2.1 ho
   have h1:=qQN ho
   refine ⟨n0+n1+20,fun n hn=>?_⟩
   obtain ⟨m,rfl,hm⟩:=up1 hn
   have g0:=g0 m (by omega)
   have g1:=g1 m (by omega)
   have hj:=qRV l f m ((ndi l i).1,(ndi l i).2.1,(ndi l i).2.2.1,(ndi l i).2.2.2.1,(ndi l i).2.2.2.2.1,(ndi l i).2.2.2.2.2.1,(ndi l i).2.2.2.2.2.2.1,(ndi l i).2.2.2.2.2.2.2.1,(ndi l i).2.2.2.2.2.2.2.2.1,(ndi l i).2.2.2.2.2.2.2.2.2.1,(ndi l i).2.2.2.2.2.2.2.2.2.2.1,(ndi l i).2.2.2.2.2.2.2.2.2.2.2.1,(ndi l i).2.2.2.2.2.2.2.2.2.2.2.2.1,(kd (ndi l i)).map q9) (szB f) hs (kd (ndi l i)) rfl hk.2 (fun k hk=>⟨g0 k hk,isz k hk 1⟩) (kd (ndi l i)) [] (fnS (ndi l i).2.1++(⟨#[40]⟩:ByteArray)) m rfl (by omega) (by rw [ByteArray.size_append];omega)
   simp only [List.length_nil,Int.natCast_zero,if_true] at hj
   have hjs:=qMI (xs:=(qV l i).map fun k=>qt l f k 1) (b:=szB f) (fun x hx=>by
    obtain ⟨k,hk,rfl⟩:=List.mem_map.1 hx
    exact isz k hk 1)
   have h3:(qV l i).length≤10:=hk.2
   have h4:(qV l i).length*(szB f+1)≤10*(szB f+1):=Nat.mul_le_mul_right _ h3
   rw [List.length_map] at hjs
   have ej:(⟨((fnS (ndi l i).2.1++(⟨#[40]⟩:ByteArray)).data.toList++Lib.join ((kd (ndi l i)).map fun k=>(qt l f k 1).data.toList) [44]).toArray⟩:ByteArray)=(fnS (ndi l i).2.1++(⟨#[40]⟩:ByteArray))++qQO ((qV l i).map fun k=>qt l f k 1):=by
    apply qHW
    rw [qDg]
    simp [qQO,qV,Function.comp_def]
   rw [ej] at hj
   obtain ⟨J,hJ⟩:∃J,qQO ((qV l i).map fun k=>qt l f k 1)=J:=⟨_,rfl⟩
   rw [hJ] at hj hjs
   have z1:(fnS (ndi l i).2.1).size+(⟨#[40]⟩:ByteArray).size≤9223372036854775807:=by omega
   have z2:((fnS (ndi l i).2.1++(⟨#[40]⟩:ByteArray))++J).size+(⟨#[41]⟩:ByteArray).size≤9223372036854775807:=by rw [ByteArray.size_append,ByteArray.size_append];omega
   unfold kd at hj
   dsimp only at g1⊢
   show (qBt (qn m) m (l.map qa) i t).run=_
   refine qD (decide_eq_true hxb) (qA hcr (qD rfl (qA (qAU _) (qA (qAV _) (qA (qAW _) (qA (qAX _) (qA (qAY _) (qA (qAZ _) (qA (qAa _) (qA (qAb _) (qA (qAc _) (qA (qAd _) (qA (qx _) (qA (qy _) (qA (qz _) (qA (q7 _) ?_))))))))))))))))
   refine qO (by rw [k];rfl) (qO (by rw [k];rfl) (qO (by rw [k];rfl) (qO (by rw [k];rfl) (qO (by rw [k];rfl) (qA g1 (qD (decide_eq_true z1) (qA hj (qD (decide_eq_true z2) ?_))))))))
   rw [qC,qt,if_neg (by omega),if_neg (by omega),if_neg (by omega),if_neg (by omega),if_neg (by omega),hJ]
theorem qKd {l:List Nd} (h:Fine l):∀(f:Nat) (i t:Int),f≤12→(0≤i∧i<l.length)→qAz (qV l) (i.toNat+1) i≤f→Ev (qn · (l.map qa) i t) (qt l f i t)
 |0,i,t,hf,hx,hd=>by
  have:=qOC (qV l) (i.toNat+1) i hx.1 (by omega)
  omega
 |f+1,i,t,hf,hx,hd=>qLL h f i t hf hx hd fun k hk t'=>qKd h f k t' (by omega) (h.kid hx hd hk).1 (h.kid hx hd hk).2
theorem qTt:∀f:Fin 12,szB f.val≤12000000000000:=by decide
theorem qUF {f:Nat} (h:f≤11):szB f≤12000000000000:=qTt ⟨f,by omega⟩
theorem qSi:∀xs:List ByteArray,zBS (xs.map fun x=> [PV.s x])=some xs
 | []=>rfl
 |x::r=>by simp only [List.map_cons,zBS,qSi r,Option.map_some]
theorem qRW (rec:List (List PV)→Int→Int→Option ByteArray) (n:Nat) (rows:List (List PV)) (T:Int→ByteArray) (a0 a1 a2 a3:Int) (a4:ByteArray) (a5 a6:Int) (a7 a8:Bool) (a9 a10:Int) (a11 a12:Bool) (a13:List (List PV)) (ks:List Int) (hk10:ks.length≤10)
  (hr:∀k∈ks,rec rows k 1=some (T k)):
  ∀(r pre:List Int) (M:Nat),ks=pre++r→r.length+1≤M→
   zD (qBZ rec n) M (rows,pre.length,ks.map q9,((ks.map q9).length:Int),(pre.length:Int),a0,a1,a2,a3,a4,a5,a6,a7,a8,a9,a10,a11,a12,a13,pre.map fun k=> [PV.s (T k)])=some (ks.length,a0,a1,a2,a3,a4,a5,a6,a7,a8,a9,a10,a11,a12,a13,ks.map fun k=> [PV.s (T k)])
 |r,pre,0,h1,h2=>by omega
 | [],pre,M+1,h1,h2=>by
  have hi:¬(pre.length:Int)<((ks.map q9).length:Int):=by rw [List.length_map,h1];simp
  have e:pre=ks:=by rw [h1];simp
  rw [qP (r:=(pre.length,a0,a1,a2,a3,a4,a5,a6,a7,a8,a9,a10,a11,a12,a13,pre.map fun k=> [PV.s (T k)])) (by simp only [qBZ,qC,qE,qG,qH,qJ,qK,Option.bind_some,qF,qM,qN,decide_eq_false hi,Bool.false_eq_true,if_false])]
  rw [e]
 |k::r,pre,M+1,h1,h2=>by
  have hm:k∈ks:=by rw [h1];simp
  have g1:=hr k hm
  have hpl:pre.length+(r.length+1)=ks.length:=by rw [h1];simp
  have hg:(ks.map q9)[pre.length]?=some (q9 k):=by rw [h1,List.getElem?_map];simp
  have hi:(pre.length:Int)<((ks.map q9).length:Int):=by rw [List.length_map];omega
  have h3:0≤(pre.length:Int)∧(pre.length:Int)<((ks.map q9).length:Int):=by omega
  have w1:IntKind.i64.wrap ((pre.length:Int)+1)=((pre.length+1:Nat):Int):=by rw [qT (by omega)];omega
  have hc:pre.length=(pre.map fun k=> [PV.s (T k)]).length∧0<1∧0<16∧(pre.length+([[PV.s (T k)]]:List (List PV)).length)*16≤140737488355328∧([[PV.s (T k)]]:List (List PV)).all (fun e=>e.length==1)=true:=by
   refine ⟨by simp,by decide,by decide,?_,rfl⟩
   rw [List.length_singleton]
   omega
  have h1l:decide (1=([[PV.s (T k)]]:List (List PV)).length)=true:=rfl
  rw [qU (v':=(rows,pre.length+1,ks.map q9,((ks.map q9).length:Int),((pre.length+1:Nat):Int),a0,a1,a2,a3,a4,a5,a6,a7,a8,a9,a10,a11,a12,a13,(pre.map fun k=> [PV.s (T k)])++ [[PV.s (T k)]])) (by
   simp only [qBZ,qC,qE,qG,qH,qJ,qK,Option.bind_some,qF,qM,qN,decide_eq_true hi,if_true,decide_eq_true h3,Int.toNat_natCast,hg,qBF,qAm,decide_true,g1,h1l,decide_eq_true hc,w1])]
  have h:=qRW rec n rows T a0 a1 a2 a3 a4 a5 a6 a7 a8 a9 a10 a11 a12 a13 ks hk10 hr r (pre++ [k]) M (by rw [h1];simp) (by simp at h2;omega)
  simp only [List.map_append,List.map_cons,List.map_nil,List.length_append,List.length_singleton] at h⊢
  exact h
set_option maxHeartbeats 4000000 in
theorem qH1 {l:List Nd} (h:Fine l) (f:Nat) (i t:Int) (hf:f+1≤12) (hx:0≤i∧i<l.length) (hd:qAz (qV l) (i.toNat+1) i≤(f+1:Nat)) (ih:∀k∈qV l i,∀t',Ev (qZ · (l.map qa) k t') (qt l f k t')):Ev (qZ · (l.map qa) i t) (qt l (f+1) i t):=by
  have ih:=fun k hk t'=>ih k hk t'
  have isz:=fun k hk t'=>qOG h f k t' (by omega) (h.kid hx hd hk).1 (h.kid hx hd hk).2
  have hs:=qUD (f:=f) (by omega)
  have hcr:(l.map qa)[i.toNat]?=some (qa (ndi l i)):=by rw [List.getElem?_map,qCx hx];rfl
  have hxb:0≤i∧i<((l.map qa).length:Int):=by rw [List.length_map];exact hx
  have hz:=(h.sz _ (qI5 hx)).2
  have hp:∀a b c d,(qCE a b c d).size≤30:=qKW
  have d1:(⟨#[58]⟩:ByteArray).size=1:=rfl
  have d2:(⟨#[45]⟩:ByteArray).size=1:=rfl
  have d3:(⟨#[40]⟩:ByteArray).size=1:=rfl
  have d4:(⟨#[41]⟩:ByteArray).size=1:=rfl
  have hk0:∀j,j<(kd (ndi l i)).length→kid (ndi l i) j∈qV l i∧(List.map q9 (ndi l i).2.2.2.2.2.2.2.2.2.2.2.2.2)[j]?=some (q9 (kid (ndi l i) j)):=fun j hj=>by
   unfold kid
   rw [List.getD_eq_getElem?_getD,List.getElem?_eq_getElem hj]
   refine ⟨List.getElem_mem hj,?_⟩
   rw [List.getElem?_map]
   show ((kd (ndi l i))[j]?).map q9=_
   rw [List.getElem?_eq_getElem hj]
   rfl
  have hkl:(List.map q9 (ndi l i).2.2.2.2.2.2.2.2.2.2.2.2.2).length=(kd (ndi l i)).length:=by rw [List.length_map];rfl
  rcases qKc (h.own i hx.1 hx.2).1 with ⟨k,hv⟩|k|k|⟨k,hk⟩|⟨k,ho,hk⟩|⟨k,ho,hk⟩
  ·by_cases k2:(ndi l i).2.2.1=2
   ·have hv2:okV 2 (ndi l i).2.2.2.1 (ndi l i).2.2.2.2.1=true:=by rw [←k2];exact hv
    have hq:=(qRM hv2).2.1
    obtain ⟨n1,g1⟩:=qQ8 (ndi l i).2.2.2.2.1 (by omega)
    have h1:=qIU (ndi l i).2.2.2.2.1.toList
    rw [qAT] at h1
    have h2:(⟨(qBg (ndi l i).2.2.2.2.1.toList).toArray⟩:ByteArray).size=(qBg (ndi l i).2.2.2.2.1.toList).length:=by rw [qCw]
    have e:((⟨#[34]⟩:ByteArray)++⟨(qBg (ndi l i).2.2.2.2.1.toList).toArray⟩)++(⟨#[34]⟩:ByteArray)=qOE (ndi l i).2.2.2.2.1:=by
     apply qHW
     rw [qDg,qDg]
     simp [qOE]
    have d5:(⟨#[34]⟩:ByteArray).size=1:=rfl
    refine ⟨n1+1,fun n hn=>?_⟩
    obtain ⟨m,rfl,hm⟩:=up1 hn
    have g1:=g1 m (by omega)
    dsimp only at g1⊢
    obtain ⟨q,hqe⟩:∃q,(⟨(qBg (ndi l i).2.2.2.2.1.toList).toArray⟩:ByteArray)=q:=⟨_,rfl⟩
    rw [hqe] at g1 h2 e
    have z1:(⟨#[34]⟩:ByteArray).size+q.size≤9223372036854775807:=by omega
    have z2:((⟨#[34]⟩:ByteArray)++q).size+(⟨#[34]⟩:ByteArray).size≤9223372036854775807:=by rw [ByteArray.size_append];omega
    show (qAk (qZ m) m (l.map qa) i t).run=_
    refine qD (decide_eq_true hxb) (qA hcr (qD rfl (qA (qAU _) (qA (qAV _) (qA (qAW _) (qA (qAX _) (qA (qAY _) (qA (qAZ _) (qA (qAa _) (qA (qAb _) (qA (qAc _) (qA (qAd _) (qA (qx _) (qA (qy _) (qA (qz _) (qA (q7 _) ?_))))))))))))))))
    refine qD (by rw [k];rfl) (qD (by rw [k2];rfl) (qA g1 (qD (decide_eq_true z1) (qD (decide_eq_true z2) ?_))))
    rw [qC,qt,if_pos k,if_pos k2,e]
   ·obtain ⟨n1,g1⟩:=qHX (ndi l i).2.2.1 (ndi l i).2.2.2.1 (ndi l i).2.2.2.2.1 hv
    have kb:((ndi l i).2.2.1==(2:Int))=false:=by simpa using k2
    refine ⟨n1+1,fun n hn=>?_⟩
    obtain ⟨m,rfl,hm⟩:=up1 hn
    have g1:=g1 m (by omega)
    dsimp only at g1⊢
    show (qAk (qZ m) m (l.map qa) i t).run=_
    refine qD (decide_eq_true hxb) (qA hcr (qD rfl (qA (qAU _) (qA (qAV _) (qA (qAW _) (qA (qAX _) (qA (qAY _) (qA (qAZ _) (qA (qAa _) (qA (qAb _) (qA (qAc _) (qA (qAd _) (qA (qx _) (qA (qy _) (qA (qz _) (qA (q7 _) ?_))))))))))))))))
    refine qD (by rw [k];rfl) (qO kb (qA g1 ?_))
    rw [qC,qt,if_pos k,if_neg k2]
  ·obtain ⟨n1,g1⟩:=qDU (ndi l i).2.2.2.2.2.1 (ndi l i).2.2.2.2.2.2.1 (ndi l i).2.2.2.2.2.2.2.1 (ndi l i).2.2.2.2.2.2.2.2.1
   refine ⟨n1+1,fun n hn=>?_⟩
   obtain ⟨m,rfl,hm⟩:=up1 hn
   have g1:=g1 m (by omega)
   dsimp only at g1⊢
   show (qAk (qZ m) m (l.map qa) i t).run=_
   refine qD (decide_eq_true hxb) (qA hcr (qD rfl (qA (qAU _) (qA (qAV _) (qA (qAW _) (qA (qAX _) (qA (qAY _) (qA (qAZ _) (qA (qAa _) (qA (qAb _) (qA (qAc _) (qA (qAd _) (qA (qx _) (qA (qy _) (qA (qz _) (qA (q7 _) ?_))))))))))))))))
   refine qO (by rw [k];rfl) (qD (by rw [k];rfl) (qA g1 ?_))
   rw [qC,qt,if_neg (by omega),if_pos k]
  ·obtain ⟨n1,g1⟩:=qDU (ndi l i).2.2.2.2.2.1 (ndi l i).2.2.2.2.2.2.1 (ndi l i).2.2.2.2.2.2.2.1 (ndi l i).2.2.2.2.2.2.2.2.1
   obtain ⟨n2,g2⟩:=qDU (ndi l i).2.2.2.2.2.2.2.2.2.1 (ndi l i).2.2.2.2.2.2.2.2.2.2.1 (ndi l i).2.2.2.2.2.2.2.2.2.2.2.1 (ndi l i).2.2.2.2.2.2.2.2.2.2.2.2.1
   have h1:=hp (ndi l i).2.2.2.2.2.1 (ndi l i).2.2.2.2.2.2.1 (ndi l i).2.2.2.2.2.2.2.1 (ndi l i).2.2.2.2.2.2.2.2.1
   have h2:=hp (ndi l i).2.2.2.2.2.2.2.2.2.1 (ndi l i).2.2.2.2.2.2.2.2.2.2.1 (ndi l i).2.2.2.2.2.2.2.2.2.2.2.1 (ndi l i).2.2.2.2.2.2.2.2.2.2.2.2.1
   have z1:(qCE (ndi l i).2.2.2.2.2.1 (ndi l i).2.2.2.2.2.2.1 (ndi l i).2.2.2.2.2.2.2.1 (ndi l i).2.2.2.2.2.2.2.2.1).size+(⟨#[58]⟩:ByteArray).size≤9223372036854775807:=by omega
   have z2:(qCE (ndi l i).2.2.2.2.2.1 (ndi l i).2.2.2.2.2.2.1 (ndi l i).2.2.2.2.2.2.2.1 (ndi l i).2.2.2.2.2.2.2.2.1++(⟨#[58]⟩:ByteArray)).size+(qCE (ndi l i).2.2.2.2.2.2.2.2.2.1 (ndi l i).2.2.2.2.2.2.2.2.2.2.1 (ndi l i).2.2.2.2.2.2.2.2.2.2.2.1 (ndi l i).2.2.2.2.2.2.2.2.2.2.2.2.1).size≤9223372036854775807:=by rw [ByteArray.size_append];omega
   refine ⟨n1+n2+1,fun n hn=>?_⟩
   obtain ⟨m,rfl,hm⟩:=up1 hn
   have g1:=g1 m (by omega)
   have g2:=g2 m (by omega)
   dsimp only at g1 g2⊢
   show (qAk (qZ m) m (l.map qa) i t).run=_
   refine qD (decide_eq_true hxb) (qA hcr (qD rfl (qA (qAU _) (qA (qAV _) (qA (qAW _) (qA (qAX _) (qA (qAY _) (qA (qAZ _) (qA (qAa _) (qA (qAb _) (qA (qAc _) (qA (qAd _) (qA (qx _) (qA (qy _) (qA (qz _) (qA (q7 _) ?_))))))))))))))))
   refine qO (by rw [k];rfl) (qO (by rw [k];rfl) (qD (by rw [k];rfl) (qA g1 (qD (decide_eq_true z1) (qA g2 (qD (decide_eq_true z2) ?_))))))
   rw [qC,qt,if_neg (by omega),if_neg (by omega),if_pos k]
  ·obtain ⟨m0,c0⟩:=hk0 0 (by omega)
   obtain ⟨n1,g1⟩:=ih _ m0 5
   have h1:=isz _ m0 5
   have z1:(⟨#[45]⟩:ByteArray).size+(qt l f (kid (ndi l i) 0) 5).size≤9223372036854775807:=by omega
   have y1:(0:Int)≤(0:Int)∧(0:Int)<((List.map q9 (ndi l i).2.2.2.2.2.2.2.2.2.2.2.2.2).length:Int):=by rw [hkl];omega
   refine ⟨n1+1,fun n hn=>?_⟩
   obtain ⟨m,rfl,hm⟩:=up1 hn
   have g1:=g1 m (by omega)
   dsimp only at g1⊢
   have e0:((0:Int)).toNat=0:=rfl
   show (qAk (qZ m) m (l.map qa) i t).run=_
   refine qD (decide_eq_true hxb) (qA hcr (qD rfl (qA (qAU _) (qA (qAV _) (qA (qAW _) (qA (qAX _) (qA (qAY _) (qA (qAZ _) (qA (qAa _) (qA (qAb _) (qA (qAc _) (qA (qAd _) (qA (qx _) (qA (qy _) (qA (qz _) (qA (q7 _) ?_))))))))))))))))
   refine qO (by rw [k];rfl) (qO (by rw [k];rfl) (qO (by rw [k];rfl) (qD (by rw [k];rfl) (qD (decide_eq_true y1) (qA c0 (qD rfl (qA (qAm _) (qA g1 (qD (decide_eq_true z1) ?_)))))))))
   rw [qC,qt,if_neg (by omega),if_neg (by omega),if_neg (by omega),if_pos k]
  ·obtain ⟨m0,c0⟩:=hk0 0 (by omega)
   obtain ⟨m1,c1⟩:=hk0 1 (by omega)
   have hlv:=qTA (ndi l i).2.1
   obtain ⟨n1,g1⟩:=ih _ m0 (lvl (ndi l i).2.1)
   obtain ⟨n2,g2⟩:=ih _ m1 (lvl (ndi l i).2.1+1)
   obtain ⟨n3,g3⟩:=qLc (ndi l i).2.1 ho
   obtain ⟨n4,g4⟩:=qG7 (ndi l i).2.1 ho
   have h1:=isz _ m0 (lvl (ndi l i).2.1)
   have h2:=isz _ m1 (lvl (ndi l i).2.1+1)
   have h3:=qMH ho
   have hw:IntKind.i64.wrap (lvl (ndi l i).2.1+1)=lvl (ndi l i).2.1+1:=qT (by omega)
   have y1:(0:Int)≤(0:Int)∧(0:Int)<((List.map q9 (ndi l i).2.2.2.2.2.2.2.2.2.2.2.2.2).length:Int):=by rw [hkl];omega
   have y2:(0:Int)≤(1:Int)∧(1:Int)<((List.map q9 (ndi l i).2.2.2.2.2.2.2.2.2.2.2.2.2).length:Int):=by rw [hkl];omega
   refine ⟨n1+n2+n3+n4+1,fun n hn=>?_⟩
   obtain ⟨m,rfl,hm⟩:=up1 hn
   have g1:=g1 m (by omega)
   have g2:=g2 m (by omega)
   have g3:=g3 m (by omega)
   have g4:=g4 m (by omega)
   dsimp only at g1 g2 g3 g4⊢
   have e0:((0:Int)).toNat=0:=rfl
   have e1:((1:Int)).toNat=1:=rfl
   show (qAk (qZ m) m (l.map qa) i t).run=_
   refine qD (decide_eq_true hxb) (qA hcr (qD rfl (qA (qAU _) (qA (qAV _) (qA (qAW _) (qA (qAX _) (qA (qAY _) (qA (qAZ _) (qA (qAa _) (qA (qAb _) (qA (qAc _) (qA (qAd _) (qA (qx _) (qA (qy _) (qA (qz _) (qA (q7 _) ?_))))))))))))))))
   have z1:(qt l f (kid (ndi l i) 0) (lvl (ndi l i).2.1)).size+(qAP (ndi l i).2.1).size≤9223372036854775807:=by omega
   have z2:(qt l f (kid (ndi l i) 0) (lvl (ndi l i).2.1)++qAP (ndi l i).2.1).size+(qt l f (kid (ndi l i) 1) (lvl (ndi l i).2.1+1)).size≤9223372036854775807:=by rw [ByteArray.size_append];omega
   have z3:(⟨#[40]⟩:ByteArray).size+((qt l f (kid (ndi l i) 0) (lvl (ndi l i).2.1)++qAP (ndi l i).2.1)++qt l f (kid (ndi l i) 1) (lvl (ndi l i).2.1+1)).size≤9223372036854775807:=by rw [ByteArray.size_append,ByteArray.size_append];omega
   have z4:((⟨#[40]⟩:ByteArray)++((qt l f (kid (ndi l i) 0) (lvl (ndi l i).2.1)++qAP (ndi l i).2.1)++qt l f (kid (ndi l i) 1) (lvl (ndi l i).2.1+1))).size+(⟨#[41]⟩:ByteArray).size≤9223372036854775807:=by rw [ByteArray.size_append,ByteArray.size_append,ByteArray.size_append];omega
   have g2:qZ m (l.map qa) (kid (ndi l i) 1) (IntKind.i64.wrap (lvl (ndi l i).2.1+1))=some (qt l f (kid (ndi l i) 1) (lvl (ndi l i).2.1+1)):=by rw [hw];exact g2
   refine qO (by rw [k];rfl) (qO (by rw [k];rfl) (qO (by rw [k];rfl) (qO (by rw [k];rfl) (qD (by rw [k];rfl) (qA g3 (qD (decide_eq_true y1) (qA c0 (qD rfl (qA (qAm _) (qD (decide_eq_true y2) (qA c1 (qD rfl (qA (qAm _) (qA g1 (qA g4 (qD (decide_eq_true z1) (qA g2 (qD (decide_eq_true z2) ?_))))))))))))))))))
   rw [qt,if_neg (by omega),if_neg (by omega),if_neg (by omega),if_neg (by omega),if_pos k]
   unfold par
   by_cases ht:lvl (ndi l i).2.1<t
   ·refine qD (decide_eq_true ht) (qD (decide_eq_true z3) (qD (decide_eq_true z4) ?_))
    rw [qC,if_pos (decide_eq_true ht)]
   ·refine qO (decide_eq_false ht) ?_
    rw [qC,if_neg (by simpa using ht)]
  ·obtain ⟨n0,g0⟩:=qAl (F:=fun k n=>qZ n (l.map qa) k 1) (f:=fun k=>qt l f k 1) (qV l i) (fun k hk=>ih k hk 1)
   obtain ⟨n1,g1⟩:=qKb (ndi l i).2.1 ho
   have h1:=qQN ho
   have hs11:=qUF (f:=f) (by omega)
   have h3:(qV l i).length≤10:=hk.2
   have hjs:=qMI (xs:=(qV l i).map fun k=>qt l f k 1) (b:=szB f) (fun x hx=>by
    obtain ⟨k,hk,rfl⟩:=List.mem_map.1 hx
    exact isz k hk 1)
   have h4:(qV l i).length*(szB f+1)≤10*(szB f+1):=Nat.mul_le_mul_right _ h3
   rw [List.length_map] at hjs
   have gj:∀n,1≤n→qGz n (((qV l i).map fun k=>qt l f k 1).map fun x=> [PV.s x]) ⟨#[44]⟩=some (qQO ((qV l i).map fun k=>qt l f k 1)):=fun n hn=>by
    obtain ⟨m,rfl,_⟩:=up1 (n0:=0) hn
    show zAc _ _=_
    unfold zAc
    rw [qSi,Option.bind_some,if_pos]
    ·rfl
    ·rw [qCw] at hjs
     refine ⟨by rw [List.length_map];omega,?_⟩
     have:(Lib.join (((qV l i).map fun k=>qt l f k 1).map (·.data.toList)) [44]).length≤(qV l i).length*(szB f+1):=hjs
     show (Lib.join (((qV l i).map fun k=>qt l f k 1).map (·.data.toList)) [44]).length≤_
     omega
   refine ⟨n0+n1+20,fun n hn=>?_⟩
   obtain ⟨m,rfl,hm⟩:=up1 hn
   have g0:=g0 m (by omega)
   have g1:=g1 m (by omega)
   have gj:=gj m (by omega)
   have hj:=qRW (qZ m) m (l.map qa) (fun k=>qt l f k 1) (ndi l i).1 (ndi l i).2.1 (ndi l i).2.2.1 (ndi l i).2.2.2.1 (ndi l i).2.2.2.2.1 (ndi l i).2.2.2.2.2.1 (ndi l i).2.2.2.2.2.2.1 (ndi l i).2.2.2.2.2.2.2.1 (ndi l i).2.2.2.2.2.2.2.2.1 (ndi l i).2.2.2.2.2.2.2.2.2.1 (ndi l i).2.2.2.2.2.2.2.2.2.2.1 (ndi l i).2.2.2.2.2.2.2.2.2.2.2.1 (ndi l i).2.2.2.2.2.2.2.2.2.2.2.2.1 ((kd (ndi l i)).map q9) (kd (ndi l i)) hk.2 g0 (kd (ndi l i)) [] m rfl (by omega)
   simp only [List.length_nil,Int.natCast_zero,List.map_nil,List.length_map] at hj
   obtain ⟨J,hJ⟩:∃J,qQO ((qV l i).map fun k=>qt l f k 1)=J:=⟨_,rfl⟩
   rw [hJ] at gj hjs
   have z1:(fnS (ndi l i).2.1).size+(⟨#[40]⟩:ByteArray).size≤9223372036854775807:=by omega
   have z2:(fnS (ndi l i).2.1++(⟨#[40]⟩:ByteArray)).size+J.size≤9223372036854775807:=by rw [ByteArray.size_append];omega
   have z3:((fnS (ndi l i).2.1++(⟨#[40]⟩:ByteArray))++J).size+(⟨#[41]⟩:ByteArray).size≤9223372036854775807:=by rw [ByteArray.size_append,ByteArray.size_append];omega
   unfold qV at gj
   unfold kd at hj gj
   dsimp only at g1⊢
   rw [List.map_map] at gj
   have hkl':(((ndi l i).2.2.2.2.2.2.2.2.2.2.2.2.2.map q9).length:Int)=((ndi l i).2.2.2.2.2.2.2.2.2.2.2.2.2.length:Int):=by rw [List.length_map]
   have hll:decide ((ndi l i).2.2.2.2.2.2.2.2.2.2.2.2.2.length=(List.map ((fun x=> [PV.s x])∘fun k=>qt l f k 1) (ndi l i).2.2.2.2.2.2.2.2.2.2.2.2.2).length)=true:=by simp
   have hmm:(List.map (fun k=> [PV.s (qt l f k 1)]) (ndi l i).2.2.2.2.2.2.2.2.2.2.2.2.2)=List.map ((fun x=> [PV.s x])∘fun k=>qt l f k 1) (ndi l i).2.2.2.2.2.2.2.2.2.2.2.2.2:=rfl
   rw [hmm] at hj
   rw [←hkl'] at hj
   show (qAk (qZ m) m (l.map qa) i t).run=_
   refine qD (decide_eq_true hxb) (qA hcr (qD rfl (qA (qAU _) (qA (qAV _) (qA (qAW _) (qA (qAX _) (qA (qAY _) (qA (qAZ _) (qA (qAa _) (qA (qAb _) (qA (qAc _) (qA (qAd _) (qA (qx _) (qA (qy _) (qA (qz _) (qA (q7 _) ?_))))))))))))))))
   refine qO (by rw [k];rfl) (qO (by rw [k];rfl) (qO (by rw [k];rfl) (qO (by rw [k];rfl) (qO (by rw [k];rfl) (qA hj (qA g1 (qD (decide_eq_true z1) (qD hll (qA gj (qD rfl (qD (decide_eq_true z2) (qD (decide_eq_true z3) ?_))))))))))))
   rw [qC,qt,if_neg (by omega),if_neg (by omega),if_neg (by omega),if_neg (by omega),if_neg (by omega),hJ]
theorem qGJ {l:List Nd} (h:Fine l):∀(f:Nat) (i t:Int),f≤12→(0≤i∧i<l.length)→qAz (qV l) (i.toNat+1) i≤f→Ev (qZ · (l.map qa) i t) (qt l f i t)
 |0,i,t,hf,hx,hd=>by
  have:=qOC (qV l) (i.toNat+1) i hx.1 (by omega)
  omega
 |f+1,i,t,hf,hx,hd=>qH1 h f i t hf hx hd fun k hk t'=>qGJ h f k t' (by omega) (h.kid hx hd hk).1 (h.kid hx hd hk).2
def qDB (l:List Nd):ByteArray:=if qFn l=true then (if ((qt l 12 ((l.length:Int)-1) 1).size:Int)>200 then ⟨#[]⟩ else qt l 12 ((l.length:Int)-1) 1) else ⟨#[]⟩
theorem qTa {l:List Nd} (h:qFn l=true) (hk:∀c∈l,(kd c).length≤140737488351232∧c.2.2.2.2.1.size≤140737488351232):Fine l∧(0≤(l.length:Int)-1∧(l.length:Int)-1<l.length)∧qAz (qV l) (((l.length:Int)-1).toNat+1) ((l.length:Int)-1)≤(12:Nat):=by
 unfold qFn at h
 simp only [Bool.and_eq_true,decide_eq_true_eq] at h
 obtain ⟨h1,h2,h3,h4,h5⟩:=h
 have e:((l.length:Int)-1).toNat+1=l.length:=by omega
 rw [e]
 exact ⟨⟨h1.2,qFm.1 h2,hk⟩,by omega,h5⟩
theorem qLM (l:List Nd) (hl:l.length≤140737488351232) (hk:∀c∈l,(kd c).length≤140737488351232∧c.2.2.2.2.1.size≤140737488351232):Ev (qBk · (l.map qa)) (qDB l):=by
 obtain ⟨n1,g1⟩:=qHa l hk
 unfold qDB
 cases hf:qFn l with
 |false=>
  rw [hf] at g1
  refine ⟨n1+1,fun n hn=>?_⟩
  obtain ⟨m,rfl,hm⟩:=up1 hn
  have g1:=g1 m (by omega)
  dsimp only at g1⊢
  simp [qBk,qDD,qC,qE,qG,qH,qJ,qK,Option.bind_some,qF,qM,qN,g1]
 |true=>
  rw [hf] at g1
  obtain ⟨q1,q2,q3⟩:=qTa hf hk
  obtain ⟨n2,g2⟩:=qKd q1 12 ((l.length:Int)-1) 0 (by decide) q2 q3
  rw [qTZ] at g2
  have hw:IntKind.i64.wrap ((l.length:Int)-1)=(l.length:Int)-1:=qT (by omega)
  refine ⟨n1+n2+1,fun n hn=>?_⟩
  obtain ⟨m,rfl,hm⟩:=up1 hn
  have g1:=g1 m (by omega)
  have g2:=g2 m (by omega)
  dsimp only at g1 g2⊢
  generalize qt l 12 ((l.length:Int)-1) 1=t at*
  simp only [qBk,qDD,qC,qE,qG,qH,qJ,qK,Option.bind_some,qF,qM,qN,g1,List.length_map,hw,g2]
  by_cases h2:(t.size:Int)>200<;>simp [h2]
theorem qLN (l:List Nd) (hl:l.length≤140737488351232) (hk:∀c∈l,(kd c).length≤140737488351232∧c.2.2.2.2.1.size≤140737488351232):Ev (qBr · (l.map qa)) (qDB l):=by
 obtain ⟨n1,g1⟩:=qHb l hl hk
 unfold qDB
 cases hf:qFn l with
 |false=>
  rw [hf] at g1
  refine ⟨n1+1,fun n hn=>?_⟩
  obtain ⟨m,rfl,hm⟩:=up1 hn
  have g1:=g1 m (by omega)
  dsimp only at g1⊢
  simp [qBr,qDG,qC,qE,qG,qH,qJ,qK,Option.bind_some,qF,qM,qN,g1]
 |true=>
  rw [hf] at g1
  obtain ⟨q1,q2,q3⟩:=qTa hf hk
  obtain ⟨n2,g2⟩:=qGJ q1 12 ((l.length:Int)-1) 1 (by decide) q2 q3
  have hw:IntKind.i64.wrap ((l.length:Int)-1)=(l.length:Int)-1:=qT (by omega)
  refine ⟨n1+n2+1,fun n hn=>?_⟩
  obtain ⟨m,rfl,hm⟩:=up1 hn
  have g1:=g1 m (by omega)
  have g2:=g2 m (by omega)
  dsimp only at g1 g2⊢
  generalize qt l 12 ((l.length:Int)-1) 1=t at*
  simp only [qBr,qDG,qC,qE,qG,qH,qJ,qK,Option.bind_some,qF,qM,qN,g1,List.length_map,hw,g2]
  by_cases h2:(t.size:Int)>200<;>simp [h2]
abbrev PS:=List UInt8×Bool×List Nd
def tb (r:List UInt8):List UInt8:=r.dropWhile (· ==32)
def wch (c:UInt8):Bool:=(decide (65≤c.toNat)&&decide (c.toNat≤90))||((decide (48≤c.toNat)&&decide (c.toNat≤57))||c==36)
def wd (r:List UInt8):List UInt8:=r.takeWhile wch
def wr (r:List UInt8):List UInt8:=r.dropWhile wch
def BR (r:List UInt8):ByteArray:=⟨r.toArray⟩
def qEX:List (List UInt8):= [[60,62],[60,61],[62,61],[60],[62],[61],[38],[43],[45],[42],[47],[40],[41],[44],[58]]
def sgn (r:List UInt8):List UInt8:=match qEX.find? (fun w=>w.isPrefixOf r) with|some w=>w|none=> []
def nd1 (v:V3):Nd:=(1,0,v.1,v.2.1,v.2.2,0,0,false,false,0,0,false,false,[])
def ndK (k op:Int) (kids:List Int):Nd:=(k,op,0,0,em,0,0,false,false,0,0,false,false,kids)
def ndC (p:Int×Int×Bool×Bool×Bool):Nd:=(2,0,0,0,em,p.1,p.2.1,p.2.2.1,p.2.2.2.1,0,0,false,false,[])
def ndA (p q:Int×Int×Bool×Bool×Bool):Nd:=(3,0,0,0,em,p.1,p.2.1,p.2.2.1,p.2.2.2.1,q.1,q.2.1,q.2.2.1,q.2.2.2.1,[])
def qCC:List UInt8→List UInt8→Option (List UInt8×List UInt8)
 |_,[]=>none
 |acc,c::t=>if c=34 then (match t with
   |d::t'=>if d=34 then qCC (acc++ [34]) t' else some (acc,t)
   | []=>some (acc,[])) else qCC (acc++ [c]) t
def qJc (r:List UInt8):Int→Nat→Option Int
 |_,0=>none
 |n,k+1=>if (qe n).toList.isPrefixOf r=true then some n else qJc r (n+1) k
def qGS (w:List UInt8):Int→Nat→Option Int
 |_,0=>none
 |n,k+1=>if (fnS n).toList=w then some n else qGS w (n+1) k
def qAs (r:List UInt8):Int:=
 if sgn r= [43] then 1 else if sgn r= [45] then 2 else if sgn r= [42] then 3 else if sgn r= [47] then 4 else if sgn r= [38] then 5 else if sgn r= [61] then 6 else
 if sgn r= [60,62] then 7 else if sgn r= [60] then 8 else if sgn r= [60,61] then 9 else if sgn r= [62] then 10 else if sgn r= [62,61] then 11 else 0
def qX (w:List UInt8) (p:PS):Bool×PS:=if sgn (tb p.1)=w then (true,(tb p.1).drop w.length,p.2) else (false,tb p.1,p.2)
def qDM (x:Nd) (p:PS):Int×PS:=if p.2.1=true∨60≤p.2.2.length then ((p.2.2.length:Int)-1,p.1,true,p.2.2) else ((p.2.2.length:Int),p.1,false,p.2.2++ [x])
def qTB (p:PS):PS:=(p.1,true,p.2.2)
def qCR (w:List UInt8) (p:PS):PS:=if p.2.1=true then p else if (qX w p).1=true then (qX w p).2 else qTB (qX w p).2
def qBG (p:PS):Option Nd×PS:=
 let w:=wd (tb p.1)
 let p1:PS:=(wr (tb p.1),p.2)
 if (qA2 (BR w)).2.2.2.2=true∧(qX [58] p1).1=true then
  let p2:=(qX [58] p1).2
  let w2:=wd (tb p2.1)
  (some (ndA (qA2 (BR w)) (qA2 (BR w2))),wr (tb p2.1),p2.2.1||!(qA2 (BR w2)).2.2.2.2,p2.2.2)
 else (none,p)
def qEZ (o:Option Nd×PS) (g:PS→Int×PS):Int×PS:=match o.1 with
 |some x=>qDM x o.2
 |none=>g o.2
inductive PJ where
 |bin (least deep:Int)
 |loop (least deep a:Int)
 |un (deep:Int)
 |at (deep:Int)
 |call (op deep:Int)
 |args (op deep:Int) (kids:List Int)
def pP:Nat→PJ→PS→Int×PS
 |0,_,p=>(0,p)
 |f+1,.bin least deep,p=>pP f (.loop least deep (pP f (.un deep) p).1) (pP f (.un deep) p).2
 |f+1,.loop least deep a,p=>
  if p.2.1=true then (a,p) else
  if qAs (tb p.1)=0∨lvl (qAs (tb p.1))<least then (a,tb p.1,p.2) else
  let p1:PS:=((tb p.1).drop (sgn (tb p.1)).length,p.2)
  let q:=pP f (.bin (lvl (qAs (tb p.1))+1) deep) p1
  let c:=qDM (ndK 5 (qAs (tb p.1)) [a,q.1]) q.2
  pP f (.loop least deep c.1) c.2
 |f+1,.un deep,p=>
  if deep>400∨p.2.1=true then (-1,qTB p) else
  if (qX [45] p).1=true then
   let q:=pP f (.un (deep+1)) (qX [45] p).2
   qDM (ndK 4 0 [q.1]) q.2
  else pP f (.at deep) (qX [45] p).2
 |f+1,.at deep,p=>
  let r:=tb p.1
  if r.head?=some 34 then (match qCC [] r.tail with
   |none=>(-1,r,true,p.2.2)
   |some (s,t)=>qDM (nd1 (2,0,BR s)) (t,p.2))
  else match (if r.head?=some 35 then qJc r 1 5 else none) with
  |some n=>qDM (nd1 (4,n,em)) (r.drop (qe n).size,p.2)
  |none=>
   if r.head?≠some 35∧(qX [40] p).1=true then
    let q:=pP f (.bin 1 (deep+1)) (qX [40] p).2
    (q.1,qCR [41] q.2)
   else
    let w:=wd r
    let p2:PS:=(wr r,p.2)
    if (qh (BR w)).2.2.2=true∧((qh (BR w)).1=1∨(qh (BR w)).1=3) then qDM (nd1 ((qh (BR w)).1,(qh (BR w)).2.1,(qh (BR w)).2.2.1)) p2
    else if (qA2 (BR w)).2.2.2.2=true then qDM (ndC (qA2 (BR w))) p2
    else match qGS w 1 10 with
    |some op=>pP f (.call op deep) p2
    |none=>(-1,qTB p2)
 |f+1,.call op deep,p=>pP f (.args op deep []) (qCR [40] p)
 |f+1,.args op deep kids,p=>
  if p.2.1=true then qDM (ndK 6 op kids) p else
  let q:=qEZ (qBG p) (fun p=>pP f (.bin 1 (deep+1)) p)
  if (qX [44] q.2).1=true then pP f (.args op deep (kids++ [q.1])) (qX [44] q.2).2
  else qDM (ndK 6 op (kids++ [q.1])) (qCR [41] (qX [44] q.2).2)
def sIs (w:List UInt8) (q:PS):Bool×PS:=if q.2.1=true then (false,tb q.1,q.2) else if w.isPrefixOf (tb q.1)=true then (true,(tb q.1).drop w.length,q.2) else (false,tb q.1,q.2)
def qD9 (x:Nd) (q:PS):Int×PS:=((q.2.2.length:Int),q.1,(if 60<q.2.2.length+1∨qFA x=false then true else q.2.1),q.2.2++ [x])
def qMJ (q:PS):PS:=(q.1,true,q.2.2)
def qCF:List Int:= [7,9,11,6,8,10,1,2,3,4,5]
def qDu (level:Int) (r:List UInt8):List Int→Int
 | []=>0
 |o::l=>if lvl o=level∧(qAP o).toList.isPrefixOf r=true then o else qDu level r l
def sOp (level:Int) (q:PS):Int×PS:=
 if q.2.1=true then (0,tb q.1,q.2) else
 (qDu level (tb q.1) qCF,(if qDu level (tb q.1) qCF=0 then tb q.1 else (tb q.1).drop (qAP (qDu level (tb q.1) qCF)).size),q.2)
def qSj (r:List UInt8):Int→Nat→Option Int
 |_,0=>none
 |n,k+1=>if (qe n).toList.tail.isPrefixOf r=true then some n else qSj r (n+1) k
inductive SJ where
 |row (level:Int)
 |rl (level a:Int)
 |one
 |call (op:Int) (kids:List Int)
 |arg
def sP:Nat→SJ→PS→Int×PS
 |0,_,q=>(0,q)
 |f+1,.row level,q=>
  if q.2.1=true then (0,q) else
  if level=5 then sP f .one q else
  sP f (.rl level (sP f (.row (level+1)) q).1) (sP f (.row (level+1)) q).2
 |f+1,.rl level a,q=>
  if q.2.1=true then (a,q) else
  let o:=sOp level q
  if o.1=0 then (a,o.2) else
  let b:=sP f (.row (level+1)) o.2
  let c:=qD9 (ndK 5 o.1 [a,b.1]) b.2
  sP f (.rl level c.1) c.2
 |f+1,.one,q=>
  if (sIs [45] q).1=true then
   let b:=sP f (.row 5) (sIs [45] q).2
   qD9 (ndK 4 0 [b.1]) b.2
  else if (sIs [40] (sIs [45] q).2).1=true then
   let b:=sP f (.row 1) (sIs [40] (sIs [45] q).2).2
   (b.1,if (sIs [41] b.2).1=true then (sIs [41] b.2).2 else qMJ (sIs [41] b.2).2)
  else
   let q2:PS:=(tb q.1,q.2)
   if (sIs [34] q2).1=true then (match qCC [] (sIs [34] q2).2.1 with
    |none=>(0,[],true,q.2.2)
    |some (s,t)=>qD9 (nd1 (2,0,BR s)) (t,q.2))
   else if (sIs [35] q2).1=true then (match qSj (sIs [35] q2).2.1 1 5 with
    |some n=>qD9 (nd1 (4,n,em)) ((sIs [35] q2).2.1.drop ((qe n).size-1),q.2)
    |none=>(0,(sIs [35] q2).2.1,true,q.2.2))
   else
    let w:=wd (tb q.1)
    let q3:PS:=(wr (tb q.1),q.2)
    match qGS w 1 10 with
    |some op=>if (sIs [40] q3).1=true then sP f (.call op []) (sIs [40] q3).2 else (0,qMJ (sIs [40] q3).2)
    |none=>
     if (qh (BR w)).2.2.2=true∧w≠ [] then qD9 (nd1 ((qh (BR w)).1,(qh (BR w)).2.1,(qh (BR w)).2.2.1)) q3
     else if (qA2 (BR w)).2.2.2.2=true then qD9 (ndC (qA2 (BR w))) q3
     else (0,qMJ q3)
 |f+1,.call op kids,q=>
  if q.2.1=true then (0,q) else
  let a:=sP f .arg q
  if (sIs [41] a.2).1=true then qD9 (ndK 6 op (kids++ [a.1])) (sIs [41] a.2).2
  else sP f (.call op (kids++ [a.1])) (if (sIs [44] (sIs [41] a.2).2).1=true then (sIs [44] (sIs [41] a.2).2).2 else qMJ (sIs [44] (sIs [41] a.2).2).2)
 |f+1,.arg,q=>
  let w:=wd (tb q.1)
  let q1:PS:=(wr (tb q.1),q.2)
  if (qA2 (BR w)).2.2.2.2=true∧(sIs [58] q1).1=true then
   let q2:=(sIs [58] q1).2
   let w2:=wd (tb q2.1)
   if (qA2 (BR w2)).2.2.2.2=true then qD9 (ndA (qA2 (BR w)) (qA2 (BR w2))) (wr (tb q2.1),q2.2) else (0,wr (tb q2.1),true,q2.2.2)
  else sP f (.row 1) (tb q.1,q.2)
theorem qCX:∀r:List UInt8,tb (tb r)=tb r
 | []=>rfl
 |c::r=>by
  unfold tb
  by_cases h:(c==32)=true
  ·simp only [List.dropWhile_cons,h,if_true];exact qCX r
  ·simp [List.dropWhile_cons,h]
theorem qAA:∀r:List UInt8,(tb r).length≤r.length
 | []=>Nat.le_refl _
 |c::r=>by
  unfold tb
  by_cases h:(c==32)=true
  ·simp only [List.dropWhile_cons,h,if_true];exact Nat.le_succ_of_le (qAA r)
  ·simp [List.dropWhile_cons,h]
theorem qRX {p:UInt8→Bool}:∀r:List UInt8,(r.dropWhile p).length≤r.length
 | []=>Nat.le_refl _
 |c::r=>by
  by_cases h:p c=true
  ·simp only [List.dropWhile_cons,h,if_true];exact Nat.le_succ_of_le (qRX r)
  ·simp [List.dropWhile_cons,h]
theorem qG8 (r:List UInt8):(wr r).length≤r.length:=qRX r
theorem wdr (r:List UInt8):wd r++wr r=r:=List.takeWhile_append_dropWhile
theorem qSB (c:UInt8) (t:List UInt8) (h1:c≠60) (h2:c≠62):sgn (c::t)=if c∈([61,38,43,45,42,47,40,41,44,58]:List UInt8) then [c] else []:=by
 have e1:(60==c)=false:=by simpa using fun e=>h1 e.symm
 have e2:(62==c)=false:=by simpa using fun e=>h2 e.symm
 by_cases h:c∈([61,38,43,45,42,47,40,41,44,58]:List UInt8)
 ·rw [if_pos h]
  simp only [List.mem_cons,List.not_mem_nil,or_false] at h
  rcases h with rfl|rfl|rfl|rfl|rfl|rfl|rfl|rfl|rfl|rfl<;>rfl
 ·rw [if_neg h]
  simp only [List.mem_cons,List.not_mem_nil,or_false,not_or] at h
  obtain ⟨a1,a2,a3,a4,a5,a6,a7,a8,a9,a10⟩:=h
  have f:∀d:UInt8,c≠d→(d==c)=false:=fun d hd=>by simpa using fun e=>hd e.symm
  simp [sgn,qEX,List.find?,List.isPrefixOf,e1,e2,f _ a1,f _ a2,f _ a3,f _ a4,f _ a5,f _ a6,f _ a7,f _ a8,f _ a9,f _ a10]
theorem qQQ (t:List UInt8):sgn (60::t)=if t.head?=some 62 then [60,62] else if t.head?=some 61 then [60,61] else [60]:=by
 cases t with
 |nil=>rfl
 |cons d t=>
  by_cases h:d=62
  ·subst h;rfl
  ·by_cases h2:d=61
   ·subst h2;rfl
   ·have e1:(62==d)=false:=by simpa using fun e=>h e.symm
    have e2:(61==d)=false:=by simpa using fun e=>h2 e.symm
    simp [sgn,qEX,List.find?,List.isPrefixOf,e1,e2,h,h2]
theorem qSC (t:List UInt8):sgn (62::t)=if t.head?=some 61 then [62,61] else [62]:=by
 cases t with
 |nil=>rfl
 |cons d t=>
  by_cases h2:d=61
  ·subst h2;rfl
  ·have e2:(61==d)=false:=by simpa using fun e=>h2 e.symm
   simp [sgn,qEX,List.find?,List.isPrefixOf,e2,h2]
theorem qVe {c:UInt8} (hc:c∈([45,40,41,44,58]:List UInt8)) (r:List UInt8):(sgn r= [c])↔([c].isPrefixOf r=true):=by
 cases r with
 |nil=>
  have:sgn []= []:=rfl
  rw [this]
  simp [List.isPrefixOf]
 |cons d t=>
  have hcc:c≠60∧c≠62∧c∈([61,38,43,45,42,47,40,41,44,58]:List UInt8):=by
   simp only [List.mem_cons,List.not_mem_nil,or_false] at hc
   rcases hc with rfl|rfl|rfl|rfl|rfl<;>decide
  have e:([c].isPrefixOf (d::t)=true)↔c=d:=by simp [List.isPrefixOf]
  rw [e]
  by_cases h1:d=60
  ·subst h1
   rw [qQQ]
   constructor
   ·intro h;split at h
    ·cases h
    ·split at h
     ·cases h
     ·simp only [List.cons.injEq,and_true] at h;exact absurd h.symm hcc.1
   ·intro h;exact absurd h hcc.1
  ·by_cases h2:d=62
   ·subst h2
    rw [qSC]
    constructor
    ·intro h;split at h
     ·cases h
     ·simp only [List.cons.injEq,and_true] at h;exact absurd h.symm hcc.2.1
    ·intro h;exact absurd h hcc.2.1
   ·rw [qSB d t h1 h2]
    constructor
    ·intro h;split at h
     ·simp only [List.cons.injEq,and_true] at h;exact h.symm
     ·cases h
    ·intro h;subst h;rw [if_pos hcc.2.2]
theorem qUm {c:UInt8} (hc:c∈([45,40,41,44,58]:List UInt8)) {p q:PS} (hb:q.2.1=false) (ht:tb p.1=tb q.1):(qX [c] p).1=(sIs [c] q).1∧(qX [c] p).2.1=(sIs [c] q).2.1∧(qX [c] p).2.2=p.2∧(sIs [c] q).2.2=q.2:=by
 have h:=qVe hc (tb q.1)
 unfold qX sIs
 rw [ht,hb]
 by_cases hs:sgn (tb q.1)= [c]
 ·rw [if_pos hs,if_neg (by simp),if_pos (h.1 hs)]
  exact ⟨rfl,rfl,rfl,rfl⟩
 ·rw [if_neg hs,if_neg (by simp),if_neg (fun e=>hs (h.2 e))]
  exact ⟨rfl,rfl,rfl,rfl⟩
theorem qDh {w:List UInt8} (hw:w≠ []) {p:PS} (h:(qX w p).1=true):(qX w p).2.1.length<(tb p.1).length:=by
 unfold qX at h⊢
 by_cases hs:sgn (tb p.1)=w
 ·rw [if_pos hs]
  have hp:w.isPrefixOf (tb p.1)=true:=by
   unfold sgn at hs
   split at hs
   ·rename_i x hx
    subst hs
    have:=List.find?_some hx
    simpa using this
   ·exact absurd hs.symm hw
  obtain ⟨t,ht⟩:=List.isPrefixOf_iff_prefix.1 hp
  have h0:0<w.length:=List.length_pos_iff.2 hw
  have h1:=congrArg List.length ht
  simp only [List.length_append] at h1
  simp only [List.length_drop]
  omega
 ·rw [if_neg hs] at h;cases h
theorem qI6 (w:List UInt8) (p:PS):(qX w p).2.1.length≤(tb p.1).length:=by
 unfold qX
 split
 ·simp
 ·exact Nat.le_refl _
theorem qTb (r:List UInt8):(qAs r=0)∨(1≤qAs r∧qAs r≤11∧sgn r=(qAP (qAs r)).toList):=by
 unfold qAs
 repeat' (split; · rename_i h;right;rw [h];exact ⟨by decide,by decide,by decide+kernel⟩)
 left;rfl
theorem sg1:(qAP 1).toList= [43]:=by decide+kernel
theorem sg2:(qAP 2).toList= [45]:=by decide+kernel
theorem sg3:(qAP 3).toList= [42]:=by decide+kernel
theorem sg4:(qAP 4).toList= [47]:=by decide+kernel
theorem sg5:(qAP 5).toList= [38]:=by decide+kernel
theorem sg6:(qAP 6).toList= [61]:=by decide+kernel
theorem sg7:(qAP 7).toList= [60,62]:=by decide+kernel
theorem sg8:(qAP 8).toList= [60]:=by decide+kernel
theorem sg9:(qAP 9).toList= [60,61]:=by decide+kernel
theorem qUG:(qAP 10).toList= [62]:=by decide+kernel
theorem qUH:(qAP 11).toList= [62,61]:=by decide+kernel
theorem qH2 (r:List UInt8):qDu 1 r qCF=if [60,62].isPrefixOf r=true then 7 else if [60,61].isPrefixOf r=true then 9 else if [62,61].isPrefixOf r=true then 11 else if [61].isPrefixOf r=true then 6 else if [60].isPrefixOf r=true then 8 else if [62].isPrefixOf r=true then 10 else 0:=by
 simp [qDu,qCF,lvl,sg1,sg2,sg3,sg4,sg5,sg6,sg7,sg8,sg9,qUG,qUH]
theorem qH3 (r:List UInt8):qDu 2 r qCF=if [38].isPrefixOf r=true then 5 else 0:=by
 simp [qDu,qCF,lvl,sg1,sg2,sg3,sg4,sg5,sg6,sg7,sg8,sg9,qUG,qUH]
theorem qH4 (r:List UInt8):qDu 3 r qCF=if [43].isPrefixOf r=true then 1 else if [45].isPrefixOf r=true then 2 else 0:=by
 simp [qDu,qCF,lvl,sg1,sg2,sg3,sg4,sg5,sg6,sg7,sg8,sg9,qUG,qUH]
theorem qH5 (r:List UInt8):qDu 4 r qCF=if [42].isPrefixOf r=true then 3 else if [47].isPrefixOf r=true then 4 else 0:=by
 simp [qDu,qCF,lvl,sg1,sg2,sg3,sg4,sg5,sg6,sg7,sg8,sg9,qUG,qUH]
theorem qUn {m:Int} (hm:1≤m∧m≤4) (r:List UInt8):qDu m r qCF=if qAs r≠0∧lvl (qAs r)=m then qAs r else 0:=by
 have hm:m=1∨m=2∨m=3∨m=4:=by omega
 cases r with
 |nil=>rcases hm with rfl|rfl|rfl|rfl<;>simp [qH2,qH3,qH4,qH5,qAs,sgn,qEX,List.find?,List.isPrefixOf]
 |cons c t=>
  have f:∀d:UInt8,c≠d→(d==c)=false:=fun d hd=>by simpa using fun e=>hd e.symm
  by_cases h1:c=60
  ·subst h1
   cases t with
   |nil=>rcases hm with rfl|rfl|rfl|rfl<;>simp [qH2,qH3,qH4,qH5,qAs,qQQ,List.isPrefixOf,lvl]
   |cons d t=>
    have g:∀e:UInt8,d≠e→(e==d)=false:=fun e hd=>by simpa using fun x=>hd x.symm
    by_cases hd:d=62
    ·subst hd;rcases hm with rfl|rfl|rfl|rfl<;>simp [qH2,qH3,qH4,qH5,qAs,qQQ,List.isPrefixOf,lvl]
    ·by_cases hd2:d=61
     ·subst hd2;rcases hm with rfl|rfl|rfl|rfl<;>simp [qH2,qH3,qH4,qH5,qAs,qQQ,List.isPrefixOf,lvl]
     ·rcases hm with rfl|rfl|rfl|rfl<;>simp [qH2,qH3,qH4,qH5,qAs,qQQ,List.isPrefixOf,lvl,hd,hd2,g _ hd,g _ hd2]
  ·by_cases h2:c=62
   ·subst h2
    cases t with
    |nil=>rcases hm with rfl|rfl|rfl|rfl<;>simp [qH2,qH3,qH4,qH5,qAs,qSC,List.isPrefixOf,lvl]
    |cons d t=>
     have g:∀e:UInt8,d≠e→(e==d)=false:=fun e hd=>by simpa using fun x=>hd x.symm
     by_cases hd2:d=61
     ·subst hd2;rcases hm with rfl|rfl|rfl|rfl<;>simp [qH2,qH3,qH4,qH5,qAs,qSC,List.isPrefixOf,lvl]
     ·rcases hm with rfl|rfl|rfl|rfl<;>simp [qH2,qH3,qH4,qH5,qAs,qSC,List.isPrefixOf,lvl,hd2,g _ hd2]
   ·by_cases h:c∈([61,38,43,45,42,47,40,41,44,58]:List UInt8)
    ·have hs:sgn (c::t)= [c]:=by rw [qSB c t h1 h2,if_pos h]
     simp only [List.mem_cons,List.not_mem_nil,or_false] at h
     rcases h with rfl|rfl|rfl|rfl|rfl|rfl|rfl|rfl|rfl|rfl<;>rcases hm with rfl|rfl|rfl|rfl<;>
      simp [qH2,qH3,qH4,qH5,qAs,hs,List.isPrefixOf,lvl]
    ·have hs:sgn (c::t)= []:=by rw [qSB c t h1 h2,if_neg h]
     simp only [List.mem_cons,List.not_mem_nil,or_false,not_or] at h
     obtain ⟨a1,a2,a3,a4,a5,a6,a7,a8,a9,a10⟩:=h
     rcases hm with rfl|rfl|rfl|rfl<;>
      simp [qH2,qH3,qH4,qH5,qAs,hs,List.isPrefixOf,f _ h1,f _ h2,f _ a1,f _ a2,f _ a3,f _ a4,f _ a5,f _ a6]
theorem qTC {op:Int}:1≤lvl op∧lvl op≤4:=by unfold lvl;split<;>(try split)<;>(try split)<;>omega
def qM5 (p:PS):Prop:=p.2.1=true∨∃x∈p.2.2,qFA x=false
theorem qCm {x:Nd} {p:PS} (h:qM5 p):qM5 (qDM x p).2:=by
 unfold qDM
 split
 ·exact .inl rfl
 ·rename_i hn
  rcases h with h|⟨y,hy,hb⟩
  ·exact absurd (.inl h) hn
  ·exact .inr ⟨y,List.mem_append_left _ hy,hb⟩
theorem qEa {w:List UInt8} {p:PS} (h:qM5 p):qM5 (qX w p).2:=by unfold qX;split<;>exact h
theorem qFo (p:PS):qM5 (qTB p):= .inl rfl
theorem qIV {w:List UInt8} {p:PS} (h:qM5 p):qM5 (qCR w p):=by
 unfold qCR
 split
 ·exact h
 ·split
  ·exact qEa h
  ·exact qFo _
theorem qRY {p:PS} (h:qM5 p):qM5 (qBG p).2:=by
 unfold qBG
 simp only
 split
 ·rcases h with h|h
  ·left
   simp only [Bool.or_eq_true]
   left
   have:(qX [58] (wr (tb p.1),p.2)).2.2=p.2:=by unfold qX;split<;>rfl
   rw [this];exact h
  ·right
   have:(qX [58] (wr (tb p.1),p.2)).2.2=p.2:=by unfold qX;split<;>rfl
   simp only [this]
   exact h
 ·exact h
theorem qCy:∀(f:Nat) (j:PJ) (p:PS),qM5 p→qM5 (pP f j p).2
 |0,j,p,h=>h
 |f+1,.bin least deep,p,h=>by
  simp only [pP]
  exact qCy f _ _ (qCy f _ _ h)
 |f+1,.loop least deep a,p,h=>by
  simp only [pP]
  split
  ·exact h
  ·split
   ·exact h
   ·exact qCy f _ _ (qCm (qCy f _ _ h))
 |f+1,.un deep,p,h=>by
  simp only [pP]
  split
  ·exact qFo _
  ·split
   ·exact qCm (qCy f _ _ (qEa h))
   ·exact qCy f _ _ (qEa h)
 |f+1,.at deep,p,h=>by
  simp only [pP]
  split
  ·split
   ·exact .inl rfl
   ·exact qCm h
  ·split
   ·exact qCm h
   ·split
    ·exact qIV (qCy f _ _ (qEa h))
    ·split
     ·exact qCm h
     ·split
      ·exact qCm h
      ·split
       ·exact qCy f _ _ h
       ·exact qFo _
 |f+1,.call op deep,p,h=>by
  simp only [pP]
  exact qCy f _ _ (qIV h)
 |f+1,.args op deep kids,p,h=>by
  simp only [pP]
  have hq:qM5 (qEZ (qBG p) (fun p=>pP f (.bin 1 (deep+1)) p)).2:=by
   unfold qEZ
   split
   ·exact qCm (qRY h)
   ·exact qCy f _ _ (qRY h)
  revert hq
  generalize qEZ (qBG p) (fun p=>pP f (.bin 1 (deep+1)) p)=q
  intro hq
  split
  ·exact qCm h
  ·split
   ·exact qCy f _ _ (qEa hq)
   ·exact qCm (qIV (qEa hq))
theorem qA0 (x:Nd) (p:PS):(qDM x p).2.1=p.1:=by unfold qDM;split<;>rfl
theorem qDv (w:List UInt8) (p:PS):(tb (qX w p).2.1).length≤(tb p.1).length:=by
 unfold qX
 split
 ·refine Nat.le_trans (qAA _) ?_
  simp
 ·simp only;rw [qCX];exact Nat.le_refl _
theorem qKm (w:List UInt8) (p:PS):(tb (qCR w p).1).length≤(tb p.1).length:=by
 unfold qCR
 split
 ·exact Nat.le_refl _
 ·split
  ·exact qDv w p
  ·exact qDv w p
theorem qIW (p:PS):(tb (qBG p).2.1).length≤(tb p.1).length:=by
 unfold qBG
 simp only
 split
 ·simp only
  refine Nat.le_trans (qAA _) (Nat.le_trans (qG8 _) (Nat.le_trans (qDv [58] _) ?_))
  exact Nat.le_trans (qAA _) (qG8 _)
 ·exact Nat.le_refl _
theorem qKn:∀(acc r:List UInt8) {s t:List UInt8},qCC acc r=some (s,t)→t.length<r.length
 |acc,[],s,t,h=>by simp [qCC] at h
 |acc,c::r,s,t,h=>by
  unfold qCC at h
  by_cases hc:c=34
  ·rw [if_pos hc] at h
   match r,h with
   | [],h=>simp only [Option.some.injEq,Prod.mk.injEq] at h;rw [←h.2];simp
   |d::t',h=>
    simp only at h
    by_cases hd:d=34
    ·rw [if_pos hd] at h
     have:=qKn _ t' h
     simp only [List.length_cons];omega
    ·rw [if_neg hd] at h
     simp only [Option.some.injEq,Prod.mk.injEq] at h
     rw [←h.2];simp
  ·rw [if_neg hc] at h
   have:=qKn _ r h
   simp only [List.length_cons];omega
theorem qDi:∀(f:Nat) (j:PJ) (p:PS),(tb (pP f j p).2.1).length≤(tb p.1).length
 |0,j,p=>Nat.le_refl _
 |f+1,.bin least deep,p=>by
  simp only [pP]
  exact Nat.le_trans (qDi f _ _) (qDi f _ _)
 |f+1,.loop least deep a,p=>by
  simp only [pP]
  split
  ·exact Nat.le_refl _
  ·split
   ·simp only;rw [qCX];exact Nat.le_refl _
   ·refine Nat.le_trans (qDi f _ _) ?_
    rw [qA0]
    refine Nat.le_trans (qDi f _ _) (Nat.le_trans (qAA _) ?_)
    simp
 |f+1,.un deep,p=>by
  simp only [pP]
  split
  ·exact Nat.le_refl _
  ·split
   ·rw [qA0]
    exact Nat.le_trans (qDi f _ _) (qDv _ _)
   ·exact Nat.le_trans (qDi f _ _) (qDv _ _)
 |f+1,.at deep,p=>by
  simp only [pP]
  split
  ·split
   ·simp only;rw [qCX];exact Nat.le_refl _
   ·rename_i s t hq
    rw [qA0]
    have:=qKn _ _ hq
    refine Nat.le_trans (qAA _) ?_
    have h2:((tb p.1).tail).length≤(tb p.1).length:=by simp
    simp only;omega
  ·split
   ·rw [qA0]
    refine Nat.le_trans (qAA _) ?_
    simp
   ·split
    ·exact Nat.le_trans (qKm _ _) (Nat.le_trans (qDi f _ _) (qDv _ _))
    ·have hw:(tb (wr (tb p.1))).length≤(tb p.1).length:=Nat.le_trans (qAA _) (qG8 _)
     split
     ·rw [qA0];exact hw
     ·split
      ·rw [qA0];exact hw
      ·split
       ·exact Nat.le_trans (qDi f _ _) hw
       ·exact hw
 |f+1,.call op deep,p=>by
  simp only [pP]
  exact Nat.le_trans (qDi f _ _) (qKm _ _)
 |f+1,.args op deep kids,p=>by
  simp only [pP]
  have hq:(tb (qEZ (qBG p) (fun p=>pP f (.bin 1 (deep+1)) p)).2.1).length≤(tb p.1).length:=by
   unfold qEZ
   split
   ·rw [qA0];exact qIW p
   ·exact Nat.le_trans (qDi f _ _) (qIW p)
  revert hq
  generalize qEZ (qBG p) (fun p=>pP f (.bin 1 (deep+1)) p)=q
  intro hq
  split
  ·rw [qA0];exact Nat.le_refl _
  ·split
   ·exact Nat.le_trans (qDi f _ _) (Nat.le_trans (qDv _ _) hq)
   ·rw [qA0]
    exact Nat.le_trans (qKm _ _) (Nat.le_trans (qDv _ _) hq)
structure RdOK:Prop where
 v:∀w:List UInt8,w.all wch=true→w≠ []→(qh (BR w)).2.2.2=true→(qh (BR w)).1=1∨(qh (BR w)).1=3
 v0:¬((qh (BR [])).1=1∨(qh (BR [])).1=3)
 p0:(qA2 (BR [])).2.2.2.2=false
 f:∀w op,qGS w 1 10=some op→(qh (BR w)).2.2.2=false∧(qA2 (BR w)).2.2.2.2=false
 f0:qGS [] 1 10=none
 n:∀n:Int,1≤n∧n≤5→∃t,(qe n).toList=35::t
def Lk (p q:PS):Prop:=p.2.1=false∧q.2.1=false∧p.2.2=q.2.2∧tb p.1=tb q.1
def Sim (a b:Int×PS):Prop:=(a.1=b.1∧Lk a.2 b.2)∨(b.2.2.1=true∧qM5 a.2)
def qVf (least:Int) (p:PS):Prop:=qAs (tb p.1)=0∨lvl (qAs (tb p.1))<least
def SimP (least:Int) (a b:Int×PS):Prop:=(a.1=b.1∧Lk a.2 b.2∧qVf least a.2)∨(b.2.2.1=true∧qM5 a.2)
theorem SimP.sim {least:Int} {a b:Int×PS} (h:SimP least a b):Sim a b:=h.elim (fun h=> .inl ⟨h.1,h.2.1⟩) .inr
theorem qM6 {x:Nd} {q:PS} (h:q.2.1=true):(qD9 x q).2.2.1=true:=by
 unfold qD9;simp only;split
 ·rfl
 ·exact h
theorem qI7 {w:List UInt8} {q:PS} (h:q.2.1=true):sIs w q=(false,tb q.1,q.2):=by unfold sIs;rw [if_pos h]
theorem qOH:∀(g:Nat) (j:SJ) (q:PS),q.2.1=true→(sP g j q).2.2.1=true
 |0,j,q,h=>h
 |g+1,.row level,q,h=>by simp only [sP];rw [if_pos h];exact h
 |g+1,.rl level a,q,h=>by simp only [sP];rw [if_pos h];exact h
 |g+1,.one,q,h=>by
  simp only [sP]
  rw [qI7 (w:= [45]) h]
  simp only [Bool.false_eq_true,if_false]
  rw [qI7 (w:= [40]) (q:=(tb q.1,q.2)) h]
  simp only [Bool.false_eq_true,if_false]
  rw [qI7 (w:= [34]) (q:=(tb q.1,q.2)) h]
  simp only [Bool.false_eq_true,if_false]
  rw [qI7 (w:= [35]) (q:=(tb q.1,q.2)) h]
  simp only [Bool.false_eq_true,if_false]
  split
  ·rw [qI7 (w:= [40]) (q:=(wr (tb q.1),q.2)) h]
   simp [qMJ]
  ·split
   ·exact qM6 h
   ·split
    ·exact qM6 h
    ·rfl
 |g+1,.call op kids,q,h=>by simp only [sP];rw [if_pos h];exact h
 |g+1,.arg,q,h=>by
  simp only [sP]
  rw [qI7 (w:= [58]) (q:=(wr (tb q.1),q.2)) h]
  simp only [Bool.false_eq_true,and_false,if_false]
  exact qOH g _ _ h
theorem qI8 {x:Nd} {p q:PS} (h:Lk p q):Sim (qDM x p) (qD9 x q):=by
 obtain ⟨h1,h2,h3,h4⟩:=h
 unfold qDM qD9
 rw [h1,h2,h3]
 by_cases hl:60≤q.2.2.length
 ·refine .inr ⟨?_,.inl ?_⟩
  ·simp only;rw [if_pos (.inl (by omega))]
  ·rw [if_pos (.inr hl)]
 ·rw [if_neg (by simp;omega)]
  by_cases hn:qFA x=false
  ·exact .inr ⟨by simp only;rw [if_pos (.inr hn)],.inr ⟨x,by simp,hn⟩⟩
  ·refine .inl ⟨rfl,rfl,?_,rfl,h4⟩
   simp only
   rw [if_neg]
   intro e
   rcases e with e|e
   ·omega
   ·exact hn e
theorem qSk {a b:Int×PS} (f:Int→Nd) (h:Sim a b):Sim (qDM (f a.1) a.2) (qD9 (f b.1) b.2):=by
 rcases h with ⟨h1,h2⟩|⟨h1,h2⟩
 ·rw [h1];exact qI8 h2
 ·exact .inr ⟨qM6 h1,qCm h2⟩
theorem qKo {c:UInt8} (hc:c∈([45,40,41,44,58]:List UInt8)) {p q:PS} (h:Lk p q):(qX [c] p).1=(sIs [c] q).1∧Lk (qX [c] p).2 (sIs [c] q).2:=by
 obtain ⟨h1,h2,h3,h4⟩:=h
 obtain ⟨e1,e2,e3,e4⟩:=qUm hc h2 h4
 refine ⟨e1,?_,?_,?_,?_⟩
 ·rw [e3];exact h1
 ·rw [e4];exact h2
 ·rw [e3,e4];exact h3
 ·rw [e2]
theorem qSl {c:UInt8} (hc:c∈([45,40,41,44,58]:List UInt8)) {a b:Int×PS} (h:Sim a b):Sim (a.1,qCR [c] a.2) (b.1,if (sIs [c] b.2).1=true then (sIs [c] b.2).2 else qMJ (sIs [c] b.2).2):=by
 rcases h with ⟨h1,h2⟩|⟨h1,h2⟩
 ·obtain ⟨e1,e2⟩:=qKo hc h2
  unfold qCR
  rw [if_neg (by rw [h2.1];simp),e1]
  by_cases ht:(sIs [c] b.2).1=true
  ·rw [if_pos ht,if_pos ht]
   exact .inl ⟨h1,e2⟩
  ·rw [if_neg ht,if_neg ht]
   exact .inr ⟨rfl,qFo _⟩
 ·refine .inr ⟨?_,qIV h2⟩
  rw [qI7 h1]
  simp [qMJ]
def qJo (G:Nat) (least:Int):Nat→Int×PS→Int×PS→Prop
 |0,x,res=>res=x
 |m+1,x,res=>if ((m:Int)+1)<least then res=x else ∃g,G≤g∧qJo G least m (sP g (.rl ((m:Int)+1) x.1) x.2) res
theorem qOI {G G':Nat} (h:G'≤G) {least:Int}:∀(m:Nat) {x res:Int×PS},qJo G least m x res→qJo G' least m x res
 |0,x,res,ht=>ht
 |m+1,x,res,ht=>by
  unfold qJo at ht⊢
  split
  ·rename_i hc;rw [if_pos hc] at ht;exact ht
  ·rename_i hc
   rw [if_neg hc] at ht
   obtain ⟨g,h1,h2⟩:=ht
   exact ⟨g,Nat.le_trans h h1,qOI h m h2⟩
theorem qM7 {G:Nat} {least:Int}:∀(m:Nat) {x res:Int×PS},x.2.2.1=true→qJo G least m x res→res.2.2.1=true
 |0,x,res,hb,ht=>by unfold qJo at ht;rw [ht];exact hb
 |m+1,x,res,hb,ht=>by
  unfold qJo at ht
  split at ht
  ·rw [ht];exact hb
  ·obtain ⟨g,_,h2⟩:=ht
   exact qM7 m (qOH g _ _ hb) h2
theorem qRZ {G:Nat} {l:Nat} (hl0:1≤l) {g:Nat} (hg:G≤g):∀(m:Nat) {x y:Int×PS},l≤m→qJo G ((l:Int)+1) m x y→qJo G (l:Int) m x (sP g (.rl (l:Int) y.1) y.2)
 |0,x,y,hl,ht=>by omega
 |m+1,x,y,hl,ht=>by
  unfold qJo at ht⊢
  rw [if_neg (by omega)]
  by_cases e:l=m+1
  ·subst e
   rw [if_pos (by omega)] at ht
   subst ht
   refine ⟨g,hg,?_⟩
   have key:∀{z:Int×PS},qJo G ((m+1:Nat):Int) m z z:=fun {z}=>by
    cases m with
    |zero=>rfl
    |succ k=>unfold qJo;rw [if_pos (by omega)]
   exact key
  ·rw [if_neg (by omega)] at ht
   obtain ⟨g',h1,h2⟩:=ht
   exact ⟨g',h1,qRZ hl0 hg m (by omega) h2⟩
theorem qSm {G:Nat} {q:PS} (hq:q.2.1=false):∀(k:Nat),k≤4→∀g,G+k≤g→∃g5,G≤g5∧qJo G (5-(k:Int)) 4 (sP g5 (.row 5) q) (sP g (.row (5-(k:Int))) q)
 |0,_,g,hg=>⟨g,hg,by
  unfold qJo
  rw [if_pos (by decide)]
  simp⟩
 |k+1,hk,0,hg=>by omega
 |k+1,hk,g+1,hg=>by
  obtain ⟨g5,h1,h2⟩:=qSm (G:=G) hq k (by omega) g (by omega)
  refine ⟨g5,h1,?_⟩
  have e:(5-((k+1:Nat):Int))=((4-k:Nat):Int):=by omega
  have e1:(5-(k:Int))=((4-k:Nat):Int)+1:=by omega
  rw [e1] at h2
  rw [e]
  have:=qRZ (G:=G) (l:=4-k) (by omega) (g:=g) (by omega) 4 (by omega) h2
  have e2:sP (g+1) (.row ((4-k:Nat):Int)) q=sP g (.rl ((4-k:Nat):Int) (sP g (.row (((4-k:Nat):Int)+1)) q).1) (sP g (.row (((4-k:Nat):Int)+1)) q).2:=by
   simp only [sP]
   rw [if_neg (by rw [hq];simp),if_neg (by omega)]
  rw [e2]
  exact this
theorem qUI (H:RdOK) {r:List UInt8} (h:r.head?=some 35):∀(k:Nat) (n:Int),1≤n→n+k≤6→qSj r.tail n k=qJc r n k
 |0,n,_,_=>rfl
 |k+1,n,h1,h2=>by
  obtain ⟨t,ht⟩:=H.n n ⟨h1,by omega⟩
  cases r with
  |nil=>cases h
  |cons c r=>
   simp only [List.head?_cons,Option.some.injEq] at h
   subst h
   simp only [qSj,qJc,ht,List.tail_cons]
   have ih:=qUI H (r:=35::r) rfl k (n+1) (by omega) (by omega)
   simp only [List.tail_cons] at ih
   rw [ih]
   simp [List.isPrefixOf]
theorem qSn {r:List UInt8}:∀(k:Nat) (n:Int) {m:Int},qJc r n k=some m→n≤m∧m<n+k
 |0,n,m,h=>by cases h
 |k+1,n,m,h=>by
  simp only [qJc] at h
  split at h
  ·simp only [Option.some.injEq] at h;omega
  ·have:=qSn k (n+1) h;omega
theorem qE7 (c:UInt8) (r:List UInt8):([c].isPrefixOf r=true)↔r.head?=some c:=by
 cases r with
 |nil=>simp [List.isPrefixOf]
 |cons d t=>simp [List.isPrefixOf];exact eq_comm
theorem qM8 {c:UInt8} {q:PS} (hb:q.2.1=false):(sIs [c] q).1=true↔(tb q.1).head?=some c:=by
 unfold sIs
 rw [if_neg (by rw [hb];simp)]
 split
 ·rename_i h;exact ⟨fun _=>(qE7 c _).1 h,fun _=>rfl⟩
 ·rename_i h;exact ⟨fun e=>(by cases e),fun e=>absurd ((qE7 c _).2 e) h⟩
theorem qTD (r:List UInt8):(wd r).all wch=true:=by
 unfold wd
 induction r with
 |nil=>rfl
 |cons c r ih=>
  by_cases h:wch c=true
  ·simp only [List.takeWhile_cons,h,if_true,List.all_cons,Bool.true_and];exact ih
  ·simp [List.takeWhile_cons,h]
def qUo (N:Nat):Prop:=∀(p q:PS) (deep:Int) (f g:Nat),Lk p q→(tb p.1).length=N→0≤deep→deep+N≤400→20*N+4≤f→20*N+5≤g→Sim (pP f (.un deep) p) (sP g (.row 5) q)
def qUp (N:Nat):Prop:=∀(m:Nat),m≤4→∀(p q:PS) (deep least a:Int) (f:Nat) (res:Int×PS),Lk p q→(tb p.1).length=N→1≤least→0≤deep→deep+N≤400→20*N+5≤f→
 (qAs (tb p.1)=0∨lvl (qAs (tb p.1))≤m)→qJo (20*N+5) least m (a,q) res→SimP least (pP f (.loop least deep a) p) res
def qUJ (N:Nat):Prop:=∀(p q:PS) (deep:Int) (k f g:Nat),k≤4→Lk p q→(tb p.1).length=N→0≤deep→deep+N≤400→20*N+6≤f→20*N+10≤g→SimP (5-(k:Int)) (pP f (.bin (5-(k:Int)) deep) p) (sP g (.row (5-(k:Int))) q)
def qUq (N:Nat):Prop:=∀(p q:PS) (deep op:Int) (kids:List Int) (f g:Nat),Lk p q→(tb p.1).length=N→0≤deep→deep+N+1≤400→20*N+8≤f→20*N+12≤g→Sim (pP f (.args op deep kids) p) (sP g (.call op kids) q)
theorem qVn (N:Nat) (hB:∀M,M<N→qUJ M) (hT:∀M,M<N→qUp M):qUp N:=by
 intro m
 induction m with
 |zero=>
  intro hm p q deep least a f res hl hN hle hd hdN hf hpk ht
  have h0:qAs (tb p.1)=0:=by
   rcases hpk with h|h
   ·exact h
   ·have:=(qTC (op:=qAs (tb p.1))).1
    omega
  cases f with
  |zero=>omega
  |succ f=>
   simp only [pP]
   rw [if_neg (by rw [hl.1];simp),if_pos (.inl h0)]
   unfold qJo at ht
   subst ht
   refine .inl ⟨rfl,⟨hl.1,hl.2.1,hl.2.2.1,?_⟩,.inl ?_⟩
   ·simp only;rw [qCX];exact hl.2.2.2
   ·simp only;rw [qCX];exact h0
 |succ m ih=>
  intro hm p q deep least a f res hl hN hle hd hdN hf hpk ht
  unfold qJo at ht
  by_cases hc:(m:Int)+1<least
  ·rw [if_pos hc] at ht
   subst ht
   cases f with
   |zero=>omega
   |succ f=>
    have hst:qAs (tb p.1)=0∨lvl (qAs (tb p.1))<least:=by
     rcases hpk with h|h
     ·exact .inl h
     ·right;push_cast at h;omega
    simp only [pP]
    rw [if_neg (by rw [hl.1];simp),if_pos hst]
    refine .inl ⟨rfl,⟨hl.1,hl.2.1,hl.2.2.1,?_⟩,?_⟩
    ·simp only;rw [qCX];exact hl.2.2.2
    ·unfold qVf;simp only;rw [qCX];exact hst
  ·rw [if_neg hc] at ht
   obtain ⟨g,hg,ht⟩:=ht
   cases g with
   |zero=>omega
   |succ g=>
    have hin:=qUn (m:=(m:Int)+1) (by omega) (tb q.1)
    have hpq:tb p.1=tb q.1:=hl.2.2.2
    simp only [sP] at ht
    rw [if_neg (by rw [hl.2.1];simp)] at ht
    have ho:sOp ((m:Int)+1) q=(qDu ((m:Int)+1) (tb q.1) qCF,(if qDu ((m:Int)+1) (tb q.1) qCF=0 then tb q.1 else (tb q.1).drop (qAP (qDu ((m:Int)+1) (tb q.1) qCF)).size),q.2):=by
     unfold sOp;rw [if_neg (by rw [hl.2.1];simp)]
    by_cases hop:qAs (tb q.1)≠0∧lvl (qAs (tb q.1))=(m:Int)+1
    ·rw [if_pos hop] at hin
     rw [hin,if_neg hop.1] at ho
     rw [ho] at ht
     simp only at ht
     rw [if_neg hop.1] at ht
     cases f with
     |zero=>omega
     |succ f=>
      simp only [pP]
      rw [if_neg (by rw [hl.1];simp),if_neg (by rw [hpq];exact fun e=>e.elim (fun e=>hop.1 e) (fun e=>by have:=hop.2;omega))]
      rw [hpq]
      rcases qTb (tb q.1) with h0|⟨_,_,hsg⟩
      ·exact absurd h0 hop.1
      have hsz:(sgn (tb q.1)).length=(qAP (qAs (tb q.1))).size:=by rw [hsg,qAT]
      have hpos:0<(sgn (tb q.1)).length:=by
       cases hh:sgn (tb q.1) with
       |nil=>
        exfalso
        apply hop.1
        unfold qAs
        rw [hh]
        simp
       |cons c t=>simp
      have hdrop:(tb ((tb q.1).drop (sgn (tb q.1)).length)).length<N:=by
       have h1:=qAA ((tb q.1).drop (sgn (tb q.1)).length)
       have h2:(sgn (tb q.1)).length≤(tb q.1).length∨(tb q.1).length<(sgn (tb q.1)).length:=by omega
       rw [List.length_drop] at h1
       have h3:(tb q.1).length=N:=by rw [←hpq];exact hN
       have h4:0<N:=by
        rcases Nat.eq_zero_or_pos N with h|h
        ·exfalso
         rw [h] at h3
         have:tb q.1= []:=List.eq_nil_of_length_eq_zero h3
         apply hop.1
         rw [this];rfl
        ·exact h
       omega
      have hlk:Lk ((tb q.1).drop (sgn (tb q.1)).length,p.2) ((tb q.1).drop (qAP (qAs (tb q.1))).size,q.2):=⟨hl.1,hl.2.1,hl.2.2.1,by simp only;rw [hsz]⟩
      have hb:=hB _ hdrop ((tb q.1).drop (sgn (tb q.1)).length,p.2) ((tb q.1).drop (qAP (qAs (tb q.1))).size,q.2) deep (3-m) f g (by omega) hlk rfl hd (by omega) (by omega) (by omega)
      have e5:(5-((3-m:Nat):Int))=(m:Int)+1+1:=by omega
      rw [e5] at hb
      rw [hop.2]
      have hlenA:=qDi f (.bin ((m:Int)+1+1) deep) ((tb q.1).drop (sgn (tb q.1)).length,p.2)
      generalize pP f (.bin ((m:Int)+1+1) deep) ((tb q.1).drop (sgn (tb q.1)).length,p.2)=A at hb hlenA⊢
      generalize hBB:sP g (.row ((m:Int)+1+1)) ((tb q.1).drop (qAP (qAs (tb q.1))).size,q.2)=B at hb ht
      rcases hb with ⟨b1,b2,b3⟩|⟨b1,b2⟩
      ·rw [b1]
       have hs:=qI8 (x:=ndK 5 (qAs (tb q.1)) [a,B.1]) b2
       generalize hC:qDM (ndK 5 (qAs (tb q.1)) [a,B.1]) A.2=C at hs⊢
       generalize qD9 (ndK 5 (qAs (tb q.1)) [a,B.1]) B.2=D at hs ht
       rcases hs with ⟨c1,c2⟩|⟨c1,c2⟩
       ·have hrC:C.2.1=A.2.1:=by rw [←hC];exact qA0 _ _
        have hN3:(tb C.2.1).length<N:=by
         rw [hrC]
         exact Nat.lt_of_le_of_lt hlenA hdrop
        refine hT _ hN3 (m+1) hm C.2 D.2 deep least C.1 f res c2 rfl hle hd (by omega) (by omega) ?_ ?_
        ·rw [hrC]
         rcases b3 with h|h
         ·exact .inl h
         ·right;push_cast;omega
        ·rw [c1]
         unfold qJo
         rw [if_neg hc]
         exact ⟨g,by omega,qOI (by omega) m ht⟩
       ·exact .inr ⟨qM7 _ (qOH g _ _ c1) ht,qCy f _ _ c2⟩
      ·exact .inr ⟨qM7 _ (qOH g _ _ (qM6 b1)) ht,qCy f _ _ (qCm b2)⟩
    ·rw [if_neg hop] at hin
     rw [hin,if_pos rfl] at ho
     rw [ho] at ht
     simp only at ht
     rw [if_pos trivial] at ht
     refine ih (by omega) p (tb q.1,q.2) deep least a f res ⟨hl.1,hl.2.1,hl.2.2.1,by simp only;rw [qCX];exact hpq⟩ hN hle hd hdN hf ?_ ht
     rw [hpq]
     rw [hpq] at hpk
     by_cases h0:qAs (tb q.1)=0
     ·exact .inl h0
     ·right
      rcases hpk with h|h
      ·exact absurd h h0
      ·have:lvl (qAs (tb q.1))≠(m:Int)+1:=fun e=>hop ⟨h0,e⟩
       push_cast at h
       omega
end Go.Proofs.YtkkkfjgagjdcoaaGreatDoor.KFnExactDagOk

