import Derived.Test.YtkkkfjgagjdcoaaGreatDoorTFnExactTouched
import Derived.Test.YtkkkfjgagjdcoaaGreatDoorE32
import Derived.Lib.Strings
namespace Go.Proofs.YtkkkfjgagjdcoaaGreatDoor.KFnExactTouched
open Go.Eng
set_option linter.unusedVariables false
set_option linter.unusedSimpArgs false
def Ev {R:Type} (F:Nat→Option R) (r:R):Prop:=∃n0,∀n,n0≤n→F n=some r
theorem qAa (s:ByteArray):s.toList.length=s.size:=by rw [Go.Lib.toList_data];rfl
theorem qAP:(ByteArray.mk #[]).toList= []:=by decide+kernel
theorem qT {x:Int} (h: -9223372036854775808≤x∧x≤9223372036854775807):IntKind.i64.wrap x=x:=by
 unfold IntKind.wrap
 have e1:(2:Int)^(64-1)=9223372036854775808:=by decide
 have e2:(2:Int)^64=18446744073709551616:=by decide
 simp only [IntKind.signed,IntKind.bits,Bool.true_and,decide_eq_true_eq,e1,e2]
 split<;>omega
theorem qSY {s:ByteArray} {i:Nat} (h:i<s.size):∃c,s.toList[i]?=some c:=⟨_,List.getElem?_eq_getElem (by rw [qAa];exact h)⟩
theorem qEI {α:Type} {s:List α} {i:Nat} {c:α} (h:s[i]?=some c):s.drop i=c::s.drop (i+1):=by
 obtain ⟨h1,rfl⟩:=List.getElem?_eq_some_iff.1 h
 exact List.drop_eq_getElem_cons h1
theorem qQ {V R:Type} {B:V→Tr (V⊕R)} {m:Nat} {v v':V} (h:(B v).run=some (.inl v')):zC B (m+1) v=zC B m v':=by simp only [zC,h]
theorem qP {V R:Type} {B:V→Tr (V⊕R)} {m:Nat} {v:V} {r:R} (h:(B v).run=some (.inr r)):zC B (m+1) v=some r:=by simp only [zC,h]
theorem up1 {n n0:Nat} (h:n0+1≤n):∃m,n=m+1∧n0≤m:=⟨n-1,by omega,by omega⟩
theorem qC {α:Type} (x:α):(Tr.done x).run=some x:=rfl
theorem qE {α:Type}:(Tr.fail:Tr α).run=none:=rfl
theorem qH {α:Type} (b:Bool) (t f:Tr α):(Tr.ask b t f).run=if b=true then t.run else f.run:=by cases b<;>rfl
theorem qJ {α β:Type} (o:Option β) (k:β→Tr α):(Tr.opt o k).run=o.bind fun x=>(k x).run:=by cases o<;>rfl
theorem qK {α β γ:Type} (x:β) (k:β→Tr α) (l:γ→Tr α):(Tr.alt (.inl x) k l).run=(k x).run:=rfl
theorem qM {α β γ:Type} (x:γ) (k:β→Tr α) (l:γ→Tr α):(Tr.alt (.inr x) k l).run=(l x).run:=rfl
theorem qA9 {α R:Type} {F:α→Nat→Option R} {f:α→R}:∀(l:List α),(∀c∈l,Ev (F c) (f c))→∃n0,∀n,n0≤n→∀c∈l,F c n=some (f c)
 | [],_=>⟨0,fun n _ c hc=>by cases hc⟩
 |a::l,h=>by
  obtain ⟨n1,h1⟩:=h a (List.mem_cons_self ..)
  obtain ⟨n2,h2⟩:=qA9 l fun c hc=>h c (List.mem_cons_of_mem _ hc)
  exact ⟨n1+n2,fun n hn c hc=>by
   rcases List.mem_cons.1 hc with rfl|hc
   ·exact h1 n (by omega)
   ·exact h2 n (by omega) c hc⟩
theorem qSZ {R:Type} {B:List (List PV)×Nat×Int×List (List PV)→Tr ((List (List PV)×Nat×Int×List (List PV))⊕R)} {rows:List (List PV)} {z:List PV} {r:List (List PV)→R}
  (hs:∀(i:Nat) (acc:List (List PV)) (e:List PV),rows[i]?=some e→acc.length=rows.length→acc[i]?=some z→(B (rows,rows.length,(i:Int),acc)).run=some (.inl (rows,rows.length,((i+1:Nat):Int),acc.set i e)))
  (he:∀acc:List (List PV),acc.length=rows.length→(B (rows,rows.length,(rows.length:Int),acc)).run=some (.inr (r acc))):
  ∀(m i M:Nat),rows.length=i+m→m+1≤M→zC B M (rows,rows.length,(i:Int),rows.take i++zAI z m)=some (r rows)
 |m,i,0,h1,h2=>by omega
 |0,i,M+1,h1,h2=>by
  have hi:i=rows.length:=by omega
  subst hi
  have e:rows.take rows.length++zAI z 0=rows:=by simp [zAI]
  rw [e,qP (he rows rfl)]
 |m+1,i,M+1,h1,h2=>by
  have hl:i<rows.length:=by omega
  have hg:=List.getElem?_eq_getElem hl
  have hlen:(rows.take i++zAI z (m+1)).length=rows.length:=by simp [zAI];omega
  have hz:(rows.take i++zAI z (m+1))[i]?=some z:=by
   rw [List.getElem?_append_right (by simp;omega)]
   simp [zAI,Nat.min_eq_left (Nat.le_of_lt hl)]
  rw [qQ (hs i _ _ hg hlen hz)]
  have e:(rows.take i++zAI z (m+1)).set i rows[i]=rows.take (i+1)++zAI z m:=by
   have hx:zAI z (m+1)=z::zAI z m:=by simp [zAI,List.replicate_succ]
   rw [hx,List.set_append_right (h:=by simp;omega)]
   have:i-(rows.take i).length=0:=by simp;omega
   rw [this,List.set_cons_zero,show rows.take (i+1)=rows.take i++ [rows[i]] from by rw [List.take_add_one,hg];rfl,List.append_assoc]
   rfl
  rw [e]
  exact qSZ hs he m (i+1) M (by omega) (by omega)
theorem qTc {R:Type} {B:List (List PV)×Nat×Int×List (List PV)→Tr ((List (List PV)×Nat×Int×List (List PV))⊕R)} {rows:List (List PV)} {z:List PV} {r:List (List PV)→R} {M:Nat}
  (hs:∀(i:Nat) (acc:List (List PV)) (e:List PV),rows[i]?=some e→acc.length=rows.length→acc[i]?=some z→(B (rows,rows.length,(i:Int),acc)).run=some (.inl (rows,rows.length,((i+1:Nat):Int),acc.set i e)))
  (he:∀acc:List (List PV),acc.length=rows.length→(B (rows,rows.length,(rows.length:Int),acc)).run=some (.inr (r acc))) (hM:rows.length+1≤M):
  zC B M (rows,rows.length,0,zAI z rows.length)=some (r rows):=by
 have:=qSZ (B:=B) hs he rows.length 0 M (by omega) hM
 simpa using this
theorem qTB {R:Type} {B:List (List PV)×List (List PV)×Int→Tr ((List (List PV)×List (List PV)×Int)⊕R)} {rows:List (List PV)} {r:R}
  (hs:∀(i:Nat) (e:List PV),rows[i]?=some e→(B (rows,rows,(i:Int))).run=some (.inl (rows,rows,((i+1:Nat):Int)))) (he:(B (rows,rows,(rows.length:Int))).run=some (.inr r)):
  ∀(m i M:Nat),rows.length=i+m→m+1≤M→zC B M (rows,rows,(i:Int))=some r
 |m,i,0,h1,h2=>by omega
 |0,i,M+1,h1,h2=>by
  have hi:i=rows.length:=by omega
  subst hi
  rw [qP he]
 |m+1,i,M+1,h1,h2=>by
  have hg:=List.getElem?_eq_getElem (l:=rows) (i:=i) (by omega)
  rw [qQ (hs i _ hg)]
  exact qTB hs he m (i+1) M (by omega) (by omega)
theorem qUa {R:Type} {B:List (List PV)×Int×Int→Tr ((List (List PV)×Int×Int)⊕R)} {rows:List (List PV)}
  (hs:∀(i:Nat) (e:List PV) (x:Int),rows[i]?=some e→(∃y,(B (rows,x,(i:Int))).run=some (.inl (rows,y,((i+1:Nat):Int))))∨∃r,(B (rows,x,(i:Int))).run=some (.inr r)) (he:∀x,∃r,(B (rows,x,(rows.length:Int))).run=some (.inr r)):
  ∀(m i M:Nat) (x:Int),rows.length=i+m→m+1≤M→∃r,zC B M (rows,x,(i:Int))=some r
 |m,i,0,x,h1,h2=>by omega
 |0,i,M+1,x,h1,h2=>by
  have hi:i=rows.length:=by omega
  subst hi
  obtain ⟨r,hr⟩:=he x
  exact ⟨r,qP hr⟩
 |m+1,i,M+1,x,h1,h2=>by
  have hg:=List.getElem?_eq_getElem (l:=rows) (i:=i) (by omega)
  rcases hs i _ x hg with ⟨y,hy⟩|⟨r,hr⟩
  ·rw [qQ hy]
   exact qUa hs he m (i+1) M y (by omega) (by omega)
  ·exact ⟨r,qP hr⟩
theorem qRO {α:Type} {enc:α→List PV} {P:α→Prop} {sh:List Sh} (hd:∀e,okR sh e→∃a,e=enc a∧P a):∀{rows:List (List PV)},(∀e∈rows,okR sh e)→∃l:List α,rows=l.map enc∧∀a∈l,P a
 | [],_=>⟨[],rfl,fun a h=>by cases h⟩
 |e::rows,h=>by
  obtain ⟨a,rfl,ha⟩:=hd e (h e (List.mem_cons_self ..))
  obtain ⟨l,rfl,hl⟩:=qRO hd fun e he=>h e (List.mem_cons_of_mem _ he)
  exact ⟨a::l,rfl,fun b hb=>by
   rcases List.mem_cons.1 hb with rfl|hb
   ·exact ha
   ·exact hl b hb⟩
theorem qA {α β:Type} {o:Option β} {x:β} {k:β→Tr α} {y:Option α} (h:o=some x) (h2:(k x).run=y):(Tr.opt o k).run=y:=by rw [h];exact h2
theorem qD {α:Type} {b:Bool} {t f:Tr α} {y:Option α} (h:b=true) (h2:t.run=y):(Tr.ask b t f).run=y:=by rw [h];exact h2
theorem qO {α:Type} {b:Bool} {t f:Tr α} {y:Option α} (h:b=false) (h2:f.run=y):(Tr.ask b t f).run=y:=by rw [h];exact h2
theorem qF (b:Bool):zd (⟨(.c (.p (.b b))),[],[]⟩:Res)=true:=rfl
theorem qG (x:Int):zd (⟨(.c (.p (.i .i64 x))),[],[]⟩:Res)=true:=rfl
theorem qN (x:ByteArray):zd (⟨(.c (.p (.s x))),[],[]⟩:Res)=true:=rfl
theorem qDO (x lo hi:Int):Ev (qA1 · x lo hi) (decide (lo≤x∧x≤hi)):=by
 refine ⟨1,fun n hn=>?_⟩
 obtain ⟨m,rfl,hm⟩:=up1 hn
 simp only [qA1,qGW,qC,qE,qH,qJ,qK,qM,Option.bind_some,qF,qG,qN]
 by_cases h:x≥lo<;>simp [h]
theorem qAO (x lo hi:Int):Ev (qAW · x lo hi) (decide (lo≤x∧x≤hi)):=by
 refine ⟨1,fun n hn=>?_⟩
 obtain ⟨m,rfl,hm⟩:=up1 hn
 simp only [qAW,qIt,qC,qE,qH,qJ,qK,qM,Option.bind_some,qF,qG,qN]
 by_cases h:x≥lo<;>simp [h]
def okc (c:UInt8):Bool:=decide (32≤c.toNat∧c.toNat≤126)
def qDZ (s:ByteArray) (most:Int):Bool:=s.toList.all okc&&decide ((s.size:Int)≤most)
def okV (k n:Int) (s:ByteArray):Bool:=
 if k=2 then decide (n=0)&&qDZ s 200 else (s.toList== [])&&(if k=0 then decide (n=0) else if k=1 then decide (-1000000000000000≤n∧n≤1000000000000000) else if k=3 then decide (0≤n∧n≤1) else if k=4 then decide (1≤n∧n≤5) else false)
theorem qNr (n:Nat) (s:ByteArray) (hb:s.size≤140737488355328):∀(m i M:Nat),s.size=i+m→m+1≤M→
  zC (qBo n) M (s,(i:Int))=some (if (s.toList.drop i).all okc then .inr s else .inl false)
 |m,i,0,h1,h2=>by omega
 |0,i,M+1,h1,h2=>by
  rw [qP (r:= .inr s) (by simp [qBo,qC,qE,qH,qJ,qK,qM,Option.bind_some,qF,qG,qN,show ¬((i:Int)<s.size) by omega])]
  rw [List.drop_eq_nil_of_le (by rw [qAa];omega)]
  rfl
 |m+1,i,M+1,h1,h2=>by
  obtain ⟨c,hc⟩:=qSY (s:=s) (i:=i) (by omega)
  have hi:(i:Int)<s.size:=by omega
  rw [qEI hc]
  by_cases c1:(c.toNat:Int)<32
  ·rw [qP (r:= .inl false) (by simp [qBo,qC,qE,qH,qJ,qK,qM,Option.bind_some,qF,qG,qN,hi,hc,c1])]
   have:okc c=false:=by simp [okc];omega
   simp [this]
  ·by_cases c2:(c.toNat:Int)>126
   ·rw [qP (r:= .inl false) (by simp [qBo,qC,qE,qH,qJ,qK,qM,Option.bind_some,qF,qG,qN,hi,hc,c1,c2])]
    have:okc c=false:=by simp [okc];omega
    simp [this]
   ·have hw:IntKind.i64.wrap ((i:Int)+1)=((i+1:Nat):Int):=by rw [qT (by omega)];omega
    rw [qQ (v':=(s,((i+1:Nat):Int))) (by simp [qBo,qC,qE,qH,qJ,qK,qM,Option.bind_some,qF,qG,qN,hi,hc,c1,c2,hw])]
    rw [qNr n s hb m (i+1) M (by omega) (by omega)]
    have:okc c=true:=by simp [okc];omega
    simp [this]
theorem qJX (s:ByteArray) (hb:s.size≤140737488355328):Ev (qCu · s) (qDZ s 200):=by
 refine ⟨s.size+2,fun n hn=>?_⟩
 obtain ⟨m,rfl,hm⟩:=up1 hn
 have h:=qNr m s hb s.size 0 m (by omega) (by omega)
 simp only [qCu,qHT,qC,qE,qH,qJ,qK,qM,Option.bind_some,qF,qG,qN]
 simp only [Int.natCast_zero,List.drop_zero] at h
 rw [h]
 cases hc:s.toList.all okc<;>simp [qC,qE,qH,qJ,qK,qM,Option.bind_some,qF,qG,qN,qDZ,hc]
theorem qKU (s:ByteArray) (hb:s.size≤140737488351232):Ev (qCu · s) (qDZ s 200):=qJX s (by omega)
theorem qPP (n:Nat) (s:ByteArray) (y:Int) (hb:s.size≤140737488355328):∀(m i M:Nat),s.size=i+m→m+1≤M→
  zC (qB8 n) M (s,y,(s.size:Int),(i:Int))=some (if (s.toList.drop i).all okc then .inr (s,y) else .inl false)
 |m,i,0,h1,h2=>by omega
 |0,i,M+1,h1,h2=>by
  rw [qP (r:= .inr (s,y)) (by simp [qB8,qC,qE,qH,qJ,qK,qM,Option.bind_some,qF,qG,qN,show ¬((i:Int)<s.size) by omega])]
  rw [List.drop_eq_nil_of_le (by rw [qAa];omega)]
  rfl
 |m+1,i,M+1,h1,h2=>by
  obtain ⟨c,hc⟩:=qSY (s:=s) (i:=i) (by omega)
  have hi:(i:Int)<s.size:=by omega
  rw [qEI hc]
  by_cases c1:(c.toNat:Int)<32
  ·rw [qP (r:= .inl false) (by simp [qB8,qC,qE,qH,qJ,qK,qM,Option.bind_some,qF,qG,qN,hi,hc,c1])]
   have:okc c=false:=by simp [okc];omega
   simp [this]
  ·by_cases c2:(c.toNat:Int)>126
   ·rw [qP (r:= .inl false) (by simp [qB8,qC,qE,qH,qJ,qK,qM,Option.bind_some,qF,qG,qN,hi,hc,c1,c2])]
    have:okc c=false:=by simp [okc];omega
    simp [this]
   ·have hw:IntKind.i64.wrap ((i:Int)+1)=((i+1:Nat):Int):=by rw [qT (by omega)];omega
    rw [qQ (v':=(s,y,(s.size:Int),((i+1:Nat):Int))) (by simp [qB8,qC,qE,qH,qJ,qK,qM,Option.bind_some,qF,qG,qN,hi,hc,c1,c2,hw])]
    rw [qPP n s y hb m (i+1) M (by omega) (by omega)]
    have:okc c=true:=by simp [okc];omega
    simp [this]
theorem qKV (s:ByteArray) (y:Int) (hb:s.size≤140737488355328):Ev (qDV · s y) (qDZ s y):=by
 refine ⟨s.size+2,fun n hn=>?_⟩
 obtain ⟨m,rfl,hm⟩:=up1 hn
 have h:=qPP m s y hb s.size 0 m (by omega) (by omega)
 simp only [qDV,qIu,qC,qE,qH,qJ,qK,qM,Option.bind_some,qF,qG,qN]
 simp only [Int.natCast_zero,List.drop_zero] at h
 rw [h]
 cases hc:s.toList.all okc<;>simp [qC,qE,qH,qJ,qK,qM,Option.bind_some,qF,qG,qN,qDZ,hc]
theorem qLX (s:ByteArray) (y:Int) (hb:s.size≤140737488351232):Ev (qDV · s y) (qDZ s y):=qKV s y (by omega)
theorem qAI (k x:Int) (s:ByteArray) (hb:s.size≤140737488351232):Ev (qa · k x s) (okV k x s):=by
 obtain ⟨n1,h1⟩:=qDO x (-1000000000000000) 1000000000000000
 obtain ⟨n2,h2⟩:=qDO x 0 1
 obtain ⟨n3,h3⟩:=qDO x 1 5
 obtain ⟨n4,h4⟩:=qKU s hb
 refine ⟨n1+n2+n3+n4+1,fun n hn=>?_⟩
 obtain ⟨m,rfl,hm⟩:=up1 hn
 have h1:=h1 m (by omega)
 dsimp only at h1
 have h2:=h2 m (by omega)
 dsimp only at h2
 have h3:=h3 m (by omega)
 dsimp only at h3
 have h4:=h4 m (by omega)
 dsimp only at h4
 simp only [qa,qHV,qC,qE,qH,qJ,qK,qM,Option.bind_some,qF,qG,qN,h1,h2,h3,h4]
 simp only [okV,qAP]
 by_cases k2:k=2
 ·subst k2
  by_cases x0:x=0<;>simp [x0]
 ·by_cases k0:k=0
  ·subst k0
   by_cases x0:x=0<;>simp [x0]
  ·by_cases k1:k=1
   ·subst k1
    by_cases hx: -1000000000000000≤x∧x≤1000000000000000<;>simp [hx]
   ·by_cases k3:k=3
    ·subst k3
     by_cases hx:0≤x∧x≤1<;>simp [hx]
    ·by_cases k4:k=4
     ·subst k4
      by_cases hx:1≤x∧x≤5<;>simp [hx]
     ·simp [k0,k1,k2,k3,k4]
theorem qG1 (k x:Int) (s:ByteArray) (hb:s.size≤140737488351232):Ev (qAc · k x s) (okV k x s):=by
 obtain ⟨n1,h1⟩:=qAO x (-1000000000000000) 1000000000000000
 obtain ⟨n2,h2⟩:=qAO x 0 1
 obtain ⟨n3,h3⟩:=qAO x 1 5
 obtain ⟨n4,h4⟩:=qLX s 200 hb
 refine ⟨n1+n2+n3+n4+1,fun n hn=>?_⟩
 obtain ⟨m,rfl,hm⟩:=up1 hn
 have h1:=h1 m (by omega)
 dsimp only at h1
 have h2:=h2 m (by omega)
 dsimp only at h2
 have h3:=h3 m (by omega)
 dsimp only at h3
 have h4:=h4 m (by omega)
 dsimp only at h4
 simp only [qAc,qHr,qC,qE,qH,qJ,qK,qM,Option.bind_some,qF,qG,qN,h1,h2,h3,h4]
 simp only [okV,qAP]
 by_cases k2:k=2
 ·subst k2
  by_cases x0:x=0<;>simp [x0]
 ·by_cases he:s.toList= []
  ·by_cases k0:k=0
   ·subst k0
    by_cases x0:x=0<;>simp [x0,he]
   ·by_cases k1:k=1
    ·subst k1;simp [he]
    ·by_cases k3:k=3
     ·subst k3;simp [he]
     ·by_cases k4:k=4
      ·subst k4;simp [he]
      ·simp [k0,k1,k2,k3,k4,he]
  ·simp [k2,he]
abbrev V3:=Int×Int×ByteArray
def em:ByteArray:=⟨#[]⟩
theorem qQI (x:Int):Ev (qDj · x) (4,x,em):=by
 refine ⟨1,fun n hn=>?_⟩
 obtain ⟨m,rfl,hm⟩:=up1 hn
 simp only [qDj,qHX,qC,qE,qH,qJ,qK,qM,Option.bind_some,qF,qG,qN]
 rfl
theorem qMb (x:Int):Ev (qCH · x) (4,x,em):=by
 refine ⟨1,fun n hn=>?_⟩
 obtain ⟨m,rfl,hm⟩:=up1 hn
 simp only [qCH,qJr,qC,qE,qH,qJ,qK,qM,Option.bind_some,qF,qG,qN]
 rfl
theorem qLY (x:Int):Ev (qDW · x) (1,x,em):=by
 refine ⟨1,fun n hn=>?_⟩
 obtain ⟨m,rfl,hm⟩:=up1 hn
 simp only [qDW,qIw,qC,qE,qH,qJ,qK,qM,Option.bind_some,qF,qG,qN]
 rfl
def qBY (c r:Int):Bool:=decide (1≤c∧c≤52)&&decide (1≤r∧r≤99)
def qG2 (a b c d:Int):Bool:=qBY a b&&qBY c d&&decide (a≤c)&&decide (b≤d)
theorem qDa (c r:Int):Ev (qAT · c r) (qBY c r):=by
 obtain ⟨n1,h1⟩:=qDO c 1 52
 obtain ⟨n2,h2⟩:=qDO r 1 99
 refine ⟨n1+n2+1,fun n hn=>?_⟩
 obtain ⟨m,rfl,hm⟩:=up1 hn
 have h1:=h1 m (by omega)
 dsimp only at h1
 have h2:=h2 m (by omega)
 dsimp only at h2
 simp only [qAT,qJj,qC,qE,qH,qJ,qK,qM,Option.bind_some,qF,qG,qN,h1,h2]
 unfold qBY
 cases decide (1≤c∧c≤52)<;>simp
theorem qEJ (c r:Int):Ev (qCG · c r) (qBY c r):=by
 obtain ⟨n1,h1⟩:=qAO c 1 52
 obtain ⟨n2,h2⟩:=qAO r 1 99
 refine ⟨n1+n2+1,fun n hn=>?_⟩
 obtain ⟨m,rfl,hm⟩:=up1 hn
 have h1:=h1 m (by omega)
 dsimp only at h1
 have h2:=h2 m (by omega)
 dsimp only at h2
 simp only [qCG,qJn,qC,qE,qH,qJ,qK,qM,Option.bind_some,qF,qG,qN,h1,h2]
 unfold qBY
 cases decide (1≤c∧c≤52)<;>simp
theorem qRP (a b c d:Int):Ev (qGO · a b c d) (qG2 a b c d):=by
 obtain ⟨n1,h1⟩:=qDa a b
 obtain ⟨n2,h2⟩:=qDa c d
 refine ⟨n1+n2+1,fun n hn=>?_⟩
 obtain ⟨m,rfl,hm⟩:=up1 hn
 have h1:=h1 m (by omega)
 dsimp only at h1
 have h2:=h2 m (by omega)
 dsimp only at h2
 simp only [qGO,qIi,qC,qE,qH,qJ,qK,qM,Option.bind_some,qF,qG,qN,h1,h2]
 unfold qG2
 cases qBY a b<;>cases qBY c d<;>by_cases h:a≤c<;>simp [h]
theorem qLZ (a b c d:Int):Ev (qE4 · a b c d) (qG2 a b c d):=by
 obtain ⟨n1,h1⟩:=qEJ a b
 obtain ⟨n2,h2⟩:=qEJ c d
 refine ⟨n1+n2+1,fun n hn=>?_⟩
 obtain ⟨m,rfl,hm⟩:=up1 hn
 have h1:=h1 m (by omega)
 dsimp only at h1
 have h2:=h2 m (by omega)
 dsimp only at h2
 simp only [qE4,qI0,qC,qE,qH,qJ,qK,qM,Option.bind_some,qF,qG,qN,h1,h2]
 unfold qG2
 cases qBY a b<;>cases qBY c d<;>by_cases h:a≤c<;>simp [h]
def qND (x y:Int):Int:=if x<y then-1 else if x>y then 1 else 0
def qXM (x y:ByteArray):Int:=if Op.bytesLess x.toList y.toList=true then-1 else if x.toList=y.toList then 0 else 1
def qD7:List Int→Int
 | []=>0
 |x::r=>if x≠0 then x else qD7 r
theorem qRQ (x:Int):Ev (qDI · x) false:=by
 refine ⟨1,fun n hn=>?_⟩
 obtain ⟨m,rfl,hm⟩:=up1 hn
 simp only [qDI,qFh,qC,qE,qH,qJ,qK,qM,Option.bind_some,qF,qG,qN]
 simp
theorem qTd (x y:Int):Ev (qCZ · x y) (qND x y):=by
 obtain ⟨n1,h1⟩:=qRQ x
 obtain ⟨n2,h2⟩:=qRQ y
 refine ⟨n1+n2+1,fun n hn=>?_⟩
 obtain ⟨m,rfl,hm⟩:=up1 hn
 have h1:=h1 m (by omega)
 dsimp only at h1
 have h2:=h2 m (by omega)
 dsimp only at h2
 simp only [qCZ,qEu,qC,qE,qH,qJ,qK,qM,Option.bind_some,qF,qG,qN,h1,h2]
 unfold qND
 by_cases h:x<y
 ·simp [h]
 ·by_cases h':x>y
  ·have h'':y<x:=h'
   simp [h,h'']
  ·have h'':¬y<x:=h'
   simp [h,h'']
theorem qUb (n:Nat) (l:List Int) (hb:l.length≤1000):∀(m i M:Nat),l.length=i+m→m+1≤M→
  zC (qDB n) M (0,l.map (fun x=> [PV.i .i64 x]),(l.length:Int),(i:Int))=some (if qD7 (l.drop i)≠0 then .inl (qD7 (l.drop i)) else .inr 0)
 |m,i,0,h1,h2=>by omega
 |0,i,M+1,h1,h2=>by
  rw [qP (r:= .inr 0) (by simp [qDB,qC,qE,qH,qJ,qK,qM,Option.bind_some,qF,qG,qN,show ¬((i:Int)<l.length) by omega])]
  rw [List.drop_eq_nil_of_le (by omega)]
  rfl
 |m+1,i,M+1,h1,h2=>by
  have hl:i<l.length:=by omega
  have hg:=List.getElem?_eq_getElem hl
  have hi:(i:Int)<l.length:=by omega
  rw [qEI hg]
  generalize l[i]=c at hg
  by_cases hc:c=0
  ·subst hc
   have hw:IntKind.i64.wrap ((i:Int)+1)=((i+1:Nat):Int):=by rw [qT (by omega)];omega
   rw [qQ (v':=(0,l.map (fun x=> [PV.i .i64 x]),(l.length:Int),((i+1:Nat):Int))) (by simp [qDB,qC,qE,qH,qJ,qK,qM,Option.bind_some,qF,qG,qN,hi,hg,zB,hw])]
   rw [qUb n l hb m (i+1) M (by omega) (by omega)]
   simp [qD7]
  ·rw [qP (r:= .inl c) (by simp [qDB,qC,qE,qH,qJ,qK,qM,Option.bind_some,qF,qG,qN,hi,hg,zB,hc])]
   simp [qD7,hc]
theorem qU2 (l:List Int) (hb:l.length≤1000):Ev (qHK · (l.map (fun x=> [PV.i .i64 x]))) (qD7 l):=by
 refine ⟨l.length+2,fun n hn=>?_⟩
 obtain ⟨m,rfl,hm⟩:=up1 hn
 have h:=qUb m l hb l.length 0 m (by omega) (by omega)
 simp only [qHK,qJo,qC,qE,qH,qJ,qK,qM,Option.bind_some,qF,qG,qN]
 simp only [Int.natCast_zero,List.drop_zero] at h
 simp only [List.length_map]
 rw [h]
 by_cases hc:qD7 l=0<;>simp [qC,qE,qH,qJ,qK,qM,Option.bind_some,qF,qG,qN,hc]
def qXN (k x:Int) (s:ByteArray) (k' x':Int) (s':ByteArray):Int:=qD7 [qND k k',qND x x',qXM s s']
theorem qMc (b:Bool):Ev (qFl · b) (3,if b=true then 1 else 0,em):=by
 refine ⟨1,fun n hn=>?_⟩
 obtain ⟨m,rfl,hm⟩:=up1 hn
 simp only [qFl,qJs,qC,qE,qH,qJ,qK,qM,Option.bind_some,qF,qG,qN]
 cases b<;>rfl
def qW6 (op o:Int):Bool:=if op=6 then o==0 else if op=7 then o !=0 else if op=8 then decide (o<0) else if op=9 then decide (o≤0) else if op=10 then decide (o>0) else decide (o≥0)
def qXL (op k x:Int) (s:ByteArray) (k' x':Int) (s':ByteArray):Int×Int×ByteArray:=
 if okV k x s=true∧okV k' x' s'=true∧6≤op∧op≤11 then
  (if k=4 then (k,x,s) else if k'=4 then (k',x',s') else (3,if qW6 op (qXN (if k=0 then k' else k) x s (if k'=0 then k else k') x' s')=true then 1 else 0,em))
 else (4,2,em)
def qH7 (a b c d:Int):Bool:=decide (b<d∨(b=d∧a<c))
theorem qMK (a b c d:Int):Ev (qB7 · a b c d) (qD7 [qND b d,qND a c]):=by
 obtain ⟨n1,h1⟩:=qTd b d
 obtain ⟨n2,h2⟩:=qTd a c
 obtain ⟨n3,h3⟩:=qU2 [qND b d,qND a c] (by simp)
 refine ⟨n1+n2+n3+1,fun n hn=>?_⟩
 obtain ⟨m,rfl,hm⟩:=up1 hn
 have h1:=h1 m (by omega)
 dsimp only at h1
 have h2:=h2 m (by omega)
 dsimp only at h2
 have h3:=h3 m (by omega)
 dsimp only at h3
 simp only [qB7,qFG,qC,qE,qH,qJ,qK,qM,Option.bind_some,qF,qG,qN,h1,h2,h3]
 simp only [List.map_cons,List.map_nil] at h3
 simp [h3]
theorem qU3 (a b c d:Int):decide (qD7 [qND b d,qND a c]≥0)=!(qH7 a b c d):=by
 unfold qD7 qD7 qD7 qND qH7
 by_cases h1:b<d
 ·simp [h1]
 ·by_cases h2:b>d
  ·have:¬b=d:=by omega
   simp [h1,h2,this]
  ·have:b=d:=by omega
   subst this
   by_cases h3:a<c
   ·simp [h3]
   ·by_cases h4:a>c<;>simp [h3,h4]
theorem qMd (n:Nat):∀(f:Nat) (v:Int×ByteArray),v.1<10^f→v.1≤9223372036854775807→v.2.size+f≤1000→∃t:ByteArray,t.size≤v.2.size+f∧∀M,f+1≤M→zC (qCD n) M v=some t
 |f,v,h1,h1',h2=>by
  by_cases h0:v.1>0
  ·cases f with
   |zero=>simp at h1;omega
   |succ f=>
    have e1:Int.tdiv v.1 10=v.1/10:=Int.tdiv_eq_ediv_of_nonneg (by omega)
    have hw:IntKind.i64.wrap (Int.tdiv v.1 10)=v.1/10:=by rw [e1];exact qT (by omega)
    have h3:v.1/10<10^f:=by
     have:(10:Int)^(f+1)=10^f*10:=Int.pow_succ 10 f
     omega
    let d:ByteArray:=⟨#[UInt8.ofNat (IntKind.u8.wrap (IntKind.i64.wrap ((48:Int)+(Int.tmod v.1 (10:Int))))).toNat]⟩
    have hs:(d++v.2).size=v.2.size+1:=by rw [ByteArray.size_append];show 1+v.2.size=_;omega
    obtain ⟨t,h4,h5⟩:=qMd n f (v.1/10,d++v.2) h3 (by show v.1/10≤_;omega) (by show (d++v.2).size+f≤1000;omega)
    refine ⟨t,by have:t.size≤(d++v.2).size+f:=h4;omega,fun M hM=>?_⟩
    obtain ⟨M,rfl⟩:∃q,M=q+1:=⟨M-1,by omega⟩
    rw [qQ (v':=(v.1/10,d++v.2)) (by
     have hd:d.size=1:=rfl
     have hc:d.size+v.2.size≤9223372036854775807:=by omega
     simp only [qCD,qC,qE,qH,qJ,qK,qM,Option.bind_some,qF,qG,qN,bytesOf,Option.map_some,hw]
     rw [if_pos (by simpa using h0),if_pos (by simp),if_pos (by simpa using hc)])]
    exact h5 M (by omega)
  ·refine ⟨v.2,by omega,fun M hM=>?_⟩
   obtain ⟨M,rfl⟩:∃q,M=q+1:=⟨M-1,by omega⟩
   rw [qP (r:=v.2) (by
    simp only [qCD,qC,qE,qH,qJ,qK,qM,Option.bind_some,qF,qG,qN]
    rw [if_neg (by simpa using h0)])]
theorem qPQ (k:Int) (h:1≤k∧k≤9223372036854775807):∃t:ByteArray,∀n,25≤n→qED n k=some t:=by
 have p19:(10:Int)^19=10000000000000000000:=by decide
 obtain ⟨t,h1,h2⟩:=qMd 0 19 (k,⟨#[]⟩) (by show k<10^19;omega) h.2 (by show (0:Nat)+19≤1000;decide)
 refine ⟨⟨#[109]⟩++t,fun n hn=>?_⟩
 obtain ⟨m,rfl,hm⟩:=up1 hn
 have h3:zC (qCD m) m (k,⟨#[]⟩)=some t:=h2 m (by omega)
 simp only [qED,qGy,qC,qE,qH,qJ,qK,qM,Option.bind_some,qF,qG,qN,h3]
 have h1:t.size≤19:=h1
 have hd:(⟨#[109]⟩:ByteArray).size=1:=rfl
 rw [if_neg (by simp;omega),if_pos (by simp only [decide_eq_true_eq,hd];omega)]
noncomputable def mtx (k:Int):ByteArray:=if h:1≤k∧k≤9223372036854775807 then Classical.choose (qPQ k h) else ⟨#[]⟩
theorem qWc {k:Int} (h:1≤k∧k≤9223372036854775807) {n:Nat} (hn:25≤n):qED n k=some (mtx k):=by
 unfold mtx
 rw [dif_pos h]
 exact Classical.choose_spec (qPQ k h) n hn
def qIH (x:Int):ByteArray:=⟨(Lib.itoa x).toArray⟩
theorem qEd (a b:ByteArray):(a++b).data.toList=a.data.toList++b.data.toList:=by
 rw [ByteArray.data_append,Array.toList_append]
theorem qIV {a b:ByteArray} (h:a.data.toList=b.data.toList):a=b:=by
 cases a;cases b
 congr 1
 exact Array.toList_inj.1 h
theorem qFt {a b:ByteArray} (h:a.toList=b.toList):a=b:=qIV (by rw [←Go.Lib.toList_data,←Go.Lib.toList_data];exact h)
theorem qDe (a:ByteArray):a.size=a.data.toList.length:=by rw [Array.length_toList];rfl
theorem u8w {q:Nat} (h:q<10):IntKind.u8.wrap (IntKind.i64.wrap (48+(q:Int)))=((48+q:Nat):Int):=by
 rw [qT (by omega)]
 unfold IntKind.wrap
 have e2:(2:Int)^8=256:=by decide
 simp only [IntKind.signed,IntKind.bits,Bool.false_and,Bool.false_eq_true,if_false,e2]
 omega
theorem qWW:∀(k v:Nat),1≤v→v<10^k→Lib.nDigits v≤k:=by
 intro k
 induction k with
 |zero=>intro v hv hv';simp at hv';omega
 |succ k ih=>
  intro v hv hv'
  by_cases h10:v<10
  ·rw [Lib.nDigits_small h10];omega
  ·rw [Lib.nDigits_big h10]
   have:=ih (v/10) (by omega) (by rw [Nat.pow_succ] at hv';omega)
   omega
theorem qLs (u:Nat) (h:u≤1000000000000000000):(Lib.decDigits u).length≤19:=by
 have p:(10:Nat)^19=10000000000000000000:=by decide
 rw [Lib.decDigits_length]
 rcases Nat.lt_or_ge u 1 with h6|h6
 ·have:u=0:=by omega
  subst this
  rw [Lib.nDigits_small (by decide)]
  decide
 ·exact qWW 19 u h6 (by omega)
def qh (x:Int):ByteArray:=if x=1 then ⟨#[35,68,73,86,33]⟩ else if x=2 then ⟨#[35,84,89,80,69,33]⟩ else if x=3 then ⟨#[35,82,69,70,33]⟩ else if x=4 then ⟨#[35,79,86,69,82,33]⟩ else if x=5 then ⟨#[35,67,89,67,76,69,33]⟩ else ⟨#[]⟩
theorem lt6 {x:Int} (h:0≤x∧x≤5):x=0∨x=1∨x=2∨x=3∨x=4∨x=5:=by omega
def qTe (x:Int):ByteArray:=if x=1 then ⟨#[84,82,85,69]⟩ else ⟨#[70,65,76,83,69]⟩
theorem qVR {x:Int} {s:ByteArray} (h:okV 1 x s=true): -1000000000000000≤x∧x≤1000000000000000:=by
 simp [okV] at h;exact h.2
theorem qSa {x:Int} {s:ByteArray} (h:okV 2 x s=true):x=0∧(s.size:Int)≤200∧s.toList.all okc=true:=by
 simp only [okV,qDZ,if_true,Bool.and_eq_true,decide_eq_true_eq] at h
 exact ⟨h.1,h.2.2,h.2.1⟩
theorem qW7 {x:Int} {s:ByteArray} (h:okV 3 x s=true):0≤x∧x≤1:=by
 simp [okV] at h;exact h.2
theorem qWX {x:Int} {s:ByteArray} (h:okV 4 x s=true):1≤x∧x≤5:=by
 simp [okV] at h;exact h.2
def qCg (k x:Int) (s:ByteArray):ByteArray:=if k=1 then qIH x else if k=2 then ⟨#[39]⟩++s else if k=3 then qTe x else if k=4 then qh x else ⟨#[]⟩
theorem qU4 {x:Int} (h: -1000000000000000000≤x∧x≤1000000000000000000):(qIH x).size≤20:=by
 rw [qDe]
 show (Lib.itoa x).length≤20
 unfold Lib.itoa
 split
 ·have:=qLs x.natAbs (by omega);simp;omega
 ·have:=qLs x.toNat (by omega);omega
theorem qUF {k x:Int} {s:ByteArray} (h:okV k x s=true):(qCg k x s).size≤300:=by
 unfold qCg
 split
 ·rename_i k1;subst k1;have:=qVR h;have:=qU4 (x:=x) (by omega);omega
 ·split
  ·rename_i k2;subst k2
   have:=qSa h
   rw [ByteArray.size_append]
   show 1+s.size≤300
   omega
  ·split
   ·unfold qTe;split<;>decide
   ·split
    ·unfold qh
     repeat' split
     all_goals decide
    ·decide
def qEF (x:Int):ByteArray:=if x<1∨x>52 then ⟨#[]⟩ else if x≤26 then ⟨#[UInt8.ofNat (64+x.toNat)]⟩ else ⟨#[65,UInt8.ofNat (65+(x.toNat-1)%26)]⟩
theorem qO2 (x:Int):(qEF x).size≤2:=by
 unfold qEF
 split
 ·decide
 ·split
  ·exact (show (1:Nat)≤2 by decide)
  ·exact (show (2:Nat)≤2 by decide)
theorem qTC {q:Int} (h:0≤q∧q<256):IntKind.u8.wrap q=q:=by
 unfold IntKind.wrap
 have e2:(2:Int)^8=256:=by decide
 simp only [IntKind.signed,IntKind.bits,Bool.false_and,Bool.false_eq_true,if_false,e2]
 omega
def qCm (c r:Int) (fc fr:Bool):ByteArray:=if qBY c r=true then ⟨((if fc=true then [36] else [])++(qEF c).data.toList++(if fr=true then [36] else [])++(qIH r).data.toList).toArray⟩ else ⟨#[]⟩
theorem qNE {x:Int} (h:1≤x∧x≤99):(qIH x).size≤20:=by
 rw [qDe]
 show (Lib.itoa x).length≤20
 unfold Lib.itoa
 rw [if_neg (by omega)]
 have:=qLs x.toNat (by omega)
 omega
theorem qJY {c r:Int} (h:qBY c r=true):(1≤c∧c≤52)∧(1≤r∧r≤99):=by
 simpa [qBY] using h
def qBN (c:UInt8):Bool:=decide (48≤c.toNat)&&decide (c.toNat≤57)
def qAp (acc:Nat) (l:List UInt8):Nat:=l.foldl (fun a c=>a*10+(c.toNat-48)) acc
theorem qH8 (acc:Nat):qAp acc []=acc:=rfl
theorem qEn (acc:Nat) (c:UInt8) (r:List UInt8):qAp acc (c::r)=qAp (acc*10+(c.toNat-48)) r:=by simp only [qAp,List.foldl_cons]
theorem qTf (l:List UInt8) (acc:Nat) (c:UInt8):qAp acc (l++ [c])=qAp acc l*10+(c.toNat-48):=by
 simp only [qAp,List.foldl_append,List.foldl_cons,List.foldl_nil]
theorem qUc:∀(l:List UInt8) (acc:Nat),acc≤qAp acc l
 | [],acc=>by rw [qH8];exact Nat.le_refl _
 |c::r,acc=>by
  have h:=qUc r (acc*10+(c.toNat-48))
  have h2:acc≤acc*10+(c.toNat-48):=by omega
  rw [qEn]
  exact Nat.le_trans h2 h
theorem qTD {d:Nat} (h:d<10):(UInt8.ofNat (48+d)).toNat=48+d:=by
 rw [UInt8.toNat_ofNat'];omega
theorem qTg {d:Nat} (h:d<10):qBN (UInt8.ofNat (48+d))=true:=by
 unfold qBN
 rw [qTD h]
 simp
 omega
theorem qJZ:∀u:Nat,(Lib.decDigits u).all qBN=true∧qAp 0 (Lib.decDigits u)=u∧Lib.decDigits u≠ []∧(10≤u→(Lib.decDigits u).head?≠some 48)∧(1≤u→(Lib.decDigits u).head?≠some 48):=by
 intro u
 induction u using Nat.strongRecOn with
 |_ u ih=>
  by_cases h:u<10
  ·rw [Lib.decDigits,dif_pos h]
   have h1:∀k,1≤k→k<10→UInt8.ofNat (48+k)≠48:=fun k hk hk' e=>by
    have:=congrArg UInt8.toNat e
    rw [qTD hk'] at this
    have h2:(48:UInt8).toNat=48:=rfl
    omega
   refine ⟨by simp only [List.all_cons,List.all_nil,qTg h,Bool.and_true],by rw [qEn,qH8,qTD h];omega,by simp,fun _=>by omega,fun hu=>?_⟩
   simp only [List.head?_cons,ne_eq,Option.some.injEq]
   exact h1 u hu h
  ·obtain ⟨i1,i2,i3,i4,i5⟩:=ih (u/10) (by omega)
   rw [Lib.decDigits,dif_neg h]
   have hd:u%10<10:=by omega
   have hh:(Lib.decDigits (u/10)++ [UInt8.ofNat (48+u%10)]).head?=(Lib.decDigits (u/10)).head?:=by
    cases hq:Lib.decDigits (u/10) with
    |nil=>exact absurd hq i3
    |cons a b=>rfl
   refine ⟨by simp only [List.all_append,i1,List.all_cons,List.all_nil,qTg hd,Bool.and_true],by rw [qTf,i2,qTD hd];omega,by simp,fun _=>?_,fun _=>?_⟩
   ·rw [hh];exact i5 (by omega)
   ·rw [hh];exact i5 (by omega)
def qHD (l:List UInt8):Bool:=!(l== [])&&l.all qBN&&(!(l.head?==some 48)||l.length==1)
theorem qSb (u:Nat):qHD (Lib.decDigits u)=true:=by
 obtain ⟨h1,h2,h3,h4,h5⟩:=qJZ u
 simp only [qHD,h1,Bool.and_true,Bool.and_eq_true,Bool.not_eq_true',beq_eq_false_iff_ne,Bool.or_eq_true]
 refine ⟨h3,?_⟩
 by_cases hu:u<10
 ·right;rw [Lib.decDigits,dif_pos hu];rfl
 ·left;exact h4 (by omega)
theorem qO3:∀(n:Nat) (l:List UInt8),l.length=n→qHD l=true→Lib.decDigits (qAp 0 l)=l
 |0,l,hn,h=>by
  have:=List.eq_nil_of_length_eq_zero hn
  subst this
  simp [qHD] at h
 |n+1,l,hn,h=>by
  simp only [qHD,Bool.and_eq_true,Bool.not_eq_true',beq_eq_false_iff_ne,Bool.or_eq_true,beq_iff_eq] at h
  obtain ⟨⟨h1,h2⟩,h3⟩:=h
  obtain ⟨ini,c,rfl⟩:∃ini c,l=ini++ [c]:=⟨l.dropLast,l.getLast h1,(List.dropLast_concat_getLast h1).symm⟩
  simp only [List.all_append,Bool.and_eq_true,List.all_cons,List.all_nil,Bool.and_true] at h2
  obtain ⟨h2,hc⟩:=h2
  simp only [qBN,Bool.and_eq_true,decide_eq_true_eq] at hc
  have ec:UInt8.ofNat (48+(c.toNat-48))=c:=by
   have:48+(c.toNat-48)=c.toNat:=by omega
   rw [this];simp
  rw [qTf]
  cases ini with
  |nil=>
   rw [qH8,Nat.zero_mul,Nat.zero_add,List.nil_append,Lib.decDigits,dif_pos (by omega),ec]
  |cons a b=>
   have hl:(a::b).length=n:=by simp at hn⊢;omega
   have h48:¬a=48:=by
    rcases h3 with h3|h3
    ·simpa using h3
    ·simp at h3
   have hcn:qHD (a::b)=true:=by
    simp only [qHD,h2,Bool.and_true,Bool.and_eq_true,Bool.not_eq_true',beq_eq_false_iff_ne,Bool.or_eq_true]
    exact ⟨by simp,.inl (by simpa using h48)⟩
   have ih:=qO3 n (a::b) hl hcn
   have hp:1≤qAp 0 (a::b):=by
    rcases Nat.eq_zero_or_pos (qAp 0 (a::b)) with h0|h0
    ·rw [h0,Lib.decDigits,dif_pos (by decide)] at ih
     have:a=48:=by
      have:=congrArg List.head? ih
      simpa using this.symm
     exact absurd this h48
    ·exact h0
   rw [Lib.decDigits,dif_neg (by omega)]
   have e1:(qAp 0 (a::b)*10+(c.toNat-48))/10=qAp 0 (a::b):=by omega
   have e2:(qAp 0 (a::b)*10+(c.toNat-48))%10=c.toNat-48:=by omega
   rw [e1,e2,ih,ec]
def l1I (l:List UInt8) (most:Int):Int×Bool:=if (l.length:Int)≤most∧qHD l=true then ((qAp 0 l:Int),true) else (0,false)
theorem qTE:∀(l:List UInt8) (acc k:Nat),l.all qBN=true→acc<10^k→qAp acc l<10^(k+l.length)
 | [],acc,k,_,h=>by rw [qH8];simpa using h
 |c::r,acc,k,hd,h=>by
  simp only [List.all_cons,Bool.and_eq_true] at hd
  have hc:=hd.1
  simp only [qBN,Bool.and_eq_true,decide_eq_true_eq] at hc
  have:=qTE r (acc*10+(c.toNat-48)) (k+1) hd.2 (by rw [Nat.pow_succ];omega)
  rw [qEn,List.length_cons,show k+(r.length+1)=k+1+r.length by omega]
  exact this
theorem qO4:∀(l:List UInt8) (acc:Nat),l.all qBN=true→qAp acc l≤1000000000000000000→Lib.parseUintM (2^64-1) acc l= .ok (qAp acc l)
 | [],acc,_,_=>by simp only [Lib.parseUintM,qH8]
 |c::r,acc,hd,h=>by
  simp only [List.all_cons,Bool.and_eq_true] at hd
  have hc:=hd.1
  simp only [qBN,Bool.and_eq_true,decide_eq_true_eq] at hc
  rw [qEn] at h⊢
  have g1:=qUc r (acc*10+(c.toNat-48))
  have p:(2:Nat)^64-1=18446744073709551615:=by decide
  simp only [Lib.parseUintM]
  rw [if_pos hc,if_neg (by omega),if_neg (by rw [p];omega)]
  exact qO4 r _ hd.2 h
theorem qSc {u:Nat} (h:u≤1000000000000000000):Lib.parseUintB 64 (Lib.decDigits u)= .ok u:=by
 obtain ⟨h1,h2,h3,_,_⟩:=qJZ u
 unfold Lib.parseUintB
 rw [if_neg h3,qO4 _ 0 h1 (by rw [h2];exact h),h2]
theorem qTh (u:Nat):∃c r,Lib.decDigits u=c::r∧qBN c=true:=by
 obtain ⟨h1,_,h3,_,_⟩:=qJZ u
 cases hq:Lib.decDigits u with
 |nil=>exact absurd hq h3
 |cons c r=>
  rw [hq] at h1
  simp only [List.all_cons,Bool.and_eq_true] at h1
  exact ⟨c,r,rfl,h1.1⟩
theorem qUG {x:Int} (h: -1000000000000000≤x∧x≤1000000000000000):Lib.parseIntB 64 (Lib.itoa x)= .ok x:=by
 have p:(2:Nat)^(64-1)=9223372036854775808:=by decide
 by_cases hx:x<0
 ·have e:Lib.itoa x=45::Lib.decDigits x.natAbs:=by unfold Lib.itoa;rw [if_pos hx]
  have c45:(45:UInt8).toNat=45:=rfl
  rw [e]
  simp only [Lib.parseIntB,c45,or_true,if_true,qSc (u:=x.natAbs) (by omega),p]
  rw [if_neg (by simp),if_neg (by omega)]
  congr 1
  omega
 ·have e:Lib.itoa x=Lib.decDigits x.toNat:=by unfold Lib.itoa;rw [if_neg hx]
  obtain ⟨c,r,hcr,hd⟩:=qTh x.toNat
  simp only [qBN,Bool.and_eq_true,decide_eq_true_eq] at hd
  rw [e,hcr]
  simp only [Lib.parseIntB]
  rw [if_neg (by omega),←hcr,qSc (u:=x.toNat) (by omega)]
  simp only [p]
  rw [if_neg (by omega),if_neg (by omega),if_neg (by omega)]
  congr 1
  omega
def qTF (l:List UInt8):Option Int:=if l.head?=some 45 then (if (l1I (l.drop 1) 16).2=true∧(l1I (l.drop 1) 16).1≠0 then some (-(l1I (l.drop 1) 16).1) else none) else (if (l1I l 16).2=true then some (l1I l 16).1 else none)
theorem qRR {l:List UInt8} (h:(l1I l 16).2=true):l.length≤16∧qHD l=true∧(l1I l 16).1=(qAp 0 l:Int)∧Lib.decDigits (qAp 0 l)=l:=by
 unfold l1I at h⊢
 split at h
 ·rename_i hc
  rw [if_pos hc]
  exact ⟨by omega,hc.2,rfl,qO3 _ l rfl hc.2⟩
 ·cases h
theorem qUd {u:Nat} (h:u≤1000000000000000):l1I (Lib.decDigits u) 16=((u:Int),true):=by
 obtain ⟨h1,h2,h3,_,_⟩:=qJZ u
 have hl:(Lib.decDigits u).length≤16:=by
  rw [Lib.decDigits_length]
  have:Lib.nDigits 1000000000000000=16:=Lib.nDigits_unique 15 _ (by decide) (by decide)
  rcases Nat.lt_or_ge 16 (Lib.nDigits u) with h4|h4
  ·have h5:u<10^16:=by
    have:(10:Nat)^16=10000000000000000:=by decide
    omega
   exfalso
   rcases Nat.lt_or_ge u 1 with h6|h6
   ·have:u=0:=by omega
    subst this
    rw [Lib.nDigits_small (by decide)] at h4
    omega
   ·have key:∀(k v:Nat),1≤v→v<10^k→Lib.nDigits v≤k:=by
     intro k
     induction k with
     |zero=>intro v hv hv';simp at hv';omega
     |succ k ih=>
      intro v hv hv'
      by_cases h10:v<10
      ·rw [Lib.nDigits_small h10];omega
      ·rw [Lib.nDigits_big h10]
       have:=ih (v/10) (by omega) (by rw [Nat.pow_succ] at hv';omega)
       omega
    have:=key 16 u h6 h5
    omega
  ·exact h4
 unfold l1I
 rw [if_pos ⟨by omega,qSb u⟩,h2]
theorem qU5 {l:List UInt8} {x:Int} (h:qTF l=some x):l=Lib.itoa x:=by
 unfold qTF at h
 split at h
 ·rename_i h45
  split at h
  ·rename_i hc
   cases h
   obtain ⟨a1,a2,a3,a4⟩:=qRR hc.1
   have hne:=hc.2
   rw [a3] at hne⊢
   unfold Lib.itoa
   rw [if_pos (by omega)]
   have:(-(qAp 0 (l.drop 1):Int)).natAbs=qAp 0 (l.drop 1):=by omega
   rw [this,a4]
   cases l with
   |nil=>cases h45
   |cons c r=>simp at h45;simp [h45]
  ·cases h
 ·split at h
  ·rename_i hc
   cases h
   obtain ⟨a1,a2,a3,a4⟩:=qRR hc
   rw [a3]
   unfold Lib.itoa
   rw [if_neg (by omega),Int.toNat_natCast,a4]
  ·cases h
theorem qU6 {x:Int} (h: -1000000000000000≤x∧x≤1000000000000000):qTF (Lib.itoa x)=some x:=by
 unfold qTF
 by_cases hx:x<0
 ·have e:Lib.itoa x=45::Lib.decDigits x.natAbs:=by unfold Lib.itoa;rw [if_pos hx]
  have e2:=qUd (u:=x.natAbs) (by omega)
  rw [e,List.head?_cons,if_pos rfl,List.drop_succ_cons,List.drop_zero,e2,if_pos ⟨rfl,by show ((x.natAbs:Nat):Int)≠0;omega⟩]
  congr 1
  show-((x.natAbs:Nat):Int)=x
  omega
 ·have e:Lib.itoa x=Lib.decDigits x.toNat:=by unfold Lib.itoa;rw [if_neg hx]
  have e2:=qUd (u:=x.toNat) (by omega)
  obtain ⟨c,r,hcr,hd⟩:=qTh x.toNat
  have h45:¬(Lib.decDigits x.toNat).head?=some 45:=by
   rw [hcr]
   simp only [List.head?_cons,Option.some.injEq]
   intro hc
   subst hc
   simp [qBN] at hd
  rw [e,if_neg h45,e2,if_pos rfl]
  congr 1
  show ((x.toNat:Nat):Int)=x
  omega
def qCE (s:ByteArray):Int:=match zM s 10 64 with
 |some (.inl v)=>v
 |some (.inr v)=>v
 |none=>0
theorem qPR {s:ByteArray} {x:Int} (hs:s.toList=Lib.itoa x) (h: -1000000000000000≤x∧x≤1000000000000000):qCE s=x:=by
 have hd:s.data.toList=Lib.itoa x:=by rw [←Go.Lib.toList_data];exact hs
 have hsz:s.size≤281474976710656:=by
  rw [←qAa,hs]
  unfold Lib.itoa
  split
  ·have:=qLs x.natAbs (by omega);simp;omega
  ·have:=qLs x.toNat (by omega);omega
 unfold qCE zM
 rw [if_pos ⟨rfl,rfl,hsz⟩,hd,qUG h]
def qFM (s:ByteArray):Int:=if (qh 5).toList=s.toList then 5 else if (qh 4).toList=s.toList then 4 else if (qh 3).toList=s.toList then 3 else if (qh 2).toList=s.toList then 2 else if (qh 1).toList=s.toList then 1 else 0
theorem qV1 (s:ByteArray):0≤qFM s∧qFM s≤5:=by
 unfold qFM
 repeat' split
 all_goals decide
theorem qV2 {s:ByteArray} (h:¬qFM s=0):qh (qFM s)=s:=by
 unfold qFM at h⊢
 by_cases h5:(qh 5).toList=s.toList
 ·rw [if_pos h5];exact qFt h5
 rw [if_neg h5] at h⊢
 by_cases h4:(qh 4).toList=s.toList
 ·rw [if_pos h4];exact qFt h4
 rw [if_neg h4] at h⊢
 by_cases h3:(qh 3).toList=s.toList
 ·rw [if_pos h3];exact qFt h3
 rw [if_neg h3] at h⊢
 by_cases h2:(qh 2).toList=s.toList
 ·rw [if_pos h2];exact qFt h2
 rw [if_neg h2] at h⊢
 by_cases h1:(qh 1).toList=s.toList
 ·rw [if_pos h1];exact qFt h1
 rw [if_neg h1] at h
 exact absurd rfl h
def qBZ (s:ByteArray):V3:=
 if s.toList.head?=some 39 then (2,0,⟨s.toList.tail.toArray⟩) else
 if s.toList= [70,65,76,83,69] then (3,0,em) else if s.toList= [84,82,85,69] then (3,1,em) else
 if s.toList.head?=some 35 then (if qFM s=0 then (0,0,em) else (4,qFM s,em)) else
 if s.toList= [] then (0,0,em) else (1,qCE s,em)
def qj (s:ByteArray):Int×Int×ByteArray×Bool:=if okV (qBZ s).1 (qBZ s).2.1 (qBZ s).2.2=true∧(qCg (qBZ s).1 (qBZ s).2.1 (qBZ s).2.2).toList=s.toList then ((qBZ s).1,(qBZ s).2.1,(qBZ s).2.2,true) else (0,0,⟨#[]⟩,false)
theorem qV3 (c:UInt8) (k:Nat) (hk:k<256):((c.toNat:Int)==(k:Int))=(some c==some (UInt8.ofNat k)):=by
 by_cases e:c=UInt8.ofNat k
 ·subst e
  have:(UInt8.ofNat k).toNat=k:=by rw [UInt8.toNat_ofNat'];omega
  simp [this]
 ·have h1:¬(c.toNat:Int)=(k:Int):=fun h=>e (by
   have:c.toNat=k:=by omega
   rw [←this];simp)
  have h2:¬some c=some (UInt8.ofNat k):=fun h=>e (by simpa using h)
  rw [beq_eq_false_iff_ne.2 h1,beq_eq_false_iff_ne.2 h2]
theorem qCU (l:List UInt8):(⟨l.toArray⟩:ByteArray).toList=l:=by rw [Go.Lib.toList_data]
theorem qRS (n:Nat):∀(f u:Nat) (s:ByteArray),u<10^(f+1)→u≤9223372036854775807→s.size+f≤1000→∃(q:Nat) (t:ByteArray),q<10∧t.size≤s.size+f∧UInt8.ofNat (48+q)::t.data.toList=Lib.decDigits u++s.data.toList∧∀M,f+1≤M→zC (qEB n) M ((u:Int),s)=some ((q:Int),t)
 |f,u,s,h1,h2,h3=>by
  by_cases h:u<10
  ·refine ⟨u,s,h,by omega,by rw [Lib.decDigits,dif_pos h];rfl,fun M hM=>?_⟩
   obtain ⟨M,rfl⟩:∃k,M=k+1:=⟨M-1,by omega⟩
   have hc:¬(u:Int)≥10:=by omega
   rw [qP (r:=((u:Int),s)) (by simp [qEB,qC,qE,qH,qJ,qK,qM,Option.bind_some,qF,qG,qN,hc])]
  ·cases f with
   |zero=>simp at h1;omega
   |succ f=>
    have e1:Int.tmod (u:Int) 10=((u%10:Nat):Int):=by rw [Int.tmod_eq_emod_of_nonneg (by omega)];omega
    have e2:IntKind.i64.wrap (Int.tdiv (u:Int) 10)=((u/10:Nat):Int):=by
     rw [Int.tdiv_eq_ediv_of_nonneg (by omega),qT (by omega)];omega
    have e3:=u8w (q:=u%10) (by omega)
    have h4:u/10<10^(f+1):=by
     have:10^(f+1+1)=10^(f+1)*10:=Nat.pow_succ 10 (f+1)
     omega
    let d:ByteArray:=⟨#[UInt8.ofNat (48+u%10)]⟩
    have hd:d.size=1:=rfl
    have hs:(d++s).size=s.size+1:=by rw [ByteArray.size_append];omega
    obtain ⟨q,t,g1,g2,g3,g4⟩:=qRS n f (u/10) (d++s) h4 (by omega) (by omega)
    refine ⟨q,t,g1,by omega,?_,fun M hM=>?_⟩
    ·rw [g3,qEd,Lib.decDigits.eq_1 u,dif_neg h]
     simp [d]
    ·obtain ⟨M,rfl⟩:∃k,M=k+1:=⟨M-1,by omega⟩
     have hc:(u:Int)≥10:=by omega
     have hz:d.size+s.size≤9223372036854775807:=by omega
     rw [qQ (v':=(((u/10:Nat):Int),d++s)) (by
      simp only [qEB,qC,qE,qH,qJ,qK,qM,Option.bind_some,qF,qG,qN,e1,e2,e3,bytesOf,Option.map_some,Int.toNat_natCast]
      rw [if_pos (by simpa using hc),if_pos (by simp),if_pos (decide_eq_true hz)])]
     exact g4 M (by omega)
theorem qNs (u:Nat) (h:u≤1000000000000000000):∀n,25≤n→qA4 n (u:Int)=some (qIH u):=by
 intro n hn
 obtain ⟨m,rfl,hm⟩:=up1 hn
 have p:(10:Nat)^(18+1)=10000000000000000000:=by decide
 obtain ⟨q,t,g1,g2,g3,g4⟩:=qRS m 18 u ⟨#[]⟩ (by omega) (by omega) (by show 0+18≤1000;decide)
 have g4:=g4 m (by omega)
 have e3:=u8w g1
 have hc:¬(u:Int)<0:=by omega
 have hz:(⟨#[UInt8.ofNat (48+q)]⟩:ByteArray).size+t.size≤9223372036854775807:=by
  have g2:t.size≤0+18:=g2
  show 1+t.size≤_
  omega
 simp only [qA4,qHI,qC,qE,qH,qJ,qK,qM,Option.bind_some,qF,qG,qN,g4,e3,bytesOf,Option.map_some,Int.toNat_natCast]
 rw [if_neg (by simp),if_pos (by simp),if_pos (decide_eq_true hz)]
 congr 1
 apply qIV
 rw [qEd]
 have e:Lib.itoa (u:Int)=Lib.decDigits u:=by unfold Lib.itoa;rw [if_neg hc];simp
 show UInt8.ofNat (48+q)::t.data.toList=Lib.itoa (u:Int)
 rw [g3,e]
 simp
theorem qMe (x:Int) (h: -1000000000000000000≤x∧x≤1000000000000000000):Ev (qA4 · x) (qIH x):=by
 by_cases hx:x<0
 ·refine ⟨30,fun n hn=>?_⟩
  obtain ⟨m,rfl,hm⟩:=up1 hn
  have e1:IntKind.i64.wrap (0-x)=((x.natAbs:Nat):Int):=by rw [qT (by omega)];omega
  have g:=qNs x.natAbs (by omega) m (by omega)
  have hl:=qLs x.natAbs (by omega)
  have e0:Lib.itoa ((x.natAbs:Nat):Int)=Lib.decDigits x.natAbs:=by unfold Lib.itoa;rw [if_neg (by omega)];simp
  have hz:(⟨#[45]⟩:ByteArray).size+(qIH ((x.natAbs:Nat):Int)).size≤9223372036854775807:=by
   have:(qIH ((x.natAbs:Nat):Int)).size=(Lib.decDigits x.natAbs).length:=by rw [qDe];simp [qIH,e0]
   show 1+_≤_
   omega
  simp only [qA4,qHI,qC,qE,qH,qJ,qK,qM,Option.bind_some,qF,qG,qN,e1,g]
  rw [if_pos (by simpa using hx),if_pos (decide_eq_true hz)]
  congr 1
  apply qIV
  rw [qEd]
  have e:Lib.itoa x=45::Lib.decDigits x.natAbs:=by unfold Lib.itoa;rw [if_pos hx]
  show 45::(Lib.itoa ((x.natAbs:Nat):Int))=Lib.itoa x
  rw [e,e0]
 ·obtain ⟨u,rfl⟩:∃u:Nat,x=u:=⟨x.toNat,by omega⟩
  exact ⟨25,qNs u (by omega)⟩
theorem qTG (x:Int) (h: -9223372036854775808≤x∧x≤9223372036854775807):Ev (qEw · x 10) (qIH x):=by
 refine ⟨1,fun n hn=>?_⟩
 obtain ⟨m,rfl,hm⟩:=up1 hn
 show zh x 10=_
 unfold zh
 rw [if_pos ⟨rfl,h⟩]
 rfl
theorem qG3 (x:Int) (h: -9223372036854775808≤x∧x≤9223372036854775807):Ev (qBS · x) (qIH x):=by
 obtain ⟨n1,h1⟩:=qTG x h
 refine ⟨n1+1,fun n hn=>?_⟩
 obtain ⟨m,rfl,hm⟩:=up1 hn
 have h1:=h1 m (by omega)
 dsimp only at h1
 simp only [qBS,qHs,qC,qE,qH,qJ,qK,qM,Option.bind_some,qF,qG,qN,h1]
theorem qH9 (x:Int) (h:0≤x∧x≤5):Ev (qBm · x) (qh x):=by
 refine ⟨1,fun n hn=>?_⟩
 obtain ⟨m,rfl,hm⟩:=up1 hn
 simp only [qBm,qIk,qC,qE,qH,qJ,qK,qM,Option.bind_some,qF,qG,qN]
 rcases lt6 h with rfl|rfl|rfl|rfl|rfl|rfl<;>simp [zY,qh]
theorem qFu (x:Int) (h:0≤x∧x≤5):Ev (qAq · x) (qh x):=by
 refine ⟨1,fun n hn=>?_⟩
 obtain ⟨m,rfl,hm⟩:=up1 hn
 simp only [qAq,qGD,qC,qE,qH,qJ,qK,qM,Option.bind_some,qF,qG,qN]
 rcases lt6 h with rfl|rfl|rfl|rfl|rfl|rfl<;>simp [zY,qh]
theorem qRT (x:Int):Ev (qGR · x) (qTe x):=by
 refine ⟨1,fun n hn=>?_⟩
 obtain ⟨m,rfl,hm⟩:=up1 hn
 simp only [qGR,qIr,qC,qE,qH,qJ,qK,qM,Option.bind_some,qF,qG,qN]
 by_cases h:x=1<;>simp [qTe,h]
theorem qEP (k x:Int) (s:ByteArray) (hb:s.size≤140737488351232):Ev (qAb · k x s) (if okV k x s=true then qCg k x s else ⟨#[]⟩):=by
 cases ho:okV k x s with
 |false=>
  obtain ⟨n1,h1⟩:=qAI k x s hb
  refine ⟨n1+1,fun n hn=>?_⟩
  obtain ⟨m,rfl,hm⟩:=up1 hn
  have h1:=h1 m (by omega)
  dsimp only at h1
  simp only [qAb,qBe,qC,qE,qH,qJ,qK,qM,Option.bind_some,qF,qG,qN,h1]
  simp [ho]
 |true=>
  by_cases k1:k=1
  ·subst k1
   have:=qVR ho
   obtain ⟨n1,h1⟩:=qAI 1 x s hb
   obtain ⟨n2,h2⟩:=qMe x (by omega)
   refine ⟨n1+n2+1,fun n hn=>?_⟩
   obtain ⟨m,rfl,hm⟩:=up1 hn
   have h1:=h1 m (by omega)
   dsimp only at h1
   have h2:=h2 m (by omega)
   dsimp only at h2
   simp only [qAb,qBe,qC,qE,qH,qJ,qK,qM,Option.bind_some,qF,qG,qN,h1,h2]
   simp [ho,qCg]
  ·by_cases k2:k=2
   ·subst k2
    have:=qSa ho
    have hz:(⟨#[39]⟩:ByteArray).size+s.size≤9223372036854775807:=by show 1+s.size≤_;omega
    obtain ⟨n1,h1⟩:=qAI 2 x s hb
    refine ⟨n1+1,fun n hn=>?_⟩
    obtain ⟨m,rfl,hm⟩:=up1 hn
    have h1:=h1 m (by omega)
    dsimp only at h1
    simp only [qAb,qBe,qC,qE,qH,qJ,qK,qM,Option.bind_some,qF,qG,qN,h1]
    simp [ho,qCg,hz]
   ·by_cases k3:k=3
    ·subst k3
     obtain ⟨n1,h1⟩:=qAI 3 x s hb
     obtain ⟨n2,h2⟩:=qRT x
     refine ⟨n1+n2+1,fun n hn=>?_⟩
     obtain ⟨m,rfl,hm⟩:=up1 hn
     have h1:=h1 m (by omega)
     dsimp only at h1
     have h2:=h2 m (by omega)
     dsimp only at h2
     simp only [qAb,qBe,qC,qE,qH,qJ,qK,qM,Option.bind_some,qF,qG,qN,h1,h2]
     simp [ho,qCg]
    ·by_cases k4:k=4
     ·subst k4
      have:=qWX ho
      obtain ⟨n1,h1⟩:=qAI 4 x s hb
      obtain ⟨n2,h2⟩:=qH9 x (by omega)
      refine ⟨n1+n2+1,fun n hn=>?_⟩
      obtain ⟨m,rfl,hm⟩:=up1 hn
      have h1:=h1 m (by omega)
      dsimp only at h1
      have h2:=h2 m (by omega)
      dsimp only at h2
      simp only [qAb,qBe,qC,qE,qH,qJ,qK,qM,Option.bind_some,qF,qG,qN,h1,h2]
      simp [ho,qCg]
     ·obtain ⟨n1,h1⟩:=qAI k x s hb
      refine ⟨n1+1,fun n hn=>?_⟩
      obtain ⟨m,rfl,hm⟩:=up1 hn
      have h1:=h1 m (by omega)
      dsimp only at h1
      simp only [qAb,qBe,qC,qE,qH,qJ,qK,qM,Option.bind_some,qF,qG,qN,h1]
      simp [ho,qCg,k1,k2,k3,k4]
theorem qIW (k x:Int) (s:ByteArray) (ho:okV k x s=true):Ev (qu · k x s) (qCg k x s):=by
 by_cases k1:k=1
 ·subst k1
  have:=qVR ho
  obtain ⟨n1,h1⟩:=qG3 x (by omega)
  refine ⟨n1+1,fun n hn=>?_⟩
  obtain ⟨m,rfl,hm⟩:=up1 hn
  have h1:=h1 m (by omega)
  dsimp only at h1
  simp only [qu,qCA,qC,qE,qH,qJ,qK,qM,Option.bind_some,qF,qG,qN,h1]
  simp [qCg]
 ·by_cases k2:k=2
  ·subst k2
   have:=qSa ho
   have hz:(⟨#[39]⟩:ByteArray).size+s.size≤9223372036854775807:=by show 1+s.size≤_;omega
   refine ⟨1,fun n hn=>?_⟩
   obtain ⟨m,rfl,hm⟩:=up1 hn
   simp only [qu,qCA,qC,qE,qH,qJ,qK,qM,Option.bind_some,qF,qG,qN]
   simp [qCg,hz]
  ·by_cases k3:k=3
   ·subst k3
    have:=qW7 ho
    refine ⟨1,fun n hn=>?_⟩
    obtain ⟨m,rfl,hm⟩:=up1 hn
    simp only [qu,qCA,qC,qE,qH,qJ,qK,qM,Option.bind_some,qF,qG,qN]
    have c:x=0∨x=1:=by omega
    rcases c with rfl|rfl<;>simp [zY,qCg,qTe]
   ·by_cases k4:k=4
    ·subst k4
     have:=qWX ho
     obtain ⟨n1,h1⟩:=qFu x (by omega)
     refine ⟨n1+1,fun n hn=>?_⟩
     obtain ⟨m,rfl,hm⟩:=up1 hn
     have h1:=h1 m (by omega)
     dsimp only at h1
     simp only [qu,qCA,qC,qE,qH,qJ,qK,qM,Option.bind_some,qF,qG,qN,h1]
     simp [qCg]
    ·refine ⟨1,fun n hn=>?_⟩
     obtain ⟨m,rfl,hm⟩:=up1 hn
     simp only [qu,qCA,qC,qE,qH,qJ,qK,qM,Option.bind_some,qF,qG,qN]
     simp [qCg,k1,k2,k3,k4]
theorem qKW (x:Int):Ev (qCL · x) (qEF x):=by
 by_cases h:1≤x∧x≤52
 ·by_cases h26:x≤26
  ·have w1:IntKind.i64.wrap (65+x)=65+x:=qT (by omega)
   have w2:IntKind.i64.wrap (65+x-1)=65+x-1:=qT (by omega)
   have w3:IntKind.u8.wrap (65+x-1)=65+x-1:=qTC (by omega)
   have e:(65+x-1).toNat=64+x.toNat:=by omega
   obtain ⟨n1,h1⟩:=qAO x 1 52
   refine ⟨n1+1,fun n hn=>?_⟩
   obtain ⟨m,rfl,hm⟩:=up1 hn
   have h1:=h1 m (by omega)
   dsimp only at h1
   simp only [qCL,qEX,qC,qE,qH,qJ,qK,qM,Option.bind_some,qF,qG,qN,h1]
   simp only [w1,w2,w3,bytesOf,Option.map_some,e]
   simp [h,h26,qEF,show ¬x<1 by omega,show ¬52<x by omega]
  ·have w1:IntKind.i64.wrap (x-1)=x-1:=qT (by omega)
   have e1:Int.tdiv (x-1) 26=1:=by rw [Int.tdiv_eq_ediv_of_nonneg (by omega)];omega
   have e2:Int.tmod (x-1) 26=(((x.toNat-1)%26:Nat):Int):=by rw [Int.tmod_eq_emod_of_nonneg (by omega)];omega
   have w2:IntKind.u8.wrap (IntKind.i64.wrap (IntKind.i64.wrap (65+IntKind.i64.wrap 1)-1))=65:=by decide
   have w3:IntKind.i64.wrap (65+(((x.toNat-1)%26:Nat):Int))=65+(((x.toNat-1)%26:Nat):Int):=qT (by omega)
   have w4:IntKind.u8.wrap (65+(((x.toNat-1)%26:Nat):Int))=65+(((x.toNat-1)%26:Nat):Int):=qTC (by omega)
   have e3:(65+(((x.toNat-1)%26:Nat):Int)).toNat=65+(x.toNat-1)%26:=by omega
   obtain ⟨n1,h1⟩:=qAO x 1 52
   refine ⟨n1+1,fun n hn=>?_⟩
   obtain ⟨m,rfl,hm⟩:=up1 hn
   have h1:=h1 m (by omega)
   dsimp only at h1
   simp only [qCL,qEX,qC,qE,qH,qJ,qK,qM,Option.bind_some,qF,qG,qN,h1]
   simp only [w1,e1,e2,w2,w3,w4,e3,bytesOf,Option.map_some]
   simp [h,h26,qEF,show ¬x<1 by omega,show ¬52<x by omega]
 ·have hx:x<1∨x>52:=by omega
  obtain ⟨n1,h1⟩:=qAO x 1 52
  refine ⟨n1+1,fun n hn=>?_⟩
  obtain ⟨m,rfl,hm⟩:=up1 hn
  have h1:=h1 m (by omega)
  dsimp only at h1
  simp only [qCL,qEX,qC,qE,qH,qJ,qK,qM,Option.bind_some,qF,qG,qN,h1]
  simp [h,qEF,hx]
theorem qSd (n x:Nat) (s:ByteArray) (h:1≤x∧x≤1000) (hs:s.size≤100):(qBp n ((x:Int),s)).run=some (.inl ((((x-1)/26:Nat):Int),(⟨#[UInt8.ofNat (65+(x-1)%26)]⟩:ByteArray)++s)):=by
 have w1:IntKind.i64.wrap ((x:Int)-1)=((x-1:Nat):Int):=by rw [qT (by omega)];omega
 have e1:Int.tdiv ((x-1:Nat):Int) 26=(((x-1)/26:Nat):Int):=by rw [Int.tdiv_eq_ediv_of_nonneg (by omega)];omega
 have e2:Int.tmod ((x-1:Nat):Int) 26=(((x-1)%26:Nat):Int):=by rw [Int.tmod_eq_emod_of_nonneg (by omega)];omega
 have w2:IntKind.i64.wrap (((x-1)/26:Nat):Int)=(((x-1)/26:Nat):Int):=qT (by omega)
 have w3:IntKind.i64.wrap (65+(((x-1)%26:Nat):Int))=65+(((x-1)%26:Nat):Int):=qT (by omega)
 have w4:IntKind.u8.wrap (65+(((x-1)%26:Nat):Int))=65+(((x-1)%26:Nat):Int):=qTC (by omega)
 have e3:(65+(((x-1)%26:Nat):Int)).toNat=65+(x-1)%26:=by omega
 have hz:(⟨#[UInt8.ofNat (65+(x-1)%26)]⟩:ByteArray).size+s.size≤9223372036854775807:=by show 1+s.size≤_;omega
 have hc:(x:Int)>0:=by omega
 simp only [qBp,qC,qE,qH,qJ,qK,qM,Option.bind_some,qF,qG,qN,w1,e1,e2,w2,w3,w4,e3,bytesOf,Option.map_some]
 rw [if_pos (decide_eq_true hc),if_pos (by simp),if_pos (decide_eq_true hz)]
theorem qTi (n:Nat) (s:ByteArray):(qBp n (((0:Nat):Int),s)).run=some (.inr s):=by
 simp [qBp,qC,qE,qH,qJ,qK,qM,Option.bind_some,qF,qG,qN]
theorem qKX (x:Int):Ev (qDl · x) (qEF x):=by
 by_cases h:1≤x∧x≤52
 ·obtain ⟨n1,h1⟩:=qDO x 1 52
  refine ⟨n1+10,fun n hn=>?_⟩
  obtain ⟨m,rfl,hm⟩:=up1 hn
  have h1:=h1 m (by omega)
  dsimp only at h1
  obtain ⟨u,rfl⟩:∃u:Nat,x=u:=⟨x.toNat,by omega⟩
  obtain ⟨M,hM⟩:∃M,m=M+3:=⟨m-3,by omega⟩
  have key:zC (qBp m) m ((u:Int),(⟨#[]⟩:ByteArray))=some (qEF u):=by
   rw [hM,qQ (qSd _ u ⟨#[]⟩ (by omega) (by decide))]
   by_cases h26:u≤26
   ·have e:(u-1)/26=0:=by omega
    have e2:65+(u-1)%26=64+u:=by omega
    rw [e,qP (qTi _ _),e2]
    congr 1
    apply qIV
    rw [qEd]
    simp [qEF,show ¬(u:Int)<1 by omega,show ¬(52:Int)<u by omega,show (u:Int)≤26 by omega]
   ·have e:(u-1)/26=1:=by omega
    have e4:(⟨#[UInt8.ofNat (65+(u-1)%26)]⟩++(⟨#[]⟩:ByteArray)).size≤100:=by rw [ByteArray.size_append];show 1+0≤100;decide
    rw [e,qQ (qSd _ 1 _ (by decide) e4)]
    have e3:(1-1)/26=0:=by decide
    rw [e3,qP (qTi _ _)]
    congr 1
    apply qIV
    rw [qEd,qEd]
    simp [qEF,show ¬(u:Int)<1 by omega,show ¬(52:Int)<u by omega,show ¬(u:Int)≤26 by omega]
  simp only [qDl,qFY,qC,qE,qH,qJ,qK,qM,Option.bind_some,qF,qG,qN,h1,key]
  simp [h]
 ·have hx:x<1∨x>52:=by omega
  obtain ⟨n1,h1⟩:=qDO x 1 52
  refine ⟨n1+1,fun n hn=>?_⟩
  obtain ⟨m,rfl,hm⟩:=up1 hn
  have h1:=h1 m (by omega)
  dsimp only at h1
  simp only [qDl,qFY,qC,qE,qH,qJ,qK,qM,Option.bind_some,qF,qG,qN,h1]
  simp [h,qEF,hx]
theorem qFv (c r:Int) (fc fr:Bool):Ev (qB4 · c r fc fr) (qCm c r fc fr):=by
 cases ho:qBY c r with
 |false=>
  obtain ⟨n1,h1⟩:=qDa c r
  refine ⟨n1+1,fun n hn=>?_⟩
  obtain ⟨m,rfl,hm⟩:=up1 hn
  have h1:=h1 m (by omega)
  dsimp only at h1
  simp only [qB4,qEi,qC,qE,qH,qJ,qK,qM,Option.bind_some,qF,qG,qN,h1]
  simp [ho,qCm]
 |true=>
  have h:=qJY ho
  have s1:=qO2 c
  have s2:=qNE h.2
  have d1:(⟨#[36]⟩:ByteArray).size=1:=rfl
  have z1:(⟨#[36]⟩:ByteArray).size+(qEF c).size≤9223372036854775807:=by omega
  have z2:((⟨#[36]⟩:ByteArray)++qEF c).size+(⟨#[36]⟩:ByteArray).size≤9223372036854775807:=by rw [ByteArray.size_append];omega
  have z3:(((⟨#[36]⟩:ByteArray)++qEF c)++(⟨#[36]⟩:ByteArray)).size+(qIH r).size≤9223372036854775807:=by rw [ByteArray.size_append,ByteArray.size_append];omega
  have z4:((⟨#[36]⟩:ByteArray)++qEF c).size+(qIH r).size≤9223372036854775807:=by rw [ByteArray.size_append];omega
  have z5:(qEF c).size+(⟨#[36]⟩:ByteArray).size≤9223372036854775807:=by omega
  have z6:(qEF c++(⟨#[36]⟩:ByteArray)).size+(qIH r).size≤9223372036854775807:=by rw [ByteArray.size_append];omega
  have z7:(qEF c).size+(qIH r).size≤9223372036854775807:=by omega
  obtain ⟨n1,h1⟩:=qDa c r
  obtain ⟨n2,h2⟩:=qKX c
  obtain ⟨n3,h3⟩:=qMe r (by omega)
  refine ⟨n1+n2+n3+1,fun n hn=>?_⟩
  obtain ⟨m,rfl,hm⟩:=up1 hn
  have h1:=h1 m (by omega)
  dsimp only at h1
  have h2:=h2 m (by omega)
  dsimp only at h2
  have h3:=h3 m (by omega)
  dsimp only at h3
  simp only [qB4,qEi,qC,qE,qH,qJ,qK,qM,Option.bind_some,qF,qG,qN,h1,h2,h3]
  simp only [ho,decide_eq_true z1,decide_eq_true z2,decide_eq_true z3,decide_eq_true z4,decide_eq_true z5,decide_eq_true z6,decide_eq_true z7,if_true,Bool.not_true,Bool.false_eq_true,if_false]
  cases fc<;>cases fr<;>simp only [if_true,if_false,Bool.false_eq_true,Option.some.injEq]<;>apply qIV<;>simp [qCm,ho,qEd]
theorem qEQ (c r:Int) (fc fr:Bool):Ev (qBM · c r fc fr) (qCm c r fc fr):=by
 cases ho:qBY c r with
 |false=>
  obtain ⟨n1,h1⟩:=qEJ c r
  refine ⟨n1+1,fun n hn=>?_⟩
  obtain ⟨m,rfl,hm⟩:=up1 hn
  have h1:=h1 m (by omega)
  dsimp only at h1
  simp only [qBM,qEj,qC,qE,qH,qJ,qK,qM,Option.bind_some,qF,qG,qN,h1]
  simp [ho,qCm]
 |true=>
  have h:=qJY ho
  have s1:=qO2 c
  have s2:=qNE h.2
  have d1:(⟨#[36]⟩:ByteArray).size=1:=rfl
  have d0:(⟨#[]⟩:ByteArray).size=0:=rfl
  have z1:(⟨#[36]⟩:ByteArray).size+(qEF c).size≤9223372036854775807:=by omega
  have z2:((⟨#[36]⟩:ByteArray)++qEF c).size+(⟨#[36]⟩:ByteArray).size≤9223372036854775807:=by rw [ByteArray.size_append];omega
  have z3:(((⟨#[36]⟩:ByteArray)++qEF c)++(⟨#[36]⟩:ByteArray)).size+(qIH r).size≤9223372036854775807:=by rw [ByteArray.size_append,ByteArray.size_append];omega
  have z4:((⟨#[36]⟩:ByteArray)++qEF c).size+(qIH r).size≤9223372036854775807:=by rw [ByteArray.size_append];omega
  have y1:(⟨#[]⟩:ByteArray).size+(qEF c).size≤9223372036854775807:=by omega
  have y2:((⟨#[]⟩:ByteArray)++qEF c).size+(⟨#[36]⟩:ByteArray).size≤9223372036854775807:=by rw [ByteArray.size_append];omega
  have y3:(((⟨#[]⟩:ByteArray)++qEF c)++(⟨#[36]⟩:ByteArray)).size+(qIH r).size≤9223372036854775807:=by rw [ByteArray.size_append,ByteArray.size_append];omega
  have y4:((⟨#[]⟩:ByteArray)++qEF c).size+(qIH r).size≤9223372036854775807:=by rw [ByteArray.size_append];omega
  obtain ⟨n1,h1⟩:=qEJ c r
  obtain ⟨n2,h2⟩:=qKW c
  obtain ⟨n3,h3⟩:=qG3 r (by omega)
  refine ⟨n1+n2+n3+1,fun n hn=>?_⟩
  obtain ⟨m,rfl,hm⟩:=up1 hn
  have h1:=h1 m (by omega)
  dsimp only at h1
  have h2:=h2 m (by omega)
  dsimp only at h2
  have h3:=h3 m (by omega)
  dsimp only at h3
  simp only [qBM,qEj,qC,qE,qH,qJ,qK,qM,Option.bind_some,qF,qG,qN,h1,h2,h3]
  simp only [ho,decide_eq_true z1,decide_eq_true z2,decide_eq_true z3,decide_eq_true z4,decide_eq_true y1,decide_eq_true y2,decide_eq_true y3,decide_eq_true y4,if_true,Bool.not_true,Bool.false_eq_true,if_false]
  cases fc<;>cases fr<;>simp only [if_true,if_false,Bool.false_eq_true,Option.some.injEq]<;>apply qIV<;>simp [qCm,ho,qEd]
theorem qRU (n:Nat) (s:ByteArray):∀(r pre:List UInt8) (acc M:Nat),s.toList=pre++r→acc<10^pre.length→pre.length+r.length≤17→r.length+1≤M→
  zC (qBz n) M (s,(acc:Int),(pre.length:Int))=some (if r.all qBN=true then .inr ((qAp acc r:Nat):Int) else .inl (0,false))
 |r,pre,acc,0,h1,h2,h3,h4=>by omega
 | [],pre,acc,M+1,h1,h2,h3,h4=>by
  have hs:s.size=pre.length:=by rw [←qAa,h1];simp
  rw [qP (r:= .inr (acc:Int)) (by simp [qBz,qC,qE,qH,qJ,qK,qM,Option.bind_some,qF,qG,qN,hs])]
  simp [qH8]
 |c::r,pre,acc,M+1,h1,h2,h3,h4=>by
  have hs:s.size=pre.length+(r.length+1):=by rw [←qAa,h1];simp
  have hi:(pre.length:Int)<s.size:=by omega
  have hg:s.toList[pre.length]?=some c:=by rw [h1];simp
  simp only [List.length_cons] at h3 h4
  by_cases c1:(c.toNat:Int)<48
  ·rw [qP (r:= .inl (0,false)) (by simp [qBz,qC,qE,qH,qJ,qK,qM,Option.bind_some,qF,qG,qN,hi,hg,c1])]
   have:qBN c=false:=by simp [qBN];omega
   simp [this]
  ·by_cases c2:(c.toNat:Int)>57
   ·rw [qP (r:= .inl (0,false)) (by simp [qBz,qC,qE,qH,qJ,qK,qM,Option.bind_some,qF,qG,qN,hi,hg,c1,c2])]
    have:qBN c=false:=by simp [qBN];omega
    simp [this]
   ·have hc:qBN c=true:=by simp [qBN];omega
    have hp:10^pre.length≤10^16:=Nat.pow_le_pow_right (by decide) (by omega)
    have p16:(10:Nat)^16=10000000000000000:=by decide
    have w1:IntKind.i64.wrap ((acc:Int)*10)=(acc:Int)*10:=qT (by omega)
    have w2:IntKind.u8.wrap ((c.toNat:Int)-48)=((c.toNat-48:Nat):Int):=by rw [qTC (by omega)];omega
    have w3:IntKind.i64.wrap ((c.toNat-48:Nat):Int)=((c.toNat-48:Nat):Int):=qT (by omega)
    have w4:IntKind.i64.wrap ((acc:Int)*10+((c.toNat-48:Nat):Int))=((acc*10+(c.toNat-48):Nat):Int):=by rw [qT (by omega)];omega
    have w5:IntKind.i64.wrap ((pre.length:Int)+1)=(pre.length:Int)+1:=qT (by omega)
    have e0:((pre++ [c]).length:Int)=(pre.length:Int)+1:=by simp
    rw [qQ (v':=(s,((acc*10+(c.toNat-48):Nat):Int),((pre++ [c]).length:Int))) (by
     rw [e0]
     simp [qBz,qC,qE,qH,qJ,qK,qM,Option.bind_some,qF,qG,qN,hi,hg,c1,c2,w1,w2,w3,w4,w5])]
    rw [qRU n s r (pre++ [c]) (acc*10+(c.toNat-48)) M (by rw [h1];simp) (by rw [List.length_append,List.length_singleton,Nat.pow_succ];omega) (by simp;omega) (by omega)]
    simp [hc,qEn]
theorem qE8 (s:ByteArray) (most:Int) (hm:most≤16):Ev (qz · s most) (l1I s.toList most):=by
 have hsz:s.size=s.toList.length:=(qAa s).symm
 by_cases h0:s.toList= []
 ·have hz:s.size=0:=by rw [hsz,h0];rfl
  refine ⟨1,fun n hn=>?_⟩
  obtain ⟨m,rfl,hm⟩:=up1 hn
  simp only [qz,qFZ,qC,qE,qH,qJ,qK,qM,Option.bind_some,qF,qG,qN]
  simp [hz,h0,l1I,qHD]
 ·obtain ⟨c,r,hcr⟩:∃c r,s.toList=c::r:=by
   cases hq:s.toList with
   |nil=>exact absurd hq h0
   |cons a b=>exact ⟨a,b,rfl⟩
  have hl:s.size=r.length+1:=by rw [hsz,hcr];rfl
  have z1:¬(s.size:Int)<1:=by omega
  by_cases h1:(s.size:Int)>most
  ·refine ⟨1,fun n hn=>?_⟩
   obtain ⟨m,rfl,hm⟩:=up1 hn
   simp only [qz,qFZ,qC,qE,qH,qJ,qK,qM,Option.bind_some,qF,qG,qN]
   have:¬((s.toList.length:Int)≤most):=by rw [←hsz];omega
   simp [z1,h1,l1I,this]
  ·have hle:(s.toList.length:Int)≤most:=by rw [←hsz];omega
   refine ⟨30,fun n hn=>?_⟩
   obtain ⟨m,rfl,hm'⟩:=up1 hn
   have hg:s.toList[0]?=some c:=by rw [hcr];rfl
   have lp:=qRU m s s.toList [] 0 m rfl (by decide) (by simp;omega) (by omega)
   simp only [List.length_nil,Int.natCast_zero] at lp
   have c48:((c.toNat:Int)==48)=(c==48):=by
    by_cases e:c=48
    ·subst e;rfl
    ·have:¬(c.toNat:Int)=48:=fun h=>e (UInt8.toNat_inj.1 (by show c.toNat=48;omega))
     rw [beq_eq_false_iff_ne.2 this,beq_eq_false_iff_ne.2 e]
   simp only [qz,qFZ,qC,qE,qH,qJ,qK,qM,Option.bind_some,qF,qG,qN,lp,Int.toNat_zero,hg,c48]
   rw [if_neg (by simpa using z1),if_neg (by simpa using h1),if_pos (by simp)]
   have ne:(s.toList== [])=false:=by simpa using h0
   have hd:s.toList.head?=some c:=by rw [hcr];rfl
   by_cases hc:c=48
   ·subst hc
    by_cases h2:(s.size:Int)>1
    ·have:¬s.toList.length=1:=by omega
     simp [h2,l1I,qHD,hd,this]
    ·have:s.toList.length=1:=by omega
     cases hall:s.toList.all qBN<;>simp [h2,l1I,qHD,hd,this,hall,ne,hle,qC,qE,qH,qJ,qK,qM,Option.bind_some,qF,qG,qN]
     ·omega
   ·have:(some c==some 48)=false:=by simpa using hc
    cases hall:s.toList.all qBN<;>simp [hc,l1I,qHD,hd,this,hall,ne,hle,qC,qE,qH,qJ,qK,qM,Option.bind_some,qF,qG,qN]
theorem qPS (s:ByteArray) (h:s.size≤281474976710656):Ev (qBB · s 10 64) (.inl (qCE s))∨Ev (qBB · s 10 64) (.inr (qCE s)):=by
 have key:∃r,zM s 10 64=some r:=by
  unfold zM
  rw [if_pos ⟨rfl,rfl,h⟩]
  split<;>exact ⟨_,rfl⟩
 obtain ⟨r,hr⟩:=key
 have e:Ev (qBB · s 10 64) r:=⟨1,fun n hn=>by
  obtain ⟨m,rfl,hm⟩:=up1 hn
  exact hr⟩
 rcases r with v|v
 ·exact .inl (by unfold qCE;rw [hr];exact e)
 ·exact .inr (by unfold qCE;rw [hr];exact e)
theorem qFw (s:ByteArray) (c:UInt8):Ev (q7 · s ⟨#[c]⟩) (if s.toList.head?=some c then (⟨s.toList.tail.toArray⟩,true) else (s,false)):=by
 refine ⟨1,fun n hn=>?_⟩
 obtain ⟨m,rfl,hm⟩:=up1 hn
 show zZ s ⟨#[c]⟩=_
 unfold zZ Lib.trimPrefix Lib.hasPrefix
 rw [←Go.Lib.toList_data s]
 have es:(⟨s.toList.toArray⟩:ByteArray)=s:=qIV (by rw [←Go.Lib.toList_data s])
 generalize s.toList=l at*
 cases l with
 |nil=>simp [es]
 |cons a r=>
  by_cases h:a=c
  ·subst h;simp
  ·have:¬c=a:=fun e=>h e.symm
   simp [h,this,es,List.isPrefixOf]
theorem qTH (s:ByteArray) (c:UInt8):Ev (qm · s ⟨#[c]⟩) (s.toList.head?==some c):=by
 refine ⟨2,fun n hn=>?_⟩
 obtain ⟨m,rfl,hm⟩:=up1 hn
 obtain ⟨m,rfl,hm⟩:=up1 hm
 have z:(⟨#[c]⟩:ByteArray).size=1:=rfl
 have tc:(⟨#[c]⟩:ByteArray).toList= [c]:=by rw [Go.Lib.toList_data]
 have hsz:s.size=s.toList.length:=(qAa s).symm
 simp only [qm,qCa,qAF,qA5,qC,qE,qH,qJ,qK,qM,Option.bind_some,qF,qG,qN,z,tc]
 cases hq:s.toList with
 |nil=>
  have:s.size=0:=by rw [hsz,hq];rfl
  simp [this]
 |cons a r=>
  have h1:(1:Int)≤s.size:=by rw [hsz,hq];simp;omega
  have e:(s.extract 0 1).toList= [a]:=by
   rw [Go.Lib.toList_data,ByteArray.data_extract,Array.toList_extract]
   rw [Go.Lib.toList_data] at hq
   simp [hq]
  have h2:1≤s.size:=by omega
  simp [h1,h2,e]
theorem qTI (n:Nat) (s:ByteArray) (a b:Int) (c:ByteArray) (i:Int) (v:V3) (hi:1≤i∧i≤5) (h1:qAq n i=some (qh i)) (h2:qCH n i=some (4,i,em)):
  (qBR n (s,i,a,b,c,v.1,v.2.1,v.2.2)).run=some (.inl (s,i+1,a,b,c,if (qh i).toList=s.toList then (4,i,em) else v)):=by
 have w1:IntKind.i64.wrap (i+1)=i+1:=qT (by omega)
 simp only [qBR,qC,qE,qH,qJ,qK,qM,Option.bind_some,qF,qG,qN,h1,h2,w1]
 rw [if_pos (decide_eq_true hi.2)]
 by_cases h:(qh i).toList=s.toList<;>simp [h]
def qNF (s:ByteArray):Nat→Int→V3→V3
 |0,_,v=>v
 |k+1,i,v=>qNF s k (i+1) (if (qh i).toList=s.toList then (4,i,em) else v)
theorem qVS (s:ByteArray):qNF s 5 1 (0,0,em)=if qFM s=0 then (0,0,em) else (4,qFM s,em):=by
 have a2:(1:Int)+1=2:=by decide
 have a3:(2:Int)+1=3:=by decide
 have a4:(3:Int)+1=4:=by decide
 have a5:(4:Int)+1=5:=by decide
 simp only [qNF,qFM,a2,a3,a4,a5]
 by_cases h5:(qh 5).toList=s.toList
 ·simp [h5]
 by_cases h4:(qh 4).toList=s.toList
 ·simp [h5,h4]
 by_cases h3:(qh 3).toList=s.toList
 ·simp [h5,h4,h3]
 by_cases h2:(qh 2).toList=s.toList
 ·simp [h5,h4,h3,h2]
 by_cases h1:(qh 1).toList=s.toList<;>simp [h5,h4,h3,h2,h1]
theorem qNt (n:Nat) (s:ByteArray) (a b:Int) (c:ByteArray) (h1:∀i,0≤i∧i≤5→qAq n i=some (qh i)) (h2:∀i,1≤i∧i≤5→qCH n i=some (4,i,em)):
  ∀(k:Nat) (i:Int) (v:V3) (M:Nat),i+k=6→1≤i→k+1≤M→zC (qBR n) M (s,i,a,b,c,v.1,v.2.1,v.2.2)=some (s,a,b,c,(qNF s k i v).1,(qNF s k i v).2.1,(qNF s k i v).2.2)
 |k,i,v,0,e,h,hM=>by omega
 |0,i,v,M+1,e,h,hM=>by
  have hi:¬i≤5:=by omega
  rw [qP (r:=(s,a,b,c,v.1,v.2.1,v.2.2)) (by simp [qBR,qC,qE,qH,qJ,qK,qM,Option.bind_some,qF,qG,qN,hi])]
  rfl
 |k+1,i,v,M+1,e,h,hM=>by
  rw [qQ (qTI n s a b c i v (by omega) (h1 i (by omega)) (h2 i (by omega)))]
  exact qNt n s a b c h1 h2 k (i+1) _ M (by omega) (by omega) (by omega)
theorem qSe:okV 0 0 em=true:=by simp [okV,em,qAP]
theorem qPT:qCg 0 0 em=⟨#[]⟩:=rfl
theorem qHM {R:Type} {F:Nat→Int→Option R} {f:Int→R} {lo:Int} (h0:0≤lo) (h:∀i,lo≤i∧i≤5→Ev (F · i) (f i)):∃n0,∀n,n0≤n→∀i,lo≤i∧i≤5→F n i=some (f i):=by
 obtain ⟨n0,h1⟩:=qA9 (F:=fun i n=>if lo≤i∧i≤5 then F n i else some (f i)) (f:=f) [0,1,2,3,4,5] (fun i _=>by
  by_cases hi:lo≤i∧i≤5
  ·obtain ⟨n0,h1⟩:=h i hi
   exact ⟨n0,fun n hn=>by simp only [if_pos hi];exact h1 n hn⟩
  ·exact ⟨0,fun n _=>by simp only [if_neg hi]⟩)
 refine ⟨n0,fun n hn i hi=>?_⟩
 have:=h1 n hn i (by
  have c:i=0∨i=1∨i=2∨i=3∨i=4∨i=5:=by omega
  rcases c with rfl|rfl|rfl|rfl|rfl|rfl<;>simp)
 simp only [if_pos hi] at this
 exact this
theorem qIX (s:ByteArray) (hb:s.size≤1048576):Ev (qf · s) (qj s):=by
 have te:(⟨#[]⟩:ByteArray).toList= []:=qAP
 have tF:(⟨#[70,65,76,83,69]⟩:ByteArray).toList= [70,65,76,83,69]:=by rw [Go.Lib.toList_data]
 have tT:(⟨#[84,82,85,69]⟩:ByteArray).toList= [84,82,85,69]:=by rw [Go.Lib.toList_data]
 have fin:∀k x (t:ByteArray),qBZ s=(k,x,t)→t.size≤140737488351232→∃n0,∀n,n0≤n→qAc n k x t=some (okV k x t)∧(okV k x t=true→qu n k x t=some (qCg k x t)):=fun k x t _ ht=>by
  obtain ⟨n1,h1⟩:=qG1 k x t ht
  by_cases ho:okV k x t=true
  ·obtain ⟨n2,h2⟩:=qIW k x t ho
   exact ⟨n1+n2,fun n hn=>⟨h1 n (by omega),fun _=>h2 n (by omega)⟩⟩
  ·exact ⟨n1,fun n hn=>⟨h1 n hn,fun h=>absurd h ho⟩⟩
 have rd:∀k x (t:ByteArray),qBZ s=(k,x,t)→qj s=if okV k x t=true∧(qCg k x t).toList=s.toList then (k,x,t,true) else (0,0,⟨#[]⟩,false):=fun k x t h=>by unfold qj;rw [h]
 by_cases h39:s.toList.head?=some 39
 ·have hc:qBZ s=(2,0,⟨s.toList.tail.toArray⟩):=by unfold qBZ;rw [if_pos h39]
  have hsz:(⟨s.toList.tail.toArray⟩:ByteArray).size≤140737488351232:=by rw [qDe];simp only [List.length_tail];rw [qAa];omega
  obtain ⟨n0,hf⟩:=fin _ _ _ hc hsz
  rw [rd _ _ _ hc]
  obtain ⟨n1,h1⟩:=qFw s 39
  refine ⟨n0+n1+1,fun n hn=>?_⟩
  obtain ⟨m,rfl,hm⟩:=up1 hn
  have h1:=h1 m (by omega)
  obtain ⟨g1,g2⟩:=hf m (by omega)
  dsimp only at h1
  simp only [qf,qBf,qC,qE,qH,qJ,qK,qM,Option.bind_some,qF,qG,qN,h1,if_pos h39,g1]
  cases ho:okV 2 0 (⟨s.toList.tail.toArray⟩:ByteArray) with
  |false=>simp
  |true=>
   simp only [g2 ho]
   by_cases e:(qCg 2 0 (⟨s.toList.tail.toArray⟩:ByteArray)).toList=s.toList<;>simp [e]
 ·have cut:=qFw s 39
  rw [if_neg h39] at cut
  by_cases hF:s.toList= [70,65,76,83,69]
  ·have hc:qBZ s=(3,0,em):=by unfold qBZ;rw [if_neg h39,if_pos hF]
   have hT:¬s.toList= [84,82,85,69]:=by rw [hF];decide
   obtain ⟨n0,hf⟩:=fin _ _ _ hc (by decide)
   rw [rd _ _ _ hc]
   obtain ⟨n1,h1⟩:=cut
   obtain ⟨n2,h2⟩:=qMc false
   refine ⟨n0+n1+n2+1,fun n hn=>?_⟩
   obtain ⟨m,rfl,hm⟩:=up1 hn
   have h1:=h1 m (by omega)
   have h2:=h2 m (by omega)
   obtain ⟨g1,g2⟩:=hf m (by omega)
   dsimp only at h1 h2
   simp only [Bool.false_eq_true,if_false] at h2
   have bT:(s.toList== [84,82,85,69])=false:=by simpa using hT
   have bF:(s.toList== [70,65,76,83,69])=true:=by simpa using hF
   simp only [qf,qBf,qC,qE,qH,qJ,qK,qM,Option.bind_some,qF,qG,qN,h1,tF,tT,bT,bF,h2,g1]
   cases ho:okV 3 0 em with
   |false=>simp
   |true=>
    simp only [g2 ho]
    by_cases e:(qCg 3 0 em).toList=s.toList<;>simp [e]
  ·by_cases hT:s.toList= [84,82,85,69]
   ·have hc:qBZ s=(3,1,em):=by unfold qBZ;rw [if_neg h39,if_neg hF,if_pos hT]
    obtain ⟨n0,hf⟩:=fin _ _ _ hc (by decide)
    rw [rd _ _ _ hc]
    obtain ⟨n1,h1⟩:=cut
    obtain ⟨n2,h2⟩:=qMc true
    refine ⟨n0+n1+n2+1,fun n hn=>?_⟩
    obtain ⟨m,rfl,hm⟩:=up1 hn
    have h1:=h1 m (by omega)
    have h2:=h2 m (by omega)
    obtain ⟨g1,g2⟩:=hf m (by omega)
    dsimp only at h1 h2
    simp only [if_true] at h2
    have bT:(s.toList== [84,82,85,69])=true:=by simpa using hT
    have bF:(s.toList== [70,65,76,83,69])=false:=by simpa using hF
    simp only [qf,qBf,qC,qE,qH,qJ,qK,qM,Option.bind_some,qF,qG,qN,h1,tF,tT,bT,bF,h2,g1]
    cases ho:okV 3 1 em with
    |false=>simp
    |true=>
     simp only [g2 ho]
     by_cases e:(qCg 3 1 em).toList=s.toList<;>simp [e]
   ·have bT:(s.toList== [84,82,85,69])=false:=by simpa using hT
    have bF:(s.toList== [70,65,76,83,69])=false:=by simpa using hF
    have pre:=qTH s 35
    by_cases h35:s.toList.head?=some 35
    ·have hc:qBZ s=(if qFM s=0 then (0,0,em) else (4,qFM s,em)):=by unfold qBZ;rw [if_neg h39,if_neg hF,if_neg hT,if_pos h35]
     have main:∀k x (t:ByteArray),qBZ s=(k,x,t)→qNF s 5 1 (0,0,em)=(k,x,t)→t.size≤140737488351232→Ev (qf · s) (qj s):=fun k x t hc hu ht=>by
      obtain ⟨n0,hf⟩:=fin _ _ _ hc ht
      rw [rd _ _ _ hc]
      obtain ⟨n1,h1⟩:=cut
      obtain ⟨n2,h2⟩:=pre
      obtain ⟨n3,h3⟩:=qHM (F:=qAq) (f:=qh) (lo:=0) (by decide) qFu
      obtain ⟨n4,h4⟩:=qHM (F:=qCH) (f:=fun i=>(4,i,em)) (lo:=1) (by decide) (fun i _=>qMb i)
      refine ⟨n0+n1+n2+n3+n4+10,fun n hn=>?_⟩
      obtain ⟨m,rfl,hm⟩:=up1 hn
      have h1:=h1 m (by omega)
      have h2:=h2 m (by omega)
      have lp:=qNt m s 0 0 ⟨#[]⟩ (h3 m (by omega)) (h4 m (by omega)) 5 1 (0,0,em) m (by decide) (by decide) (by omega)
      rw [hu] at lp
      obtain ⟨g1,g2⟩:=hf m (by omega)
      dsimp only [em] at h1 h2 lp g1 g2
      have b35:(s.toList.head?==some 35)=true:=by simpa using h35
      simp only [qf,qBf,qC,qE,qH,qJ,qK,qM,Option.bind_some,qF,qG,qN,h1,tF,tT,bT,bF,h2,b35,lp,g1]
      cases ho:okV k x t with
      |false=>simp
      |true=>
       simp only [g2 ho]
       by_cases e:(qCg k x t).toList=s.toList<;>simp [e]
     by_cases hz:qFM s=0
     ·rw [if_pos hz] at hc
      exact main _ _ _ hc (by rw [qVS,if_pos hz]) (show (0:Nat)≤140737488351232 by decide)
     ·rw [if_neg hz] at hc
      exact main _ _ _ hc (by rw [qVS,if_neg hz]) (show (0:Nat)≤140737488351232 by decide)
    ·have b35:(s.toList.head?==some 35)=false:=by simpa using h35
     by_cases h0:s.toList= []
     ·have hc:qBZ s=(0,0,em):=by unfold qBZ;rw [if_neg h39,if_neg hF,if_neg hT,if_neg h35,if_pos h0]
      obtain ⟨n0,hf⟩:=fin _ _ _ hc (by decide)
      rw [rd _ _ _ hc]
      obtain ⟨n1,h1⟩:=cut
      obtain ⟨n2,h2⟩:=pre
      refine ⟨n0+n1+n2+1,fun n hn=>?_⟩
      obtain ⟨m,rfl,hm⟩:=up1 hn
      have h1:=h1 m (by omega)
      have h2:=h2 m (by omega)
      obtain ⟨g1,g2⟩:=hf m (by omega)
      dsimp only [em] at h1 h2 g1 g2
      have b0:(!(s.toList== []))=false:=by simpa using h0
      simp only [qf,qBf,qC,qE,qH,qJ,qK,qM,Option.bind_some,qF,qG,qN,h1,tF,tT,bT,bF,h2,b35,te,b0,g1]
      have ho:=qSe
      dsimp only [em] at ho
      simp only [g2 ho,ho]
      by_cases e:(qCg 0 0 (⟨#[]⟩:ByteArray)).toList=s.toList<;>simp [em,ho,e]
     ·have hc:qBZ s=(1,qCE s,em):=by unfold qBZ;rw [if_neg h39,if_neg hF,if_neg hT,if_neg h35,if_neg h0]
      obtain ⟨n0,hf⟩:=fin _ _ _ hc (by decide)
      rw [rd _ _ _ hc]
      obtain ⟨n1,h1⟩:=cut
      obtain ⟨n2,h2⟩:=pre
      obtain ⟨n4,h4⟩:=qLY (qCE s)
      have b0:(!(s.toList== []))=true:=by simpa using h0
      rcases qPS s (by omega) with ⟨n3,h3⟩|⟨n3,h3⟩
      all_goals
       refine ⟨n0+n1+n2+n3+n4+1,fun n hn=>?_⟩
       obtain ⟨m,rfl,hm⟩:=up1 hn
       have h1:=h1 m (by omega)
       have h2:=h2 m (by omega)
       have h3:=h3 m (by omega)
       have h4:=h4 m (by omega)
       obtain ⟨g1,g2⟩:=hf m (by omega)
       dsimp only at h1 h2 h3 h4
       simp only [qf,qBf,qC,qE,qH,qJ,qK,qM,Option.bind_some,qF,qG,qN,h1,tF,tT,bT,bF,h2,b35,te,b0,h3,h4,g1]
       cases ho:okV 1 (qCE s) em with
       |false=>simp
       |true=>
        simp only [g2 ho]
        by_cases e:(qCg 1 (qCE s) em).toList=s.toList<;>simp [e]
theorem qNu (n:Nat) (s:ByteArray) (a b:Int) (c:ByteArray) (h1:∀i,0≤i∧i≤5→qBm n i=some (qh i)):
  ∀(k:Nat) (i x:Int) (M:Nat),i+k=6→1≤i→k+1≤M→(qNF s k i (4,x,em)).1=4∧(qNF s k i (4,x,em)).2.2=em∧zC (qBq n) M (s,i,a,b,c,4,x,⟨#[]⟩)=some (a,b,c,4,(qNF s k i (4,x,em)).2.1,⟨#[]⟩)
 |k,i,x,0,e,h,hM=>by omega
 |0,i,x,M+1,e,h,hM=>by
  have hi:¬i≤5:=by omega
  refine ⟨rfl,rfl,?_⟩
  rw [qP (r:=(a,b,c,4,x,⟨#[]⟩)) (by simp [qBq,qC,qE,qH,qJ,qK,qM,Option.bind_some,qF,qG,qN,hi])]
  rfl
 |k+1,i,x,M+1,e,h,hM=>by
  have hi:i≤5:=by omega
  have g:=h1 i (by omega)
  have w1:IntKind.i64.wrap (i+1)=i+1:=qT (by omega)
  have hu:qNF s (k+1) i (4,x,em)=qNF s k (i+1) (4,if (qh i).toList=s.toList then i else x,em):=by
   simp only [qNF]
   split<;>rfl
  rw [hu,qQ (v':=(s,i+1,a,b,c,4,(if (qh i).toList=s.toList then i else x),⟨#[]⟩)) (by
   simp only [qBq,qC,qE,qH,qJ,qK,qM,Option.bind_some,qF,qG,qN,g,w1]
   rw [if_pos (decide_eq_true hi)]
   by_cases hq:(qh i).toList=s.toList<;>simp [hq])]
  exact qNu n s a b c h1 k (i+1) _ M (by omega) (by omega) (by omega)
theorem qV4 (s:ByteArray):qNF s 5 1 (4,0,em)=(4,qFM s,em):=by
 have a2:(1:Int)+1=2:=by decide
 have a3:(2:Int)+1=3:=by decide
 have a4:(3:Int)+1=4:=by decide
 have a5:(4:Int)+1=5:=by decide
 simp only [qNF,qFM,a2,a3,a4,a5]
 by_cases h5:(qh 5).toList=s.toList
 ·simp [h5]
 by_cases h4:(qh 4).toList=s.toList
 ·simp [h5,h4]
 by_cases h3:(qh 3).toList=s.toList
 ·simp [h5,h4,h3]
 by_cases h2:(qh 2).toList=s.toList
 ·simp [h5,h4,h3,h2]
 by_cases h1:(qh 1).toList=s.toList<;>simp [h5,h4,h3,h2,h1]
theorem qW8 (s:ByteArray):(s.extract (1:Int).toNat ((s.size:Int)).toNat).toList=s.toList.tail:=by
 have e1:(1:Int).toNat=1:=rfl
 rw [Int.toNat_natCast,e1,Go.Lib.toList_data,ByteArray.data_extract,Array.toList_extract,Go.Lib.toList_data]
 have hl:s.data.toList.length=s.size:=by rw [←qDe]
 show (s.data.toList.drop 1).take (s.size-1)=s.data.toList.tail
 rw [List.take_of_length_le (by rw [List.length_drop,hl];exact Nat.le_refl _),List.drop_one]
theorem qVT {s:ByteArray} {c:UInt8} {r:List UInt8} (h:s.toList=c::r):s.toList[((0:Int)).toNat]?=some c:=by rw [h];rfl
theorem qUe {x:Int}:okV 1 x em=decide (-1000000000000000≤x∧x≤1000000000000000):=by
 simp [okV,em,qAP]
theorem qU7 {s:ByteArray} (h39:¬s.toList.head?=some 39) (hF:¬s.toList= [70,65,76,83,69]) (hT:¬s.toList= [84,82,85,69]) (h35:¬s.toList.head?=some 35) (h0:¬s.toList= []):
  qj s=match qTF s.toList with
   |some x=>if okV 1 x em=true then (1,x,em,true) else (0,0,⟨#[]⟩,false)
   |none=>(0,0,⟨#[]⟩,false):=by
 have hc:qBZ s=(1,qCE s,em):=by unfold qBZ;rw [if_neg h39,if_neg hF,if_neg hT,if_neg h35,if_neg h0]
 have rd:qj s=if okV 1 (qCE s) em=true∧(qCg 1 (qCE s) em).toList=s.toList then (1,qCE s,em,true) else (0,0,⟨#[]⟩,false):=by unfold qj;rw [hc]
 have tx:∀x,(qCg 1 x em).toList=Lib.itoa x:=fun x=>by
  rw [Go.Lib.toList_data];simp [qCg,qIH]
 have back:okV 1 (qCE s) em=true∧(qCg 1 (qCE s) em).toList=s.toList→qTF s.toList=some (qCE s):=fun ⟨a,b⟩=>by
  rw [tx] at b
  rw [qUe] at a
  rw [←b]
  exact qU6 (by simpa using a)
 rw [rd]
 cases hn:qTF s.toList with
 |none=>
  rw [if_neg (fun h=>by rw [back h] at hn;cases hn)]
 |some x=>
  by_cases hx:okV 1 x em=true
  ·have hi:=qU5 hn
   have hr: -1000000000000000≤x∧x≤1000000000000000:=by rw [qUe] at hx;simpa using hx
   have hp:=qPR hi hr
   dsimp only
   rw [hp,if_pos ⟨hx,by rw [tx,hi]⟩,if_pos hx]
  ·dsimp only
   rw [if_neg hx,if_neg (fun h=>by
    have:=back h
    rw [hn] at this
    cases this
    exact hx h.1)]
theorem qU8 (s:ByteArray) {c:UInt8} {r:List UInt8} (hcr:s.toList=c::r):qTF s.toList=if c=45 then (if (l1I s.toList.tail 16).2=true∧(l1I s.toList.tail 16).1≠0 then some (-(l1I s.toList.tail 16).1) else none) else (if (l1I s.toList 16).2=true then some (l1I s.toList 16).1 else none):=by
 unfold qTF
 rw [hcr]
 simp only [List.head?_cons,Option.some.injEq,List.drop_one]
theorem qIY (s:ByteArray) (hb:s.size≤1048576):Ev (qAR · s) (qj s):=by
 have te:(⟨#[]⟩:ByteArray).toList= []:=qAP
 have tF:(⟨#[70,65,76,83,69]⟩:ByteArray).toList= [70,65,76,83,69]:=by rw [Go.Lib.toList_data]
 have tT:(⟨#[84,82,85,69]⟩:ByteArray).toList= [84,82,85,69]:=by rw [Go.Lib.toList_data]
 have hsz:s.size=s.toList.length:=(qAa s).symm
 by_cases h0:s.toList= []
 ·have hv:qj s=(0,0,⟨#[]⟩,true):=by
   have hc:qBZ s=(0,0,em):=by unfold qBZ;rw [h0];simp
   unfold qj
   rw [hc,if_pos ⟨qSe,by rw [qPT,h0];exact te⟩]
   rfl
  rw [hv]
  refine ⟨1,fun n hn=>?_⟩
  obtain ⟨m,rfl,hm⟩:=up1 hn
  simp only [qAR,qBI,qC,qE,qH,qJ,qK,qM,Option.bind_some,qF,qG,qN]
  simp [h0,te]
 ·obtain ⟨c,r,hcr⟩:∃c r,s.toList=c::r:=by
   cases hq:s.toList with
   |nil=>exact absurd hq h0
   |cons a b=>exact ⟨a,b,rfl⟩
  have hg:=qVT hcr
  have hd:s.toList.head?=some c:=by rw [hcr];rfl
  have b0:(s.toList== [])=false:=by simpa using h0
  have s1:(1:Int)≤(s.size:Int):=by rw [hsz,hcr];simp;omega
  have k39:=qV3 c 39 (by decide)
  have k35:=qV3 c 35 (by decide)
  have k45:=qV3 c 45 (by decide)
  have u39:UInt8.ofNat 39=39:=rfl
  have u35:UInt8.ofNat 35=35:=rfl
  have u45:UInt8.ofNat 45=45:=rfl
  rw [u39] at k39
  rw [u35] at k35
  rw [u45] at k45
  have q39:((39:Nat):Int)=39:=rfl
  have q35:((35:Nat):Int)=35:=rfl
  have q45:((45:Nat):Int)=45:=rfl
  rw [q39] at k39
  rw [q35] at k35
  rw [q45] at k45
  by_cases h39:c=39
  ·have hx:(⟨s.toList.tail.toArray⟩:ByteArray)=s.extract (1:Int).toNat ((s.size:Int)).toNat:=qFt (by rw [qW8];rw [Go.Lib.toList_data])
   have hc:qBZ s=(2,0,s.extract (1:Int).toNat ((s.size:Int)).toNat):=by unfold qBZ;rw [if_pos (by rw [hd,h39]),hx]
   have hz:(s.extract (1:Int).toNat ((s.size:Int)).toNat).size≤140737488351232:=by rw [←hx,qDe];simp only [List.length_tail];rw [qAa];omega
   have hvt:(qCg 2 0 (s.extract (1:Int).toNat ((s.size:Int)).toNat)).toList=s.toList:=by
    rw [←hx,Go.Lib.toList_data]
    show ((⟨#[39]⟩:ByteArray)++_).data.toList=_
    rw [qEd,hcr,h39]
    rfl
   have hv:qj s=if okV 2 0 (s.extract (1:Int).toNat ((s.size:Int)).toNat)=true then (2,0,s.extract (1:Int).toNat ((s.size:Int)).toNat,true) else (0,0,⟨#[]⟩,false):=by
    unfold qj
    rw [hc]
    simp only [hvt,and_true]
   rw [hv]
   have e39:(some c==some 39)=true:=by rw [h39];rfl
   obtain ⟨n1,h1⟩:=qAI 2 0 (s.extract (1:Int).toNat ((s.size:Int)).toNat) hz
   refine ⟨n1+1,fun n hn=>?_⟩
   obtain ⟨m,rfl,hm⟩:=up1 hn
   have h1:=h1 m (by omega)
   dsimp only at h1
   simp only [qAR,qBI,qC,qE,qH,qJ,qK,qM,Option.bind_some,qF,qG,qN,h1]
   simp only [qC,qE,qH,qJ,qK,qM,Option.bind_some,qF,qG,qN,te,b0,hg,k39,e39]
   cases ho:okV 2 0 (s.extract (1:Int).toNat ((s.size:Int)).toNat)<;>simp [s1]
  ·have n39:¬s.toList.head?=some 39:=by rw [hd];simpa using h39
   have e39:(some c==some 39)=false:=by simpa using h39
   by_cases hT:s.toList= [84,82,85,69]
   ·have hF:¬s.toList= [70,65,76,83,69]:=by rw [hT];decide
    have hc:qBZ s=(3,1,em):=by unfold qBZ;rw [if_neg n39,if_neg hF,if_pos hT]
    have ho:okV 3 1 em=true:=by simp [okV,em,qAP]
    have hv:qj s=(3,1,⟨#[]⟩,true):=by
     unfold qj
     rw [hc,if_pos ⟨ho,by rw [hT];exact tT⟩]
     rfl
    rw [hv]
    have bT:(s.toList== [84,82,85,69])=true:=by simpa using hT
    obtain ⟨n1,h1⟩:=qAI 3 1 ⟨#[]⟩ (by decide)
    refine ⟨n1+1,fun n hn=>?_⟩
    obtain ⟨m,rfl,hm⟩:=up1 hn
    have h1:=h1 m (by omega)
    dsimp only at h1
    simp only [qAR,qBI,qC,qE,qH,qJ,qK,qM,Option.bind_some,qF,qG,qN,h1]
    dsimp only [em] at ho
    simp only [qC,qE,qH,qJ,qK,qM,Option.bind_some,qF,qG,qN,te,b0,hg,k39,e39,tT,bT,ho]
    simp
   ·have bT:(s.toList== [84,82,85,69])=false:=by simpa using hT
    by_cases hF:s.toList= [70,65,76,83,69]
    ·have hc:qBZ s=(3,0,em):=by unfold qBZ;rw [if_neg n39,if_pos hF]
     have ho:okV 3 0 em=true:=by simp [okV,em,qAP]
     have hv:qj s=(3,0,⟨#[]⟩,true):=by
      unfold qj
      rw [hc,if_pos ⟨ho,by rw [hF];exact tF⟩]
      rfl
     rw [hv]
     have bF:(s.toList== [70,65,76,83,69])=true:=by simpa using hF
     obtain ⟨n1,h1⟩:=qAI 3 0 ⟨#[]⟩ (by decide)
     refine ⟨n1+1,fun n hn=>?_⟩
     obtain ⟨m,rfl,hm⟩:=up1 hn
     have h1:=h1 m (by omega)
     dsimp only at h1
     simp only [qAR,qBI,qC,qE,qH,qJ,qK,qM,Option.bind_some,qF,qG,qN,h1]
     dsimp only [em] at ho
     simp only [qC,qE,qH,qJ,qK,qM,Option.bind_some,qF,qG,qN,te,b0,hg,k39,e39,tT,bT,tF,bF,ho]
     simp
    ·have bF:(s.toList== [70,65,76,83,69])=false:=by simpa using hF
     by_cases h35:c=35
     ·have n35:s.toList.head?=some 35:=by rw [hd,h35]
      have e35:(some c==some 35)=true:=by rw [h35];rfl
      have hc:qBZ s=(if qFM s=0 then (0,0,em) else (4,qFM s,em)):=by unfold qBZ;rw [if_neg n39,if_neg hF,if_neg hT,if_pos n35]
      have hin:=qV1 s
      have ho:okV 4 (qFM s) (⟨#[]⟩:ByteArray)=!(qFM s==0):=by
       by_cases hz:qFM s=0
       ·simp [okV,qAP,hz]
       ·have hr:1≤qFM s∧qFM s≤5:=by omega
        simp [okV,qAP,hr,hz]
      have hv:qj s=if qFM s=0 then (0,0,⟨#[]⟩,false) else (4,qFM s,⟨#[]⟩,true):=by
       unfold qj
       rw [hc]
       by_cases hz:qFM s=0
       ·simp only [if_pos hz]
        rw [if_neg (fun h=>h0 (by rw [←h.2,qPT];exact te))]
       ·simp only [if_neg hz]
        have ho':okV 4 (qFM s) em=true:=by show okV 4 (qFM s) ⟨#[]⟩=true;rw [ho];simpa using hz
        rw [if_pos ⟨ho',by show (qh (qFM s)).toList=s.toList;rw [qV2 hz]⟩]
        rfl
      rw [hv]
      obtain ⟨n1,h1⟩:=qAI 4 (qFM s) ⟨#[]⟩ (by decide)
      obtain ⟨n3,h3⟩:=qHM (F:=qBm) (f:=qh) (lo:=0) (by decide) qH9
      refine ⟨n1+n3+10,fun n hn=>?_⟩
      obtain ⟨m,rfl,hm⟩:=up1 hn
      have h1:=h1 m (by omega)
      dsimp only at h1
      obtain ⟨_,_,lp⟩:=qNu m s 0 0 ⟨#[]⟩ (h3 m (by omega)) 5 1 0 m (by decide) (by decide) (by omega)
      rw [qV4] at lp
      simp only [qAR,qBI,qC,qE,qH,qJ,qK,qM,Option.bind_some,qF,qG,qN,te,b0,hg,k39,e39,tT,bT,tF,bF,k35,e35,lp,h1,ho]
      by_cases hz:qFM s=0<;>simp [hz]
     ·have n35:¬s.toList.head?=some 35:=by rw [hd];simpa using h35
      have e35:(some c==some 35)=false:=by simpa using h35
      rw [qU7 n39 hF hT n35 h0,qU8 s hcr]
      dsimp only [em]
      by_cases h45:c=45
      ·have e45:(some c==some 45)=true:=by rw [h45];rfl
       have g16:∀{q:List UInt8},(l1I q 16).2=true→(0≤(l1I q 16).1∧(l1I q 16).1≤10000000000000000):=fun {q} hq=>by
        have p16:(10:Nat)^16=10000000000000000:=by decide
        obtain ⟨a1,a2,a3,a4⟩:=qRR hq
        rw [a3]
        simp only [qHD,Bool.and_eq_true] at a2
        have:=qTE q 0 0 a2.1.2 (by decide)
        have h2:(10:Nat)^(0+q.length)≤10^16:=Nat.pow_le_pow_right (by decide) (by omega)
        omega
       have hl:=qE8 (s.extract (1:Int).toNat ((s.size:Int)).toNat) 16 (by decide)
       rw [qW8] at hl
       have hrange:= @g16 s.toList.tail
       generalize l1I s.toList.tail 16=q at*
       obtain ⟨x,ok⟩:=q
       have w1:ok=true→IntKind.i64.wrap (0-x)= -x:=fun h=>by
        have:=hrange h
        dsimp only at this
        rw [Int.zero_sub];exact qT (by omega)
       obtain ⟨n1,h1⟩:=hl
       obtain ⟨n2,h2⟩:=qAI 1 (-x) ⟨#[]⟩ (by decide)
       refine ⟨n1+n2+1,fun n hn=>?_⟩
       obtain ⟨m,rfl,hm⟩:=up1 hn
       have h1:=h1 m (by omega)
       dsimp only at h1
       have h2:=h2 m (by omega)
       dsimp only at h2
       simp only [qAR,qBI,qC,qE,qH,qJ,qK,qM,Option.bind_some,qF,qG,qN,h1,h2]
       simp only [qC,qE,qH,qJ,qK,qM,Option.bind_some,qF,qG,qN,te,b0,hg,k39,e39,tT,bT,tF,bF,k35,e35,k45,e45,h45,if_true]
       cases ok with
       |false=>simp [s1]
       |true=>
        simp only [qC,qE,qH,qJ,qK,qM,Option.bind_some,qF,qG,qN,w1 rfl,h2]
        by_cases hx:x=0
        ·simp [s1,hx]
        ·cases ho:okV 1 (-x) (⟨#[]⟩:ByteArray)<;>simp [s1,hx,ho]
      ·have e45:(some c==some 45)=false:=by simpa using h45
       have hl:=qE8 s 16 (by decide)
       generalize l1I s.toList 16=q at*
       obtain ⟨x,ok⟩:=q
       obtain ⟨n1,h1⟩:=hl
       obtain ⟨n2,h2⟩:=qAI 1 x ⟨#[]⟩ (by decide)
       refine ⟨n1+n2+1,fun n hn=>?_⟩
       obtain ⟨m,rfl,hm⟩:=up1 hn
       have h1:=h1 m (by omega)
       dsimp only at h1
       have h2:=h2 m (by omega)
       dsimp only at h2
       simp only [qAR,qBI,qC,qE,qH,qJ,qK,qM,Option.bind_some,qF,qG,qN,h1,h2]
       simp only [qC,qE,qH,qJ,qK,qM,Option.bind_some,qF,qG,qN,te,b0,hg,k39,e39,tT,bT,tF,bF,k35,e35,k45,e45,if_neg h45]
       cases ok with
       |false=>simp
       |true=>cases ho:okV 1 x (⟨#[]⟩:ByteArray)<;>simp [ho]
def rcK (s:ByteArray):Nat→Int→Int
 |0,_=>0
 |k+1,i=>if (qEF i).toList=s.toList then i else rcK s k (i+1)
def qGH (s:ByteArray):Int:=rcK s 52 1
theorem qVU (s:ByteArray):∀(k:Nat) (i:Int),1≤rcK s k i→(qEF (rcK s k i)).toList=s.toList
 |0,i,h=>by simp [rcK] at h
 |k+1,i,h=>by
  simp only [rcK] at h⊢
  by_cases e:(qEF i).toList=s.toList
  ·rw [if_pos e];exact e
  ·rw [if_neg e] at h⊢;exact qVU s k (i+1) h
def qJa (c:UInt8):Bool:=decide (65≤c.toNat)&&decide (c.toNat≤90)
def qY (l:List UInt8):List UInt8:=if l.head?=some 36 then l.tail else l
def qR (l:List UInt8):List UInt8:=l.takeWhile qJa
def ql (l:List UInt8):List UInt8:=l.dropWhile qJa
def qBG (s:ByteArray):Int×Int×Bool×Bool×Bool:=
 if (l1I (qY (ql (qY s.toList))) 2).2=true∧qBY (qGH ⟨(qR (qY s.toList)).toArray⟩) (l1I (qY (ql (qY s.toList))) 2).1=true then
  (qGH ⟨(qR (qY s.toList)).toArray⟩,(l1I (qY (ql (qY s.toList))) 2).1,s.toList.head?==some 36,(ql (qY s.toList)).head?==some 36,true) else (0,0,false,false,false)
theorem qNG {R:Type} {B:ByteArray×Int→Tr ((ByteArray×Int)⊕(Int⊕Unit))} {s:ByteArray} (hs:∀i:Int,1≤i∧i≤52→(B (s,i)).run=some (if (qEF i).toList=s.toList then .inr (.inl i) else .inl (s,i+1))) (he:(B (s,53)).run=some (.inr (.inr ()))):
  ∀(k:Nat) (i:Int) (M:Nat),1≤i→i+k=53→k+1≤M→zC B M (s,i)=some (if rcK s k i=0 then .inr () else .inl (rcK s k i))
 |k,i,0,h1,h2,h3=>by omega
 |0,i,M+1,h1,h2,h3=>by
  have:i=53:=by omega
  subst this
  rw [qP he]
  rfl
 |k+1,i,M+1,h1,h2,h3=>by
  have h:=hs i ⟨h1,by omega⟩
  by_cases e:(qEF i).toList=s.toList
  ·rw [if_pos e] at h
   rw [qP h]
   simp only [rcK,if_pos e]
   rw [if_neg (by omega)]
  ·rw [if_neg e] at h
   rw [qQ h]
   simp only [rcK,if_neg e]
   exact qNG (R:=R) hs he k (i+1) M (by omega) (by omega) (by omega)
theorem qUf {F:Nat→Int→Option ByteArray} (h:∀i,Ev (F · i) (qEF i)):∃n0,∀n,n0≤n→∀i,1≤i∧i≤52→F n i=some (qEF i):=by
 obtain ⟨n0,h1⟩:=qA9 (F:=fun (i:Nat) n=>F n (i:Int)) (f:=fun i=>qEF (i:Int)) (List.range 53) (fun i _=>h i)
 refine ⟨n0,fun n hn i hi=>?_⟩
 have:=h1 n hn i.toNat (by rw [List.mem_range];omega)
 rwa [Int.toNat_of_nonneg (by omega)] at this
theorem qQJ (s:ByteArray):Ev (qCv · s) (qGH s):=by
 obtain ⟨n0,h⟩:=qUf qKX
 refine ⟨n0+60,fun n hn=>?_⟩
 obtain ⟨m,rfl,hm⟩:=up1 hn
 have hc:=h m (by omega)
 have lp:=qNG (R:=Unit) (B:=qDF m) (s:=s) (fun i hi=>by
  have g:=hc i hi
  have w1:IntKind.i64.wrap (i+1)=i+1:=qT (by omega)
  simp only [qDF,qC,qE,qH,qJ,qK,qM,Option.bind_some,qF,qG,qN,g,w1]
  rw [if_pos (decide_eq_true hi.2)]
  by_cases e:(qEF i).toList=s.toList<;>simp [e]) (by simp [qDF,qC,qE,qH,qJ,qK,qM,Option.bind_some,qF,qG,qN]) 52 1 m (by decide) (by decide) (by omega)
 simp only [qCv,qHY,qC,qE,qH,qJ,qK,qM,Option.bind_some,qF,qG,qN,lp]
 show _=some (rcK s 52 1)
 by_cases e:rcK s 52 1=0
 ·rw [if_pos e,e];rfl
 ·rw [if_neg e];rfl
theorem qQK (s:ByteArray):Ev (qFm · s) (qGH s):=by
 obtain ⟨n0,h⟩:=qUf qKW
 refine ⟨n0+60,fun n hn=>?_⟩
 obtain ⟨m,rfl,hm⟩:=up1 hn
 have hc:=h m (by omega)
 have lp:=qNG (R:=Unit) (B:=qDK m) (s:=s) (fun i hi=>by
  have g:=hc i hi
  have w1:IntKind.i64.wrap (i+1)=i+1:=qT (by omega)
  simp only [qDK,qC,qE,qH,qJ,qK,qM,Option.bind_some,qF,qG,qN,g,w1]
  rw [if_pos (decide_eq_true hi.2)]
  by_cases e:(qEF i).toList=s.toList<;>simp [e]) (by simp [qDK,qC,qE,qH,qJ,qK,qM,Option.bind_some,qF,qG,qN]) 52 1 m (by decide) (by decide) (by omega)
 simp only [qFm,qHt,qC,qE,qH,qJ,qK,qM,Option.bind_some,qF,qG,qN,lp]
 show _=some (rcK s 52 1)
 by_cases e:rcK s 52 1=0
 ·rw [if_pos e,e];rfl
 ·rw [if_neg e];rfl
theorem qCP (b:ByteArray):b.size=b.toList.length:=(qAa b).symm
theorem qTj (b:ByteArray) (k:Nat):(b.extract 0 k).toList=b.toList.take k:=by
 rw [Go.Lib.toList_data,ByteArray.data_extract,Array.toList_extract,Go.Lib.toList_data]
 show (b.data.toList.drop 0).take (k-0)=_
 simp
theorem qGf (b:ByteArray) (k:Nat):(b.extract k b.size).toList=b.toList.drop k:=by
 rw [Go.Lib.toList_data,ByteArray.data_extract,Array.toList_extract,Go.Lib.toList_data]
 have hl:b.data.toList.length=b.size:=by rw [←qDe]
 show (b.data.toList.drop k).take (b.size-k)=_
 rw [List.take_of_length_le (by rw [List.length_drop,hl];exact Nat.le_refl _)]
theorem qNv (l:List UInt8):l.take (qR l).length=qR l:=by
 have h:=List.takeWhile_append_dropWhile (p:=qJa) (l:=l)
 have h2:(List.takeWhile qJa l++List.dropWhile qJa l).take (List.takeWhile qJa l).length=List.takeWhile qJa l:=List.take_left ..
 rw [h] at h2
 exact h2
theorem qJ5 (l:List UInt8):l.drop (qR l).length=ql l:=by
 have h:=List.takeWhile_append_dropWhile (p:=qJa) (l:=l)
 have h2:(List.takeWhile qJa l++List.dropWhile qJa l).drop (List.takeWhile qJa l).length=List.dropWhile qJa l:=List.drop_left ..
 rw [h] at h2
 exact h2
theorem qPU (l:List UInt8):(qR l).length≤l.length:=by
 have h:=congrArg List.length (List.takeWhile_append_dropWhile (p:=qJa) (l:=l))
 rw [List.length_append] at h
 unfold qR
 omega
theorem qNw (n:Nat) (b:ByteArray) (fc:Bool) (hb:b.size≤1048576):∀(r pre:List UInt8) (M:Nat),b.toList=pre++r→r.length+1≤M→
  zC (qAV n) M (b,(pre.length:Int),0,0,false,false,0,0,fc,false)=some (b,((pre.length+(qR r).length:Nat):Int),0,0,false,false,0,0,fc,false)
 |r,pre,0,h1,h2=>by omega
 | [],pre,M+1,h1,h2=>by
  have hi:¬(pre.length:Int)<b.size:=by rw [qCP,h1];simp
  rw [qP (r:=(b,(pre.length:Int),0,0,false,false,0,0,fc,false)) (by simp [qAV,qC,qE,qH,qJ,qK,qM,Option.bind_some,qF,qG,qN,hi])]
  simp [qR]
 |c::r,pre,M+1,h1,h2=>by
  have hl:b.size=pre.length+(r.length+1):=by rw [qCP,h1];simp
  have hi:(pre.length:Int)<b.size:=by omega
  have hg:b.toList[pre.length]?=some c:=by rw [h1];simp
  have w1:IntKind.i64.wrap ((pre.length:Int)+1)=(pre.length:Int)+1:=qT (by omega)
  by_cases hc:qJa c=true
  ·have hc':65≤c.toNat∧c.toNat≤90:=by simpa [qJa] using hc
   have c1:(c.toNat:Int)≥65:=by omega
   have c2:(c.toNat:Int)≤90:=by omega
   have e0:((pre++ [c]).length:Int)=(pre.length:Int)+1:=by simp
   rw [qQ (v':=(b,((pre++ [c]).length:Int),0,0,false,false,0,0,fc,false)) (by
    rw [e0]
    simp [qAV,qC,qE,qH,qJ,qK,qM,Option.bind_some,qF,qG,qN,hi,hg,c1,c2,w1])]
   rw [qNw n b fc hb r (pre++ [c]) M (by rw [h1];simp) (by simp at h2;omega)]
   simp [qR,hc]
   omega
  ·rw [qP (r:=(b,(pre.length:Int),0,0,false,false,0,0,fc,false)) (by
    by_cases c1:(c.toNat:Int)≥65
    ·have c2:¬(c.toNat:Int)≤90:=fun h=>hc (by simp [qJa];omega)
     simp [qAV,qC,qE,qH,qJ,qK,qM,Option.bind_some,qF,qG,qN,hi,hg,c1,c2]
    ·simp [qAV,qC,qE,qH,qJ,qK,qM,Option.bind_some,qF,qG,qN,hi,hg,c1])]
   simp [qR,hc]
theorem qNx (s:ByteArray) (hb:s.size≤1048576):Ev (qAy · s) (qBG s):=by
 have main:∀(b:ByteArray) (fc:Bool),b.size≤1048576→b.toList=qY s.toList→fc=(s.toList.head?==some 36)→
   ∃n0,∀m,n0≤m→zC (qAV m) m (b,0,0,0,false,false,0,0,fc,false)=some (b,((qR (qY s.toList)).length:Int),0,0,false,false,0,0,fc,false)∧
    qCv m (b.extract 0 (qR (qY s.toList)).length)=some (qGH ⟨(qR (qY s.toList)).toArray⟩)∧
    qz m (b.extract (qR (qY s.toList)).length b.size) 2=some (l1I (ql (qY s.toList)) 2)∧
    qz m ((b.extract (qR (qY s.toList)).length b.size).extract 1 (b.extract (qR (qY s.toList)).length b.size).size) 2=some (l1I (ql (qY s.toList)).tail 2):=fun b fc hb hl _=>by
  have x1:b.extract 0 (qR (qY s.toList)).length=⟨(qR (qY s.toList)).toArray⟩:=qFt (by rw [qTj,hl,qNv,qCU (qR (qY s.toList))])
  have x2:(b.extract (qR (qY s.toList)).length b.size).toList=ql (qY s.toList):=by rw [qGf,hl,qJ5]
  have x3:((b.extract (qR (qY s.toList)).length b.size).extract 1 (b.extract (qR (qY s.toList)).length b.size).size).toList=(ql (qY s.toList)).tail:=by rw [qGf,x2,List.drop_one]
  obtain ⟨n1,h1⟩:=qQJ (b.extract 0 (qR (qY s.toList)).length)
  obtain ⟨n2,h2⟩:=qE8 (b.extract (qR (qY s.toList)).length b.size) 2 (by decide)
  obtain ⟨n3,h3⟩:=qE8 ((b.extract (qR (qY s.toList)).length b.size).extract 1 (b.extract (qR (qY s.toList)).length b.size).size) 2 (by decide)
  rw [x1] at h1
  rw [x2] at h2
  rw [x3] at h3
  refine ⟨n1+n2+n3+b.size+2,fun m hm=>⟨?_,by rw [x1];exact h1 m (by omega),h2 m (by omega),h3 m (by omega)⟩⟩
  have:=qNw m b fc hb b.toList [] m rfl (by rw [←qCP];omega)
  simp only [List.length_nil,Int.natCast_zero,Nat.zero_add] at this
  rw [this,hl]
 have z:∀(b:ByteArray),b.toList=qY s.toList→((qR (qY s.toList)).length:Int)≤b.size:=fun b hl=>by
  have:=qPU (qY s.toList)
  rw [←hl] at this⊢
  rw [qCP]
  omega
 have k36:∀c:UInt8,((c.toNat:Int)==36)=(some c==some 36):=fun c=>by
  have h:=qV3 c 36 (by decide)
  have u:UInt8.ofNat 36=36:=rfl
  rw [u] at h
  exact h
 unfold qBG
 have part:∀(b:ByteArray) (fc:Bool),b.size≤1048576→b.toList=qY s.toList→fc=(s.toList.head?==some 36)→
   ((fc=true∧b=s.extract 1 s.size∧∃c r,s.toList=c::r∧c=36)∨(fc=false∧b=s∧∀c r,s.toList=c::r→(some c==some (36:UInt8))=false))→
   Ev (qAy · s) (if (l1I (qY (ql (qY s.toList))) 2).2=true∧qBY (qGH ⟨(qR (qY s.toList)).toArray⟩) (l1I (qY (ql (qY s.toList))) 2).1=true then
    (qGH ⟨(qR (qY s.toList)).toArray⟩,(l1I (qY (ql (qY s.toList))) 2).1,s.toList.head?==some 36,(ql (qY s.toList)).head?==some 36,true) else (0,0,false,false,false)):=fun b fc hb2 hl hfc hcase=>by
  obtain ⟨n0,hm0⟩:=main b fc hb2 hl hfc
  have hz:=z b hl
  obtain ⟨n2,h2⟩:=qDa (qGH ⟨(qR (qY s.toList)).toArray⟩) (l1I (qY (ql (qY s.toList))) 2).1
  have x2:(b.extract (qR (qY s.toList)).length b.size).toList=ql (qY s.toList):=by rw [qGf,hl,qJ5]
  rw [←hfc]
  refine ⟨n0+n2+1,fun n hn=>?_⟩
  obtain ⟨m,rfl,hm⟩:=up1 hn
  obtain ⟨g1,g2,g3,g4⟩:=hm0 m (by omega)
  have h2:=h2 m (by omega)
  dsimp only at h2
  have e1:(1:Int).toNat=1:=rfl
  have e0:(0:Int).toNat=0:=rfl
  have start:∀q,(qCq m s).run=q→qAy (m+1) s=q:=fun q h=>h
  apply start
  rcases hcase with ⟨rfl,rfl,c,r,hcr,rfl⟩|⟨rfl,rfl,hno⟩
  ·have hsz:(s.size:Int)>0:=by rw [qCP,hcr];simp<;>omega
   have hs1:(1:Int)≤s.size:=by omega
   have hg:s.toList[0]?=some 36:=by rw [hcr];rfl
   have bs:(s.extract 1 s.size).size=s.size-1:=by rw [qCP,qGf,List.length_drop,←qCP]
   have zn:(qR (qY s.toList)).length≤s.size-1:=by rw [←bs];omega
   have sn:0<s.size:=by omega
   have c36:((((36:UInt8)).toNat:Int)==36)=true:=rfl
   simp only [qCq,qC,qE,qH,qJ,qK,qM,Option.bind_some,qF,qG,qN,Int.toNat_natCast,e0,e1,hg,c36,g1,g2]
   cases hq:ql (qY s.toList) with
   |nil=>
    have y0:((s.extract 1 s.size).extract (qR (qY s.toList)).length (s.extract 1 s.size).size).size=0:=by rw [qCP,x2,hq];rfl
    have hoff:qY (ql (qY s.toList))= []:=by rw [hq];rfl
    rw [hoff] at h2
    rw [hq] at g3
    simp only [y0,g3,h2,qC,qE,qH,qJ,qK,qM,Option.bind_some,qF,qG,qN]
    have hoff':qY ([]:List UInt8)= []:=rfl
    rw [hoff']
    generalize l1I ([]:List UInt8) 2=q at*
    obtain ⟨x,ok⟩:=q
    cases ok<;>cases hk:qBY (qGH ⟨(qR (qY s.toList)).toArray⟩) x<;>simp [hz,hsz,hs1,zn,sn]
   |cons d w=>
    have y0:(((s.extract 1 s.size).extract (qR (qY s.toList)).length (s.extract 1 s.size).size).size:Int)>0:=by rw [qCP,x2,hq];simp<;>omega
    have y1:(1:Int)≤((s.extract 1 s.size).extract (qR (qY s.toList)).length (s.extract 1 s.size).size).size:=by omega
    have ys:((s.extract 1 s.size).extract (qR (qY s.toList)).length (s.extract 1 s.size).size).size=(s.extract 1 s.size).size-(qR (qY s.toList)).length:=by rw [qCP,qGf,List.length_drop,←qCP]
    have yn:(qR (qY s.toList)).length<(s.size-1):=by rw [←bs];omega
    have yn2:1≤(s.size-1)-(qR (qY s.toList)).length:=by omega
    have yn3:0<(s.size-1)-(qR (qY s.toList)).length:=by omega
    have yn4:(1:Int)≤(((s.size-1)-(qR (qY s.toList)).length:Nat):Int):=by omega
    have yg:((s.extract 1 s.size).extract (qR (qY s.toList)).length (s.extract 1 s.size).size).toList[0]?=some d:=by rw [x2,hq];rfl
    rw [hq] at g3 g4 h2
    simp only [yg,k36 d,qC,qE,qH,qJ,qK,qM,Option.bind_some,qF,qG,qN]
    by_cases hd:d=36
    ·have hoff:qY (d::w)=w:=by unfold qY;rw [if_pos (by rw [hd];rfl)];rfl
     rw [hoff] at h2⊢
     have e36:(some d==some (36:UInt8))=true:=by rw [hd];rfl
     simp only [List.tail_cons] at g4
     simp only [e36,g4,h2,List.head?_cons,qC,qE,qH,qJ,qK,qM,Option.bind_some,qF,qG,qN]
     generalize l1I w 2=q at*
     obtain ⟨x,ok⟩:=q
     cases ok<;>cases hk:qBY (qGH ⟨(qR (qY s.toList)).toArray⟩) x<;>simp [hz,hsz,hs1,y0,y1,zn,sn,yn,yn2,yn3,yn4]
    ·have hoff:qY (d::w)=d::w:=by unfold qY;rw [if_neg (by simpa using hd)]
     rw [hoff] at h2⊢
     have e36:(some d==some (36:UInt8))=false:=by simpa using hd
     simp only [e36,g3,h2,List.head?_cons,qC,qE,qH,qJ,qK,qM,Option.bind_some,qF,qG,qN]
     generalize l1I (d::w) 2=q at*
     obtain ⟨x,ok⟩:=q
     cases ok<;>cases hk:qBY (qGH ⟨(qR (qY s.toList)).toArray⟩) x<;>simp [hz,hsz,hs1,y0,y1,zn,sn,yn,yn2,yn3,yn4]
  ·by_cases hs0:(b.size:Int)>0
   ·obtain ⟨c,r,hcr⟩:∃c r,b.toList=c::r:=by
     cases hq:b.toList with
     |nil=>rw [qCP,hq] at hs0;simp at hs0
     |cons a l=>exact ⟨a,l,rfl⟩
    have hg:b.toList[0]?=some c:=by rw [hcr];rfl
    have hc:=hno c r hcr
    have hsz:(b.size:Int)>0:=hs0
    have hs1:(1:Int)≤b.size:=by omega
    have zn:(qR (qY b.toList)).length≤b.size:=by omega
    have sn:0<b.size:=by omega
    simp only [qCq,qC,qE,qH,qJ,qK,qM,Option.bind_some,qF,qG,qN,Int.toNat_natCast,e0,e1,hg,k36 c,hc,g1,g2]
    cases hq:ql (qY b.toList) with
    |nil=>
     have y0:(b.extract (qR (qY b.toList)).length b.size).size=0:=by rw [qCP,x2,hq];rfl
     have hoff:qY (ql (qY b.toList))= []:=by rw [hq];rfl
     rw [hoff] at h2
     rw [hq] at g3
     simp only [y0,g3,h2,qC,qE,qH,qJ,qK,qM,Option.bind_some,qF,qG,qN]
     have hoff':qY ([]:List UInt8)= []:=rfl
     rw [hoff']
     generalize l1I ([]:List UInt8) 2=q at*
     obtain ⟨x,ok⟩:=q
     cases ok<;>cases hk:qBY (qGH ⟨(qR (qY b.toList)).toArray⟩) x<;>simp [hz,hsz,hs1,zn,sn]
    |cons d w=>
     have y0:((b.extract (qR (qY b.toList)).length b.size).size:Int)>0:=by rw [qCP,x2,hq];simp<;>omega
     have y1:(1:Int)≤(b.extract (qR (qY b.toList)).length b.size).size:=by omega
     have ys:(b.extract (qR (qY b.toList)).length b.size).size=b.size-(qR (qY b.toList)).length:=by rw [qCP,qGf,List.length_drop,←qCP]
     have yn:(qR (qY b.toList)).length<b.size:=by omega
     have yn2:1≤b.size-(qR (qY b.toList)).length:=by omega
     have yn3:0<b.size-(qR (qY b.toList)).length:=by omega
     have yn4:(1:Int)≤((b.size-(qR (qY b.toList)).length:Nat):Int):=by omega
     have yg:(b.extract (qR (qY b.toList)).length b.size).toList[0]?=some d:=by rw [x2,hq];rfl
     rw [hq] at g3 g4 h2
     simp only [yg,k36 d,qC,qE,qH,qJ,qK,qM,Option.bind_some,qF,qG,qN]
     by_cases hd:d=36
     ·have hoff:qY (d::w)=w:=by unfold qY;rw [if_pos (by rw [hd];rfl)];rfl
      rw [hoff] at h2⊢
      have e36:(some d==some (36:UInt8))=true:=by rw [hd];rfl
      simp only [List.tail_cons] at g4
      simp only [e36,g4,h2,List.head?_cons,qC,qE,qH,qJ,qK,qM,Option.bind_some,qF,qG,qN]
      generalize l1I w 2=q at*
      obtain ⟨x,ok⟩:=q
      cases ok<;>cases hk:qBY (qGH ⟨(qR (qY b.toList)).toArray⟩) x<;>simp [hz,hsz,hs1,y0,y1,zn,sn,yn,yn2,yn3,yn4]
     ·have hoff:qY (d::w)=d::w:=by unfold qY;rw [if_neg (by simpa using hd)]
      rw [hoff] at h2⊢
      have e36:(some d==some (36:UInt8))=false:=by simpa using hd
      simp only [e36,g3,h2,List.head?_cons,qC,qE,qH,qJ,qK,qM,Option.bind_some,qF,qG,qN]
      generalize l1I (d::w) 2=q at*
      obtain ⟨x,ok⟩:=q
      cases ok<;>cases hk:qBY (qGH ⟨(qR (qY b.toList)).toArray⟩) x<;>simp [hz,hsz,hs1,y0,y1,zn,sn,yn,yn2,yn3,yn4]
   ·have hsz:¬(b.size:Int)>0:=hs0
    have hs1:True:=trivial
    have zn:(qR (qY b.toList)).length≤b.size:=by omega
    have sn:b.size=0:=by omega
    have lb:b.toList= []:=List.eq_nil_of_length_eq_zero (by rw [←qCP];omega)
    have hb0:ql (qY b.toList)= []:=by rw [lb];rfl
    have ln:qR (qY b.toList)= []:=by rw [lb];rfl
    simp only [qCq,qC,qE,qH,qJ,qK,qM,Option.bind_some,qF,qG,qN,Int.toNat_natCast,e0,e1,g1,g2]
    cases hq:ql (qY b.toList) with
    |nil=>
     have y0:(b.extract (qR (qY b.toList)).length b.size).size=0:=by rw [qCP,x2,hq];rfl
     have hoff:qY (ql (qY b.toList))= []:=by rw [hq];rfl
     rw [hoff] at h2
     rw [hq] at g3
     simp only [y0,g3,h2,qC,qE,qH,qJ,qK,qM,Option.bind_some,qF,qG,qN]
     have hoff':qY ([]:List UInt8)= []:=rfl
     rw [hoff']
     generalize l1I ([]:List UInt8) 2=q at*
     obtain ⟨x,ok⟩:=q
     cases ok<;>cases hk:qBY (qGH ⟨(qR (qY b.toList)).toArray⟩) x<;>simp [hz,hsz,hs1,zn,sn,ln]
    |cons d w=>rw [hb0] at hq;cases hq
 by_cases h36:s.toList.head?=some 36
 ·have ho:qY s.toList=s.toList.tail:=by unfold qY;rw [if_pos h36]
  have ht:(s.extract 1 s.size).toList=s.toList.tail:=by rw [qGf,List.drop_one]
  obtain ⟨c,r,hcr⟩:∃c r,s.toList=c::r:=by
   cases hq:s.toList with
   |nil=>rw [hq] at h36;cases h36
   |cons a l=>exact ⟨a,l,rfl⟩
  refine part (s.extract 1 s.size) true (by rw [qCP,ht,List.length_tail,←qCP];omega) (by rw [ht,ho]) (by rw [h36];rfl) (.inl ⟨rfl,rfl,c,r,hcr,?_⟩)
  rw [hcr] at h36
  simpa using h36
 ·have ho:qY s.toList=s.toList:=by unfold qY;rw [if_neg h36]
  refine part s false hb ho.symm (by symm;simpa using h36) (.inr ⟨rfl,rfl,fun c r hcr=>?_⟩)
  rw [hcr] at h36
  simpa using h36
def upS:ByteArray:=⟨#[65,66,67,68,69,70,71,72,73,74,75,76,77,78,79,80,81,82,83,84,85,86,87,88,89,90]⟩
theorem qWd:∀i:Fin 256,(upS.data.toList.contains (UInt8.ofNat i.val))=(decide (65≤i.val)&&decide (i.val≤90)):=by decide+kernel
theorem qW9 (c:UInt8):(upS.data.toList.contains c)=qJa c:=by
 have h:=qWd ⟨c.toNat,UInt8.toNat_lt c⟩
 have e:UInt8.ofNat c.toNat=c:=by simp
 simp only [e] at h
 exact h
theorem qVV:(upS.data.toList.all fun b=>decide (b.toNat<128))=true:=by decide+kernel
theorem qTk (s:ByteArray):Ev (qBb · s ⟨#[65,66,67,68,69,70,71,72,73,74,75,76,77,78,79,80,81,82,83,84,85,86,87,88,89,90]⟩) ⟨(ql s.toList).toArray⟩:=by
 refine ⟨1,fun n hn=>?_⟩
 obtain ⟨m,rfl,hm⟩:=up1 hn
 show zR s upS=_
 unfold zR
 rw [if_pos ⟨by decide,qVV⟩]
 unfold Lib.trimLeftS ql
 rw [Go.Lib.toList_data]
 have:(fun c=>upS.data.toList.contains c)=qJa:=funext qW9
 rw [this]
theorem qTl (s:ByteArray):Ev (q7 · s ⟨#[36]⟩) (⟨(qY s.toList).toArray⟩,s.toList.head?==some 36):=by
 have h:=qFw s 36
 have es:(⟨s.toList.toArray⟩:ByteArray)=s:=qFt (qCU s.toList)
 by_cases e:s.toList.head?=some 36
 ·rw [if_pos e] at h
  have:(s.toList.head?==some 36)=true:=by simpa using e
  unfold qY
  rw [if_pos e,this]
  exact h
 ·rw [if_neg e] at h
  have:(s.toList.head?==some 36)=false:=by simpa using e
  unfold qY
  rw [if_neg e,this,es]
  exact h
theorem qV5 {r:Int} (h:1≤r∧r≤99):l1I (Lib.itoa r) 2=(r,true):=by
 have e:Lib.itoa r=Lib.decDigits r.toNat:=by unfold Lib.itoa;rw [if_neg (by omega)]
 obtain ⟨h1,h2,h3,_,_⟩:=qJZ r.toNat
 have hl:(Lib.decDigits r.toNat).length≤2:=by
  rw [Lib.decDigits_length]
  exact qWW 2 r.toNat (by omega) (by
   have:(10:Nat)^2=100:=by decide
   omega)
 rw [e]
 unfold l1I
 rw [if_pos ⟨by omega,qSb _⟩,h2]
 congr 1
 omega
theorem qXA {l:List UInt8} (h:(l1I l 2).2=true):(l1I l 2).1=(qAp 0 l:Int)∧Lib.decDigits (qAp 0 l)=l:=by
 unfold l1I at h⊢
 split at h
 ·rename_i hc
  rw [if_pos hc]
  exact ⟨rfl,qO3 _ l rfl hc.2⟩
 ·cases h
theorem qVW (s:ByteArray):qBG s=if qBY (qGH ⟨(qR (qY s.toList)).toArray⟩) (qCE ⟨(qY (ql (qY s.toList))).toArray⟩)=true∧
  (qCm (qGH ⟨(qR (qY s.toList)).toArray⟩) (qCE ⟨(qY (ql (qY s.toList))).toArray⟩) (s.toList.head?==some 36) ((ql (qY s.toList)).head?==some 36)).toList=s.toList then
   (qGH ⟨(qR (qY s.toList)).toArray⟩,qCE ⟨(qY (ql (qY s.toList))).toArray⟩,s.toList.head?==some 36,(ql (qY s.toList)).head?==some 36,true) else (0,0,false,false,false):=by
 have hoff:∀l:List UInt8,l=(if (l.head?==some 36)=true then [36] else [])++qY l:=fun l=>by
  unfold qY
  cases l with
  |nil=>rfl
  |cons c r=>
   by_cases e:c=36
   ·subst e;simp
   ·simp [e]
 have hsplit:qY s.toList=qR (qY s.toList)++ql (qY s.toList):=(List.takeWhile_append_dropWhile (p:=qJa) (l:=qY s.toList)).symm
 have hs:s.toList=(if (s.toList.head?==some 36)=true then [36] else [])++qR (qY s.toList)++(if ((ql (qY s.toList)).head?==some 36)=true then [36] else [])++qY (ql (qY s.toList)):=by
  conv=>lhs;rw [hoff s.toList,hsplit,hoff (ql (qY s.toList))]
  simp only [List.append_assoc]
 unfold qBG
 generalize hL:qR (qY s.toList)=L at*
 generalize hR:qY (ql (qY s.toList))=R at*
 generalize (s.toList.head?==some 36)=fc at*
 generalize ((ql (qY s.toList)).head?==some 36)=fr at*
 have col:∀r,qBY (qGH ⟨L.toArray⟩) r=true→(qEF (qGH ⟨L.toArray⟩)).data.toList=L:=fun r h=>by
  have:=qVU (⟨L.toArray⟩:ByteArray) 52 1 (qJY h).1.1
  rw [qCU L,Go.Lib.toList_data] at this
  exact this
 have pl:∀r,qBY (qGH ⟨L.toArray⟩) r=true→(qCm (qGH ⟨L.toArray⟩) r fc fr).toList=(if fc=true then [36] else [])++L++(if fr=true then [36] else [])++Lib.itoa r:=fun r h=>by
  rw [Go.Lib.toList_data]
  unfold qCm
  rw [if_pos h,col r h]
  simp [qIH]
 have tR:(⟨R.toArray⟩:ByteArray).toList=R:=qCU R
 by_cases hA:(l1I R 2).2=true∧qBY (qGH ⟨L.toArray⟩) (l1I R 2).1=true
 ·obtain ⟨a1,a2⟩:=qXA hA.1
  have hr:=(qJY hA.2).2
  have hi:R=Lib.itoa (l1I R 2).1:=by
   rw [a1]
   unfold Lib.itoa
   rw [if_neg (by omega),Int.toNat_natCast,a2]
  have hp:qCE ⟨R.toArray⟩=(l1I R 2).1:=qPR (by rw [tR];exact hi) (by omega)
  rw [if_pos hA,hp,if_pos ⟨hA.2,by rw [pl _ hA.2,←hi];exact hs.symm⟩]
 ·rw [if_neg hA,if_neg]
  rintro ⟨h1,h2⟩
  rw [pl _ h1] at h2
  have h3:R=Lib.itoa (qCE ⟨R.toArray⟩):=by
   rw [hs] at h2
   exact (List.append_cancel_left h2).symm
  have h4:=qV5 (qJY h1).2
  rw [←h3] at h4
  exact hA (by rw [h4];exact ⟨rfl,h1⟩)
theorem qNy (s:ByteArray) (hb:s.size≤1048576):Ev (qAr · s) (qBG s):=by
 rw [qVW]
 have hlen:=qPU (qY s.toList)
 have lo:(qY s.toList).length≤s.size:=by
  unfold qY
  rw [qCP]
  split
  ·rw [List.length_tail];omega
  ·exact Nat.le_refl _
 have l2:(ql (qY s.toList)).length+(qR (qY s.toList)).length=(qY s.toList).length:=by
  have h:=congrArg List.length (List.takeWhile_append_dropWhile (p:=qJa) (l:=qY s.toList))
  rw [List.length_append] at h
  unfold ql qR
  omega
 have z1:(⟨(qY s.toList).toArray⟩:ByteArray).size=(qY s.toList).length:=by rw [qCP,qCU (qY s.toList)]
 have z2:(⟨(ql (qY s.toList)).toArray⟩:ByteArray).size=(ql (qY s.toList)).length:=by rw [qCP,qCU (ql (qY s.toList))]
 have w1:IntKind.i64.wrap (((qY s.toList).length:Int)-(ql (qY s.toList)).length)=((qR (qY s.toList)).length:Int):=by rw [qT (by omega)];omega
 have x1:(⟨(qY s.toList).toArray⟩:ByteArray).extract 0 (qR (qY s.toList)).length=⟨(qR (qY s.toList)).toArray⟩:=qFt (by rw [qTj,qCU (qY s.toList),qNv,qCU (qR (qY s.toList))])
 have x2:(⟨(qY s.toList).toArray⟩:ByteArray).extract (qR (qY s.toList)).length (qY s.toList).length=⟨(ql (qY s.toList)).toArray⟩:=qFt (by rw [←z1,qGf,qCU (qY s.toList),qJ5,qCU (ql (qY s.toList))])
 have lr:(⟨(qY (ql (qY s.toList))).toArray⟩:ByteArray).size≤281474976710656:=by
  rw [qCP,qCU (qY (ql (qY s.toList)))]
  have:(qY (ql (qY s.toList))).length≤(ql (qY s.toList)).length:=by
   generalize ql (qY s.toList)=q
   unfold qY
   split
   ·rw [List.length_tail];omega
   ·exact Nat.le_refl _
  omega
 obtain ⟨n1,h1⟩:=qTl s
 obtain ⟨n2,h2⟩:=qTk ⟨(qY s.toList).toArray⟩
 rw [qCU (qY s.toList)] at h2
 obtain ⟨n3,h3⟩:=qQK ⟨(qR (qY s.toList)).toArray⟩
 obtain ⟨n4,h4⟩:=qTl ⟨(ql (qY s.toList)).toArray⟩
 rw [qCU (ql (qY s.toList))] at h4
 generalize qY s.toList=A at*
 generalize ql A=Bq at*
 generalize qR A=L at*
 generalize qY Bq=R at*
 generalize (s.toList.head?==some 36)=fc at*
 generalize (Bq.head?==some 36)=fr at*
 obtain ⟨n5,h5⟩:=qEJ (qGH ⟨L.toArray⟩) (qCE ⟨R.toArray⟩)
 obtain ⟨n6,h6⟩:=qEQ (qGH ⟨L.toArray⟩) (qCE ⟨R.toArray⟩) fc fr
 have e0:(0:Int).toNat=0:=rfl
 have c1:L.length≤A.length:=by omega
 rcases qPS ⟨R.toArray⟩ lr with ⟨n7,h7⟩|⟨n7,h7⟩
 all_goals
  refine ⟨n1+n2+n3+n4+n5+n6+n7+1,fun n hn=>?_⟩
  obtain ⟨m,rfl,hm⟩:=up1 hn
  have h1:=h1 m (by omega)
  have h2:=h2 m (by omega)
  have h3:=h3 m (by omega)
  have h4:=h4 m (by omega)
  have h5:=h5 m (by omega)
  have h6:=h6 m (by omega)
  have h7:=h7 m (by omega)
  dsimp only at h1 h2 h3 h4 h5 h6 h7
  simp only [qAr,qGE,qC,qE,qH,qJ,qK,qM,Option.bind_some,qF,qG,qN,h1,h2,z1,z2,w1,Int.toNat_natCast,e0,x1,x2,h3,h4,h5,h6,h7]
  cases hk:qBY (qGH ⟨L.toArray⟩) (qCE ⟨R.toArray⟩) with
  |false=>simp [c1]
  |true=>by_cases e:(qCm (qGH ⟨L.toArray⟩) (qCE ⟨R.toArray⟩) fc fr).toList=s.toList<;>simp [c1,e]
theorem qLa (c r:Int) (fc fr:Bool):(qCm c r fc fr).size≤30:=by
 unfold qCm
 split
 ·rename_i h
  have h1:=qO2 c
  have h2:=qNE (qJY h).2
  rw [qDe]
  cases fc<;>cases fr<;>simp<;>omega
 ·decide
abbrev Nd:=Int×Int×Int×Int×ByteArray×Int×Int×Bool×Bool×Int×Int×Bool×Bool×List Int
def qA8 (x:Int):List PV:= [.i .i64 x]
def qW (c:Nd):List PV:= [.i .i64 c.1,.i .i64 c.2.1,.i .i64 c.2.2.1,.i .i64 c.2.2.2.1,.s c.2.2.2.2.1,.i .i64 c.2.2.2.2.2.1,.i .i64 c.2.2.2.2.2.2.1,.b c.2.2.2.2.2.2.2.1,.b c.2.2.2.2.2.2.2.2.1,.i .i64 c.2.2.2.2.2.2.2.2.2.1,.i .i64 c.2.2.2.2.2.2.2.2.2.2.1,.b c.2.2.2.2.2.2.2.2.2.2.2.1,.b c.2.2.2.2.2.2.2.2.2.2.2.2.1,.ls ((c.2.2.2.2.2.2.2.2.2.2.2.2.2).map qA8)]
def kd (c:Nd):List Int:=c.2.2.2.2.2.2.2.2.2.2.2.2.2
def qJb (op n:Int):Bool:=if op=5 then decide (n=2∨n=3) else if 8≤op∧op≤10 then decide (n=1) else if 1≤op∧op≤7 then decide (1≤n∧n≤10) else false
theorem ten {op:Int} (h:1≤op∧op≤10):op=1∨op=2∨op=3∨op=4∨op=5∨op=6∨op=7∨op=8∨op=9∨op=10:=by omega
theorem qRV (op n:Int):Ev (qGP · op n) (qJb op n):=by
 refine ⟨1,fun n hn=>?_⟩
 obtain ⟨m,rfl,hm⟩:=up1 hn
 simp only [qGP,qIj,qC,qE,qH,qJ,qK,qM,Option.bind_some,qF,qG,qN]
 by_cases h:1≤op∧op≤10
 ·rcases ten h with rfl|rfl|rfl|rfl|rfl|rfl|rfl|rfl|rfl|rfl
  all_goals
   first
   |(by_cases h2:n=2<;>simp [qJb,h2];done)
   |(by_cases h1:n≥1<;>simp [qJb,h1];done)
   |(by_cases h1:n=1<;>simp [qJb,h1];done)
   |(by_cases h2:n=2<;>by_cases h3:n=3<;>simp [qJb,h2,h3];done)
   |(simp [qJb];done)
 ·have e1:¬op=1:=by omega
  have e2:¬op=2:=by omega
  have e3:¬op=3:=by omega
  have e4:¬op=4:=by omega
  have e5:¬op=5:=by omega
  have e6:¬op=6:=by omega
  have e7:¬op=7:=by omega
  have e8:¬op=8:=by omega
  have e9:¬op=9:=by omega
  have e10:¬op=10:=by omega
  have g1:¬(8≤op∧op≤10):=by omega
  have g2:¬(1≤op∧op≤7):=by omega
  simp [qJb,e1,e2,e3,e4,e5,e6,e7,e8,e9,e10,g1,g2]
def zV (k x:Int) (s:ByteArray):Bool:=decide (k=0)&&(decide (x=0)&&(s.toList== []))
def zP (a b:Int) (f g:Bool):Bool:=decide (a=0)&&(decide (b=0)&&(!f&&!g))
def qF3 (c:Nd):Bool:=
 if c.1=1 then decide (c.2.1=0)&&(zP c.2.2.2.2.2.1 c.2.2.2.2.2.2.1 c.2.2.2.2.2.2.2.1 c.2.2.2.2.2.2.2.2.1&&(zP c.2.2.2.2.2.2.2.2.2.1 c.2.2.2.2.2.2.2.2.2.2.1 c.2.2.2.2.2.2.2.2.2.2.2.1 c.2.2.2.2.2.2.2.2.2.2.2.2.1&&(decide ((kd c).length=0)&&(okV c.2.2.1 c.2.2.2.1 c.2.2.2.2.1&&(!decide (c.2.2.1=0)&&(!decide (c.2.2.1=1)||decide (c.2.2.2.1≥0))))))) else
 if c.1=2 then decide (c.2.1=0)&&(zV c.2.2.1 c.2.2.2.1 c.2.2.2.2.1&&(zP c.2.2.2.2.2.2.2.2.2.1 c.2.2.2.2.2.2.2.2.2.2.1 c.2.2.2.2.2.2.2.2.2.2.2.1 c.2.2.2.2.2.2.2.2.2.2.2.2.1&&(decide ((kd c).length=0)&&qBY c.2.2.2.2.2.1 c.2.2.2.2.2.2.1))) else
 if c.1=3 then decide (c.2.1=0)&&(zV c.2.2.1 c.2.2.2.1 c.2.2.2.2.1&&(decide ((kd c).length=0)&&qG2 c.2.2.2.2.2.1 c.2.2.2.2.2.2.1 c.2.2.2.2.2.2.2.2.2.1 c.2.2.2.2.2.2.2.2.2.2.1)) else
 if c.1=4 then decide (c.2.1=0)&&(zV c.2.2.1 c.2.2.2.1 c.2.2.2.2.1&&(zP c.2.2.2.2.2.1 c.2.2.2.2.2.2.1 c.2.2.2.2.2.2.2.1 c.2.2.2.2.2.2.2.2.1&&(zP c.2.2.2.2.2.2.2.2.2.1 c.2.2.2.2.2.2.2.2.2.2.1 c.2.2.2.2.2.2.2.2.2.2.2.1 c.2.2.2.2.2.2.2.2.2.2.2.2.1&&decide ((kd c).length=1)))) else
 if c.1=5 then decide (1≤c.2.1∧c.2.1≤11)&&(zV c.2.2.1 c.2.2.2.1 c.2.2.2.2.1&&(zP c.2.2.2.2.2.1 c.2.2.2.2.2.2.1 c.2.2.2.2.2.2.2.1 c.2.2.2.2.2.2.2.2.1&&(zP c.2.2.2.2.2.2.2.2.2.1 c.2.2.2.2.2.2.2.2.2.2.1 c.2.2.2.2.2.2.2.2.2.2.2.1 c.2.2.2.2.2.2.2.2.2.2.2.2.1&&decide ((kd c).length=2)))) else
 if c.1=6 then qJb c.2.1 ((kd c).length:Int)&&(zV c.2.2.1 c.2.2.2.1 c.2.2.2.2.1&&(zP c.2.2.2.2.2.1 c.2.2.2.2.2.2.1 c.2.2.2.2.2.2.2.1 c.2.2.2.2.2.2.2.2.1&&zP c.2.2.2.2.2.2.2.2.2.1 c.2.2.2.2.2.2.2.2.2.2.1 c.2.2.2.2.2.2.2.2.2.2.2.1 c.2.2.2.2.2.2.2.2.2.2.2.2.1)) else false
theorem qXB (k x:Int) (s:ByteArray):((k==(0:Int))&&((x==(0:Int))&&((s.toList==(⟨#[]⟩:ByteArray).toList)&&true)))=zV k x s:=by
 rw [qAP]
 unfold zV
 by_cases h:k=0<;>by_cases h2:x=0<;>simp [h,h2]
theorem qXC (k x:Int) (s:ByteArray):(((0:Int)==k)&&(((0:Int)==x)&&(((⟨#[]⟩:ByteArray).toList==s.toList)&&true)))=zV k x s:=by
 rw [←qXB]
 congr 1
 ·exact Bool.beq_comm
 ·congr 1
  ·exact Bool.beq_comm
  ·congr 1
   exact Bool.beq_comm
theorem qXD (a b:Int) (f g:Bool):((a==(0:Int))&&((b==(0:Int))&&((f==false)&&((g==false)&&true))))=zP a b f g:=by
 unfold zP
 by_cases h:a=0<;>by_cases h2:b=0<;>cases f<;>cases g<;>simp [h,h2]
theorem qXE (a b:Int) (f g:Bool):(((0:Int)==a)&&(((0:Int)==b)&&((false==f)&&((false==g)&&true))))=zP a b f g:=by
 rw [←qXD]
 congr 1
 ·exact Bool.beq_comm
 ·congr 1
  ·exact Bool.beq_comm
  ·cases f<;>cases g<;>rfl
theorem qJc (c:Nd) (hb:c.2.2.2.2.1.size≤140737488351232):Ev (qCV · c.1 c.2.1 c.2.2.1 c.2.2.2.1 c.2.2.2.2.1 c.2.2.2.2.2.1 c.2.2.2.2.2.2.1 c.2.2.2.2.2.2.2.1 c.2.2.2.2.2.2.2.2.1 c.2.2.2.2.2.2.2.2.2.1 c.2.2.2.2.2.2.2.2.2.2.1 c.2.2.2.2.2.2.2.2.2.2.2.1 c.2.2.2.2.2.2.2.2.2.2.2.2.1 ((c.2.2.2.2.2.2.2.2.2.2.2.2.2).map qA8)) (qF3 c):=by
 obtain ⟨n1,h1⟩:=qAI c.2.2.1 c.2.2.2.1 c.2.2.2.2.1 hb
 obtain ⟨n2,h2⟩:=qDa c.2.2.2.2.2.1 c.2.2.2.2.2.2.1
 obtain ⟨n3,h3⟩:=qRP c.2.2.2.2.2.1 c.2.2.2.2.2.2.1 c.2.2.2.2.2.2.2.2.2.1 c.2.2.2.2.2.2.2.2.2.2.1
 obtain ⟨n4,h4⟩:=qDO c.2.1 1 11
 obtain ⟨n5,h5⟩:=qRV c.2.1 (((c.2.2.2.2.2.2.2.2.2.2.2.2.2).map qA8).length:Int)
 refine ⟨n1+n2+n3+n4+n5+1,fun n hn=>?_⟩
 obtain ⟨m,rfl,hm⟩:=up1 hn
 have h1:=h1 m (by omega)
 dsimp only at h1
 have h2:=h2 m (by omega)
 dsimp only at h2
 have h3:=h3 m (by omega)
 dsimp only at h3
 have h4:=h4 m (by omega)
 dsimp only at h4
 have h5:=h5 m (by omega)
 dsimp only at h5
 simp only [qCV,qGl,qC,qE,qH,qJ,qK,qM,Option.bind_some,qF,qG,qN,h1,h2,h3,h4,h5]
 have hk:((c.2.2.2.2.2.2.2.2.2.2.2.2.2).map qA8).length=(kd c).length:=by rw [List.length_map];rfl
 simp only [qXB,qXD,hk]
 unfold qF3
 by_cases k1:c.1=1
 ·simp only [k1,if_true,beq_self_eq_true]
  cases zP c.2.2.2.2.2.1 c.2.2.2.2.2.2.1 c.2.2.2.2.2.2.2.1 c.2.2.2.2.2.2.2.2.1<;>cases zP c.2.2.2.2.2.2.2.2.2.1 c.2.2.2.2.2.2.2.2.2.2.1 c.2.2.2.2.2.2.2.2.2.2.2.1 c.2.2.2.2.2.2.2.2.2.2.2.2.1<;>cases okV c.2.2.1 c.2.2.2.1 c.2.2.2.2.1<;>by_cases h0:c.2.1=0<;>by_cases h1:(kd c).length=0<;>by_cases h2:c.2.2.1=0<;>by_cases h3:c.2.2.1=1<;>simp [h0,h1,h2,h3]
 by_cases k2:c.1=2
 ·simp only [k2]
  cases zV c.2.2.1 c.2.2.2.1 c.2.2.2.2.1<;>cases zP c.2.2.2.2.2.2.2.2.2.1 c.2.2.2.2.2.2.2.2.2.2.1 c.2.2.2.2.2.2.2.2.2.2.2.1 c.2.2.2.2.2.2.2.2.2.2.2.2.1<;>cases qBY c.2.2.2.2.2.1 c.2.2.2.2.2.2.1<;>by_cases h0:c.2.1=0<;>by_cases h1:(kd c).length=0<;>simp [h0,h1]
 by_cases k3:c.1=3
 ·simp only [k3]
  cases zV c.2.2.1 c.2.2.2.1 c.2.2.2.2.1<;>cases qG2 c.2.2.2.2.2.1 c.2.2.2.2.2.2.1 c.2.2.2.2.2.2.2.2.2.1 c.2.2.2.2.2.2.2.2.2.2.1<;>by_cases h0:c.2.1=0<;>by_cases h1:(kd c).length=0<;>simp [h0,h1]
 by_cases k4:c.1=4
 ·simp only [k4]
  cases zV c.2.2.1 c.2.2.2.1 c.2.2.2.2.1<;>cases zP c.2.2.2.2.2.1 c.2.2.2.2.2.2.1 c.2.2.2.2.2.2.2.1 c.2.2.2.2.2.2.2.2.1<;>cases zP c.2.2.2.2.2.2.2.2.2.1 c.2.2.2.2.2.2.2.2.2.2.1 c.2.2.2.2.2.2.2.2.2.2.2.1 c.2.2.2.2.2.2.2.2.2.2.2.2.1<;>by_cases h0:c.2.1=0<;>by_cases h1:(kd c).length=1<;>simp [h0,h1]<;>omega
 by_cases k5:c.1=5
 ·simp only [k5]
  cases zV c.2.2.1 c.2.2.2.1 c.2.2.2.2.1<;>cases zP c.2.2.2.2.2.1 c.2.2.2.2.2.2.1 c.2.2.2.2.2.2.2.1 c.2.2.2.2.2.2.2.2.1<;>cases zP c.2.2.2.2.2.2.2.2.2.1 c.2.2.2.2.2.2.2.2.2.2.1 c.2.2.2.2.2.2.2.2.2.2.2.1 c.2.2.2.2.2.2.2.2.2.2.2.2.1<;>by_cases h0:1≤c.2.1∧c.2.1≤11<;>by_cases h1:(kd c).length=2<;>simp [h0,h1]<;>omega
 by_cases k6:c.1=6
 ·simp only [k6]
  cases zV c.2.2.1 c.2.2.2.1 c.2.2.2.2.1<;>cases zP c.2.2.2.2.2.1 c.2.2.2.2.2.2.1 c.2.2.2.2.2.2.2.1 c.2.2.2.2.2.2.2.2.1<;>cases zP c.2.2.2.2.2.2.2.2.2.1 c.2.2.2.2.2.2.2.2.2.2.1 c.2.2.2.2.2.2.2.2.2.2.2.1 c.2.2.2.2.2.2.2.2.2.2.2.2.1<;>cases qJb c.2.1 ((kd c).length:Int)<;>simp
 simp [k1,k2,k3,k4,k5,k6]
theorem qRW (c:Nd):Ev (qAX · c.1 c.2.1 c.2.2.1 c.2.2.2.1 c.2.2.2.2.1 c.2.2.2.2.2.1 c.2.2.2.2.2.2.1 c.2.2.2.2.2.2.2.1 c.2.2.2.2.2.2.2.2.1 c.2.2.2.2.2.2.2.2.2.1 c.2.2.2.2.2.2.2.2.2.2.1 c.2.2.2.2.2.2.2.2.2.2.2.1 c.2.2.2.2.2.2.2.2.2.2.2.2.1 ((c.2.2.2.2.2.2.2.2.2.2.2.2.2).map qA8)) (if c.1=4 then decide (c.2.1=0)&&decide ((kd c).length=1) else if c.1=5 then decide (1≤c.2.1∧c.2.1≤11)&&decide ((kd c).length=2) else if c.1=6 then qJb c.2.1 ((kd c).length:Int) else decide (c.2.1=0)&&decide ((kd c).length=0)):=by
 obtain ⟨n1,h1⟩:=qAO c.2.1 1 11
 obtain ⟨n2,h2⟩:=qAO c.2.1 1 10
 obtain ⟨n3,h3⟩:=qAO (((c.2.2.2.2.2.2.2.2.2.2.2.2.2).map qA8).length:Int) 2 3
 obtain ⟨n4,h4⟩:=qAO (((c.2.2.2.2.2.2.2.2.2.2.2.2.2).map qA8).length:Int) 1 10
 refine ⟨n1+n2+n3+n4+1,fun n hn=>?_⟩
 obtain ⟨m,rfl,hm⟩:=up1 hn
 have h1:=h1 m (by omega)
 dsimp only at h1
 have h2:=h2 m (by omega)
 dsimp only at h2
 have h3:=h3 m (by omega)
 dsimp only at h3
 have h4:=h4 m (by omega)
 dsimp only at h4
 simp only [qAX,qEy,qC,qE,qH,qJ,qK,qM,Option.bind_some,qF,qG,qN,h1,h2,h3,h4]
 have hk:((c.2.2.2.2.2.2.2.2.2.2.2.2.2).map qA8).length=(kd c).length:=by rw [List.length_map];rfl
 simp only [hk]
 by_cases k4:c.1=4
 ·simp only [k4]
  by_cases h0:c.2.1=0<;>by_cases h1:(kd c).length=1<;>simp [h0,h1]<;>omega
 by_cases k5:c.1=5
 ·simp only [k5]
  by_cases h0:1≤c.2.1∧c.2.1≤11<;>by_cases h1:(kd c).length=2<;>simp [h0,h1]<;>omega
 by_cases k6:c.1=6
 ·simp only [k6]
  unfold qJb
  by_cases h:1≤c.2.1∧c.2.1≤10
  ·by_cases h5:c.2.1=5
   ·have:(2≤((kd c).length:Int)∧((kd c).length:Int)≤3)↔(((kd c).length:Int)=2∨((kd c).length:Int)=3):=by omega
    simp [h5,this]
   ·by_cases h8:c.2.1≥8
    ·have g:8≤c.2.1∧c.2.1≤10:=by omega
     by_cases h1:((kd c).length:Int)=1<;>simp [h,h5,h8,g,h1]
    ·have g:¬(8≤c.2.1∧c.2.1≤10):=by omega
     have g':1≤c.2.1∧c.2.1≤7:=by omega
     simp [h,h5,h8,g,g']
  ·have h5:¬c.2.1=5:=by omega
   have g:¬(8≤c.2.1∧c.2.1≤10):=by omega
   have g':¬(1≤c.2.1∧c.2.1≤7):=by omega
   simp [h,h5,g,g']
 by_cases h0:c.2.1=0<;>by_cases h1:(kd c).length=0<;>simp [k4,k5,k6,h0,h1]<;>omega
theorem qO5 (c:Nd):Ev (qAH · c.1 c.2.1 c.2.2.1 c.2.2.2.1 c.2.2.2.2.1 c.2.2.2.2.2.1 c.2.2.2.2.2.2.1 c.2.2.2.2.2.2.2.1 c.2.2.2.2.2.2.2.2.1 c.2.2.2.2.2.2.2.2.2.1 c.2.2.2.2.2.2.2.2.2.2.1 c.2.2.2.2.2.2.2.2.2.2.2.1 c.2.2.2.2.2.2.2.2.2.2.2.2.1 ((c.2.2.2.2.2.2.2.2.2.2.2.2.2).map qA8)) (if c.1=2 then qG2 c.2.2.2.2.2.1 c.2.2.2.2.2.2.1 c.2.2.2.2.2.1 c.2.2.2.2.2.2.1 else if c.1=3 then qG2 c.2.2.2.2.2.1 c.2.2.2.2.2.2.1 c.2.2.2.2.2.2.2.2.2.1 c.2.2.2.2.2.2.2.2.2.2.1 else true):=by
 have g:Ev (qBQ · c.1 c.2.1 c.2.2.1 c.2.2.2.1 c.2.2.2.2.1 c.2.2.2.2.2.1 c.2.2.2.2.2.2.1 c.2.2.2.2.2.2.2.1 c.2.2.2.2.2.2.2.2.1 c.2.2.2.2.2.2.2.2.2.1 c.2.2.2.2.2.2.2.2.2.2.1 c.2.2.2.2.2.2.2.2.2.2.2.1 c.2.2.2.2.2.2.2.2.2.2.2.2.1 ((c.2.2.2.2.2.2.2.2.2.2.2.2.2).map qA8)) (if c.1=2 then (c.2.2.2.2.2.1,c.2.2.2.2.2.2.1,c.2.2.2.2.2.1,c.2.2.2.2.2.2.1) else (c.2.2.2.2.2.1,c.2.2.2.2.2.2.1,c.2.2.2.2.2.2.2.2.2.1,c.2.2.2.2.2.2.2.2.2.2.1)):=by
  refine ⟨1,fun n hn=>?_⟩
  obtain ⟨m,rfl,hm⟩:=up1 hn
  simp only [qBQ,qEN,qC,qE,qH,qJ,qK,qM,Option.bind_some,qF,qG,qN]
  by_cases k2:c.1=2<;>simp [k2]
 obtain ⟨n1,h1⟩:=g
 obtain ⟨n2,h2⟩:=qLZ c.2.2.2.2.2.1 c.2.2.2.2.2.2.1 c.2.2.2.2.2.1 c.2.2.2.2.2.2.1
 obtain ⟨n3,h3⟩:=qLZ c.2.2.2.2.2.1 c.2.2.2.2.2.2.1 c.2.2.2.2.2.2.2.2.2.1 c.2.2.2.2.2.2.2.2.2.2.1
 refine ⟨n1+n2+n3+1,fun n hn=>?_⟩
 obtain ⟨m,rfl,hm⟩:=up1 hn
 have h1:=h1 m (by omega)
 dsimp only at h1
 have h2:=h2 m (by omega)
 dsimp only at h2
 have h3:=h3 m (by omega)
 dsimp only at h3
 simp only [qAH,qEL,qC,qE,qH,qJ,qK,qM,Option.bind_some,qF,qG,qN,h1,h2,h3]
 by_cases k2:c.1=2
 ·simp [k2,h2]
 ·by_cases k3:c.1=3
  ·simp [k3,h3]
  ·simp [k2,k3]
theorem qVX (a b:Int):qG2 a b a b=qBY a b:=by
 unfold qG2
 cases qBY a b<;>simp
theorem qST (c:Nd) (hb:c.2.2.2.2.1.size≤140737488351232):Ev (qD1 · c.1 c.2.1 c.2.2.1 c.2.2.2.1 c.2.2.2.2.1 c.2.2.2.2.2.1 c.2.2.2.2.2.2.1 c.2.2.2.2.2.2.2.1 c.2.2.2.2.2.2.2.2.1 c.2.2.2.2.2.2.2.2.2.1 c.2.2.2.2.2.2.2.2.2.2.1 c.2.2.2.2.2.2.2.2.2.2.2.1 c.2.2.2.2.2.2.2.2.2.2.2.2.1 ((c.2.2.2.2.2.2.2.2.2.2.2.2.2).map qA8)) (qF3 c):=by
 obtain ⟨n1,g1⟩:=qG1 c.2.2.1 c.2.2.2.1 c.2.2.2.2.1 hb
 obtain ⟨n2,g2⟩:=qO5 c
 obtain ⟨n3,g3⟩:=qRW c
 refine ⟨n1+n2+n3+1,fun n hn=>?_⟩
 obtain ⟨m,rfl,hm⟩:=up1 hn
 have g1:=g1 m (by omega)
 have g2:=g2 m (by omega)
 have g3:=g3 m (by omega)
 dsimp only at g1 g2 g3
 rw [qVX] at g2
 simp only [qD1,qFI,qC,qE,qH,qJ,qK,qM,Option.bind_some,qF,qG,qN,g1,g2,g3,qXC,qXE]
 simp only [beq_self_eq_true,Bool.and_true,Bool.true_and]
 unfold qF3
 by_cases k1:c.1=1
 ·have h5:(c.2.2.2.1≥0)=¬(c.2.2.2.1<0):=propext Int.not_lt.symm
  simp only [k1,h5]
  cases zP c.2.2.2.2.2.1 c.2.2.2.2.2.2.1 c.2.2.2.2.2.2.2.1 c.2.2.2.2.2.2.2.2.1<;>cases zP c.2.2.2.2.2.2.2.2.2.1 c.2.2.2.2.2.2.2.2.2.2.1 c.2.2.2.2.2.2.2.2.2.2.2.1 c.2.2.2.2.2.2.2.2.2.2.2.2.1<;>cases okV c.2.2.1 c.2.2.2.1 c.2.2.2.2.1<;>by_cases h0:c.2.1=0<;>by_cases h1:(kd c).length=0<;>by_cases h2:c.2.2.1=0<;>by_cases h3:c.2.2.1=1<;>by_cases h4:c.2.2.2.1<0<;>simp [h0,h1,h2,h3,h4]<;>(try omega)
 by_cases k2:c.1=2
 ·simp only [k2]
  cases zV c.2.2.1 c.2.2.2.1 c.2.2.2.2.1<;>cases zP c.2.2.2.2.2.2.2.2.2.1 c.2.2.2.2.2.2.2.2.2.2.1 c.2.2.2.2.2.2.2.2.2.2.2.1 c.2.2.2.2.2.2.2.2.2.2.2.2.1<;>cases qBY c.2.2.2.2.2.1 c.2.2.2.2.2.2.1<;>by_cases h0:c.2.1=0<;>by_cases h1:(kd c).length=0<;>simp [h0,h1]
 by_cases k3:c.1=3
 ·simp only [k3]
  cases zV c.2.2.1 c.2.2.2.1 c.2.2.2.2.1<;>cases qG2 c.2.2.2.2.2.1 c.2.2.2.2.2.2.1 c.2.2.2.2.2.2.2.2.2.1 c.2.2.2.2.2.2.2.2.2.2.1<;>by_cases h0:c.2.1=0<;>by_cases h1:(kd c).length=0<;>simp [h0,h1]
 by_cases k4:c.1=4
 ·simp only [k4]
  cases zV c.2.2.1 c.2.2.2.1 c.2.2.2.2.1<;>cases zP c.2.2.2.2.2.1 c.2.2.2.2.2.2.1 c.2.2.2.2.2.2.2.1 c.2.2.2.2.2.2.2.2.1<;>cases zP c.2.2.2.2.2.2.2.2.2.1 c.2.2.2.2.2.2.2.2.2.2.1 c.2.2.2.2.2.2.2.2.2.2.2.1 c.2.2.2.2.2.2.2.2.2.2.2.2.1<;>by_cases h0:c.2.1=0<;>by_cases h1:(kd c).length=1<;>simp [h0,h1]
 by_cases k5:c.1=5
 ·simp only [k5]
  cases zV c.2.2.1 c.2.2.2.1 c.2.2.2.2.1<;>cases zP c.2.2.2.2.2.1 c.2.2.2.2.2.2.1 c.2.2.2.2.2.2.2.1 c.2.2.2.2.2.2.2.2.1<;>cases zP c.2.2.2.2.2.2.2.2.2.1 c.2.2.2.2.2.2.2.2.2.2.1 c.2.2.2.2.2.2.2.2.2.2.2.1 c.2.2.2.2.2.2.2.2.2.2.2.2.1<;>by_cases h0:1≤c.2.1∧c.2.1≤11<;>by_cases h1:(kd c).length=2<;>simp [h0,h1]
 by_cases k6:c.1=6
 ·simp only [k6]
  cases zV c.2.2.1 c.2.2.2.1 c.2.2.2.2.1<;>cases zP c.2.2.2.2.2.1 c.2.2.2.2.2.2.1 c.2.2.2.2.2.2.2.1 c.2.2.2.2.2.2.2.2.1<;>cases zP c.2.2.2.2.2.2.2.2.2.1 c.2.2.2.2.2.2.2.2.2.2.1 c.2.2.2.2.2.2.2.2.2.2.2.1 c.2.2.2.2.2.2.2.2.2.2.2.2.1<;>cases qJb c.2.1 ((kd c).length:Int)<;>simp
 simp [k1,k2,k3,k4,k5,k6]
section
variable (own area call:Int→Bool) (kids:Int→List Int)
def goF (F:Int→Int) (n:Int):List Int→Int→Int
 | [],start=>start
 |k::r,start=>if k≠start-1∨k<0∨(area k=true∧call n=false) then-1 else if F k<0 then-1 else goF F n r (F k)
def qDP:Nat→Int→Int
 |0,_=> -1
 |f+1,n=>if n<0∨own n=false then-1 else goF area call (qDP f) n (kids n).reverse n
def goT (F:Int→Int):List Int→Int→Int
 | [],x=>x+1
 |k::r,x=>if x<0∨k≠x then-1 else if F x<0 then-1 else goT F r (F x-1)
def qDb:Nat→Int→Int
 |0,_=> -1
 |f+1,n=>goT (qDb f) (kids n).reverse (n-1)
def qLb:List Int→Int
 | []=>0
 |x::r=>max x (qLb r)
def qBE:Nat→Int→Int
 |0,_=>0
 |f+1,n=>qLb ((kids n).map fun k=>qBE f k)+1
def qIA (i:Int):Prop:=∀k∈kids i,0≤k∧k≤i-1∧¬(area k=true∧call i=false)
theorem qRX:∀(f:Nat) (n:Int),0≤n→qDb kids f n≤n
 |0,n,h=>by rw [qDb];omega
 |f+1,n,h=>by
  have go:∀(l:List Int) (x:Int),x+1≤n→-1≤x→goT (qDb kids f) l x≤n:=by
   intro l
   induction l with
   |nil=>intro x h1 h2;rw [goT];omega
   |cons k r ih=>
    intro x h1 h2
    rw [goT]
    split
    ·omega
    ·split
     ·omega
     ·have:=qRX f x (by omega)
      exact ih _ (by omega) (by omega)
  rw [qDb]
  exact go _ _ (by omega) (by omega)
theorem qUg {l:List Int} {b:Int} (h0:0≤b):qLb l≤b↔∀x∈l,x≤b:=by
 induction l with
 |nil=>simp [qLb,h0]
 |cons a r ih=>simp only [qLb,List.mem_cons,forall_eq_or_imp];rw [Int.max_le,ih]
theorem qRY {n b:Int} {f:Nat} (h0:1≤b):qBE kids (f+1) n≤b↔∀k∈kids n,qBE kids f k≤b-1:=by
 rw [qBE]
 constructor
 ·intro h k hk
  exact (qUg (l:=(kids n).map fun k=>qBE kids f k) (by omega)).1 (by omega) _ (List.mem_map_of_mem (f:=fun k=>qBE kids f k) hk)
 ·intro h
  have:=(qUg (l:=(kids n).map fun k=>qBE kids f k) (b:=b-1) (by omega)).2 (by
   intro x hx
   obtain ⟨k,hk,rfl⟩:=List.mem_map.1 hx
   exact h k hk)
  omega
theorem qRZ:∀(f g:Nat) (n:Int),n<f→n<g→(∀i,0≤i→i≤n→qIA area call kids i)→0≤n→qBE kids f n=qBE kids g n
 |0,g,n,h1,h2,_,h3=>by omega
 |f+1,0,n,h1,h2,_,h3=>by omega
 |f+1,g+1,n,h1,h2,hk,h3=>by
  rw [qBE,qBE]
  congr 2
  apply List.map_congr_left
  intro k hm
  have:=hk n h3 (by omega) k hm
  exact qRZ f g k (by omega) (by omega) (fun i h0 h1=>hk i h0 (by omega)) (by omega)
theorem qO6:∀(f:Nat) (n:Int),0≤n→n<f→1≤qBE kids f n
 |0,n,h,h'=>by omega
 |f+1,n,h,h'=>by
  rw [qBE]
  have:∀l:List Int,0≤qLb l:=by
   intro l
   induction l with
   |nil=>exact Int.le_refl 0
   |cons a r ih=>simp only [qLb];omega
  have:=this ((kids n).map fun k=>qBE kids f k)
  omega
theorem qTJ:∀(f g:Nat) (n:Int),0≤n→n<g→0≤qDP own area call kids f n→
  qDP own area call kids f n≤n∧qDb kids g n=qDP own area call kids f n∧(∀i,qDP own area call kids f n≤i→i≤n→own i=true∧qIA area call kids i)∧(∀h:Nat,(∀i,0≤i→i≤n→qIA area call kids i)→n<h→qBE kids h n≤f)
 |0,g,n,h0,h1,h2=>by rw [qDP] at h2;omega
 |f+1,0,n,h0,h1,h2=>by omega
 |f+1,g+1,n,h0,h1,h2=>by
  rw [qDP] at h2⊢
  split at h2
  ·omega
  ·rename_i hc
   rw [if_neg hc]
   have go:∀(l:List Int) (s:Int),0≤s→s≤n→0≤goF area call (qDP own area call kids f) n l s→
     goF area call (qDP own area call kids f) n l s≤s∧goT (qDb kids g) l (s-1)=goF area call (qDP own area call kids f) n l s∧(∀i,goF area call (qDP own area call kids f) n l s≤i→i≤s-1→own i=true∧qIA area call kids i)∧(∀k∈l,0≤k∧k≤n-1∧¬(area k=true∧call n=false))∧(∀h:Nat,(∀i,0≤i→i≤n→qIA area call kids i)→n<h→∀k∈l,qBE kids h k≤f):=by
    intro l
    induction l with
    |nil=>
     intro s h3 h4 h5
     rw [goF] at h5⊢
     rw [goT]
     refine ⟨by omega,by omega,fun i _ _=>by omega,fun k hk=>(by cases hk),fun h _ _ k hk=>(by cases hk)⟩
    |cons k r ih=>
     intro s h3 h4 h5
     rw [goF] at h5⊢
     split at h5
     ·omega
     ·rename_i hd
      rw [if_neg hd]
      split at h5
      ·omega
      ·rename_i he
       rw [if_neg he]
       have hk:k=s-1:=by omega
       subst hk
       obtain ⟨a1,a2,a3,a4⟩:=qTJ f g (s-1) (by omega) (by omega) (by omega)
       obtain ⟨b1,b2,b3,b4,b5⟩:=ih _ (by omega) (by omega) h5
       refine ⟨by omega,?_,?_,?_,?_⟩
       ·rw [goT,if_neg (by omega),a2,if_neg he,b2]
       ·intro i i1 i2
        by_cases hi:qDP own area call kids f (s-1)≤i
        ·exact a3 i hi i2
        ·exact b3 i i1 (by omega)
       ·intro k hk
        rcases List.mem_cons.1 hk with rfl|hk
        ·exact ⟨by omega,by omega,fun h=>hd (.inr (.inr h))⟩
        ·exact b4 k hk
       ·intro h hx hy k hk
        rcases List.mem_cons.1 hk with rfl|hk
        ·exact a4 h (fun i i1 i2=>hx i i1 (by omega)) (by omega)
        ·exact b5 h hx hy k hk
   obtain ⟨c1,c2,c3,c4,c5⟩:=go _ n h0 (Int.le_refl n) h2
   have hown:own n=true:=by cases ho:own n with
    |true=>rfl
    |false=>exact absurd (.inr ho) hc
   refine ⟨c1,by rw [qDb];exact c2,?_,?_⟩
   ·intro i i1 i2
    by_cases hi:i=n
    ·subst hi
     exact ⟨hown,fun k hk=>c4 k (List.mem_reverse.2 hk)⟩
    ·exact c3 i i1 (by omega)
   ·intro h hx hy
    cases h with
    |zero=>omega
    |succ h=>
     refine (qRY kids (by omega)).2 fun k hk=>?_
     have hin:=hx n h0 (Int.le_refl n) k hk
     have e:qBE kids h k=qBE kids (n.toNat+1) k:=qRZ area call kids _ _ _ (by omega) (by omega) (fun i i1 i2=>hx i i1 (by omega)) (by omega)
     rw [e]
     have:=c5 (n.toNat+1) hx (by omega) k (List.mem_reverse.2 hk)
     omega
theorem qUh:∀(f g h:Nat) (n:Int),0≤n→n<g→n<h→(∀i,0≤i→i≤n→own i=true∧qIA area call kids i)→0≤qDb kids g n→qBE kids h n≤f→qDP own area call kids f n=qDb kids g n
 |0,g,h,n,h0,h1,h1',h2,h3,h4=>by have:=qO6 kids h n h0 h1';omega
 |f+1,0,h,n,h0,h1,_,h2,h3,h4=>by omega
 |f+1,g+1,0,n,h0,h1,_,h2,h3,h4=>by omega
 |f+1,g+1,h+1,n,h0,h1,h1',h2,h3,h4=>by
  have hd:=(qRY kids (b:=((f+1:Nat):Int)) (by omega)).1 h4
  have go:∀(l:List Int) (s:Int),(∀k∈l,k∈kids n)→0≤s→s≤n→0≤goT (qDb kids g) l (s-1)→goF area call (qDP own area call kids f) n l s=goT (qDb kids g) l (s-1):=by
   intro l
   induction l with
   |nil=>intro s _ _ _ _;rw [goF,goT];omega
   |cons k r ih=>
    intro s hm h3 h4 h5
    rw [goT] at h5⊢
    rw [goF]
    split at h5
    ·omega
    ·rename_i hc
     rw [if_neg hc]
     split at h5
     ·omega
     ·rename_i he
      rw [if_neg he]
      have hk:k=s-1:=by omega
      have hin:=(h2 n h0 (Int.le_refl n)).2 k (hm k (List.mem_cons_self ..))
      have hdk:=hd k (hm k (List.mem_cons_self ..))
      subst hk
      have e:=qUh f g h (s-1) (by omega) (by omega) (by omega) (fun i i1 i2=>h2 i i1 (by omega)) (by omega) (by omega)
      have hb:¬(s-1≠s-1∨s-1<0∨(area (s-1)=true∧call n=false)):=fun hx=>by
       rcases hx with hx|hx|hx
       ·exact hx rfl
       ·omega
       ·exact hin.2.2 hx
      rw [if_neg hb,e,if_neg he]
      have hle:=qRX kids g (s-1) (by omega)
      exact ih _ (fun k hk=>hm k (List.mem_cons_of_mem _ hk)) (by omega) (by omega) h5
  rw [qDb] at h3
  have hn:¬(n<0∨own n=false):=fun hx=>by
   rcases hx with hx|hx
   ·omega
   ·rw [(h2 n h0 (Int.le_refl n)).1] at hx;cases hx
  rw [qDP,qDb,if_neg hn]
  exact go _ n (fun k hk=>List.mem_reverse.1 hk) h0 (Int.le_refl n) h3
end
theorem qBw (c:Nd):(qW c).length=14:=rfl
theorem qBW (k:Int):(qA8 k).length=1:=rfl
theorem qAx (k:Int):zB .i64 (qA8 k) 0=some k:=rfl
theorem qAe (c:Nd):zB .i64 (qW c) 0=some c.1:=rfl
theorem qAf (c:Nd):zB .i64 (qW c) 1=some c.2.1:=rfl
theorem qAg (c:Nd):zB .i64 (qW c) 2=some c.2.2.1:=rfl
theorem qAh (c:Nd):zB .i64 (qW c) 3=some c.2.2.2.1:=rfl
theorem qAi (c:Nd):zY (qW c) 4=some c.2.2.2.2.1:=rfl
theorem qAj (c:Nd):zB .i64 (qW c) 5=some c.2.2.2.2.2.1:=rfl
theorem qAk (c:Nd):zB .i64 (qW c) 6=some c.2.2.2.2.2.2.1:=rfl
theorem qAl (c:Nd):zo (qW c) 7=some c.2.2.2.2.2.2.2.1:=rfl
theorem qAm (c:Nd):zo (qW c) 8=some c.2.2.2.2.2.2.2.2.1:=rfl
theorem qAn (c:Nd):zB .i64 (qW c) 9=some c.2.2.2.2.2.2.2.2.2.1:=rfl
theorem q8 (c:Nd):zB .i64 (qW c) 10=some c.2.2.2.2.2.2.2.2.2.2.1:=rfl
theorem q9 (c:Nd):zo (qW c) 11=some c.2.2.2.2.2.2.2.2.2.2.2.1:=rfl
theorem qAA (c:Nd):zo (qW c) 12=some c.2.2.2.2.2.2.2.2.2.2.2.2.1:=rfl
theorem qAB (c:Nd):zAb (qW c) 13=some ((c.2.2.2.2.2.2.2.2.2.2.2.2.2).map qA8):=rfl
def nd0:Nd:=(0,0,0,0,⟨#[]⟩,0,0,false,false,0,0,false,false,[])
def ndi (l:List Nd) (i:Int):Nd:=l.getD i.toNat nd0
def qX (l:List Nd) (i:Int):List Int:=kd (ndi l i)
def qHN (l:List Nd) (i:Int):Bool:=qF3 (ndi l i)
def qB0 (l:List Nd) (i:Int):Bool:=decide ((ndi l i).1=3)
def qCp (l:List Nd) (i:Int):Bool:=decide ((ndi l i).1=6)
theorem qDf {l:List Nd} {i:Int} (h:0≤i∧i<l.length):l[i.toNat]?=some (ndi l i):=by
 have:i.toNat<l.length:=by omega
 unfold ndi
 rw [List.getElem?_eq_getElem this,List.getD_eq_getElem?_getD,List.getElem?_eq_getElem this]
 rfl
theorem qJ6 {l:List Nd} {i:Int} (h:0≤i∧i<l.length):ndi l i∈l:=List.mem_of_getElem? (qDf h)
theorem qTm {α:Type} {l:List α} {j:Nat} {k:α} (h:l[j]?=some k):(l.take (j+1)).reverse=k::(l.take j).reverse:=by
 rw [List.take_add_one,h]
 simp
theorem qTn {R:Type} {F:Int→Nat→Option R} {f:Int→R} (x:Int) (h:∀y,0≤y→y<x→Ev (F y) (f y)):∃n0,∀n,n0≤n→∀y,0≤y→y<x→F y n=some (f y):=by
 obtain ⟨n0,h0⟩:=qA9 (F:=F) (f:=f) ((List.range x.toNat).map fun (i:Nat)=>(i:Int)) (fun c hc=>by
  obtain ⟨i,hi,rfl⟩:=List.mem_map.1 hc
  have:=List.mem_range.1 hi
  exact h _ (Int.natCast_nonneg i) (by omega))
 refine ⟨n0,fun n hn y h1 h2=>h0 n hn y (List.mem_map.2 ⟨y.toNat,List.mem_range.2 (by omega),by omega⟩)⟩
theorem qSf (l:List Nd) (x1:Int) (f n:Nat) (hx:0≤x1∧x1<l.length) (hl:l.length≤140737488351232) (hk:(kd (ndi l x1)).length≤140737488351232)
  (hrec:∀y:Int,0≤y→y<x1→qAz n (l.map qW) y=some (qDb (qX l) f y)):
  ∀(j M:Nat) (s:Int),j≤(kd (ndi l x1)).length→j+1≤M→-1≤s→s<x1→
   (∃x,zC (qBL (qAz n) n) M (l.map qW,x1,s,(j:Int)-1)=some (.inr x)∧goT (qDb (qX l) f) ((qX l x1).take j).reverse s=x+1∧-1≤x∧x<x1)∨
   (zC (qBL (qAz n) n) M (l.map qW,x1,s,(j:Int)-1)=some (.inl (-1))∧goT (qDb (qX l) f) ((qX l x1).take j).reverse s= -1)
 |0,0,s,h1,h2,h3,h4=>by omega
 |0,M+1,s,h1,h2,h3,h4=>by
  refine .inl ⟨s,?_,by simp [goT],h3,h4⟩
  rw [qP (r:= .inr s) (by simp [-getElem?_pos,qBL,qC,qE,qH,qJ,qK,qM,Option.bind_some,qF,qG,qN])]
 |j+1,0,s,h1,h2,h3,h4=>by omega
 |j+1,M+1,s,h1,h2,h3,h4=>by
  have hc:=qDf hx
  have hj:j<(kd (ndi l x1)).length:=by omega
  have hg:(qX l x1)[j]?=some (qX l x1)[j]:=List.getElem?_eq_getElem hj
  have ih:=qSf l x1 f n hx hl hk hrec j M
  rw [qTm hg]
  generalize (qX l x1)[j]=k at hg
  have hi:(((j+1:Nat):Int)-1)=(j:Int):=by omega
  rw [hi,goT]
  have hg':(ndi l x1).2.2.2.2.2.2.2.2.2.2.2.2.2[j]?=some k:=hg
  have hj':j<(ndi l x1).2.2.2.2.2.2.2.2.2.2.2.2.2.length:=hj
  by_cases hs:s<0
  ·refine .inr ⟨?_,by rw [if_pos (.inl hs)]⟩
   rw [qP (r:= .inl (-1)) (by simp [-getElem?_pos,qBL,qC,qE,qH,qJ,qK,qM,Option.bind_some,qF,qG,qN,hs])]
  ·by_cases hks:k=s
   ·subst hks
    have hr:=hrec k (by omega) h4
    by_cases ht:qDb (qX l) f k<0
    ·refine .inr ⟨?_,by rw [if_neg (by omega),if_pos ht]⟩
     rw [qP (r:= .inl (-1)) (by simp [-getElem?_pos,qBL,qC,qE,qH,qJ,qK,qM,Option.bind_some,qF,qG,qN,hs,hc,hx,qBw,qBW,qAx,qAe,qAf,qAg,qAh,qAi,qAj,qAk,qAl,qAm,qAn,q8,q9,qAA,qAB,hg',hj',hr,ht])]
    ·have hle:=qRX (qX l) f k (by omega)
     have hw:IntKind.i64.wrap (qDb (qX l) f k-1)=qDb (qX l) f k-1:=qT (by omega)
     have hw2:IntKind.i64.wrap ((j:Int)-1)=(j:Int)-1:=qT (by omega)
     rw [if_neg (by omega),if_neg ht]
     rw [qQ (v':=(l.map qW,x1,qDb (qX l) f k-1,(j:Int)-1)) (by simp [-getElem?_pos,qBL,qC,qE,qH,qJ,qK,qM,Option.bind_some,qF,qG,qN,hs,hc,hx,qBw,qBW,qAx,qAe,qAf,qAg,qAh,qAi,qAj,qAk,qAl,qAm,qAn,q8,q9,qAA,qAB,hg',hj',hr,ht,hw,hw2])]
     exact ih _ (by omega) (by omega) (by omega) (by omega)
   ·refine .inr ⟨?_,by rw [if_pos (.inr hks)]⟩
    rw [qP (r:= .inl (-1)) (by simp [-getElem?_pos,qBL,qC,qE,qH,qJ,qK,qM,Option.bind_some,qF,qG,qN,hs,hc,hx,qBw,qBW,qAx,qAe,qAf,qAg,qAh,qAi,qAj,qAk,qAl,qAm,qAn,q8,q9,qAA,qAB,hg',hj',hks])]
theorem qLc (l:List Nd) (hl:l.length≤140737488351232) (hk:∀c∈l,(kd c).length≤140737488351232):∀(f:Nat) (x:Int),0≤x→x<l.length→x<f→Ev (qAz · (l.map qW) x) (qDb (qX l) f x)
 |0,x,h0,h1,h2=>by omega
 |f+1,x,h0,h1,h2=>by
  obtain ⟨n0,hn0⟩:=qTn (F:=fun y n=>qAz n (l.map qW) y) (f:=fun y=>qDb (qX l) f y) x (fun y h3 h4=>qLc l hl hk f y h3 (by omega) (by omega))
  refine ⟨n0+(kd (ndi l x)).length+5,fun n hn=>?_⟩
  obtain ⟨m,rfl,hm⟩:=up1 hn
  have hc:=qDf (l:=l) (i:=x) ⟨h0,h1⟩
  have hkx:=hk _ (qJ6 (l:=l) ⟨h0,h1⟩)
  have hw:IntKind.i64.wrap (x-1)=x-1:=qT (by omega)
  have hw2:IntKind.i64.wrap (((kd (ndi l x)).length:Int)-1)=((kd (ndi l x)).length:Int)-1:=qT (by omega)
  have h:=qSf l x f m ⟨h0,h1⟩ hl hkx (hn0 m (by omega)) (kd (ndi l x)).length m (x-1) (Nat.le_refl _) (by omega) (by omega) (by omega)
  have e:(qX l x).take (kd (ndi l x)).length=qX l x:=List.take_length
  rw [e] at h
  rw [show qDb (qX l) (f+1) x=goT (qDb (qX l) f) (qX l x).reverse (x-1) from rfl]
  unfold kd at h hw2
  dsimp only
  simp only [qAz,qIo,qC,qE,qH,qJ,qK,qM,Option.bind_some,qF,qG,qN]
  rcases h with ⟨y,g1,g2,g3,g4⟩|⟨g1,g2⟩
  ·have hw3:IntKind.i64.wrap (y+1)=y+1:=qT (by omega)
   rw [g2]
   simp [-getElem?_pos,qC,qE,qH,qJ,qK,qM,Option.bind_some,qF,qG,qN,hc,h0,h1,qBw,qBW,qAx,qAe,qAf,qAg,qAh,qAi,qAj,qAk,qAl,qAm,qAn,q8,q9,qAA,qAB,hw,hw2,g1,hw3]
  ·rw [g2]
   simp [-getElem?_pos,qC,qE,qH,qJ,qK,qM,Option.bind_some,qF,qG,qN,hc,h0,h1,qBw,qBW,qAx,qAe,qAf,qAg,qAh,qAi,qAj,qAk,qAl,qAm,qAn,q8,q9,qAA,qAB,hw,hw2,g1]
theorem qO7 (kids:Int→List Int):∀(f:Nat) (n:Int),0≤qBE kids f n∧qBE kids f n≤f
 |0,n=>by rw [qBE];omega
 |f+1,n=>by
  have:∀l:List Int,0≤qLb (l.map fun k=>qBE kids f k)∧qLb (l.map fun k=>qBE kids f k)≤f:=by
   intro l
   induction l with
   |nil=>exact ⟨Int.le_refl 0,Int.natCast_nonneg f⟩
   |cons a r ih=>have:=qO7 kids f a;simp only [List.map_cons,qLb];omega
  have:=this (kids n)
  rw [qBE]
  omega
theorem qSg (l:List Nd) (x1:Int) (f n:Nat) (hx:0≤x1∧x1<l.length) (hf:f≤1000) (hk:(kd (ndi l x1)).length≤140737488351232)
  (hrec:∀k∈qX l x1,qA0 n (l.map qW) k=some (qBE (qX l) f k)):
  ∀(m i M:Nat) (a:Int),(kd (ndi l x1)).length=i+m→m+1≤M→0≤a→
   zC (qDm (qA0 n) n) M (l.map qW,x1,a,(i:Int))=some (max a (qLb (((qX l x1).drop i).map fun k=>qBE (qX l) f k)))
 |m,i,0,a,h1,h2,h3=>by omega
 |0,i,M+1,a,h1,h2,h3=>by
  have hc:=qDf hx
  have hi:¬i<(ndi l x1).2.2.2.2.2.2.2.2.2.2.2.2.2.length:=by unfold kd at h1;omega
  rw [qP (r:=a) (by simp [-getElem?_pos,qDm,qC,qE,qH,qJ,qK,qM,Option.bind_some,qF,qG,qN,hc,hx,qBw,qBW,qAx,qAe,qAf,qAg,qAh,qAi,qAj,qAk,qAl,qAm,qAn,q8,q9,qAA,qAB,hi])]
  rw [List.drop_eq_nil_of_le (by unfold qX;omega)]
  simp only [List.map_nil,qLb]
  congr 1
  omega
 |m+1,i,M+1,a,h1,h2,h3=>by
  have hc:=qDf hx
  have hj:i<(kd (ndi l x1)).length:=by omega
  have hg:(qX l x1)[i]?=some (qX l x1)[i]:=List.getElem?_eq_getElem hj
  rw [qEI hg]
  have hr:=hrec _ (List.mem_of_getElem? hg)
  generalize (qX l x1)[i]=k at hg hr
  have hg':(ndi l x1).2.2.2.2.2.2.2.2.2.2.2.2.2[i]?=some k:=hg
  have hj':i<(ndi l x1).2.2.2.2.2.2.2.2.2.2.2.2.2.length:=hj
  have hj'':(i:Int)<((ndi l x1).2.2.2.2.2.2.2.2.2.2.2.2.2.length:Int):=by omega
  have hw:IntKind.i64.wrap ((i:Int)+1)=((i+1:Nat):Int):=by rw [qT (by omega)];omega
  have hd:=qO7 (qX l) f k
  rw [qQ (v':=(l.map qW,x1,(if qBE (qX l) f k>a then qBE (qX l) f k else a),((i+1:Nat):Int))) (by simp [-getElem?_pos,qDm,qC,qE,qH,qJ,qK,qM,Option.bind_some,qF,qG,qN,hc,hx,qBw,qBW,qAx,qAe,qAf,qAg,qAh,qAi,qAj,qAk,qAl,qAm,qAn,q8,q9,qAA,qAB,hg',hj',hr,hw])]
  rw [qSg l x1 f n hx hf hk hrec m (i+1) M _ (by omega) (by omega) (by split<;>omega)]
  simp only [List.map_cons,qLb]
  congr 1
  split<;>omega
theorem qLd (l:List Nd) (hl:l.length≤60) (hk:∀c∈l,(kd c).length≤140737488351232) (hin:∀i:Int,0≤i→i<l.length→qIA (qB0 l) (qCp l) (qX l) i):∀(f:Nat) (x:Int),f≤1000→0≤x→x<l.length→x<f→Ev (qA0 · (l.map qW) x) (qBE (qX l) f x)
 |0,x,hf,h0,h1,h2=>by omega
 |f+1,x,hf,h0,h1,h2=>by
  obtain ⟨n0,hn0⟩:=qA9 (F:=fun y n=>qA0 n (l.map qW) y) (f:=fun y=>qBE (qX l) f y) (qX l x) (fun y hy=>by
   have:=hin x h0 h1 y hy
   exact qLd l hl hk hin f y (by omega) (by omega) (by omega) (by omega))
  refine ⟨n0+(kd (ndi l x)).length+5,fun n hn=>?_⟩
  obtain ⟨m,rfl,hm⟩:=up1 hn
  have h:=qSg l x f m ⟨h0,h1⟩ (by omega) (hk _ (qJ6 (l:=l) ⟨h0,h1⟩)) (hn0 m (by omega)) (kd (ndi l x)).length 0 m 0 (by omega) (by omega) (by omega)
  have hd:=qO7 (qX l) (f+1) x
  have e:max 0 (qLb ((qX l x).map fun k=>qBE (qX l) f k))+1=qBE (qX l) (f+1) x:=by
   rw [qBE]
   have:∀q:List Int,0≤qLb q:=by
    intro q
    induction q with
    |nil=>exact Int.le_refl 0
    |cons a r ih=>simp only [qLb];omega
   have:=this ((qX l x).map fun k=>qBE (qX l) f k)
   omega
  rw [List.drop_zero] at h
  simp only [Int.natCast_zero] at h
  have hw:IntKind.i64.wrap (max 0 (qLb ((qX l x).map fun k=>qBE (qX l) f k))+1)=qBE (qX l) (f+1) x:=by rw [e,qT (by omega)]
  simp only [qA0,qIq,qC,qE,qH,qJ,qK,qM,Option.bind_some,qF,qG,qN,h,hw]
def inB (l:List Nd) (i:Int):Bool:=(qX l i).all fun k=>decide (0≤k∧k≤i-1)&&!(qB0 l k&&!qCp l i)
theorem qUi {l:List Nd} {i:Int}:inB l i=true↔qIA (qB0 l) (qCp l) (qX l) i:=by
 unfold inB qIA
 rw [List.all_eq_true]
 refine forall_congr' fun k=>forall_congr' fun hk=>?_
 cases qB0 l k<;>cases qCp l i<;>simp
theorem qTK (l:List Nd) (x1:Int) (n:Nat) (hx:0≤x1∧x1<l.length) (hl:l.length≤60) (hk:(kd (ndi l x1)).length≤140737488351232):
  ∀(m i M:Nat),(kd (ndi l x1)).length=i+m→m+1≤M→
   zC (qAt (n+1)) M (l.map qW,x1,(i:Int))=some (if ((qX l x1).drop i).all (fun k=>decide (0≤k∧k≤x1-1)&&!(qB0 l k&&!qCp l x1))=true then .inr (l.map qW,x1) else .inl false)
 |m,i,0,h1,h2=>by omega
 |0,i,M+1,h1,h2=>by
  have hc:=qDf hx
  have hi:¬i<(ndi l x1).2.2.2.2.2.2.2.2.2.2.2.2.2.length:=by unfold kd at h1;omega
  rw [qP (r:= .inr (l.map qW,x1)) (by simp [-getElem?_pos,qAt,qC,qE,qH,qJ,qK,qM,Option.bind_some,qF,qG,qN,hc,hx,qBw,qBW,qAx,qAe,qAf,qAg,qAh,qAi,qAj,qAk,qAl,qAm,qAn,q8,q9,qAA,qAB,hi])]
  rw [List.drop_eq_nil_of_le (by unfold qX;omega)]
  rfl
 |m+1,i,M+1,h1,h2=>by
  have hc:=qDf hx
  have hj:i<(kd (ndi l x1)).length:=by omega
  have hg:(qX l x1)[i]?=some (qX l x1)[i]:=List.getElem?_eq_getElem hj
  rw [qEI hg]
  generalize (qX l x1)[i]=k at hg
  have hg':(ndi l x1).2.2.2.2.2.2.2.2.2.2.2.2.2[i]?=some k:=hg
  have hj':i<(ndi l x1).2.2.2.2.2.2.2.2.2.2.2.2.2.length:=hj
  have hw:IntKind.i64.wrap ((i:Int)+1)=((i+1:Nat):Int):=by rw [qT (by omega)];omega
  have hw2:IntKind.i64.wrap (x1-1)=x1-1:=qT (by omega)
  have hin:qA1 (n+1) k 0 (x1-1)=some (decide (0≤k∧k≤x1-1)):=by
   simp only [qA1,qGW,qC,qE,qH,qJ,qK,qM,Option.bind_some,qF,qG,qN]
   by_cases h:k≥0<;>simp [h]
  rw [List.all_cons]
  by_cases hr:0≤k∧k≤x1-1
  ·have hck:=qDf (l:=l) (i:=k) ⟨hr.1,by omega⟩
   have hkl:k<(l.length:Int):=by omega
   by_cases ha:(ndi l k).1=3
   ·by_cases hcl:(ndi l x1).1=6
    ·rw [qQ (v':=(l.map qW,x1,((i+1:Nat):Int))) (by simp [-getElem?_pos,qAt,qC,qE,qH,qJ,qK,qM,Option.bind_some,qF,qG,qN,hc,hx,qBw,qBW,qAx,qAe,qAf,qAg,qAh,qAi,qAj,qAk,qAl,qAm,qAn,q8,q9,qAA,qAB,hg',hj',hw,hw2,hin,hr,hck,hkl,ha,hcl])]
     rw [qTK l x1 n hx hl hk m (i+1) M (by omega) (by omega)]
     simp [hr,qB0,qCp,ha,hcl]
    ·rw [qP (r:= .inl false) (by simp [-getElem?_pos,qAt,qC,qE,qH,qJ,qK,qM,Option.bind_some,qF,qG,qN,hc,hx,qBw,qBW,qAx,qAe,qAf,qAg,qAh,qAi,qAj,qAk,qAl,qAm,qAn,q8,q9,qAA,qAB,hg',hj',hw,hw2,hin,hr,hck,hkl,ha,hcl])]
     simp [hr,qB0,qCp,ha,hcl]
   ·rw [qQ (v':=(l.map qW,x1,((i+1:Nat):Int))) (by simp [-getElem?_pos,qAt,qC,qE,qH,qJ,qK,qM,Option.bind_some,qF,qG,qN,hc,hx,qBw,qBW,qAx,qAe,qAf,qAg,qAh,qAi,qAj,qAk,qAl,qAm,qAn,q8,q9,qAA,qAB,hg',hj',hw,hw2,hin,hr,hck,hkl,ha])]
    rw [qTK l x1 n hx hl hk m (i+1) M (by omega) (by omega)]
    simp [hr,qB0,qCp,ha]
  ·rw [qP (r:= .inl false) (by simp [-getElem?_pos,qAt,qC,qE,qH,qJ,qK,qM,Option.bind_some,qF,qG,qN,hc,hx,qBw,qBW,qAx,qAe,qAf,qAg,qAh,qAi,qAj,qAk,qAl,qAm,qAn,q8,q9,qAA,qAB,hg',hj',hw2,hin,hr])]
   simp [hr]
def qGV (l:List Nd) (i m:Nat):Bool:=(List.range' i m).all fun (i:Nat)=>qHN l (i:Int)&&inB l (i:Int)
theorem qGg {l:List Nd}:qGV l 0 l.length=true↔∀i:Int,0≤i→i<l.length→qHN l i=true∧qIA (qB0 l) (qCp l) (qX l) i:=by
 unfold qGV
 rw [List.all_eq_true]
 constructor
 ·intro h i h0 h1
  have:=h i.toNat (by rw [List.mem_range'];exact ⟨i.toNat,by omega,by omega⟩)
  rw [show ((i.toNat:Nat):Int)=i by omega,Bool.and_eq_true,qUi] at this
  exact this
 ·intro h i hi
  rw [List.mem_range'] at hi
  obtain ⟨j,hj,rfl⟩:=hi
  rw [Bool.and_eq_true,qUi]
  exact h _ (by omega) (by omega)
theorem qUj (l:List Nd) (n:Nat) (hl:l.length≤60) (hk:∀c∈l,(kd c).length≤140737488351232) (hn:∀c∈l,(kd c).length+2≤n)
  (hok:∀c∈l,qCV n c.1 c.2.1 c.2.2.1 c.2.2.2.1 c.2.2.2.2.1 c.2.2.2.2.2.1 c.2.2.2.2.2.2.1 c.2.2.2.2.2.2.2.1 c.2.2.2.2.2.2.2.2.1 c.2.2.2.2.2.2.2.2.2.1 c.2.2.2.2.2.2.2.2.2.2.1 c.2.2.2.2.2.2.2.2.2.2.2.1 c.2.2.2.2.2.2.2.2.2.2.2.2.1 ((c.2.2.2.2.2.2.2.2.2.2.2.2.2).map qA8)=some (qF3 c)):
  ∀(m i M:Nat),l.length=i+m→m+1≤M→
   zC (qBP n) M (l.map qW,(i:Int))=some (if qGV l i m=true then .inr (l.map qW) else .inl false)
 |m,i,0,h1,h2=>by omega
 |0,i,M+1,h1,h2=>by
  have hi:¬(i:Int)<(l.length:Int):=by omega
  rw [qP (r:= .inr (l.map qW)) (by simp [-getElem?_pos,qBP,qC,qE,qH,qJ,qK,qM,Option.bind_some,qF,qG,qN,hi])]
  rfl
 |m+1,i,M+1,h1,h2=>by
  have hi:(i:Int)<(l.length:Int):=by omega
  have hx:0≤(i:Int)∧(i:Int)<l.length:=⟨by omega,hi⟩
  have hc:=qDf hx
  have hm:=qJ6 hx
  have ho:=hok _ hm
  have hw:IntKind.i64.wrap ((i:Int)+1)=((i+1:Nat):Int):=by rw [qT (by omega)];omega
  have hnn:=hn _ hm
  obtain ⟨q,rfl⟩:∃q,n=q+1:=⟨n-1,by omega⟩
  have hlp:=qTK l i q hx hl (hk _ hm) (kd (ndi l i)).length 0 (q+1) (by omega) (by omega)
  rw [List.drop_zero,show ((qX l (i:Int)).all fun k=>decide (0≤k∧k≤(i:Int)-1)&&!(qB0 l k&&!qCp l (i:Int)))=inB l i from rfl] at hlp
  simp only [Int.natCast_zero] at hlp
  have e:qGV l i (m+1)=(qHN l i&&inB l i&&qGV l (i+1) m):=by unfold qGV;rw [List.range'_succ,List.all_cons]
  rw [e]
  rw [Int.toNat_natCast] at hc
  cases hnb:qF3 (ndi l i) with
  |false=>
   rw [hnb] at ho
   rw [qP (r:= .inl false) (by simp [-getElem?_pos,qBP,qC,qE,qH,qJ,qK,qM,Option.bind_some,qF,qG,qN,hi,hc,qBw,qBW,qAx,qAe,qAf,qAg,qAh,qAi,qAj,qAk,qAl,qAm,qAn,q8,q9,qAA,qAB,ho])]
   simp [qHN,hnb]
  |true=>
   rw [hnb] at ho
   cases hib:inB l i with
   |false=>
    rw [hib] at hlp
    rw [qP (r:= .inl false) (by simp [-getElem?_pos,qBP,qC,qE,qH,qJ,qK,qM,Option.bind_some,qF,qG,qN,hi,hc,qBw,qBW,qAx,qAe,qAf,qAg,qAh,qAi,qAj,qAk,qAl,qAm,qAn,q8,q9,qAA,qAB,ho,hlp])]
    simp
   |true=>
    rw [hib] at hlp
    rw [qQ (v':=(l.map qW,((i+1:Nat):Int))) (by simp [-getElem?_pos,qBP,qC,qE,qH,qJ,qK,qM,Option.bind_some,qF,qG,qN,hi,hc,qBw,qBW,qAx,qAe,qAf,qAg,qAh,qAi,qAj,qAk,qAl,qAm,qAn,q8,q9,qAA,qAB,ho,hlp,hw])]
    rw [qUj l (q+1) hl hk hn hok m (i+1) M (by omega) (by omega)]
    simp [qHN,hnb]
def qFP (l:List Nd):Bool:=decide (1≤l.length∧l.length≤60)&&(qGV l 0 l.length&&(decide (qDb (qX l) l.length ((l.length:Int)-1)=0)&&(!qB0 l ((l.length:Int)-1)&&decide (qBE (qX l) l.length ((l.length:Int)-1)≤12))))
theorem qFx (l:List Nd) (hk:∀c∈l,(kd c).length≤140737488351232∧c.2.2.2.2.1.size≤140737488351232):Ev (qBd · (l.map qW)) (qFP l):=by
 by_cases h1:1≤l.length
 ·by_cases h60:l.length≤60
  ·have hk1:∀c∈l,(kd c).length≤140737488351232:=fun c hc=>(hk c hc).1
   obtain ⟨n1,g1⟩:=qA9 (F:=fun (c:Nd) n=>qCV n c.1 c.2.1 c.2.2.1 c.2.2.2.1 c.2.2.2.2.1 c.2.2.2.2.2.1 c.2.2.2.2.2.2.1 c.2.2.2.2.2.2.2.1 c.2.2.2.2.2.2.2.2.1 c.2.2.2.2.2.2.2.2.2.1 c.2.2.2.2.2.2.2.2.2.2.1 c.2.2.2.2.2.2.2.2.2.2.2.1 c.2.2.2.2.2.2.2.2.2.2.2.2.1 ((c.2.2.2.2.2.2.2.2.2.2.2.2.2).map qA8)) (f:=qF3) l (fun c hc=>qJc c (hk c hc).2)
   obtain ⟨n2,g2⟩:=qA9 (F:=fun (c:Nd) n=>if (kd c).length+2≤n then some () else none) (f:=fun _=>()) l (fun c hc=>⟨(kd c).length+2,fun n hn=>if_pos hn⟩)
   obtain ⟨n3,g3⟩:=qLc l (by omega) hk1 l.length ((l.length:Int)-1) (by omega) (by omega) (by omega)
   obtain ⟨n4,g4⟩:∃n0,qGV l 0 l.length=true→∀n,n0≤n→qA0 n (l.map qW) ((l.length:Int)-1)=some (qBE (qX l) l.length ((l.length:Int)-1)):=by
    by_cases ho:qGV l 0 l.length=true
    ·obtain ⟨n4,g4⟩:=qLd l h60 hk1 (fun (i:Int) h0 h1=>(qGg.1 ho i h0 h1).2) l.length ((l.length:Int)-1) (by omega) (by omega) (by omega) (by omega)
     exact ⟨n4,fun _=>g4⟩
    ·exact ⟨0,fun h=>absurd h ho⟩
   refine ⟨n1+n2+n3+n4+l.length+5,fun n hn=>?_⟩
   obtain ⟨m,rfl,hm⟩:=up1 hn
   have hlp:=qUj l m h60 hk1 (fun c hc=>by
    have:=g2 m (by omega) c hc
    split at this
    ·assumption
    ·cases this) (g1 m (by omega)) l.length 0 m (by omega) (by omega)
   have g3:=g3 m (by omega)
   dsimp only at g3
   simp only [Int.natCast_zero] at hlp
   have hw:IntKind.i64.wrap ((l.length:Int)-1)=(l.length:Int)-1:=qT (by omega)
   have hx:0≤(l.length:Int)-1∧(l.length:Int)-1<l.length:=by omega
   have hc:=qDf hx
   have a1:¬(l.length:Int)<1:=by omega
   have a2:¬(l.length:Int)>60:=by omega
   generalize hxe:(l.length:Int)-1=x at hw hx hc g3 g4⊢
   simp only [qBd,qDn,qC,qE,qH,qJ,qK,qM,Option.bind_some,qF,qG,qN,List.length_map,decide_eq_true_eq,a1,a2,if_false,hlp]
   unfold qFP
   rw [hxe]
   cases ho:qGV l 0 l.length with
   |false=>simp [qC,qE,qH,qJ,qK,qM,Option.bind_some,qF,qG,qN]
   |true=>
    have g4:=g4 ho m (by omega)
    simp only [if_true,qC,qE,qH,qJ,qK,qM,Option.bind_some,qF,qG,qN,List.length_map,hxe,hw,g3]
    by_cases ht:qDb (qX l) l.length x=0
    ·by_cases ha:(ndi l x).1=3
     ·simp [-getElem?_pos,qC,qE,qH,qJ,qK,qM,Option.bind_some,qF,qG,qN,ht,hx,hc,qBw,qBW,qAx,qAe,qAf,qAg,qAh,qAi,qAj,qAk,qAl,qAm,qAn,q8,q9,qAA,qAB,ha,qB0]
     ·simp [-getElem?_pos,qC,qE,qH,qJ,qK,qM,Option.bind_some,qF,qG,qN,ht,hx,hc,qBw,qBW,qAx,qAe,qAf,qAg,qAh,qAi,qAj,qAk,qAl,qAm,qAn,q8,q9,qAA,qAB,ha,qB0,g4,h1,h60]
    ·simp [-getElem?_pos,qC,qE,qH,qJ,qK,qM,Option.bind_some,qF,qG,qN,ht]
  ·refine ⟨1,fun n hn=>?_⟩
   obtain ⟨m,rfl,hm⟩:=up1 (n0:=0) hn
   have a1:¬(l.length:Int)<1:=by omega
   have a2:(l.length:Int)>60:=by omega
   simp [-getElem?_pos,qBd,qDn,qC,qE,qH,qJ,qK,qM,Option.bind_some,qF,qG,qN,a1,a2,qFP,h60]
 ·refine ⟨1,fun n hn=>?_⟩
  obtain ⟨m,rfl,hm⟩:=up1 (n0:=0) hn
  have a1:(l.length:Int)<1:=by omega
  simp [-getElem?_pos,qBd,qDn,qC,qE,qH,qJ,qK,qM,Option.bind_some,qF,qG,qN,a1,qFP,h1]
theorem qSh (l:List Nd) (x1 d:Int) (f n:Nat) (hx:0≤x1∧x1<l.length) (hl:l.length≤140737488351232) (hd:0≤d∧d≤1000) (hk:(kd (ndi l x1)).length≤140737488351232)
  (hrec:∀y:Int,0≤y→y<x1→qAu n (l.map qW) y (d+1)=some (qDP (qHN l) (qB0 l) (qCp l) (qX l) f y)):
  ∀(j M:Nat) (s:Int),j≤(kd (ndi l x1)).length→j+1≤M→0≤s→s≤x1→
   zC (qAd (qAu n) n) M (l.map qW,x1,d,s,(j:Int)-1)=some (.inr (goF (qB0 l) (qCp l) (qDP (qHN l) (qB0 l) (qCp l) (qX l) f) x1 ((qX l x1).take j).reverse s))∨
   (zC (qAd (qAu n) n) M (l.map qW,x1,d,s,(j:Int)-1)=some (.inl (-1))∧goF (qB0 l) (qCp l) (qDP (qHN l) (qB0 l) (qCp l) (qX l) f) x1 ((qX l x1).take j).reverse s= -1)
 |0,0,s,h1,h2,h3,h4=>by omega
 |0,M+1,s,h1,h2,h3,h4=>by
  refine .inl ?_
  rw [qP (r:= .inr s) (by simp [-getElem?_pos,qAd,qC,qE,qH,qJ,qK,qM,Option.bind_some,qF,qG,qN])]
  simp [goF]
 |j+1,0,s,h1,h2,h3,h4=>by omega
 |j+1,M+1,s,h1,h2,h3,h4=>by
  have hc:=qDf hx
  have hj:j<(kd (ndi l x1)).length:=by omega
  have hg:(qX l x1)[j]?=some (qX l x1)[j]:=List.getElem?_eq_getElem hj
  have ih:=qSh l x1 d f n hx hl hd hk hrec j M
  rw [qTm hg]
  generalize (qX l x1)[j]=k at hg
  have hi:(((j+1:Nat):Int)-1)=(j:Int):=by omega
  rw [hi,goF]
  have hg':(ndi l x1).2.2.2.2.2.2.2.2.2.2.2.2.2[j]?=some k:=hg
  have hj':j<(ndi l x1).2.2.2.2.2.2.2.2.2.2.2.2.2.length:=hj
  have hws:IntKind.i64.wrap (s-1)=s-1:=qT (by omega)
  by_cases hks:k=s-1
  ·by_cases hk0:k<0
   ·refine .inr ⟨?_,by rw [if_pos (.inr (.inl hk0))]⟩
    rw [qP (r:= .inl (-1)) (by simp [-getElem?_pos,qAd,qC,qE,qH,qJ,qK,qM,Option.bind_some,qF,qG,qN,hc,hx,qBw,qBW,qAx,qAe,qAf,qAg,qAh,qAi,qAj,qAk,qAl,qAm,qAn,q8,q9,qAA,qAB,hg',hj',hks,hws,show s-1<0 by omega])]
   ·have hws':IntKind.i64.wrap (s-1)=k:=by rw [hws,hks]
    have hkx:0≤k∧k<l.length:=by omega
    have hck:=qDf hkx
    by_cases hac:qB0 l k=true∧qCp l x1=false
    ·have ha:(ndi l k).1=3:=by simpa [qB0] using hac.1
     have hb:¬(ndi l x1).1=6:=by simpa [qCp] using hac.2
     refine .inr ⟨?_,by rw [if_pos (.inr (.inr hac))]⟩
     rw [qP (r:= .inl (-1)) (by simp [-getElem?_pos,qAd,qC,qE,qH,qJ,qK,qM,Option.bind_some,qF,qG,qN,hc,hx,qBw,qBW,qAx,qAe,qAf,qAg,qAh,qAi,qAj,qAk,qAl,qAm,qAn,q8,q9,qAA,qAB,hg',hj',hws',hk0,hck,hkx,ha,hb])]
    ·have hr:=hrec k (by omega) (by omega)
     have hwd:IntKind.i64.wrap (d+1)=d+1:=qT (by omega)
     have hw2:IntKind.i64.wrap ((j:Int)-1)=(j:Int)-1:=qT (by omega)
     have hno:¬(k≠s-1∨k<0∨(qB0 l k=true∧qCp l x1=false)):=fun h=>by
      rcases h with h|h|h
      ·exact h hks
      ·exact hk0 h
      ·exact hac h
     have hcase:¬(ndi l k).1=3∨((ndi l k).1=3∧(ndi l x1).1=6):=by
      by_cases ha:(ndi l k).1=3
      ·refine .inr ⟨ha,?_⟩
       refine Decidable.byContradiction fun hb=>hac ⟨by simp [qB0,ha],by simp [qCp,hb]⟩
      ·exact .inl ha
     rw [if_neg hno]
     by_cases ht:qDP (qHN l) (qB0 l) (qCp l) (qX l) f k<0
     ·refine .inr ⟨?_,by rw [if_pos ht]⟩
      rcases hcase with ha|⟨ha,hb⟩
      ·rw [qP (r:= .inl (-1)) (by simp [-getElem?_pos,qAd,qC,qE,qH,qJ,qK,qM,Option.bind_some,qF,qG,qN,hc,hx,qBw,qBW,qAx,qAe,qAf,qAg,qAh,qAi,qAj,qAk,qAl,qAm,qAn,q8,q9,qAA,qAB,hg',hj',hws',hk0,hck,hkx,ha,hwd,hr,ht])]
      ·rw [qP (r:= .inl (-1)) (by simp [-getElem?_pos,qAd,qC,qE,qH,qJ,qK,qM,Option.bind_some,qF,qG,qN,hc,hx,qBw,qBW,qAx,qAe,qAf,qAg,qAh,qAi,qAj,qAk,qAl,qAm,qAn,q8,q9,qAA,qAB,hg',hj',hws',hk0,hck,hkx,ha,hb,hwd,hr,ht])]
     ·rw [if_neg ht]
      have hb1:=(qTJ (qHN l) (qB0 l) (qCp l) (qX l) f (k.toNat+1) k (by omega) (by omega) (by omega)).1
      have hstep:zC (qAd (qAu n) n) (M+1) (l.map qW,x1,d,s,(j:Int))=zC (qAd (qAu n) n) M (l.map qW,x1,d,qDP (qHN l) (qB0 l) (qCp l) (qX l) f k,(j:Int)-1):=by
       rcases hcase with ha|⟨ha,hb⟩
       ·rw [qQ (v':=(l.map qW,x1,d,qDP (qHN l) (qB0 l) (qCp l) (qX l) f k,(j:Int)-1)) (by simp [-getElem?_pos,qAd,qC,qE,qH,qJ,qK,qM,Option.bind_some,qF,qG,qN,hc,hx,qBw,qBW,qAx,qAe,qAf,qAg,qAh,qAi,qAj,qAk,qAl,qAm,qAn,q8,q9,qAA,qAB,hg',hj',hws',hk0,hck,hkx,ha,hwd,hr,ht,hw2])]
       ·rw [qQ (v':=(l.map qW,x1,d,qDP (qHN l) (qB0 l) (qCp l) (qX l) f k,(j:Int)-1)) (by simp [-getElem?_pos,qAd,qC,qE,qH,qJ,qK,qM,Option.bind_some,qF,qG,qN,hc,hx,qBw,qBW,qAx,qAe,qAf,qAg,qAh,qAi,qAj,qAk,qAl,qAm,qAn,q8,q9,qAA,qAB,hg',hj',hws',hk0,hck,hkx,ha,hb,hwd,hr,ht,hw2])]
      rw [hstep]
      exact ih _ (by omega) (by omega) (by omega) (by omega)
  ·refine .inr ⟨?_,by rw [if_pos (.inl hks)]⟩
   rw [qP (r:= .inl (-1)) (by simp [-getElem?_pos,qAd,qC,qE,qH,qJ,qK,qM,Option.bind_some,qF,qG,qN,hc,hx,qBw,qBW,qAx,qAe,qAf,qAg,qAh,qAi,qAj,qAk,qAl,qAm,qAn,q8,q9,qAA,qAB,hg',hj',hws,hks])]
theorem qNz (l:List Nd) (hl:l.length≤140737488351232) (hk:∀c∈l,(kd c).length≤140737488351232∧c.2.2.2.2.1.size≤140737488351232):∀(f:Nat) (x d:Int),x<l.length→d=12-f→0≤d→Ev (qAu · (l.map qW) x d) (qDP (qHN l) (qB0 l) (qCp l) (qX l) f x)
 |0,x,d,h1,h2,h3=>by
  refine ⟨1,fun n hn=>?_⟩
  obtain ⟨m,rfl,hm⟩:=up1 (n0:=0) hn
  have a:d≥12:=by omega
  by_cases h:x<0<;>simp [-getElem?_pos,qAu,qGb,qC,qE,qH,qJ,qK,qM,Option.bind_some,qF,qG,qN,h,a,qDP]
 |f+1,x,d,h1,h2,h3=>by
  by_cases h0:x<0
  ·refine ⟨1,fun n hn=>?_⟩
   obtain ⟨m,rfl,hm⟩:=up1 (n0:=0) hn
   simp [-getElem?_pos,qAu,qGb,qC,qE,qH,qJ,qK,qM,Option.bind_some,qF,qG,qN,h0,qDP]
  ·have hx:0≤x∧x<l.length:=by omega
   have hc:=qDf hx
   have hm':=qJ6 hx
   obtain ⟨n0,hn0⟩:=qTn (F:=fun y n=>qAu n (l.map qW) y (d+1)) (f:=fun y=>qDP (qHN l) (qB0 l) (qCp l) (qX l) f y) x (fun y h3 h4=>qNz l hl hk f y (d+1) (by omega) (by omega) (by omega))
   obtain ⟨n1,g1⟩:=qST (ndi l x) (hk _ hm').2
   refine ⟨n0+n1+(kd (ndi l x)).length+5,fun n hn=>?_⟩
   obtain ⟨m,rfl,hm⟩:=up1 hn
   have g1:=g1 m (by omega)
   have h:=qSh l x d f m hx hl (by omega) (hk _ hm').1 (hn0 m (by omega)) (kd (ndi l x)).length m x (Nat.le_refl _) (by omega) (by omega) (by omega)
   have e:(qX l x).take (kd (ndi l x)).length=qX l x:=List.take_length
   rw [e] at h
   have hw2:IntKind.i64.wrap (((kd (ndi l x)).length:Int)-1)=((kd (ndi l x)).length:Int)-1:=by
    have:=(hk _ hm').1
    exact qT (by omega)
   have a:¬d≥12:=by omega
   unfold kd at h hw2
   dsimp only at g1⊢
   simp only [qAu,qGb,qDP,qC,qE,qH,qJ,qK,qM,Option.bind_some,qF,qG,qN]
   cases hnb:qF3 (ndi l x) with
   |false=>
    rw [hnb] at g1
    simp [-getElem?_pos,qC,qE,qH,qJ,qK,qM,Option.bind_some,qF,qG,qN,h0,a,hc,hx,qBw,qBW,qAx,qAe,qAf,qAg,qAh,qAi,qAj,qAk,qAl,qAm,qAn,q8,q9,qAA,qAB,g1,qHN,hnb]
   |true=>
    rw [hnb] at g1
    rcases h with h|⟨h,h'⟩
    ·simp [-getElem?_pos,qC,qE,qH,qJ,qK,qM,Option.bind_some,qF,qG,qN,h0,a,hc,hx,qBw,qBW,qAx,qAe,qAf,qAg,qAh,qAi,qAj,qAk,qAl,qAm,qAn,q8,q9,qAA,qAB,g1,qHN,hnb,hw2,h]
    ·simp only [h']
     simp [-getElem?_pos,qC,qE,qH,qJ,qK,qM,Option.bind_some,qF,qG,qN,h0,a,hc,hx,qBw,qBW,qAx,qAe,qAf,qAg,qAh,qAi,qAj,qAk,qAl,qAm,qAn,q8,q9,qAA,qAB,g1,qHN,hnb,hw2,h]
theorem qVY {l:List Nd}:qFP l=(decide (1≤l.length∧l.length≤60)&&(!qB0 l ((l.length:Int)-1)&&decide (qDP (qHN l) (qB0 l) (qCp l) (qX l) 12 ((l.length:Int)-1)=0))):=by
 rw [Bool.eq_iff_iff]
 unfold qFP
 simp only [Bool.and_eq_true,decide_eq_true_eq]
 constructor
 ·intro ⟨h1,h2,h3,h4,h5⟩
  refine ⟨h1,h4,?_⟩
  rw [qUh (qHN l) (qB0 l) (qCp l) (qX l) 12 l.length l.length ((l.length:Int)-1) (by omega) (by omega) (by omega) (fun i i0 i1=>qGg.1 h2 i i0 (by omega)) (by omega) (by simpa using h5)]
  exact h3
 ·intro ⟨h1,h4,h5⟩
  obtain ⟨b1,b2,b3,b4⟩:=qTJ (qHN l) (qB0 l) (qCp l) (qX l) 12 l.length ((l.length:Int)-1) (by omega) (by omega) (by omega)
  rw [h5] at b2 b3
  refine ⟨h1,qGg.2 (fun i i0 i1=>b3 i i0 (by omega)),b2,h4,?_⟩
  have:=b4 l.length (fun i i0 i1=>(b3 i i0 i1).2) (by omega)
  simpa using this
theorem qIZ (l:List Nd) (hl:l.length≤140737488351232) (hk:∀c∈l,(kd c).length≤140737488351232∧c.2.2.2.2.1.size≤140737488351232):Ev (qCB · (l.map qW)) (qFP l):=by
 rw [qVY]
 by_cases h:1≤l.length∧l.length≤60
 ·obtain ⟨n1,g1⟩:=qNz l hl hk 12 ((l.length:Int)-1) 0 (by omega) (by omega) (by omega)
  obtain ⟨n2,g2⟩:=qAO (l.length:Int) 1 60
  refine ⟨n1+n2+1,fun n hn=>?_⟩
  obtain ⟨m,rfl,hm⟩:=up1 hn
  have g1:=g1 m (by omega)
  have g2:=g2 m (by omega)
  dsimp only at g1 g2⊢
  have hw:IntKind.i64.wrap ((l.length:Int)-1)=(l.length:Int)-1:=qT (by omega)
  have hx:0≤(l.length:Int)-1∧(l.length:Int)-1<l.length:=by omega
  have hc:=qDf hx
  have h':(1:Int)≤l.length∧(l.length:Int)≤60:=by omega
  generalize hxe:(l.length:Int)-1=x at hw hx hc g1⊢
  by_cases ha:(ndi l x).1=3
  ·simp [-getElem?_pos,qCB,qDs,qC,qE,qH,qJ,qK,qM,Option.bind_some,qF,qG,qN,hxe,g2,h',hw,hx,hc,qBw,qBW,qAx,qAe,qAf,qAg,qAh,qAi,qAj,qAk,qAl,qAm,qAn,q8,q9,qAA,qAB,ha,qB0]
  ·by_cases hf:qDP (qHN l) (qB0 l) (qCp l) (qX l) 12 x=0<;>simp [-getElem?_pos,qCB,qDs,qC,qE,qH,qJ,qK,qM,Option.bind_some,qF,qG,qN,hxe,g1,g2,h,h',hw,hx,hc,qBw,qBW,qAx,qAe,qAf,qAg,qAh,qAi,qAj,qAk,qAl,qAm,qAn,q8,q9,qAA,qAB,ha,qB0,hf]
 ·obtain ⟨n2,g2⟩:=qAO (l.length:Int) 1 60
  refine ⟨n2+1,fun n hn=>?_⟩
  obtain ⟨m,rfl,hm⟩:=up1 hn
  have g2:=g2 m (by omega)
  dsimp only at g2⊢
  have h':¬((1:Int)≤l.length∧(l.length:Int)≤60):=by omega
  simp [-getElem?_pos,qCB,qDs,qC,qE,qH,qJ,qK,qM,Option.bind_some,qF,qG,qN,g2,h,h']
def qB2 (l:List UInt8):List UInt8:=l.flatMap fun c=>if c=34 then [34,34] else [c]
def qO8 (s:ByteArray):ByteArray:=⟨(34::qB2 s.toList++ [34]).toArray⟩
theorem qIB (c:UInt8) (l:List UInt8):qB2 (c::l)=(if c=34 then [34,34] else [c])++qB2 l:=by simp [qB2]
theorem qSi (l r:List UInt8):qB2 (l++r)=qB2 l++qB2 r:=by simp [qB2]
theorem qJd:∀l:List UInt8,(qB2 l).length≤2*l.length
 | []=>by simp [qB2]
 |c::l=>by
  have:=qJd l
  rw [qIB]
  by_cases h:c=34<;>simp [h]<;>omega
theorem qMf:∀s:List UInt8,Lib.replaceK [34] [34,34] (Lib.count s [34]) s=qB2 s
 | []=>by
  rw [Lib.count_miss (by rfl)]
  rfl
 |b::l=>by
  have ih:=qMf l
  by_cases hb:b=34
  ·subst hb
   have h0:Lib.index (34::l) [34]=((0:Nat):Int):=by simp [Lib.index,List.isPrefixOf]
   rw [Lib.count_hit (by simp) h0,Nat.add_comm,Lib.replaceK_hit _ _ _ _ 0 h0]
   simp only [List.take_zero,List.nil_append,Nat.zero_add,List.length_singleton,List.drop_succ_cons,List.drop_zero]
   rw [ih,qIB,if_pos rfl]
  ·have hix:Lib.index (b::l) [34]=if Lib.index l [34]== -1 then-1 else Lib.index l [34]+1:=by
    have:((34:UInt8)==b)=false:=by simpa using fun e=>hb e.symm
    simp [Lib.index,List.isPrefixOf,this]
   rw [qIB,if_neg hb]
   by_cases hm:Lib.index l [34]= -1
   ·rw [hm] at hix
    rw [Lib.count_miss hm] at ih
    rw [Lib.count_miss (by rw [hix];rfl)]
    rw [Lib.replaceK] at ih⊢
    rw [←ih]
    rfl
   ·have hge:=Lib.index_ge l [34]
    obtain ⟨i,hi⟩:∃i:Nat,Lib.index l [34]=i:=⟨(Lib.index l [34]).toNat,by omega⟩
    have hix':Lib.index (b::l) [34]=((i+1:Nat):Int):=by
     rw [hix,if_neg (by simp [hm]),hi]
     omega
    rw [Lib.count_hit (by simp) hi,Nat.add_comm,Lib.replaceK_hit _ _ _ _ i hi] at ih
    rw [Lib.count_hit (by simp) hix',Nat.add_comm,Lib.replaceK_hit _ _ _ _ (i+1) hix']
    rw [←ih]
    simp only [List.length_singleton,List.take_succ_cons,List.drop_succ_cons,List.cons_append,List.singleton_append,List.nil_append]
theorem qO9 (s:List UInt8):Lib.replaceAll s [34] [34,34]=qB2 s:=by
 have h1:(([34]:List UInt8)== [34,34])=false:=by decide
 have h2:Lib.replaceNum s [34] (-1)=Lib.count s [34]:=by unfold Lib.replaceNum;rw [if_pos (.inl (by decide))]
 unfold Lib.replaceAll Lib.replace
 rw [h1,h2]
 exact qMf s
theorem qV6 {s:ByteArray} {i:Nat} {c:UInt8} (h:s.toList[i]?=some c):s.extract i (i+1)=⟨#[c]⟩:=by
 apply qIV
 rw [Go.Lib.toList_data] at h
 rw [ByteArray.data_extract,Array.toList_extract]
 show (s.data.toList.drop i).take (i+1-i)=_
 rw [qEI h,Nat.add_sub_cancel_left]
 rfl
theorem qUH (n:Nat) (s A:ByteArray) (i:Nat) (c:UInt8) (hg:s.toList[i]?=some c) (hi:i<s.size) (hA:A.size≤10000) (hs:s.size≤1000):
  (qBr n (s,A,(i:Int))).run=some (.inl (s,if c=34 then (A++⟨#[34]⟩)++⟨#[c]⟩ else A++⟨#[c]⟩,((i+1:Nat):Int))):=by
 have hi':(i:Int)<s.size:=by omega
 have w1:IntKind.i64.wrap ((i:Int)+1)=((i+1:Nat):Int):=by rw [qT (by omega)];omega
 have hx:=qV6 hg
 have d1:(⟨#[34]⟩:ByteArray).size=1:=rfl
 have d2:(⟨#[c]⟩:ByteArray).size=1:=rfl
 have y1:(0:Int)≤(i:Int)∧(i:Int)≤((i+1:Nat):Int)∧((i+1:Nat):Int)≤s.size:=by omega
 have y0:(0:Int)≤(i:Int):=by omega
 have z1:A.size+(⟨#[34]⟩:ByteArray).size≤9223372036854775807:=by omega
 have z2:(A++(⟨#[34]⟩:ByteArray)).size+(⟨#[c]⟩:ByteArray).size≤9223372036854775807:=by rw [ByteArray.size_append];omega
 have z3:A.size+(⟨#[c]⟩:ByteArray).size≤9223372036854775807:=by omega
 by_cases hc:c=34
 ·have hb:((c.toNat:Int)==(34:Int))=true:=by rw [hc];rfl
  rw [if_pos hc]
  simp only [qBr,qC,qE,qH,qJ,qK,qM,Option.bind_some,qF,qG,qN,decide_eq_true hi',decide_eq_true y0,Int.toNat_natCast,hg,hb,decide_eq_true z1,w1,decide_eq_true y1,hx,decide_eq_true z2,if_true]
 ·have hb:((c.toNat:Int)==(34:Int))=false:=by
   have:c.toNat≠34:=fun e=>hc (UInt8.toNat_inj.1 e)
   simp
   omega
  simp only [qBr,qC,qE,qH,qJ,qK,qM,Option.bind_some,qF,qG,qN,decide_eq_true hi',decide_eq_true y0,Int.toNat_natCast,hg,hb,w1,decide_eq_true y1,hx,decide_eq_true z3,if_true,hc,if_false,Bool.false_eq_true]
theorem qRa (n:Nat) (s:ByteArray) (hs:s.size≤1000):∀(r pre:List UInt8) (M:Nat),s.toList=pre++r→r.length+1≤M→
  zC (qBr n) M (s,⟨(34::qB2 pre).toArray⟩,(pre.length:Int))=some ⟨(34::qB2 s.toList).toArray⟩
 |r,pre,0,h1,h2=>by omega
 | [],pre,M+1,h1,h2=>by
  have hi:¬(pre.length:Int)<s.size:=by rw [qCP,h1];simp
  rw [h1,List.append_nil]
  generalize (⟨(34::qB2 pre).toArray⟩:ByteArray)=A
  rw [qP (r:=A) (by simp [qBr,qC,qE,qH,qJ,qK,qM,Option.bind_some,qF,qG,qN,hi])]
 |c::r,pre,M+1,h1,h2=>by
  have hl:s.size=pre.length+(r.length+1):=by rw [qCP,h1];simp
  have hg:s.toList[pre.length]?=some c:=by rw [h1];simp
  have hq:=qJd pre
  have hA:(⟨(34::qB2 pre).toArray⟩:ByteArray).size≤10000:=by
   rw [qDe]
   simp
   omega
  rw [qQ (qUH n s _ pre.length c hg (by omega) hA hs)]
  have e:(if c=34 then ((⟨(34::qB2 pre).toArray⟩:ByteArray)++⟨#[34]⟩)++⟨#[c]⟩ else (⟨(34::qB2 pre).toArray⟩:ByteArray)++⟨#[c]⟩)=⟨(34::qB2 (pre++ [c])).toArray⟩:=by
   apply qIV
   by_cases hc:c=34
   ·rw [if_pos hc,qEd,qEd,qSi,qIB,if_pos hc,hc]
    simp [qB2]
   ·rw [if_neg hc,qEd,qSi,qIB,if_neg hc]
    simp [qB2]
  rw [e]
  have h:=qRa n s hs r (pre++ [c]) M (by rw [h1];simp) (by simp at h2;omega)
  rw [show ((pre++ [c]).length:Int)=((pre.length+1:Nat):Int) by simp] at h
  exact h
theorem qUI (s:ByteArray):(qO8 s).size≤2*s.size+2:=by
 have:=qJd s.toList
 rw [qAa] at this
 rw [qDe]
 simp [qO8]
 omega
theorem qQL (s:ByteArray) (hs:s.size≤1000):Ev (qFd · s) (qO8 s):=by
 refine ⟨s.size+5,fun n hn=>?_⟩
 obtain ⟨m,rfl,hm⟩:=up1 hn
 have h:=qRa m s hs s.toList [] m rfl (by rw [qAa];omega)
 simp only [List.length_nil,Int.natCast_zero] at h
 have e0:(⟨(34::qB2 []).toArray⟩:ByteArray)=⟨#[34]⟩:=rfl
 rw [e0] at h
 have hz:(⟨(34::qB2 s.toList).toArray⟩:ByteArray).size+(⟨#[34]⟩:ByteArray).size≤9223372036854775807:=by
  have:=qJd s.toList
  rw [qAa] at this
  have d1:(⟨#[34]⟩:ByteArray).size=1:=rfl
  rw [qDe,d1]
  simp
  omega
 simp only [qFd,qHd,qC,qE,qH,qJ,qK,qM,Option.bind_some,qF,qG,qN,h,decide_eq_true hz,if_true]
 congr 1
theorem qSU (s:ByteArray) (hs:s.size≤1000):Ev (qEZ · s ⟨#[34]⟩ ⟨#[34,34]⟩) ⟨(qB2 s.toList).toArray⟩:=by
 refine ⟨1,fun n hn=>?_⟩
 obtain ⟨m,rfl,hm⟩:=up1 (n0:=0) hn
 show ze s ⟨#[34]⟩ ⟨#[34,34]⟩=_
 have hc:=Lib.countB_mul_le (⟨#[34]⟩:ByteArray) (by decide) s.size s (Nat.le_refl _)
 have d1:(⟨#[34]⟩:ByteArray).size=1:=rfl
 have d2:(⟨#[34,34]⟩:ByteArray).size=2:=rfl
 unfold ze
 rw [d1] at hc
 rw [if_pos (by rw [d1,d2];omega)]
 congr 3
 rw [←Go.Lib.toList_data]
 exact qO9 _
def lvl (op:Int):Int:=if op≥6 then 1 else if op=5 then 2 else if op≥3 then 4 else 3
theorem qUJ (op:Int):1≤lvl op∧lvl op≤4:=by
 unfold lvl
 split
 ·omega
 ·split
  ·omega
  ·split<;>omega
theorem qKY (op:Int):Ev (qCw · op) (lvl op):=by
 refine ⟨1,fun n hn=>?_⟩
 obtain ⟨m,rfl,hm⟩:=up1 hn
 simp only [qCw,qHZ,qC,qE,qH,qJ,qK,qM,Option.bind_some,qF,qG,qN]
 unfold lvl
 by_cases h1:op≥6
 ·simp [h1]
 ·by_cases h2:op=5
  ·simp [h2]
  ·by_cases h3:op≥3<;>simp [h1,h2,h3]
theorem qV7 {op:Int} (h:1≤op∧op≤11):op=1∨op=2∨op=3∨op=4∨op=5∨op=6∨op=7∨op=8∨op=9∨op=10∨op=11:=by omega
theorem qMg (op:Int) (h:1≤op∧op≤11):Ev (qEk · op) (lvl op):=by
 refine ⟨1,fun n hn=>?_⟩
 obtain ⟨m,rfl,hm⟩:=up1 hn
 simp only [qEk,qJv,qC,qE,qH,qJ,qK,qM,Option.bind_some,qF,qG,qN]
 rcases qV7 h with rfl|rfl|rfl|rfl|rfl|rfl|rfl|rfl|rfl|rfl|rfl<;>rfl
def qAY (op:Int):ByteArray:=if op=1 then ⟨#[43]⟩ else if op=2 then ⟨#[45]⟩ else if op=3 then ⟨#[42]⟩ else if op=4 then ⟨#[47]⟩ else if op=5 then ⟨#[38]⟩ else if op=6 then ⟨#[61]⟩ else if op=7 then ⟨#[60,62]⟩ else if op=8 then ⟨#[60]⟩ else if op=9 then ⟨#[60,61]⟩ else if op=10 then ⟨#[62]⟩ else ⟨#[62,61]⟩
def fnS (op:Int):ByteArray:=if op=1 then ⟨#[83,85,77]⟩ else if op=2 then ⟨#[77,73,78]⟩ else if op=3 then ⟨#[77,65,88]⟩ else if op=4 then ⟨#[67,79,85,78,84]⟩ else if op=5 then ⟨#[73,70]⟩ else if op=6 then ⟨#[65,78,68]⟩ else if op=7 then ⟨#[79,82]⟩ else if op=8 then ⟨#[78,79,84]⟩ else if op=9 then ⟨#[65,66,83]⟩ else ⟨#[76,69,78]⟩
theorem qNH {op:Int} (h:1≤op∧op≤11):(qAY op).size≤2:=by
 rcases qV7 h with rfl|rfl|rfl|rfl|rfl|rfl|rfl|rfl|rfl|rfl|rfl<;>decide
theorem qRb {op:Int} (h:1≤op∧op≤10):(fnS op).size≤5:=by
 rcases ten h with rfl|rfl|rfl|rfl|rfl|rfl|rfl|rfl|rfl|rfl<;>decide
theorem qLe (op:Int) (h:1≤op∧op≤11):Ev (qDU · op) (qAY op):=by
 refine ⟨1,fun n hn=>?_⟩
 obtain ⟨m,rfl,hm⟩:=up1 hn
 simp only [qDU,qIm,qC,qE,qH,qJ,qK,qM,Option.bind_some,qF,qG,qN]
 rcases qV7 h with rfl|rfl|rfl|rfl|rfl|rfl|rfl|rfl|rfl|rfl|rfl<;>rfl
theorem qIC (op:Int) (h:1≤op∧op≤11):Ev (qBn · op) (qAY op):=by
 refine ⟨1,fun n hn=>?_⟩
 obtain ⟨m,rfl,hm⟩:=up1 hn
 simp only [qBn,qIy,qC,qE,qH,qJ,qK,qM,Option.bind_some,qF,qG,qN]
 rcases qV7 h with rfl|rfl|rfl|rfl|rfl|rfl|rfl|rfl|rfl|rfl|rfl<;>rfl
theorem qN0 (op:Int) (h:1≤op∧op≤10):Ev (qDE · op) (fnS op):=by
 refine ⟨1,fun n hn=>?_⟩
 obtain ⟨m,rfl,hm⟩:=up1 hn
 simp only [qDE,qKt,qC,qE,qH,qJ,qK,qM,Option.bind_some,qF,qG,qN]
 rcases ten h with rfl|rfl|rfl|rfl|rfl|rfl|rfl|rfl|rfl|rfl<;>rfl
theorem qLf (op:Int) (h:1≤op∧op≤10):Ev (qCo · op) (fnS op):=by
 refine ⟨1,fun n hn=>?_⟩
 obtain ⟨m,rfl,hm⟩:=up1 hn
 simp only [qCo,qIx,qC,qE,qH,qJ,qK,qM,Option.bind_some,qF,qG,qN]
 rcases ten h with rfl|rfl|rfl|rfl|rfl|rfl|rfl|rfl|rfl|rfl<;>rfl
def qRc (xs:List ByteArray):ByteArray:=⟨(Lib.join (xs.map (·.data.toList)) [44]).toArray⟩
def par (b:Bool) (s:ByteArray):ByteArray:=if b=true then ((⟨#[40]⟩:ByteArray)++s)++⟨#[41]⟩ else s
def kid (c:Nd) (j:Nat):Int:=(kd c).getD j 0
def qy (l:List Nd):Nat→Int→Int→ByteArray
 |0,_,_=>⟨#[]⟩
 |f+1,i,t=>
  if (ndi l i).1=1 then (if (ndi l i).2.2.1=2 then qO8 (ndi l i).2.2.2.2.1 else qCg (ndi l i).2.2.1 (ndi l i).2.2.2.1 (ndi l i).2.2.2.2.1)
  else if (ndi l i).1=2 then qCm (ndi l i).2.2.2.2.2.1 (ndi l i).2.2.2.2.2.2.1 (ndi l i).2.2.2.2.2.2.2.1 (ndi l i).2.2.2.2.2.2.2.2.1
  else if (ndi l i).1=3 then (qCm (ndi l i).2.2.2.2.2.1 (ndi l i).2.2.2.2.2.2.1 (ndi l i).2.2.2.2.2.2.2.1 (ndi l i).2.2.2.2.2.2.2.2.1++⟨#[58]⟩)++qCm (ndi l i).2.2.2.2.2.2.2.2.2.1 (ndi l i).2.2.2.2.2.2.2.2.2.2.1 (ndi l i).2.2.2.2.2.2.2.2.2.2.2.1 (ndi l i).2.2.2.2.2.2.2.2.2.2.2.2.1
  else if (ndi l i).1=4 then (⟨#[45]⟩:ByteArray)++qy l f (kid (ndi l i) 0) 5
  else if (ndi l i).1=5 then par (decide (lvl (ndi l i).2.1<t)) ((qy l f (kid (ndi l i) 0) (lvl (ndi l i).2.1)++qAY (ndi l i).2.1)++qy l f (kid (ndi l i) 1) (lvl (ndi l i).2.1+1))
  else ((fnS (ndi l i).2.1++⟨#[40]⟩)++qRc ((qX l i).map fun k=>qy l f k 1))++⟨#[41]⟩
theorem qUk (l:List Nd) (f:Nat) (i:Int):qy l f i 0=qy l f i 1:=by
 cases f with
 |zero=>rfl
 |succ f=>
  have h:=qUJ (ndi l i).2.1
  have e:decide (lvl (ndi l i).2.1<0)=decide (lvl (ndi l i).2.1<1):=by
   rw [decide_eq_false (by omega),decide_eq_false (by omega)]
  simp only [qy,e]
theorem qLg {c:Nd} (h:qF3 c=true):(c.1=1∧okV c.2.2.1 c.2.2.2.1 c.2.2.2.2.1=true)∨c.1=2∨c.1=3∨(c.1=4∧(kd c).length=1)∨(c.1=5∧(1≤c.2.1∧c.2.1≤11)∧(kd c).length=2)∨(c.1=6∧(1≤c.2.1∧c.2.1≤10)∧(1≤(kd c).length∧(kd c).length≤10)):=by
 unfold qF3 at h
 by_cases k1:c.1=1
 ·rw [if_pos k1] at h
  simp only [Bool.and_eq_true] at h
  exact .inl ⟨k1,h.2.2.2.2.1⟩
 rw [if_neg k1] at h
 by_cases k2:c.1=2
 ·exact .inr (.inl k2)
 rw [if_neg k2] at h
 by_cases k3:c.1=3
 ·exact .inr (.inr (.inl k3))
 rw [if_neg k3] at h
 by_cases k4:c.1=4
 ·rw [if_pos k4] at h
  simp only [Bool.and_eq_true,decide_eq_true_eq] at h
  exact .inr (.inr (.inr (.inl ⟨k4,h.2.2.2.2⟩)))
 rw [if_neg k4] at h
 by_cases k5:c.1=5
 ·rw [if_pos k5] at h
  simp only [Bool.and_eq_true,decide_eq_true_eq] at h
  exact .inr (.inr (.inr (.inr (.inl ⟨k5,h.1,h.2.2.2.2⟩))))
 rw [if_neg k5] at h
 by_cases k6:c.1=6
 ·rw [if_pos k6] at h
  simp only [Bool.and_eq_true] at h
  have ha:=h.1
  unfold qJb at ha
  refine .inr (.inr (.inr (.inr (.inr ⟨k6,?_⟩))))
  by_cases h5:c.2.1=5
  ·rw [if_pos h5] at ha
   have:=of_decide_eq_true ha
   omega
  ·rw [if_neg h5] at ha
   by_cases h8:8≤c.2.1∧c.2.1≤10
   ·rw [if_pos h8] at ha
    have:=of_decide_eq_true ha
    omega
   ·rw [if_neg h8] at ha
    by_cases h1:1≤c.2.1∧c.2.1≤7
    ·rw [if_pos h1] at ha
     have:=of_decide_eq_true ha
     omega
    ·rw [if_neg h1] at ha
     cases ha
 ·rw [if_neg k6] at h
  cases h
def szB:Nat→Nat
 |0=>37
 |f+1=>11*szB f
theorem qV8:∀f:Fin 13,szB f.val≤120000000000000:=by decide
theorem qVZ {f:Nat} (h:f≤12):szB f≤120000000000000:=qV8 ⟨f,by omega⟩
theorem qVa:∀f:Nat,37≤szB f
 |0=>Nat.le_refl _
 |f+1=>by have:=qVa f;simp only [szB];omega
theorem qMh (x:List UInt8) (r:List (List UInt8)) (sep:List UInt8):Lib.joinTail sep (x::r)=sep++x++Lib.joinTail sep r:=by simp [Lib.joinTail]
theorem qN1:∀(xs:List ByteArray) (b:Nat),(∀x∈xs,x.size≤b)→(Lib.joinTail [44] (xs.map (·.data.toList))).length≤xs.length*(b+1)
 | [],b,h=>by simp [Lib.joinTail]
 |x::r,b,h=>by
  have ih:=qN1 r b fun y hy=>h y (List.mem_cons_of_mem _ hy)
  have hx:=h x (List.mem_cons_self ..)
  rw [qDe] at hx
  rw [List.map_cons,qMh,List.length_append,List.length_append,List.length_singleton,List.length_cons,Nat.add_mul]
  omega
theorem qNI {xs:List ByteArray} {b:Nat} (h:∀x∈xs,x.size≤b):(qRc xs).size≤xs.length*(b+1):=by
 rw [qDe]
 show (Lib.join (xs.map (·.data.toList)) [44]).length≤_
 cases xs with
 |nil=>simp [Lib.join_nil]
 |cons x r=>
  have h1:=qN1 r b fun y hy=>h y (List.mem_cons_of_mem _ hy)
  have hx:=h x (List.mem_cons_self ..)
  rw [qDe] at hx
  rw [List.map_cons,Lib.join_cons,List.length_append,List.length_cons,Nat.add_mul]
  omega
structure Fine (l:List Nd):Prop where
 len:l.length≤60
 own:∀i:Int,0≤i→i<l.length→qHN l i=true∧qIA (qB0 l) (qCp l) (qX l) i
 sz:∀c∈l,(kd c).length≤140737488351232∧c.2.2.2.2.1.size≤140737488351232
theorem Fine.kid {l:List Nd} (h:Fine l) {f:Nat} {i k:Int} (hi:0≤i∧i<l.length) (hd:qBE (qX l) (i.toNat+1) i≤(f+1:Nat)) (hk:k∈qX l i):(0≤k∧k<l.length)∧qBE (qX l) (k.toNat+1) k≤f:=by
 have hin:=(h.own i hi.1 hi.2).2 k hk
 have h1:=(qRY (qX l) (n:=i) (b:=((f+1:Nat):Int)) (f:=i.toNat) (by omega)).1 hd k hk
 refine ⟨by omega,?_⟩
 rw [qRZ (qB0 l) (qCp l) (qX l) (k.toNat+1) i.toNat k (by omega) (by omega) (fun j j0 j1=>(h.own j j0 (by omega)).2) (by omega)]
 omega
theorem qPA {l:List Nd} (h:Fine l):∀(f:Nat) (i t:Int),f≤12→(0≤i∧i<l.length)→qBE (qX l) (i.toNat+1) i≤f→(qy l f i t).size≤szB f
 |0,i,t,hf,hi,hd=>by show (⟨#[]⟩:ByteArray).size≤_;exact Nat.zero_le _
 |f+1,i,t,hf,hi,hd=>by
  have ih:=fun k hk t'=>qPA h f k t' (by omega) (h.kid hi hd hk).1 (h.kid hi hd hk).2
  have hs:=qVa f
  have hp:∀a b c d,(qCm a b c d).size≤30:=qLa
  have hz:=(h.sz _ (qJ6 hi)).2
  have d1:(⟨#[58]⟩:ByteArray).size=1:=rfl
  have d2:(⟨#[45]⟩:ByteArray).size=1:=rfl
  have d3:(⟨#[40]⟩:ByteArray).size=1:=rfl
  have d4:(⟨#[41]⟩:ByteArray).size=1:=rfl
  have hk0:∀j,j<(kd (ndi l i)).length→kid (ndi l i) j∈qX l i:=fun j hj=>by
   unfold kid
   rw [List.getD_eq_getElem?_getD,List.getElem?_eq_getElem hj]
   exact List.getElem_mem hj
  rw [szB,qy]
  rcases qLg (h.own i hi.1 hi.2).1 with ⟨k,hv⟩|k|k|⟨k,hk⟩|⟨k,ho,hk⟩|⟨k,ho,hk⟩
  ·rw [if_pos k]
   by_cases k2:(ndi l i).2.2.1=2
   ·rw [if_pos k2]
    rw [k2] at hv
    have:=(qSa hv).2.1
    have:=qUI (ndi l i).2.2.2.2.1
    omega
   ·rw [if_neg k2]
    have:=qUF hv
    omega
  ·rw [if_neg (by omega),if_pos k]
   have:=hp (ndi l i).2.2.2.2.2.1 (ndi l i).2.2.2.2.2.2.1 (ndi l i).2.2.2.2.2.2.2.1 (ndi l i).2.2.2.2.2.2.2.2.1
   omega
  ·rw [if_neg (by omega),if_neg (by omega),if_pos k,ByteArray.size_append,ByteArray.size_append]
   have h1:=hp (ndi l i).2.2.2.2.2.1 (ndi l i).2.2.2.2.2.2.1 (ndi l i).2.2.2.2.2.2.2.1 (ndi l i).2.2.2.2.2.2.2.2.1
   have h2:=hp (ndi l i).2.2.2.2.2.2.2.2.2.1 (ndi l i).2.2.2.2.2.2.2.2.2.2.1 (ndi l i).2.2.2.2.2.2.2.2.2.2.2.1 (ndi l i).2.2.2.2.2.2.2.2.2.2.2.2.1
   omega
  ·rw [if_neg (by omega),if_neg (by omega),if_neg (by omega),if_pos k,ByteArray.size_append]
   have:=ih _ (hk0 0 (by omega)) 5
   omega
  ·rw [if_neg (by omega),if_neg (by omega),if_neg (by omega),if_neg (by omega),if_pos k]
   have h1:=ih _ (hk0 0 (by omega)) (lvl (ndi l i).2.1)
   have h2:=ih _ (hk0 1 (by omega)) (lvl (ndi l i).2.1+1)
   have h3:=qNH ho
   unfold par
   split
   ·rw [ByteArray.size_append,ByteArray.size_append,ByteArray.size_append,ByteArray.size_append]
    omega
   ·rw [ByteArray.size_append,ByteArray.size_append]
    omega
  ·rw [if_neg (by omega),if_neg (by omega),if_neg (by omega),if_neg (by omega),if_neg (by omega)]
   rw [ByteArray.size_append,ByteArray.size_append,ByteArray.size_append]
   have h1:=qRb ho
   have h2:=qNI (xs:=(qX l i).map fun k=>qy l f k 1) (b:=szB f) (fun x hx=>by
    obtain ⟨k,hk,rfl⟩:=List.mem_map.1 hx
    exact ih k hk 1)
   have h3:(qX l i).length≤10:=hk.2
   have h4:(qX l i).length*(szB f+1)≤10*(szB f+1):=Nat.mul_le_mul_right _ h3
   rw [List.length_map] at h2
   omega
abbrev R14:=Int×Int×Int×Int×ByteArray×Int×Int×Bool×Bool×Int×Int×Bool×Bool×List (List PV)
theorem qRd (rec:List (List PV)→Int→Int→Option ByteArray) (n:Nat) (rows:List (List PV)) (A t:ByteArray) (R:R14) (i:Nat) (k:Int) (hg:R.2.2.2.2.2.2.2.2.2.2.2.2.2[i]?=some (qA8 k)) (hr:rec rows k 0=some t) (hA:A.size≤2000000000000000) (ht:t.size≤120000000000000) (hi:i≤1000):
  (qBs rec n (rows,A,(i:Int),R)).run=some (.inl (rows,(if i=0 then A++t else (A++(⟨#[44]⟩:ByteArray))++t),((i+1:Nat):Int),R)):=by
 obtain ⟨a0,a1,a2,a3,a4,a5,a6,a7,a8,a9,a10,a11,a12,a13⟩:=R
 have hl:i<a13.length:=(List.getElem?_eq_some_iff.1 hg).1
 have h1:(i:Int)<(a13.length:Int):=by omega
 have h2:0≤(i:Int)∧(i:Int)<(a13.length:Int):=by omega
 have w1:IntKind.i64.wrap ((i:Int)+1)=((i+1:Nat):Int):=by rw [qT (by omega)];omega
 have d1:(⟨#[44]⟩:ByteArray).size=1:=rfl
 have z1:A.size+(⟨#[44]⟩:ByteArray).size≤9223372036854775807:=by omega
 have z2:(A++(⟨#[44]⟩:ByteArray)).size+t.size≤9223372036854775807:=by rw [ByteArray.size_append];omega
 have z3:A.size+t.size≤9223372036854775807:=by omega
 by_cases h0:i=0
 ·subst h0
  simp only [qBs,qC,qE,qH,qJ,qK,qM,Option.bind_some,qF,qG,qN,decide_eq_true h1,Int.natCast_zero,gt_iff_lt,Int.lt_irrefl,decide_false,Bool.false_eq_true,if_false,if_true] at*
  simp only [decide_eq_true h1,decide_eq_true h2,if_true,Int.toNat_zero,hg,Option.bind_some,qBW,qAx,decide_true,hr,decide_eq_true z3,w1]
 ·have hp:(i:Int)>0:=by omega
  simp only [qBs,qC,qE,qH,qJ,qK,qM,Option.bind_some,qF,qG,qN,decide_eq_true h1,decide_eq_true hp,if_true,decide_eq_true z1,decide_eq_true h2,Int.toNat_natCast,hg,qBW,qAx,decide_true,hr,decide_eq_true z2,w1,h0,if_false]
theorem qSj (l:List Nd) (f n:Nat) (R:R14) (b:Nat) (hb:b≤120000000000000) (ks:List Int) (hks:R.2.2.2.2.2.2.2.2.2.2.2.2.2=ks.map qA8) (hk10:ks.length≤10)
  (hr:∀k∈ks,qo n (l.map qW) k 0=some (qy l f k 1)∧(qy l f k 1).size≤b):
  ∀(r pre:List Int) (A:ByteArray) (M:Nat),ks=pre++r→r.length+1≤M→A.size≤100+pre.length*(b+1)→
   zC (qBs (qo n) n) M (l.map qW,A,(pre.length:Int),R)=some ⟨(A.data.toList++(if pre.length=0 then Lib.join (r.map fun k=>(qy l f k 1).data.toList) [44] else Lib.joinTail [44] (r.map fun k=>(qy l f k 1).data.toList))).toArray⟩
 |r,pre,A,0,h1,h2,h3=>by omega
 | [],pre,A,M+1,h1,h2,h3=>by
  obtain ⟨a0,a1,a2,a3,a4,a5,a6,a7,a8,a9,a10,a11,a12,a13⟩:=R
  simp only at hks
  subst hks
  have hi:¬(pre.length:Int)<((ks.map qA8).length:Int):=by rw [List.length_map,h1];simp
  rw [qP (r:=A) (by simp only [qBs,qC,qE,qH,qJ,qK,qM,Option.bind_some,qF,qG,qN,decide_eq_false hi,Bool.false_eq_true,if_false])]
  congr 1
  apply qIV
  simp [Lib.joinTail,Lib.join_nil]
 |k::r,pre,A,M+1,h1,h2,h3=>by
  have hm:k∈ks:=by rw [h1];simp
  obtain ⟨g1,g2⟩:=hr k hm
  have hpl:pre.length+(r.length+1)=ks.length:=by rw [h1];simp
  have hmul:pre.length*(b+1)≤10*(b+1):=Nat.mul_le_mul_right _ (by omega)
  have hg:R.2.2.2.2.2.2.2.2.2.2.2.2.2[pre.length]?=some (qA8 k):=by rw [hks,h1,List.getElem?_map];simp
  rw [qQ (qRd (qo n) n (l.map qW) A (qy l f k 1) R pre.length k hg g1 (by omega) (by omega) (by omega))]
  have h:=qSj l f n R b hb ks hks hk10 hr r (pre++ [k]) (if pre.length=0 then A++qy l f k 1 else (A++(⟨#[44]⟩:ByteArray))++qy l f k 1) M (by rw [h1];simp) (by simp at h2;omega) (by
   have d1:(⟨#[44]⟩:ByteArray).size=1:=rfl
   rw [List.length_append,List.length_singleton,Nat.add_mul]
   split
   ·rw [ByteArray.size_append];omega
   ·rw [ByteArray.size_append,ByteArray.size_append];omega)
  rw [show ((pre++ [k]).length:Int)=((pre.length+1:Nat):Int) by simp] at h
  rw [h]
  congr 1
  apply qIV
  have e:(pre++ [k]).length≠0:=by simp
  simp only [if_neg e]
  by_cases h0:pre.length=0
  ·simp only [if_pos h0,qEd,List.map_cons,Lib.join_cons,List.append_assoc]
  ·simp only [if_neg h0,qEd,List.map_cons,qMh,List.append_assoc,List.cons_append,List.nil_append]
set_option maxHeartbeats 4000000 in
theorem qML {l:List Nd} (h:Fine l) (f:Nat) (i t:Int) (hf:f+1≤12) (hx:0≤i∧i<l.length) (hd:qBE (qX l) (i.toNat+1) i≤(f+1:Nat)) (ih:∀k∈qX l i,∀t',Ev (qo · (l.map qW) k t') (qy l f k t')):Ev (qo · (l.map qW) i t) (qy l (f+1) i t):=by
  have ih:=fun k hk t'=>ih k hk t'
  have isz:=fun k hk t'=>qPA h f k t' (by omega) (h.kid hx hd hk).1 (h.kid hx hd hk).2
  have hs:=qVZ (f:=f) (by omega)
  have hcr:(l.map qW)[i.toNat]?=some (qW (ndi l i)):=by rw [List.getElem?_map,qDf hx];rfl
  have hxb:0≤i∧i<((l.map qW).length:Int):=by rw [List.length_map];exact hx
  have hz:=(h.sz _ (qJ6 hx)).2
  have hp:∀a b c d,(qCm a b c d).size≤30:=qLa
  have d1:(⟨#[58]⟩:ByteArray).size=1:=rfl
  have d2:(⟨#[45]⟩:ByteArray).size=1:=rfl
  have d3:(⟨#[40]⟩:ByteArray).size=1:=rfl
  have d4:(⟨#[41]⟩:ByteArray).size=1:=rfl
  have hk0:∀j,j<(kd (ndi l i)).length→kid (ndi l i) j∈qX l i∧(List.map qA8 (ndi l i).2.2.2.2.2.2.2.2.2.2.2.2.2)[j]?=some (qA8 (kid (ndi l i) j)):=fun j hj=>by
   unfold kid
   rw [List.getD_eq_getElem?_getD,List.getElem?_eq_getElem hj]
   refine ⟨List.getElem_mem hj,?_⟩
   rw [List.getElem?_map]
   show ((kd (ndi l i))[j]?).map qA8=_
   rw [List.getElem?_eq_getElem hj]
   rfl
  have hkl:(List.map qA8 (ndi l i).2.2.2.2.2.2.2.2.2.2.2.2.2).length=(kd (ndi l i)).length:=by rw [List.length_map];rfl
  rcases qLg (h.own i hx.1 hx.2).1 with ⟨k,hv⟩|k|k|⟨k,hk⟩|⟨k,ho,hk⟩|⟨k,ho,hk⟩
  ·by_cases k2:(ndi l i).2.2.1=2
   ·have hv2:okV 2 (ndi l i).2.2.2.1 (ndi l i).2.2.2.2.1=true:=by rw [←k2];exact hv
    obtain ⟨n1,g1⟩:=qQL (ndi l i).2.2.2.2.1 (by have:=(qSa hv2).2.1;omega)
    refine ⟨n1+1,fun n hn=>?_⟩
    obtain ⟨m,rfl,hm⟩:=up1 hn
    have g1:=g1 m (by omega)
    dsimp only at g1⊢
    show (qCF (qo m) m (l.map qW) i t).run=_
    refine qD (decide_eq_true hxb) (qA hcr (qD rfl (qA (qAe _) (qA (qAf _) (qA (qAg _) (qA (qAh _) (qA (qAi _) (qA (qAj _) (qA (qAk _) (qA (qAl _) (qA (qAm _) (qA (qAn _) (qA (q8 _) (qA (q9 _) (qA (qAA _) (qA (qAB _) ?_))))))))))))))))
    refine qD (by rw [k];rfl) (qD (by rw [k2];rfl) (qA g1 ?_))
    rw [qC,qy,if_pos k,if_pos k2]
   ·obtain ⟨n1,g1⟩:=qEP (ndi l i).2.2.1 (ndi l i).2.2.2.1 (ndi l i).2.2.2.2.1 hz
    have kb:((ndi l i).2.2.1==(2:Int))=false:=by simpa using k2
    refine ⟨n1+1,fun n hn=>?_⟩
    obtain ⟨m,rfl,hm⟩:=up1 hn
    have g1:=g1 m (by omega)
    rw [hv] at g1
    dsimp only at g1⊢
    simp only [if_true] at g1
    show (qCF (qo m) m (l.map qW) i t).run=_
    refine qD (decide_eq_true hxb) (qA hcr (qD rfl (qA (qAe _) (qA (qAf _) (qA (qAg _) (qA (qAh _) (qA (qAi _) (qA (qAj _) (qA (qAk _) (qA (qAl _) (qA (qAm _) (qA (qAn _) (qA (q8 _) (qA (q9 _) (qA (qAA _) (qA (qAB _) ?_))))))))))))))))
    refine qD (by rw [k];rfl) (qO kb (qA g1 ?_))
    rw [qC,qy,if_pos k,if_neg k2]
  ·obtain ⟨n1,g1⟩:=qFv (ndi l i).2.2.2.2.2.1 (ndi l i).2.2.2.2.2.2.1 (ndi l i).2.2.2.2.2.2.2.1 (ndi l i).2.2.2.2.2.2.2.2.1
   refine ⟨n1+1,fun n hn=>?_⟩
   obtain ⟨m,rfl,hm⟩:=up1 hn
   have g1:=g1 m (by omega)
   dsimp only at g1⊢
   show (qCF (qo m) m (l.map qW) i t).run=_
   refine qD (decide_eq_true hxb) (qA hcr (qD rfl (qA (qAe _) (qA (qAf _) (qA (qAg _) (qA (qAh _) (qA (qAi _) (qA (qAj _) (qA (qAk _) (qA (qAl _) (qA (qAm _) (qA (qAn _) (qA (q8 _) (qA (q9 _) (qA (qAA _) (qA (qAB _) ?_))))))))))))))))
   refine qO (by rw [k];rfl) (qD (by rw [k];rfl) (qA g1 ?_))
   rw [qC,qy,if_neg (by omega),if_pos k]
  ·obtain ⟨n1,g1⟩:=qFv (ndi l i).2.2.2.2.2.1 (ndi l i).2.2.2.2.2.2.1 (ndi l i).2.2.2.2.2.2.2.1 (ndi l i).2.2.2.2.2.2.2.2.1
   obtain ⟨n2,g2⟩:=qFv (ndi l i).2.2.2.2.2.2.2.2.2.1 (ndi l i).2.2.2.2.2.2.2.2.2.2.1 (ndi l i).2.2.2.2.2.2.2.2.2.2.2.1 (ndi l i).2.2.2.2.2.2.2.2.2.2.2.2.1
   have h1:=hp (ndi l i).2.2.2.2.2.1 (ndi l i).2.2.2.2.2.2.1 (ndi l i).2.2.2.2.2.2.2.1 (ndi l i).2.2.2.2.2.2.2.2.1
   have h2:=hp (ndi l i).2.2.2.2.2.2.2.2.2.1 (ndi l i).2.2.2.2.2.2.2.2.2.2.1 (ndi l i).2.2.2.2.2.2.2.2.2.2.2.1 (ndi l i).2.2.2.2.2.2.2.2.2.2.2.2.1
   have z1:(qCm (ndi l i).2.2.2.2.2.1 (ndi l i).2.2.2.2.2.2.1 (ndi l i).2.2.2.2.2.2.2.1 (ndi l i).2.2.2.2.2.2.2.2.1).size+(⟨#[58]⟩:ByteArray).size≤9223372036854775807:=by omega
   have z2:(qCm (ndi l i).2.2.2.2.2.1 (ndi l i).2.2.2.2.2.2.1 (ndi l i).2.2.2.2.2.2.2.1 (ndi l i).2.2.2.2.2.2.2.2.1++(⟨#[58]⟩:ByteArray)).size+(qCm (ndi l i).2.2.2.2.2.2.2.2.2.1 (ndi l i).2.2.2.2.2.2.2.2.2.2.1 (ndi l i).2.2.2.2.2.2.2.2.2.2.2.1 (ndi l i).2.2.2.2.2.2.2.2.2.2.2.2.1).size≤9223372036854775807:=by rw [ByteArray.size_append];omega
   refine ⟨n1+n2+1,fun n hn=>?_⟩
   obtain ⟨m,rfl,hm⟩:=up1 hn
   have g1:=g1 m (by omega)
   have g2:=g2 m (by omega)
   dsimp only at g1 g2⊢
   show (qCF (qo m) m (l.map qW) i t).run=_
   refine qD (decide_eq_true hxb) (qA hcr (qD rfl (qA (qAe _) (qA (qAf _) (qA (qAg _) (qA (qAh _) (qA (qAi _) (qA (qAj _) (qA (qAk _) (qA (qAl _) (qA (qAm _) (qA (qAn _) (qA (q8 _) (qA (q9 _) (qA (qAA _) (qA (qAB _) ?_))))))))))))))))
   refine qO (by rw [k];rfl) (qO (by rw [k];rfl) (qD (by rw [k];rfl) (qA g1 (qD (decide_eq_true z1) (qA g2 (qD (decide_eq_true z2) ?_))))))
   rw [qC,qy,if_neg (by omega),if_neg (by omega),if_pos k]
  ·obtain ⟨m0,c0⟩:=hk0 0 (by omega)
   obtain ⟨n1,g1⟩:=ih _ m0 5
   have h1:=isz _ m0 5
   have z1:(⟨#[45]⟩:ByteArray).size+(qy l f (kid (ndi l i) 0) 5).size≤9223372036854775807:=by omega
   have y1:(0:Int)≤(0:Int)∧(0:Int)<((List.map qA8 (ndi l i).2.2.2.2.2.2.2.2.2.2.2.2.2).length:Int):=by rw [hkl];omega
   refine ⟨n1+1,fun n hn=>?_⟩
   obtain ⟨m,rfl,hm⟩:=up1 hn
   have g1:=g1 m (by omega)
   dsimp only at g1⊢
   have e0:((0:Int)).toNat=0:=rfl
   show (qCF (qo m) m (l.map qW) i t).run=_
   refine qD (decide_eq_true hxb) (qA hcr (qD rfl (qA (qAe _) (qA (qAf _) (qA (qAg _) (qA (qAh _) (qA (qAi _) (qA (qAj _) (qA (qAk _) (qA (qAl _) (qA (qAm _) (qA (qAn _) (qA (q8 _) (qA (q9 _) (qA (qAA _) (qA (qAB _) ?_))))))))))))))))
   refine qO (by rw [k];rfl) (qO (by rw [k];rfl) (qO (by rw [k];rfl) (qD (by rw [k];rfl) (qD (decide_eq_true y1) (qA c0 (qD rfl (qA (qAx _) (qA g1 (qD (decide_eq_true z1) ?_)))))))))
   rw [qC,qy,if_neg (by omega),if_neg (by omega),if_neg (by omega),if_pos k]
  ·obtain ⟨m0,c0⟩:=hk0 0 (by omega)
   obtain ⟨m1,c1⟩:=hk0 1 (by omega)
   have hlv:=qUJ (ndi l i).2.1
   obtain ⟨n1,g1⟩:=ih _ m0 (lvl (ndi l i).2.1)
   obtain ⟨n2,g2⟩:=ih _ m1 (lvl (ndi l i).2.1+1)
   obtain ⟨n3,g3⟩:=qKY (ndi l i).2.1
   obtain ⟨n4,g4⟩:=qLe (ndi l i).2.1 ho
   have h1:=isz _ m0 (lvl (ndi l i).2.1)
   have h2:=isz _ m1 (lvl (ndi l i).2.1+1)
   have h3:=qNH ho
   have hw:IntKind.i64.wrap (lvl (ndi l i).2.1+1)=lvl (ndi l i).2.1+1:=qT (by omega)
   have y1:(0:Int)≤(0:Int)∧(0:Int)<((List.map qA8 (ndi l i).2.2.2.2.2.2.2.2.2.2.2.2.2).length:Int):=by rw [hkl];omega
   have y2:(0:Int)≤(1:Int)∧(1:Int)<((List.map qA8 (ndi l i).2.2.2.2.2.2.2.2.2.2.2.2.2).length:Int):=by rw [hkl];omega
   refine ⟨n1+n2+n3+n4+1,fun n hn=>?_⟩
   obtain ⟨m,rfl,hm⟩:=up1 hn
   have g1:=g1 m (by omega)
   have g2:=g2 m (by omega)
   have g3:=g3 m (by omega)
   have g4:=g4 m (by omega)
   dsimp only at g1 g2 g3 g4⊢
   have e0:((0:Int)).toNat=0:=rfl
   have e1:((1:Int)).toNat=1:=rfl
   show (qCF (qo m) m (l.map qW) i t).run=_
   refine qD (decide_eq_true hxb) (qA hcr (qD rfl (qA (qAe _) (qA (qAf _) (qA (qAg _) (qA (qAh _) (qA (qAi _) (qA (qAj _) (qA (qAk _) (qA (qAl _) (qA (qAm _) (qA (qAn _) (qA (q8 _) (qA (q9 _) (qA (qAA _) (qA (qAB _) ?_))))))))))))))))
   have z1:(qy l f (kid (ndi l i) 0) (lvl (ndi l i).2.1)).size+(qAY (ndi l i).2.1).size≤9223372036854775807:=by omega
   have z2:(qy l f (kid (ndi l i) 0) (lvl (ndi l i).2.1)++qAY (ndi l i).2.1).size+(qy l f (kid (ndi l i) 1) (lvl (ndi l i).2.1+1)).size≤9223372036854775807:=by rw [ByteArray.size_append];omega
   have z3:(⟨#[40]⟩:ByteArray).size+((qy l f (kid (ndi l i) 0) (lvl (ndi l i).2.1)++qAY (ndi l i).2.1)++qy l f (kid (ndi l i) 1) (lvl (ndi l i).2.1+1)).size≤9223372036854775807:=by rw [ByteArray.size_append,ByteArray.size_append];omega
   have z4:((⟨#[40]⟩:ByteArray)++((qy l f (kid (ndi l i) 0) (lvl (ndi l i).2.1)++qAY (ndi l i).2.1)++qy l f (kid (ndi l i) 1) (lvl (ndi l i).2.1+1))).size+(⟨#[41]⟩:ByteArray).size≤9223372036854775807:=by rw [ByteArray.size_append,ByteArray.size_append,ByteArray.size_append];omega
   have g2:qo m (l.map qW) (kid (ndi l i) 1) (IntKind.i64.wrap (lvl (ndi l i).2.1+1))=some (qy l f (kid (ndi l i) 1) (lvl (ndi l i).2.1+1)):=by rw [hw];exact g2
   refine qO (by rw [k];rfl) (qO (by rw [k];rfl) (qO (by rw [k];rfl) (qO (by rw [k];rfl) (qD (by rw [k];rfl) (qA g3 (qD (decide_eq_true y1) (qA c0 (qD rfl (qA (qAx _) (qD (decide_eq_true y2) (qA c1 (qD rfl (qA (qAx _) (qA g1 (qA g4 (qD (decide_eq_true z1) (qA g2 (qD (decide_eq_true z2) ?_))))))))))))))))))
   rw [qy,if_neg (by omega),if_neg (by omega),if_neg (by omega),if_neg (by omega),if_pos k]
   unfold par
   by_cases ht:lvl (ndi l i).2.1<t
   ·refine qD (decide_eq_true ht) (qD (decide_eq_true z3) (qD (decide_eq_true z4) ?_))
    rw [qC,if_pos (decide_eq_true ht)]
   ·refine qO (decide_eq_false ht) ?_
    rw [qC,if_neg (by simpa using ht)]
  ·obtain ⟨n0,g0⟩:=qA9 (F:=fun k n=>qo n (l.map qW) k 0) (f:=fun k=>qy l f k 1) (qX l i) (fun k hk=>by
    have:=ih k hk 0
    rw [qUk] at this
    exact this)
   obtain ⟨n1,g1⟩:=qN0 (ndi l i).2.1 ho
   have h1:=qRb ho
   refine ⟨n0+n1+20,fun n hn=>?_⟩
   obtain ⟨m,rfl,hm⟩:=up1 hn
   have g0:=g0 m (by omega)
   have g1:=g1 m (by omega)
   have hj:=qSj l f m ((ndi l i).1,(ndi l i).2.1,(ndi l i).2.2.1,(ndi l i).2.2.2.1,(ndi l i).2.2.2.2.1,(ndi l i).2.2.2.2.2.1,(ndi l i).2.2.2.2.2.2.1,(ndi l i).2.2.2.2.2.2.2.1,(ndi l i).2.2.2.2.2.2.2.2.1,(ndi l i).2.2.2.2.2.2.2.2.2.1,(ndi l i).2.2.2.2.2.2.2.2.2.2.1,(ndi l i).2.2.2.2.2.2.2.2.2.2.2.1,(ndi l i).2.2.2.2.2.2.2.2.2.2.2.2.1,(kd (ndi l i)).map qA8) (szB f) hs (kd (ndi l i)) rfl hk.2 (fun k hk=>⟨g0 k hk,isz k hk 1⟩) (kd (ndi l i)) [] (fnS (ndi l i).2.1++(⟨#[40]⟩:ByteArray)) m rfl (by omega) (by rw [ByteArray.size_append];omega)
   simp only [List.length_nil,Int.natCast_zero,if_true] at hj
   have hjs:=qNI (xs:=(qX l i).map fun k=>qy l f k 1) (b:=szB f) (fun x hx=>by
    obtain ⟨k,hk,rfl⟩:=List.mem_map.1 hx
    exact isz k hk 1)
   have h3:(qX l i).length≤10:=hk.2
   have h4:(qX l i).length*(szB f+1)≤10*(szB f+1):=Nat.mul_le_mul_right _ h3
   rw [List.length_map] at hjs
   have ej:(⟨((fnS (ndi l i).2.1++(⟨#[40]⟩:ByteArray)).data.toList++Lib.join ((kd (ndi l i)).map fun k=>(qy l f k 1).data.toList) [44]).toArray⟩:ByteArray)=(fnS (ndi l i).2.1++(⟨#[40]⟩:ByteArray))++qRc ((qX l i).map fun k=>qy l f k 1):=by
    apply qIV
    rw [qEd]
    simp [qRc,qX,Function.comp_def]
   rw [ej] at hj
   obtain ⟨J,hJ⟩:∃J,qRc ((qX l i).map fun k=>qy l f k 1)=J:=⟨_,rfl⟩
   rw [hJ] at hj hjs
   have z1:(fnS (ndi l i).2.1).size+(⟨#[40]⟩:ByteArray).size≤9223372036854775807:=by omega
   have z2:((fnS (ndi l i).2.1++(⟨#[40]⟩:ByteArray))++J).size+(⟨#[41]⟩:ByteArray).size≤9223372036854775807:=by rw [ByteArray.size_append,ByteArray.size_append];omega
   unfold kd at hj
   dsimp only at g1⊢
   show (qCF (qo m) m (l.map qW) i t).run=_
   refine qD (decide_eq_true hxb) (qA hcr (qD rfl (qA (qAe _) (qA (qAf _) (qA (qAg _) (qA (qAh _) (qA (qAi _) (qA (qAj _) (qA (qAk _) (qA (qAl _) (qA (qAm _) (qA (qAn _) (qA (q8 _) (qA (q9 _) (qA (qAA _) (qA (qAB _) ?_))))))))))))))))
   refine qO (by rw [k];rfl) (qO (by rw [k];rfl) (qO (by rw [k];rfl) (qO (by rw [k];rfl) (qO (by rw [k];rfl) (qA g1 (qD (decide_eq_true z1) (qA hj (qD (decide_eq_true z2) ?_))))))))
   rw [qC,qy,if_neg (by omega),if_neg (by omega),if_neg (by omega),if_neg (by omega),if_neg (by omega),hJ]
theorem qLh {l:List Nd} (h:Fine l):∀(f:Nat) (i t:Int),f≤12→(0≤i∧i<l.length)→qBE (qX l) (i.toNat+1) i≤f→Ev (qo · (l.map qW) i t) (qy l f i t)
 |0,i,t,hf,hx,hd=>by
  have:=qO6 (qX l) (i.toNat+1) i hx.1 (by omega)
  omega
 |f+1,i,t,hf,hx,hd=>qML h f i t hf hx hd fun k hk t'=>qLh h f k t' (by omega) (h.kid hx hd hk).1 (h.kid hx hd hk).2
theorem qU9:∀f:Fin 12,szB f.val≤12000000000000:=by decide
theorem qVb {f:Nat} (h:f≤11):szB f≤12000000000000:=qU9 ⟨f,by omega⟩
theorem qTo:∀xs:List ByteArray,zBT (xs.map fun x=> [PV.s x])=some xs
 | []=>rfl
 |x::r=>by simp only [List.map_cons,zBT,qTo r,Option.map_some]
theorem qSk (rec:List (List PV)→Int→Int→Option ByteArray) (n:Nat) (rows:List (List PV)) (T:Int→ByteArray) (a0 a1 a2 a3:Int) (a4:ByteArray) (a5 a6:Int) (a7 a8:Bool) (a9 a10:Int) (a11 a12:Bool) (a13:List (List PV)) (ks:List Int) (hk10:ks.length≤10)
  (hr:∀k∈ks,rec rows k 1=some (T k)):
  ∀(r pre:List Int) (M:Nat),ks=pre++r→r.length+1≤M→
   zC (qBt rec n) M (rows,pre.length,ks.map qA8,((ks.map qA8).length:Int),(pre.length:Int),a0,a1,a2,a3,a4,a5,a6,a7,a8,a9,a10,a11,a12,a13,pre.map fun k=> [PV.s (T k)])=some (ks.length,a0,a1,a2,a3,a4,a5,a6,a7,a8,a9,a10,a11,a12,a13,ks.map fun k=> [PV.s (T k)])
 |r,pre,0,h1,h2=>by omega
 | [],pre,M+1,h1,h2=>by
  have hi:¬(pre.length:Int)<((ks.map qA8).length:Int):=by rw [List.length_map,h1];simp
  have e:pre=ks:=by rw [h1];simp
  rw [qP (r:=(pre.length,a0,a1,a2,a3,a4,a5,a6,a7,a8,a9,a10,a11,a12,a13,pre.map fun k=> [PV.s (T k)])) (by simp only [qBt,qC,qE,qH,qJ,qK,qM,Option.bind_some,qF,qG,qN,decide_eq_false hi,Bool.false_eq_true,if_false])]
  rw [e]
 |k::r,pre,M+1,h1,h2=>by
  have hm:k∈ks:=by rw [h1];simp
  have g1:=hr k hm
  have hpl:pre.length+(r.length+1)=ks.length:=by rw [h1];simp
  have hg:(ks.map qA8)[pre.length]?=some (qA8 k):=by rw [h1,List.getElem?_map];simp
  have hi:(pre.length:Int)<((ks.map qA8).length:Int):=by rw [List.length_map];omega
  have h3:0≤(pre.length:Int)∧(pre.length:Int)<((ks.map qA8).length:Int):=by omega
  have w1:IntKind.i64.wrap ((pre.length:Int)+1)=((pre.length+1:Nat):Int):=by rw [qT (by omega)];omega
  have hc:pre.length=(pre.map fun k=> [PV.s (T k)]).length∧0<1∧0<16∧(pre.length+([[PV.s (T k)]]:List (List PV)).length)*16≤140737488355328∧([[PV.s (T k)]]:List (List PV)).all (fun e=>e.length==1)=true:=by
   refine ⟨by simp,by decide,by decide,?_,rfl⟩
   rw [List.length_singleton]
   omega
  have h1l:decide (1=([[PV.s (T k)]]:List (List PV)).length)=true:=rfl
  rw [qQ (v':=(rows,pre.length+1,ks.map qA8,((ks.map qA8).length:Int),((pre.length+1:Nat):Int),a0,a1,a2,a3,a4,a5,a6,a7,a8,a9,a10,a11,a12,a13,(pre.map fun k=> [PV.s (T k)])++ [[PV.s (T k)]])) (by
   simp only [qBt,qC,qE,qH,qJ,qK,qM,Option.bind_some,qF,qG,qN,decide_eq_true hi,if_true,decide_eq_true h3,Int.toNat_natCast,hg,qBW,qAx,decide_true,g1,h1l,decide_eq_true hc,w1])]
  have h:=qSk rec n rows T a0 a1 a2 a3 a4 a5 a6 a7 a8 a9 a10 a11 a12 a13 ks hk10 hr r (pre++ [k]) M (by rw [h1];simp) (by simp at h2;omega)
  simp only [List.map_append,List.map_cons,List.map_nil,List.length_append,List.length_singleton] at h⊢
  exact h
set_option maxHeartbeats 4000000 in
theorem qI5 {l:List Nd} (h:Fine l) (f:Nat) (i t:Int) (hf:f+1≤12) (hx:0≤i∧i<l.length) (hd:qBE (qX l) (i.toNat+1) i≤(f+1:Nat)) (ih:∀k∈qX l i,∀t',Ev (qb · (l.map qW) k t') (qy l f k t')):Ev (qb · (l.map qW) i t) (qy l (f+1) i t):=by
  have ih:=fun k hk t'=>ih k hk t'
  have isz:=fun k hk t'=>qPA h f k t' (by omega) (h.kid hx hd hk).1 (h.kid hx hd hk).2
  have hs:=qVZ (f:=f) (by omega)
  have hcr:(l.map qW)[i.toNat]?=some (qW (ndi l i)):=by rw [List.getElem?_map,qDf hx];rfl
  have hxb:0≤i∧i<((l.map qW).length:Int):=by rw [List.length_map];exact hx
  have hz:=(h.sz _ (qJ6 hx)).2
  have hp:∀a b c d,(qCm a b c d).size≤30:=qLa
  have d1:(⟨#[58]⟩:ByteArray).size=1:=rfl
  have d2:(⟨#[45]⟩:ByteArray).size=1:=rfl
  have d3:(⟨#[40]⟩:ByteArray).size=1:=rfl
  have d4:(⟨#[41]⟩:ByteArray).size=1:=rfl
  have hk0:∀j,j<(kd (ndi l i)).length→kid (ndi l i) j∈qX l i∧(List.map qA8 (ndi l i).2.2.2.2.2.2.2.2.2.2.2.2.2)[j]?=some (qA8 (kid (ndi l i) j)):=fun j hj=>by
   unfold kid
   rw [List.getD_eq_getElem?_getD,List.getElem?_eq_getElem hj]
   refine ⟨List.getElem_mem hj,?_⟩
   rw [List.getElem?_map]
   show ((kd (ndi l i))[j]?).map qA8=_
   rw [List.getElem?_eq_getElem hj]
   rfl
  have hkl:(List.map qA8 (ndi l i).2.2.2.2.2.2.2.2.2.2.2.2.2).length=(kd (ndi l i)).length:=by rw [List.length_map];rfl
  rcases qLg (h.own i hx.1 hx.2).1 with ⟨k,hv⟩|k|k|⟨k,hk⟩|⟨k,ho,hk⟩|⟨k,ho,hk⟩
  ·by_cases k2:(ndi l i).2.2.1=2
   ·have hv2:okV 2 (ndi l i).2.2.2.1 (ndi l i).2.2.2.2.1=true:=by rw [←k2];exact hv
    have hq:=(qSa hv2).2.1
    obtain ⟨n1,g1⟩:=qSU (ndi l i).2.2.2.2.1 (by omega)
    have h1:=qJd (ndi l i).2.2.2.2.1.toList
    rw [qAa] at h1
    have h2:(⟨(qB2 (ndi l i).2.2.2.2.1.toList).toArray⟩:ByteArray).size=(qB2 (ndi l i).2.2.2.2.1.toList).length:=by rw [qDe]
    have e:((⟨#[34]⟩:ByteArray)++⟨(qB2 (ndi l i).2.2.2.2.1.toList).toArray⟩)++(⟨#[34]⟩:ByteArray)=qO8 (ndi l i).2.2.2.2.1:=by
     apply qIV
     rw [qEd,qEd]
     simp [qO8]
    have d5:(⟨#[34]⟩:ByteArray).size=1:=rfl
    refine ⟨n1+1,fun n hn=>?_⟩
    obtain ⟨m,rfl,hm⟩:=up1 hn
    have g1:=g1 m (by omega)
    dsimp only at g1⊢
    obtain ⟨q,hqe⟩:∃q,(⟨(qB2 (ndi l i).2.2.2.2.1.toList).toArray⟩:ByteArray)=q:=⟨_,rfl⟩
    rw [hqe] at g1 h2 e
    have z1:(⟨#[34]⟩:ByteArray).size+q.size≤9223372036854775807:=by omega
    have z2:((⟨#[34]⟩:ByteArray)++q).size+(⟨#[34]⟩:ByteArray).size≤9223372036854775807:=by rw [ByteArray.size_append];omega
    show (qAw (qb m) m (l.map qW) i t).run=_
    refine qD (decide_eq_true hxb) (qA hcr (qD rfl (qA (qAe _) (qA (qAf _) (qA (qAg _) (qA (qAh _) (qA (qAi _) (qA (qAj _) (qA (qAk _) (qA (qAl _) (qA (qAm _) (qA (qAn _) (qA (q8 _) (qA (q9 _) (qA (qAA _) (qA (qAB _) ?_))))))))))))))))
    refine qD (by rw [k];rfl) (qD (by rw [k2];rfl) (qA g1 (qD (decide_eq_true z1) (qD (decide_eq_true z2) ?_))))
    rw [qC,qy,if_pos k,if_pos k2,e]
   ·obtain ⟨n1,g1⟩:=qIW (ndi l i).2.2.1 (ndi l i).2.2.2.1 (ndi l i).2.2.2.2.1 hv
    have kb:((ndi l i).2.2.1==(2:Int))=false:=by simpa using k2
    refine ⟨n1+1,fun n hn=>?_⟩
    obtain ⟨m,rfl,hm⟩:=up1 hn
    have g1:=g1 m (by omega)
    dsimp only at g1⊢
    show (qAw (qb m) m (l.map qW) i t).run=_
    refine qD (decide_eq_true hxb) (qA hcr (qD rfl (qA (qAe _) (qA (qAf _) (qA (qAg _) (qA (qAh _) (qA (qAi _) (qA (qAj _) (qA (qAk _) (qA (qAl _) (qA (qAm _) (qA (qAn _) (qA (q8 _) (qA (q9 _) (qA (qAA _) (qA (qAB _) ?_))))))))))))))))
    refine qD (by rw [k];rfl) (qO kb (qA g1 ?_))
    rw [qC,qy,if_pos k,if_neg k2]
  ·obtain ⟨n1,g1⟩:=qEQ (ndi l i).2.2.2.2.2.1 (ndi l i).2.2.2.2.2.2.1 (ndi l i).2.2.2.2.2.2.2.1 (ndi l i).2.2.2.2.2.2.2.2.1
   refine ⟨n1+1,fun n hn=>?_⟩
   obtain ⟨m,rfl,hm⟩:=up1 hn
   have g1:=g1 m (by omega)
   dsimp only at g1⊢
   show (qAw (qb m) m (l.map qW) i t).run=_
   refine qD (decide_eq_true hxb) (qA hcr (qD rfl (qA (qAe _) (qA (qAf _) (qA (qAg _) (qA (qAh _) (qA (qAi _) (qA (qAj _) (qA (qAk _) (qA (qAl _) (qA (qAm _) (qA (qAn _) (qA (q8 _) (qA (q9 _) (qA (qAA _) (qA (qAB _) ?_))))))))))))))))
   refine qO (by rw [k];rfl) (qD (by rw [k];rfl) (qA g1 ?_))
   rw [qC,qy,if_neg (by omega),if_pos k]
  ·obtain ⟨n1,g1⟩:=qEQ (ndi l i).2.2.2.2.2.1 (ndi l i).2.2.2.2.2.2.1 (ndi l i).2.2.2.2.2.2.2.1 (ndi l i).2.2.2.2.2.2.2.2.1
   obtain ⟨n2,g2⟩:=qEQ (ndi l i).2.2.2.2.2.2.2.2.2.1 (ndi l i).2.2.2.2.2.2.2.2.2.2.1 (ndi l i).2.2.2.2.2.2.2.2.2.2.2.1 (ndi l i).2.2.2.2.2.2.2.2.2.2.2.2.1
   have h1:=hp (ndi l i).2.2.2.2.2.1 (ndi l i).2.2.2.2.2.2.1 (ndi l i).2.2.2.2.2.2.2.1 (ndi l i).2.2.2.2.2.2.2.2.1
   have h2:=hp (ndi l i).2.2.2.2.2.2.2.2.2.1 (ndi l i).2.2.2.2.2.2.2.2.2.2.1 (ndi l i).2.2.2.2.2.2.2.2.2.2.2.1 (ndi l i).2.2.2.2.2.2.2.2.2.2.2.2.1
   have z1:(qCm (ndi l i).2.2.2.2.2.1 (ndi l i).2.2.2.2.2.2.1 (ndi l i).2.2.2.2.2.2.2.1 (ndi l i).2.2.2.2.2.2.2.2.1).size+(⟨#[58]⟩:ByteArray).size≤9223372036854775807:=by omega
   have z2:(qCm (ndi l i).2.2.2.2.2.1 (ndi l i).2.2.2.2.2.2.1 (ndi l i).2.2.2.2.2.2.2.1 (ndi l i).2.2.2.2.2.2.2.2.1++(⟨#[58]⟩:ByteArray)).size+(qCm (ndi l i).2.2.2.2.2.2.2.2.2.1 (ndi l i).2.2.2.2.2.2.2.2.2.2.1 (ndi l i).2.2.2.2.2.2.2.2.2.2.2.1 (ndi l i).2.2.2.2.2.2.2.2.2.2.2.2.1).size≤9223372036854775807:=by rw [ByteArray.size_append];omega
   refine ⟨n1+n2+1,fun n hn=>?_⟩
   obtain ⟨m,rfl,hm⟩:=up1 hn
   have g1:=g1 m (by omega)
   have g2:=g2 m (by omega)
   dsimp only at g1 g2⊢
   show (qAw (qb m) m (l.map qW) i t).run=_
   refine qD (decide_eq_true hxb) (qA hcr (qD rfl (qA (qAe _) (qA (qAf _) (qA (qAg _) (qA (qAh _) (qA (qAi _) (qA (qAj _) (qA (qAk _) (qA (qAl _) (qA (qAm _) (qA (qAn _) (qA (q8 _) (qA (q9 _) (qA (qAA _) (qA (qAB _) ?_))))))))))))))))
   refine qO (by rw [k];rfl) (qO (by rw [k];rfl) (qD (by rw [k];rfl) (qA g1 (qD (decide_eq_true z1) (qA g2 (qD (decide_eq_true z2) ?_))))))
   rw [qC,qy,if_neg (by omega),if_neg (by omega),if_pos k]
  ·obtain ⟨m0,c0⟩:=hk0 0 (by omega)
   obtain ⟨n1,g1⟩:=ih _ m0 5
   have h1:=isz _ m0 5
   have z1:(⟨#[45]⟩:ByteArray).size+(qy l f (kid (ndi l i) 0) 5).size≤9223372036854775807:=by omega
   have y1:(0:Int)≤(0:Int)∧(0:Int)<((List.map qA8 (ndi l i).2.2.2.2.2.2.2.2.2.2.2.2.2).length:Int):=by rw [hkl];omega
   refine ⟨n1+1,fun n hn=>?_⟩
   obtain ⟨m,rfl,hm⟩:=up1 hn
   have g1:=g1 m (by omega)
   dsimp only at g1⊢
   have e0:((0:Int)).toNat=0:=rfl
   show (qAw (qb m) m (l.map qW) i t).run=_
   refine qD (decide_eq_true hxb) (qA hcr (qD rfl (qA (qAe _) (qA (qAf _) (qA (qAg _) (qA (qAh _) (qA (qAi _) (qA (qAj _) (qA (qAk _) (qA (qAl _) (qA (qAm _) (qA (qAn _) (qA (q8 _) (qA (q9 _) (qA (qAA _) (qA (qAB _) ?_))))))))))))))))
   refine qO (by rw [k];rfl) (qO (by rw [k];rfl) (qO (by rw [k];rfl) (qD (by rw [k];rfl) (qD (decide_eq_true y1) (qA c0 (qD rfl (qA (qAx _) (qA g1 (qD (decide_eq_true z1) ?_)))))))))
   rw [qC,qy,if_neg (by omega),if_neg (by omega),if_neg (by omega),if_pos k]
  ·obtain ⟨m0,c0⟩:=hk0 0 (by omega)
   obtain ⟨m1,c1⟩:=hk0 1 (by omega)
   have hlv:=qUJ (ndi l i).2.1
   obtain ⟨n1,g1⟩:=ih _ m0 (lvl (ndi l i).2.1)
   obtain ⟨n2,g2⟩:=ih _ m1 (lvl (ndi l i).2.1+1)
   obtain ⟨n3,g3⟩:=qMg (ndi l i).2.1 ho
   obtain ⟨n4,g4⟩:=qIC (ndi l i).2.1 ho
   have h1:=isz _ m0 (lvl (ndi l i).2.1)
   have h2:=isz _ m1 (lvl (ndi l i).2.1+1)
   have h3:=qNH ho
   have hw:IntKind.i64.wrap (lvl (ndi l i).2.1+1)=lvl (ndi l i).2.1+1:=qT (by omega)
   have y1:(0:Int)≤(0:Int)∧(0:Int)<((List.map qA8 (ndi l i).2.2.2.2.2.2.2.2.2.2.2.2.2).length:Int):=by rw [hkl];omega
   have y2:(0:Int)≤(1:Int)∧(1:Int)<((List.map qA8 (ndi l i).2.2.2.2.2.2.2.2.2.2.2.2.2).length:Int):=by rw [hkl];omega
   refine ⟨n1+n2+n3+n4+1,fun n hn=>?_⟩
   obtain ⟨m,rfl,hm⟩:=up1 hn
   have g1:=g1 m (by omega)
   have g2:=g2 m (by omega)
   have g3:=g3 m (by omega)
   have g4:=g4 m (by omega)
   dsimp only at g1 g2 g3 g4⊢
   have e0:((0:Int)).toNat=0:=rfl
   have e1:((1:Int)).toNat=1:=rfl
   show (qAw (qb m) m (l.map qW) i t).run=_
   refine qD (decide_eq_true hxb) (qA hcr (qD rfl (qA (qAe _) (qA (qAf _) (qA (qAg _) (qA (qAh _) (qA (qAi _) (qA (qAj _) (qA (qAk _) (qA (qAl _) (qA (qAm _) (qA (qAn _) (qA (q8 _) (qA (q9 _) (qA (qAA _) (qA (qAB _) ?_))))))))))))))))
   have z1:(qy l f (kid (ndi l i) 0) (lvl (ndi l i).2.1)).size+(qAY (ndi l i).2.1).size≤9223372036854775807:=by omega
   have z2:(qy l f (kid (ndi l i) 0) (lvl (ndi l i).2.1)++qAY (ndi l i).2.1).size+(qy l f (kid (ndi l i) 1) (lvl (ndi l i).2.1+1)).size≤9223372036854775807:=by rw [ByteArray.size_append];omega
   have z3:(⟨#[40]⟩:ByteArray).size+((qy l f (kid (ndi l i) 0) (lvl (ndi l i).2.1)++qAY (ndi l i).2.1)++qy l f (kid (ndi l i) 1) (lvl (ndi l i).2.1+1)).size≤9223372036854775807:=by rw [ByteArray.size_append,ByteArray.size_append];omega
   have z4:((⟨#[40]⟩:ByteArray)++((qy l f (kid (ndi l i) 0) (lvl (ndi l i).2.1)++qAY (ndi l i).2.1)++qy l f (kid (ndi l i) 1) (lvl (ndi l i).2.1+1))).size+(⟨#[41]⟩:ByteArray).size≤9223372036854775807:=by rw [ByteArray.size_append,ByteArray.size_append,ByteArray.size_append];omega
   have g2:qb m (l.map qW) (kid (ndi l i) 1) (IntKind.i64.wrap (lvl (ndi l i).2.1+1))=some (qy l f (kid (ndi l i) 1) (lvl (ndi l i).2.1+1)):=by rw [hw];exact g2
   refine qO (by rw [k];rfl) (qO (by rw [k];rfl) (qO (by rw [k];rfl) (qO (by rw [k];rfl) (qD (by rw [k];rfl) (qA g3 (qD (decide_eq_true y1) (qA c0 (qD rfl (qA (qAx _) (qD (decide_eq_true y2) (qA c1 (qD rfl (qA (qAx _) (qA g1 (qA g4 (qD (decide_eq_true z1) (qA g2 (qD (decide_eq_true z2) ?_))))))))))))))))))
   rw [qy,if_neg (by omega),if_neg (by omega),if_neg (by omega),if_neg (by omega),if_pos k]
   unfold par
   by_cases ht:lvl (ndi l i).2.1<t
   ·refine qD (decide_eq_true ht) (qD (decide_eq_true z3) (qD (decide_eq_true z4) ?_))
    rw [qC,if_pos (decide_eq_true ht)]
   ·refine qO (decide_eq_false ht) ?_
    rw [qC,if_neg (by simpa using ht)]
  ·obtain ⟨n0,g0⟩:=qA9 (F:=fun k n=>qb n (l.map qW) k 1) (f:=fun k=>qy l f k 1) (qX l i) (fun k hk=>ih k hk 1)
   obtain ⟨n1,g1⟩:=qLf (ndi l i).2.1 ho
   have h1:=qRb ho
   have hs11:=qVb (f:=f) (by omega)
   have h3:(qX l i).length≤10:=hk.2
   have hjs:=qNI (xs:=(qX l i).map fun k=>qy l f k 1) (b:=szB f) (fun x hx=>by
    obtain ⟨k,hk,rfl⟩:=List.mem_map.1 hx
    exact isz k hk 1)
   have h4:(qX l i).length*(szB f+1)≤10*(szB f+1):=Nat.mul_le_mul_right _ h3
   rw [List.length_map] at hjs
   have gj:∀n,1≤n→qH0 n (((qX l i).map fun k=>qy l f k 1).map fun x=> [PV.s x]) ⟨#[44]⟩=some (qRc ((qX l i).map fun k=>qy l f k 1)):=fun n hn=>by
    obtain ⟨m,rfl,_⟩:=up1 (n0:=0) hn
    show zAd _ _=_
    unfold zAd
    rw [qTo,Option.bind_some,if_pos]
    ·rfl
    ·rw [qDe] at hjs
     refine ⟨by rw [List.length_map];omega,?_⟩
     have:(Lib.join (((qX l i).map fun k=>qy l f k 1).map (·.data.toList)) [44]).length≤(qX l i).length*(szB f+1):=hjs
     show (Lib.join (((qX l i).map fun k=>qy l f k 1).map (·.data.toList)) [44]).length≤_
     omega
   refine ⟨n0+n1+20,fun n hn=>?_⟩
   obtain ⟨m,rfl,hm⟩:=up1 hn
   have g0:=g0 m (by omega)
   have g1:=g1 m (by omega)
   have gj:=gj m (by omega)
   have hj:=qSk (qb m) m (l.map qW) (fun k=>qy l f k 1) (ndi l i).1 (ndi l i).2.1 (ndi l i).2.2.1 (ndi l i).2.2.2.1 (ndi l i).2.2.2.2.1 (ndi l i).2.2.2.2.2.1 (ndi l i).2.2.2.2.2.2.1 (ndi l i).2.2.2.2.2.2.2.1 (ndi l i).2.2.2.2.2.2.2.2.1 (ndi l i).2.2.2.2.2.2.2.2.2.1 (ndi l i).2.2.2.2.2.2.2.2.2.2.1 (ndi l i).2.2.2.2.2.2.2.2.2.2.2.1 (ndi l i).2.2.2.2.2.2.2.2.2.2.2.2.1 ((kd (ndi l i)).map qA8) (kd (ndi l i)) hk.2 g0 (kd (ndi l i)) [] m rfl (by omega)
   simp only [List.length_nil,Int.natCast_zero,List.map_nil,List.length_map] at hj
   obtain ⟨J,hJ⟩:∃J,qRc ((qX l i).map fun k=>qy l f k 1)=J:=⟨_,rfl⟩
   rw [hJ] at gj hjs
   have z1:(fnS (ndi l i).2.1).size+(⟨#[40]⟩:ByteArray).size≤9223372036854775807:=by omega
   have z2:(fnS (ndi l i).2.1++(⟨#[40]⟩:ByteArray)).size+J.size≤9223372036854775807:=by rw [ByteArray.size_append];omega
   have z3:((fnS (ndi l i).2.1++(⟨#[40]⟩:ByteArray))++J).size+(⟨#[41]⟩:ByteArray).size≤9223372036854775807:=by rw [ByteArray.size_append,ByteArray.size_append];omega
   unfold qX at gj
   unfold kd at hj gj
   dsimp only at g1⊢
   rw [List.map_map] at gj
   have hkl':(((ndi l i).2.2.2.2.2.2.2.2.2.2.2.2.2.map qA8).length:Int)=((ndi l i).2.2.2.2.2.2.2.2.2.2.2.2.2.length:Int):=by rw [List.length_map]
   have hll:decide ((ndi l i).2.2.2.2.2.2.2.2.2.2.2.2.2.length=(List.map ((fun x=> [PV.s x])∘fun k=>qy l f k 1) (ndi l i).2.2.2.2.2.2.2.2.2.2.2.2.2).length)=true:=by simp
   have hmm:(List.map (fun k=> [PV.s (qy l f k 1)]) (ndi l i).2.2.2.2.2.2.2.2.2.2.2.2.2)=List.map ((fun x=> [PV.s x])∘fun k=>qy l f k 1) (ndi l i).2.2.2.2.2.2.2.2.2.2.2.2.2:=rfl
   rw [hmm] at hj
   rw [←hkl'] at hj
   show (qAw (qb m) m (l.map qW) i t).run=_
   refine qD (decide_eq_true hxb) (qA hcr (qD rfl (qA (qAe _) (qA (qAf _) (qA (qAg _) (qA (qAh _) (qA (qAi _) (qA (qAj _) (qA (qAk _) (qA (qAl _) (qA (qAm _) (qA (qAn _) (qA (q8 _) (qA (q9 _) (qA (qAA _) (qA (qAB _) ?_))))))))))))))))
   refine qO (by rw [k];rfl) (qO (by rw [k];rfl) (qO (by rw [k];rfl) (qO (by rw [k];rfl) (qO (by rw [k];rfl) (qA hj (qA g1 (qD (decide_eq_true z1) (qD hll (qA gj (qD rfl (qD (decide_eq_true z2) (qD (decide_eq_true z3) ?_))))))))))))
   rw [qC,qy,if_neg (by omega),if_neg (by omega),if_neg (by omega),if_neg (by omega),if_neg (by omega),hJ]
theorem qHE {l:List Nd} (h:Fine l):∀(f:Nat) (i t:Int),f≤12→(0≤i∧i<l.length)→qBE (qX l) (i.toNat+1) i≤f→Ev (qb · (l.map qW) i t) (qy l f i t)
 |0,i,t,hf,hx,hd=>by
  have:=qO6 (qX l) (i.toNat+1) i hx.1 (by omega)
  omega
 |f+1,i,t,hf,hx,hd=>qI5 h f i t hf hx hd fun k hk t'=>qHE h f k t' (by omega) (h.kid hx hd hk).1 (h.kid hx hd hk).2
def qDw (l:List Nd):ByteArray:=if qFP l=true then (if ((qy l 12 ((l.length:Int)-1) 1).size:Int)>200 then ⟨#[]⟩ else qy l 12 ((l.length:Int)-1) 1) else ⟨#[]⟩
theorem qUl {l:List Nd} (h:qFP l=true) (hk:∀c∈l,(kd c).length≤140737488351232∧c.2.2.2.2.1.size≤140737488351232):Fine l∧(0≤(l.length:Int)-1∧(l.length:Int)-1<l.length)∧qBE (qX l) (((l.length:Int)-1).toNat+1) ((l.length:Int)-1)≤(12:Nat):=by
 unfold qFP at h
 simp only [Bool.and_eq_true,decide_eq_true_eq] at h
 obtain ⟨h1,h2,h3,h4,h5⟩:=h
 have e:((l.length:Int)-1).toNat+1=l.length:=by omega
 rw [e]
 exact ⟨⟨h1.2,qGg.1 h2,hk⟩,by omega,h5⟩
theorem qMM (l:List Nd) (hl:l.length≤140737488351232) (hk:∀c∈l,(kd c).length≤140737488351232∧c.2.2.2.2.1.size≤140737488351232):Ev (qB5 · (l.map qW)) (qDw l):=by
 obtain ⟨n1,g1⟩:=qFx l hk
 unfold qDw
 cases hf:qFP l with
 |false=>
  rw [hf] at g1
  refine ⟨n1+1,fun n hn=>?_⟩
  obtain ⟨m,rfl,hm⟩:=up1 hn
  have g1:=g1 m (by omega)
  dsimp only at g1⊢
  simp [qB5,qDz,qC,qE,qH,qJ,qK,qM,Option.bind_some,qF,qG,qN,g1]
 |true=>
  rw [hf] at g1
  obtain ⟨q1,q2,q3⟩:=qUl hf hk
  obtain ⟨n2,g2⟩:=qLh q1 12 ((l.length:Int)-1) 0 (by decide) q2 q3
  rw [qUk] at g2
  have hw:IntKind.i64.wrap ((l.length:Int)-1)=(l.length:Int)-1:=qT (by omega)
  refine ⟨n1+n2+1,fun n hn=>?_⟩
  obtain ⟨m,rfl,hm⟩:=up1 hn
  have g1:=g1 m (by omega)
  have g2:=g2 m (by omega)
  dsimp only at g1 g2⊢
  generalize qy l 12 ((l.length:Int)-1) 1=t at*
  simp only [qB5,qDz,qC,qE,qH,qJ,qK,qM,Option.bind_some,qF,qG,qN,g1,List.length_map,hw,g2]
  by_cases h2:(t.size:Int)>200<;>simp [h2]
theorem qMN (l:List Nd) (hl:l.length≤140737488351232) (hk:∀c∈l,(kd c).length≤140737488351232∧c.2.2.2.2.1.size≤140737488351232):Ev (qCC · (l.map qW)) (qDw l):=by
 obtain ⟨n1,g1⟩:=qIZ l hl hk
 unfold qDw
 cases hf:qFP l with
 |false=>
  rw [hf] at g1
  refine ⟨n1+1,fun n hn=>?_⟩
  obtain ⟨m,rfl,hm⟩:=up1 hn
  have g1:=g1 m (by omega)
  dsimp only at g1⊢
  simp [qCC,qD3,qC,qE,qH,qJ,qK,qM,Option.bind_some,qF,qG,qN,g1]
 |true=>
  rw [hf] at g1
  obtain ⟨q1,q2,q3⟩:=qUl hf hk
  obtain ⟨n2,g2⟩:=qHE q1 12 ((l.length:Int)-1) 1 (by decide) q2 q3
  have hw:IntKind.i64.wrap ((l.length:Int)-1)=(l.length:Int)-1:=qT (by omega)
  refine ⟨n1+n2+1,fun n hn=>?_⟩
  obtain ⟨m,rfl,hm⟩:=up1 hn
  have g1:=g1 m (by omega)
  have g2:=g2 m (by omega)
  dsimp only at g1 g2⊢
  generalize qy l 12 ((l.length:Int)-1) 1=t at*
  simp only [qCC,qD3,qC,qE,qH,qJ,qK,qM,Option.bind_some,qF,qG,qN,g1,List.length_map,hw,g2]
  by_cases h2:(t.size:Int)>200<;>simp [h2]
abbrev PS:=List UInt8×Bool×List Nd
def tb (r:List UInt8):List UInt8:=r.dropWhile (· ==32)
def wch (c:UInt8):Bool:=(decide (65≤c.toNat)&&decide (c.toNat≤90))||((decide (48≤c.toNat)&&decide (c.toNat≤57))||c==36)
def wd (r:List UInt8):List UInt8:=r.takeWhile wch
def wr (r:List UInt8):List UInt8:=r.dropWhile wch
def BR (r:List UInt8):ByteArray:=⟨r.toArray⟩
def qFN:List (List UInt8):= [[60,62],[60,61],[62,61],[60],[62],[61],[38],[43],[45],[42],[47],[40],[41],[44],[58]]
def sgn (r:List UInt8):List UInt8:=match qFN.find? (fun w=>w.isPrefixOf r) with|some w=>w|none=> []
def nd1 (v:V3):Nd:=(1,0,v.1,v.2.1,v.2.2,0,0,false,false,0,0,false,false,[])
def ndK (k op:Int) (kids:List Int):Nd:=(k,op,0,0,em,0,0,false,false,0,0,false,false,kids)
def ndC (p:Int×Int×Bool×Bool×Bool):Nd:=(2,0,0,0,em,p.1,p.2.1,p.2.2.1,p.2.2.2.1,0,0,false,false,[])
def ndA (p q:Int×Int×Bool×Bool×Bool):Nd:=(3,0,0,0,em,p.1,p.2.1,p.2.2.1,p.2.2.2.1,q.1,q.2.1,q.2.2.1,q.2.2.2.1,[])
def qCh:List UInt8→List UInt8→Option (List UInt8×List UInt8)
 |_,[]=>none
 |acc,c::t=>if c=34 then (match t with
   |d::t'=>if d=34 then qCh (acc++ [34]) t' else some (acc,t)
   | []=>some (acc,[])) else qCh (acc++ [c]) t
def qKZ (r:List UInt8):Int→Nat→Option Int
 |_,0=>none
 |n,k+1=>if (qh n).toList.isPrefixOf r=true then some n else qKZ r (n+1) k
def qHO (w:List UInt8):Int→Nat→Option Int
 |_,0=>none
 |n,k+1=>if (fnS n).toList=w then some n else qHO w (n+1) k
def qA3 (r:List UInt8):Int:=
 if sgn r= [43] then 1 else if sgn r= [45] then 2 else if sgn r= [42] then 3 else if sgn r= [47] then 4 else if sgn r= [38] then 5 else if sgn r= [61] then 6 else
 if sgn r= [60,62] then 7 else if sgn r= [60] then 8 else if sgn r= [60,61] then 9 else if sgn r= [62] then 10 else if sgn r= [62,61] then 11 else 0
def qZ (w:List UInt8) (p:PS):Bool×PS:=if sgn (tb p.1)=w then (true,(tb p.1).drop w.length,p.2) else (false,tb p.1,p.2)
def qEG (x:Nd) (p:PS):Int×PS:=if p.2.1=true∨60≤p.2.2.length then ((p.2.2.length:Int)-1,p.1,true,p.2.2) else ((p.2.2.length:Int),p.1,false,p.2.2++ [x])
def qUK (p:PS):PS:=(p.1,true,p.2.2)
def qC2 (w:List UInt8) (p:PS):PS:=if p.2.1=true then p else if (qZ w p).1=true then (qZ w p).2 else qUK (qZ w p).2
def qBX (p:PS):Option Nd×PS:=
 let w:=wd (tb p.1)
 let p1:PS:=(wr (tb p.1),p.2)
 if (qBG (BR w)).2.2.2.2=true∧(qZ [58] p1).1=true then
  let p2:=(qZ [58] p1).2
  let w2:=wd (tb p2.1)
  (some (ndA (qBG (BR w)) (qBG (BR w2))),wr (tb p2.1),p2.2.1||!(qBG (BR w2)).2.2.2.2,p2.2.2)
 else (none,p)
def qFQ (o:Option Nd×PS) (g:PS→Int×PS):Int×PS:=match o.1 with
 |some x=>qEG x o.2
 |none=>g o.2
inductive PJ where
 |bin (least deep:Int)
 |loop (least deep a:Int)
 |un (deep:Int)
 |at (deep:Int)
 |call (op deep:Int)
 |args (op deep:Int) (kids:List Int)
def pP:Nat→PJ→PS→Int×PS
 |0,_,p=>(0,p)
 |f+1,.bin least deep,p=>pP f (.loop least deep (pP f (.un deep) p).1) (pP f (.un deep) p).2
 |f+1,.loop least deep a,p=>
  if p.2.1=true then (a,p) else
  if qA3 (tb p.1)=0∨lvl (qA3 (tb p.1))<least then (a,tb p.1,p.2) else
  let p1:PS:=((tb p.1).drop (sgn (tb p.1)).length,p.2)
  let q:=pP f (.bin (lvl (qA3 (tb p.1))+1) deep) p1
  let c:=qEG (ndK 5 (qA3 (tb p.1)) [a,q.1]) q.2
  pP f (.loop least deep c.1) c.2
 |f+1,.un deep,p=>
  if deep>400∨p.2.1=true then (-1,qUK p) else
  if (qZ [45] p).1=true then
   let q:=pP f (.un (deep+1)) (qZ [45] p).2
   qEG (ndK 4 0 [q.1]) q.2
  else pP f (.at deep) (qZ [45] p).2
 |f+1,.at deep,p=>
  let r:=tb p.1
  if r.head?=some 34 then (match qCh [] r.tail with
   |none=>(-1,r,true,p.2.2)
   |some (s,t)=>qEG (nd1 (2,0,BR s)) (t,p.2))
  else match (if r.head?=some 35 then qKZ r 1 5 else none) with
  |some n=>qEG (nd1 (4,n,em)) (r.drop (qh n).size,p.2)
  |none=>
   if r.head?≠some 35∧(qZ [40] p).1=true then
    let q:=pP f (.bin 1 (deep+1)) (qZ [40] p).2
    (q.1,qC2 [41] q.2)
   else
    let w:=wd r
    let p2:PS:=(wr r,p.2)
    if (qj (BR w)).2.2.2=true∧((qj (BR w)).1=1∨(qj (BR w)).1=3) then qEG (nd1 ((qj (BR w)).1,(qj (BR w)).2.1,(qj (BR w)).2.2.1)) p2
    else if (qBG (BR w)).2.2.2.2=true then qEG (ndC (qBG (BR w))) p2
    else match qHO w 1 10 with
    |some op=>pP f (.call op deep) p2
    |none=>(-1,qUK p2)
 |f+1,.call op deep,p=>pP f (.args op deep []) (qC2 [40] p)
 |f+1,.args op deep kids,p=>
  if p.2.1=true then qEG (ndK 6 op kids) p else
  let q:=qFQ (qBX p) (fun p=>pP f (.bin 1 (deep+1)) p)
  if (qZ [44] q.2).1=true then pP f (.args op deep (kids++ [q.1])) (qZ [44] q.2).2
  else qEG (ndK 6 op (kids++ [q.1])) (qC2 [41] (qZ [44] q.2).2)
def sIs (w:List UInt8) (q:PS):Bool×PS:=if q.2.1=true then (false,tb q.1,q.2) else if w.isPrefixOf (tb q.1)=true then (true,(tb q.1).drop w.length,q.2) else (false,tb q.1,q.2)
def qE9 (x:Nd) (q:PS):Int×PS:=((q.2.2.length:Int),q.1,(if 60<q.2.2.length+1∨qF3 x=false then true else q.2.1),q.2.2++ [x])
def qNJ (q:PS):PS:=(q.1,true,q.2.2)
def qCn:List Int:= [7,9,11,6,8,10,1,2,3,4,5]
def qEo (level:Int) (r:List UInt8):List Int→Int
 | []=>0
 |o::l=>if lvl o=level∧(qAY o).toList.isPrefixOf r=true then o else qEo level r l
def sOp (level:Int) (q:PS):Int×PS:=
 if q.2.1=true then (0,tb q.1,q.2) else
 (qEo level (tb q.1) qCn,(if qEo level (tb q.1) qCn=0 then tb q.1 else (tb q.1).drop (qAY (qEo level (tb q.1) qCn)).size),q.2)
def qTp (r:List UInt8):Int→Nat→Option Int
 |_,0=>none
 |n,k+1=>if (qh n).toList.tail.isPrefixOf r=true then some n else qTp r (n+1) k
inductive SJ where
 |row (level:Int)
 |rl (level a:Int)
 |one
 |call (op:Int) (kids:List Int)
 |arg
def sP:Nat→SJ→PS→Int×PS
 |0,_,q=>(0,q)
 |f+1,.row level,q=>
  if q.2.1=true then (0,q) else
  if level=5 then sP f .one q else
  sP f (.rl level (sP f (.row (level+1)) q).1) (sP f (.row (level+1)) q).2
 |f+1,.rl level a,q=>
  if q.2.1=true then (a,q) else
  let o:=sOp level q
  if o.1=0 then (a,o.2) else
  let b:=sP f (.row (level+1)) o.2
  let c:=qE9 (ndK 5 o.1 [a,b.1]) b.2
  sP f (.rl level c.1) c.2
 |f+1,.one,q=>
  if (sIs [45] q).1=true then
   let b:=sP f (.row 5) (sIs [45] q).2
   qE9 (ndK 4 0 [b.1]) b.2
  else if (sIs [40] (sIs [45] q).2).1=true then
   let b:=sP f (.row 1) (sIs [40] (sIs [45] q).2).2
   (b.1,if (sIs [41] b.2).1=true then (sIs [41] b.2).2 else qNJ (sIs [41] b.2).2)
  else
   let q2:PS:=(tb q.1,q.2)
   if (sIs [34] q2).1=true then (match qCh [] (sIs [34] q2).2.1 with
    |none=>(0,[],true,q.2.2)
    |some (s,t)=>qE9 (nd1 (2,0,BR s)) (t,q.2))
   else if (sIs [35] q2).1=true then (match qTp (sIs [35] q2).2.1 1 5 with
    |some n=>qE9 (nd1 (4,n,em)) ((sIs [35] q2).2.1.drop ((qh n).size-1),q.2)
    |none=>(0,(sIs [35] q2).2.1,true,q.2.2))
   else
    let w:=wd (tb q.1)
    let q3:PS:=(wr (tb q.1),q.2)
    match qHO w 1 10 with
    |some op=>if (sIs [40] q3).1=true then sP f (.call op []) (sIs [40] q3).2 else (0,qNJ (sIs [40] q3).2)
    |none=>
     if (qj (BR w)).2.2.2=true∧w≠ [] then qE9 (nd1 ((qj (BR w)).1,(qj (BR w)).2.1,(qj (BR w)).2.2.1)) q3
     else if (qBG (BR w)).2.2.2.2=true then qE9 (ndC (qBG (BR w))) q3
     else (0,qNJ q3)
 |f+1,.call op kids,q=>
  if q.2.1=true then (0,q) else
  let a:=sP f .arg q
  if (sIs [41] a.2).1=true then qE9 (ndK 6 op (kids++ [a.1])) (sIs [41] a.2).2
  else sP f (.call op (kids++ [a.1])) (if (sIs [44] (sIs [41] a.2).2).1=true then (sIs [44] (sIs [41] a.2).2).2 else qNJ (sIs [44] (sIs [41] a.2).2).2)
 |f+1,.arg,q=>
  let w:=wd (tb q.1)
  let q1:PS:=(wr (tb q.1),q.2)
  if (qBG (BR w)).2.2.2.2=true∧(sIs [58] q1).1=true then
   let q2:=(sIs [58] q1).2
   let w2:=wd (tb q2.1)
   if (qBG (BR w2)).2.2.2.2=true then qE9 (ndA (qBG (BR w)) (qBG (BR w2))) (wr (tb q2.1),q2.2) else (0,wr (tb q2.1),true,q2.2.2)
  else sP f (.row 1) (tb q.1,q.2)
theorem qC9:∀r:List UInt8,tb (tb r)=tb r
 | []=>rfl
 |c::r=>by
  unfold tb
  by_cases h:(c==32)=true
  ·simp only [List.dropWhile_cons,h,if_true];exact qC9 r
  ·simp [List.dropWhile_cons,h]
theorem qAE:∀r:List UInt8,(tb r).length≤r.length
 | []=>Nat.le_refl _
 |c::r=>by
  unfold tb
  by_cases h:(c==32)=true
  ·simp only [List.dropWhile_cons,h,if_true];exact Nat.le_succ_of_le (qAE r)
  ·simp [List.dropWhile_cons,h]
theorem qSl {p:UInt8→Bool}:∀r:List UInt8,(r.dropWhile p).length≤r.length
 | []=>Nat.le_refl _
 |c::r=>by
  by_cases h:p c=true
  ·simp only [List.dropWhile_cons,h,if_true];exact Nat.le_succ_of_le (qSl r)
  ·simp [List.dropWhile_cons,h]
theorem qID (r:List UInt8):(wr r).length≤r.length:=qSl r
theorem wdr (r:List UInt8):wd r++wr r=r:=List.takeWhile_append_dropWhile
theorem qTL (c:UInt8) (t:List UInt8) (h1:c≠60) (h2:c≠62):sgn (c::t)=if c∈([61,38,43,45,42,47,40,41,44,58]:List UInt8) then [c] else []:=by
 have e1:(60==c)=false:=by simpa using fun e=>h1 e.symm
 have e2:(62==c)=false:=by simpa using fun e=>h2 e.symm
 by_cases h:c∈([61,38,43,45,42,47,40,41,44,58]:List UInt8)
 ·rw [if_pos h]
  simp only [List.mem_cons,List.not_mem_nil,or_false] at h
  rcases h with rfl|rfl|rfl|rfl|rfl|rfl|rfl|rfl|rfl|rfl<;>rfl
 ·rw [if_neg h]
  simp only [List.mem_cons,List.not_mem_nil,or_false,not_or] at h
  obtain ⟨a1,a2,a3,a4,a5,a6,a7,a8,a9,a10⟩:=h
  have f:∀d:UInt8,c≠d→(d==c)=false:=fun d hd=>by simpa using fun e=>hd e.symm
  simp [sgn,qFN,List.find?,List.isPrefixOf,e1,e2,f _ a1,f _ a2,f _ a3,f _ a4,f _ a5,f _ a6,f _ a7,f _ a8,f _ a9,f _ a10]
theorem qRe (t:List UInt8):sgn (60::t)=if t.head?=some 62 then [60,62] else if t.head?=some 61 then [60,61] else [60]:=by
 cases t with
 |nil=>rfl
 |cons d t=>
  by_cases h:d=62
  ·subst h;rfl
  ·by_cases h2:d=61
   ·subst h2;rfl
   ·have e1:(62==d)=false:=by simpa using fun e=>h e.symm
    have e2:(61==d)=false:=by simpa using fun e=>h2 e.symm
    simp [sgn,qFN,List.find?,List.isPrefixOf,e1,e2,h,h2]
theorem qTM (t:List UInt8):sgn (62::t)=if t.head?=some 61 then [62,61] else [62]:=by
 cases t with
 |nil=>rfl
 |cons d t=>
  by_cases h2:d=61
  ·subst h2;rfl
  ·have e2:(61==d)=false:=by simpa using fun e=>h2 e.symm
   simp [sgn,qFN,List.find?,List.isPrefixOf,e2,h2]
theorem qXF {c:UInt8} (hc:c∈([45,40,41,44,58]:List UInt8)) (r:List UInt8):(sgn r= [c])↔([c].isPrefixOf r=true):=by
 cases r with
 |nil=>
  have:sgn []= []:=rfl
  rw [this]
  simp [List.isPrefixOf]
 |cons d t=>
  have hcc:c≠60∧c≠62∧c∈([61,38,43,45,42,47,40,41,44,58]:List UInt8):=by
   simp only [List.mem_cons,List.not_mem_nil,or_false] at hc
   rcases hc with rfl|rfl|rfl|rfl|rfl<;>decide
  have e:([c].isPrefixOf (d::t)=true)↔c=d:=by simp [List.isPrefixOf]
  rw [e]
  by_cases h1:d=60
  ·subst h1
   rw [qRe]
   constructor
   ·intro h;split at h
    ·cases h
    ·split at h
     ·cases h
     ·simp only [List.cons.injEq,and_true] at h;exact absurd h.symm hcc.1
   ·intro h;exact absurd h hcc.1
  ·by_cases h2:d=62
   ·subst h2
    rw [qTM]
    constructor
    ·intro h;split at h
     ·cases h
     ·simp only [List.cons.injEq,and_true] at h;exact absurd h.symm hcc.2.1
    ·intro h;exact absurd h hcc.2.1
   ·rw [qTL d t h1 h2]
    constructor
    ·intro h;split at h
     ·simp only [List.cons.injEq,and_true] at h;exact h.symm
     ·cases h
    ·intro h;subst h;rw [if_pos hcc.2.2]
theorem qV9 {c:UInt8} (hc:c∈([45,40,41,44,58]:List UInt8)) {p q:PS} (hb:q.2.1=false) (ht:tb p.1=tb q.1):(qZ [c] p).1=(sIs [c] q).1∧(qZ [c] p).2.1=(sIs [c] q).2.1∧(qZ [c] p).2.2=p.2∧(sIs [c] q).2.2=q.2:=by
 have h:=qXF hc (tb q.1)
 unfold qZ sIs
 rw [ht,hb]
 by_cases hs:sgn (tb q.1)= [c]
 ·rw [if_pos hs,if_neg (by simp),if_pos (h.1 hs)]
  exact ⟨rfl,rfl,rfl,rfl⟩
 ·rw [if_neg hs,if_neg (by simp),if_neg (fun e=>hs (h.2 e))]
  exact ⟨rfl,rfl,rfl,rfl⟩
theorem qEe {w:List UInt8} (hw:w≠ []) {p:PS} (h:(qZ w p).1=true):(qZ w p).2.1.length<(tb p.1).length:=by
 unfold qZ at h⊢
 by_cases hs:sgn (tb p.1)=w
 ·rw [if_pos hs]
  have hp:w.isPrefixOf (tb p.1)=true:=by
   unfold sgn at hs
   split at hs
   ·rename_i x hx
    subst hs
    have:=List.find?_some hx
    simpa using this
   ·exact absurd hs.symm hw
  obtain ⟨t,ht⟩:=List.isPrefixOf_iff_prefix.1 hp
  have h0:0<w.length:=List.length_pos_iff.2 hw
  have h1:=congrArg List.length ht
  simp only [List.length_append] at h1
  simp only [List.length_drop]
  omega
 ·rw [if_neg hs] at h;cases h
theorem qJ7 (w:List UInt8) (p:PS):(qZ w p).2.1.length≤(tb p.1).length:=by
 unfold qZ
 split
 ·simp
 ·exact Nat.le_refl _
theorem qUm (r:List UInt8):(qA3 r=0)∨(1≤qA3 r∧qA3 r≤11∧sgn r=(qAY (qA3 r)).toList):=by
 unfold qA3
 repeat' (split; · rename_i h;right;rw [h];exact ⟨by decide,by decide,by decide+kernel⟩)
 left;rfl
theorem sg1:(qAY 1).toList= [43]:=by decide+kernel
theorem sg2:(qAY 2).toList= [45]:=by decide+kernel
theorem sg3:(qAY 3).toList= [42]:=by decide+kernel
theorem sg4:(qAY 4).toList= [47]:=by decide+kernel
theorem sg5:(qAY 5).toList= [38]:=by decide+kernel
theorem sg6:(qAY 6).toList= [61]:=by decide+kernel
theorem sg7:(qAY 7).toList= [60,62]:=by decide+kernel
theorem sg8:(qAY 8).toList= [60]:=by decide+kernel
theorem sg9:(qAY 9).toList= [60,61]:=by decide+kernel
theorem qVc:(qAY 10).toList= [62]:=by decide+kernel
theorem qVd:(qAY 11).toList= [62,61]:=by decide+kernel
theorem qI6 (r:List UInt8):qEo 1 r qCn=if [60,62].isPrefixOf r=true then 7 else if [60,61].isPrefixOf r=true then 9 else if [62,61].isPrefixOf r=true then 11 else if [61].isPrefixOf r=true then 6 else if [60].isPrefixOf r=true then 8 else if [62].isPrefixOf r=true then 10 else 0:=by
 simp [qEo,qCn,lvl,sg1,sg2,sg3,sg4,sg5,sg6,sg7,sg8,sg9,qVc,qVd]
theorem qI7 (r:List UInt8):qEo 2 r qCn=if [38].isPrefixOf r=true then 5 else 0:=by
 simp [qEo,qCn,lvl,sg1,sg2,sg3,sg4,sg5,sg6,sg7,sg8,sg9,qVc,qVd]
theorem qI8 (r:List UInt8):qEo 3 r qCn=if [43].isPrefixOf r=true then 1 else if [45].isPrefixOf r=true then 2 else 0:=by
 simp [qEo,qCn,lvl,sg1,sg2,sg3,sg4,sg5,sg6,sg7,sg8,sg9,qVc,qVd]
theorem qI9 (r:List UInt8):qEo 4 r qCn=if [42].isPrefixOf r=true then 3 else if [47].isPrefixOf r=true then 4 else 0:=by
 simp [qEo,qCn,lvl,sg1,sg2,sg3,sg4,sg5,sg6,sg7,sg8,sg9,qVc,qVd]
theorem qWA {m:Int} (hm:1≤m∧m≤4) (r:List UInt8):qEo m r qCn=if qA3 r≠0∧lvl (qA3 r)=m then qA3 r else 0:=by
 have hm:m=1∨m=2∨m=3∨m=4:=by omega
 cases r with
 |nil=>rcases hm with rfl|rfl|rfl|rfl<;>simp [qI6,qI7,qI8,qI9,qA3,sgn,qFN,List.find?,List.isPrefixOf]
 |cons c t=>
  have f:∀d:UInt8,c≠d→(d==c)=false:=fun d hd=>by simpa using fun e=>hd e.symm
  by_cases h1:c=60
  ·subst h1
   cases t with
   |nil=>rcases hm with rfl|rfl|rfl|rfl<;>simp [qI6,qI7,qI8,qI9,qA3,qRe,List.isPrefixOf,lvl]
   |cons d t=>
    have g:∀e:UInt8,d≠e→(e==d)=false:=fun e hd=>by simpa using fun x=>hd x.symm
    by_cases hd:d=62
    ·subst hd;rcases hm with rfl|rfl|rfl|rfl<;>simp [qI6,qI7,qI8,qI9,qA3,qRe,List.isPrefixOf,lvl]
    ·by_cases hd2:d=61
     ·subst hd2;rcases hm with rfl|rfl|rfl|rfl<;>simp [qI6,qI7,qI8,qI9,qA3,qRe,List.isPrefixOf,lvl]
     ·rcases hm with rfl|rfl|rfl|rfl<;>simp [qI6,qI7,qI8,qI9,qA3,qRe,List.isPrefixOf,lvl,hd,hd2,g _ hd,g _ hd2]
  ·by_cases h2:c=62
   ·subst h2
    cases t with
    |nil=>rcases hm with rfl|rfl|rfl|rfl<;>simp [qI6,qI7,qI8,qI9,qA3,qTM,List.isPrefixOf,lvl]
    |cons d t=>
     have g:∀e:UInt8,d≠e→(e==d)=false:=fun e hd=>by simpa using fun x=>hd x.symm
     by_cases hd2:d=61
     ·subst hd2;rcases hm with rfl|rfl|rfl|rfl<;>simp [qI6,qI7,qI8,qI9,qA3,qTM,List.isPrefixOf,lvl]
     ·rcases hm with rfl|rfl|rfl|rfl<;>simp [qI6,qI7,qI8,qI9,qA3,qTM,List.isPrefixOf,lvl,hd2,g _ hd2]
   ·by_cases h:c∈([61,38,43,45,42,47,40,41,44,58]:List UInt8)
    ·have hs:sgn (c::t)= [c]:=by rw [qTL c t h1 h2,if_pos h]
     simp only [List.mem_cons,List.not_mem_nil,or_false] at h
     rcases h with rfl|rfl|rfl|rfl|rfl|rfl|rfl|rfl|rfl|rfl<;>rcases hm with rfl|rfl|rfl|rfl<;>
      simp [qI6,qI7,qI8,qI9,qA3,hs,List.isPrefixOf,lvl]
    ·have hs:sgn (c::t)= []:=by rw [qTL c t h1 h2,if_neg h]
     simp only [List.mem_cons,List.not_mem_nil,or_false,not_or] at h
     obtain ⟨a1,a2,a3,a4,a5,a6,a7,a8,a9,a10⟩:=h
     rcases hm with rfl|rfl|rfl|rfl<;>
      simp [qI6,qI7,qI8,qI9,qA3,hs,List.isPrefixOf,f _ h1,f _ h2,f _ a1,f _ a2,f _ a3,f _ a4,f _ a5,f _ a6]
theorem qUL {op:Int}:1≤lvl op∧lvl op≤4:=by unfold lvl;split<;>(try split)<;>(try split)<;>omega
def qN2 (p:PS):Prop:=p.2.1=true∨∃x∈p.2.2,qF3 x=false
theorem qDQ {x:Nd} {p:PS} (h:qN2 p):qN2 (qEG x p).2:=by
 unfold qEG
 split
 ·exact .inl rfl
 ·rename_i hn
  rcases h with h|⟨y,hy,hb⟩
  ·exact absurd (.inl h) hn
  ·exact .inr ⟨y,List.mem_append_left _ hy,hb⟩
theorem qFR {w:List UInt8} {p:PS} (h:qN2 p):qN2 (qZ w p).2:=by unfold qZ;split<;>exact h
theorem qGh (p:PS):qN2 (qUK p):= .inl rfl
theorem qJe {w:List UInt8} {p:PS} (h:qN2 p):qN2 (qC2 w p):=by
 unfold qC2
 split
 ·exact h
 ·split
  ·exact qFR h
  ·exact qGh _
theorem qSm {p:PS} (h:qN2 p):qN2 (qBX p).2:=by
 unfold qBX
 simp only
 split
 ·rcases h with h|h
  ·left
   simp only [Bool.or_eq_true]
   left
   have:(qZ [58] (wr (tb p.1),p.2)).2.2=p.2:=by unfold qZ;split<;>rfl
   rw [this];exact h
  ·right
   have:(qZ [58] (wr (tb p.1),p.2)).2.2=p.2:=by unfold qZ;split<;>rfl
   simp only [this]
   exact h
 ·exact h
theorem qDg:∀(f:Nat) (j:PJ) (p:PS),qN2 p→qN2 (pP f j p).2
 |0,j,p,h=>h
 |f+1,.bin least deep,p,h=>by
  simp only [pP]
  exact qDg f _ _ (qDg f _ _ h)
 |f+1,.loop least deep a,p,h=>by
  simp only [pP]
  split
  ·exact h
  ·split
   ·exact h
   ·exact qDg f _ _ (qDQ (qDg f _ _ h))
 |f+1,.un deep,p,h=>by
  simp only [pP]
  split
  ·exact qGh _
  ·split
   ·exact qDQ (qDg f _ _ (qFR h))
   ·exact qDg f _ _ (qFR h)
 |f+1,.at deep,p,h=>by
  simp only [pP]
  split
  ·split
   ·exact .inl rfl
   ·exact qDQ h
  ·split
   ·exact qDQ h
   ·split
    ·exact qJe (qDg f _ _ (qFR h))
    ·split
     ·exact qDQ h
     ·split
      ·exact qDQ h
      ·split
       ·exact qDg f _ _ h
       ·exact qGh _
 |f+1,.call op deep,p,h=>by
  simp only [pP]
  exact qDg f _ _ (qJe h)
 |f+1,.args op deep kids,p,h=>by
  simp only [pP]
  have hq:qN2 (qFQ (qBX p) (fun p=>pP f (.bin 1 (deep+1)) p)).2:=by
   unfold qFQ
   split
   ·exact qDQ (qSm h)
   ·exact qDg f _ _ (qSm h)
  revert hq
  generalize qFQ (qBX p) (fun p=>pP f (.bin 1 (deep+1)) p)=q
  intro hq
  split
  ·exact qDQ h
  ·split
   ·exact qDg f _ _ (qFR hq)
   ·exact qDQ (qJe (qFR hq))
theorem qBF (x:Nd) (p:PS):(qEG x p).2.1=p.1:=by unfold qEG;split<;>rfl
theorem qEp (w:List UInt8) (p:PS):(tb (qZ w p).2.1).length≤(tb p.1).length:=by
 unfold qZ
 split
 ·refine Nat.le_trans (qAE _) ?_
  simp
 ·simp only;rw [qC9];exact Nat.le_refl _
theorem qLt (w:List UInt8) (p:PS):(tb (qC2 w p).1).length≤(tb p.1).length:=by
 unfold qC2
 split
 ·exact Nat.le_refl _
 ·split
  ·exact qEp w p
  ·exact qEp w p
theorem qJf (p:PS):(tb (qBX p).2.1).length≤(tb p.1).length:=by
 unfold qBX
 simp only
 split
 ·simp only
  refine Nat.le_trans (qAE _) (Nat.le_trans (qID _) (Nat.le_trans (qEp [58] _) ?_))
  exact Nat.le_trans (qAE _) (qID _)
 ·exact Nat.le_refl _
theorem qLu:∀(acc r:List UInt8) {s t:List UInt8},qCh acc r=some (s,t)→t.length<r.length
 |acc,[],s,t,h=>by simp [qCh] at h
 |acc,c::r,s,t,h=>by
  unfold qCh at h
  by_cases hc:c=34
  ·rw [if_pos hc] at h
   match r,h with
   | [],h=>simp only [Option.some.injEq,Prod.mk.injEq] at h;rw [←h.2];simp
   |d::t',h=>
    simp only at h
    by_cases hd:d=34
    ·rw [if_pos hd] at h
     have:=qLu _ t' h
     simp only [List.length_cons];omega
    ·rw [if_neg hd] at h
     simp only [Option.some.injEq,Prod.mk.injEq] at h
     rw [←h.2];simp
  ·rw [if_neg hc] at h
   have:=qLu _ r h
   simp only [List.length_cons];omega
theorem qEf:∀(f:Nat) (j:PJ) (p:PS),(tb (pP f j p).2.1).length≤(tb p.1).length
 |0,j,p=>Nat.le_refl _
 |f+1,.bin least deep,p=>by
  simp only [pP]
  exact Nat.le_trans (qEf f _ _) (qEf f _ _)
 |f+1,.loop least deep a,p=>by
  simp only [pP]
  split
  ·exact Nat.le_refl _
  ·split
   ·simp only;rw [qC9];exact Nat.le_refl _
   ·refine Nat.le_trans (qEf f _ _) ?_
    rw [qBF]
    refine Nat.le_trans (qEf f _ _) (Nat.le_trans (qAE _) ?_)
    simp
 |f+1,.un deep,p=>by
  simp only [pP]
  split
  ·exact Nat.le_refl _
  ·split
   ·rw [qBF]
    exact Nat.le_trans (qEf f _ _) (qEp _ _)
   ·exact Nat.le_trans (qEf f _ _) (qEp _ _)
 |f+1,.at deep,p=>by
  simp only [pP]
  split
  ·split
   ·simp only;rw [qC9];exact Nat.le_refl _
   ·rename_i s t hq
    rw [qBF]
    have:=qLu _ _ hq
    refine Nat.le_trans (qAE _) ?_
    have h2:((tb p.1).tail).length≤(tb p.1).length:=by simp
    simp only;omega
  ·split
   ·rw [qBF]
    refine Nat.le_trans (qAE _) ?_
    simp
   ·split
    ·exact Nat.le_trans (qLt _ _) (Nat.le_trans (qEf f _ _) (qEp _ _))
    ·have hw:(tb (wr (tb p.1))).length≤(tb p.1).length:=Nat.le_trans (qAE _) (qID _)
     split
     ·rw [qBF];exact hw
     ·split
      ·rw [qBF];exact hw
      ·split
       ·exact Nat.le_trans (qEf f _ _) hw
       ·exact hw
 |f+1,.call op deep,p=>by
  simp only [pP]
  exact Nat.le_trans (qEf f _ _) (qLt _ _)
 |f+1,.args op deep kids,p=>by
  simp only [pP]
  have hq:(tb (qFQ (qBX p) (fun p=>pP f (.bin 1 (deep+1)) p)).2.1).length≤(tb p.1).length:=by
   unfold qFQ
   split
   ·rw [qBF];exact qJf p
   ·exact Nat.le_trans (qEf f _ _) (qJf p)
  revert hq
  generalize qFQ (qBX p) (fun p=>pP f (.bin 1 (deep+1)) p)=q
  intro hq
  split
  ·rw [qBF];exact Nat.le_refl _
  ·split
   ·exact Nat.le_trans (qEf f _ _) (Nat.le_trans (qEp _ _) hq)
   ·rw [qBF]
    exact Nat.le_trans (qLt _ _) (Nat.le_trans (qEp _ _) hq)
structure RdOK:Prop where
 v:∀w:List UInt8,w.all wch=true→w≠ []→(qj (BR w)).2.2.2=true→(qj (BR w)).1=1∨(qj (BR w)).1=3
 v0:¬((qj (BR [])).1=1∨(qj (BR [])).1=3)
 p0:(qBG (BR [])).2.2.2.2=false
 f:∀w op,qHO w 1 10=some op→(qj (BR w)).2.2.2=false∧(qBG (BR w)).2.2.2.2=false
 f0:qHO [] 1 10=none
 n:∀n:Int,1≤n∧n≤5→∃t,(qh n).toList=35::t
def Lk (p q:PS):Prop:=p.2.1=false∧q.2.1=false∧p.2.2=q.2.2∧tb p.1=tb q.1
def Sim (a b:Int×PS):Prop:=(a.1=b.1∧Lk a.2 b.2)∨(b.2.2.1=true∧qN2 a.2)
def qXG (least:Int) (p:PS):Prop:=qA3 (tb p.1)=0∨lvl (qA3 (tb p.1))<least
def SimP (least:Int) (a b:Int×PS):Prop:=(a.1=b.1∧Lk a.2 b.2∧qXG least a.2)∨(b.2.2.1=true∧qN2 a.2)
theorem SimP.sim {least:Int} {a b:Int×PS} (h:SimP least a b):Sim a b:=h.elim (fun h=> .inl ⟨h.1,h.2.1⟩) .inr
theorem qN3 {x:Nd} {q:PS} (h:q.2.1=true):(qE9 x q).2.2.1=true:=by
 unfold qE9;simp only;split
 ·rfl
 ·exact h
theorem qJ8 {w:List UInt8} {q:PS} (h:q.2.1=true):sIs w q=(false,tb q.1,q.2):=by unfold sIs;rw [if_pos h]
theorem qPB:∀(g:Nat) (j:SJ) (q:PS),q.2.1=true→(sP g j q).2.2.1=true
 |0,j,q,h=>h
 |g+1,.row level,q,h=>by simp only [sP];rw [if_pos h];exact h
 |g+1,.rl level a,q,h=>by simp only [sP];rw [if_pos h];exact h
 |g+1,.one,q,h=>by
  simp only [sP]
  rw [qJ8 (w:= [45]) h]
  simp only [Bool.false_eq_true,if_false]
  rw [qJ8 (w:= [40]) (q:=(tb q.1,q.2)) h]
  simp only [Bool.false_eq_true,if_false]
  rw [qJ8 (w:= [34]) (q:=(tb q.1,q.2)) h]
  simp only [Bool.false_eq_true,if_false]
  rw [qJ8 (w:= [35]) (q:=(tb q.1,q.2)) h]
  simp only [Bool.false_eq_true,if_false]
  split
  ·rw [qJ8 (w:= [40]) (q:=(wr (tb q.1),q.2)) h]
   simp [qNJ]
  ·split
   ·exact qN3 h
   ·split
    ·exact qN3 h
    ·rfl
 |g+1,.call op kids,q,h=>by simp only [sP];rw [if_pos h];exact h
 |g+1,.arg,q,h=>by
  simp only [sP]
  rw [qJ8 (w:= [58]) (q:=(wr (tb q.1),q.2)) h]
  simp only [Bool.false_eq_true,and_false,if_false]
  exact qPB g _ _ h
theorem qJ9 {x:Nd} {p q:PS} (h:Lk p q):Sim (qEG x p) (qE9 x q):=by
 obtain ⟨h1,h2,h3,h4⟩:=h
 unfold qEG qE9
 rw [h1,h2,h3]
 by_cases hl:60≤q.2.2.length
 ·refine .inr ⟨?_,.inl ?_⟩
  ·simp only;rw [if_pos (.inl (by omega))]
  ·rw [if_pos (.inr hl)]
 ·rw [if_neg (by simp;omega)]
  by_cases hn:qF3 x=false
  ·exact .inr ⟨by simp only;rw [if_pos (.inr hn)],.inr ⟨x,by simp,hn⟩⟩
  ·refine .inl ⟨rfl,rfl,?_,rfl,h4⟩
   simp only
   rw [if_neg]
   intro e
   rcases e with e|e
   ·omega
   ·exact hn e
theorem qTq {a b:Int×PS} (f:Int→Nd) (h:Sim a b):Sim (qEG (f a.1) a.2) (qE9 (f b.1) b.2):=by
 rcases h with ⟨h1,h2⟩|⟨h1,h2⟩
 ·rw [h1];exact qJ9 h2
 ·exact .inr ⟨qN3 h1,qDQ h2⟩
theorem qLv {c:UInt8} (hc:c∈([45,40,41,44,58]:List UInt8)) {p q:PS} (h:Lk p q):(qZ [c] p).1=(sIs [c] q).1∧Lk (qZ [c] p).2 (sIs [c] q).2:=by
 obtain ⟨h1,h2,h3,h4⟩:=h
 obtain ⟨e1,e2,e3,e4⟩:=qV9 hc h2 h4
 refine ⟨e1,?_,?_,?_,?_⟩
 ·rw [e3];exact h1
 ·rw [e4];exact h2
 ·rw [e3,e4];exact h3
 ·rw [e2]
theorem qTr {c:UInt8} (hc:c∈([45,40,41,44,58]:List UInt8)) {a b:Int×PS} (h:Sim a b):Sim (a.1,qC2 [c] a.2) (b.1,if (sIs [c] b.2).1=true then (sIs [c] b.2).2 else qNJ (sIs [c] b.2).2):=by
 rcases h with ⟨h1,h2⟩|⟨h1,h2⟩
 ·obtain ⟨e1,e2⟩:=qLv hc h2
  unfold qC2
  rw [if_neg (by rw [h2.1];simp),e1]
  by_cases ht:(sIs [c] b.2).1=true
  ·rw [if_pos ht,if_pos ht]
   exact .inl ⟨h1,e2⟩
  ·rw [if_neg ht,if_neg ht]
   exact .inr ⟨rfl,qGh _⟩
 ·refine .inr ⟨?_,qJe h2⟩
  rw [qJ8 h1]
  simp [qNJ]
def qKo (G:Nat) (least:Int):Nat→Int×PS→Int×PS→Prop
 |0,x,res=>res=x
 |m+1,x,res=>if ((m:Int)+1)<least then res=x else ∃g,G≤g∧qKo G least m (sP g (.rl ((m:Int)+1) x.1) x.2) res
theorem qPC {G G':Nat} (h:G'≤G) {least:Int}:∀(m:Nat) {x res:Int×PS},qKo G least m x res→qKo G' least m x res
 |0,x,res,ht=>ht
 |m+1,x,res,ht=>by
  unfold qKo at ht⊢
  split
  ·rename_i hc;rw [if_pos hc] at ht;exact ht
  ·rename_i hc
   rw [if_neg hc] at ht
   obtain ⟨g,h1,h2⟩:=ht
   exact ⟨g,Nat.le_trans h h1,qPC h m h2⟩
theorem qN4 {G:Nat} {least:Int}:∀(m:Nat) {x res:Int×PS},x.2.2.1=true→qKo G least m x res→res.2.2.1=true
 |0,x,res,hb,ht=>by unfold qKo at ht;rw [ht];exact hb
 |m+1,x,res,hb,ht=>by
  unfold qKo at ht
  split at ht
  ·rw [ht];exact hb
  ·obtain ⟨g,_,h2⟩:=ht
   exact qN4 m (qPB g _ _ hb) h2
theorem qSn {G:Nat} {l:Nat} (hl0:1≤l) {g:Nat} (hg:G≤g):∀(m:Nat) {x y:Int×PS},l≤m→qKo G ((l:Int)+1) m x y→qKo G (l:Int) m x (sP g (.rl (l:Int) y.1) y.2)
 |0,x,y,hl,ht=>by omega
 |m+1,x,y,hl,ht=>by
  unfold qKo at ht⊢
  rw [if_neg (by omega)]
  by_cases e:l=m+1
  ·subst e
   rw [if_pos (by omega)] at ht
   subst ht
   refine ⟨g,hg,?_⟩
   have key:∀{z:Int×PS},qKo G ((m+1:Nat):Int) m z z:=fun {z}=>by
    cases m with
    |zero=>rfl
    |succ k=>unfold qKo;rw [if_pos (by omega)]
   exact key
  ·rw [if_neg (by omega)] at ht
   obtain ⟨g',h1,h2⟩:=ht
   exact ⟨g',h1,qSn hl0 hg m (by omega) h2⟩
theorem qTs {G:Nat} {q:PS} (hq:q.2.1=false):∀(k:Nat),k≤4→∀g,G+k≤g→∃g5,G≤g5∧qKo G (5-(k:Int)) 4 (sP g5 (.row 5) q) (sP g (.row (5-(k:Int))) q)
 |0,_,g,hg=>⟨g,hg,by
  unfold qKo
  rw [if_pos (by decide)]
  simp⟩
 |k+1,hk,0,hg=>by omega
 |k+1,hk,g+1,hg=>by
  obtain ⟨g5,h1,h2⟩:=qTs (G:=G) hq k (by omega) g (by omega)
  refine ⟨g5,h1,?_⟩
  have e:(5-((k+1:Nat):Int))=((4-k:Nat):Int):=by omega
  have e1:(5-(k:Int))=((4-k:Nat):Int)+1:=by omega
  rw [e1] at h2
  rw [e]
  have:=qSn (G:=G) (l:=4-k) (by omega) (g:=g) (by omega) 4 (by omega) h2
  have e2:sP (g+1) (.row ((4-k:Nat):Int)) q=sP g (.rl ((4-k:Nat):Int) (sP g (.row (((4-k:Nat):Int)+1)) q).1) (sP g (.row (((4-k:Nat):Int)+1)) q).2:=by
   simp only [sP]
   rw [if_neg (by rw [hq];simp),if_neg (by omega)]
  rw [e2]
  exact this
theorem qVe (H:RdOK) {r:List UInt8} (h:r.head?=some 35):∀(k:Nat) (n:Int),1≤n→n+k≤6→qTp r.tail n k=qKZ r n k
 |0,n,_,_=>rfl
 |k+1,n,h1,h2=>by
  obtain ⟨t,ht⟩:=H.n n ⟨h1,by omega⟩
  cases r with
  |nil=>cases h
  |cons c r=>
   simp only [List.head?_cons,Option.some.injEq] at h
   subst h
   simp only [qTp,qKZ,ht,List.tail_cons]
   have ih:=qVe H (r:=35::r) rfl k (n+1) (by omega) (by omega)
   simp only [List.tail_cons] at ih
   rw [ih]
   simp [List.isPrefixOf]
theorem qTt {r:List UInt8}:∀(k:Nat) (n:Int) {m:Int},qKZ r n k=some m→n≤m∧m<n+k
 |0,n,m,h=>by cases h
 |k+1,n,m,h=>by
  simp only [qKZ] at h
  split at h
  ·simp only [Option.some.injEq] at h;omega
  ·have:=qTt k (n+1) h;omega
theorem qFy (c:UInt8) (r:List UInt8):([c].isPrefixOf r=true)↔r.head?=some c:=by
 cases r with
 |nil=>simp [List.isPrefixOf]
 |cons d t=>simp [List.isPrefixOf];exact eq_comm
theorem qN5 {c:UInt8} {q:PS} (hb:q.2.1=false):(sIs [c] q).1=true↔(tb q.1).head?=some c:=by
 unfold sIs
 rw [if_neg (by rw [hb];simp)]
 split
 ·rename_i h;exact ⟨fun _=>(qFy c _).1 h,fun _=>rfl⟩
 ·rename_i h;exact ⟨fun e=>(by cases e),fun e=>absurd ((qFy c _).2 e) h⟩
theorem qUM (r:List UInt8):(wd r).all wch=true:=by
 unfold wd
 induction r with
 |nil=>rfl
 |cons c r ih=>
  by_cases h:wch c=true
  ·simp only [List.takeWhile_cons,h,if_true,List.all_cons,Bool.true_and];exact ih
  ·simp [List.takeWhile_cons,h]
def qWB (N:Nat):Prop:=∀(p q:PS) (deep:Int) (f g:Nat),Lk p q→(tb p.1).length=N→0≤deep→deep+N≤400→20*N+4≤f→20*N+5≤g→Sim (pP f (.un deep) p) (sP g (.row 5) q)
def qWC (N:Nat):Prop:=∀(m:Nat),m≤4→∀(p q:PS) (deep least a:Int) (f:Nat) (res:Int×PS),Lk p q→(tb p.1).length=N→1≤least→0≤deep→deep+N≤400→20*N+5≤f→
 (qA3 (tb p.1)=0∨lvl (qA3 (tb p.1))≤m)→qKo (20*N+5) least m (a,q) res→SimP least (pP f (.loop least deep a) p) res
def qVf (N:Nat):Prop:=∀(p q:PS) (deep:Int) (k f g:Nat),k≤4→Lk p q→(tb p.1).length=N→0≤deep→deep+N≤400→20*N+6≤f→20*N+10≤g→SimP (5-(k:Int)) (pP f (.bin (5-(k:Int)) deep) p) (sP g (.row (5-(k:Int))) q)
def qWD (N:Nat):Prop:=∀(p q:PS) (deep op:Int) (kids:List Int) (f g:Nat),Lk p q→(tb p.1).length=N→0≤deep→deep+N+1≤400→20*N+8≤f→20*N+12≤g→Sim (pP f (.args op deep kids) p) (sP g (.call op kids) q)
theorem qXO (N:Nat) (hB:∀M,M<N→qVf M) (hT:∀M,M<N→qWC M):qWC N:=by
 intro m
 induction m with
 |zero=>
  intro hm p q deep least a f res hl hN hle hd hdN hf hpk ht
  have h0:qA3 (tb p.1)=0:=by
   rcases hpk with h|h
   ·exact h
   ·have:=(qUL (op:=qA3 (tb p.1))).1
    omega
  cases f with
  |zero=>omega
  |succ f=>
   simp only [pP]
   rw [if_neg (by rw [hl.1];simp),if_pos (.inl h0)]
   unfold qKo at ht
   subst ht
   refine .inl ⟨rfl,⟨hl.1,hl.2.1,hl.2.2.1,?_⟩,.inl ?_⟩
   ·simp only;rw [qC9];exact hl.2.2.2
   ·simp only;rw [qC9];exact h0
 |succ m ih=>
  intro hm p q deep least a f res hl hN hle hd hdN hf hpk ht
  unfold qKo at ht
  by_cases hc:(m:Int)+1<least
  ·rw [if_pos hc] at ht
   subst ht
   cases f with
   |zero=>omega
   |succ f=>
    have hst:qA3 (tb p.1)=0∨lvl (qA3 (tb p.1))<least:=by
     rcases hpk with h|h
     ·exact .inl h
     ·right;push_cast at h;omega
    simp only [pP]
    rw [if_neg (by rw [hl.1];simp),if_pos hst]
    refine .inl ⟨rfl,⟨hl.1,hl.2.1,hl.2.2.1,?_⟩,?_⟩
    ·simp only;rw [qC9];exact hl.2.2.2
    ·unfold qXG;simp only;rw [qC9];exact hst
  ·rw [if_neg hc] at ht
   obtain ⟨g,hg,ht⟩:=ht
   cases g with
   |zero=>omega
   |succ g=>
    have hin:=qWA (m:=(m:Int)+1) (by omega) (tb q.1)
    have hpq:tb p.1=tb q.1:=hl.2.2.2
    simp only [sP] at ht
    rw [if_neg (by rw [hl.2.1];simp)] at ht
    have ho:sOp ((m:Int)+1) q=(qEo ((m:Int)+1) (tb q.1) qCn,(if qEo ((m:Int)+1) (tb q.1) qCn=0 then tb q.1 else (tb q.1).drop (qAY (qEo ((m:Int)+1) (tb q.1) qCn)).size),q.2):=by
     unfold sOp;rw [if_neg (by rw [hl.2.1];simp)]
    by_cases hop:qA3 (tb q.1)≠0∧lvl (qA3 (tb q.1))=(m:Int)+1
    ·rw [if_pos hop] at hin
     rw [hin,if_neg hop.1] at ho
     rw [ho] at ht
     simp only at ht
     rw [if_neg hop.1] at ht
     cases f with
     |zero=>omega
     |succ f=>
      simp only [pP]
      rw [if_neg (by rw [hl.1];simp),if_neg (by rw [hpq];exact fun e=>e.elim (fun e=>hop.1 e) (fun e=>by have:=hop.2;omega))]
      rw [hpq]
      rcases qUm (tb q.1) with h0|⟨_,_,hsg⟩
      ·exact absurd h0 hop.1
      have hsz:(sgn (tb q.1)).length=(qAY (qA3 (tb q.1))).size:=by rw [hsg,qAa]
      have hpos:0<(sgn (tb q.1)).length:=by
       cases hh:sgn (tb q.1) with
       |nil=>
        exfalso
        apply hop.1
        unfold qA3
        rw [hh]
        simp
       |cons c t=>simp
      have hdrop:(tb ((tb q.1).drop (sgn (tb q.1)).length)).length<N:=by
       have h1:=qAE ((tb q.1).drop (sgn (tb q.1)).length)
       have h2:(sgn (tb q.1)).length≤(tb q.1).length∨(tb q.1).length<(sgn (tb q.1)).length:=by omega
       rw [List.length_drop] at h1
       have h3:(tb q.1).length=N:=by rw [←hpq];exact hN
       have h4:0<N:=by
        rcases Nat.eq_zero_or_pos N with h|h
        ·exfalso
         rw [h] at h3
         have:tb q.1= []:=List.eq_nil_of_length_eq_zero h3
         apply hop.1
         rw [this];rfl
        ·exact h
       omega
      have hlk:Lk ((tb q.1).drop (sgn (tb q.1)).length,p.2) ((tb q.1).drop (qAY (qA3 (tb q.1))).size,q.2):=⟨hl.1,hl.2.1,hl.2.2.1,by simp only;rw [hsz]⟩
      have hb:=hB _ hdrop ((tb q.1).drop (sgn (tb q.1)).length,p.2) ((tb q.1).drop (qAY (qA3 (tb q.1))).size,q.2) deep (3-m) f g (by omega) hlk rfl hd (by omega) (by omega) (by omega)
      have e5:(5-((3-m:Nat):Int))=(m:Int)+1+1:=by omega
      rw [e5] at hb
      rw [hop.2]
      have hlenA:=qEf f (.bin ((m:Int)+1+1) deep) ((tb q.1).drop (sgn (tb q.1)).length,p.2)
      generalize pP f (.bin ((m:Int)+1+1) deep) ((tb q.1).drop (sgn (tb q.1)).length,p.2)=A at hb hlenA⊢
      generalize hBB:sP g (.row ((m:Int)+1+1)) ((tb q.1).drop (qAY (qA3 (tb q.1))).size,q.2)=B at hb ht
      rcases hb with ⟨b1,b2,b3⟩|⟨b1,b2⟩
      ·rw [b1]
       have hs:=qJ9 (x:=ndK 5 (qA3 (tb q.1)) [a,B.1]) b2
       generalize hC:qEG (ndK 5 (qA3 (tb q.1)) [a,B.1]) A.2=C at hs⊢
       generalize qE9 (ndK 5 (qA3 (tb q.1)) [a,B.1]) B.2=D at hs ht
       rcases hs with ⟨c1,c2⟩|⟨c1,c2⟩
       ·have hrC:C.2.1=A.2.1:=by rw [←hC];exact qBF _ _
        have hN3:(tb C.2.1).length<N:=by
         rw [hrC]
         exact Nat.lt_of_le_of_lt hlenA hdrop
        refine hT _ hN3 (m+1) hm C.2 D.2 deep least C.1 f res c2 rfl hle hd (by omega) (by omega) ?_ ?_
        ·rw [hrC]
         rcases b3 with h|h
         ·exact .inl h
         ·right;push_cast;omega
        ·rw [c1]
         unfold qKo
         rw [if_neg hc]
         exact ⟨g,by omega,qPC (by omega) m ht⟩
       ·exact .inr ⟨qN4 _ (qPB g _ _ c1) ht,qDg f _ _ c2⟩
      ·exact .inr ⟨qN4 _ (qPB g _ _ (qN3 b1)) ht,qDg f _ _ (qDQ b2)⟩
    ·rw [if_neg hop] at hin
     rw [hin,if_pos rfl] at ho
     rw [ho] at ht
     simp only at ht
     rw [if_pos trivial] at ht
     refine ih (by omega) p (tb q.1,q.2) deep least a f res ⟨hl.1,hl.2.1,hl.2.2.1,by simp only;rw [qC9];exact hpq⟩ hN hle hd hdN hf ?_ ht
     rw [hpq]
     rw [hpq] at hpk
     by_cases h0:qA3 (tb q.1)=0
     ·exact .inl h0
     ·right
      rcases hpk with h|h
      ·exact absurd h h0
      ·have:lvl (qA3 (tb q.1))≠(m:Int)+1:=fun e=>hop ⟨h0,e⟩
       push_cast at h
       omega
theorem qWE (N:Nat) (hA:qWB N) (hT:∀M,M≤N→qWC M):qVf N:=by
 intro p q deep k f g hk hl hN hd hdN hf hg
 obtain ⟨g5,hg5,ht⟩:=qTs (G:=20*N+5) hl.2.1 k hk g (by omega)
 cases f with
 |zero=>omega
 |succ f=>
  simp only [pP]
  have ha:=hA p q deep f g5 hl hN hd hdN (by omega) hg5
  have hlen:=qEf f (.un deep) p
  generalize pP f (.un deep) p=A at ha hlen⊢
  generalize sP g5 (.row 5) q=B at ha ht
  rcases ha with ⟨h1,h2⟩|⟨h1,h2⟩
  ·have hM:(tb A.2.1).length≤N:=by omega
   refine hT _ hM 4 (by omega) A.2 B.2 deep (5-(k:Int)) A.1 f _ h2 rfl (by omega) hd (by omega) (by omega) (.inr ?_) ?_
   ·have:=(qUL (op:=qA3 (tb A.2.1))).2;omega
   ·rw [h1];exact qPC (by omega) 4 ht
  ·exact .inr ⟨qN4 4 h1 ht,qDg f _ _ h2⟩
theorem qWF (H:RdOK) (N:Nat) (hB:qVf N) (hC:∀M,M<N→qWD M):qWD N:=by
 intro p q deep op kids f g hl hN hd hdN hf hg
 cases f with
 |zero=>omega
 |succ f=>
 cases g with
 |zero=>omega
 |succ g=>
 cases g with
 |zero=>omega
 |succ g=>
 have hpq:=hl.2.2.2
 have hpb:¬p.2.1=true:=by rw [hl.1];simp
 have hqb:¬q.2.1=true:=by rw [hl.2.1];simp
 have harg:Sim (qFQ (qBX p) (fun p=>pP f (.bin 1 (deep+1)) p)) (sP (g+1) .arg q)∧(tb (qFQ (qBX p) (fun p=>pP f (.bin 1 (deep+1)) p)).2.1).length≤N:=by
  refine ⟨?_,?_⟩
  ·have hw:Lk (wr (tb p.1),p.2) (wr (tb q.1),q.2):=⟨hl.1,hl.2.1,hl.2.2.1,by rw [hpq]⟩
   obtain ⟨e1,e2⟩:=qLv (c:=58) (by decide) hw
   simp only [sP]
   unfold qFQ qBX
   simp only
   rw [hpq] at e1 e2⊢
   by_cases hc:(qBG (BR (wd (tb q.1)))).2.2.2.2=true∧(qZ [58] (wr (tb q.1),p.2)).1=true
   ·rw [if_pos hc,if_pos ⟨hc.1,e1▸hc.2⟩]
    simp only
    rw [e2.2.2.2]
    by_cases h2:(qBG (BR (wd (tb (sIs [58] (wr (tb q.1),q.2)).2.1)))).2.2.2.2=true
    ·rw [if_pos h2,h2]
     simp only [Bool.not_true,Bool.or_false]
     exact qJ9 ⟨e2.1,e2.2.1,e2.2.2.1,rfl⟩
    ·rw [if_neg h2]
     refine .inr ⟨rfl,qDQ (.inl ?_)⟩
     simp only
     have h2:(qBG (BR (wd (tb (sIs [58] (wr (tb q.1),q.2)).2.1)))).2.2.2.2=false:=by simpa using h2
     rw [h2];simp
   ·rw [if_neg hc,if_neg (fun e=>hc ⟨e.1,e1.symm▸e.2⟩)]
    simp only
    have:=hB p (tb q.1,q.2) (deep+1) 4 f g (by omega) ⟨hl.1,hl.2.1,hl.2.2.1,by simp only;rw [qC9];exact hpq⟩ hN (by omega) (by omega) (by omega) (by omega)
    exact this.sim
  ·unfold qFQ
   split
   ·rw [qBF];have:=qJf p;omega
   ·have h1:=qEf f (.bin 1 (deep+1)) (qBX p).2
    have h2:=qJf p
    exact Nat.le_trans h1 (by omega)
 obtain ⟨harg,hal⟩:=harg
 simp only [pP]
 rw [if_neg hpb]
 have hs:sP (g+1+1) (.call op kids) q=(if (sIs [41] (sP (g+1) .arg q).2).1=true then qE9 (ndK 6 op (kids++ [(sP (g+1) .arg q).1])) (sIs [41] (sP (g+1) .arg q).2).2
  else sP (g+1) (.call op (kids++ [(sP (g+1) .arg q).1])) (if (sIs [44] (sIs [41] (sP (g+1) .arg q).2).2).1=true then (sIs [44] (sIs [41] (sP (g+1) .arg q).2).2).2 else qNJ (sIs [44] (sIs [41] (sP (g+1) .arg q).2).2).2)):=by
  rw [sP]
  rw [if_neg hqb]
 rw [hs]
 generalize qFQ (qBX p) (fun p=>pP f (.bin 1 (deep+1)) p)=Q at harg hal⊢
 generalize sP (g+1) .arg q=A at harg⊢
 rcases harg with ⟨h1,h2⟩|⟨h1,h2⟩
 ·have hb2:=h2.2.1
  obtain ⟨c1,c2⟩:=qLv (c:=44) (by decide) h2
  have i41:=qN5 (c:=41) hb2
  have i44:=qN5 (c:=44) hb2
  by_cases hc:(qZ [44] Q.2).1=true
  ·rw [if_pos hc]
   have hh:=i44.1 (c1▸hc)
   have n41:¬(sIs [41] A.2).1=true:=fun e=>by rw [i41.1 e] at hh;cases hh
   rw [if_neg n41]
   have e41:(sIs [41] A.2).2=(tb A.2.1,A.2.2):=by
    unfold sIs at n41⊢
    rw [if_neg (by rw [hb2];simp)] at n41⊢
    split
    ·rename_i hx;rw [if_pos hx] at n41;exact absurd rfl n41
    ·rfl
   rw [e41]
   have e44:sIs [44] (tb A.2.1,A.2.2)=sIs [44] A.2:=by unfold sIs;simp only [qC9]
   rw [e44,if_pos (c1▸hc),h1]
   have hlt:=qEe (w:= [44]) (by simp) hc
   have htb:=qAE (qZ [44] Q.2).2.1
   exact hC _ (by omega) (qZ [44] Q.2).2 (sIs [44] A.2).2 deep op _ f (g+1) c2 rfl hd (by omega) (by omega) (by omega)
  ·rw [if_neg hc]
   have et:(qZ [44] Q.2).2=(tb Q.2.1,Q.2.2):=by
    unfold qZ at hc⊢
    split
    ·rename_i hx;rw [if_pos hx] at hc;exact absurd rfl hc
    ·rfl
   rw [et]
   have hl2:Lk (tb Q.2.1,Q.2.2) A.2:=⟨h2.1,h2.2.1,h2.2.2.1,by simp only;rw [qC9];exact h2.2.2.2⟩
   have hm:=qTr (c:=41) (by decide) (a:=(A.1,(tb Q.2.1,Q.2.2))) (b:=(A.1,A.2)) (.inl ⟨rfl,hl2⟩)
   by_cases h41:(sIs [41] A.2).1=true
   ·rw [if_pos h41]
    simp only [h41,if_true] at hm
    have:=qTq (fun _=>ndK 6 op (kids++ [A.1])) hm
    rw [h1]
    exact this
   ·rw [if_neg h41]
    have e41:(sIs [41] A.2).2=(tb A.2.1,A.2.2):=by
     unfold sIs at h41⊢
     rw [if_neg (by rw [hb2];simp)] at h41⊢
     split
     ·rename_i hx;rw [if_pos hx] at h41;exact absurd rfl h41
     ·rfl
    have e44:sIs [44] (tb A.2.1,A.2.2)=sIs [44] A.2:=by unfold sIs;simp only [qC9]
    rw [e41,e44,if_neg (c1▸hc)]
    refine .inr ⟨qPB _ _ _ rfl,qDQ ?_⟩
    simp only [if_neg h41] at hm
    rcases hm with ⟨_,_,hb,_⟩|⟨_,hdm⟩
    ·simp [qNJ] at hb
    ·exact hdm
 ·have e41:sIs [41] A.2=(false,tb A.2.1,A.2.2):=qJ8 h1
  have e44:sIs [44] (tb A.2.1,A.2.2)=(false,tb (tb A.2.1),A.2.2):=qJ8 h1
  rw [e41]
  simp only [Bool.false_eq_true,if_false]
  rw [e44]
  simp only [Bool.false_eq_true,if_false]
  refine .inr ⟨qPB _ _ _ rfl,?_⟩
  split
  ·exact qDg f _ _ (qFR h2)
  ·exact qDQ (qJe (qFR h2))
theorem qTu {c d:UInt8} (h:c≠d) {r:List UInt8} (hr:r.head?=some c):¬r.head?=some d:=by rw [hr];simpa using h
theorem qWG (H:RdOK) (N:Nat) (hA:∀M,M<N→qWB M) (hB:∀M,M<N→qVf M) (hC:∀M,M<N→qWD M):qWB N:=by
 intro p q deep f g hl hN hd hdN hf hg
 cases f with
 |zero=>omega
 |succ f=>
 cases f with
 |zero=>omega
 |succ f=>
 cases g with
 |zero=>omega
 |succ g=>
 cases g with
 |zero=>omega
 |succ g=>
 have hpq:=hl.2.2.2
 have hpb:¬p.2.1=true:=by rw [hl.1];simp
 have hqb:¬q.2.1=true:=by rw [hl.2.1];simp
 have hq0:=hl.2.1
 have hs:sP (g+1+1) (.row 5) q=sP (g+1) .one q:=by
  rw [sP,if_neg hqb,if_pos rfl]
 rw [hs]
 obtain ⟨e1,e2⟩:=qLv (c:=45) (by decide) hl
 rw [pP]
 rw [if_neg (by intro e;rcases e with e|e;omega;exact hpb e)]
 by_cases hc:(qZ [45] p).1=true
 ·rw [if_pos hc]
  simp only [sP]
  rw [if_pos (e1▸hc)]
  have hlt:=qEe (w:= [45]) (by simp) hc
  have htb:=qAE (qZ [45] p).2.1
  exact qTq (fun k=>ndK 4 0 [k]) (hA _ (by omega) _ _ (deep+1) (f+1) g e2 rfl (by omega) (by omega) (by omega) (by omega))
 ·rw [if_neg hc]
  have hp':(qZ [45] p).2=(tb p.1,p.2):=by
   unfold qZ at hc⊢
   split
   ·rename_i hx;rw [if_pos hx] at hc;exact absurd rfl hc
   ·rfl
  have hq':(sIs [45] q).2=(tb q.1,q.2):=by
   have hc:¬(sIs [45] q).1=true:=e1▸hc
   unfold sIs at hc⊢
   rw [if_neg hqb] at hc⊢
   split
   ·rename_i hx;rw [if_pos hx] at hc;exact absurd rfl hc
   ·rfl
  rw [hp']
  simp only [sP]
  rw [if_neg (e1▸hc),hq']
  simp only [pP,qC9]
  have hl2:Lk (tb p.1,p.2) (tb q.1,q.2):=⟨hl.1,hl.2.1,hl.2.2.1,by simp only [qC9];exact hpq⟩
  obtain ⟨f1,f2⟩:=qLv (c:=40) (by decide) hl2
  have i40:=qN5 (c:=40) (q:=(tb q.1,q.2)) hq0
  have i34:=qN5 (c:=34) (q:=(tb q.1,q.2)) hq0
  have i35:=qN5 (c:=35) (q:=(tb q.1,q.2)) hq0
  simp only [qC9] at i40 i34 i35
  rw [hpq] at hN f1 f2⊢
  by_cases h34:(tb q.1).head?=some 34
  ·rw [if_pos h34,if_neg (fun e=>qTu (by decide) h34 (i40.1 e)),if_pos (i34.2 h34)]
   have es:(sIs [34] (tb q.1,q.2)).2.1=(tb q.1).tail:=by
    have:=i34.2 h34
    unfold sIs at this⊢
    rw [if_neg hqb] at this⊢
    simp only [qC9] at this⊢
    split
    ·simp
    ·rename_i hx;rw [if_neg hx] at this;cases this
   rw [es]
   cases hqr:qCh [] (tb q.1).tail with
   |none=>exact .inr ⟨rfl,.inl rfl⟩
   |some st=>
    obtain ⟨s,t⟩:=st
    exact qJ9 ⟨hl.1,hl.2.1,hl.2.2.1,rfl⟩
  ·rw [if_neg h34]
   by_cases h35:(tb q.1).head?=some 35
   ·rw [if_pos h35,if_neg (fun e=>qTu (by decide) h35 (i40.1 e)),if_neg (fun e=>h34 (i34.1 e)),if_pos (i35.2 h35)]
    have es:(sIs [35] (tb q.1,q.2)).2.1=(tb q.1).tail:=by
     have:=i35.2 h35
     unfold sIs at this⊢
     rw [if_neg hqb] at this⊢
     simp only [qC9] at this⊢
     split
     ·simp
     ·rename_i hx;rw [if_neg hx] at this;cases this
    rw [es,qVe H h35 5 1 (by omega) (by omega)]
    cases he:qKZ (tb q.1) 1 5 with
    |some n=>
     simp only
     obtain ⟨t,ht⟩:=H.n n (by have:=qTt 5 1 he;omega)
     have hsz:(qh n).size=t.length+1:=by rw [←qAa,ht];rfl
     refine qJ9 ⟨hl.1,hl.2.1,hl.2.2.1,?_⟩
     simp only
     rw [hsz]
     cases hr:tb q.1 with
     |nil=>rw [hr] at h35;cases h35
     |cons c r=>rfl
    |none=>
     simp only
     rw [if_neg (fun e=>e.1 h35)]
     have hw:wd (tb q.1)= []:=by
      cases hr:tb q.1 with
      |nil=>rw [hr] at h35;cases h35
      |cons c r=>
       rw [hr] at h35
       simp only [List.head?_cons,Option.some.injEq] at h35
       subst h35
       rfl
     rw [hw,if_neg (fun e=>H.v0 e.2),if_neg (by rw [H.p0];simp),H.f0]
     exact .inr ⟨rfl,qGh _⟩
   ·rw [if_neg h35]
    simp only
    by_cases h40:(qZ [40] (tb q.1,p.2)).1=true
    ·rw [if_pos ⟨h35,h40⟩,if_pos (f1▸h40)]
     have hlt:=qEe (w:= [40]) (by simp) h40
     simp only [qC9] at hlt
     have htb:=qAE (qZ [40] (tb q.1,p.2)).2.1
     have hb:=(hB _ (by omega) _ _ (deep+1) 4 f g (by omega) f2 rfl (by omega) (by omega) (by omega) (by omega)).sim
     have e5:(5-((4:Nat):Int))=1:=by omega
     rw [e5] at hb
     exact qTr (by decide) hb
    ·have n40:¬(sIs [40] (tb q.1,q.2)).1=true:=f1▸h40
     have n34:¬(sIs [34] (tb q.1,q.2)).1=true:=fun e=>h34 (i34.1 e)
     have n35:¬(sIs [35] (tb q.1,q.2)).1=true:=fun e=>h35 (i35.1 e)
     rw [if_neg (fun e=>h40 e.2),if_neg n40,if_neg n34,if_neg n35]
     have hl3:Lk (wr (tb q.1),p.2) (wr (tb q.1),q.2):=⟨hl.1,hl.2.1,hl.2.2.1,rfl⟩
     cases hfn:qHO (wd (tb q.1)) 1 10 with
     |some op=>
      simp only
      obtain ⟨z1,z2⟩:=H.f _ _ hfn
      rw [if_neg (by rw [z1];simp),if_neg (by rw [z2];simp)]
      have hne:1≤(wd (tb q.1)).length:=by
       cases hw:wd (tb q.1) with
       |nil=>rw [hw,H.f0] at hfn;cases hfn
       |cons c t=>simp
      have hlen:(wr (tb q.1)).length+1≤N:=by
       have:=congrArg List.length (wdr (tb q.1))
       simp only [List.length_append] at this
       omega
      obtain ⟨k1,k2⟩:=qLv (c:=40) (by decide) hl3
      cases f with
      |zero=>omega
      |succ f=>
       simp only [pP]
       by_cases ht:(sIs [40] (wr (tb q.1),q.2)).1=true
       ·rw [if_pos ht]
        have em:qC2 [40] (wr (tb q.1),p.2)=(qZ [40] (wr (tb q.1),p.2)).2:=by
         unfold qC2
         rw [if_neg hpb,if_pos (k1▸ht)]
        rw [em]
        have hlt:=qEe (w:= [40]) (by simp) (k1.symm▸ht)
        have h2:=qAE (wr (tb q.1))
        have h3:=qAE (qZ [40] (wr (tb q.1),p.2)).2.1
        simp only at hlt
        exact hC _ (by omega) _ _ deep op [] f g k2 rfl hd (by omega) (by omega) (by omega)
       ·rw [if_neg ht]
        have em:qC2 [40] (wr (tb q.1),p.2)=qUK (qZ [40] (wr (tb q.1),p.2)).2:=by
         unfold qC2
         rw [if_neg hpb,if_neg (k1▸ht)]
        rw [em]
        exact .inr ⟨rfl,qDg f _ _ (qGh _)⟩
     |none=>
      simp only
      by_cases hw0:wd (tb q.1)= []
      ·rw [hw0,if_neg (fun e=>H.v0 e.2),if_neg (by rw [H.p0];simp),if_neg (fun e=>e.2 rfl),if_neg (by rw [H.p0];simp)]
       exact .inr ⟨rfl,qGh _⟩
      ·by_cases hv:(qj (BR (wd (tb q.1)))).2.2.2=true
       ·rw [if_pos ⟨hv,H.v _ (qUM _) hw0 hv⟩,if_pos ⟨hv,hw0⟩]
        exact qJ9 hl3
       ·have nv1:¬((qj (BR (wd (tb q.1)))).2.2.2=true∧((qj (BR (wd (tb q.1)))).1=1∨(qj (BR (wd (tb q.1)))).1=3)):=fun e=>hv e.1
        have nv2:¬((qj (BR (wd (tb q.1)))).2.2.2=true∧wd (tb q.1)≠ []):=fun e=>hv e.1
        rw [if_neg nv1,if_neg nv2]
        by_cases hp:(qBG (BR (wd (tb q.1)))).2.2.2.2=true
        ·rw [if_pos hp,if_pos hp]
         exact qJ9 hl3
        ·rw [if_neg hp,if_neg hp]
         exact .inr ⟨rfl,qGh _⟩
theorem qWH (H:RdOK) (N:Nat):qWB N∧qWC N∧qVf N∧qWD N:=by
 induction N using Nat.strongRecOn with
 |ind N ih=>
  have hA:=qWG H N (fun M h=>(ih M h).1) (fun M h=>(ih M h).2.2.1) (fun M h=>(ih M h).2.2.2)
  have hT:=qXO N (fun M h=>(ih M h).2.2.1) (fun M h=>(ih M h).2.1)
  have hB:=qWE N hA (fun M h=>(Nat.lt_or_eq_of_le h).elim (fun h=>(ih M h).2.1) (fun h=>h▸hT))
  exact ⟨hA,hT,hB,qWF H N hB (fun M h=>(ih M h).2.2.2)⟩
theorem qAZ (r:List UInt8):(BR r).toList=r:=qCU r
theorem qc (r:List UInt8):(BR r).size=r.length:=by rw [←qAa,qAZ]
theorem qJg (s:ByteArray):BR s.toList=s:=qFt (qAZ _)
theorem qGI (r:List UInt8) (a b:Nat):(BR r).extract a b=BR ((r.take b).drop a):=by
 refine qFt ?_
 rw [qAZ,Go.Lib.toList_data,ByteArray.data_extract,Array.toList_extract]
 simp [BR,List.extract_eq_take_drop,List.drop_take]
theorem qPD (a b:List UInt8):BR a++BR b=BR (a++b):=by
 refine qFt ?_
 rw [qAZ,Go.Lib.toList_data]
 simp [BR]
theorem qWe:∀i:Fin 256,((⟨#[32]⟩:ByteArray).data.toList.contains (UInt8.ofNat i.val))=(UInt8.ofNat i.val==32):=by decide+kernel
def wcS:ByteArray:=⟨#[65,66,67,68,69,70,71,72,73,74,75,76,77,78,79,80,81,82,83,84,85,86,87,88,89,90,48,49,50,51,52,53,54,55,56,57,36]⟩
theorem qWf:∀i:Fin 256,(wcS.data.toList.contains (UInt8.ofNat i.val))=wch (UInt8.ofNat i.val):=by decide+kernel
theorem qUN {f g:UInt8→Bool} (h:∀i:Fin 256,f (UInt8.ofNat i.val)=g (UInt8.ofNat i.val)) (c:UInt8):f c=g c:=by
 have h:=h ⟨c.toNat,UInt8.toNat_lt c⟩
 have e:UInt8.ofNat c.toNat=c:=by simp
 simp only [e] at h
 exact h
theorem qVA (r:List UInt8):Ev (qBb · (BR r) ⟨#[32]⟩) (BR (tb r)):=by
 refine ⟨1,fun n hn=>?_⟩
 obtain ⟨m,rfl,hm⟩:=up1 hn
 show zR (BR r) ⟨#[32]⟩=_
 unfold zR
 rw [if_pos ⟨by decide,by decide+kernel⟩]
 unfold Lib.trimLeftS tb
 have:(fun c=>(⟨#[32]⟩:ByteArray).data.toList.contains c)=(fun c=>c==32):=funext (qUN qWe)
 rw [this]
 rfl
theorem qVB (r:List UInt8):Ev (qBb · (BR r) ⟨#[65,66,67,68,69,70,71,72,73,74,75,76,77,78,79,80,81,82,83,84,85,86,87,88,89,90,48,49,50,51,52,53,54,55,56,57,36]⟩) (BR (wr r)):=by
 refine ⟨1,fun n hn=>?_⟩
 obtain ⟨m,rfl,hm⟩:=up1 hn
 show zR (BR r) wcS=_
 unfold zR
 rw [if_pos ⟨by decide,by decide+kernel⟩]
 unfold Lib.trimLeftS wr
 have:(fun c=>wcS.data.toList.contains c)=wch:=funext (qUN qWf)
 rw [this]
 rfl
theorem qIa (r:List UInt8) (m:Nat) (b:Bool) (rows:List (List PV)):Ev (qBA · (BR r) m b rows) (BR (tb r),m,b,rows):=by
 obtain ⟨n1,h1⟩:=qVA r
 refine ⟨n1+1,fun n hn=>?_⟩
 obtain ⟨m,rfl,hm⟩:=up1 hn
 have h1:=h1 m (by omega)
 dsimp only at h1
 simp only [qBA,qEV,qC,qE,qH,qJ,qK,qM,Option.bind_some,qF,qG,qN,h1]
theorem qBx (m:Nat) (s w:List UInt8):qm (m+2) (BR s) (BR w)=some (w.isPrefixOf s):=by
 simp only [qm,qCa,qAF,qA5,qC,qE,qH,qJ,qK,qM,Option.bind_some,qF,qG,qN,qc,qGI,qAZ]
 by_cases h:w.length≤s.length
 ·have h1:((s.length:Nat):Int)≥((w.length:Nat):Int):=by omega
  simp [h1,h,List.isPrefixOf_iff_prefix,List.prefix_iff_eq_take]
  by_cases e:w=s.take w.length
  ·simp [←e,List.isPrefixOf_iff_prefix.2 (List.prefix_iff_eq_take.2 e)]
  ·have e2:¬s.take w.length=w:=fun h=>e h.symm
   have e3:w.isPrefixOf s=false:=by
    rw [Bool.eq_false_iff]
    intro hp
    exact e (List.prefix_iff_eq_take.1 (List.isPrefixOf_iff_prefix.1 hp))
   simp [e2,e3]
 ·have h1:¬((s.length:Nat):Int)≥((w.length:Nat):Int):=by omega
  have e3:w.isPrefixOf s=false:=by
   rw [Bool.eq_false_iff]
   intro hp
   exact h (List.isPrefixOf_iff_prefix.1 hp).length_le
  simp [h1,e3]
theorem qUO (s w:List UInt8):Ev (qm · (BR s) (BR w)) (w.isPrefixOf s):=by
 refine ⟨2,fun n hn=>?_⟩
 obtain ⟨m,rfl,hm⟩:=up1 hn
 obtain ⟨m,rfl,hm⟩:=up1 hm
 exact qBx m s w
def qTv:List (List PV):=qFN.map fun w=> [PV.s (BR w)]
theorem qSo {n:Nat} {r:List UInt8} (m:Nat) (b:Bool) (rows:List (List PV)) (h:∀w∈qFN,qm n (BR r) (BR w)=some (w.isPrefixOf r)):
  ∀(k i M:Nat),i+k=15→k+1≤M→zC (qC4 n) M (15,15,(i:Int),qTv,BR r,m,b,rows)=some (match (qFN.drop i).find? (fun w=>w.isPrefixOf r) with|some w=> .inl (BR w,BR r,m,b,rows)|none=> .inr (BR r,m,b,rows))
 |k,i,0,h1,h2=>by omega
 |0,i,M+1,h1,h2=>by
  have hi:i=15:=by omega
  subst hi
  rw [qP (r:= .inr (BR r,m,b,rows)) (by simp [qC4,qC,qE,qH,qJ,qK,qM,Option.bind_some,qF,qG,qN])]
  rfl
 |k+1,i,M+1,h1,h2=>by
  have hi:i<qFN.length:=by simp [qFN];omega
  obtain ⟨w,hw⟩:∃w,qFN[i]?=some w:=⟨_,List.getElem?_eq_getElem hi⟩
  have hR:qTv[i]?=some [PV.s (BR w)]:=by simp [qTv,List.getElem?_map,hw]
  have hl:qTv.length=15:=rfl
  have hc:zY [PV.s (BR w)] 0=some (BR w):=rfl
  have hp:=h w (List.mem_of_getElem? hw)
  have hd:qFN.drop i=w::qFN.drop (i+1):=qEI hw
  have w5:IntKind.i64.wrap ((i:Int)+1)=((i+1:Nat):Int):=by rw [qT (by omega)];omega
  rw [hd]
  simp only [List.find?_cons]
  cases hq:w.isPrefixOf r with
  |true=>
   rw [qP (r:= .inl (BR w,BR r,m,b,rows)) (by
    refine qD (by simp;omega) (qD (by simp [hl];omega) (qA hR (qA hc (qA (hp.trans (congrArg some hq)) (qD rfl rfl))))))]
  |false=>
   rw [qQ (v':=(15,15,((i+1:Nat):Int),qTv,BR r,m,b,rows)) (by
    refine qD (by simp;omega) (qD (by simp [hl];omega) (qA hR (qA hc (qA (hp.trans (congrArg some hq)) (qO rfl ?_)))))
    rw [w5];rfl)]
   exact qSo m b rows h k (i+1) M (by omega) (by omega)
theorem qPE (r:List UInt8) (m:Nat) (b:Bool) (rows:List (List PV)):Ev (qB9 · (BR r) m b rows) (BR (sgn (tb r)),BR (tb r),m,b,rows):=by
 obtain ⟨n1,h1⟩:=qIa r m b rows
 obtain ⟨n2,h2⟩:=qA9 (F:=fun w n=>qm n (BR (tb r)) (BR w)) (f:=fun w=>w.isPrefixOf (tb r)) qFN (fun w _=>qUO (tb r) w)
 refine ⟨n1+n2+30,fun n hn=>?_⟩
 obtain ⟨k,rfl,hm⟩:=up1 hn
 have h1:=h1 k (by omega)
 have lp:=qSo m b rows (h2 k (by omega)) 15 0 k rfl (by omega)
 refine qA h1 (qA lp ?_)
 simp only [List.drop_zero]
 unfold sgn
 cases hq:qFN.find? (fun w=>w.isPrefixOf (tb r)) with
 |some w=>rfl
 |none=>rfl
theorem qUn (r:List UInt8):sgn r<+:r:=by
 unfold sgn
 split
 ·rename_i w hw
  have:=List.find?_some hw
  exact List.isPrefixOf_iff_prefix.1 (by simpa using this)
 ·exact List.nil_prefix
theorem qSp (w r:List UInt8) (m:Nat) (b:Bool) (rows:List (List PV)):Ev (qr · (BR w) (BR r) m b rows) (decide (sgn (tb r)=w),BR (if sgn (tb r)=w then (tb r).drop w.length else tb r),m,b,rows):=by
 obtain ⟨n1,h1⟩:=qPE r m b rows
 refine ⟨n1+1,fun n hn=>?_⟩
 obtain ⟨k,rfl,hm⟩:=up1 hn
 refine qA (h1 k (by omega)) ?_
 by_cases h:sgn (tb r)=w
 ·have hp:=(qUn (tb r)).length_le
  rw [h] at hp
  refine qO (by simp [qAZ,h]) (qD (by simp [qc];omega) ?_)
  rw [qC,qc,qc,qGI]
  simp [h]
 ·refine qD (by simp [qAZ,h]) ?_
  rw [qC]
  simp [h]
theorem qVC (r:List UInt8) (m:Nat) (b:Bool) (rows:List (List PV)) (hr:r.length≤1000):Ev (qBc · (BR r) m b rows) (BR (wd (tb r)),BR (wr (tb r)),m,b,rows):=by
 obtain ⟨n1,h1⟩:=qIa r m b rows
 obtain ⟨n2,h2⟩:=qVB (tb r)
 refine ⟨n1+n2+1,fun n hn=>?_⟩
 obtain ⟨k,rfl,hm⟩:=up1 hn
 have hb:=qAE r
 have hw:=qID (tb r)
 have hsum:=congrArg List.length (wdr (tb r))
 simp only [List.length_append] at hsum
 have e:IntKind.i64.wrap (((tb r).length:Int)-((wr (tb r)).length:Int))=((wd (tb r)).length:Int):=by rw [qT (by omega)];omega
 refine qA (h1 k (by omega)) (qA (h2 k (by omega)) ?_)
 simp only [qc,e]
 refine qD (by simp;omega) (qD (by simp;omega) ?_)
 rw [qC]
 have t1:(wd (tb r)++wr (tb r)).take (wd (tb r)).length=wd (tb r):=List.take_left ..
 have t2:(wd (tb r)++wr (tb r)).drop (wd (tb r)).length=wr (tb r):=List.drop_left ..
 rw [wdr] at t1 t2
 simp [qGI,t1,t2]
def qGi (p:PS):ByteArray×Nat×Bool×List (List PV):=(BR p.1,p.2.2.length,p.2.1,p.2.2.map qW)
def qII (r:Int×PS):Int×ByteArray×Nat×Bool×List (List PV):=(r.1,BR r.2.1,r.2.2.2.length,r.2.2.1,r.2.2.2.map qW)
def qQM (c:Nd):Prop:=(kd c).length≤2000∧c.2.2.2.2.1.size≤2000
structure Gd (p:PS):Prop where
 r:p.1.length≤1000
 n:p.2.2.length≤60
 s:∀x∈p.2.2,qQM x
theorem qPF (x:Nd) (p:PS) (h:p.2.2.length≤60):Ev (qt · x.1 x.2.1 x.2.2.1 x.2.2.2.1 x.2.2.2.2.1 x.2.2.2.2.2.1 x.2.2.2.2.2.2.1 x.2.2.2.2.2.2.2.1 x.2.2.2.2.2.2.2.2.1 x.2.2.2.2.2.2.2.2.2.1 x.2.2.2.2.2.2.2.2.2.2.1 x.2.2.2.2.2.2.2.2.2.2.2.1 x.2.2.2.2.2.2.2.2.2.2.2.2.1 ((kd x).map qA8) (BR p.1) p.2.2.length p.2.1 (p.2.2.map qW)) (qII (qEG x p)):=by
 obtain ⟨r,b,l⟩:=p
 refine ⟨1,fun n hn=>?_⟩
 obtain ⟨m,rfl,hm⟩:=up1 hn
 replace h:l.length≤60:=h
 show qt (m+1) _ _ _ _ _ _ _ _ _ _ _ _ _ _ (BR r) l.length b (l.map qW)=_
 unfold qEG
 have w1:IntKind.i64.wrap (((l.length:Nat):Int)-1)=(l.length:Int)-1:=qT (by omega)
 have w2:IntKind.i64.wrap ((((l.length+1):Nat):Int)-1)=(l.length:Int):=by rw [qT (by omega)];omega
 cases b with
 |true=>
  rw [if_pos (.inl rfl)]
  refine qD rfl (qO rfl ?_)
  rw [qC,w1]
  rfl
 |false=>
  by_cases h6:60≤l.length
  ·rw [if_pos (.inr h6)]
   have d:decide (((l.length:Nat):Int)≥60)=true:=decide_eq_true (by omega)
   refine qO rfl (qO (by rw [d];rfl) ?_)
   rw [qC,w1,d]
   rfl
  ·have hn:¬(((r,false,l):PS).2.1=true∨60≤((r,false,l):PS).2.2.length):=by
    intro hh
    rcases hh with hh|hh
    ·exact absurd hh (by simp)
    ·exact h6 hh
   rw [if_neg hn]
   have d:decide (((l.length:Nat):Int)≥60)=false:=decide_eq_false (by omega)
   refine qO rfl (qD (by rw [d];rfl) (qD rfl (qD (decide_eq_true ⟨by simp,by decide,by decide,by simp;omega,rfl⟩) ?_)))
   rw [qC,w2,d]
   simp only [qII,List.map_append,List.length_append]
   rfl
end Go.Proofs.YtkkkfjgagjdcoaaGreatDoor.KFnExactTouched

