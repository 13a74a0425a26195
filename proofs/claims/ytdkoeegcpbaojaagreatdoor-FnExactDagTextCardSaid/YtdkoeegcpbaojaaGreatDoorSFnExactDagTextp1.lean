import Derived.Test.YtdkoeegcpbaojaaGreatDoorTFnExactDagText
import Derived.Test.YtdkoeegcpbaojaaGreatDoorE32
import Derived.Lib.Strings
namespace Go.Proofs.YtdkoeegcpbaojaaGreatDoor.KFnExactDagText
open Go.Eng
set_option linter.unusedVariables false
set_option linter.unusedSimpArgs false
def Ev {R:Type} (F:Nat→Option R) (r:R):Prop:=∃n0,∀n,n0≤n→F n=some r
theorem qAZ (s:ByteArray):s.toList.length=s.size:=by rw [Go.Lib.toList_data];rfl
theorem qAH:(ByteArray.mk #[]).toList= []:=by decide+kernel
theorem qT {x:Int} (h: -9223372036854775808≤x∧x≤9223372036854775807):IntKind.i64.wrap x=x:=by
 unfold IntKind.wrap
 have e1:(2:Int)^(64-1)=9223372036854775808:=by decide
 have e2:(2:Int)^64=18446744073709551616:=by decide
 simp only [IntKind.signed,IntKind.bits,Bool.true_and,decide_eq_true_eq,e1,e2]
 split<;>omega
theorem qSN {s:ByteArray} {i:Nat} (h:i<s.size):∃c,s.toList[i]?=some c:=⟨_,List.getElem?_eq_getElem (by rw [qAZ];exact h)⟩
theorem qDc {α:Type} {s:List α} {i:Nat} {c:α} (h:s[i]?=some c):s.drop i=c::s.drop (i+1):=by
 obtain ⟨h1,rfl⟩:=List.getElem?_eq_some_iff.1 h
 exact List.drop_eq_getElem_cons h1
theorem qU {V R:Type} {B:V→Tr (V⊕R)} {m:Nat} {v v':V} (h:(B v).run=some (.inl v')):zC B (m+1) v=zC B m v':=by simp only [zC,h]
theorem qP {V R:Type} {B:V→Tr (V⊕R)} {m:Nat} {v:V} {r:R} (h:(B v).run=some (.inr r)):zC B (m+1) v=some r:=by simp only [zC,h]
theorem up1 {n n0:Nat} (h:n0+1≤n):∃m,n=m+1∧n0≤m:=⟨n-1,by omega,by omega⟩
theorem qC {α:Type} (x:α):(Tr.done x).run=some x:=rfl
theorem qE {α:Type}:(Tr.fail:Tr α).run=none:=rfl
theorem qG {α:Type} (b:Bool) (t f:Tr α):(Tr.ask b t f).run=if b=true then t.run else f.run:=by cases b<;>rfl
theorem qH {α β:Type} (o:Option β) (k:β→Tr α):(Tr.opt o k).run=o.bind fun x=>(k x).run:=by cases o<;>rfl
theorem qJ {α β γ:Type} (x:β) (k:β→Tr α) (l:γ→Tr α):(Tr.alt (.inl x) k l).run=(k x).run:=rfl
theorem qK {α β γ:Type} (x:γ) (k:β→Tr α) (l:γ→Tr α):(Tr.alt (.inr x) k l).run=(l x).run:=rfl
theorem qAa {α R:Type} {F:α→Nat→Option R} {f:α→R}:∀(l:List α),(∀c∈l,Ev (F c) (f c))→∃n0,∀n,n0≤n→∀c∈l,F c n=some (f c)
 | [],_=>⟨0,fun n _ c hc=>by cases hc⟩
 |a::l,h=>by
  obtain ⟨n1,h1⟩:=h a (List.mem_cons_self ..)
  obtain ⟨n2,h2⟩:=qAa l fun c hc=>h c (List.mem_cons_of_mem _ hc)
  exact ⟨n1+n2,fun n hn c hc=>by
   rcases List.mem_cons.1 hc with rfl|hc
   ·exact h1 n (by omega)
   ·exact h2 n (by omega) c hc⟩
theorem qSO {R:Type} {B:List (List PV)×Nat×Int×List (List PV)→Tr ((List (List PV)×Nat×Int×List (List PV))⊕R)} {rows:List (List PV)} {z:List PV} {r:List (List PV)→R}
  (hs:∀(i:Nat) (acc:List (List PV)) (e:List PV),rows[i]?=some e→acc.length=rows.length→acc[i]?=some z→(B (rows,rows.length,(i:Int),acc)).run=some (.inl (rows,rows.length,((i+1:Nat):Int),acc.set i e)))
  (he:∀acc:List (List PV),acc.length=rows.length→(B (rows,rows.length,(rows.length:Int),acc)).run=some (.inr (r acc))):
  ∀(m i M:Nat),rows.length=i+m→m+1≤M→zC B M (rows,rows.length,(i:Int),rows.take i++zAd z m)=some (r rows)
 |m,i,0,h1,h2=>by omega
 |0,i,M+1,h1,h2=>by
  have hi:i=rows.length:=by omega
  subst hi
  have e:rows.take rows.length++zAd z 0=rows:=by simp [zAd]
  rw [e,qP (he rows rfl)]
 |m+1,i,M+1,h1,h2=>by
  have hl:i<rows.length:=by omega
  have hg:=List.getElem?_eq_getElem hl
  have hlen:(rows.take i++zAd z (m+1)).length=rows.length:=by simp [zAd];omega
  have hz:(rows.take i++zAd z (m+1))[i]?=some z:=by
   rw [List.getElem?_append_right (by simp;omega)]
   simp [zAd,Nat.min_eq_left (Nat.le_of_lt hl)]
  rw [qU (hs i _ _ hg hlen hz)]
  have e:(rows.take i++zAd z (m+1)).set i rows[i]=rows.take (i+1)++zAd z m:=by
   have hx:zAd z (m+1)=z::zAd z m:=by simp [zAd,List.replicate_succ]
   rw [hx,List.set_append_right (h:=by simp;omega)]
   have:i-(rows.take i).length=0:=by simp;omega
   rw [this,List.set_cons_zero,show rows.take (i+1)=rows.take i++ [rows[i]] from by rw [List.take_add_one,hg];rfl,List.append_assoc]
   rfl
  rw [e]
  exact qSO hs he m (i+1) M (by omega) (by omega)
theorem qNf {R:Type} {B:List (List PV)×Nat×Int×List (List PV)→Tr ((List (List PV)×Nat×Int×List (List PV))⊕R)} {rows:List (List PV)} {z:List PV} {r:List (List PV)→R} {M:Nat}
  (hs:∀(i:Nat) (acc:List (List PV)) (e:List PV),rows[i]?=some e→acc.length=rows.length→acc[i]?=some z→(B (rows,rows.length,(i:Int),acc)).run=some (.inl (rows,rows.length,((i+1:Nat):Int),acc.set i e)))
  (he:∀acc:List (List PV),acc.length=rows.length→(B (rows,rows.length,(rows.length:Int),acc)).run=some (.inr (r acc))) (hM:rows.length+1≤M):
  zC B M (rows,rows.length,0,zAd z rows.length)=some (r rows):=by
 have:=qSO (B:=B) hs he rows.length 0 M (by omega) hM
 simpa using this
theorem qNg {R:Type} {B:List (List PV)×List (List PV)×Int→Tr ((List (List PV)×List (List PV)×Int)⊕R)} {rows:List (List PV)} {r:R}
  (hs:∀(i:Nat) (e:List PV),rows[i]?=some e→(B (rows,rows,(i:Int))).run=some (.inl (rows,rows,((i+1:Nat):Int)))) (he:(B (rows,rows,(rows.length:Int))).run=some (.inr r)):
  ∀(m i M:Nat),rows.length=i+m→m+1≤M→zC B M (rows,rows,(i:Int))=some r
 |m,i,0,h1,h2=>by omega
 |0,i,M+1,h1,h2=>by
  have hi:i=rows.length:=by omega
  subst hi
  rw [qP he]
 |m+1,i,M+1,h1,h2=>by
  have hg:=List.getElem?_eq_getElem (l:=rows) (i:=i) (by omega)
  rw [qU (hs i _ hg)]
  exact qNg hs he m (i+1) M (by omega) (by omega)
theorem qQN {R:Type} {B:List (List PV)×Int×Int→Tr ((List (List PV)×Int×Int)⊕R)} {rows:List (List PV)}
  (hs:∀(i:Nat) (e:List PV) (x:Int),rows[i]?=some e→(∃y,(B (rows,x,(i:Int))).run=some (.inl (rows,y,((i+1:Nat):Int))))∨∃r,(B (rows,x,(i:Int))).run=some (.inr r)) (he:∀x,∃r,(B (rows,x,(rows.length:Int))).run=some (.inr r)):
  ∀(m i M:Nat) (x:Int),rows.length=i+m→m+1≤M→∃r,zC B M (rows,x,(i:Int))=some r
 |m,i,0,x,h1,h2=>by omega
 |0,i,M+1,x,h1,h2=>by
  have hi:i=rows.length:=by omega
  subst hi
  obtain ⟨r,hr⟩:=he x
  exact ⟨r,qP hr⟩
 |m+1,i,M+1,x,h1,h2=>by
  have hg:=List.getElem?_eq_getElem (l:=rows) (i:=i) (by omega)
  rcases hs i _ x hg with ⟨y,hy⟩|⟨r,hr⟩
  ·rw [qU hy]
   exact qQN hs he m (i+1) M y (by omega) (by omega)
  ·exact ⟨r,qP hr⟩
theorem qLE {α:Type} {enc:α→List PV} {P:α→Prop} {sh:List Sh} (hd:∀e,okR sh e→∃a,e=enc a∧P a):∀{rows:List (List PV)},(∀e∈rows,okR sh e)→∃l:List α,rows=l.map enc∧∀a∈l,P a
 | [],_=>⟨[],rfl,fun a h=>by cases h⟩
 |e::rows,h=>by
  obtain ⟨a,rfl,ha⟩:=hd e (h e (List.mem_cons_self ..))
  obtain ⟨l,rfl,hl⟩:=qLE hd fun e he=>h e (List.mem_cons_of_mem _ he)
  exact ⟨a::l,rfl,fun b hb=>by
   rcases List.mem_cons.1 hb with rfl|hb
   ·exact ha
   ·exact hl b hb⟩
theorem qA {α β:Type} {o:Option β} {x:β} {k:β→Tr α} {y:Option α} (h:o=some x) (h2:(k x).run=y):(Tr.opt o k).run=y:=by rw [h];exact h2
theorem qD {α:Type} {b:Bool} {t f:Tr α} {y:Option α} (h:b=true) (h2:t.run=y):(Tr.ask b t f).run=y:=by rw [h];exact h2
theorem qO {α:Type} {b:Bool} {t f:Tr α} {y:Option α} (h:b=false) (h2:f.run=y):(Tr.ask b t f).run=y:=by rw [h];exact h2
theorem qF (b:Bool):zBF (⟨(.c (.p (.b b))),[],[]⟩:Res)=true:=rfl
theorem qM (x:Int):zBF (⟨(.c (.p (.i .i64 x))),[],[]⟩:Res)=true:=rfl
theorem qN (x:ByteArray):zBF (⟨(.c (.p (.s x))),[],[]⟩:Res)=true:=rfl
theorem qB3 (x lo hi:Int):Ev (qA1 · x lo hi) (decide (lo≤x∧x≤hi)):=by
 refine ⟨1,fun n hn=>?_⟩
 obtain ⟨m,rfl,hm⟩:=up1 hn
 simp only [qA1,qHr,qC,qE,qG,qH,qJ,qK,Option.bind_some,qF,qM,qN]
 by_cases h:x≥lo<;>simp [h]
theorem q7 (x lo hi:Int):Ev (q8 · x lo hi) (decide (lo≤x∧x≤hi)):=by
 refine ⟨1,fun n hn=>?_⟩
 obtain ⟨m,rfl,hm⟩:=up1 hn
 simp only [q8,qIQ,qC,qE,qG,qH,qJ,qK,Option.bind_some,qF,qM,qN]
 by_cases h:x≥lo<;>simp [h]
def okc (c:UInt8):Bool:=decide (32≤c.toNat∧c.toNat≤126)
def qCf (s:ByteArray) (most:Int):Bool:=s.toList.all okc&&decide ((s.size:Int)≤most)
def okV (k n:Int) (s:ByteArray):Bool:=
 if k=2 then decide (n=0)&&qCf s 200 else (s.toList== [])&&(if k=0 then decide (n=0) else if k=1 then decide (-1000000000000000≤n∧n≤1000000000000000) else if k=3 then decide (0≤n∧n≤1) else if k=4 then decide (1≤n∧n≤5) else false)
theorem qNh (n:Nat) (s:ByteArray) (hb:s.size≤140737488355328):∀(m i M:Nat),s.size=i+m→m+1≤M→
  zC (qBc n) M (s,(i:Int))=some (if (s.toList.drop i).all okc then .inr s else .inl false)
 |m,i,0,h1,h2=>by omega
 |0,i,M+1,h1,h2=>by
  rw [qP (r:= .inr s) (by simp [qBc,qC,qE,qG,qH,qJ,qK,Option.bind_some,qF,qM,qN,show ¬((i:Int)<s.size) by omega])]
  rw [List.drop_eq_nil_of_le (by rw [qAZ];omega)]
  rfl
 |m+1,i,M+1,h1,h2=>by
  obtain ⟨c,hc⟩:=qSN (s:=s) (i:=i) (by omega)
  have hi:(i:Int)<s.size:=by omega
  rw [qDc hc]
  by_cases c1:(c.toNat:Int)<32
  ·rw [qP (r:= .inl false) (by simp [qBc,qC,qE,qG,qH,qJ,qK,Option.bind_some,qF,qM,qN,hi,hc,c1])]
   have:okc c=false:=by simp [okc];omega
   simp [this]
  ·by_cases c2:(c.toNat:Int)>126
   ·rw [qP (r:= .inl false) (by simp [qBc,qC,qE,qG,qH,qJ,qK,Option.bind_some,qF,qM,qN,hi,hc,c1,c2])]
    have:okc c=false:=by simp [okc];omega
    simp [this]
   ·have hw:IntKind.i64.wrap ((i:Int)+1)=((i+1:Nat):Int):=by rw [qT (by omega)];omega
    rw [qU (v':=(s,((i+1:Nat):Int))) (by simp [qBc,qC,qE,qG,qH,qJ,qK,Option.bind_some,qF,qM,qN,hi,hc,c1,c2,hw])]
    rw [qNh n s hb m (i+1) M (by omega) (by omega)]
    have:okc c=true:=by simp [okc];omega
    simp [this]
theorem qI0 (s:ByteArray) (hb:s.size≤140737488355328):Ev (qCQ · s) (qCf s 200):=by
 refine ⟨s.size+2,fun n hn=>?_⟩
 obtain ⟨m,rfl,hm⟩:=up1 hn
 have h:=qNh m s hb s.size 0 m (by omega) (by omega)
 simp only [qCQ,qGz,qC,qE,qG,qH,qJ,qK,Option.bind_some,qF,qM,qN]
 simp only [Int.natCast_zero,List.drop_zero] at h
 rw [h]
 cases hc:s.toList.all okc<;>simp [qC,qE,qG,qH,qJ,qK,Option.bind_some,qF,qM,qN,qCf,hc]
theorem qKC (s:ByteArray) (hb:s.size≤140737488351232):Ev (qCQ · s) (qCf s 200):=qI0 s (by omega)
theorem qPF (n:Nat) (s:ByteArray) (y:Int) (hb:s.size≤140737488355328):∀(m i M:Nat),s.size=i+m→m+1≤M→
  zC (qBu n) M (s,y,(s.size:Int),(i:Int))=some (if (s.toList.drop i).all okc then .inr (s,y) else .inl false)
 |m,i,0,h1,h2=>by omega
 |0,i,M+1,h1,h2=>by
  rw [qP (r:= .inr (s,y)) (by simp [qBu,qC,qE,qG,qH,qJ,qK,Option.bind_some,qF,qM,qN,show ¬((i:Int)<s.size) by omega])]
  rw [List.drop_eq_nil_of_le (by rw [qAZ];omega)]
  rfl
 |m+1,i,M+1,h1,h2=>by
  obtain ⟨c,hc⟩:=qSN (s:=s) (i:=i) (by omega)
  have hi:(i:Int)<s.size:=by omega
  rw [qDc hc]
  by_cases c1:(c.toNat:Int)<32
  ·rw [qP (r:= .inl false) (by simp [qBu,qC,qE,qG,qH,qJ,qK,Option.bind_some,qF,qM,qN,hi,hc,c1])]
   have:okc c=false:=by simp [okc];omega
   simp [this]
  ·by_cases c2:(c.toNat:Int)>126
   ·rw [qP (r:= .inl false) (by simp [qBu,qC,qE,qG,qH,qJ,qK,Option.bind_some,qF,qM,qN,hi,hc,c1,c2])]
    have:okc c=false:=by simp [okc];omega
    simp [this]
   ·have hw:IntKind.i64.wrap ((i:Int)+1)=((i+1:Nat):Int):=by rw [qT (by omega)];omega
    rw [qU (v':=(s,y,(s.size:Int),((i+1:Nat):Int))) (by simp [qBu,qC,qE,qG,qH,qJ,qK,Option.bind_some,qF,qM,qN,hi,hc,c1,c2,hw])]
    rw [qPF n s y hb m (i+1) M (by omega) (by omega)]
    have:okc c=true:=by simp [okc];omega
    simp [this]
theorem qKD (s:ByteArray) (y:Int) (hb:s.size≤140737488355328):Ev (qC1 · s y) (qCf s y):=by
 refine ⟨s.size+2,fun n hn=>?_⟩
 obtain ⟨m,rfl,hm⟩:=up1 hn
 have h:=qPF m s y hb s.size 0 m (by omega) (by omega)
 simp only [qC1,qIR,qC,qE,qG,qH,qJ,qK,Option.bind_some,qF,qM,qN]
 simp only [Int.natCast_zero,List.drop_zero] at h
 rw [h]
 cases hc:s.toList.all okc<;>simp [qC,qE,qG,qH,qJ,qK,Option.bind_some,qF,qM,qN,qCf,hc]
theorem qLF (s:ByteArray) (y:Int) (hb:s.size≤140737488351232):Ev (qC1 · s y) (qCf s y):=qKD s y (by omega)
theorem qAI (k x:Int) (s:ByteArray) (hb:s.size≤140737488351232):Ev (qY · k x s) (okV k x s):=by
 obtain ⟨n1,h1⟩:=qB3 x (-1000000000000000) 1000000000000000
 obtain ⟨n2,h2⟩:=qB3 x 0 1
 obtain ⟨n3,h3⟩:=qB3 x 1 5
 obtain ⟨n4,h4⟩:=qKC s hb
 refine ⟨n1+n2+n3+n4+1,fun n hn=>?_⟩
 obtain ⟨m,rfl,hm⟩:=up1 hn
 have h1:=h1 m (by omega)
 dsimp only at h1
 have h2:=h2 m (by omega)
 dsimp only at h2
 have h3:=h3 m (by omega)
 dsimp only at h3
 have h4:=h4 m (by omega)
 dsimp only at h4
 simp only [qY,qG1,qC,qE,qG,qH,qJ,qK,Option.bind_some,qF,qM,qN,h1,h2,h3,h4]
 simp only [okV,qAH]
 by_cases k2:k=2
 ·subst k2
  by_cases x0:x=0<;>simp [x0]
 ·by_cases k0:k=0
  ·subst k0
   by_cases x0:x=0<;>simp [x0]
  ·by_cases k1:k=1
   ·subst k1
    by_cases hx: -1000000000000000≤x∧x≤1000000000000000<;>simp [hx]
   ·by_cases k3:k=3
    ·subst k3
     by_cases hx:0≤x∧x≤1<;>simp [hx]
    ·by_cases k4:k=4
     ·subst k4
      by_cases hx:1≤x∧x≤5<;>simp [hx]
     ·simp [k0,k1,k2,k3,k4]
theorem qGZ (k x:Int) (s:ByteArray) (hb:s.size≤140737488351232):Ev (qAX · k x s) (okV k x s):=by
 obtain ⟨n1,h1⟩:=q7 x (-1000000000000000) 1000000000000000
 obtain ⟨n2,h2⟩:=q7 x 0 1
 obtain ⟨n3,h3⟩:=q7 x 1 5
 obtain ⟨n4,h4⟩:=qLF s 200 hb
 refine ⟨n1+n2+n3+n4+1,fun n hn=>?_⟩
 obtain ⟨m,rfl,hm⟩:=up1 hn
 have h1:=h1 m (by omega)
 dsimp only at h1
 have h2:=h2 m (by omega)
 dsimp only at h2
 have h3:=h3 m (by omega)
 dsimp only at h3
 have h4:=h4 m (by omega)
 dsimp only at h4
 simp only [qAX,qHM,qC,qE,qG,qH,qJ,qK,Option.bind_some,qF,qM,qN,h1,h2,h3,h4]
 simp only [okV,qAH]
 by_cases k2:k=2
 ·subst k2
  by_cases x0:x=0<;>simp [x0]
 ·by_cases he:s.toList= []
  ·by_cases k0:k=0
   ·subst k0
    by_cases x0:x=0<;>simp [x0,he]
   ·by_cases k1:k=1
    ·subst k1;simp [he]
    ·by_cases k3:k=3
     ·subst k3;simp [he]
     ·by_cases k4:k=4
      ·subst k4;simp [he]
      ·simp [k0,k1,k2,k3,k4,he]
  ·simp [k2,he]
abbrev V3:=Int×Int×ByteArray
def em:ByteArray:=⟨#[]⟩
theorem qP8 (x:Int):Ev (qDB · x) (4,x,em):=by
 refine ⟨1,fun n hn=>?_⟩
 obtain ⟨m,rfl,hm⟩:=up1 hn
 simp only [qDB,qG3,qC,qE,qG,qH,qJ,qK,Option.bind_some,qF,qM,qN]
 rfl
theorem qMI (x:Int):Ev (qB2 · x) (4,x,em):=by
 refine ⟨1,fun n hn=>?_⟩
 obtain ⟨m,rfl,hm⟩:=up1 hn
 simp only [qB2,qJS,qC,qE,qG,qH,qJ,qK,Option.bind_some,qF,qM,qN]
 rfl
theorem qLG (x:Int):Ev (qC2 · x) (1,x,em):=by
 refine ⟨1,fun n hn=>?_⟩
 obtain ⟨m,rfl,hm⟩:=up1 hn
 simp only [qC2,qIT,qC,qE,qG,qH,qJ,qK,Option.bind_some,qF,qM,qN]
 rfl
def qBP (c r:Int):Bool:=decide (1≤c∧c≤52)&&decide (1≤r∧r≤99)
def qGa (a b c d:Int):Bool:=qBP a b&&qBP c d&&decide (a≤c)&&decide (b≤d)
theorem qC3 (c r:Int):Ev (qAP · c r) (qBP c r):=by
 obtain ⟨n1,h1⟩:=qB3 c 1 52
 obtain ⟨n2,h2⟩:=qB3 r 1 99
 refine ⟨n1+n2+1,fun n hn=>?_⟩
 obtain ⟨m,rfl,hm⟩:=up1 hn
 have h1:=h1 m (by omega)
 dsimp only at h1
 have h2:=h2 m (by omega)
 dsimp only at h2
 simp only [qAP,qJJ,qC,qE,qG,qH,qJ,qK,Option.bind_some,qF,qM,qN,h1,h2]
 unfold qBP
 cases decide (1≤c∧c≤52)<;>simp
theorem qDd (c r:Int):Ev (qB1 · c r) (qBP c r):=by
 obtain ⟨n1,h1⟩:=q7 c 1 52
 obtain ⟨n2,h2⟩:=q7 r 1 99
 refine ⟨n1+n2+1,fun n hn=>?_⟩
 obtain ⟨m,rfl,hm⟩:=up1 hn
 have h1:=h1 m (by omega)
 dsimp only at h1
 have h2:=h2 m (by omega)
 dsimp only at h2
 simp only [qB1,qJO,qC,qE,qG,qH,qJ,qK,Option.bind_some,qF,qM,qN,h1,h2]
 unfold qBP
 cases decide (1≤c∧c≤52)<;>simp
theorem qRB (a b c d:Int):Ev (qFy · a b c d) (qGa a b c d):=by
 obtain ⟨n1,h1⟩:=qC3 a b
 obtain ⟨n2,h2⟩:=qC3 c d
 refine ⟨n1+n2+1,fun n hn=>?_⟩
 obtain ⟨m,rfl,hm⟩:=up1 hn
 have h1:=h1 m (by omega)
 dsimp only at h1
 have h2:=h2 m (by omega)
 dsimp only at h2
 simp only [qFy,qIF,qC,qE,qG,qH,qJ,qK,Option.bind_some,qF,qM,qN,h1,h2]
 unfold qGa
 cases qBP a b<;>cases qBP c d<;>by_cases h:a≤c<;>simp [h]
theorem qLH (a b c d:Int):Ev (qET · a b c d) (qGa a b c d):=by
 obtain ⟨n1,h1⟩:=qDd a b
 obtain ⟨n2,h2⟩:=qDd c d
 refine ⟨n1+n2+1,fun n hn=>?_⟩
 obtain ⟨m,rfl,hm⟩:=up1 hn
 have h1:=h1 m (by omega)
 dsimp only at h1
 have h2:=h2 m (by omega)
 dsimp only at h2
 simp only [qET,qIX,qC,qE,qG,qH,qJ,qK,Option.bind_some,qF,qM,qN,h1,h2]
 unfold qGa
 cases qBP a b<;>cases qBP c d<;>by_cases h:a≤c<;>simp [h]
def qMz (x y:Int):Int:=if x<y then-1 else if x>y then 1 else 0
def qXJ (x y:ByteArray):Int:=if Op.bytesLess x.toList y.toList=true then-1 else if x.toList=y.toList then 0 else 1
def qDW:List Int→Int
 | []=>0
 |x::r=>if x≠0 then x else qDW r
theorem qRC (x:Int):Ev (qCm · x) false:=by
 refine ⟨1,fun n hn=>?_⟩
 obtain ⟨m,rfl,hm⟩:=up1 hn
 simp only [qCm,qFH,qC,qE,qG,qH,qJ,qK,Option.bind_some,qF,qM,qN]
 simp
theorem qTg (x y:Int):Ev (qCE · x y) (qMz x y):=by
 obtain ⟨n1,h1⟩:=qRC x
 obtain ⟨n2,h2⟩:=qRC y
 refine ⟨n1+n2+1,fun n hn=>?_⟩
 obtain ⟨m,rfl,hm⟩:=up1 hn
 have h1:=h1 m (by omega)
 dsimp only at h1
 have h2:=h2 m (by omega)
 dsimp only at h2
 simp only [qCE,qEL,qC,qE,qG,qH,qJ,qK,Option.bind_some,qF,qM,qN,h1,h2]
 unfold qMz
 by_cases h:x<y
 ·simp [h]
 ·by_cases h':x>y
  ·have h'':y<x:=h'
   simp [h,h'']
  ·have h'':¬y<x:=h'
   simp [h,h'']
theorem qUe (n:Nat) (l:List Int) (hb:l.length≤1000):∀(m i M:Nat),l.length=i+m→m+1≤M→
  zC (qCg n) M (0,l.map (fun x=> [PV.i .i64 x]),(l.length:Int),(i:Int))=some (if qDW (l.drop i)≠0 then .inl (qDW (l.drop i)) else .inr 0)
 |m,i,0,h1,h2=>by omega
 |0,i,M+1,h1,h2=>by
  rw [qP (r:= .inr 0) (by simp [qCg,qC,qE,qG,qH,qJ,qK,Option.bind_some,qF,qM,qN,show ¬((i:Int)<l.length) by omega])]
  rw [List.drop_eq_nil_of_le (by omega)]
  rfl
 |m+1,i,M+1,h1,h2=>by
  have hl:i<l.length:=by omega
  have hg:=List.getElem?_eq_getElem hl
  have hi:(i:Int)<l.length:=by omega
  rw [qDc hg]
  generalize l[i]=c at hg
  by_cases hc:c=0
  ·subst hc
   have hw:IntKind.i64.wrap ((i:Int)+1)=((i+1:Nat):Int):=by rw [qT (by omega)];omega
   rw [qU (v':=(0,l.map (fun x=> [PV.i .i64 x]),(l.length:Int),((i+1:Nat):Int))) (by simp [qCg,qC,qE,qG,qH,qJ,qK,Option.bind_some,qF,qM,qN,hi,hg,zD,hw])]
   rw [qUe n l hb m (i+1) M (by omega) (by omega)]
   simp [qDW]
  ·rw [qP (r:= .inl c) (by simp [qCg,qC,qE,qG,qH,qJ,qK,Option.bind_some,qF,qM,qN,hi,hg,zD,hc])]
   simp [qDW,hc]
theorem qU2 (l:List Int) (hb:l.length≤1000):Ev (qGo · (l.map (fun x=> [PV.i .i64 x]))) (qDW l):=by
 refine ⟨l.length+2,fun n hn=>?_⟩
 obtain ⟨m,rfl,hm⟩:=up1 hn
 have h:=qUe m l hb l.length 0 m (by omega) (by omega)
 simp only [qGo,qJP,qC,qE,qG,qH,qJ,qK,Option.bind_some,qF,qM,qN]
 simp only [Int.natCast_zero,List.drop_zero] at h
 simp only [List.length_map]
 rw [h]
 by_cases hc:qDW l=0<;>simp [qC,qE,qG,qH,qJ,qK,Option.bind_some,qF,qM,qN,hc]
def qXK (k x:Int) (s:ByteArray) (k' x':Int) (s':ByteArray):Int:=qDW [qMz k k',qMz x x',qXJ s s']
theorem qMJ (b:Bool):Ev (qFL · b) (3,if b=true then 1 else 0,em):=by
 refine ⟨1,fun n hn=>?_⟩
 obtain ⟨m,rfl,hm⟩:=up1 hn
 simp only [qFL,qJT,qC,qE,qG,qH,qJ,qK,Option.bind_some,qF,qM,qN]
 cases b<;>rfl
def qW3 (op o:Int):Bool:=if op=6 then o==0 else if op=7 then o !=0 else if op=8 then decide (o<0) else if op=9 then decide (o≤0) else if op=10 then decide (o>0) else decide (o≥0)
def qXI (op k x:Int) (s:ByteArray) (k' x':Int) (s':ByteArray):Int×Int×ByteArray:=
 if okV k x s=true∧okV k' x' s'=true∧6≤op∧op≤11 then
  (if k=4 then (k,x,s) else if k'=4 then (k',x',s') else (3,if qW3 op (qXK (if k=0 then k' else k) x s (if k'=0 then k else k') x' s')=true then 1 else 0,em))
 else (4,2,em)
def qKE (a b c d:Int):Bool:=decide (b<d∨(b=d∧a<c))
theorem qL4 (a b c d:Int):Ev (qBt · a b c d) (qDW [qMz b d,qMz a c]):=by
 obtain ⟨n1,h1⟩:=qTg b d
 obtain ⟨n2,h2⟩:=qTg a c
 obtain ⟨n3,h3⟩:=qU2 [qMz b d,qMz a c] (by simp)
 refine ⟨n1+n2+n3+1,fun n hn=>?_⟩
 obtain ⟨m,rfl,hm⟩:=up1 hn
 have h1:=h1 m (by omega)
 dsimp only at h1
 have h2:=h2 m (by omega)
 dsimp only at h2
 have h3:=h3 m (by omega)
 dsimp only at h3
 simp only [qBt,qEo,qC,qE,qG,qH,qJ,qK,Option.bind_some,qF,qM,qN,h1,h2,h3]
 simp only [List.map_cons,List.map_nil] at h3
 simp [h3]
theorem qU3 (a b c d:Int):decide (qDW [qMz b d,qMz a c]≥0)=!(qKE a b c d):=by
 unfold qDW qDW qDW qMz qKE
 by_cases h1:b<d
 ·simp [h1]
 ·by_cases h2:b>d
  ·have:¬b=d:=by omega
   simp [h1,h2,this]
  ·have:b=d:=by omega
   subst this
   by_cases h3:a<c
   ·simp [h3]
   ·by_cases h4:a>c<;>simp [h3,h4]
def qBK (x:Int):ByteArray:=⟨(Lib.itoa x).toArray⟩
theorem qDf (a b:ByteArray):(a++b).data.toList=a.data.toList++b.data.toList:=by
 rw [ByteArray.data_append,Array.toList_append]
theorem qH4 {a b:ByteArray} (h:a.data.toList=b.data.toList):a=b:=by
 cases a;cases b
 congr 1
 exact Array.toList_inj.1 h
theorem qFT {a b:ByteArray} (h:a.toList=b.toList):a=b:=qH4 (by rw [←Go.Lib.toList_data,←Go.Lib.toList_data];exact h)
theorem qC7 (a:ByteArray):a.size=a.data.toList.length:=by rw [Array.length_toList];rfl
theorem u8w {q:Nat} (h:q<10):IntKind.u8.wrap (IntKind.i64.wrap (48+(q:Int)))=((48+q:Nat):Int):=by
 rw [qT (by omega)]
 unfold IntKind.wrap
 have e2:(2:Int)^8=256:=by decide
 simp only [IntKind.signed,IntKind.bits,Bool.false_and,Bool.false_eq_true,if_false,e2]
 omega
theorem qWb:∀(k v:Nat),1≤v→v<10^k→Lib.nDigits v≤k:=by
 intro k
 induction k with
 |zero=>intro v hv hv';simp at hv';omega
 |succ k ih=>
  intro v hv hv'
  by_cases h10:v<10
  ·rw [Lib.nDigits_small h10];omega
  ·rw [Lib.nDigits_big h10]
   have:=ih (v/10) (by omega) (by rw [Nat.pow_succ] at hv';omega)
   omega
theorem qLW (u:Nat) (h:u≤1000000000000000000):(Lib.decDigits u).length≤19:=by
 have p:(10:Nat)^19=10000000000000000000:=by decide
 rw [Lib.decDigits_length]
 rcases Nat.lt_or_ge u 1 with h6|h6
 ·have:u=0:=by omega
  subst this
  rw [Lib.nDigits_small (by decide)]
  decide
 ·exact qWb 19 u h6 (by omega)
def qf (x:Int):ByteArray:=if x=1 then ⟨#[35,68,73,86,33]⟩ else if x=2 then ⟨#[35,84,89,80,69,33]⟩ else if x=3 then ⟨#[35,82,69,70,33]⟩ else if x=4 then ⟨#[35,79,86,69,82,33]⟩ else if x=5 then ⟨#[35,67,89,67,76,69,33]⟩ else ⟨#[]⟩
theorem lt6 {x:Int} (h:0≤x∧x≤5):x=0∨x=1∨x=2∨x=3∨x=4∨x=5:=by omega
def qTh (x:Int):ByteArray:=if x=1 then ⟨#[84,82,85,69]⟩ else ⟨#[70,65,76,83,69]⟩
theorem qVO {x:Int} {s:ByteArray} (h:okV 1 x s=true): -1000000000000000≤x∧x≤1000000000000000:=by
 simp [okV] at h;exact h.2
theorem qSP {x:Int} {s:ByteArray} (h:okV 2 x s=true):x=0∧(s.size:Int)≤200∧s.toList.all okc=true:=by
 simp only [okV,qCf,if_true,Bool.and_eq_true,decide_eq_true_eq] at h
 exact ⟨h.1,h.2.2,h.2.1⟩
theorem qW4 {x:Int} {s:ByteArray} (h:okV 3 x s=true):0≤x∧x≤1:=by
 simp [okV] at h;exact h.2
theorem qWc {x:Int} {s:ByteArray} (h:okV 4 x s=true):1≤x∧x≤5:=by
 simp [okV] at h;exact h.2
def qCI (k x:Int) (s:ByteArray):ByteArray:=if k=1 then qBK x else if k=2 then ⟨#[39]⟩++s else if k=3 then qTh x else if k=4 then qf x else ⟨#[]⟩
theorem qSQ {x:Int} (h: -1000000000000000000≤x∧x≤1000000000000000000):(qBK x).size≤20:=by
 rw [qC7]
 show (Lib.itoa x).length≤20
 unfold Lib.itoa
 split
 ·have:=qLW x.natAbs (by omega);simp;omega
 ·have:=qLW x.toNat (by omega);omega
theorem qUJ {k x:Int} {s:ByteArray} (h:okV k x s=true):(qCI k x s).size≤300:=by
 unfold qCI
 split
 ·rename_i k1;subst k1;have:=qVO h;have:=qSQ (x:=x) (by omega);omega
 ·split
  ·rename_i k2;subst k2
   have:=qSP h
   rw [ByteArray.size_append]
   show 1+s.size≤300
   omega
  ·split
   ·unfold qTh;split<;>decide
   ·split
    ·unfold qf
     repeat' split
     all_goals decide
    ·decide
def qDa (x:Int):ByteArray:=if x<1∨x>52 then ⟨#[]⟩ else if x≤26 then ⟨#[UInt8.ofNat (64+x.toNat)]⟩ else ⟨#[65,UInt8.ofNat (65+(x.toNat-1)%26)]⟩
theorem qOr (x:Int):(qDa x).size≤2:=by
 unfold qDa
 split
 ·decide
 ·split
  ·exact (show (1:Nat)≤2 by decide)
  ·exact (show (2:Nat)≤2 by decide)
theorem qTC {q:Int} (h:0≤q∧q<256):IntKind.u8.wrap q=q:=by
 unfold IntKind.wrap
 have e2:(2:Int)^8=256:=by decide
 simp only [IntKind.signed,IntKind.bits,Bool.false_and,Bool.false_eq_true,if_false,e2]
 omega
def qBL (c r:Int) (fc fr:Bool):ByteArray:=if qBP c r=true then ⟨((if fc=true then [36] else [])++(qDa c).data.toList++(if fr=true then [36] else [])++(qBK r).data.toList).toArray⟩ else ⟨#[]⟩
theorem qM0 {x:Int} (h:1≤x∧x≤99):(qBK x).size≤20:=by
 rw [qC7]
 show (Lib.itoa x).length≤20
 unfold Lib.itoa
 rw [if_neg (by omega)]
 have:=qLW x.toNat (by omega)
 omega
theorem qI1 {c r:Int} (h:qBP c r=true):(1≤c∧c≤52)∧(1≤r∧r≤99):=by
 simpa [qBP] using h
def qBE (c:UInt8):Bool:=decide (48≤c.toNat)&&decide (c.toNat≤57)
def qAl (acc:Nat) (l:List UInt8):Nat:=l.foldl (fun a c=>a*10+(c.toNat-48)) acc
theorem qHc (acc:Nat):qAl acc []=acc:=rfl
theorem qED (acc:Nat) (c:UInt8) (r:List UInt8):qAl acc (c::r)=qAl (acc*10+(c.toNat-48)) r:=by simp only [qAl,List.foldl_cons]
theorem qTi (l:List UInt8) (acc:Nat) (c:UInt8):qAl acc (l++ [c])=qAl acc l*10+(c.toNat-48):=by
 simp only [qAl,List.foldl_append,List.foldl_cons,List.foldl_nil]
theorem qUf:∀(l:List UInt8) (acc:Nat),acc≤qAl acc l
 | [],acc=>by rw [qHc];exact Nat.le_refl _
 |c::r,acc=>by
  have h:=qUf r (acc*10+(c.toNat-48))
  have h2:acc≤acc*10+(c.toNat-48):=by omega
  rw [qED]
  exact Nat.le_trans h2 h
theorem qTD {d:Nat} (h:d<10):(UInt8.ofNat (48+d)).toNat=48+d:=by
 rw [UInt8.toNat_ofNat'];omega
theorem qTj {d:Nat} (h:d<10):qBE (UInt8.ofNat (48+d))=true:=by
 unfold qBE
 rw [qTD h]
 simp
 omega
theorem qI2:∀u:Nat,(Lib.decDigits u).all qBE=true∧qAl 0 (Lib.decDigits u)=u∧Lib.decDigits u≠ []∧(10≤u→(Lib.decDigits u).head?≠some 48)∧(1≤u→(Lib.decDigits u).head?≠some 48):=by
 intro u
 induction u using Nat.strongRecOn with
 |_ u ih=>
  by_cases h:u<10
  ·rw [Lib.decDigits,dif_pos h]
   have h1:∀k,1≤k→k<10→UInt8.ofNat (48+k)≠48:=fun k hk hk' e=>by
    have:=congrArg UInt8.toNat e
    rw [qTD hk'] at this
    have h2:(48:UInt8).toNat=48:=rfl
    omega
   refine ⟨by simp only [List.all_cons,List.all_nil,qTj h,Bool.and_true],by rw [qED,qHc,qTD h];omega,by simp,fun _=>by omega,fun hu=>?_⟩
   simp only [List.head?_cons,ne_eq,Option.some.injEq]
   exact h1 u hu h
  ·obtain ⟨i1,i2,i3,i4,i5⟩:=ih (u/10) (by omega)
   rw [Lib.decDigits,dif_neg h]
   have hd:u%10<10:=by omega
   have hh:(Lib.decDigits (u/10)++ [UInt8.ofNat (48+u%10)]).head?=(Lib.decDigits (u/10)).head?:=by
    cases hq:Lib.decDigits (u/10) with
    |nil=>exact absurd hq i3
    |cons a b=>rfl
   refine ⟨by simp only [List.all_append,i1,List.all_cons,List.all_nil,qTj hd,Bool.and_true],by rw [qTi,i2,qTD hd];omega,by simp,fun _=>?_,fun _=>?_⟩
   ·rw [hh];exact i5 (by omega)
   ·rw [hh];exact i5 (by omega)
def qGj (l:List UInt8):Bool:=!(l== [])&&l.all qBE&&(!(l.head?==some 48)||l.length==1)
theorem qSR (u:Nat):qGj (Lib.decDigits u)=true:=by
 obtain ⟨h1,h2,h3,h4,h5⟩:=qI2 u
 simp only [qGj,h1,Bool.and_true,Bool.and_eq_true,Bool.not_eq_true',beq_eq_false_iff_ne,Bool.or_eq_true]
 refine ⟨h3,?_⟩
 by_cases hu:u<10
 ·right;rw [Lib.decDigits,dif_pos hu];rfl
 ·left;exact h4 (by omega)
theorem qOs:∀(n:Nat) (l:List UInt8),l.length=n→qGj l=true→Lib.decDigits (qAl 0 l)=l
 |0,l,hn,h=>by
  have:=List.eq_nil_of_length_eq_zero hn
  subst this
  simp [qGj] at h
 |n+1,l,hn,h=>by
  simp only [qGj,Bool.and_eq_true,Bool.not_eq_true',beq_eq_false_iff_ne,Bool.or_eq_true,beq_iff_eq] at h
  obtain ⟨⟨h1,h2⟩,h3⟩:=h
  obtain ⟨ini,c,rfl⟩:∃ini c,l=ini++ [c]:=⟨l.dropLast,l.getLast h1,(List.dropLast_concat_getLast h1).symm⟩
  simp only [List.all_append,Bool.and_eq_true,List.all_cons,List.all_nil,Bool.and_true] at h2
  obtain ⟨h2,hc⟩:=h2
  simp only [qBE,Bool.and_eq_true,decide_eq_true_eq] at hc
  have ec:UInt8.ofNat (48+(c.toNat-48))=c:=by
   have:48+(c.toNat-48)=c.toNat:=by omega
   rw [this];simp
  rw [qTi]
  cases ini with
  |nil=>
   rw [qHc,Nat.zero_mul,Nat.zero_add,List.nil_append,Lib.decDigits,dif_pos (by omega),ec]
  |cons a b=>
   have hl:(a::b).length=n:=by simp at hn⊢;omega
   have h48:¬a=48:=by
    rcases h3 with h3|h3
    ·simpa using h3
    ·simp at h3
   have hcn:qGj (a::b)=true:=by
    simp only [qGj,h2,Bool.and_true,Bool.and_eq_true,Bool.not_eq_true',beq_eq_false_iff_ne,Bool.or_eq_true]
    exact ⟨by simp,.inl (by simpa using h48)⟩
   have ih:=qOs n (a::b) hl hcn
   have hp:1≤qAl 0 (a::b):=by
    rcases Nat.eq_zero_or_pos (qAl 0 (a::b)) with h0|h0
    ·rw [h0,Lib.decDigits,dif_pos (by decide)] at ih
     have:a=48:=by
      have:=congrArg List.head? ih
      simpa using this.symm
     exact absurd this h48
    ·exact h0
   rw [Lib.decDigits,dif_neg (by omega)]
   have e1:(qAl 0 (a::b)*10+(c.toNat-48))/10=qAl 0 (a::b):=by omega
   have e2:(qAl 0 (a::b)*10+(c.toNat-48))%10=c.toNat-48:=by omega
   rw [e1,e2,ih,ec]
def l1I (l:List UInt8) (most:Int):Int×Bool:=if (l.length:Int)≤most∧qGj l=true then ((qAl 0 l:Int),true) else (0,false)
theorem qTE:∀(l:List UInt8) (acc k:Nat),l.all qBE=true→acc<10^k→qAl acc l<10^(k+l.length)
 | [],acc,k,_,h=>by rw [qHc];simpa using h
 |c::r,acc,k,hd,h=>by
  simp only [List.all_cons,Bool.and_eq_true] at hd
  have hc:=hd.1
  simp only [qBE,Bool.and_eq_true,decide_eq_true_eq] at hc
  have:=qTE r (acc*10+(c.toNat-48)) (k+1) hd.2 (by rw [Nat.pow_succ];omega)
  rw [qED,List.length_cons,show k+(r.length+1)=k+1+r.length by omega]
  exact this
theorem qOt:∀(l:List UInt8) (acc:Nat),l.all qBE=true→qAl acc l≤1000000000000000000→Lib.parseUintM (2^64-1) acc l= .ok (qAl acc l)
 | [],acc,_,_=>by simp only [Lib.parseUintM,qHc]
 |c::r,acc,hd,h=>by
  simp only [List.all_cons,Bool.and_eq_true] at hd
  have hc:=hd.1
  simp only [qBE,Bool.and_eq_true,decide_eq_true_eq] at hc
  rw [qED] at h⊢
  have g1:=qUf r (acc*10+(c.toNat-48))
  have p:(2:Nat)^64-1=18446744073709551615:=by decide
  simp only [Lib.parseUintM]
  rw [if_pos hc,if_neg (by omega),if_neg (by rw [p];omega)]
  exact qOt r _ hd.2 h
theorem qSS {u:Nat} (h:u≤1000000000000000000):Lib.parseUintB 64 (Lib.decDigits u)= .ok u:=by
 obtain ⟨h1,h2,h3,_,_⟩:=qI2 u
 unfold Lib.parseUintB
 rw [if_neg h3,qOt _ 0 h1 (by rw [h2];exact h),h2]
theorem qTk (u:Nat):∃c r,Lib.decDigits u=c::r∧qBE c=true:=by
 obtain ⟨h1,_,h3,_,_⟩:=qI2 u
 cases hq:Lib.decDigits u with
 |nil=>exact absurd hq h3
 |cons c r=>
  rw [hq] at h1
  simp only [List.all_cons,Bool.and_eq_true] at h1
  exact ⟨c,r,rfl,h1.1⟩
theorem qUK {x:Int} (h: -1000000000000000≤x∧x≤1000000000000000):Lib.parseIntB 64 (Lib.itoa x)= .ok x:=by
 have p:(2:Nat)^(64-1)=9223372036854775808:=by decide
 by_cases hx:x<0
 ·have e:Lib.itoa x=45::Lib.decDigits x.natAbs:=by unfold Lib.itoa;rw [if_pos hx]
  have c45:(45:UInt8).toNat=45:=rfl
  rw [e]
  simp only [Lib.parseIntB,c45,or_true,if_true,qSS (u:=x.natAbs) (by omega),p]
  rw [if_neg (by simp),if_neg (by omega)]
  congr 1
  omega
 ·have e:Lib.itoa x=Lib.decDigits x.toNat:=by unfold Lib.itoa;rw [if_neg hx]
  obtain ⟨c,r,hcr,hd⟩:=qTk x.toNat
  simp only [qBE,Bool.and_eq_true,decide_eq_true_eq] at hd
  rw [e,hcr]
  simp only [Lib.parseIntB]
  rw [if_neg (by omega),←hcr,qSS (u:=x.toNat) (by omega)]
  simp only [p]
  rw [if_neg (by omega),if_neg (by omega),if_neg (by omega)]
  congr 1
  omega
def qTF (l:List UInt8):Option Int:=if l.head?=some 45 then (if (l1I (l.drop 1) 16).2=true∧(l1I (l.drop 1) 16).1≠0 then some (-(l1I (l.drop 1) 16).1) else none) else (if (l1I l 16).2=true then some (l1I l 16).1 else none)
theorem qRD {l:List UInt8} (h:(l1I l 16).2=true):l.length≤16∧qGj l=true∧(l1I l 16).1=(qAl 0 l:Int)∧Lib.decDigits (qAl 0 l)=l:=by
 unfold l1I at h⊢
 split at h
 ·rename_i hc
  rw [if_pos hc]
  exact ⟨by omega,hc.2,rfl,qOs _ l rfl hc.2⟩
 ·cases h
theorem qUg {u:Nat} (h:u≤1000000000000000):l1I (Lib.decDigits u) 16=((u:Int),true):=by
 obtain ⟨h1,h2,h3,_,_⟩:=qI2 u
 have hl:(Lib.decDigits u).length≤16:=by
  rw [Lib.decDigits_length]
  have:Lib.nDigits 1000000000000000=16:=Lib.nDigits_unique 15 _ (by decide) (by decide)
  rcases Nat.lt_or_ge 16 (Lib.nDigits u) with h4|h4
  ·have h5:u<10^16:=by
    have:(10:Nat)^16=10000000000000000:=by decide
    omega
   exfalso
   rcases Nat.lt_or_ge u 1 with h6|h6
   ·have:u=0:=by omega
    subst this
    rw [Lib.nDigits_small (by decide)] at h4
    omega
   ·have key:∀(k v:Nat),1≤v→v<10^k→Lib.nDigits v≤k:=by
     intro k
     induction k with
     |zero=>intro v hv hv';simp at hv';omega
     |succ k ih=>
      intro v hv hv'
      by_cases h10:v<10
      ·rw [Lib.nDigits_small h10];omega
      ·rw [Lib.nDigits_big h10]
       have:=ih (v/10) (by omega) (by rw [Nat.pow_succ] at hv';omega)
       omega
    have:=key 16 u h6 h5
    omega
  ·exact h4
 unfold l1I
 rw [if_pos ⟨by omega,qSR u⟩,h2]
theorem qU4 {l:List UInt8} {x:Int} (h:qTF l=some x):l=Lib.itoa x:=by
 unfold qTF at h
 split at h
 ·rename_i h45
  split at h
  ·rename_i hc
   cases h
   obtain ⟨a1,a2,a3,a4⟩:=qRD hc.1
   have hne:=hc.2
   rw [a3] at hne⊢
   unfold Lib.itoa
   rw [if_pos (by omega)]
   have:(-(qAl 0 (l.drop 1):Int)).natAbs=qAl 0 (l.drop 1):=by omega
   rw [this,a4]
   cases l with
   |nil=>cases h45
   |cons c r=>simp at h45;simp [h45]
  ·cases h
 ·split at h
  ·rename_i hc
   cases h
   obtain ⟨a1,a2,a3,a4⟩:=qRD hc
   rw [a3]
   unfold Lib.itoa
   rw [if_neg (by omega),Int.toNat_natCast,a4]
  ·cases h
theorem qU5 {x:Int} (h: -1000000000000000≤x∧x≤1000000000000000):qTF (Lib.itoa x)=some x:=by
 unfold qTF
 by_cases hx:x<0
 ·have e:Lib.itoa x=45::Lib.decDigits x.natAbs:=by unfold Lib.itoa;rw [if_pos hx]
  have e2:=qUg (u:=x.natAbs) (by omega)
  rw [e,List.head?_cons,if_pos rfl,List.drop_succ_cons,List.drop_zero,e2,if_pos ⟨rfl,by show ((x.natAbs:Nat):Int)≠0;omega⟩]
  congr 1
  show-((x.natAbs:Nat):Int)=x
  omega
 ·have e:Lib.itoa x=Lib.decDigits x.toNat:=by unfold Lib.itoa;rw [if_neg hx]
  have e2:=qUg (u:=x.toNat) (by omega)
  obtain ⟨c,r,hcr,hd⟩:=qTk x.toNat
  have h45:¬(Lib.decDigits x.toNat).head?=some 45:=by
   rw [hcr]
   simp only [List.head?_cons,Option.some.injEq]
   intro hc
   subst hc
   simp [qBE] at hd
  rw [e,if_neg h45,e2,if_pos rfl]
  congr 1
  show ((x.toNat:Nat):Int)=x
  omega
def qBz (s:ByteArray):Int:=match zL s 10 64 with
 |some (.inl v)=>v
 |some (.inr v)=>v
 |none=>0
theorem qPG {s:ByteArray} {x:Int} (hs:s.toList=Lib.itoa x) (h: -1000000000000000≤x∧x≤1000000000000000):qBz s=x:=by
 have hd:s.data.toList=Lib.itoa x:=by rw [←Go.Lib.toList_data];exact hs
 have hsz:s.size≤281474976710656:=by
  rw [←qAZ,hs]
  unfold Lib.itoa
  split
  ·have:=qLW x.natAbs (by omega);simp;omega
  ·have:=qLW x.toNat (by omega);omega
 unfold qBz zL
 rw [if_pos ⟨rfl,rfl,hsz⟩,hd,qUK h]
def qEu (s:ByteArray):Int:=if (qf 5).toList=s.toList then 5 else if (qf 4).toList=s.toList then 4 else if (qf 3).toList=s.toList then 3 else if (qf 2).toList=s.toList then 2 else if (qf 1).toList=s.toList then 1 else 0
theorem qV6 (s:ByteArray):0≤qEu s∧qEu s≤5:=by
 unfold qEu
 repeat' split
 all_goals decide
theorem qV7 {s:ByteArray} (h:¬qEu s=0):qf (qEu s)=s:=by
 unfold qEu at h⊢
 by_cases h5:(qf 5).toList=s.toList
 ·rw [if_pos h5];exact qFT h5
 rw [if_neg h5] at h⊢
 by_cases h4:(qf 4).toList=s.toList
 ·rw [if_pos h4];exact qFT h4
 rw [if_neg h4] at h⊢
 by_cases h3:(qf 3).toList=s.toList
 ·rw [if_pos h3];exact qFT h3
 rw [if_neg h3] at h⊢
 by_cases h2:(qf 2).toList=s.toList
 ·rw [if_pos h2];exact qFT h2
 rw [if_neg h2] at h⊢
 by_cases h1:(qf 1).toList=s.toList
 ·rw [if_pos h1];exact qFT h1
 rw [if_neg h1] at h
 exact absurd rfl h
def qBQ (s:ByteArray):V3:=
 if s.toList.head?=some 39 then (2,0,⟨s.toList.tail.toArray⟩) else
 if s.toList= [70,65,76,83,69] then (3,0,em) else if s.toList= [84,82,85,69] then (3,1,em) else
 if s.toList.head?=some 35 then (if qEu s=0 then (0,0,em) else (4,qEu s,em)) else
 if s.toList= [] then (0,0,em) else (1,qBz s,em)
def qi (s:ByteArray):Int×Int×ByteArray×Bool:=if okV (qBQ s).1 (qBQ s).2.1 (qBQ s).2.2=true∧(qCI (qBQ s).1 (qBQ s).2.1 (qBQ s).2.2).toList=s.toList then ((qBQ s).1,(qBQ s).2.1,(qBQ s).2.2,true) else (0,0,⟨#[]⟩,false)
theorem qV8 (c:UInt8) (k:Nat) (hk:k<256):((c.toNat:Int)==(k:Int))=(some c==some (UInt8.ofNat k)):=by
 by_cases e:c=UInt8.ofNat k
 ·subst e
  have:(UInt8.ofNat k).toNat=k:=by rw [UInt8.toNat_ofNat'];omega
  simp [this]
 ·have h1:¬(c.toNat:Int)=(k:Int):=fun h=>e (by
   have:c.toNat=k:=by omega
   rw [←this];simp)
  have h2:¬some c=some (UInt8.ofNat k):=fun h=>e (by simpa using h)
  rw [beq_eq_false_iff_ne.2 h1,beq_eq_false_iff_ne.2 h2]
theorem qCA (l:List UInt8):(⟨l.toArray⟩:ByteArray).toList=l:=by rw [Go.Lib.toList_data]
theorem qRE (n:Nat):∀(f u:Nat) (s:ByteArray),u<10^(f+1)→u≤9223372036854775807→s.size+f≤1000→∃(q:Nat) (t:ByteArray),q<10∧t.size≤s.size+f∧UInt8.ofNat (48+q)::t.data.toList=Lib.decDigits u++s.data.toList∧∀M,f+1≤M→zC (qDY n) M ((u:Int),s)=some ((q:Int),t)
 |f,u,s,h1,h2,h3=>by
  by_cases h:u<10
  ·refine ⟨u,s,h,by omega,by rw [Lib.decDigits,dif_pos h];rfl,fun M hM=>?_⟩
   obtain ⟨M,rfl⟩:∃k,M=k+1:=⟨M-1,by omega⟩
   have hc:¬(u:Int)≥10:=by omega
   rw [qP (r:=((u:Int),s)) (by simp [qDY,qC,qE,qG,qH,qJ,qK,Option.bind_some,qF,qM,qN,hc])]
  ·cases f with
   |zero=>simp at h1;omega
   |succ f=>
    have e1:Int.tmod (u:Int) 10=((u%10:Nat):Int):=by rw [Int.tmod_eq_emod_of_nonneg (by omega)];omega
    have e2:IntKind.i64.wrap (Int.tdiv (u:Int) 10)=((u/10:Nat):Int):=by
     rw [Int.tdiv_eq_ediv_of_nonneg (by omega),qT (by omega)];omega
    have e3:=u8w (q:=u%10) (by omega)
    have h4:u/10<10^(f+1):=by
     have:10^(f+1+1)=10^(f+1)*10:=Nat.pow_succ 10 (f+1)
     omega
    let d:ByteArray:=⟨#[UInt8.ofNat (48+u%10)]⟩
    have hd:d.size=1:=rfl
    have hs:(d++s).size=s.size+1:=by rw [ByteArray.size_append];omega
    obtain ⟨q,t,g1,g2,g3,g4⟩:=qRE n f (u/10) (d++s) h4 (by omega) (by omega)
    refine ⟨q,t,g1,by omega,?_,fun M hM=>?_⟩
    ·rw [g3,qDf,Lib.decDigits.eq_1 u,dif_neg h]
     simp [d]
    ·obtain ⟨M,rfl⟩:∃k,M=k+1:=⟨M-1,by omega⟩
     have hc:(u:Int)≥10:=by omega
     have hz:d.size+s.size≤9223372036854775807:=by omega
     rw [qU (v':=(((u/10:Nat):Int),d++s)) (by
      simp only [qDY,qC,qE,qG,qH,qJ,qK,Option.bind_some,qF,qM,qN,e1,e2,e3,bytesOf,Option.map_some,Int.toNat_natCast]
      rw [if_pos (by simpa using hc),if_pos (by simp),if_pos (decide_eq_true hz)])]
     exact g4 M (by omega)
theorem qNi (u:Nat) (h:u≤1000000000000000000):∀n,25≤n→qr n (u:Int)=some (qBK u):=by
 intro n hn
 obtain ⟨m,rfl,hm⟩:=up1 hn
 have p:(10:Nat)^(18+1)=10000000000000000000:=by decide
 obtain ⟨q,t,g1,g2,g3,g4⟩:=qRE m 18 u ⟨#[]⟩ (by omega) (by omega) (by show 0+18≤1000;decide)
 have g4:=g4 m (by omega)
 have e3:=u8w g1
 have hc:¬(u:Int)<0:=by omega
 have hz:(⟨#[UInt8.ofNat (48+q)]⟩:ByteArray).size+t.size≤9223372036854775807:=by
  have g2:t.size≤0+18:=g2
  show 1+t.size≤_
  omega
 simp only [qr,qGm,qC,qE,qG,qH,qJ,qK,Option.bind_some,qF,qM,qN,g4,e3,bytesOf,Option.map_some,Int.toNat_natCast]
 rw [if_neg (by simp),if_pos (by simp),if_pos (decide_eq_true hz)]
 congr 1
 apply qH4
 rw [qDf]
 have e:Lib.itoa (u:Int)=Lib.decDigits u:=by unfold Lib.itoa;rw [if_neg hc];simp
 show UInt8.ofNat (48+q)::t.data.toList=Lib.itoa (u:Int)
 rw [g3,e]
 simp
theorem qF4 (x:Int) (h: -1000000000000000000≤x∧x≤1000000000000000000):Ev (qr · x) (qBK x):=by
 by_cases hx:x<0
 ·refine ⟨30,fun n hn=>?_⟩
  obtain ⟨m,rfl,hm⟩:=up1 hn
  have e1:IntKind.i64.wrap (0-x)=((x.natAbs:Nat):Int):=by rw [qT (by omega)];omega
  have g:=qNi x.natAbs (by omega) m (by omega)
  have hl:=qLW x.natAbs (by omega)
  have e0:Lib.itoa ((x.natAbs:Nat):Int)=Lib.decDigits x.natAbs:=by unfold Lib.itoa;rw [if_neg (by omega)];simp
  have hz:(⟨#[45]⟩:ByteArray).size+(qBK ((x.natAbs:Nat):Int)).size≤9223372036854775807:=by
   have:(qBK ((x.natAbs:Nat):Int)).size=(Lib.decDigits x.natAbs).length:=by rw [qC7];simp [qBK,e0]
   show 1+_≤_
   omega
  simp only [qr,qGm,qC,qE,qG,qH,qJ,qK,Option.bind_some,qF,qM,qN,e1,g]
  rw [if_pos (by simpa using hx),if_pos (decide_eq_true hz)]
  congr 1
  apply qH4
  rw [qDf]
  have e:Lib.itoa x=45::Lib.decDigits x.natAbs:=by unfold Lib.itoa;rw [if_pos hx]
  show 45::(Lib.itoa ((x.natAbs:Nat):Int))=Lib.itoa x
  rw [e,e0]
 ·obtain ⟨u,rfl⟩:∃u:Nat,x=u:=⟨x.toNat,by omega⟩
  exact ⟨25,qNi u (by omega)⟩
theorem qTG (x:Int) (h: -9223372036854775808≤x∧x≤9223372036854775807):Ev (qEN · x 10) (qBK x):=by
 refine ⟨1,fun n hn=>?_⟩
 obtain ⟨m,rfl,hm⟩:=up1 hn
 show zo x 10=_
 unfold zo
 rw [if_pos ⟨rfl,h⟩]
 rfl
theorem qEk (x:Int) (h: -9223372036854775808≤x∧x≤9223372036854775807):Ev (qv · x) (qBK x):=by
 obtain ⟨n1,h1⟩:=qTG x h
 refine ⟨n1+1,fun n hn=>?_⟩
 obtain ⟨m,rfl,hm⟩:=up1 hn
 have h1:=h1 m (by omega)
 dsimp only at h1
 simp only [qv,qHN,qC,qE,qG,qH,qJ,qK,Option.bind_some,qF,qM,qN,h1]
theorem qHd (x:Int) (h:0≤x∧x≤5):Ev (qBa · x) (qf x):=by
 refine ⟨1,fun n hn=>?_⟩
 obtain ⟨m,rfl,hm⟩:=up1 hn
 simp only [qBa,qIH,qC,qE,qG,qH,qJ,qK,Option.bind_some,qF,qM,qN]
 rcases lt6 h with rfl|rfl|rfl|rfl|rfl|rfl<;>simp [zT,qf]
theorem qFU (x:Int) (h:0≤x∧x≤5):Ev (qAo · x) (qf x):=by
 refine ⟨1,fun n hn=>?_⟩
 obtain ⟨m,rfl,hm⟩:=up1 hn
 simp only [qAo,qFm,qC,qE,qG,qH,qJ,qK,Option.bind_some,qF,qM,qN]
 rcases lt6 h with rfl|rfl|rfl|rfl|rfl|rfl<;>simp [zT,qf]
theorem qRF (x:Int):Ev (qF0 · x) (qTh x):=by
 refine ⟨1,fun n hn=>?_⟩
 obtain ⟨m,rfl,hm⟩:=up1 hn
 simp only [qF0,qIO,qC,qE,qG,qH,qJ,qK,Option.bind_some,qF,qM,qN]
 by_cases h:x=1<;>simp [qTh,h]
theorem qDl (k x:Int) (s:ByteArray) (hb:s.size≤140737488351232):Ev (qAW · k x s) (if okV k x s=true then qCI k x s else ⟨#[]⟩):=by
 cases ho:okV k x s with
 |false=>
  obtain ⟨n1,h1⟩:=qAI k x s hb
  refine ⟨n1+1,fun n hn=>?_⟩
  obtain ⟨m,rfl,hm⟩:=up1 hn
  have h1:=h1 m (by omega)
  dsimp only at h1
  simp only [qAW,qBW,qC,qE,qG,qH,qJ,qK,Option.bind_some,qF,qM,qN,h1]
  simp [ho]
 |true=>
  by_cases k1:k=1
  ·subst k1
   have:=qVO ho
   obtain ⟨n1,h1⟩:=qAI 1 x s hb
   obtain ⟨n2,h2⟩:=qF4 x (by omega)
   refine ⟨n1+n2+1,fun n hn=>?_⟩
   obtain ⟨m,rfl,hm⟩:=up1 hn
   have h1:=h1 m (by omega)
   dsimp only at h1
   have h2:=h2 m (by omega)
   dsimp only at h2
   simp only [qAW,qBW,qC,qE,qG,qH,qJ,qK,Option.bind_some,qF,qM,qN,h1,h2]
   simp [ho,qCI]
  ·by_cases k2:k=2
   ·subst k2
    have:=qSP ho
    have hz:(⟨#[39]⟩:ByteArray).size+s.size≤9223372036854775807:=by show 1+s.size≤_;omega
    obtain ⟨n1,h1⟩:=qAI 2 x s hb
    refine ⟨n1+1,fun n hn=>?_⟩
    obtain ⟨m,rfl,hm⟩:=up1 hn
    have h1:=h1 m (by omega)
    dsimp only at h1
    simp only [qAW,qBW,qC,qE,qG,qH,qJ,qK,Option.bind_some,qF,qM,qN,h1]
    simp [ho,qCI,hz]
   ·by_cases k3:k=3
    ·subst k3
     obtain ⟨n1,h1⟩:=qAI 3 x s hb
     obtain ⟨n2,h2⟩:=qRF x
     refine ⟨n1+n2+1,fun n hn=>?_⟩
     obtain ⟨m,rfl,hm⟩:=up1 hn
     have h1:=h1 m (by omega)
     dsimp only at h1
     have h2:=h2 m (by omega)
     dsimp only at h2
     simp only [qAW,qBW,qC,qE,qG,qH,qJ,qK,Option.bind_some,qF,qM,qN,h1,h2]
     simp [ho,qCI]
    ·by_cases k4:k=4
     ·subst k4
      have:=qWc ho
      obtain ⟨n1,h1⟩:=qAI 4 x s hb
      obtain ⟨n2,h2⟩:=qHd x (by omega)
      refine ⟨n1+n2+1,fun n hn=>?_⟩
      obtain ⟨m,rfl,hm⟩:=up1 hn
      have h1:=h1 m (by omega)
      dsimp only at h1
      have h2:=h2 m (by omega)
      dsimp only at h2
      simp only [qAW,qBW,qC,qE,qG,qH,qJ,qK,Option.bind_some,qF,qM,qN,h1,h2]
      simp [ho,qCI]
     ·obtain ⟨n1,h1⟩:=qAI k x s hb
      refine ⟨n1+1,fun n hn=>?_⟩
      obtain ⟨m,rfl,hm⟩:=up1 hn
      have h1:=h1 m (by omega)
      dsimp only at h1
      simp only [qAW,qBW,qC,qE,qG,qH,qJ,qK,Option.bind_some,qF,qM,qN,h1]
      simp [ho,qCI,k1,k2,k3,k4]
theorem qH5 (k x:Int) (s:ByteArray) (ho:okV k x s=true):Ev (qw · k x s) (qCI k x s):=by
 by_cases k1:k=1
 ·subst k1
  have:=qVO ho
  obtain ⟨n1,h1⟩:=qEk x (by omega)
  refine ⟨n1+1,fun n hn=>?_⟩
  obtain ⟨m,rfl,hm⟩:=up1 hn
  have h1:=h1 m (by omega)
  dsimp only at h1
  simp only [qw,qBw,qC,qE,qG,qH,qJ,qK,Option.bind_some,qF,qM,qN,h1]
  simp [qCI]
 ·by_cases k2:k=2
  ·subst k2
   have:=qSP ho
   have hz:(⟨#[39]⟩:ByteArray).size+s.size≤9223372036854775807:=by show 1+s.size≤_;omega
   refine ⟨1,fun n hn=>?_⟩
   obtain ⟨m,rfl,hm⟩:=up1 hn
   simp only [qw,qBw,qC,qE,qG,qH,qJ,qK,Option.bind_some,qF,qM,qN]
   simp [qCI,hz]
  ·by_cases k3:k=3
   ·subst k3
    have:=qW4 ho
    refine ⟨1,fun n hn=>?_⟩
    obtain ⟨m,rfl,hm⟩:=up1 hn
    simp only [qw,qBw,qC,qE,qG,qH,qJ,qK,Option.bind_some,qF,qM,qN]
    have c:x=0∨x=1:=by omega
    rcases c with rfl|rfl<;>simp [zT,qCI,qTh]
   ·by_cases k4:k=4
    ·subst k4
     have:=qWc ho
     obtain ⟨n1,h1⟩:=qFU x (by omega)
     refine ⟨n1+1,fun n hn=>?_⟩
     obtain ⟨m,rfl,hm⟩:=up1 hn
     have h1:=h1 m (by omega)
     dsimp only at h1
     simp only [qw,qBw,qC,qE,qG,qH,qJ,qK,Option.bind_some,qF,qM,qN,h1]
     simp [qCI]
    ·refine ⟨1,fun n hn=>?_⟩
     obtain ⟨m,rfl,hm⟩:=up1 hn
     simp only [qw,qBw,qC,qE,qG,qH,qJ,qK,Option.bind_some,qF,qM,qN]
     simp [qCI,k1,k2,k3,k4]
theorem qKF (x:Int):Ev (qB6 · x) (qDa x):=by
 by_cases h:1≤x∧x≤52
 ·by_cases h26:x≤26
  ·have w1:IntKind.i64.wrap (65+x)=65+x:=qT (by omega)
   have w2:IntKind.i64.wrap (65+x-1)=65+x-1:=qT (by omega)
   have w3:IntKind.u8.wrap (65+x-1)=65+x-1:=qTC (by omega)
   have e:(65+x-1).toNat=64+x.toNat:=by omega
   obtain ⟨n1,h1⟩:=q7 x 1 52
   refine ⟨n1+1,fun n hn=>?_⟩
   obtain ⟨m,rfl,hm⟩:=up1 hn
   have h1:=h1 m (by omega)
   dsimp only at h1
   simp only [qB6,qDt,qC,qE,qG,qH,qJ,qK,Option.bind_some,qF,qM,qN,h1]
   simp only [w1,w2,w3,bytesOf,Option.map_some,e]
   simp [h,h26,qDa,show ¬x<1 by omega,show ¬52<x by omega]
  ·have w1:IntKind.i64.wrap (x-1)=x-1:=qT (by omega)
   have e1:Int.tdiv (x-1) 26=1:=by rw [Int.tdiv_eq_ediv_of_nonneg (by omega)];omega
   have e2:Int.tmod (x-1) 26=(((x.toNat-1)%26:Nat):Int):=by rw [Int.tmod_eq_emod_of_nonneg (by omega)];omega
   have w2:IntKind.u8.wrap (IntKind.i64.wrap (IntKind.i64.wrap (65+IntKind.i64.wrap 1)-1))=65:=by decide
   have w3:IntKind.i64.wrap (65+(((x.toNat-1)%26:Nat):Int))=65+(((x.toNat-1)%26:Nat):Int):=qT (by omega)
   have w4:IntKind.u8.wrap (65+(((x.toNat-1)%26:Nat):Int))=65+(((x.toNat-1)%26:Nat):Int):=qTC (by omega)
   have e3:(65+(((x.toNat-1)%26:Nat):Int)).toNat=65+(x.toNat-1)%26:=by omega
   obtain ⟨n1,h1⟩:=q7 x 1 52
   refine ⟨n1+1,fun n hn=>?_⟩
   obtain ⟨m,rfl,hm⟩:=up1 hn
   have h1:=h1 m (by omega)
   dsimp only at h1
   simp only [qB6,qDt,qC,qE,qG,qH,qJ,qK,Option.bind_some,qF,qM,qN,h1]
   simp only [w1,e1,e2,w2,w3,w4,e3,bytesOf,Option.map_some]
   simp [h,h26,qDa,show ¬x<1 by omega,show ¬52<x by omega]
 ·have hx:x<1∨x>52:=by omega
  obtain ⟨n1,h1⟩:=q7 x 1 52
  refine ⟨n1+1,fun n hn=>?_⟩
  obtain ⟨m,rfl,hm⟩:=up1 hn
  have h1:=h1 m (by omega)
  dsimp only at h1
  simp only [qB6,qDt,qC,qE,qG,qH,qJ,qK,Option.bind_some,qF,qM,qN,h1]
  simp [h,qDa,hx]
theorem qST (n x:Nat) (s:ByteArray) (h:1≤x∧x≤1000) (hs:s.size≤100):(qBd n ((x:Int),s)).run=some (.inl ((((x-1)/26:Nat):Int),(⟨#[UInt8.ofNat (65+(x-1)%26)]⟩:ByteArray)++s)):=by
 have w1:IntKind.i64.wrap ((x:Int)-1)=((x-1:Nat):Int):=by rw [qT (by omega)];omega
 have e1:Int.tdiv ((x-1:Nat):Int) 26=(((x-1)/26:Nat):Int):=by rw [Int.tdiv_eq_ediv_of_nonneg (by omega)];omega
 have e2:Int.tmod ((x-1:Nat):Int) 26=(((x-1)%26:Nat):Int):=by rw [Int.tmod_eq_emod_of_nonneg (by omega)];omega
 have w2:IntKind.i64.wrap (((x-1)/26:Nat):Int)=(((x-1)/26:Nat):Int):=qT (by omega)
 have w3:IntKind.i64.wrap (65+(((x-1)%26:Nat):Int))=65+(((x-1)%26:Nat):Int):=qT (by omega)
 have w4:IntKind.u8.wrap (65+(((x-1)%26:Nat):Int))=65+(((x-1)%26:Nat):Int):=qTC (by omega)
 have e3:(65+(((x-1)%26:Nat):Int)).toNat=65+(x-1)%26:=by omega
 have hz:(⟨#[UInt8.ofNat (65+(x-1)%26)]⟩:ByteArray).size+s.size≤9223372036854775807:=by show 1+s.size≤_;omega
 have hc:(x:Int)>0:=by omega
 simp only [qBd,qC,qE,qG,qH,qJ,qK,Option.bind_some,qF,qM,qN,w1,e1,e2,w2,w3,w4,e3,bytesOf,Option.map_some]
 rw [if_pos (decide_eq_true hc),if_pos (by simp),if_pos (decide_eq_true hz)]
theorem qTl (n:Nat) (s:ByteArray):(qBd n (((0:Nat):Int),s)).run=some (.inr s):=by
 simp [qBd,qC,qE,qG,qH,qJ,qK,Option.bind_some,qF,qM,qN]
theorem qKG (x:Int):Ev (qDD · x) (qDa x):=by
 by_cases h:1≤x∧x≤52
 ·obtain ⟨n1,h1⟩:=qB3 x 1 52
  refine ⟨n1+10,fun n hn=>?_⟩
  obtain ⟨m,rfl,hm⟩:=up1 hn
  have h1:=h1 m (by omega)
  dsimp only at h1
  obtain ⟨u,rfl⟩:∃u:Nat,x=u:=⟨x.toNat,by omega⟩
  obtain ⟨M,hM⟩:∃M,m=M+3:=⟨m-3,by omega⟩
  have key:zC (qBd m) m ((u:Int),(⟨#[]⟩:ByteArray))=some (qDa u):=by
   rw [hM,qU (qST _ u ⟨#[]⟩ (by omega) (by decide))]
   by_cases h26:u≤26
   ·have e:(u-1)/26=0:=by omega
    have e2:65+(u-1)%26=64+u:=by omega
    rw [e,qP (qTl _ _),e2]
    congr 1
    apply qH4
    rw [qDf]
    simp [qDa,show ¬(u:Int)<1 by omega,show ¬(52:Int)<u by omega,show (u:Int)≤26 by omega]
   ·have e:(u-1)/26=1:=by omega
    have e4:(⟨#[UInt8.ofNat (65+(u-1)%26)]⟩++(⟨#[]⟩:ByteArray)).size≤100:=by rw [ByteArray.size_append];show 1+0≤100;decide
    rw [e,qU (qST _ 1 _ (by decide) e4)]
    have e3:(1-1)/26=0:=by decide
    rw [e3,qP (qTl _ _)]
    congr 1
    apply qH4
    rw [qDf,qDf]
    simp [qDa,show ¬(u:Int)<1 by omega,show ¬(52:Int)<u by omega,show ¬(u:Int)≤26 by omega]
  simp only [qDD,qE7,qC,qE,qG,qH,qJ,qK,Option.bind_some,qF,qM,qN,h1,key]
  simp [h]
 ·have hx:x<1∨x>52:=by omega
  obtain ⟨n1,h1⟩:=qB3 x 1 52
  refine ⟨n1+1,fun n hn=>?_⟩
  obtain ⟨m,rfl,hm⟩:=up1 hn
  have h1:=h1 m (by omega)
  dsimp only at h1
  simp only [qDD,qE7,qC,qE,qG,qH,qJ,qK,Option.bind_some,qF,qM,qN,h1]
  simp [h,qDa,hx]
theorem qDm (c r:Int) (fc fr:Bool):Ev (qAn · c r fc fr) (qBL c r fc fr):=by
 cases ho:qBP c r with
 |false=>
  obtain ⟨n1,h1⟩:=qC3 c r
  refine ⟨n1+1,fun n hn=>?_⟩
  obtain ⟨m,rfl,hm⟩:=up1 hn
  have h1:=h1 m (by omega)
  dsimp only at h1
  simp only [qAn,qD8,qC,qE,qG,qH,qJ,qK,Option.bind_some,qF,qM,qN,h1]
  simp [ho,qBL]
 |true=>
  have h:=qI1 ho
  have s1:=qOr c
  have s2:=qM0 h.2
  have d1:(⟨#[36]⟩:ByteArray).size=1:=rfl
  have z1:(⟨#[36]⟩:ByteArray).size+(qDa c).size≤9223372036854775807:=by omega
  have z2:((⟨#[36]⟩:ByteArray)++qDa c).size+(⟨#[36]⟩:ByteArray).size≤9223372036854775807:=by rw [ByteArray.size_append];omega
  have z3:(((⟨#[36]⟩:ByteArray)++qDa c)++(⟨#[36]⟩:ByteArray)).size+(qBK r).size≤9223372036854775807:=by rw [ByteArray.size_append,ByteArray.size_append];omega
  have z4:((⟨#[36]⟩:ByteArray)++qDa c).size+(qBK r).size≤9223372036854775807:=by rw [ByteArray.size_append];omega
  have z5:(qDa c).size+(⟨#[36]⟩:ByteArray).size≤9223372036854775807:=by omega
  have z6:(qDa c++(⟨#[36]⟩:ByteArray)).size+(qBK r).size≤9223372036854775807:=by rw [ByteArray.size_append];omega
  have z7:(qDa c).size+(qBK r).size≤9223372036854775807:=by omega
  obtain ⟨n1,h1⟩:=qC3 c r
  obtain ⟨n2,h2⟩:=qKG c
  obtain ⟨n3,h3⟩:=qF4 r (by omega)
  refine ⟨n1+n2+n3+1,fun n hn=>?_⟩
  obtain ⟨m,rfl,hm⟩:=up1 hn
  have h1:=h1 m (by omega)
  dsimp only at h1
  have h2:=h2 m (by omega)
  dsimp only at h2
  have h3:=h3 m (by omega)
  dsimp only at h3
  simp only [qAn,qD8,qC,qE,qG,qH,qJ,qK,Option.bind_some,qF,qM,qN,h1,h2,h3]
  simp only [ho,decide_eq_true z1,decide_eq_true z2,decide_eq_true z3,decide_eq_true z4,decide_eq_true z5,decide_eq_true z6,decide_eq_true z7,if_true,Bool.not_true,Bool.false_eq_true,if_false]
  cases fc<;>cases fr<;>simp only [if_true,if_false,Bool.false_eq_true,Option.some.injEq]<;>apply qH4<;>simp [qBL,ho,qDf]
theorem qCv (c r:Int) (fc fr:Bool):Ev (qAz · c r fc fr) (qBL c r fc fr):=by
 cases ho:qBP c r with
 |false=>
  obtain ⟨n1,h1⟩:=qDd c r
  refine ⟨n1+1,fun n hn=>?_⟩
  obtain ⟨m,rfl,hm⟩:=up1 hn
  have h1:=h1 m (by omega)
  dsimp only at h1
  simp only [qAz,qD9,qC,qE,qG,qH,qJ,qK,Option.bind_some,qF,qM,qN,h1]
  simp [ho,qBL]
 |true=>
  have h:=qI1 ho
  have s1:=qOr c
  have s2:=qM0 h.2
  have d1:(⟨#[36]⟩:ByteArray).size=1:=rfl
  have d0:(⟨#[]⟩:ByteArray).size=0:=rfl
  have z1:(⟨#[36]⟩:ByteArray).size+(qDa c).size≤9223372036854775807:=by omega
  have z2:((⟨#[36]⟩:ByteArray)++qDa c).size+(⟨#[36]⟩:ByteArray).size≤9223372036854775807:=by rw [ByteArray.size_append];omega
  have z3:(((⟨#[36]⟩:ByteArray)++qDa c)++(⟨#[36]⟩:ByteArray)).size+(qBK r).size≤9223372036854775807:=by rw [ByteArray.size_append,ByteArray.size_append];omega
  have z4:((⟨#[36]⟩:ByteArray)++qDa c).size+(qBK r).size≤9223372036854775807:=by rw [ByteArray.size_append];omega
  have y1:(⟨#[]⟩:ByteArray).size+(qDa c).size≤9223372036854775807:=by omega
  have y2:((⟨#[]⟩:ByteArray)++qDa c).size+(⟨#[36]⟩:ByteArray).size≤9223372036854775807:=by rw [ByteArray.size_append];omega
  have y3:(((⟨#[]⟩:ByteArray)++qDa c)++(⟨#[36]⟩:ByteArray)).size+(qBK r).size≤9223372036854775807:=by rw [ByteArray.size_append,ByteArray.size_append];omega
  have y4:((⟨#[]⟩:ByteArray)++qDa c).size+(qBK r).size≤9223372036854775807:=by rw [ByteArray.size_append];omega
  obtain ⟨n1,h1⟩:=qDd c r
  obtain ⟨n2,h2⟩:=qKF c
  obtain ⟨n3,h3⟩:=qEk r (by omega)
  refine ⟨n1+n2+n3+1,fun n hn=>?_⟩
  obtain ⟨m,rfl,hm⟩:=up1 hn
  have h1:=h1 m (by omega)
  dsimp only at h1
  have h2:=h2 m (by omega)
  dsimp only at h2
  have h3:=h3 m (by omega)
  dsimp only at h3
  simp only [qAz,qD9,qC,qE,qG,qH,qJ,qK,Option.bind_some,qF,qM,qN,h1,h2,h3]
  simp only [ho,decide_eq_true z1,decide_eq_true z2,decide_eq_true z3,decide_eq_true z4,decide_eq_true y1,decide_eq_true y2,decide_eq_true y3,decide_eq_true y4,if_true,Bool.not_true,Bool.false_eq_true,if_false]
  cases fc<;>cases fr<;>simp only [if_true,if_false,Bool.false_eq_true,Option.some.injEq]<;>apply qH4<;>simp [qBL,ho,qDf]
theorem qRG (n:Nat) (s:ByteArray):∀(r pre:List UInt8) (acc M:Nat),s.toList=pre++r→acc<10^pre.length→pre.length+r.length≤17→r.length+1≤M→
  zC (qBm n) M (s,(acc:Int),(pre.length:Int))=some (if r.all qBE=true then .inr ((qAl acc r:Nat):Int) else .inl (0,false))
 |r,pre,acc,0,h1,h2,h3,h4=>by omega
 | [],pre,acc,M+1,h1,h2,h3,h4=>by
  have hs:s.size=pre.length:=by rw [←qAZ,h1];simp
  rw [qP (r:= .inr (acc:Int)) (by simp [qBm,qC,qE,qG,qH,qJ,qK,Option.bind_some,qF,qM,qN,hs])]
  simp [qHc]
 |c::r,pre,acc,M+1,h1,h2,h3,h4=>by
  have hs:s.size=pre.length+(r.length+1):=by rw [←qAZ,h1];simp
  have hi:(pre.length:Int)<s.size:=by omega
  have hg:s.toList[pre.length]?=some c:=by rw [h1];simp
  simp only [List.length_cons] at h3 h4
  by_cases c1:(c.toNat:Int)<48
  ·rw [qP (r:= .inl (0,false)) (by simp [qBm,qC,qE,qG,qH,qJ,qK,Option.bind_some,qF,qM,qN,hi,hg,c1])]
   have:qBE c=false:=by simp [qBE];omega
   simp [this]
  ·by_cases c2:(c.toNat:Int)>57
   ·rw [qP (r:= .inl (0,false)) (by simp [qBm,qC,qE,qG,qH,qJ,qK,Option.bind_some,qF,qM,qN,hi,hg,c1,c2])]
    have:qBE c=false:=by simp [qBE];omega
    simp [this]
   ·have hc:qBE c=true:=by simp [qBE];omega
    have hp:10^pre.length≤10^16:=Nat.pow_le_pow_right (by decide) (by omega)
    have p16:(10:Nat)^16=10000000000000000:=by decide
    have w1:IntKind.i64.wrap ((acc:Int)*10)=(acc:Int)*10:=qT (by omega)
    have w2:IntKind.u8.wrap ((c.toNat:Int)-48)=((c.toNat-48:Nat):Int):=by rw [qTC (by omega)];omega
    have w3:IntKind.i64.wrap ((c.toNat-48:Nat):Int)=((c.toNat-48:Nat):Int):=qT (by omega)
    have w4:IntKind.i64.wrap ((acc:Int)*10+((c.toNat-48:Nat):Int))=((acc*10+(c.toNat-48):Nat):Int):=by rw [qT (by omega)];omega
    have w5:IntKind.i64.wrap ((pre.length:Int)+1)=(pre.length:Int)+1:=qT (by omega)
    have e0:((pre++ [c]).length:Int)=(pre.length:Int)+1:=by simp
    rw [qU (v':=(s,((acc*10+(c.toNat-48):Nat):Int),((pre++ [c]).length:Int))) (by
     rw [e0]
     simp [qBm,qC,qE,qG,qH,qJ,qK,Option.bind_some,qF,qM,qN,hi,hg,c1,c2,w1,w2,w3,w4,w5])]
    rw [qRG n s r (pre++ [c]) (acc*10+(c.toNat-48)) M (by rw [h1];simp) (by rw [List.length_append,List.length_singleton,Nat.pow_succ];omega) (by simp;omega) (by omega)]
    simp [hc,qED]
theorem qEU (s:ByteArray) (most:Int) (hm:most≤16):Ev (qz · s most) (l1I s.toList most):=by
 have hsz:s.size=s.toList.length:=(qAZ s).symm
 by_cases h0:s.toList= []
 ·have hz:s.size=0:=by rw [hsz,h0];rfl
  refine ⟨1,fun n hn=>?_⟩
  obtain ⟨m,rfl,hm⟩:=up1 hn
  simp only [qz,qE8,qC,qE,qG,qH,qJ,qK,Option.bind_some,qF,qM,qN]
  simp [hz,h0,l1I,qGj]
 ·obtain ⟨c,r,hcr⟩:∃c r,s.toList=c::r:=by
   cases hq:s.toList with
   |nil=>exact absurd hq h0
   |cons a b=>exact ⟨a,b,rfl⟩
  have hl:s.size=r.length+1:=by rw [hsz,hcr];rfl
  have z1:¬(s.size:Int)<1:=by omega
  by_cases h1:(s.size:Int)>most
  ·refine ⟨1,fun n hn=>?_⟩
   obtain ⟨m,rfl,hm⟩:=up1 hn
   simp only [qz,qE8,qC,qE,qG,qH,qJ,qK,Option.bind_some,qF,qM,qN]
   have:¬((s.toList.length:Int)≤most):=by rw [←hsz];omega
   simp [z1,h1,l1I,this]
  ·have hle:(s.toList.length:Int)≤most:=by rw [←hsz];omega
   refine ⟨30,fun n hn=>?_⟩
   obtain ⟨m,rfl,hm'⟩:=up1 hn
   have hg:s.toList[0]?=some c:=by rw [hcr];rfl
   have lp:=qRG m s s.toList [] 0 m rfl (by decide) (by simp;omega) (by omega)
   simp only [List.length_nil,Int.natCast_zero] at lp
   have c48:((c.toNat:Int)==48)=(c==48):=by
    by_cases e:c=48
    ·subst e;rfl
    ·have:¬(c.toNat:Int)=48:=fun h=>e (UInt8.toNat_inj.1 (by show c.toNat=48;omega))
     rw [beq_eq_false_iff_ne.2 this,beq_eq_false_iff_ne.2 e]
   simp only [qz,qE8,qC,qE,qG,qH,qJ,qK,Option.bind_some,qF,qM,qN,lp,Int.toNat_zero,hg,c48]
   rw [if_neg (by simpa using z1),if_neg (by simpa using h1),if_pos (by simp)]
   have ne:(s.toList== [])=false:=by simpa using h0
   have hd:s.toList.head?=some c:=by rw [hcr];rfl
   by_cases hc:c=48
   ·subst hc
    by_cases h2:(s.size:Int)>1
    ·have:¬s.toList.length=1:=by omega
     simp [h2,l1I,qGj,hd,this]
    ·have:s.toList.length=1:=by omega
     cases hall:s.toList.all qBE<;>simp [h2,l1I,qGj,hd,this,hall,ne,hle,qC,qE,qG,qH,qJ,qK,Option.bind_some,qF,qM,qN]
     ·omega
   ·have:(some c==some 48)=false:=by simpa using hc
    cases hall:s.toList.all qBE<;>simp [hc,l1I,qGj,hd,this,hall,ne,hle,qC,qE,qG,qH,qJ,qK,Option.bind_some,qF,qM,qN]
theorem qPH (s:ByteArray) (h:s.size≤281474976710656):Ev (qA6 · s 10 64) (.inl (qBz s))∨Ev (qA6 · s 10 64) (.inr (qBz s)):=by
 have key:∃r,zL s 10 64=some r:=by
  unfold zL
  rw [if_pos ⟨rfl,rfl,h⟩]
  split<;>exact ⟨_,rfl⟩
 obtain ⟨r,hr⟩:=key
 have e:Ev (qA6 · s 10 64) r:=⟨1,fun n hn=>by
  obtain ⟨m,rfl,hm⟩:=up1 hn
  exact hr⟩
 rcases r with v|v
 ·exact .inl (by unfold qBz;rw [hr];exact e)
 ·exact .inr (by unfold qBz;rw [hr];exact e)
theorem qGp (s:ByteArray) (c:UInt8):Ev (qAL · s ⟨#[c]⟩) (if s.toList.head?=some c then (⟨s.toList.tail.toArray⟩,true) else (s,false)):=by
 refine ⟨1,fun n hn=>?_⟩
 obtain ⟨m,rfl,hm⟩:=up1 hn
 show ze s ⟨#[c]⟩=_
 unfold ze Lib.trimPrefix Lib.hasPrefix
 rw [←Go.Lib.toList_data s]
 have es:(⟨s.toList.toArray⟩:ByteArray)=s:=qH4 (by rw [←Go.Lib.toList_data s])
 generalize s.toList=l at*
 cases l with
 |nil=>simp [es]
 |cons a r=>
  by_cases h:a=c
  ·subst h;simp
  ·have:¬c=a:=fun e=>h e.symm
   simp [h,this,es,List.isPrefixOf]
theorem qTH (s:ByteArray) (c:UInt8):Ev (qn · s ⟨#[c]⟩) (s.toList.head?==some c):=by
 refine ⟨2,fun n hn=>?_⟩
 obtain ⟨m,rfl,hm⟩:=up1 hn
 obtain ⟨m,rfl,hm⟩:=up1 hm
 have z:(⟨#[c]⟩:ByteArray).size=1:=rfl
 have tc:(⟨#[c]⟩:ByteArray).toList= [c]:=by rw [Go.Lib.toList_data]
 have hsz:s.size=s.toList.length:=(qAZ s).symm
 simp only [qn,qCF,qAE,qA4,qC,qE,qG,qH,qJ,qK,Option.bind_some,qF,qM,qN,z,tc]
 cases hq:s.toList with
 |nil=>
  have:s.size=0:=by rw [hsz,hq];rfl
  simp [this]
 |cons a r=>
  have h1:(1:Int)≤s.size:=by rw [hsz,hq];simp;omega
  have e:(s.extract 0 1).toList= [a]:=by
   rw [Go.Lib.toList_data,ByteArray.data_extract,Array.toList_extract]
   rw [Go.Lib.toList_data] at hq
   simp [hq]
  have h2:1≤s.size:=by omega
  simp [h1,h2,e]
theorem qTI (n:Nat) (s:ByteArray) (a b:Int) (c:ByteArray) (i:Int) (v:V3) (hi:1≤i∧i≤5) (h1:qAo n i=some (qf i)) (h2:qB2 n i=some (4,i,em)):
  (qBH n (s,i,a,b,c,v.1,v.2.1,v.2.2)).run=some (.inl (s,i+1,a,b,c,if (qf i).toList=s.toList then (4,i,em) else v)):=by
 have w1:IntKind.i64.wrap (i+1)=i+1:=qT (by omega)
 simp only [qBH,qC,qE,qG,qH,qJ,qK,Option.bind_some,qF,qM,qN,h1,h2,w1]
 rw [if_pos (decide_eq_true hi.2)]
 by_cases h:(qf i).toList=s.toList<;>simp [h]
def qM1 (s:ByteArray):Nat→Int→V3→V3
 |0,_,v=>v
 |k+1,i,v=>qM1 s k (i+1) (if (qf i).toList=s.toList then (4,i,em) else v)
theorem qVP (s:ByteArray):qM1 s 5 1 (0,0,em)=if qEu s=0 then (0,0,em) else (4,qEu s,em):=by
 have a2:(1:Int)+1=2:=by decide
 have a3:(2:Int)+1=3:=by decide
 have a4:(3:Int)+1=4:=by decide
 have a5:(4:Int)+1=5:=by decide
 simp only [qM1,qEu,a2,a3,a4,a5]
 by_cases h5:(qf 5).toList=s.toList
 ·simp [h5]
 by_cases h4:(qf 4).toList=s.toList
 ·simp [h5,h4]
 by_cases h3:(qf 3).toList=s.toList
 ·simp [h5,h4,h3]
 by_cases h2:(qf 2).toList=s.toList
 ·simp [h5,h4,h3,h2]
 by_cases h1:(qf 1).toList=s.toList<;>simp [h5,h4,h3,h2,h1]
theorem qNj (n:Nat) (s:ByteArray) (a b:Int) (c:ByteArray) (h1:∀i,0≤i∧i≤5→qAo n i=some (qf i)) (h2:∀i,1≤i∧i≤5→qB2 n i=some (4,i,em)):
  ∀(k:Nat) (i:Int) (v:V3) (M:Nat),i+k=6→1≤i→k+1≤M→zC (qBH n) M (s,i,a,b,c,v.1,v.2.1,v.2.2)=some (s,a,b,c,(qM1 s k i v).1,(qM1 s k i v).2.1,(qM1 s k i v).2.2)
 |k,i,v,0,e,h,hM=>by omega
 |0,i,v,M+1,e,h,hM=>by
  have hi:¬i≤5:=by omega
  rw [qP (r:=(s,a,b,c,v.1,v.2.1,v.2.2)) (by simp [qBH,qC,qE,qG,qH,qJ,qK,Option.bind_some,qF,qM,qN,hi])]
  rfl
 |k+1,i,v,M+1,e,h,hM=>by
  rw [qU (qTI n s a b c i v (by omega) (h1 i (by omega)) (h2 i (by omega)))]
  exact qNj n s a b c h1 h2 k (i+1) _ M (by omega) (by omega) (by omega)
theorem qSU:okV 0 0 em=true:=by simp [okV,em,qAH]
theorem qPI:qCI 0 0 em=⟨#[]⟩:=rfl
theorem qGq {R:Type} {F:Nat→Int→Option R} {f:Int→R} {lo:Int} (h0:0≤lo) (h:∀i,lo≤i∧i≤5→Ev (F · i) (f i)):∃n0,∀n,n0≤n→∀i,lo≤i∧i≤5→F n i=some (f i):=by
 obtain ⟨n0,h1⟩:=qAa (F:=fun i n=>if lo≤i∧i≤5 then F n i else some (f i)) (f:=f) [0,1,2,3,4,5] (fun i _=>by
  by_cases hi:lo≤i∧i≤5
  ·obtain ⟨n0,h1⟩:=h i hi
   exact ⟨n0,fun n hn=>by simp only [if_pos hi];exact h1 n hn⟩
  ·exact ⟨0,fun n _=>by simp only [if_neg hi]⟩)
 refine ⟨n0,fun n hn i hi=>?_⟩
 have:=h1 n hn i (by
  have c:i=0∨i=1∨i=2∨i=3∨i=4∨i=5:=by omega
  rcases c with rfl|rfl|rfl|rfl|rfl|rfl<;>simp)
 simp only [if_pos hi] at this
 exact this
theorem qH6 (s:ByteArray) (hb:s.size≤1048576):Ev (qe · s) (qi s):=by
 have te:(⟨#[]⟩:ByteArray).toList= []:=qAH
 have tF:(⟨#[70,65,76,83,69]⟩:ByteArray).toList= [70,65,76,83,69]:=by rw [Go.Lib.toList_data]
 have tT:(⟨#[84,82,85,69]⟩:ByteArray).toList= [84,82,85,69]:=by rw [Go.Lib.toList_data]
 have fin:∀k x (t:ByteArray),qBQ s=(k,x,t)→t.size≤140737488351232→∃n0,∀n,n0≤n→qAX n k x t=some (okV k x t)∧(okV k x t=true→qw n k x t=some (qCI k x t)):=fun k x t _ ht=>by
  obtain ⟨n1,h1⟩:=qGZ k x t ht
  by_cases ho:okV k x t=true
  ·obtain ⟨n2,h2⟩:=qH5 k x t ho
   exact ⟨n1+n2,fun n hn=>⟨h1 n (by omega),fun _=>h2 n (by omega)⟩⟩
  ·exact ⟨n1,fun n hn=>⟨h1 n hn,fun h=>absurd h ho⟩⟩
 have rd:∀k x (t:ByteArray),qBQ s=(k,x,t)→qi s=if okV k x t=true∧(qCI k x t).toList=s.toList then (k,x,t,true) else (0,0,⟨#[]⟩,false):=fun k x t h=>by unfold qi;rw [h]
 by_cases h39:s.toList.head?=some 39
 ·have hc:qBQ s=(2,0,⟨s.toList.tail.toArray⟩):=by unfold qBQ;rw [if_pos h39]
  have hsz:(⟨s.toList.tail.toArray⟩:ByteArray).size≤140737488351232:=by rw [qC7];simp only [List.length_tail];rw [qAZ];omega
  obtain ⟨n0,hf⟩:=fin _ _ _ hc hsz
  rw [rd _ _ _ hc]
  obtain ⟨n1,h1⟩:=qGp s 39
  refine ⟨n0+n1+1,fun n hn=>?_⟩
  obtain ⟨m,rfl,hm⟩:=up1 hn
  have h1:=h1 m (by omega)
  obtain ⟨g1,g2⟩:=hf m (by omega)
  dsimp only at h1
  simp only [qe,qBX,qC,qE,qG,qH,qJ,qK,Option.bind_some,qF,qM,qN,h1,if_pos h39,g1]
  cases ho:okV 2 0 (⟨s.toList.tail.toArray⟩:ByteArray) with
  |false=>simp
  |true=>
   simp only [g2 ho]
   by_cases e:(qCI 2 0 (⟨s.toList.tail.toArray⟩:ByteArray)).toList=s.toList<;>simp [e]
 ·have cut:=qGp s 39
  rw [if_neg h39] at cut
  by_cases hF:s.toList= [70,65,76,83,69]
  ·have hc:qBQ s=(3,0,em):=by unfold qBQ;rw [if_neg h39,if_pos hF]
   have hT:¬s.toList= [84,82,85,69]:=by rw [hF];decide
   obtain ⟨n0,hf⟩:=fin _ _ _ hc (by decide)
   rw [rd _ _ _ hc]
   obtain ⟨n1,h1⟩:=cut
   obtain ⟨n2,h2⟩:=qMJ false
   refine ⟨n0+n1+n2+1,fun n hn=>?_⟩
   obtain ⟨m,rfl,hm⟩:=up1 hn
   have h1:=h1 m (by omega)
   have h2:=h2 m (by omega)
   obtain ⟨g1,g2⟩:=hf m (by omega)
   dsimp only at h1 h2
   simp only [Bool.false_eq_true,if_false] at h2
   have bT:(s.toList== [84,82,85,69])=false:=by simpa using hT
   have bF:(s.toList== [70,65,76,83,69])=true:=by simpa using hF
   simp only [qe,qBX,qC,qE,qG,qH,qJ,qK,Option.bind_some,qF,qM,qN,h1,tF,tT,bT,bF,h2,g1]
   cases ho:okV 3 0 em with
   |false=>simp
   |true=>
    simp only [g2 ho]
    by_cases e:(qCI 3 0 em).toList=s.toList<;>simp [e]
  ·by_cases hT:s.toList= [84,82,85,69]
   ·have hc:qBQ s=(3,1,em):=by unfold qBQ;rw [if_neg h39,if_neg hF,if_pos hT]
    obtain ⟨n0,hf⟩:=fin _ _ _ hc (by decide)
    rw [rd _ _ _ hc]
    obtain ⟨n1,h1⟩:=cut
    obtain ⟨n2,h2⟩:=qMJ true
    refine ⟨n0+n1+n2+1,fun n hn=>?_⟩
    obtain ⟨m,rfl,hm⟩:=up1 hn
    have h1:=h1 m (by omega)
    have h2:=h2 m (by omega)
    obtain ⟨g1,g2⟩:=hf m (by omega)
    dsimp only at h1 h2
    simp only [if_true] at h2
    have bT:(s.toList== [84,82,85,69])=true:=by simpa using hT
    have bF:(s.toList== [70,65,76,83,69])=false:=by simpa using hF
    simp only [qe,qBX,qC,qE,qG,qH,qJ,qK,Option.bind_some,qF,qM,qN,h1,tF,tT,bT,bF,h2,g1]
    cases ho:okV 3 1 em with
    |false=>simp
    |true=>
     simp only [g2 ho]
     by_cases e:(qCI 3 1 em).toList=s.toList<;>simp [e]
   ·have bT:(s.toList== [84,82,85,69])=false:=by simpa using hT
    have bF:(s.toList== [70,65,76,83,69])=false:=by simpa using hF
    have pre:=qTH s 35
    by_cases h35:s.toList.head?=some 35
    ·have hc:qBQ s=(if qEu s=0 then (0,0,em) else (4,qEu s,em)):=by unfold qBQ;rw [if_neg h39,if_neg hF,if_neg hT,if_pos h35]
     have main:∀k x (t:ByteArray),qBQ s=(k,x,t)→qM1 s 5 1 (0,0,em)=(k,x,t)→t.size≤140737488351232→Ev (qe · s) (qi s):=fun k x t hc hu ht=>by
      obtain ⟨n0,hf⟩:=fin _ _ _ hc ht
      rw [rd _ _ _ hc]
      obtain ⟨n1,h1⟩:=cut
      obtain ⟨n2,h2⟩:=pre
      obtain ⟨n3,h3⟩:=qGq (F:=qAo) (f:=qf) (lo:=0) (by decide) qFU
      obtain ⟨n4,h4⟩:=qGq (F:=qB2) (f:=fun i=>(4,i,em)) (lo:=1) (by decide) (fun i _=>qMI i)
      refine ⟨n0+n1+n2+n3+n4+10,fun n hn=>?_⟩
      obtain ⟨m,rfl,hm⟩:=up1 hn
      have h1:=h1 m (by omega)
      have h2:=h2 m (by omega)
      have lp:=qNj m s 0 0 ⟨#[]⟩ (h3 m (by omega)) (h4 m (by omega)) 5 1 (0,0,em) m (by decide) (by decide) (by omega)
      rw [hu] at lp
      obtain ⟨g1,g2⟩:=hf m (by omega)
      dsimp only [em] at h1 h2 lp g1 g2
      have b35:(s.toList.head?==some 35)=true:=by simpa using h35
      simp only [qe,qBX,qC,qE,qG,qH,qJ,qK,Option.bind_some,qF,qM,qN,h1,tF,tT,bT,bF,h2,b35,lp,g1]
      cases ho:okV k x t with
      |false=>simp
      |true=>
       simp only [g2 ho]
       by_cases e:(qCI k x t).toList=s.toList<;>simp [e]
     by_cases hz:qEu s=0
     ·rw [if_pos hz] at hc
      exact main _ _ _ hc (by rw [qVP,if_pos hz]) (show (0:Nat)≤140737488351232 by decide)
     ·rw [if_neg hz] at hc
      exact main _ _ _ hc (by rw [qVP,if_neg hz]) (show (0:Nat)≤140737488351232 by decide)
    ·have b35:(s.toList.head?==some 35)=false:=by simpa using h35
     by_cases h0:s.toList= []
     ·have hc:qBQ s=(0,0,em):=by unfold qBQ;rw [if_neg h39,if_neg hF,if_neg hT,if_neg h35,if_pos h0]
      obtain ⟨n0,hf⟩:=fin _ _ _ hc (by decide)
      rw [rd _ _ _ hc]
      obtain ⟨n1,h1⟩:=cut
      obtain ⟨n2,h2⟩:=pre
      refine ⟨n0+n1+n2+1,fun n hn=>?_⟩
      obtain ⟨m,rfl,hm⟩:=up1 hn
      have h1:=h1 m (by omega)
      have h2:=h2 m (by omega)
      obtain ⟨g1,g2⟩:=hf m (by omega)
      dsimp only [em] at h1 h2 g1 g2
      have b0:(!(s.toList== []))=false:=by simpa using h0
      simp only [qe,qBX,qC,qE,qG,qH,qJ,qK,Option.bind_some,qF,qM,qN,h1,tF,tT,bT,bF,h2,b35,te,b0,g1]
      have ho:=qSU
      dsimp only [em] at ho
      simp only [g2 ho,ho]
      by_cases e:(qCI 0 0 (⟨#[]⟩:ByteArray)).toList=s.toList<;>simp [em,ho,e]
     ·have hc:qBQ s=(1,qBz s,em):=by unfold qBQ;rw [if_neg h39,if_neg hF,if_neg hT,if_neg h35,if_neg h0]
      obtain ⟨n0,hf⟩:=fin _ _ _ hc (by decide)
      rw [rd _ _ _ hc]
      obtain ⟨n1,h1⟩:=cut
      obtain ⟨n2,h2⟩:=pre
      obtain ⟨n4,h4⟩:=qLG (qBz s)
      have b0:(!(s.toList== []))=true:=by simpa using h0
      rcases qPH s (by omega) with ⟨n3,h3⟩|⟨n3,h3⟩
      all_goals
       refine ⟨n0+n1+n2+n3+n4+1,fun n hn=>?_⟩
       obtain ⟨m,rfl,hm⟩:=up1 hn
       have h1:=h1 m (by omega)
       have h2:=h2 m (by omega)
       have h3:=h3 m (by omega)
       have h4:=h4 m (by omega)
       obtain ⟨g1,g2⟩:=hf m (by omega)
       dsimp only at h1 h2 h3 h4
       simp only [qe,qBX,qC,qE,qG,qH,qJ,qK,Option.bind_some,qF,qM,qN,h1,tF,tT,bT,bF,h2,b35,te,b0,h3,h4,g1]
       cases ho:okV 1 (qBz s) em with
       |false=>simp
       |true=>
        simp only [g2 ho]
        by_cases e:(qCI 1 (qBz s) em).toList=s.toList<;>simp [e]
theorem qNk (n:Nat) (s:ByteArray) (a b:Int) (c:ByteArray) (h1:∀i,0≤i∧i≤5→qBa n i=some (qf i)):
  ∀(k:Nat) (i x:Int) (M:Nat),i+k=6→1≤i→k+1≤M→(qM1 s k i (4,x,em)).1=4∧(qM1 s k i (4,x,em)).2.2=em∧zC (qBe n) M (s,i,a,b,c,4,x,⟨#[]⟩)=some (a,b,c,4,(qM1 s k i (4,x,em)).2.1,⟨#[]⟩)
 |k,i,x,0,e,h,hM=>by omega
 |0,i,x,M+1,e,h,hM=>by
  have hi:¬i≤5:=by omega
  refine ⟨rfl,rfl,?_⟩
  rw [qP (r:=(a,b,c,4,x,⟨#[]⟩)) (by simp [qBe,qC,qE,qG,qH,qJ,qK,Option.bind_some,qF,qM,qN,hi])]
  rfl
 |k+1,i,x,M+1,e,h,hM=>by
  have hi:i≤5:=by omega
  have g:=h1 i (by omega)
  have w1:IntKind.i64.wrap (i+1)=i+1:=qT (by omega)
  have hu:qM1 s (k+1) i (4,x,em)=qM1 s k (i+1) (4,if (qf i).toList=s.toList then i else x,em):=by
   simp only [qM1]
   split<;>rfl
  rw [hu,qU (v':=(s,i+1,a,b,c,4,(if (qf i).toList=s.toList then i else x),⟨#[]⟩)) (by
   simp only [qBe,qC,qE,qG,qH,qJ,qK,Option.bind_some,qF,qM,qN,g,w1]
   rw [if_pos (decide_eq_true hi)]
   by_cases hq:(qf i).toList=s.toList<;>simp [hq])]
  exact qNk n s a b c h1 k (i+1) _ M (by omega) (by omega) (by omega)
theorem qV9 (s:ByteArray):qM1 s 5 1 (4,0,em)=(4,qEu s,em):=by
 have a2:(1:Int)+1=2:=by decide
 have a3:(2:Int)+1=3:=by decide
 have a4:(3:Int)+1=4:=by decide
 have a5:(4:Int)+1=5:=by decide
 simp only [qM1,qEu,a2,a3,a4,a5]
 by_cases h5:(qf 5).toList=s.toList
 ·simp [h5]
 by_cases h4:(qf 4).toList=s.toList
 ·simp [h5,h4]
 by_cases h3:(qf 3).toList=s.toList
 ·simp [h5,h4,h3]
 by_cases h2:(qf 2).toList=s.toList
 ·simp [h5,h4,h3,h2]
 by_cases h1:(qf 1).toList=s.toList<;>simp [h5,h4,h3,h2,h1]
theorem qW5 (s:ByteArray):(s.extract (1:Int).toNat ((s.size:Int)).toNat).toList=s.toList.tail:=by
 have e1:(1:Int).toNat=1:=rfl
 rw [Int.toNat_natCast,e1,Go.Lib.toList_data,ByteArray.data_extract,Array.toList_extract,Go.Lib.toList_data]
 have hl:s.data.toList.length=s.size:=by rw [←qC7]
 show (s.data.toList.drop 1).take (s.size-1)=s.data.toList.tail
 rw [List.take_of_length_le (by rw [List.length_drop,hl];exact Nat.le_refl _),List.drop_one]
theorem qVQ {s:ByteArray} {c:UInt8} {r:List UInt8} (h:s.toList=c::r):s.toList[((0:Int)).toNat]?=some c:=by rw [h];rfl
theorem qUh {x:Int}:okV 1 x em=decide (-1000000000000000≤x∧x≤1000000000000000):=by
 simp [okV,em,qAH]
theorem qU6 {s:ByteArray} (h39:¬s.toList.head?=some 39) (hF:¬s.toList= [70,65,76,83,69]) (hT:¬s.toList= [84,82,85,69]) (h35:¬s.toList.head?=some 35) (h0:¬s.toList= []):
  qi s=match qTF s.toList with
   |some x=>if okV 1 x em=true then (1,x,em,true) else (0,0,⟨#[]⟩,false)
   |none=>(0,0,⟨#[]⟩,false):=by
 have hc:qBQ s=(1,qBz s,em):=by unfold qBQ;rw [if_neg h39,if_neg hF,if_neg hT,if_neg h35,if_neg h0]
 have rd:qi s=if okV 1 (qBz s) em=true∧(qCI 1 (qBz s) em).toList=s.toList then (1,qBz s,em,true) else (0,0,⟨#[]⟩,false):=by unfold qi;rw [hc]
 have tx:∀x,(qCI 1 x em).toList=Lib.itoa x:=fun x=>by
  rw [Go.Lib.toList_data];simp [qCI,qBK]
 have back:okV 1 (qBz s) em=true∧(qCI 1 (qBz s) em).toList=s.toList→qTF s.toList=some (qBz s):=fun ⟨a,b⟩=>by
  rw [tx] at b
  rw [qUh] at a
  rw [←b]
  exact qU5 (by simpa using a)
 rw [rd]
 cases hn:qTF s.toList with
 |none=>
  rw [if_neg (fun h=>by rw [back h] at hn;cases hn)]
 |some x=>
  by_cases hx:okV 1 x em=true
  ·have hi:=qU4 hn
   have hr: -1000000000000000≤x∧x≤1000000000000000:=by rw [qUh] at hx;simpa using hx
   have hp:=qPG hi hr
   dsimp only
   rw [hp,if_pos ⟨hx,by rw [tx,hi]⟩,if_pos hx]
  ·dsimp only
   rw [if_neg hx,if_neg (fun h=>by
    have:=back h
    rw [hn] at this
    cases this
    exact hx h.1)]
theorem qU7 (s:ByteArray) {c:UInt8} {r:List UInt8} (hcr:s.toList=c::r):qTF s.toList=if c=45 then (if (l1I s.toList.tail 16).2=true∧(l1I s.toList.tail 16).1≠0 then some (-(l1I s.toList.tail 16).1) else none) else (if (l1I s.toList 16).2=true then some (l1I s.toList 16).1 else none):=by
 unfold qTF
 rw [hcr]
 simp only [List.head?_cons,Option.some.injEq,List.drop_one]
theorem qH7 (s:ByteArray) (hb:s.size≤1048576):Ev (qAM · s) (qi s):=by
 have te:(⟨#[]⟩:ByteArray).toList= []:=qAH
 have tF:(⟨#[70,65,76,83,69]⟩:ByteArray).toList= [70,65,76,83,69]:=by rw [Go.Lib.toList_data]
 have tT:(⟨#[84,82,85,69]⟩:ByteArray).toList= [84,82,85,69]:=by rw [Go.Lib.toList_data]
 have hsz:s.size=s.toList.length:=(qAZ s).symm
 by_cases h0:s.toList= []
 ·have hv:qi s=(0,0,⟨#[]⟩,true):=by
   have hc:qBQ s=(0,0,em):=by unfold qBQ;rw [h0];simp
   unfold qi
   rw [hc,if_pos ⟨qSU,by rw [qPI,h0];exact te⟩]
   rfl
  rw [hv]
  refine ⟨1,fun n hn=>?_⟩
  obtain ⟨m,rfl,hm⟩:=up1 hn
  simp only [qAM,qBA,qC,qE,qG,qH,qJ,qK,Option.bind_some,qF,qM,qN]
  simp [h0,te]
 ·obtain ⟨c,r,hcr⟩:∃c r,s.toList=c::r:=by
   cases hq:s.toList with
   |nil=>exact absurd hq h0
   |cons a b=>exact ⟨a,b,rfl⟩
  have hg:=qVQ hcr
  have hd:s.toList.head?=some c:=by rw [hcr];rfl
  have b0:(s.toList== [])=false:=by simpa using h0
  have s1:(1:Int)≤(s.size:Int):=by rw [hsz,hcr];simp;omega
  have k39:=qV8 c 39 (by decide)
  have k35:=qV8 c 35 (by decide)
  have k45:=qV8 c 45 (by decide)
  have u39:UInt8.ofNat 39=39:=rfl
  have u35:UInt8.ofNat 35=35:=rfl
  have u45:UInt8.ofNat 45=45:=rfl
  rw [u39] at k39
  rw [u35] at k35
  rw [u45] at k45
  have q39:((39:Nat):Int)=39:=rfl
  have q35:((35:Nat):Int)=35:=rfl
  have q45:((45:Nat):Int)=45:=rfl
  rw [q39] at k39
  rw [q35] at k35
  rw [q45] at k45
  by_cases h39:c=39
  ·have hx:(⟨s.toList.tail.toArray⟩:ByteArray)=s.extract (1:Int).toNat ((s.size:Int)).toNat:=qFT (by rw [qW5];rw [Go.Lib.toList_data])
   have hc:qBQ s=(2,0,s.extract (1:Int).toNat ((s.size:Int)).toNat):=by unfold qBQ;rw [if_pos (by rw [hd,h39]),hx]
   have hz:(s.extract (1:Int).toNat ((s.size:Int)).toNat).size≤140737488351232:=by rw [←hx,qC7];simp only [List.length_tail];rw [qAZ];omega
   have hvt:(qCI 2 0 (s.extract (1:Int).toNat ((s.size:Int)).toNat)).toList=s.toList:=by
    rw [←hx,Go.Lib.toList_data]
    show ((⟨#[39]⟩:ByteArray)++_).data.toList=_
    rw [qDf,hcr,h39]
    rfl
   have hv:qi s=if okV 2 0 (s.extract (1:Int).toNat ((s.size:Int)).toNat)=true then (2,0,s.extract (1:Int).toNat ((s.size:Int)).toNat,true) else (0,0,⟨#[]⟩,false):=by
    unfold qi
    rw [hc]
    simp only [hvt,and_true]
   rw [hv]
   have e39:(some c==some 39)=true:=by rw [h39];rfl
   obtain ⟨n1,h1⟩:=qAI 2 0 (s.extract (1:Int).toNat ((s.size:Int)).toNat) hz
   refine ⟨n1+1,fun n hn=>?_⟩
   obtain ⟨m,rfl,hm⟩:=up1 hn
   have h1:=h1 m (by omega)
   dsimp only at h1
   simp only [qAM,qBA,qC,qE,qG,qH,qJ,qK,Option.bind_some,qF,qM,qN,h1]
   simp only [qC,qE,qG,qH,qJ,qK,Option.bind_some,qF,qM,qN,te,b0,hg,k39,e39]
   cases ho:okV 2 0 (s.extract (1:Int).toNat ((s.size:Int)).toNat)<;>simp [s1]
  ·have n39:¬s.toList.head?=some 39:=by rw [hd];simpa using h39
   have e39:(some c==some 39)=false:=by simpa using h39
   by_cases hT:s.toList= [84,82,85,69]
   ·have hF:¬s.toList= [70,65,76,83,69]:=by rw [hT];decide
    have hc:qBQ s=(3,1,em):=by unfold qBQ;rw [if_neg n39,if_neg hF,if_pos hT]
    have ho:okV 3 1 em=true:=by simp [okV,em,qAH]
    have hv:qi s=(3,1,⟨#[]⟩,true):=by
     unfold qi
     rw [hc,if_pos ⟨ho,by rw [hT];exact tT⟩]
     rfl
    rw [hv]
    have bT:(s.toList== [84,82,85,69])=true:=by simpa using hT
    obtain ⟨n1,h1⟩:=qAI 3 1 ⟨#[]⟩ (by decide)
    refine ⟨n1+1,fun n hn=>?_⟩
    obtain ⟨m,rfl,hm⟩:=up1 hn
    have h1:=h1 m (by omega)
    dsimp only at h1
    simp only [qAM,qBA,qC,qE,qG,qH,qJ,qK,Option.bind_some,qF,qM,qN,h1]
    dsimp only [em] at ho
    simp only [qC,qE,qG,qH,qJ,qK,Option.bind_some,qF,qM,qN,te,b0,hg,k39,e39,tT,bT,ho]
    simp
   ·have bT:(s.toList== [84,82,85,69])=false:=by simpa using hT
    by_cases hF:s.toList= [70,65,76,83,69]
    ·have hc:qBQ s=(3,0,em):=by unfold qBQ;rw [if_neg n39,if_pos hF]
     have ho:okV 3 0 em=true:=by simp [okV,em,qAH]
     have hv:qi s=(3,0,⟨#[]⟩,true):=by
      unfold qi
      rw [hc,if_pos ⟨ho,by rw [hF];exact tF⟩]
      rfl
     rw [hv]
     have bF:(s.toList== [70,65,76,83,69])=true:=by simpa using hF
     obtain ⟨n1,h1⟩:=qAI 3 0 ⟨#[]⟩ (by decide)
     refine ⟨n1+1,fun n hn=>?_⟩
     obtain ⟨m,rfl,hm⟩:=up1 hn
     have h1:=h1 m (by omega)
     dsimp only at h1
     simp only [qAM,qBA,qC,qE,qG,qH,qJ,qK,Option.bind_some,qF,qM,qN,h1]
     dsimp only [em] at ho
     simp only [qC,qE,qG,qH,qJ,qK,Option.bind_some,qF,qM,qN,te,b0,hg,k39,e39,tT,bT,tF,bF,ho]
     simp
    ·have bF:(s.toList== [70,65,76,83,69])=false:=by simpa using hF
     by_cases h35:c=35
     ·have n35:s.toList.head?=some 35:=by rw [hd,h35]
      have e35:(some c==some 35)=true:=by rw [h35];rfl
      have hc:qBQ s=(if qEu s=0 then (0,0,em) else (4,qEu s,em)):=by unfold qBQ;rw [if_neg n39,if_neg hF,if_neg hT,if_pos n35]
      have hin:=qV6 s
      have ho:okV 4 (qEu s) (⟨#[]⟩:ByteArray)=!(qEu s==0):=by
       by_cases hz:qEu s=0
       ·simp [okV,qAH,hz]
       ·have hr:1≤qEu s∧qEu s≤5:=by omega
        simp [okV,qAH,hr,hz]
      have hv:qi s=if qEu s=0 then (0,0,⟨#[]⟩,false) else (4,qEu s,⟨#[]⟩,true):=by
       unfold qi
       rw [hc]
       by_cases hz:qEu s=0
       ·simp only [if_pos hz]
        rw [if_neg (fun h=>h0 (by rw [←h.2,qPI];exact te))]
       ·simp only [if_neg hz]
        have ho':okV 4 (qEu s) em=true:=by show okV 4 (qEu s) ⟨#[]⟩=true;rw [ho];simpa using hz
        rw [if_pos ⟨ho',by show (qf (qEu s)).toList=s.toList;rw [qV7 hz]⟩]
        rfl
      rw [hv]
      obtain ⟨n1,h1⟩:=qAI 4 (qEu s) ⟨#[]⟩ (by decide)
      obtain ⟨n3,h3⟩:=qGq (F:=qBa) (f:=qf) (lo:=0) (by decide) qHd
      refine ⟨n1+n3+10,fun n hn=>?_⟩
      obtain ⟨m,rfl,hm⟩:=up1 hn
      have h1:=h1 m (by omega)
      dsimp only at h1
      obtain ⟨_,_,lp⟩:=qNk m s 0 0 ⟨#[]⟩ (h3 m (by omega)) 5 1 0 m (by decide) (by decide) (by omega)
      rw [qV9] at lp
      simp only [qAM,qBA,qC,qE,qG,qH,qJ,qK,Option.bind_some,qF,qM,qN,te,b0,hg,k39,e39,tT,bT,tF,bF,k35,e35,lp,h1,ho]
      by_cases hz:qEu s=0<;>simp [hz]
     ·have n35:¬s.toList.head?=some 35:=by rw [hd];simpa using h35
      have e35:(some c==some 35)=false:=by simpa using h35
      rw [qU6 n39 hF hT n35 h0,qU7 s hcr]
      dsimp only [em]
      by_cases h45:c=45
      ·have e45:(some c==some 45)=true:=by rw [h45];rfl
       have g16:∀{q:List UInt8},(l1I q 16).2=true→(0≤(l1I q 16).1∧(l1I q 16).1≤10000000000000000):=fun {q} hq=>by
        have p16:(10:Nat)^16=10000000000000000:=by decide
        obtain ⟨a1,a2,a3,a4⟩:=qRD hq
        rw [a3]
        simp only [qGj,Bool.and_eq_true] at a2
        have:=qTE q 0 0 a2.1.2 (by decide)
        have h2:(10:Nat)^(0+q.length)≤10^16:=Nat.pow_le_pow_right (by decide) (by omega)
        omega
       have hl:=qEU (s.extract (1:Int).toNat ((s.size:Int)).toNat) 16 (by decide)
       rw [qW5] at hl
       have hrange:= @g16 s.toList.tail
       generalize l1I s.toList.tail 16=q at*
       obtain ⟨x,ok⟩:=q
       have w1:ok=true→IntKind.i64.wrap (0-x)= -x:=fun h=>by
        have:=hrange h
        dsimp only at this
        rw [Int.zero_sub];exact qT (by omega)
       obtain ⟨n1,h1⟩:=hl
       obtain ⟨n2,h2⟩:=qAI 1 (-x) ⟨#[]⟩ (by decide)
       refine ⟨n1+n2+1,fun n hn=>?_⟩
       obtain ⟨m,rfl,hm⟩:=up1 hn
       have h1:=h1 m (by omega)
       dsimp only at h1
       have h2:=h2 m (by omega)
       dsimp only at h2
       simp only [qAM,qBA,qC,qE,qG,qH,qJ,qK,Option.bind_some,qF,qM,qN,h1,h2]
       simp only [qC,qE,qG,qH,qJ,qK,Option.bind_some,qF,qM,qN,te,b0,hg,k39,e39,tT,bT,tF,bF,k35,e35,k45,e45,h45,if_true]
       cases ok with
       |false=>simp [s1]
       |true=>
        simp only [qC,qE,qG,qH,qJ,qK,Option.bind_some,qF,qM,qN,w1 rfl,h2]
        by_cases hx:x=0
        ·simp [s1,hx]
        ·cases ho:okV 1 (-x) (⟨#[]⟩:ByteArray)<;>simp [s1,hx,ho]
      ·have e45:(some c==some 45)=false:=by simpa using h45
       have hl:=qEU s 16 (by decide)
       generalize l1I s.toList 16=q at*
       obtain ⟨x,ok⟩:=q
       obtain ⟨n1,h1⟩:=hl
       obtain ⟨n2,h2⟩:=qAI 1 x ⟨#[]⟩ (by decide)
       refine ⟨n1+n2+1,fun n hn=>?_⟩
       obtain ⟨m,rfl,hm⟩:=up1 hn
       have h1:=h1 m (by omega)
       dsimp only at h1
       have h2:=h2 m (by omega)
       dsimp only at h2
       simp only [qAM,qBA,qC,qE,qG,qH,qJ,qK,Option.bind_some,qF,qM,qN,h1,h2]
       simp only [qC,qE,qG,qH,qJ,qK,Option.bind_some,qF,qM,qN,te,b0,hg,k39,e39,tT,bT,tF,bF,k35,e35,k45,e45,if_neg h45]
       cases ok with
       |false=>simp
       |true=>cases ho:okV 1 x (⟨#[]⟩:ByteArray)<;>simp [ho]
def rcK (s:ByteArray):Nat→Int→Int
 |0,_=>0
 |k+1,i=>if (qDa i).toList=s.toList then i else rcK s k (i+1)
def qFr (s:ByteArray):Int:=rcK s 52 1
theorem qVR (s:ByteArray):∀(k:Nat) (i:Int),1≤rcK s k i→(qDa (rcK s k i)).toList=s.toList
 |0,i,h=>by simp [rcK] at h
 |k+1,i,h=>by
  simp only [rcK] at h⊢
  by_cases e:(qDa i).toList=s.toList
  ·rw [if_pos e];exact e
  ·rw [if_neg e] at h⊢;exact qVR s k (i+1) h
def qI3 (c:UInt8):Bool:=decide (65≤c.toNat)&&decide (c.toNat≤90)
def qW (l:List UInt8):List UInt8:=if l.head?=some 36 then l.tail else l
def qQ (l:List UInt8):List UInt8:=l.takeWhile qI3
def qk (l:List UInt8):List UInt8:=l.dropWhile qI3
def qA9 (s:ByteArray):Int×Int×Bool×Bool×Bool:=
 if (l1I (qW (qk (qW s.toList))) 2).2=true∧qBP (qFr ⟨(qQ (qW s.toList)).toArray⟩) (l1I (qW (qk (qW s.toList))) 2).1=true then
  (qFr ⟨(qQ (qW s.toList)).toArray⟩,(l1I (qW (qk (qW s.toList))) 2).1,s.toList.head?==some 36,(qk (qW s.toList)).head?==some 36,true) else (0,0,false,false,false)
theorem qM2 {R:Type} {B:ByteArray×Int→Tr ((ByteArray×Int)⊕(Int⊕Unit))} {s:ByteArray} (hs:∀i:Int,1≤i∧i≤52→(B (s,i)).run=some (if (qDa i).toList=s.toList then .inr (.inl i) else .inl (s,i+1))) (he:(B (s,53)).run=some (.inr (.inr ()))):
  ∀(k:Nat) (i:Int) (M:Nat),1≤i→i+k=53→k+1≤M→zC B M (s,i)=some (if rcK s k i=0 then .inr () else .inl (rcK s k i))
 |k,i,0,h1,h2,h3=>by omega
 |0,i,M+1,h1,h2,h3=>by
  have:i=53:=by omega
  subst this
  rw [qP he]
  rfl
 |k+1,i,M+1,h1,h2,h3=>by
  have h:=hs i ⟨h1,by omega⟩
  by_cases e:(qDa i).toList=s.toList
  ·rw [if_pos e] at h
   rw [qP h]
   simp only [rcK,if_pos e]
   rw [if_neg (by omega)]
  ·rw [if_neg e] at h
   rw [qU h]
   simp only [rcK,if_neg e]
   exact qM2 (R:=R) hs he k (i+1) M (by omega) (by omega) (by omega)
theorem qUi {F:Nat→Int→Option ByteArray} (h:∀i,Ev (F · i) (qDa i)):∃n0,∀n,n0≤n→∀i,1≤i∧i≤52→F n i=some (qDa i):=by
 obtain ⟨n0,h1⟩:=qAa (F:=fun (i:Nat) n=>F n (i:Int)) (f:=fun i=>qDa (i:Int)) (List.range 53) (fun i _=>h i)
 refine ⟨n0,fun n hn i hi=>?_⟩
 have:=h1 n hn i.toNat (by rw [List.mem_range];omega)
 rwa [Int.toNat_of_nonneg (by omega)] at this
theorem qP9 (s:ByteArray):Ev (qCR · s) (qFr s):=by
 obtain ⟨n0,h⟩:=qUi qKG
 refine ⟨n0+60,fun n hn=>?_⟩
 obtain ⟨m,rfl,hm⟩:=up1 hn
 have hc:=h m (by omega)
 have lp:=qM2 (R:=Unit) (B:=qCj m) (s:=s) (fun i hi=>by
  have g:=hc i hi
  have w1:IntKind.i64.wrap (i+1)=i+1:=qT (by omega)
  simp only [qCj,qC,qE,qG,qH,qJ,qK,Option.bind_some,qF,qM,qN,g,w1]
  rw [if_pos (decide_eq_true hi.2)]
  by_cases e:(qDa i).toList=s.toList<;>simp [e]) (by simp [qCj,qC,qE,qG,qH,qJ,qK,Option.bind_some,qF,qM,qN]) 52 1 m (by decide) (by decide) (by omega)
 simp only [qCR,qG4,qC,qE,qG,qH,qJ,qK,Option.bind_some,qF,qM,qN,lp]
 show _=some (rcK s 52 1)
 by_cases e:rcK s 52 1=0
 ·rw [if_pos e,e];rfl
 ·rw [if_neg e];rfl
theorem qQA (s:ByteArray):Ev (qFM · s) (qFr s):=by
 obtain ⟨n0,h⟩:=qUi qKF
 refine ⟨n0+60,fun n hn=>?_⟩
 obtain ⟨m,rfl,hm⟩:=up1 hn
 have hc:=h m (by omega)
 have lp:=qM2 (R:=Unit) (B:=qCp m) (s:=s) (fun i hi=>by
  have g:=hc i hi
  have w1:IntKind.i64.wrap (i+1)=i+1:=qT (by omega)
  simp only [qCp,qC,qE,qG,qH,qJ,qK,Option.bind_some,qF,qM,qN,g,w1]
  rw [if_pos (decide_eq_true hi.2)]
  by_cases e:(qDa i).toList=s.toList<;>simp [e]) (by simp [qCp,qC,qE,qG,qH,qJ,qK,Option.bind_some,qF,qM,qN]) 52 1 m (by decide) (by decide) (by omega)
 simp only [qFM,qHO,qC,qE,qG,qH,qJ,qK,Option.bind_some,qF,qM,qN,lp]
 show _=some (rcK s 52 1)
 by_cases e:rcK s 52 1=0
 ·rw [if_pos e,e];rfl
 ·rw [if_neg e];rfl
theorem qB8 (b:ByteArray):b.size=b.toList.length:=(qAZ b).symm
theorem qTm (b:ByteArray) (k:Nat):(b.extract 0 k).toList=b.toList.take k:=by
 rw [Go.Lib.toList_data,ByteArray.data_extract,Array.toList_extract,Go.Lib.toList_data]
 show (b.data.toList.drop 0).take (k-0)=_
 simp
theorem qGF (b:ByteArray) (k:Nat):(b.extract k b.size).toList=b.toList.drop k:=by
 rw [Go.Lib.toList_data,ByteArray.data_extract,Array.toList_extract,Go.Lib.toList_data]
 have hl:b.data.toList.length=b.size:=by rw [←qC7]
 show (b.data.toList.drop k).take (b.size-k)=_
 rw [List.take_of_length_le (by rw [List.length_drop,hl];exact Nat.le_refl _)]
theorem qNl (l:List UInt8):l.take (qQ l).length=qQ l:=by
 have h:=List.takeWhile_append_dropWhile (p:=qI3) (l:=l)
 have h2:(List.takeWhile qI3 l++List.dropWhile qI3 l).take (List.takeWhile qI3 l).length=List.takeWhile qI3 l:=List.take_left ..
 rw [h] at h2
 exact h2
theorem qJk (l:List UInt8):l.drop (qQ l).length=qk l:=by
 have h:=List.takeWhile_append_dropWhile (p:=qI3) (l:=l)
 have h2:(List.takeWhile qI3 l++List.dropWhile qI3 l).drop (List.takeWhile qI3 l).length=List.dropWhile qI3 l:=List.drop_left ..
 rw [h] at h2
 exact h2
theorem qPJ (l:List UInt8):(qQ l).length≤l.length:=by
 have h:=congrArg List.length (List.takeWhile_append_dropWhile (p:=qI3) (l:=l))
 rw [List.length_append] at h
 unfold qQ
 omega
theorem qNm (n:Nat) (b:ByteArray) (fc:Bool) (hb:b.size≤1048576):∀(r pre:List UInt8) (M:Nat),b.toList=pre++r→r.length+1≤M→
  zC (qAT n) M (b,(pre.length:Int),0,0,false,false,0,0,fc,false)=some (b,((pre.length+(qQ r).length:Nat):Int),0,0,false,false,0,0,fc,false)
 |r,pre,0,h1,h2=>by omega
 | [],pre,M+1,h1,h2=>by
  have hi:¬(pre.length:Int)<b.size:=by rw [qB8,h1];simp
  rw [qP (r:=(b,(pre.length:Int),0,0,false,false,0,0,fc,false)) (by simp [qAT,qC,qE,qG,qH,qJ,qK,Option.bind_some,qF,qM,qN,hi])]
  simp [qQ]
 |c::r,pre,M+1,h1,h2=>by
  have hl:b.size=pre.length+(r.length+1):=by rw [qB8,h1];simp
  have hi:(pre.length:Int)<b.size:=by omega
  have hg:b.toList[pre.length]?=some c:=by rw [h1];simp
  have w1:IntKind.i64.wrap ((pre.length:Int)+1)=(pre.length:Int)+1:=qT (by omega)
  by_cases hc:qI3 c=true
  ·have hc':65≤c.toNat∧c.toNat≤90:=by simpa [qI3] using hc
   have c1:(c.toNat:Int)≥65:=by omega
   have c2:(c.toNat:Int)≤90:=by omega
   have e0:((pre++ [c]).length:Int)=(pre.length:Int)+1:=by simp
   rw [qU (v':=(b,((pre++ [c]).length:Int),0,0,false,false,0,0,fc,false)) (by
    rw [e0]
    simp [qAT,qC,qE,qG,qH,qJ,qK,Option.bind_some,qF,qM,qN,hi,hg,c1,c2,w1])]
   rw [qNm n b fc hb r (pre++ [c]) M (by rw [h1];simp) (by simp at h2;omega)]
   simp [qQ,hc]
   omega
  ·rw [qP (r:=(b,(pre.length:Int),0,0,false,false,0,0,fc,false)) (by
    by_cases c1:(c.toNat:Int)≥65
    ·have c2:¬(c.toNat:Int)≤90:=fun h=>hc (by simp [qI3];omega)
     simp [qAT,qC,qE,qG,qH,qJ,qK,Option.bind_some,qF,qM,qN,hi,hg,c1,c2]
    ·simp [qAT,qC,qE,qG,qH,qJ,qK,Option.bind_some,qF,qM,qN,hi,hg,c1])]
   simp [qQ,hc]
theorem qNn (s:ByteArray) (hb:s.size≤1048576):Ev (qAw · s) (qA9 s):=by
 have main:∀(b:ByteArray) (fc:Bool),b.size≤1048576→b.toList=qW s.toList→fc=(s.toList.head?==some 36)→
   ∃n0,∀m,n0≤m→zC (qAT m) m (b,0,0,0,false,false,0,0,fc,false)=some (b,((qQ (qW s.toList)).length:Int),0,0,false,false,0,0,fc,false)∧
    qCR m (b.extract 0 (qQ (qW s.toList)).length)=some (qFr ⟨(qQ (qW s.toList)).toArray⟩)∧
    qz m (b.extract (qQ (qW s.toList)).length b.size) 2=some (l1I (qk (qW s.toList)) 2)∧
    qz m ((b.extract (qQ (qW s.toList)).length b.size).extract 1 (b.extract (qQ (qW s.toList)).length b.size).size) 2=some (l1I (qk (qW s.toList)).tail 2):=fun b fc hb hl _=>by
  have x1:b.extract 0 (qQ (qW s.toList)).length=⟨(qQ (qW s.toList)).toArray⟩:=qFT (by rw [qTm,hl,qNl,qCA (qQ (qW s.toList))])
  have x2:(b.extract (qQ (qW s.toList)).length b.size).toList=qk (qW s.toList):=by rw [qGF,hl,qJk]
  have x3:((b.extract (qQ (qW s.toList)).length b.size).extract 1 (b.extract (qQ (qW s.toList)).length b.size).size).toList=(qk (qW s.toList)).tail:=by rw [qGF,x2,List.drop_one]
  obtain ⟨n1,h1⟩:=qP9 (b.extract 0 (qQ (qW s.toList)).length)
  obtain ⟨n2,h2⟩:=qEU (b.extract (qQ (qW s.toList)).length b.size) 2 (by decide)
  obtain ⟨n3,h3⟩:=qEU ((b.extract (qQ (qW s.toList)).length b.size).extract 1 (b.extract (qQ (qW s.toList)).length b.size).size) 2 (by decide)
  rw [x1] at h1
  rw [x2] at h2
  rw [x3] at h3
  refine ⟨n1+n2+n3+b.size+2,fun m hm=>⟨?_,by rw [x1];exact h1 m (by omega),h2 m (by omega),h3 m (by omega)⟩⟩
  have:=qNm m b fc hb b.toList [] m rfl (by rw [←qB8];omega)
  simp only [List.length_nil,Int.natCast_zero,Nat.zero_add] at this
  rw [this,hl]
 have z:∀(b:ByteArray),b.toList=qW s.toList→((qQ (qW s.toList)).length:Int)≤b.size:=fun b hl=>by
  have:=qPJ (qW s.toList)
  rw [←hl] at this⊢
  rw [qB8]
  omega
 have k36:∀c:UInt8,((c.toNat:Int)==36)=(some c==some 36):=fun c=>by
  have h:=qV8 c 36 (by decide)
  have u:UInt8.ofNat 36=36:=rfl
  rw [u] at h
  exact h
 unfold qA9
 have part:∀(b:ByteArray) (fc:Bool),b.size≤1048576→b.toList=qW s.toList→fc=(s.toList.head?==some 36)→
   ((fc=true∧b=s.extract 1 s.size∧∃c r,s.toList=c::r∧c=36)∨(fc=false∧b=s∧∀c r,s.toList=c::r→(some c==some (36:UInt8))=false))→
   Ev (qAw · s) (if (l1I (qW (qk (qW s.toList))) 2).2=true∧qBP (qFr ⟨(qQ (qW s.toList)).toArray⟩) (l1I (qW (qk (qW s.toList))) 2).1=true then
    (qFr ⟨(qQ (qW s.toList)).toArray⟩,(l1I (qW (qk (qW s.toList))) 2).1,s.toList.head?==some 36,(qk (qW s.toList)).head?==some 36,true) else (0,0,false,false,false)):=fun b fc hb2 hl hfc hcase=>by
  obtain ⟨n0,hm0⟩:=main b fc hb2 hl hfc
  have hz:=z b hl
  obtain ⟨n2,h2⟩:=qC3 (qFr ⟨(qQ (qW s.toList)).toArray⟩) (l1I (qW (qk (qW s.toList))) 2).1
  have x2:(b.extract (qQ (qW s.toList)).length b.size).toList=qk (qW s.toList):=by rw [qGF,hl,qJk]
  rw [←hfc]
  refine ⟨n0+n2+1,fun n hn=>?_⟩
  obtain ⟨m,rfl,hm⟩:=up1 hn
  obtain ⟨g1,g2,g3,g4⟩:=hm0 m (by omega)
  have h2:=h2 m (by omega)
  dsimp only at h2
  have e1:(1:Int).toNat=1:=rfl
  have e0:(0:Int).toNat=0:=rfl
  have start:∀q,(qCO m s).run=q→qAw (m+1) s=q:=fun q h=>h
  apply start
  rcases hcase with ⟨rfl,rfl,c,r,hcr,rfl⟩|⟨rfl,rfl,hno⟩
  ·have hsz:(s.size:Int)>0:=by rw [qB8,hcr];simp<;>omega
   have hs1:(1:Int)≤s.size:=by omega
   have hg:s.toList[0]?=some 36:=by rw [hcr];rfl
   have bs:(s.extract 1 s.size).size=s.size-1:=by rw [qB8,qGF,List.length_drop,←qB8]
   have zn:(qQ (qW s.toList)).length≤s.size-1:=by rw [←bs];omega
   have sn:0<s.size:=by omega
   have c36:((((36:UInt8)).toNat:Int)==36)=true:=rfl
   simp only [qCO,qC,qE,qG,qH,qJ,qK,Option.bind_some,qF,qM,qN,Int.toNat_natCast,e0,e1,hg,c36,g1,g2]
   cases hq:qk (qW s.toList) with
   |nil=>
    have y0:((s.extract 1 s.size).extract (qQ (qW s.toList)).length (s.extract 1 s.size).size).size=0:=by rw [qB8,x2,hq];rfl
    have hoff:qW (qk (qW s.toList))= []:=by rw [hq];rfl
    rw [hoff] at h2
    rw [hq] at g3
    simp only [y0,g3,h2,qC,qE,qG,qH,qJ,qK,Option.bind_some,qF,qM,qN]
    have hoff':qW ([]:List UInt8)= []:=rfl
    rw [hoff']
    generalize l1I ([]:List UInt8) 2=q at*
    obtain ⟨x,ok⟩:=q
    cases ok<;>cases hk:qBP (qFr ⟨(qQ (qW s.toList)).toArray⟩) x<;>simp [hz,hsz,hs1,zn,sn]
   |cons d w=>
    have y0:(((s.extract 1 s.size).extract (qQ (qW s.toList)).length (s.extract 1 s.size).size).size:Int)>0:=by rw [qB8,x2,hq];simp<;>omega
    have y1:(1:Int)≤((s.extract 1 s.size).extract (qQ (qW s.toList)).length (s.extract 1 s.size).size).size:=by omega
    have ys:((s.extract 1 s.size).extract (qQ (qW s.toList)).length (s.extract 1 s.size).size).size=(s.extract 1 s.size).size-(qQ (qW s.toList)).length:=by rw [qB8,qGF,List.length_drop,←qB8]
    have yn:(qQ (qW s.toList)).length<(s.size-1):=by rw [←bs];omega
    have yn2:1≤(s.size-1)-(qQ (qW s.toList)).length:=by omega
    have yn3:0<(s.size-1)-(qQ (qW s.toList)).length:=by omega
    have yn4:(1:Int)≤(((s.size-1)-(qQ (qW s.toList)).length:Nat):Int):=by omega
    have yg:((s.extract 1 s.size).extract (qQ (qW s.toList)).length (s.extract 1 s.size).size).toList[0]?=some d:=by rw [x2,hq];rfl
    rw [hq] at g3 g4 h2
    simp only [yg,k36 d,qC,qE,qG,qH,qJ,qK,Option.bind_some,qF,qM,qN]
    by_cases hd:d=36
    ·have hoff:qW (d::w)=w:=by unfold qW;rw [if_pos (by rw [hd];rfl)];rfl
     rw [hoff] at h2⊢
     have e36:(some d==some (36:UInt8))=true:=by rw [hd];rfl
     simp only [List.tail_cons] at g4
     simp only [e36,g4,h2,List.head?_cons,qC,qE,qG,qH,qJ,qK,Option.bind_some,qF,qM,qN]
     generalize l1I w 2=q at*
     obtain ⟨x,ok⟩:=q
     cases ok<;>cases hk:qBP (qFr ⟨(qQ (qW s.toList)).toArray⟩) x<;>simp [hz,hsz,hs1,y0,y1,zn,sn,yn,yn2,yn3,yn4]
    ·have hoff:qW (d::w)=d::w:=by unfold qW;rw [if_neg (by simpa using hd)]
     rw [hoff] at h2⊢
     have e36:(some d==some (36:UInt8))=false:=by simpa using hd
     simp only [e36,g3,h2,List.head?_cons,qC,qE,qG,qH,qJ,qK,Option.bind_some,qF,qM,qN]
     generalize l1I (d::w) 2=q at*
     obtain ⟨x,ok⟩:=q
     cases ok<;>cases hk:qBP (qFr ⟨(qQ (qW s.toList)).toArray⟩) x<;>simp [hz,hsz,hs1,y0,y1,zn,sn,yn,yn2,yn3,yn4]
  ·by_cases hs0:(b.size:Int)>0
   ·obtain ⟨c,r,hcr⟩:∃c r,b.toList=c::r:=by
     cases hq:b.toList with
     |nil=>rw [qB8,hq] at hs0;simp at hs0
     |cons a l=>exact ⟨a,l,rfl⟩
    have hg:b.toList[0]?=some c:=by rw [hcr];rfl
    have hc:=hno c r hcr
    have hsz:(b.size:Int)>0:=hs0
    have hs1:(1:Int)≤b.size:=by omega
    have zn:(qQ (qW b.toList)).length≤b.size:=by omega
    have sn:0<b.size:=by omega
    simp only [qCO,qC,qE,qG,qH,qJ,qK,Option.bind_some,qF,qM,qN,Int.toNat_natCast,e0,e1,hg,k36 c,hc,g1,g2]
    cases hq:qk (qW b.toList) with
    |nil=>
     have y0:(b.extract (qQ (qW b.toList)).length b.size).size=0:=by rw [qB8,x2,hq];rfl
     have hoff:qW (qk (qW b.toList))= []:=by rw [hq];rfl
     rw [hoff] at h2
     rw [hq] at g3
     simp only [y0,g3,h2,qC,qE,qG,qH,qJ,qK,Option.bind_some,qF,qM,qN]
     have hoff':qW ([]:List UInt8)= []:=rfl
     rw [hoff']
     generalize l1I ([]:List UInt8) 2=q at*
     obtain ⟨x,ok⟩:=q
     cases ok<;>cases hk:qBP (qFr ⟨(qQ (qW b.toList)).toArray⟩) x<;>simp [hz,hsz,hs1,zn,sn]
    |cons d w=>
     have y0:((b.extract (qQ (qW b.toList)).length b.size).size:Int)>0:=by rw [qB8,x2,hq];simp<;>omega
     have y1:(1:Int)≤(b.extract (qQ (qW b.toList)).length b.size).size:=by omega
     have ys:(b.extract (qQ (qW b.toList)).length b.size).size=b.size-(qQ (qW b.toList)).length:=by rw [qB8,qGF,List.length_drop,←qB8]
     have yn:(qQ (qW b.toList)).length<b.size:=by omega
     have yn2:1≤b.size-(qQ (qW b.toList)).length:=by omega
     have yn3:0<b.size-(qQ (qW b.toList)).length:=by omega
     have yn4:(1:Int)≤((b.size-(qQ (qW b.toList)).length:Nat):Int):=by omega
     have yg:(b.extract (qQ (qW b.toList)).length b.size).toList[0]?=some d:=by rw [x2,hq];rfl
     rw [hq] at g3 g4 h2
     simp only [yg,k36 d,qC,qE,qG,qH,qJ,qK,Option.bind_some,qF,qM,qN]
     by_cases hd:d=36
     ·have hoff:qW (d::w)=w:=by unfold qW;rw [if_pos (by rw [hd];rfl)];rfl
      rw [hoff] at h2⊢
      have e36:(some d==some (36:UInt8))=true:=by rw [hd];rfl
      simp only [List.tail_cons] at g4
      simp only [e36,g4,h2,List.head?_cons,qC,qE,qG,qH,qJ,qK,Option.bind_some,qF,qM,qN]
      generalize l1I w 2=q at*
      obtain ⟨x,ok⟩:=q
      cases ok<;>cases hk:qBP (qFr ⟨(qQ (qW b.toList)).toArray⟩) x<;>simp [hz,hsz,hs1,y0,y1,zn,sn,yn,yn2,yn3,yn4]
     ·have hoff:qW (d::w)=d::w:=by unfold qW;rw [if_neg (by simpa using hd)]
      rw [hoff] at h2⊢
      have e36:(some d==some (36:UInt8))=false:=by simpa using hd
      simp only [e36,g3,h2,List.head?_cons,qC,qE,qG,qH,qJ,qK,Option.bind_some,qF,qM,qN]
      generalize l1I (d::w) 2=q at*
      obtain ⟨x,ok⟩:=q
      cases ok<;>cases hk:qBP (qFr ⟨(qQ (qW b.toList)).toArray⟩) x<;>simp [hz,hsz,hs1,y0,y1,zn,sn,yn,yn2,yn3,yn4]
   ·have hsz:¬(b.size:Int)>0:=hs0
    have hs1:True:=trivial
    have zn:(qQ (qW b.toList)).length≤b.size:=by omega
    have sn:b.size=0:=by omega
    have lb:b.toList= []:=List.eq_nil_of_length_eq_zero (by rw [←qB8];omega)
    have hb0:qk (qW b.toList)= []:=by rw [lb];rfl
    have ln:qQ (qW b.toList)= []:=by rw [lb];rfl
    simp only [qCO,qC,qE,qG,qH,qJ,qK,Option.bind_some,qF,qM,qN,Int.toNat_natCast,e0,e1,g1,g2]
    cases hq:qk (qW b.toList) with
    |nil=>
     have y0:(b.extract (qQ (qW b.toList)).length b.size).size=0:=by rw [qB8,x2,hq];rfl
     have hoff:qW (qk (qW b.toList))= []:=by rw [hq];rfl
     rw [hoff] at h2
     rw [hq] at g3
     simp only [y0,g3,h2,qC,qE,qG,qH,qJ,qK,Option.bind_some,qF,qM,qN]
     have hoff':qW ([]:List UInt8)= []:=rfl
     rw [hoff']
     generalize l1I ([]:List UInt8) 2=q at*
     obtain ⟨x,ok⟩:=q
     cases ok<;>cases hk:qBP (qFr ⟨(qQ (qW b.toList)).toArray⟩) x<;>simp [hz,hsz,hs1,zn,sn,ln]
    |cons d w=>rw [hb0] at hq;cases hq
 by_cases h36:s.toList.head?=some 36
 ·have ho:qW s.toList=s.toList.tail:=by unfold qW;rw [if_pos h36]
  have ht:(s.extract 1 s.size).toList=s.toList.tail:=by rw [qGF,List.drop_one]
  obtain ⟨c,r,hcr⟩:∃c r,s.toList=c::r:=by
   cases hq:s.toList with
   |nil=>rw [hq] at h36;cases h36
   |cons a l=>exact ⟨a,l,rfl⟩
  refine part (s.extract 1 s.size) true (by rw [qB8,ht,List.length_tail,←qB8];omega) (by rw [ht,ho]) (by rw [h36];rfl) (.inl ⟨rfl,rfl,c,r,hcr,?_⟩)
  rw [hcr] at h36
  simpa using h36
 ·have ho:qW s.toList=s.toList:=by unfold qW;rw [if_neg h36]
  refine part s false hb ho.symm (by symm;simpa using h36) (.inr ⟨rfl,rfl,fun c r hcr=>?_⟩)
  rw [hcr] at h36
  simpa using h36
def upS:ByteArray:=⟨#[65,66,67,68,69,70,71,72,73,74,75,76,77,78,79,80,81,82,83,84,85,86,87,88,89,90]⟩
theorem qWk:∀i:Fin 256,(upS.data.toList.contains (UInt8.ofNat i.val))=(decide (65≤i.val)&&decide (i.val≤90)):=by decide+kernel
theorem qW6 (c:UInt8):(upS.data.toList.contains c)=qI3 c:=by
 have h:=qWk ⟨c.toNat,UInt8.toNat_lt c⟩
 have e:UInt8.ofNat c.toNat=c:=by simp
 simp only [e] at h
 exact h
theorem qVS:(upS.data.toList.all fun b=>decide (b.toNat<128))=true:=by decide+kernel
theorem qTn (s:ByteArray):Ev (qBT · s ⟨#[65,66,67,68,69,70,71,72,73,74,75,76,77,78,79,80,81,82,83,84,85,86,87,88,89,90]⟩) ⟨(qk s.toList).toArray⟩:=by
 refine ⟨1,fun n hn=>?_⟩
 obtain ⟨m,rfl,hm⟩:=up1 hn
 show zR s upS=_
 unfold zR
 rw [if_pos ⟨by decide,qVS⟩]
 unfold Lib.trimLeftS qk
 rw [Go.Lib.toList_data]
 have:(fun c=>upS.data.toList.contains c)=qI3:=funext qW6
 rw [this]
theorem qTo (s:ByteArray):Ev (qAL · s ⟨#[36]⟩) (⟨(qW s.toList).toArray⟩,s.toList.head?==some 36):=by
 have h:=qGp s 36
 have es:(⟨s.toList.toArray⟩:ByteArray)=s:=qFT (qCA s.toList)
 by_cases e:s.toList.head?=some 36
 ·rw [if_pos e] at h
  have:(s.toList.head?==some 36)=true:=by simpa using e
  unfold qW
  rw [if_pos e,this]
  exact h
 ·rw [if_neg e] at h
  have:(s.toList.head?==some 36)=false:=by simpa using e
  unfold qW
  rw [if_neg e,this,es]
  exact h
theorem qWA {r:Int} (h:1≤r∧r≤99):l1I (Lib.itoa r) 2=(r,true):=by
 have e:Lib.itoa r=Lib.decDigits r.toNat:=by unfold Lib.itoa;rw [if_neg (by omega)]
 obtain ⟨h1,h2,h3,_,_⟩:=qI2 r.toNat
 have hl:(Lib.decDigits r.toNat).length≤2:=by
  rw [Lib.decDigits_length]
  exact qWb 2 r.toNat (by omega) (by
   have:(10:Nat)^2=100:=by decide
   omega)
 rw [e]
 unfold l1I
 rw [if_pos ⟨by omega,qSR _⟩,h2]
 congr 1
 omega
theorem qW7 {l:List UInt8} (h:(l1I l 2).2=true):(l1I l 2).1=(qAl 0 l:Int)∧Lib.decDigits (qAl 0 l)=l:=by
 unfold l1I at h⊢
 split at h
 ·rename_i hc
  rw [if_pos hc]
  exact ⟨rfl,qOs _ l rfl hc.2⟩
 ·cases h
theorem qVT (s:ByteArray):qA9 s=if qBP (qFr ⟨(qQ (qW s.toList)).toArray⟩) (qBz ⟨(qW (qk (qW s.toList))).toArray⟩)=true∧
  (qBL (qFr ⟨(qQ (qW s.toList)).toArray⟩) (qBz ⟨(qW (qk (qW s.toList))).toArray⟩) (s.toList.head?==some 36) ((qk (qW s.toList)).head?==some 36)).toList=s.toList then
   (qFr ⟨(qQ (qW s.toList)).toArray⟩,qBz ⟨(qW (qk (qW s.toList))).toArray⟩,s.toList.head?==some 36,(qk (qW s.toList)).head?==some 36,true) else (0,0,false,false,false):=by
 have hoff:∀l:List UInt8,l=(if (l.head?==some 36)=true then [36] else [])++qW l:=fun l=>by
  unfold qW
  cases l with
  |nil=>rfl
  |cons c r=>
   by_cases e:c=36
   ·subst e;simp
   ·simp [e]
 have hsplit:qW s.toList=qQ (qW s.toList)++qk (qW s.toList):=(List.takeWhile_append_dropWhile (p:=qI3) (l:=qW s.toList)).symm
 have hs:s.toList=(if (s.toList.head?==some 36)=true then [36] else [])++qQ (qW s.toList)++(if ((qk (qW s.toList)).head?==some 36)=true then [36] else [])++qW (qk (qW s.toList)):=by
  conv=>lhs;rw [hoff s.toList,hsplit,hoff (qk (qW s.toList))]
  simp only [List.append_assoc]
 unfold qA9
 generalize hL:qQ (qW s.toList)=L at*
 generalize hR:qW (qk (qW s.toList))=R at*
 generalize (s.toList.head?==some 36)=fc at*
 generalize ((qk (qW s.toList)).head?==some 36)=fr at*
 have col:∀r,qBP (qFr ⟨L.toArray⟩) r=true→(qDa (qFr ⟨L.toArray⟩)).data.toList=L:=fun r h=>by
  have:=qVR (⟨L.toArray⟩:ByteArray) 52 1 (qI1 h).1.1
  rw [qCA L,Go.Lib.toList_data] at this
  exact this
 have pl:∀r,qBP (qFr ⟨L.toArray⟩) r=true→(qBL (qFr ⟨L.toArray⟩) r fc fr).toList=(if fc=true then [36] else [])++L++(if fr=true then [36] else [])++Lib.itoa r:=fun r h=>by
  rw [Go.Lib.toList_data]
  unfold qBL
  rw [if_pos h,col r h]
  simp [qBK]
 have tR:(⟨R.toArray⟩:ByteArray).toList=R:=qCA R
 by_cases hA:(l1I R 2).2=true∧qBP (qFr ⟨L.toArray⟩) (l1I R 2).1=true
 ·obtain ⟨a1,a2⟩:=qW7 hA.1
  have hr:=(qI1 hA.2).2
  have hi:R=Lib.itoa (l1I R 2).1:=by
   rw [a1]
   unfold Lib.itoa
   rw [if_neg (by omega),Int.toNat_natCast,a2]
  have hp:qBz ⟨R.toArray⟩=(l1I R 2).1:=qPG (by rw [tR];exact hi) (by omega)
  rw [if_pos hA,hp,if_pos ⟨hA.2,by rw [pl _ hA.2,←hi];exact hs.symm⟩]
 ·rw [if_neg hA,if_neg]
  rintro ⟨h1,h2⟩
  rw [pl _ h1] at h2
  have h3:R=Lib.itoa (qBz ⟨R.toArray⟩):=by
   rw [hs] at h2
   exact (List.append_cancel_left h2).symm
  have h4:=qWA (qI1 h1).2
  rw [←h3] at h4
  exact hA (by rw [h4];exact ⟨rfl,h1⟩)
theorem qNo (s:ByteArray) (hb:s.size≤1048576):Ev (qAp · s) (qA9 s):=by
 rw [qVT]
 have hlen:=qPJ (qW s.toList)
 have lo:(qW s.toList).length≤s.size:=by
  unfold qW
  rw [qB8]
  split
  ·rw [List.length_tail];omega
  ·exact Nat.le_refl _
 have l2:(qk (qW s.toList)).length+(qQ (qW s.toList)).length=(qW s.toList).length:=by
  have h:=congrArg List.length (List.takeWhile_append_dropWhile (p:=qI3) (l:=qW s.toList))
  rw [List.length_append] at h
  unfold qk qQ
  omega
 have z1:(⟨(qW s.toList).toArray⟩:ByteArray).size=(qW s.toList).length:=by rw [qB8,qCA (qW s.toList)]
 have z2:(⟨(qk (qW s.toList)).toArray⟩:ByteArray).size=(qk (qW s.toList)).length:=by rw [qB8,qCA (qk (qW s.toList))]
 have w1:IntKind.i64.wrap (((qW s.toList).length:Int)-(qk (qW s.toList)).length)=((qQ (qW s.toList)).length:Int):=by rw [qT (by omega)];omega
 have x1:(⟨(qW s.toList).toArray⟩:ByteArray).extract 0 (qQ (qW s.toList)).length=⟨(qQ (qW s.toList)).toArray⟩:=qFT (by rw [qTm,qCA (qW s.toList),qNl,qCA (qQ (qW s.toList))])
 have x2:(⟨(qW s.toList).toArray⟩:ByteArray).extract (qQ (qW s.toList)).length (qW s.toList).length=⟨(qk (qW s.toList)).toArray⟩:=qFT (by rw [←z1,qGF,qCA (qW s.toList),qJk,qCA (qk (qW s.toList))])
 have lr:(⟨(qW (qk (qW s.toList))).toArray⟩:ByteArray).size≤281474976710656:=by
  rw [qB8,qCA (qW (qk (qW s.toList)))]
  have:(qW (qk (qW s.toList))).length≤(qk (qW s.toList)).length:=by
   generalize qk (qW s.toList)=q
   unfold qW
   split
   ·rw [List.length_tail];omega
   ·exact Nat.le_refl _
  omega
 obtain ⟨n1,h1⟩:=qTo s
 obtain ⟨n2,h2⟩:=qTn ⟨(qW s.toList).toArray⟩
 rw [qCA (qW s.toList)] at h2
 obtain ⟨n3,h3⟩:=qQA ⟨(qQ (qW s.toList)).toArray⟩
 obtain ⟨n4,h4⟩:=qTo ⟨(qk (qW s.toList)).toArray⟩
 rw [qCA (qk (qW s.toList))] at h4
 generalize qW s.toList=A at*
 generalize qk A=Bq at*
 generalize qQ A=L at*
 generalize qW Bq=R at*
 generalize (s.toList.head?==some 36)=fc at*
 generalize (Bq.head?==some 36)=fr at*
 obtain ⟨n5,h5⟩:=qDd (qFr ⟨L.toArray⟩) (qBz ⟨R.toArray⟩)
 obtain ⟨n6,h6⟩:=qCv (qFr ⟨L.toArray⟩) (qBz ⟨R.toArray⟩) fc fr
 have e0:(0:Int).toNat=0:=rfl
 have c1:L.length≤A.length:=by omega
 rcases qPH ⟨R.toArray⟩ lr with ⟨n7,h7⟩|⟨n7,h7⟩
 all_goals
  refine ⟨n1+n2+n3+n4+n5+n6+n7+1,fun n hn=>?_⟩
  obtain ⟨m,rfl,hm⟩:=up1 hn
  have h1:=h1 m (by omega)
  have h2:=h2 m (by omega)
  have h3:=h3 m (by omega)
  have h4:=h4 m (by omega)
  have h5:=h5 m (by omega)
  have h6:=h6 m (by omega)
  have h7:=h7 m (by omega)
  dsimp only at h1 h2 h3 h4 h5 h6 h7
  simp only [qAp,qFn,qC,qE,qG,qH,qJ,qK,Option.bind_some,qF,qM,qN,h1,h2,z1,z2,w1,Int.toNat_natCast,e0,x1,x2,h3,h4,h5,h6,h7]
  cases hk:qBP (qFr ⟨L.toArray⟩) (qBz ⟨R.toArray⟩) with
  |false=>simp [c1]
  |true=>by_cases e:(qBL (qFr ⟨L.toArray⟩) (qBz ⟨R.toArray⟩) fc fr).toList=s.toList<;>simp [c1,e]
theorem qEx (c r:Int) (fc fr:Bool):(qBL c r fc fr).size≤30:=by
 unfold qBL
 split
 ·rename_i h
  have h1:=qOr c
  have h2:=qM0 (qI1 h).2
  rw [qC7]
  cases fc<;>cases fr<;>simp<;>omega
 ·decide
abbrev Nd:=Int×Int×Int×Int×ByteArray×Int×Int×Bool×Bool×Int×Int×Bool×Bool×List Int
def qq (x:Int):List PV:= [.i .i64 x]
def qa (c:Nd):List PV:= [.i .i64 c.1,.i .i64 c.2.1,.i .i64 c.2.2.1,.i .i64 c.2.2.2.1,.s c.2.2.2.2.1,.i .i64 c.2.2.2.2.2.1,.i .i64 c.2.2.2.2.2.2.1,.b c.2.2.2.2.2.2.2.1,.b c.2.2.2.2.2.2.2.2.1,.i .i64 c.2.2.2.2.2.2.2.2.2.1,.i .i64 c.2.2.2.2.2.2.2.2.2.2.1,.b c.2.2.2.2.2.2.2.2.2.2.2.1,.b c.2.2.2.2.2.2.2.2.2.2.2.2.1,.ls ((c.2.2.2.2.2.2.2.2.2.2.2.2.2).map qq)]
def kd (c:Nd):List Int:=c.2.2.2.2.2.2.2.2.2.2.2.2.2
theorem qTp {l:List Int} {i:Nat} {e:List PV} (h:(l.map qq)[i]?=some e):∃c,l[i]?=some c∧e=qq c:=by
 rw [List.getElem?_map] at h
 obtain ⟨c,h1,h2⟩:=Option.map_eq_some_iff.1 h
 exact ⟨c,h1,h2.symm⟩
theorem qOu (n:Nat) (rows:List (List PV)) (left:Int):∃r,qEW (n+1) rows left=some r:=by
 simp only [qEW,qGN,qC,qE,qG,qH,qJ,qK,Option.bind_some,qF,qM,qN]
 by_cases h:IntKind.i64.wrap (left-rows.length)<0
 ·exact ⟨-1,by simp [h]⟩
 ·exact ⟨IntKind.i64.wrap (left-rows.length),by simp [h]⟩
theorem qOv (l:List Int) (hb:l.length*8≤140737488351232):∀n,l.length+5≤n→qEY n (l.map qq)=some (l.length,l.map qq):=by
 intro n hn
 obtain ⟨m,rfl,hm⟩:=up1 hn
 simp only [qEY,qGP,qC,qE,qG,qH,qJ,qK,Option.bind_some,qF,qM,qN]
 have h:=qNf (B:=qCP m) (rows:=l.map qq) (z:= [.i .i64 0]) (r:=fun acc=>((l.map qq).length,acc)) (M:=m)
  (fun i acc e he ha hz=>by
   obtain ⟨c,hc,rfl⟩:=qTp he
   have hi:i<l.length:=(List.getElem?_eq_some_iff.1 hc).1
   have hi':(i:Int)<l.length:=by omega
   have hw:IntKind.i64.wrap ((i:Int)+1)=(i:Int)+1:=qT (by omega)
   have ha':acc.length=l.length:=by simpa using ha
   simp [qCP,qC,qE,qG,qH,qJ,qK,Option.bind_some,qF,qM,qN,hi',hc,qq,zD,hz,ha',hw,zw])
  (fun acc ha=>by
   have ha':acc.length=l.length:=by simpa using ha
   simp [qCP,qC,qE,qG,qH,qJ,qK,Option.bind_some,qF,qM,qN])
  (by simp;omega)
 simp only [List.length_map,Int.toNat_natCast] at h⊢
 rw [h]
 have h1:(8:Int)*(l.length:Int)≤140737488355328:=by omega
 have h2:(l.length:Int)≤9223372036854775807:=by omega
 simp [qC,qE,qG,qH,qJ,qK,Option.bind_some,qF,qM,qN,h1,h2]
theorem qOw (l:List Int) (hb:l.length≤140737488351232):∀n,l.length+5≤n→qEi n (l.map qq) (l.map qq)=some true:=by
 intro n hn
 obtain ⟨m,rfl,hm⟩:=up1 hn
 simp only [qEi,qGX,qC,qE,qG,qH,qJ,qK,Option.bind_some,qF,qM,qN]
 have h:=qNg (B:=qCW m) (rows:=l.map qq) (r:= .inr ())
  (fun i e he=>by
   obtain ⟨c,hc,rfl⟩:=qTp he
   have hi:i<l.length:=(List.getElem?_eq_some_iff.1 hc).1
   have hi':(i:Int)<l.length:=by omega
   have hw:IntKind.i64.wrap ((i:Int)+1)=(i:Int)+1:=qT (by omega)
   simp [qCW,qC,qE,qG,qH,qJ,qK,Option.bind_some,qF,qM,qN,hi',hc,qq,zD,hw])
  (by simp [qCW,qC,qE,qG,qH,qJ,qK,Option.bind_some,qF,qM,qN]) l.length 0 m (by simp) (by omega)
 simp only [Int.natCast_zero] at h
 simp [h,qC,qE,qG,qH,qJ,qK,Option.bind_some,qF,qM,qN]
def qI4 (op n:Int):Bool:=if op=5 then decide (n=2∨n=3) else if 8≤op∧op≤10 then decide (n=1) else if 1≤op∧op≤7 then decide (1≤n∧n≤10) else false
theorem ten {op:Int} (h:1≤op∧op≤10):op=1∨op=2∨op=3∨op=4∨op=5∨op=6∨op=7∨op=8∨op=9∨op=10:=by omega
theorem qRH (op n:Int):Ev (qFz · op n) (qI4 op n):=by
 refine ⟨1,fun n hn=>?_⟩
 obtain ⟨m,rfl,hm⟩:=up1 hn
 simp only [qFz,qIG,qC,qE,qG,qH,qJ,qK,Option.bind_some,qF,qM,qN]
 by_cases h:1≤op∧op≤10
 ·rcases ten h with rfl|rfl|rfl|rfl|rfl|rfl|rfl|rfl|rfl|rfl
  all_goals
   first
   |(by_cases h2:n=2<;>simp [qI4,h2];done)
   |(by_cases h1:n≥1<;>simp [qI4,h1];done)
   |(by_cases h1:n=1<;>simp [qI4,h1];done)
   |(by_cases h2:n=2<;>by_cases h3:n=3<;>simp [qI4,h2,h3];done)
   |(simp [qI4];done)
 ·have e1:¬op=1:=by omega
  have e2:¬op=2:=by omega
  have e3:¬op=3:=by omega
  have e4:¬op=4:=by omega
  have e5:¬op=5:=by omega
  have e6:¬op=6:=by omega
  have e7:¬op=7:=by omega
  have e8:¬op=8:=by omega
  have e9:¬op=9:=by omega
  have e10:¬op=10:=by omega
  have g1:¬(8≤op∧op≤10):=by omega
  have g2:¬(1≤op∧op≤7):=by omega
  simp [qI4,e1,e2,e3,e4,e5,e6,e7,e8,e9,e10,g1,g2]
def zV (k x:Int) (s:ByteArray):Bool:=decide (k=0)&&(decide (x=0)&&(s.toList== []))
def zP (a b:Int) (f g:Bool):Bool:=decide (a=0)&&(decide (b=0)&&(!f&&!g))
def qFc (c:Nd):Bool:=
 if c.1=1 then decide (c.2.1=0)&&(zP c.2.2.2.2.2.1 c.2.2.2.2.2.2.1 c.2.2.2.2.2.2.2.1 c.2.2.2.2.2.2.2.2.1&&(zP c.2.2.2.2.2.2.2.2.2.1 c.2.2.2.2.2.2.2.2.2.2.1 c.2.2.2.2.2.2.2.2.2.2.2.1 c.2.2.2.2.2.2.2.2.2.2.2.2.1&&(decide ((kd c).length=0)&&(okV c.2.2.1 c.2.2.2.1 c.2.2.2.2.1&&(!decide (c.2.2.1=0)&&(!decide (c.2.2.1=1)||decide (c.2.2.2.1≥0))))))) else
 if c.1=2 then decide (c.2.1=0)&&(zV c.2.2.1 c.2.2.2.1 c.2.2.2.2.1&&(zP c.2.2.2.2.2.2.2.2.2.1 c.2.2.2.2.2.2.2.2.2.2.1 c.2.2.2.2.2.2.2.2.2.2.2.1 c.2.2.2.2.2.2.2.2.2.2.2.2.1&&(decide ((kd c).length=0)&&qBP c.2.2.2.2.2.1 c.2.2.2.2.2.2.1))) else
 if c.1=3 then decide (c.2.1=0)&&(zV c.2.2.1 c.2.2.2.1 c.2.2.2.2.1&&(decide ((kd c).length=0)&&qGa c.2.2.2.2.2.1 c.2.2.2.2.2.2.1 c.2.2.2.2.2.2.2.2.2.1 c.2.2.2.2.2.2.2.2.2.2.1)) else
 if c.1=4 then decide (c.2.1=0)&&(zV c.2.2.1 c.2.2.2.1 c.2.2.2.2.1&&(zP c.2.2.2.2.2.1 c.2.2.2.2.2.2.1 c.2.2.2.2.2.2.2.1 c.2.2.2.2.2.2.2.2.1&&(zP c.2.2.2.2.2.2.2.2.2.1 c.2.2.2.2.2.2.2.2.2.2.1 c.2.2.2.2.2.2.2.2.2.2.2.1 c.2.2.2.2.2.2.2.2.2.2.2.2.1&&decide ((kd c).length=1)))) else
 if c.1=5 then decide (1≤c.2.1∧c.2.1≤11)&&(zV c.2.2.1 c.2.2.2.1 c.2.2.2.2.1&&(zP c.2.2.2.2.2.1 c.2.2.2.2.2.2.1 c.2.2.2.2.2.2.2.1 c.2.2.2.2.2.2.2.2.1&&(zP c.2.2.2.2.2.2.2.2.2.1 c.2.2.2.2.2.2.2.2.2.2.1 c.2.2.2.2.2.2.2.2.2.2.2.1 c.2.2.2.2.2.2.2.2.2.2.2.2.1&&decide ((kd c).length=2)))) else
 if c.1=6 then qI4 c.2.1 ((kd c).length:Int)&&(zV c.2.2.1 c.2.2.2.1 c.2.2.2.2.1&&(zP c.2.2.2.2.2.1 c.2.2.2.2.2.2.1 c.2.2.2.2.2.2.2.1 c.2.2.2.2.2.2.2.2.1&&zP c.2.2.2.2.2.2.2.2.2.1 c.2.2.2.2.2.2.2.2.2.2.1 c.2.2.2.2.2.2.2.2.2.2.2.1 c.2.2.2.2.2.2.2.2.2.2.2.2.1)) else false
theorem qW8 (k x:Int) (s:ByteArray):((k==(0:Int))&&((x==(0:Int))&&((s.toList==(⟨#[]⟩:ByteArray).toList)&&true)))=zV k x s:=by
 rw [qAH]
 unfold zV
 by_cases h:k=0<;>by_cases h2:x=0<;>simp [h,h2]
theorem qW9 (k x:Int) (s:ByteArray):(((0:Int)==k)&&(((0:Int)==x)&&(((⟨#[]⟩:ByteArray).toList==s.toList)&&true)))=zV k x s:=by
 rw [←qW8]
 congr 1
 ·exact Bool.beq_comm
 ·congr 1
  ·exact Bool.beq_comm
  ·congr 1
   exact Bool.beq_comm
theorem qXA (a b:Int) (f g:Bool):((a==(0:Int))&&((b==(0:Int))&&((f==false)&&((g==false)&&true))))=zP a b f g:=by
 unfold zP
 by_cases h:a=0<;>by_cases h2:b=0<;>cases f<;>cases g<;>simp [h,h2]
theorem qXB (a b:Int) (f g:Bool):(((0:Int)==a)&&(((0:Int)==b)&&((false==f)&&((false==g)&&true))))=zP a b f g:=by
 rw [←qXA]
 congr 1
 ·exact Bool.beq_comm
 ·congr 1
  ·exact Bool.beq_comm
  ·cases f<;>cases g<;>rfl
theorem qI5 (c:Nd) (hb:c.2.2.2.2.1.size≤140737488351232):Ev (qCB · c.1 c.2.1 c.2.2.1 c.2.2.2.1 c.2.2.2.2.1 c.2.2.2.2.2.1 c.2.2.2.2.2.2.1 c.2.2.2.2.2.2.2.1 c.2.2.2.2.2.2.2.2.1 c.2.2.2.2.2.2.2.2.2.1 c.2.2.2.2.2.2.2.2.2.2.1 c.2.2.2.2.2.2.2.2.2.2.2.1 c.2.2.2.2.2.2.2.2.2.2.2.2.1 ((c.2.2.2.2.2.2.2.2.2.2.2.2.2).map qq)) (qFc c):=by
 obtain ⟨n1,h1⟩:=qAI c.2.2.1 c.2.2.2.1 c.2.2.2.2.1 hb
 obtain ⟨n2,h2⟩:=qC3 c.2.2.2.2.2.1 c.2.2.2.2.2.2.1
 obtain ⟨n3,h3⟩:=qRB c.2.2.2.2.2.1 c.2.2.2.2.2.2.1 c.2.2.2.2.2.2.2.2.2.1 c.2.2.2.2.2.2.2.2.2.2.1
 obtain ⟨n4,h4⟩:=qB3 c.2.1 1 11
 obtain ⟨n5,h5⟩:=qRH c.2.1 (((c.2.2.2.2.2.2.2.2.2.2.2.2.2).map qq).length:Int)
 refine ⟨n1+n2+n3+n4+n5+1,fun n hn=>?_⟩
 obtain ⟨m,rfl,hm⟩:=up1 hn
 have h1:=h1 m (by omega)
 dsimp only at h1
 have h2:=h2 m (by omega)
 dsimp only at h2
 have h3:=h3 m (by omega)
 dsimp only at h3
 have h4:=h4 m (by omega)
 dsimp only at h4
 have h5:=h5 m (by omega)
 dsimp only at h5
 simp only [qCB,qGS,qC,qE,qG,qH,qJ,qK,Option.bind_some,qF,qM,qN,h1,h2,h3,h4,h5]
 have hk:((c.2.2.2.2.2.2.2.2.2.2.2.2.2).map qq).length=(kd c).length:=by rw [List.length_map];rfl
 simp only [qW8,qXA,hk]
 unfold qFc
 by_cases k1:c.1=1
 ·simp only [k1,if_true,beq_self_eq_true]
  cases zP c.2.2.2.2.2.1 c.2.2.2.2.2.2.1 c.2.2.2.2.2.2.2.1 c.2.2.2.2.2.2.2.2.1<;>cases zP c.2.2.2.2.2.2.2.2.2.1 c.2.2.2.2.2.2.2.2.2.2.1 c.2.2.2.2.2.2.2.2.2.2.2.1 c.2.2.2.2.2.2.2.2.2.2.2.2.1<;>cases okV c.2.2.1 c.2.2.2.1 c.2.2.2.2.1<;>by_cases h0:c.2.1=0<;>by_cases h1:(kd c).length=0<;>by_cases h2:c.2.2.1=0<;>by_cases h3:c.2.2.1=1<;>simp [h0,h1,h2,h3]
 by_cases k2:c.1=2
 ·simp only [k2]
  cases zV c.2.2.1 c.2.2.2.1 c.2.2.2.2.1<;>cases zP c.2.2.2.2.2.2.2.2.2.1 c.2.2.2.2.2.2.2.2.2.2.1 c.2.2.2.2.2.2.2.2.2.2.2.1 c.2.2.2.2.2.2.2.2.2.2.2.2.1<;>cases qBP c.2.2.2.2.2.1 c.2.2.2.2.2.2.1<;>by_cases h0:c.2.1=0<;>by_cases h1:(kd c).length=0<;>simp [h0,h1]
 by_cases k3:c.1=3
 ·simp only [k3]
  cases zV c.2.2.1 c.2.2.2.1 c.2.2.2.2.1<;>cases qGa c.2.2.2.2.2.1 c.2.2.2.2.2.2.1 c.2.2.2.2.2.2.2.2.2.1 c.2.2.2.2.2.2.2.2.2.2.1<;>by_cases h0:c.2.1=0<;>by_cases h1:(kd c).length=0<;>simp [h0,h1]
 by_cases k4:c.1=4
 ·simp only [k4]
  cases zV c.2.2.1 c.2.2.2.1 c.2.2.2.2.1<;>cases zP c.2.2.2.2.2.1 c.2.2.2.2.2.2.1 c.2.2.2.2.2.2.2.1 c.2.2.2.2.2.2.2.2.1<;>cases zP c.2.2.2.2.2.2.2.2.2.1 c.2.2.2.2.2.2.2.2.2.2.1 c.2.2.2.2.2.2.2.2.2.2.2.1 c.2.2.2.2.2.2.2.2.2.2.2.2.1<;>by_cases h0:c.2.1=0<;>by_cases h1:(kd c).length=1<;>simp [h0,h1]<;>omega
 by_cases k5:c.1=5
 ·simp only [k5]
  cases zV c.2.2.1 c.2.2.2.1 c.2.2.2.2.1<;>cases zP c.2.2.2.2.2.1 c.2.2.2.2.2.2.1 c.2.2.2.2.2.2.2.1 c.2.2.2.2.2.2.2.2.1<;>cases zP c.2.2.2.2.2.2.2.2.2.1 c.2.2.2.2.2.2.2.2.2.2.1 c.2.2.2.2.2.2.2.2.2.2.2.1 c.2.2.2.2.2.2.2.2.2.2.2.2.1<;>by_cases h0:1≤c.2.1∧c.2.1≤11<;>by_cases h1:(kd c).length=2<;>simp [h0,h1]<;>omega
 by_cases k6:c.1=6
 ·simp only [k6]
  cases zV c.2.2.1 c.2.2.2.1 c.2.2.2.2.1<;>cases zP c.2.2.2.2.2.1 c.2.2.2.2.2.2.1 c.2.2.2.2.2.2.2.1 c.2.2.2.2.2.2.2.2.1<;>cases zP c.2.2.2.2.2.2.2.2.2.1 c.2.2.2.2.2.2.2.2.2.2.1 c.2.2.2.2.2.2.2.2.2.2.2.1 c.2.2.2.2.2.2.2.2.2.2.2.2.1<;>cases qI4 c.2.1 ((kd c).length:Int)<;>simp
 simp [k1,k2,k3,k4,k5,k6]
theorem qRI (c:Nd):Ev (qAU · c.1 c.2.1 c.2.2.1 c.2.2.2.1 c.2.2.2.2.1 c.2.2.2.2.2.1 c.2.2.2.2.2.2.1 c.2.2.2.2.2.2.2.1 c.2.2.2.2.2.2.2.2.1 c.2.2.2.2.2.2.2.2.2.1 c.2.2.2.2.2.2.2.2.2.2.1 c.2.2.2.2.2.2.2.2.2.2.2.1 c.2.2.2.2.2.2.2.2.2.2.2.2.1 ((c.2.2.2.2.2.2.2.2.2.2.2.2.2).map qq)) (if c.1=4 then decide (c.2.1=0)&&decide ((kd c).length=1) else if c.1=5 then decide (1≤c.2.1∧c.2.1≤11)&&decide ((kd c).length=2) else if c.1=6 then qI4 c.2.1 ((kd c).length:Int) else decide (c.2.1=0)&&decide ((kd c).length=0)):=by
 obtain ⟨n1,h1⟩:=q7 c.2.1 1 11
 obtain ⟨n2,h2⟩:=q7 c.2.1 1 10
 obtain ⟨n3,h3⟩:=q7 (((c.2.2.2.2.2.2.2.2.2.2.2.2.2).map qq).length:Int) 2 3
 obtain ⟨n4,h4⟩:=q7 (((c.2.2.2.2.2.2.2.2.2.2.2.2.2).map qq).length:Int) 1 10
 refine ⟨n1+n2+n3+n4+1,fun n hn=>?_⟩
 obtain ⟨m,rfl,hm⟩:=up1 hn
 have h1:=h1 m (by omega)
 dsimp only at h1
 have h2:=h2 m (by omega)
 dsimp only at h2
 have h3:=h3 m (by omega)
 dsimp only at h3
 have h4:=h4 m (by omega)
 dsimp only at h4
 simp only [qAU,qEP,qC,qE,qG,qH,qJ,qK,Option.bind_some,qF,qM,qN,h1,h2,h3,h4]
 have hk:((c.2.2.2.2.2.2.2.2.2.2.2.2.2).map qq).length=(kd c).length:=by rw [List.length_map];rfl
 simp only [hk]
 by_cases k4:c.1=4
 ·simp only [k4]
  by_cases h0:c.2.1=0<;>by_cases h1:(kd c).length=1<;>simp [h0,h1]<;>omega
 by_cases k5:c.1=5
 ·simp only [k5]
  by_cases h0:1≤c.2.1∧c.2.1≤11<;>by_cases h1:(kd c).length=2<;>simp [h0,h1]<;>omega
 by_cases k6:c.1=6
 ·simp only [k6]
  unfold qI4
  by_cases h:1≤c.2.1∧c.2.1≤10
  ·by_cases h5:c.2.1=5
   ·have:(2≤((kd c).length:Int)∧((kd c).length:Int)≤3)↔(((kd c).length:Int)=2∨((kd c).length:Int)=3):=by omega
    simp [h5,this]
   ·by_cases h8:c.2.1≥8
    ·have g:8≤c.2.1∧c.2.1≤10:=by omega
     by_cases h1:((kd c).length:Int)=1<;>simp [h,h5,h8,g,h1]
    ·have g:¬(8≤c.2.1∧c.2.1≤10):=by omega
     have g':1≤c.2.1∧c.2.1≤7:=by omega
     simp [h,h5,h8,g,g']
  ·have h5:¬c.2.1=5:=by omega
   have g:¬(8≤c.2.1∧c.2.1≤10):=by omega
   have g':¬(1≤c.2.1∧c.2.1≤7):=by omega
   simp [h,h5,g,g']
 by_cases h0:c.2.1=0<;>by_cases h1:(kd c).length=0<;>simp [k4,k5,k6,h0,h1]<;>omega
theorem qOx (c:Nd):Ev (qAG · c.1 c.2.1 c.2.2.1 c.2.2.2.1 c.2.2.2.2.1 c.2.2.2.2.2.1 c.2.2.2.2.2.2.1 c.2.2.2.2.2.2.2.1 c.2.2.2.2.2.2.2.2.1 c.2.2.2.2.2.2.2.2.2.1 c.2.2.2.2.2.2.2.2.2.2.1 c.2.2.2.2.2.2.2.2.2.2.2.1 c.2.2.2.2.2.2.2.2.2.2.2.2.1 ((c.2.2.2.2.2.2.2.2.2.2.2.2.2).map qq)) (if c.1=2 then qGa c.2.2.2.2.2.1 c.2.2.2.2.2.2.1 c.2.2.2.2.2.1 c.2.2.2.2.2.2.1 else if c.1=3 then qGa c.2.2.2.2.2.1 c.2.2.2.2.2.2.1 c.2.2.2.2.2.2.2.2.2.1 c.2.2.2.2.2.2.2.2.2.2.1 else true):=by
 have g:Ev (qCr · c.1 c.2.1 c.2.2.1 c.2.2.2.1 c.2.2.2.2.1 c.2.2.2.2.2.1 c.2.2.2.2.2.2.1 c.2.2.2.2.2.2.2.1 c.2.2.2.2.2.2.2.2.1 c.2.2.2.2.2.2.2.2.2.1 c.2.2.2.2.2.2.2.2.2.2.1 c.2.2.2.2.2.2.2.2.2.2.2.1 c.2.2.2.2.2.2.2.2.2.2.2.2.1 ((c.2.2.2.2.2.2.2.2.2.2.2.2.2).map qq)) (if c.1=2 then (c.2.2.2.2.2.1,c.2.2.2.2.2.2.1,c.2.2.2.2.2.1,c.2.2.2.2.2.2.1) else (c.2.2.2.2.2.1,c.2.2.2.2.2.2.1,c.2.2.2.2.2.2.2.2.2.1,c.2.2.2.2.2.2.2.2.2.2.1)):=by
  refine ⟨1,fun n hn=>?_⟩
  obtain ⟨m,rfl,hm⟩:=up1 hn
  simp only [qCr,qFP,qC,qE,qG,qH,qJ,qK,Option.bind_some,qF,qM,qN]
  by_cases k2:c.1=2<;>simp [k2]
 obtain ⟨n1,h1⟩:=g
 obtain ⟨n2,h2⟩:=qLH c.2.2.2.2.2.1 c.2.2.2.2.2.2.1 c.2.2.2.2.2.1 c.2.2.2.2.2.2.1
 obtain ⟨n3,h3⟩:=qLH c.2.2.2.2.2.1 c.2.2.2.2.2.2.1 c.2.2.2.2.2.2.2.2.2.1 c.2.2.2.2.2.2.2.2.2.2.1
 refine ⟨n1+n2+n3+1,fun n hn=>?_⟩
 obtain ⟨m,rfl,hm⟩:=up1 hn
 have h1:=h1 m (by omega)
 dsimp only at h1
 have h2:=h2 m (by omega)
 dsimp only at h2
 have h3:=h3 m (by omega)
 dsimp only at h3
 simp only [qAG,qDe,qC,qE,qG,qH,qJ,qK,Option.bind_some,qF,qM,qN,h1,h2,h3]
 by_cases k2:c.1=2
 ·simp [k2,h2]
 ·by_cases k3:c.1=3
  ·simp [k3,h3]
  ·simp [k2,k3]
theorem qVU (a b:Int):qGa a b a b=qBP a b:=by
 unfold qGa
 cases qBP a b<;>simp
theorem qR8 (c:Nd) (hb:c.2.2.2.2.1.size≤140737488351232):Ev (qDT · c.1 c.2.1 c.2.2.1 c.2.2.2.1 c.2.2.2.2.1 c.2.2.2.2.2.1 c.2.2.2.2.2.2.1 c.2.2.2.2.2.2.2.1 c.2.2.2.2.2.2.2.2.1 c.2.2.2.2.2.2.2.2.2.1 c.2.2.2.2.2.2.2.2.2.2.1 c.2.2.2.2.2.2.2.2.2.2.2.1 c.2.2.2.2.2.2.2.2.2.2.2.2.1 ((c.2.2.2.2.2.2.2.2.2.2.2.2.2).map qq)) (qFc c):=by
 obtain ⟨n1,g1⟩:=qGZ c.2.2.1 c.2.2.2.1 c.2.2.2.2.1 hb
 obtain ⟨n2,g2⟩:=qOx c
 obtain ⟨n3,g3⟩:=qRI c
 refine ⟨n1+n2+n3+1,fun n hn=>?_⟩
 obtain ⟨m,rfl,hm⟩:=up1 hn
 have g1:=g1 m (by omega)
 have g2:=g2 m (by omega)
 have g3:=g3 m (by omega)
 dsimp only at g1 g2 g3
 rw [qVU] at g2
 simp only [qDT,qEq,qC,qE,qG,qH,qJ,qK,Option.bind_some,qF,qM,qN,g1,g2,g3,qW9,qXB]
 simp only [beq_self_eq_true,Bool.and_true,Bool.true_and]
 unfold qFc
 by_cases k1:c.1=1
 ·have h5:(c.2.2.2.1≥0)=¬(c.2.2.2.1<0):=propext Int.not_lt.symm
  simp only [k1,h5]
  cases zP c.2.2.2.2.2.1 c.2.2.2.2.2.2.1 c.2.2.2.2.2.2.2.1 c.2.2.2.2.2.2.2.2.1<;>cases zP c.2.2.2.2.2.2.2.2.2.1 c.2.2.2.2.2.2.2.2.2.2.1 c.2.2.2.2.2.2.2.2.2.2.2.1 c.2.2.2.2.2.2.2.2.2.2.2.2.1<;>cases okV c.2.2.1 c.2.2.2.1 c.2.2.2.2.1<;>by_cases h0:c.2.1=0<;>by_cases h1:(kd c).length=0<;>by_cases h2:c.2.2.1=0<;>by_cases h3:c.2.2.1=1<;>by_cases h4:c.2.2.2.1<0<;>simp [h0,h1,h2,h3,h4]<;>(try omega)
 by_cases k2:c.1=2
 ·simp only [k2]
  cases zV c.2.2.1 c.2.2.2.1 c.2.2.2.2.1<;>cases zP c.2.2.2.2.2.2.2.2.2.1 c.2.2.2.2.2.2.2.2.2.2.1 c.2.2.2.2.2.2.2.2.2.2.2.1 c.2.2.2.2.2.2.2.2.2.2.2.2.1<;>cases qBP c.2.2.2.2.2.1 c.2.2.2.2.2.2.1<;>by_cases h0:c.2.1=0<;>by_cases h1:(kd c).length=0<;>simp [h0,h1]
 by_cases k3:c.1=3
 ·simp only [k3]
  cases zV c.2.2.1 c.2.2.2.1 c.2.2.2.2.1<;>cases qGa c.2.2.2.2.2.1 c.2.2.2.2.2.2.1 c.2.2.2.2.2.2.2.2.2.1 c.2.2.2.2.2.2.2.2.2.2.1<;>by_cases h0:c.2.1=0<;>by_cases h1:(kd c).length=0<;>simp [h0,h1]
 by_cases k4:c.1=4
 ·simp only [k4]
  cases zV c.2.2.1 c.2.2.2.1 c.2.2.2.2.1<;>cases zP c.2.2.2.2.2.1 c.2.2.2.2.2.2.1 c.2.2.2.2.2.2.2.1 c.2.2.2.2.2.2.2.2.1<;>cases zP c.2.2.2.2.2.2.2.2.2.1 c.2.2.2.2.2.2.2.2.2.2.1 c.2.2.2.2.2.2.2.2.2.2.2.1 c.2.2.2.2.2.2.2.2.2.2.2.2.1<;>by_cases h0:c.2.1=0<;>by_cases h1:(kd c).length=1<;>simp [h0,h1]
 by_cases k5:c.1=5
 ·simp only [k5]
  cases zV c.2.2.1 c.2.2.2.1 c.2.2.2.2.1<;>cases zP c.2.2.2.2.2.1 c.2.2.2.2.2.2.1 c.2.2.2.2.2.2.2.1 c.2.2.2.2.2.2.2.2.1<;>cases zP c.2.2.2.2.2.2.2.2.2.1 c.2.2.2.2.2.2.2.2.2.2.1 c.2.2.2.2.2.2.2.2.2.2.2.1 c.2.2.2.2.2.2.2.2.2.2.2.2.1<;>by_cases h0:1≤c.2.1∧c.2.1≤11<;>by_cases h1:(kd c).length=2<;>simp [h0,h1]
 by_cases k6:c.1=6
 ·simp only [k6]
  cases zV c.2.2.1 c.2.2.2.1 c.2.2.2.2.1<;>cases zP c.2.2.2.2.2.1 c.2.2.2.2.2.2.1 c.2.2.2.2.2.2.2.1 c.2.2.2.2.2.2.2.2.1<;>cases zP c.2.2.2.2.2.2.2.2.2.1 c.2.2.2.2.2.2.2.2.2.2.1 c.2.2.2.2.2.2.2.2.2.2.2.1 c.2.2.2.2.2.2.2.2.2.2.2.2.1<;>cases qI4 c.2.1 ((kd c).length:Int)<;>simp
 simp [k1,k2,k3,k4,k5,k6]
section
variable (own area call:Int→Bool) (kids:Int→List Int)
def goF (F:Int→Int) (n:Int):List Int→Int→Int
 | [],start=>start
 |k::r,start=>if k≠start-1∨k<0∨(area k=true∧call n=false) then-1 else if F k<0 then-1 else goF F n r (F k)
def qCw:Nat→Int→Int
 |0,_=> -1
 |f+1,n=>if n<0∨own n=false then-1 else goF area call (qCw f) n (kids n).reverse n
def goT (F:Int→Int):List Int→Int→Int
 | [],x=>x+1
 |k::r,x=>if x<0∨k≠x then-1 else if F x<0 then-1 else goT F r (F x-1)
def qC4:Nat→Int→Int
 |0,_=> -1
 |f+1,n=>goT (qC4 f) (kids n).reverse (n-1)
def qLI:List Int→Int
 | []=>0
 |x::r=>max x (qLI r)
def qA7:Nat→Int→Int
 |0,_=>0
 |f+1,n=>qLI ((kids n).map fun k=>qA7 f k)+1
def qHe (i:Int):Prop:=∀k∈kids i,0≤k∧k≤i-1∧¬(area k=true∧call i=false)
theorem qRJ:∀(f:Nat) (n:Int),0≤n→qC4 kids f n≤n
 |0,n,h=>by rw [qC4];omega
 |f+1,n,h=>by
  have go:∀(l:List Int) (x:Int),x+1≤n→-1≤x→goT (qC4 kids f) l x≤n:=by
   intro l
   induction l with
   |nil=>intro x h1 h2;rw [goT];omega
   |cons k r ih=>
    intro x h1 h2
    rw [goT]
    split
    ·omega
    ·split
     ·omega
     ·have:=qRJ f x (by omega)
      exact ih _ (by omega) (by omega)
  rw [qC4]
  exact go _ _ (by omega) (by omega)
theorem qUj {l:List Int} {b:Int} (h0:0≤b):qLI l≤b↔∀x∈l,x≤b:=by
 induction l with
 |nil=>simp [qLI,h0]
 |cons a r ih=>simp only [qLI,List.mem_cons,forall_eq_or_imp];rw [Int.max_le,ih]
theorem qRK {n b:Int} {f:Nat} (h0:1≤b):qA7 kids (f+1) n≤b↔∀k∈kids n,qA7 kids f k≤b-1:=by
 rw [qA7]
 constructor
 ·intro h k hk
  exact (qUj (l:=(kids n).map fun k=>qA7 kids f k) (by omega)).1 (by omega) _ (List.mem_map_of_mem (f:=fun k=>qA7 kids f k) hk)
 ·intro h
  have:=(qUj (l:=(kids n).map fun k=>qA7 kids f k) (b:=b-1) (by omega)).2 (by
   intro x hx
   obtain ⟨k,hk,rfl⟩:=List.mem_map.1 hx
   exact h k hk)
  omega
theorem qRL:∀(f g:Nat) (n:Int),n<f→n<g→(∀i,0≤i→i≤n→qHe area call kids i)→0≤n→qA7 kids f n=qA7 kids g n
 |0,g,n,h1,h2,_,h3=>by omega
 |f+1,0,n,h1,h2,_,h3=>by omega
 |f+1,g+1,n,h1,h2,hk,h3=>by
  rw [qA7,qA7]
  congr 2
  apply List.map_congr_left
  intro k hm
  have:=hk n h3 (by omega) k hm
  exact qRL f g k (by omega) (by omega) (fun i h0 h1=>hk i h0 (by omega)) (by omega)
theorem qOy:∀(f:Nat) (n:Int),0≤n→n<f→1≤qA7 kids f n
 |0,n,h,h'=>by omega
 |f+1,n,h,h'=>by
  rw [qA7]
  have:∀l:List Int,0≤qLI l:=by
   intro l
   induction l with
   |nil=>exact Int.le_refl 0
   |cons a r ih=>simp only [qLI];omega
  have:=this ((kids n).map fun k=>qA7 kids f k)
  omega
theorem qTJ:∀(f g:Nat) (n:Int),0≤n→n<g→0≤qCw own area call kids f n→
  qCw own area call kids f n≤n∧qC4 kids g n=qCw own area call kids f n∧(∀i,qCw own area call kids f n≤i→i≤n→own i=true∧qHe area call kids i)∧(∀h:Nat,(∀i,0≤i→i≤n→qHe area call kids i)→n<h→qA7 kids h n≤f)
 |0,g,n,h0,h1,h2=>by rw [qCw] at h2;omega
 |f+1,0,n,h0,h1,h2=>by omega
 |f+1,g+1,n,h0,h1,h2=>by
  rw [qCw] at h2⊢
  split at h2
  ·omega
  ·rename_i hc
   rw [if_neg hc]
   have go:∀(l:List Int) (s:Int),0≤s→s≤n→0≤goF area call (qCw own area call kids f) n l s→
     goF area call (qCw own area call kids f) n l s≤s∧goT (qC4 kids g) l (s-1)=goF area call (qCw own area call kids f) n l s∧(∀i,goF area call (qCw own area call kids f) n l s≤i→i≤s-1→own i=true∧qHe area call kids i)∧(∀k∈l,0≤k∧k≤n-1∧¬(area k=true∧call n=false))∧(∀h:Nat,(∀i,0≤i→i≤n→qHe area call kids i)→n<h→∀k∈l,qA7 kids h k≤f):=by
    intro l
    induction l with
    |nil=>
     intro s h3 h4 h5
     rw [goF] at h5⊢
     rw [goT]
     refine ⟨by omega,by omega,fun i _ _=>by omega,fun k hk=>(by cases hk),fun h _ _ k hk=>(by cases hk)⟩
    |cons k r ih=>
     intro s h3 h4 h5
     rw [goF] at h5⊢
     split at h5
     ·omega
     ·rename_i hd
      rw [if_neg hd]
      split at h5
      ·omega
      ·rename_i he
       rw [if_neg he]
       have hk:k=s-1:=by omega
       subst hk
       obtain ⟨a1,a2,a3,a4⟩:=qTJ f g (s-1) (by omega) (by omega) (by omega)
       obtain ⟨b1,b2,b3,b4,b5⟩:=ih _ (by omega) (by omega) h5
       refine ⟨by omega,?_,?_,?_,?_⟩
       ·rw [goT,if_neg (by omega),a2,if_neg he,b2]
       ·intro i i1 i2
        by_cases hi:qCw own area call kids f (s-1)≤i
        ·exact a3 i hi i2
        ·exact b3 i i1 (by omega)
       ·intro k hk
        rcases List.mem_cons.1 hk with rfl|hk
        ·exact ⟨by omega,by omega,fun h=>hd (.inr (.inr h))⟩
        ·exact b4 k hk
       ·intro h hx hy k hk
        rcases List.mem_cons.1 hk with rfl|hk
        ·exact a4 h (fun i i1 i2=>hx i i1 (by omega)) (by omega)
        ·exact b5 h hx hy k hk
   obtain ⟨c1,c2,c3,c4,c5⟩:=go _ n h0 (Int.le_refl n) h2
   have hown:own n=true:=by cases ho:own n with
    |true=>rfl
    |false=>exact absurd (.inr ho) hc
   refine ⟨c1,by rw [qC4];exact c2,?_,?_⟩
   ·intro i i1 i2
    by_cases hi:i=n
    ·subst hi
     exact ⟨hown,fun k hk=>c4 k (List.mem_reverse.2 hk)⟩
    ·exact c3 i i1 (by omega)
   ·intro h hx hy
    cases h with
    |zero=>omega
    |succ h=>
     refine (qRK kids (by omega)).2 fun k hk=>?_
     have hin:=hx n h0 (Int.le_refl n) k hk
     have e:qA7 kids h k=qA7 kids (n.toNat+1) k:=qRL area call kids _ _ _ (by omega) (by omega) (fun i i1 i2=>hx i i1 (by omega)) (by omega)
     rw [e]
     have:=c5 (n.toNat+1) hx (by omega) k (List.mem_reverse.2 hk)
     omega
theorem qUk:∀(f g h:Nat) (n:Int),0≤n→n<g→n<h→(∀i,0≤i→i≤n→own i=true∧qHe area call kids i)→0≤qC4 kids g n→qA7 kids h n≤f→qCw own area call kids f n=qC4 kids g n
 |0,g,h,n,h0,h1,h1',h2,h3,h4=>by have:=qOy kids h n h0 h1';omega
 |f+1,0,h,n,h0,h1,_,h2,h3,h4=>by omega
 |f+1,g+1,0,n,h0,h1,_,h2,h3,h4=>by omega
 |f+1,g+1,h+1,n,h0,h1,h1',h2,h3,h4=>by
  have hd:=(qRK kids (b:=((f+1:Nat):Int)) (by omega)).1 h4
  have go:∀(l:List Int) (s:Int),(∀k∈l,k∈kids n)→0≤s→s≤n→0≤goT (qC4 kids g) l (s-1)→goF area call (qCw own area call kids f) n l s=goT (qC4 kids g) l (s-1):=by
   intro l
   induction l with
   |nil=>intro s _ _ _ _;rw [goF,goT];omega
   |cons k r ih=>
    intro s hm h3 h4 h5
    rw [goT] at h5⊢
    rw [goF]
    split at h5
    ·omega
    ·rename_i hc
     rw [if_neg hc]
     split at h5
     ·omega
     ·rename_i he
      rw [if_neg he]
      have hk:k=s-1:=by omega
      have hin:=(h2 n h0 (Int.le_refl n)).2 k (hm k (List.mem_cons_self ..))
      have hdk:=hd k (hm k (List.mem_cons_self ..))
      subst hk
      have e:=qUk f g h (s-1) (by omega) (by omega) (by omega) (fun i i1 i2=>h2 i i1 (by omega)) (by omega) (by omega)
      have hb:¬(s-1≠s-1∨s-1<0∨(area (s-1)=true∧call n=false)):=fun hx=>by
       rcases hx with hx|hx|hx
       ·exact hx rfl
       ·omega
       ·exact hin.2.2 hx
      rw [if_neg hb,e,if_neg he]
      have hle:=qRJ kids g (s-1) (by omega)
      exact ih _ (fun k hk=>hm k (List.mem_cons_of_mem _ hk)) (by omega) (by omega) h5
  rw [qC4] at h3
  have hn:¬(n<0∨own n=false):=fun hx=>by
   rcases hx with hx|hx
   ·omega
   ·rw [(h2 n h0 (Int.le_refl n)).1] at hx;cases hx
  rw [qCw,qC4,if_neg hn]
  exact go _ n (fun k hk=>List.mem_reverse.1 hk) h0 (Int.le_refl n) h3
end
theorem qBi (c:Nd):(qa c).length=14:=rfl
theorem qBM (k:Int):(qq k).length=1:=rfl
theorem qAv (k:Int):zD .i64 (qq k) 0=some k:=rfl
theorem qAb (c:Nd):zD .i64 (qa c) 0=some c.1:=rfl
theorem qAc (c:Nd):zD .i64 (qa c) 1=some c.2.1:=rfl
theorem qAd (c:Nd):zD .i64 (qa c) 2=some c.2.2.1:=rfl
theorem qAe (c:Nd):zD .i64 (qa c) 3=some c.2.2.2.1:=rfl
theorem qAf (c:Nd):zT (qa c) 4=some c.2.2.2.2.1:=rfl
theorem qAg (c:Nd):zD .i64 (qa c) 5=some c.2.2.2.2.2.1:=rfl
theorem qAh (c:Nd):zD .i64 (qa c) 6=some c.2.2.2.2.2.2.1:=rfl
theorem qAi (c:Nd):zAZ (qa c) 7=some c.2.2.2.2.2.2.2.1:=rfl
theorem qAj (c:Nd):zAZ (qa c) 8=some c.2.2.2.2.2.2.2.2.1:=rfl
theorem qAk (c:Nd):zD .i64 (qa c) 9=some c.2.2.2.2.2.2.2.2.2.1:=rfl
theorem q9 (c:Nd):zD .i64 (qa c) 10=some c.2.2.2.2.2.2.2.2.2.2.1:=rfl
theorem qAA (c:Nd):zAZ (qa c) 11=some c.2.2.2.2.2.2.2.2.2.2.2.1:=rfl
theorem qAB (c:Nd):zAZ (qa c) 12=some c.2.2.2.2.2.2.2.2.2.2.2.2.1:=rfl
theorem qAC (c:Nd):zg (qa c) 13=some ((c.2.2.2.2.2.2.2.2.2.2.2.2.2).map qq):=rfl
def nd0:Nd:=(0,0,0,0,⟨#[]⟩,0,0,false,false,0,0,false,false,[])
def ndi (l:List Nd) (i:Int):Nd:=l.getD i.toNat nd0
def qV (l:List Nd) (i:Int):List Int:=kd (ndi l i)
def qGr (l:List Nd) (i:Int):Bool:=qFc (ndi l i)
def qBn (l:List Nd) (i:Int):Bool:=decide ((ndi l i).1=3)
def qCN (l:List Nd) (i:Int):Bool:=decide ((ndi l i).1=6)
theorem qC8 {l:List Nd} {i:Int} (h:0≤i∧i<l.length):l[i.toNat]?=some (ndi l i):=by
 have:i.toNat<l.length:=by omega
 unfold ndi
 rw [List.getElem?_eq_getElem this,List.getD_eq_getElem?_getD,List.getElem?_eq_getElem this]
 rfl
theorem qJl {l:List Nd} {i:Int} (h:0≤i∧i<l.length):ndi l i∈l:=List.mem_of_getElem? (qC8 h)
theorem qTq {α:Type} {l:List α} {j:Nat} {k:α} (h:l[j]?=some k):(l.take (j+1)).reverse=k::(l.take j).reverse:=by
 rw [List.take_add_one,h]
 simp
theorem qTr {R:Type} {F:Int→Nat→Option R} {f:Int→R} (x:Int) (h:∀y,0≤y→y<x→Ev (F y) (f y)):∃n0,∀n,n0≤n→∀y,0≤y→y<x→F y n=some (f y):=by
 obtain ⟨n0,h0⟩:=qAa (F:=F) (f:=f) ((List.range x.toNat).map fun (i:Nat)=>(i:Int)) (fun c hc=>by
  obtain ⟨i,hi,rfl⟩:=List.mem_map.1 hc
  have:=List.mem_range.1 hi
  exact h _ (Int.natCast_nonneg i) (by omega))
 refine ⟨n0,fun n hn y h1 h2=>h0 n hn y (List.mem_map.2 ⟨y.toNat,List.mem_range.2 (by omega),by omega⟩)⟩
theorem qSV (l:List Nd) (x1:Int) (f n:Nat) (hx:0≤x1∧x1<l.length) (hl:l.length≤140737488351232) (hk:(kd (ndi l x1)).length≤140737488351232)
  (hrec:∀y:Int,0≤y→y<x1→qAx n (l.map qa) y=some (qC4 (qV l) f y)):
  ∀(j M:Nat) (s:Int),j≤(kd (ndi l x1)).length→j+1≤M→-1≤s→s<x1→
   (∃x,zC (qBD (qAx n) n) M (l.map qa,x1,s,(j:Int)-1)=some (.inr x)∧goT (qC4 (qV l) f) ((qV l x1).take j).reverse s=x+1∧-1≤x∧x<x1)∨
   (zC (qBD (qAx n) n) M (l.map qa,x1,s,(j:Int)-1)=some (.inl (-1))∧goT (qC4 (qV l) f) ((qV l x1).take j).reverse s= -1)
 |0,0,s,h1,h2,h3,h4=>by omega
 |0,M+1,s,h1,h2,h3,h4=>by
  refine .inl ⟨s,?_,by simp [goT],h3,h4⟩
  rw [qP (r:= .inr s) (by simp [-getElem?_pos,qBD,qC,qE,qG,qH,qJ,qK,Option.bind_some,qF,qM,qN])]
 |j+1,0,s,h1,h2,h3,h4=>by omega
 |j+1,M+1,s,h1,h2,h3,h4=>by
  have hc:=qC8 hx
  have hj:j<(kd (ndi l x1)).length:=by omega
  have hg:(qV l x1)[j]?=some (qV l x1)[j]:=List.getElem?_eq_getElem hj
  have ih:=qSV l x1 f n hx hl hk hrec j M
  rw [qTq hg]
  generalize (qV l x1)[j]=k at hg
  have hi:(((j+1:Nat):Int)-1)=(j:Int):=by omega
  rw [hi,goT]
  have hg':(ndi l x1).2.2.2.2.2.2.2.2.2.2.2.2.2[j]?=some k:=hg
  have hj':j<(ndi l x1).2.2.2.2.2.2.2.2.2.2.2.2.2.length:=hj
  by_cases hs:s<0
  ·refine .inr ⟨?_,by rw [if_pos (.inl hs)]⟩
   rw [qP (r:= .inl (-1)) (by simp [-getElem?_pos,qBD,qC,qE,qG,qH,qJ,qK,Option.bind_some,qF,qM,qN,hs])]
  ·by_cases hks:k=s
   ·subst hks
    have hr:=hrec k (by omega) h4
    by_cases ht:qC4 (qV l) f k<0
    ·refine .inr ⟨?_,by rw [if_neg (by omega),if_pos ht]⟩
     rw [qP (r:= .inl (-1)) (by simp [-getElem?_pos,qBD,qC,qE,qG,qH,qJ,qK,Option.bind_some,qF,qM,qN,hs,hc,hx,qBi,qBM,qAv,qAb,qAc,qAd,qAe,qAf,qAg,qAh,qAi,qAj,qAk,q9,qAA,qAB,qAC,hg',hj',hr,ht])]
    ·have hle:=qRJ (qV l) f k (by omega)
     have hw:IntKind.i64.wrap (qC4 (qV l) f k-1)=qC4 (qV l) f k-1:=qT (by omega)
     have hw2:IntKind.i64.wrap ((j:Int)-1)=(j:Int)-1:=qT (by omega)
     rw [if_neg (by omega),if_neg ht]
     rw [qU (v':=(l.map qa,x1,qC4 (qV l) f k-1,(j:Int)-1)) (by simp [-getElem?_pos,qBD,qC,qE,qG,qH,qJ,qK,Option.bind_some,qF,qM,qN,hs,hc,hx,qBi,qBM,qAv,qAb,qAc,qAd,qAe,qAf,qAg,qAh,qAi,qAj,qAk,q9,qAA,qAB,qAC,hg',hj',hr,ht,hw,hw2])]
     exact ih _ (by omega) (by omega) (by omega) (by omega)
   ·refine .inr ⟨?_,by rw [if_pos (.inr hks)]⟩
    rw [qP (r:= .inl (-1)) (by simp [-getElem?_pos,qBD,qC,qE,qG,qH,qJ,qK,Option.bind_some,qF,qM,qN,hs,hc,hx,qBi,qBM,qAv,qAb,qAc,qAd,qAe,qAf,qAg,qAh,qAi,qAj,qAk,q9,qAA,qAB,qAC,hg',hj',hks])]
theorem qLJ (l:List Nd) (hl:l.length≤140737488351232) (hk:∀c∈l,(kd c).length≤140737488351232):∀(f:Nat) (x:Int),0≤x→x<l.length→x<f→Ev (qAx · (l.map qa) x) (qC4 (qV l) f x)
 |0,x,h0,h1,h2=>by omega
 |f+1,x,h0,h1,h2=>by
  obtain ⟨n0,hn0⟩:=qTr (F:=fun y n=>qAx n (l.map qa) y) (f:=fun y=>qC4 (qV l) f y) x (fun y h3 h4=>qLJ l hl hk f y h3 (by omega) (by omega))
  refine ⟨n0+(kd (ndi l x)).length+5,fun n hn=>?_⟩
  obtain ⟨m,rfl,hm⟩:=up1 hn
  have hc:=qC8 (l:=l) (i:=x) ⟨h0,h1⟩
  have hkx:=hk _ (qJl (l:=l) ⟨h0,h1⟩)
  have hw:IntKind.i64.wrap (x-1)=x-1:=qT (by omega)
  have hw2:IntKind.i64.wrap (((kd (ndi l x)).length:Int)-1)=((kd (ndi l x)).length:Int)-1:=qT (by omega)
  have h:=qSV l x f m ⟨h0,h1⟩ hl hkx (hn0 m (by omega)) (kd (ndi l x)).length m (x-1) (Nat.le_refl _) (by omega) (by omega) (by omega)
  have e:(qV l x).take (kd (ndi l x)).length=qV l x:=List.take_length
  rw [e] at h
  rw [show qC4 (qV l) (f+1) x=goT (qC4 (qV l) f) (qV l x).reverse (x-1) from rfl]
  unfold kd at h hw2
  dsimp only
  simp only [qAx,qIL,qC,qE,qG,qH,qJ,qK,Option.bind_some,qF,qM,qN]
  rcases h with ⟨y,g1,g2,g3,g4⟩|⟨g1,g2⟩
  ·have hw3:IntKind.i64.wrap (y+1)=y+1:=qT (by omega)
   rw [g2]
   simp [-getElem?_pos,qC,qE,qG,qH,qJ,qK,Option.bind_some,qF,qM,qN,hc,h0,h1,qBi,qBM,qAv,qAb,qAc,qAd,qAe,qAf,qAg,qAh,qAi,qAj,qAk,q9,qAA,qAB,qAC,hw,hw2,g1,hw3]
  ·rw [g2]
   simp [-getElem?_pos,qC,qE,qG,qH,qJ,qK,Option.bind_some,qF,qM,qN,hc,h0,h1,qBi,qBM,qAv,qAb,qAc,qAd,qAe,qAf,qAg,qAh,qAi,qAj,qAk,q9,qAA,qAB,qAC,hw,hw2,g1]
theorem qOz (kids:Int→List Int):∀(f:Nat) (n:Int),0≤qA7 kids f n∧qA7 kids f n≤f
 |0,n=>by rw [qA7];omega
 |f+1,n=>by
  have:∀l:List Int,0≤qLI (l.map fun k=>qA7 kids f k)∧qLI (l.map fun k=>qA7 kids f k)≤f:=by
   intro l
   induction l with
   |nil=>exact ⟨Int.le_refl 0,Int.natCast_nonneg f⟩
   |cons a r ih=>have:=qOz kids f a;simp only [List.map_cons,qLI];omega
  have:=this (kids n)
  rw [qA7]
  omega
theorem qSW (l:List Nd) (x1:Int) (f n:Nat) (hx:0≤x1∧x1<l.length) (hf:f≤1000) (hk:(kd (ndi l x1)).length≤140737488351232)
  (hrec:∀k∈qV l x1,qAy n (l.map qa) k=some (qA7 (qV l) f k)):
  ∀(m i M:Nat) (a:Int),(kd (ndi l x1)).length=i+m→m+1≤M→0≤a→
   zC (qDE (qAy n) n) M (l.map qa,x1,a,(i:Int))=some (max a (qLI (((qV l x1).drop i).map fun k=>qA7 (qV l) f k)))
 |m,i,0,a,h1,h2,h3=>by omega
 |0,i,M+1,a,h1,h2,h3=>by
  have hc:=qC8 hx
  have hi:¬i<(ndi l x1).2.2.2.2.2.2.2.2.2.2.2.2.2.length:=by unfold kd at h1;omega
  rw [qP (r:=a) (by simp [-getElem?_pos,qDE,qC,qE,qG,qH,qJ,qK,Option.bind_some,qF,qM,qN,hc,hx,qBi,qBM,qAv,qAb,qAc,qAd,qAe,qAf,qAg,qAh,qAi,qAj,qAk,q9,qAA,qAB,qAC,hi])]
  rw [List.drop_eq_nil_of_le (by unfold qV;omega)]
  simp only [List.map_nil,qLI]
  congr 1
  omega
 |m+1,i,M+1,a,h1,h2,h3=>by
  have hc:=qC8 hx
  have hj:i<(kd (ndi l x1)).length:=by omega
  have hg:(qV l x1)[i]?=some (qV l x1)[i]:=List.getElem?_eq_getElem hj
  rw [qDc hg]
  have hr:=hrec _ (List.mem_of_getElem? hg)
  generalize (qV l x1)[i]=k at hg hr
  have hg':(ndi l x1).2.2.2.2.2.2.2.2.2.2.2.2.2[i]?=some k:=hg
  have hj':i<(ndi l x1).2.2.2.2.2.2.2.2.2.2.2.2.2.length:=hj
  have hj'':(i:Int)<((ndi l x1).2.2.2.2.2.2.2.2.2.2.2.2.2.length:Int):=by omega
  have hw:IntKind.i64.wrap ((i:Int)+1)=((i+1:Nat):Int):=by rw [qT (by omega)];omega
  have hd:=qOz (qV l) f k
  rw [qU (v':=(l.map qa,x1,(if qA7 (qV l) f k>a then qA7 (qV l) f k else a),((i+1:Nat):Int))) (by simp [-getElem?_pos,qDE,qC,qE,qG,qH,qJ,qK,Option.bind_some,qF,qM,qN,hc,hx,qBi,qBM,qAv,qAb,qAc,qAd,qAe,qAf,qAg,qAh,qAi,qAj,qAk,q9,qAA,qAB,qAC,hg',hj',hr,hw])]
  rw [qSW l x1 f n hx hf hk hrec m (i+1) M _ (by omega) (by omega) (by split<;>omega)]
  simp only [List.map_cons,qLI]
  congr 1
  split<;>omega
theorem qLK (l:List Nd) (hl:l.length≤60) (hk:∀c∈l,(kd c).length≤140737488351232) (hin:∀i:Int,0≤i→i<l.length→qHe (qBn l) (qCN l) (qV l) i):∀(f:Nat) (x:Int),f≤1000→0≤x→x<l.length→x<f→Ev (qAy · (l.map qa) x) (qA7 (qV l) f x)
 |0,x,hf,h0,h1,h2=>by omega
 |f+1,x,hf,h0,h1,h2=>by
  obtain ⟨n0,hn0⟩:=qAa (F:=fun y n=>qAy n (l.map qa) y) (f:=fun y=>qA7 (qV l) f y) (qV l x) (fun y hy=>by
   have:=hin x h0 h1 y hy
   exact qLK l hl hk hin f y (by omega) (by omega) (by omega) (by omega))
  refine ⟨n0+(kd (ndi l x)).length+5,fun n hn=>?_⟩
  obtain ⟨m,rfl,hm⟩:=up1 hn
  have h:=qSW l x f m ⟨h0,h1⟩ (by omega) (hk _ (qJl (l:=l) ⟨h0,h1⟩)) (hn0 m (by omega)) (kd (ndi l x)).length 0 m 0 (by omega) (by omega) (by omega)
  have hd:=qOz (qV l) (f+1) x
  have e:max 0 (qLI ((qV l x).map fun k=>qA7 (qV l) f k))+1=qA7 (qV l) (f+1) x:=by
   rw [qA7]
   have:∀q:List Int,0≤qLI q:=by
    intro q
    induction q with
    |nil=>exact Int.le_refl 0
    |cons a r ih=>simp only [qLI];omega
   have:=this ((qV l x).map fun k=>qA7 (qV l) f k)
   omega
  rw [List.drop_zero] at h
  simp only [Int.natCast_zero] at h
  have hw:IntKind.i64.wrap (max 0 (qLI ((qV l x).map fun k=>qA7 (qV l) f k))+1)=qA7 (qV l) (f+1) x:=by rw [e,qT (by omega)]
  simp only [qAy,qIN,qC,qE,qG,qH,qJ,qK,Option.bind_some,qF,qM,qN,h,hw]
def inB (l:List Nd) (i:Int):Bool:=(qV l i).all fun k=>decide (0≤k∧k≤i-1)&&!(qBn l k&&!qCN l i)
theorem qUl {l:List Nd} {i:Int}:inB l i=true↔qHe (qBn l) (qCN l) (qV l) i:=by
 unfold inB qHe
 rw [List.all_eq_true]
 refine forall_congr' fun k=>forall_congr' fun hk=>?_
 cases qBn l k<;>cases qCN l i<;>simp
theorem qTK (l:List Nd) (x1:Int) (n:Nat) (hx:0≤x1∧x1<l.length) (hl:l.length≤60) (hk:(kd (ndi l x1)).length≤140737488351232):
  ∀(m i M:Nat),(kd (ndi l x1)).length=i+m→m+1≤M→
   zC (qAq (n+1)) M (l.map qa,x1,(i:Int))=some (if ((qV l x1).drop i).all (fun k=>decide (0≤k∧k≤x1-1)&&!(qBn l k&&!qCN l x1))=true then .inr (l.map qa,x1) else .inl false)
 |m,i,0,h1,h2=>by omega
 |0,i,M+1,h1,h2=>by
  have hc:=qC8 hx
  have hi:¬i<(ndi l x1).2.2.2.2.2.2.2.2.2.2.2.2.2.length:=by unfold kd at h1;omega
  rw [qP (r:= .inr (l.map qa,x1)) (by simp [-getElem?_pos,qAq,qC,qE,qG,qH,qJ,qK,Option.bind_some,qF,qM,qN,hc,hx,qBi,qBM,qAv,qAb,qAc,qAd,qAe,qAf,qAg,qAh,qAi,qAj,qAk,q9,qAA,qAB,qAC,hi])]
  rw [List.drop_eq_nil_of_le (by unfold qV;omega)]
  rfl
 |m+1,i,M+1,h1,h2=>by
  have hc:=qC8 hx
  have hj:i<(kd (ndi l x1)).length:=by omega
  have hg:(qV l x1)[i]?=some (qV l x1)[i]:=List.getElem?_eq_getElem hj
  rw [qDc hg]
  generalize (qV l x1)[i]=k at hg
  have hg':(ndi l x1).2.2.2.2.2.2.2.2.2.2.2.2.2[i]?=some k:=hg
  have hj':i<(ndi l x1).2.2.2.2.2.2.2.2.2.2.2.2.2.length:=hj
  have hw:IntKind.i64.wrap ((i:Int)+1)=((i+1:Nat):Int):=by rw [qT (by omega)];omega
  have hw2:IntKind.i64.wrap (x1-1)=x1-1:=qT (by omega)
  have hin:qA1 (n+1) k 0 (x1-1)=some (decide (0≤k∧k≤x1-1)):=by
   simp only [qA1,qHr,qC,qE,qG,qH,qJ,qK,Option.bind_some,qF,qM,qN]
   by_cases h:k≥0<;>simp [h]
  rw [List.all_cons]
  by_cases hr:0≤k∧k≤x1-1
  ·have hck:=qC8 (l:=l) (i:=k) ⟨hr.1,by omega⟩
   have hkl:k<(l.length:Int):=by omega
   by_cases ha:(ndi l k).1=3
   ·by_cases hcl:(ndi l x1).1=6
    ·rw [qU (v':=(l.map qa,x1,((i+1:Nat):Int))) (by simp [-getElem?_pos,qAq,qC,qE,qG,qH,qJ,qK,Option.bind_some,qF,qM,qN,hc,hx,qBi,qBM,qAv,qAb,qAc,qAd,qAe,qAf,qAg,qAh,qAi,qAj,qAk,q9,qAA,qAB,qAC,hg',hj',hw,hw2,hin,hr,hck,hkl,ha,hcl])]
     rw [qTK l x1 n hx hl hk m (i+1) M (by omega) (by omega)]
     simp [hr,qBn,qCN,ha,hcl]
    ·rw [qP (r:= .inl false) (by simp [-getElem?_pos,qAq,qC,qE,qG,qH,qJ,qK,Option.bind_some,qF,qM,qN,hc,hx,qBi,qBM,qAv,qAb,qAc,qAd,qAe,qAf,qAg,qAh,qAi,qAj,qAk,q9,qAA,qAB,qAC,hg',hj',hw,hw2,hin,hr,hck,hkl,ha,hcl])]
     simp [hr,qBn,qCN,ha,hcl]
   ·rw [qU (v':=(l.map qa,x1,((i+1:Nat):Int))) (by simp [-getElem?_pos,qAq,qC,qE,qG,qH,qJ,qK,Option.bind_some,qF,qM,qN,hc,hx,qBi,qBM,qAv,qAb,qAc,qAd,qAe,qAf,qAg,qAh,qAi,qAj,qAk,q9,qAA,qAB,qAC,hg',hj',hw,hw2,hin,hr,hck,hkl,ha])]
    rw [qTK l x1 n hx hl hk m (i+1) M (by omega) (by omega)]
    simp [hr,qBn,qCN,ha]
  ·rw [qP (r:= .inl false) (by simp [-getElem?_pos,qAq,qC,qE,qG,qH,qJ,qK,Option.bind_some,qF,qM,qN,hc,hx,qBi,qBM,qAv,qAb,qAc,qAd,qAe,qAf,qAg,qAh,qAi,qAj,qAk,q9,qAA,qAB,qAC,hg',hj',hw2,hin,hr])]
   simp [hr]
def qF5 (l:List Nd) (i m:Nat):Bool:=(List.range' i m).all fun (i:Nat)=>qGr l (i:Int)&&inB l (i:Int)
theorem qGG {l:List Nd}:qF5 l 0 l.length=true↔∀i:Int,0≤i→i<l.length→qGr l i=true∧qHe (qBn l) (qCN l) (qV l) i:=by
 unfold qF5
 rw [List.all_eq_true]
 constructor
 ·intro h i h0 h1
  have:=h i.toNat (by rw [List.mem_range'];exact ⟨i.toNat,by omega,by omega⟩)
  rw [show ((i.toNat:Nat):Int)=i by omega,Bool.and_eq_true,qUl] at this
  exact this
 ·intro h i hi
  rw [List.mem_range'] at hi
  obtain ⟨j,hj,rfl⟩:=hi
  rw [Bool.and_eq_true,qUl]
  exact h _ (by omega) (by omega)
theorem qUm (l:List Nd) (n:Nat) (hl:l.length≤60) (hk:∀c∈l,(kd c).length≤140737488351232) (hn:∀c∈l,(kd c).length+2≤n)
  (hok:∀c∈l,qCB n c.1 c.2.1 c.2.2.1 c.2.2.2.1 c.2.2.2.2.1 c.2.2.2.2.2.1 c.2.2.2.2.2.2.1 c.2.2.2.2.2.2.2.1 c.2.2.2.2.2.2.2.2.1 c.2.2.2.2.2.2.2.2.2.1 c.2.2.2.2.2.2.2.2.2.2.1 c.2.2.2.2.2.2.2.2.2.2.2.1 c.2.2.2.2.2.2.2.2.2.2.2.2.1 ((c.2.2.2.2.2.2.2.2.2.2.2.2.2).map qq)=some (qFc c)):
  ∀(m i M:Nat),l.length=i+m→m+1≤M→
   zC (qBF n) M (l.map qa,(i:Int))=some (if qF5 l i m=true then .inr (l.map qa) else .inl false)
 |m,i,0,h1,h2=>by omega
 |0,i,M+1,h1,h2=>by
  have hi:¬(i:Int)<(l.length:Int):=by omega
  rw [qP (r:= .inr (l.map qa)) (by simp [-getElem?_pos,qBF,qC,qE,qG,qH,qJ,qK,Option.bind_some,qF,qM,qN,hi])]
  rfl
 |m+1,i,M+1,h1,h2=>by
  have hi:(i:Int)<(l.length:Int):=by omega
  have hx:0≤(i:Int)∧(i:Int)<l.length:=⟨by omega,hi⟩
  have hc:=qC8 hx
  have hm:=qJl hx
  have ho:=hok _ hm
  have hw:IntKind.i64.wrap ((i:Int)+1)=((i+1:Nat):Int):=by rw [qT (by omega)];omega
  have hnn:=hn _ hm
  obtain ⟨q,rfl⟩:∃q,n=q+1:=⟨n-1,by omega⟩
  have hlp:=qTK l i q hx hl (hk _ hm) (kd (ndi l i)).length 0 (q+1) (by omega) (by omega)
  rw [List.drop_zero,show ((qV l (i:Int)).all fun k=>decide (0≤k∧k≤(i:Int)-1)&&!(qBn l k&&!qCN l (i:Int)))=inB l i from rfl] at hlp
  simp only [Int.natCast_zero] at hlp
  have e:qF5 l i (m+1)=(qGr l i&&inB l i&&qF5 l (i+1) m):=by unfold qF5;rw [List.range'_succ,List.all_cons]
  rw [e]
  rw [Int.toNat_natCast] at hc
  cases hnb:qFc (ndi l i) with
  |false=>
   rw [hnb] at ho
   rw [qP (r:= .inl false) (by simp [-getElem?_pos,qBF,qC,qE,qG,qH,qJ,qK,Option.bind_some,qF,qM,qN,hi,hc,qBi,qBM,qAv,qAb,qAc,qAd,qAe,qAf,qAg,qAh,qAi,qAj,qAk,q9,qAA,qAB,qAC,ho])]
   simp [qGr,hnb]
  |true=>
   rw [hnb] at ho
   cases hib:inB l i with
   |false=>
    rw [hib] at hlp
    rw [qP (r:= .inl false) (by simp [-getElem?_pos,qBF,qC,qE,qG,qH,qJ,qK,Option.bind_some,qF,qM,qN,hi,hc,qBi,qBM,qAv,qAb,qAc,qAd,qAe,qAf,qAg,qAh,qAi,qAj,qAk,q9,qAA,qAB,qAC,ho,hlp])]
    simp
   |true=>
    rw [hib] at hlp
    rw [qU (v':=(l.map qa,((i+1:Nat):Int))) (by simp [-getElem?_pos,qBF,qC,qE,qG,qH,qJ,qK,Option.bind_some,qF,qM,qN,hi,hc,qBi,qBM,qAv,qAb,qAc,qAd,qAe,qAf,qAg,qAh,qAi,qAj,qAk,q9,qAA,qAB,qAC,ho,hlp,hw])]
    rw [qUm l (q+1) hl hk hn hok m (i+1) M (by omega) (by omega)]
    simp [qGr,hnb]
def qGH (l:List Nd):Bool:=decide (1≤l.length∧l.length≤60)&&(qF5 l 0 l.length&&(decide (qC4 (qV l) l.length ((l.length:Int)-1)=0)&&(!qBn l ((l.length:Int)-1)&&decide (qA7 (qV l) l.length ((l.length:Int)-1)≤12))))
theorem qH8 (l:List Nd) (hk:∀c∈l,(kd c).length≤140737488351232∧c.2.2.2.2.1.size≤140737488351232):Ev (qBq · (l.map qa)) (qGH l):=by
 by_cases h1:1≤l.length
 ·by_cases h60:l.length≤60
  ·have hk1:∀c∈l,(kd c).length≤140737488351232:=fun c hc=>(hk c hc).1
   obtain ⟨n1,g1⟩:=qAa (F:=fun (c:Nd) n=>qCB n c.1 c.2.1 c.2.2.1 c.2.2.2.1 c.2.2.2.2.1 c.2.2.2.2.2.1 c.2.2.2.2.2.2.1 c.2.2.2.2.2.2.2.1 c.2.2.2.2.2.2.2.2.1 c.2.2.2.2.2.2.2.2.2.1 c.2.2.2.2.2.2.2.2.2.2.1 c.2.2.2.2.2.2.2.2.2.2.2.1 c.2.2.2.2.2.2.2.2.2.2.2.2.1 ((c.2.2.2.2.2.2.2.2.2.2.2.2.2).map qq)) (f:=qFc) l (fun c hc=>qI5 c (hk c hc).2)
   obtain ⟨n2,g2⟩:=qAa (F:=fun (c:Nd) n=>if (kd c).length+2≤n then some () else none) (f:=fun _=>()) l (fun c hc=>⟨(kd c).length+2,fun n hn=>if_pos hn⟩)
   obtain ⟨n3,g3⟩:=qLJ l (by omega) hk1 l.length ((l.length:Int)-1) (by omega) (by omega) (by omega)
   obtain ⟨n4,g4⟩:∃n0,qF5 l 0 l.length=true→∀n,n0≤n→qAy n (l.map qa) ((l.length:Int)-1)=some (qA7 (qV l) l.length ((l.length:Int)-1)):=by
    by_cases ho:qF5 l 0 l.length=true
    ·obtain ⟨n4,g4⟩:=qLK l h60 hk1 (fun (i:Int) h0 h1=>(qGG.1 ho i h0 h1).2) l.length ((l.length:Int)-1) (by omega) (by omega) (by omega) (by omega)
     exact ⟨n4,fun _=>g4⟩
    ·exact ⟨0,fun h=>absurd h ho⟩
   refine ⟨n1+n2+n3+n4+l.length+5,fun n hn=>?_⟩
   obtain ⟨m,rfl,hm⟩:=up1 hn
   have hlp:=qUm l m h60 hk1 (fun c hc=>by
    have:=g2 m (by omega) c hc
    split at this
    ·assumption
    ·cases this) (g1 m (by omega)) l.length 0 m (by omega) (by omega)
   have g3:=g3 m (by omega)
   dsimp only at g3
   simp only [Int.natCast_zero] at hlp
   have hw:IntKind.i64.wrap ((l.length:Int)-1)=(l.length:Int)-1:=qT (by omega)
   have hx:0≤(l.length:Int)-1∧(l.length:Int)-1<l.length:=by omega
   have hc:=qC8 hx
   have a1:¬(l.length:Int)<1:=by omega
   have a2:¬(l.length:Int)>60:=by omega
   generalize hxe:(l.length:Int)-1=x at hw hx hc g3 g4⊢
   simp only [qBq,qDF,qC,qE,qG,qH,qJ,qK,Option.bind_some,qF,qM,qN,List.length_map,decide_eq_true_eq,a1,a2,if_false,hlp]
   unfold qGH
   rw [hxe]
   cases ho:qF5 l 0 l.length with
   |false=>simp [qC,qE,qG,qH,qJ,qK,Option.bind_some,qF,qM,qN]
   |true=>
    have g4:=g4 ho m (by omega)
    simp only [if_true,qC,qE,qG,qH,qJ,qK,Option.bind_some,qF,qM,qN,List.length_map,hxe,hw,g3]
    by_cases ht:qC4 (qV l) l.length x=0
    ·by_cases ha:(ndi l x).1=3
     ·simp [-getElem?_pos,qC,qE,qG,qH,qJ,qK,Option.bind_some,qF,qM,qN,ht,hx,hc,qBi,qBM,qAv,qAb,qAc,qAd,qAe,qAf,qAg,qAh,qAi,qAj,qAk,q9,qAA,qAB,qAC,ha,qBn]
     ·simp [-getElem?_pos,qC,qE,qG,qH,qJ,qK,Option.bind_some,qF,qM,qN,ht,hx,hc,qBi,qBM,qAv,qAb,qAc,qAd,qAe,qAf,qAg,qAh,qAi,qAj,qAk,q9,qAA,qAB,qAC,ha,qBn,g4,h1,h60]
    ·simp [-getElem?_pos,qC,qE,qG,qH,qJ,qK,Option.bind_some,qF,qM,qN,ht]
  ·refine ⟨1,fun n hn=>?_⟩
   obtain ⟨m,rfl,hm⟩:=up1 (n0:=0) hn
   have a1:¬(l.length:Int)<1:=by omega
   have a2:(l.length:Int)>60:=by omega
   simp [-getElem?_pos,qBq,qDF,qC,qE,qG,qH,qJ,qK,Option.bind_some,qF,qM,qN,a1,a2,qGH,h60]
 ·refine ⟨1,fun n hn=>?_⟩
  obtain ⟨m,rfl,hm⟩:=up1 (n0:=0) hn
  have a1:(l.length:Int)<1:=by omega
  simp [-getElem?_pos,qBq,qDF,qC,qE,qG,qH,qJ,qK,Option.bind_some,qF,qM,qN,a1,qGH,h1]
theorem qSX (l:List Nd) (x1 d:Int) (f n:Nat) (hx:0≤x1∧x1<l.length) (hl:l.length≤140737488351232) (hd:0≤d∧d≤1000) (hk:(kd (ndi l x1)).length≤140737488351232)
  (hrec:∀y:Int,0≤y→y<x1→qAr n (l.map qa) y (d+1)=some (qCw (qGr l) (qBn l) (qCN l) (qV l) f y)):
  ∀(j M:Nat) (s:Int),j≤(kd (ndi l x1)).length→j+1≤M→0≤s→s≤x1→
   zC (qAY (qAr n) n) M (l.map qa,x1,d,s,(j:Int)-1)=some (.inr (goF (qBn l) (qCN l) (qCw (qGr l) (qBn l) (qCN l) (qV l) f) x1 ((qV l x1).take j).reverse s))∨
   (zC (qAY (qAr n) n) M (l.map qa,x1,d,s,(j:Int)-1)=some (.inl (-1))∧goF (qBn l) (qCN l) (qCw (qGr l) (qBn l) (qCN l) (qV l) f) x1 ((qV l x1).take j).reverse s= -1)
 |0,0,s,h1,h2,h3,h4=>by omega
 |0,M+1,s,h1,h2,h3,h4=>by
  refine .inl ?_
  rw [qP (r:= .inr s) (by simp [-getElem?_pos,qAY,qC,qE,qG,qH,qJ,qK,Option.bind_some,qF,qM,qN])]
  simp [goF]
 |j+1,0,s,h1,h2,h3,h4=>by omega
 |j+1,M+1,s,h1,h2,h3,h4=>by
  have hc:=qC8 hx
  have hj:j<(kd (ndi l x1)).length:=by omega
  have hg:(qV l x1)[j]?=some (qV l x1)[j]:=List.getElem?_eq_getElem hj
  have ih:=qSX l x1 d f n hx hl hd hk hrec j M
  rw [qTq hg]
  generalize (qV l x1)[j]=k at hg
  have hi:(((j+1:Nat):Int)-1)=(j:Int):=by omega
  rw [hi,goF]
  have hg':(ndi l x1).2.2.2.2.2.2.2.2.2.2.2.2.2[j]?=some k:=hg
  have hj':j<(ndi l x1).2.2.2.2.2.2.2.2.2.2.2.2.2.length:=hj
  have hws:IntKind.i64.wrap (s-1)=s-1:=qT (by omega)
  by_cases hks:k=s-1
  ·by_cases hk0:k<0
   ·refine .inr ⟨?_,by rw [if_pos (.inr (.inl hk0))]⟩
    rw [qP (r:= .inl (-1)) (by simp [-getElem?_pos,qAY,qC,qE,qG,qH,qJ,qK,Option.bind_some,qF,qM,qN,hc,hx,qBi,qBM,qAv,qAb,qAc,qAd,qAe,qAf,qAg,qAh,qAi,qAj,qAk,q9,qAA,qAB,qAC,hg',hj',hks,hws,show s-1<0 by omega])]
   ·have hws':IntKind.i64.wrap (s-1)=k:=by rw [hws,hks]
    have hkx:0≤k∧k<l.length:=by omega
    have hck:=qC8 hkx
    by_cases hac:qBn l k=true∧qCN l x1=false
    ·have ha:(ndi l k).1=3:=by simpa [qBn] using hac.1
     have hb:¬(ndi l x1).1=6:=by simpa [qCN] using hac.2
     refine .inr ⟨?_,by rw [if_pos (.inr (.inr hac))]⟩
     rw [qP (r:= .inl (-1)) (by simp [-getElem?_pos,qAY,qC,qE,qG,qH,qJ,qK,Option.bind_some,qF,qM,qN,hc,hx,qBi,qBM,qAv,qAb,qAc,qAd,qAe,qAf,qAg,qAh,qAi,qAj,qAk,q9,qAA,qAB,qAC,hg',hj',hws',hk0,hck,hkx,ha,hb])]
    ·have hr:=hrec k (by omega) (by omega)
     have hwd:IntKind.i64.wrap (d+1)=d+1:=qT (by omega)
     have hw2:IntKind.i64.wrap ((j:Int)-1)=(j:Int)-1:=qT (by omega)
     have hno:¬(k≠s-1∨k<0∨(qBn l k=true∧qCN l x1=false)):=fun h=>by
      rcases h with h|h|h
      ·exact h hks
      ·exact hk0 h
      ·exact hac h
     have hcase:¬(ndi l k).1=3∨((ndi l k).1=3∧(ndi l x1).1=6):=by
      by_cases ha:(ndi l k).1=3
      ·refine .inr ⟨ha,?_⟩
       refine Decidable.byContradiction fun hb=>hac ⟨by simp [qBn,ha],by simp [qCN,hb]⟩
      ·exact .inl ha
     rw [if_neg hno]
     by_cases ht:qCw (qGr l) (qBn l) (qCN l) (qV l) f k<0
     ·refine .inr ⟨?_,by rw [if_pos ht]⟩
      rcases hcase with ha|⟨ha,hb⟩
      ·rw [qP (r:= .inl (-1)) (by simp [-getElem?_pos,qAY,qC,qE,qG,qH,qJ,qK,Option.bind_some,qF,qM,qN,hc,hx,qBi,qBM,qAv,qAb,qAc,qAd,qAe,qAf,qAg,qAh,qAi,qAj,qAk,q9,qAA,qAB,qAC,hg',hj',hws',hk0,hck,hkx,ha,hwd,hr,ht])]
      ·rw [qP (r:= .inl (-1)) (by simp [-getElem?_pos,qAY,qC,qE,qG,qH,qJ,qK,Option.bind_some,qF,qM,qN,hc,hx,qBi,qBM,qAv,qAb,qAc,qAd,qAe,qAf,qAg,qAh,qAi,qAj,qAk,q9,qAA,qAB,qAC,hg',hj',hws',hk0,hck,hkx,ha,hb,hwd,hr,ht])]
     ·rw [if_neg ht]
      have hb1:=(qTJ (qGr l) (qBn l) (qCN l) (qV l) f (k.toNat+1) k (by omega) (by omega) (by omega)).1
      have hstep:zC (qAY (qAr n) n) (M+1) (l.map qa,x1,d,s,(j:Int))=zC (qAY (qAr n) n) M (l.map qa,x1,d,qCw (qGr l) (qBn l) (qCN l) (qV l) f k,(j:Int)-1):=by
       rcases hcase with ha|⟨ha,hb⟩
       ·rw [qU (v':=(l.map qa,x1,d,qCw (qGr l) (qBn l) (qCN l) (qV l) f k,(j:Int)-1)) (by simp [-getElem?_pos,qAY,qC,qE,qG,qH,qJ,qK,Option.bind_some,qF,qM,qN,hc,hx,qBi,qBM,qAv,qAb,qAc,qAd,qAe,qAf,qAg,qAh,qAi,qAj,qAk,q9,qAA,qAB,qAC,hg',hj',hws',hk0,hck,hkx,ha,hwd,hr,ht,hw2])]
       ·rw [qU (v':=(l.map qa,x1,d,qCw (qGr l) (qBn l) (qCN l) (qV l) f k,(j:Int)-1)) (by simp [-getElem?_pos,qAY,qC,qE,qG,qH,qJ,qK,Option.bind_some,qF,qM,qN,hc,hx,qBi,qBM,qAv,qAb,qAc,qAd,qAe,qAf,qAg,qAh,qAi,qAj,qAk,q9,qAA,qAB,qAC,hg',hj',hws',hk0,hck,hkx,ha,hb,hwd,hr,ht,hw2])]
      rw [hstep]
      exact ih _ (by omega) (by omega) (by omega) (by omega)
  ·refine .inr ⟨?_,by rw [if_pos (.inl hks)]⟩
   rw [qP (r:= .inl (-1)) (by simp [-getElem?_pos,qAY,qC,qE,qG,qH,qJ,qK,Option.bind_some,qF,qM,qN,hc,hx,qBi,qBM,qAv,qAb,qAc,qAd,qAe,qAf,qAg,qAh,qAi,qAj,qAk,q9,qAA,qAB,qAC,hg',hj',hws,hks])]
theorem qNp (l:List Nd) (hl:l.length≤140737488351232) (hk:∀c∈l,(kd c).length≤140737488351232∧c.2.2.2.2.1.size≤140737488351232):∀(f:Nat) (x d:Int),x<l.length→d=12-f→0≤d→Ev (qAr · (l.map qa) x d) (qCw (qGr l) (qBn l) (qCN l) (qV l) f x)
 |0,x,d,h1,h2,h3=>by
  refine ⟨1,fun n hn=>?_⟩
  obtain ⟨m,rfl,hm⟩:=up1 (n0:=0) hn
  have a:d≥12:=by omega
  by_cases h:x<0<;>simp [-getElem?_pos,qAr,qGC,qC,qE,qG,qH,qJ,qK,Option.bind_some,qF,qM,qN,h,a,qCw]
 |f+1,x,d,h1,h2,h3=>by
  by_cases h0:x<0
  ·refine ⟨1,fun n hn=>?_⟩
   obtain ⟨m,rfl,hm⟩:=up1 (n0:=0) hn
   simp [-getElem?_pos,qAr,qGC,qC,qE,qG,qH,qJ,qK,Option.bind_some,qF,qM,qN,h0,qCw]
  ·have hx:0≤x∧x<l.length:=by omega
   have hc:=qC8 hx
   have hm':=qJl hx
   obtain ⟨n0,hn0⟩:=qTr (F:=fun y n=>qAr n (l.map qa) y (d+1)) (f:=fun y=>qCw (qGr l) (qBn l) (qCN l) (qV l) f y) x (fun y h3 h4=>qNp l hl hk f y (d+1) (by omega) (by omega) (by omega))
   obtain ⟨n1,g1⟩:=qR8 (ndi l x) (hk _ hm').2
   refine ⟨n0+n1+(kd (ndi l x)).length+5,fun n hn=>?_⟩
   obtain ⟨m,rfl,hm⟩:=up1 hn
   have g1:=g1 m (by omega)
   have h:=qSX l x d f m hx hl (by omega) (hk _ hm').1 (hn0 m (by omega)) (kd (ndi l x)).length m x (Nat.le_refl _) (by omega) (by omega) (by omega)
   have e:(qV l x).take (kd (ndi l x)).length=qV l x:=List.take_length
   rw [e] at h
   have hw2:IntKind.i64.wrap (((kd (ndi l x)).length:Int)-1)=((kd (ndi l x)).length:Int)-1:=by
    have:=(hk _ hm').1
    exact qT (by omega)
   have a:¬d≥12:=by omega
   unfold kd at h hw2
   dsimp only at g1⊢
   simp only [qAr,qGC,qCw,qC,qE,qG,qH,qJ,qK,Option.bind_some,qF,qM,qN]
   cases hnb:qFc (ndi l x) with
   |false=>
    rw [hnb] at g1
    simp [-getElem?_pos,qC,qE,qG,qH,qJ,qK,Option.bind_some,qF,qM,qN,h0,a,hc,hx,qBi,qBM,qAv,qAb,qAc,qAd,qAe,qAf,qAg,qAh,qAi,qAj,qAk,q9,qAA,qAB,qAC,g1,qGr,hnb]
   |true=>
    rw [hnb] at g1
    rcases h with h|⟨h,h'⟩
    ·simp [-getElem?_pos,qC,qE,qG,qH,qJ,qK,Option.bind_some,qF,qM,qN,h0,a,hc,hx,qBi,qBM,qAv,qAb,qAc,qAd,qAe,qAf,qAg,qAh,qAi,qAj,qAk,q9,qAA,qAB,qAC,g1,qGr,hnb,hw2,h]
    ·simp only [h']
     simp [-getElem?_pos,qC,qE,qG,qH,qJ,qK,Option.bind_some,qF,qM,qN,h0,a,hc,hx,qBi,qBM,qAv,qAb,qAc,qAd,qAe,qAf,qAg,qAh,qAi,qAj,qAk,q9,qAA,qAB,qAC,g1,qGr,hnb,hw2,h]
theorem qVV {l:List Nd}:qGH l=(decide (1≤l.length∧l.length≤60)&&(!qBn l ((l.length:Int)-1)&&decide (qCw (qGr l) (qBn l) (qCN l) (qV l) 12 ((l.length:Int)-1)=0))):=by
 rw [Bool.eq_iff_iff]
 unfold qGH
 simp only [Bool.and_eq_true,decide_eq_true_eq]
 constructor
 ·intro ⟨h1,h2,h3,h4,h5⟩
  refine ⟨h1,h4,?_⟩
  rw [qUk (qGr l) (qBn l) (qCN l) (qV l) 12 l.length l.length ((l.length:Int)-1) (by omega) (by omega) (by omega) (fun i i0 i1=>qGG.1 h2 i i0 (by omega)) (by omega) (by simpa using h5)]
  exact h3
 ·intro ⟨h1,h4,h5⟩
  obtain ⟨b1,b2,b3,b4⟩:=qTJ (qGr l) (qBn l) (qCN l) (qV l) 12 l.length ((l.length:Int)-1) (by omega) (by omega) (by omega)
  rw [h5] at b2 b3
  refine ⟨h1,qGG.2 (fun i i0 i1=>b3 i i0 (by omega)),b2,h4,?_⟩
  have:=b4 l.length (fun i i0 i1=>(b3 i i0 i1).2) (by omega)
  simpa using this
theorem qH9 (l:List Nd) (hl:l.length≤140737488351232) (hk:∀c∈l,(kd c).length≤140737488351232∧c.2.2.2.2.1.size≤140737488351232):Ev (qBx · (l.map qa)) (qGH l):=by
 rw [qVV]
 by_cases h:1≤l.length∧l.length≤60
 ·obtain ⟨n1,g1⟩:=qNp l hl hk 12 ((l.length:Int)-1) 0 (by omega) (by omega) (by omega)
  obtain ⟨n2,g2⟩:=q7 (l.length:Int) 1 60
  refine ⟨n1+n2+1,fun n hn=>?_⟩
  obtain ⟨m,rfl,hm⟩:=up1 hn
  have g1:=g1 m (by omega)
  have g2:=g2 m (by omega)
  dsimp only at g1 g2⊢
  have hw:IntKind.i64.wrap ((l.length:Int)-1)=(l.length:Int)-1:=qT (by omega)
  have hx:0≤(l.length:Int)-1∧(l.length:Int)-1<l.length:=by omega
  have hc:=qC8 hx
  have h':(1:Int)≤l.length∧(l.length:Int)≤60:=by omega
  generalize hxe:(l.length:Int)-1=x at hw hx hc g1⊢
  by_cases ha:(ndi l x).1=3
  ·simp [-getElem?_pos,qBx,qDL,qC,qE,qG,qH,qJ,qK,Option.bind_some,qF,qM,qN,hxe,g2,h',hw,hx,hc,qBi,qBM,qAv,qAb,qAc,qAd,qAe,qAf,qAg,qAh,qAi,qAj,qAk,q9,qAA,qAB,qAC,ha,qBn]
  ·by_cases hf:qCw (qGr l) (qBn l) (qCN l) (qV l) 12 x=0<;>simp [-getElem?_pos,qBx,qDL,qC,qE,qG,qH,qJ,qK,Option.bind_some,qF,qM,qN,hxe,g1,g2,h,h',hw,hx,hc,qBi,qBM,qAv,qAb,qAc,qAd,qAe,qAf,qAg,qAh,qAi,qAj,qAk,q9,qAA,qAB,qAC,ha,qBn,hf]
 ·obtain ⟨n2,g2⟩:=q7 (l.length:Int) 1 60
  refine ⟨n2+1,fun n hn=>?_⟩
  obtain ⟨m,rfl,hm⟩:=up1 hn
  have g2:=g2 m (by omega)
  dsimp only at g2⊢
  have h':¬((1:Int)≤l.length∧(l.length:Int)≤60):=by omega
  simp [-getElem?_pos,qBx,qDL,qC,qE,qG,qH,qJ,qK,Option.bind_some,qF,qM,qN,g2,h,h']
def qBo (l:List UInt8):List UInt8:=l.flatMap fun c=>if c=34 then [34,34] else [c]
def qO0 (s:ByteArray):ByteArray:=⟨(34::qBo s.toList++ [34]).toArray⟩
theorem qHf (c:UInt8) (l:List UInt8):qBo (c::l)=(if c=34 then [34,34] else [c])++qBo l:=by simp [qBo]
theorem qSY (l r:List UInt8):qBo (l++r)=qBo l++qBo r:=by simp [qBo]
theorem qI6:∀l:List UInt8,(qBo l).length≤2*l.length
 | []=>by simp [qBo]
 |c::l=>by
  have:=qI6 l
  rw [qHf]
  by_cases h:c=34<;>simp [h]<;>omega
theorem qMK:∀s:List UInt8,Lib.replaceK [34] [34,34] (Lib.count s [34]) s=qBo s
 | []=>by
  rw [Lib.count_miss (by rfl)]
  rfl
 |b::l=>by
  have ih:=qMK l
  by_cases hb:b=34
  ·subst hb
   have h0:Lib.index (34::l) [34]=((0:Nat):Int):=by simp [Lib.index,List.isPrefixOf]
   rw [Lib.count_hit (by simp) h0,Nat.add_comm,Lib.replaceK_hit _ _ _ _ 0 h0]
   simp only [List.take_zero,List.nil_append,Nat.zero_add,List.length_singleton,List.drop_succ_cons,List.drop_zero]
   rw [ih,qHf,if_pos rfl]
  ·have hix:Lib.index (b::l) [34]=if Lib.index l [34]== -1 then-1 else Lib.index l [34]+1:=by
    have:((34:UInt8)==b)=false:=by simpa using fun e=>hb e.symm
    simp [Lib.index,List.isPrefixOf,this]
   rw [qHf,if_neg hb]
   by_cases hm:Lib.index l [34]= -1
   ·rw [hm] at hix
    rw [Lib.count_miss hm] at ih
    rw [Lib.count_miss (by rw [hix];rfl)]
    rw [Lib.replaceK] at ih⊢
    rw [←ih]
    rfl
   ·have hge:=Lib.index_ge l [34]
    obtain ⟨i,hi⟩:∃i:Nat,Lib.index l [34]=i:=⟨(Lib.index l [34]).toNat,by omega⟩
    have hix':Lib.index (b::l) [34]=((i+1:Nat):Int):=by
     rw [hix,if_neg (by simp [hm]),hi]
     omega
    rw [Lib.count_hit (by simp) hi,Nat.add_comm,Lib.replaceK_hit _ _ _ _ i hi] at ih
    rw [Lib.count_hit (by simp) hix',Nat.add_comm,Lib.replaceK_hit _ _ _ _ (i+1) hix']
    rw [←ih]
    simp only [List.length_singleton,List.take_succ_cons,List.drop_succ_cons,List.cons_append,List.singleton_append,List.nil_append]
theorem qO1 (s:List UInt8):Lib.replaceAll s [34] [34,34]=qBo s:=by
 have h1:(([34]:List UInt8)== [34,34])=false:=by decide
 have h2:Lib.replaceNum s [34] (-1)=Lib.count s [34]:=by unfold Lib.replaceNum;rw [if_pos (.inl (by decide))]
 unfold Lib.replaceAll Lib.replace
 rw [h1,h2]
 exact qMK s
theorem qWB {s:ByteArray} {i:Nat} {c:UInt8} (h:s.toList[i]?=some c):s.extract i (i+1)=⟨#[c]⟩:=by
 apply qH4
 rw [Go.Lib.toList_data] at h
 rw [ByteArray.data_extract,Array.toList_extract]
 show (s.data.toList.drop i).take (i+1-i)=_
 rw [qDc h,Nat.add_sub_cancel_left]
 rfl
theorem qUL (n:Nat) (s A:ByteArray) (i:Nat) (c:UInt8) (hg:s.toList[i]?=some c) (hi:i<s.size) (hA:A.size≤10000) (hs:s.size≤1000):
  (qBf n (s,A,(i:Int))).run=some (.inl (s,if c=34 then (A++⟨#[34]⟩)++⟨#[c]⟩ else A++⟨#[c]⟩,((i+1:Nat):Int))):=by
 have hi':(i:Int)<s.size:=by omega
 have w1:IntKind.i64.wrap ((i:Int)+1)=((i+1:Nat):Int):=by rw [qT (by omega)];omega
 have hx:=qWB hg
 have d1:(⟨#[34]⟩:ByteArray).size=1:=rfl
 have d2:(⟨#[c]⟩:ByteArray).size=1:=rfl
 have y1:(0:Int)≤(i:Int)∧(i:Int)≤((i+1:Nat):Int)∧((i+1:Nat):Int)≤s.size:=by omega
 have y0:(0:Int)≤(i:Int):=by omega
 have z1:A.size+(⟨#[34]⟩:ByteArray).size≤9223372036854775807:=by omega
 have z2:(A++(⟨#[34]⟩:ByteArray)).size+(⟨#[c]⟩:ByteArray).size≤9223372036854775807:=by rw [ByteArray.size_append];omega
 have z3:A.size+(⟨#[c]⟩:ByteArray).size≤9223372036854775807:=by omega
 by_cases hc:c=34
 ·have hb:((c.toNat:Int)==(34:Int))=true:=by rw [hc];rfl
  rw [if_pos hc]
  simp only [qBf,qC,qE,qG,qH,qJ,qK,Option.bind_some,qF,qM,qN,decide_eq_true hi',decide_eq_true y0,Int.toNat_natCast,hg,hb,decide_eq_true z1,w1,decide_eq_true y1,hx,decide_eq_true z2,if_true]
 ·have hb:((c.toNat:Int)==(34:Int))=false:=by
   have:c.toNat≠34:=fun e=>hc (UInt8.toNat_inj.1 e)
   simp
   omega
  simp only [qBf,qC,qE,qG,qH,qJ,qK,Option.bind_some,qF,qM,qN,decide_eq_true hi',decide_eq_true y0,Int.toNat_natCast,hg,hb,w1,decide_eq_true y1,hx,decide_eq_true z3,if_true,hc,if_false,Bool.false_eq_true]
theorem qRM (n:Nat) (s:ByteArray) (hs:s.size≤1000):∀(r pre:List UInt8) (M:Nat),s.toList=pre++r→r.length+1≤M→
  zC (qBf n) M (s,⟨(34::qBo pre).toArray⟩,(pre.length:Int))=some ⟨(34::qBo s.toList).toArray⟩
 |r,pre,0,h1,h2=>by omega
 | [],pre,M+1,h1,h2=>by
  have hi:¬(pre.length:Int)<s.size:=by rw [qB8,h1];simp
  rw [h1,List.append_nil]
  generalize (⟨(34::qBo pre).toArray⟩:ByteArray)=A
  rw [qP (r:=A) (by simp [qBf,qC,qE,qG,qH,qJ,qK,Option.bind_some,qF,qM,qN,hi])]
 |c::r,pre,M+1,h1,h2=>by
  have hl:s.size=pre.length+(r.length+1):=by rw [qB8,h1];simp
  have hg:s.toList[pre.length]?=some c:=by rw [h1];simp
  have hq:=qI6 pre
  have hA:(⟨(34::qBo pre).toArray⟩:ByteArray).size≤10000:=by
   rw [qC7]
   simp
   omega
  rw [qU (qUL n s _ pre.length c hg (by omega) hA hs)]
  have e:(if c=34 then ((⟨(34::qBo pre).toArray⟩:ByteArray)++⟨#[34]⟩)++⟨#[c]⟩ else (⟨(34::qBo pre).toArray⟩:ByteArray)++⟨#[c]⟩)=⟨(34::qBo (pre++ [c])).toArray⟩:=by
   apply qH4
   by_cases hc:c=34
   ·rw [if_pos hc,qDf,qDf,qSY,qHf,if_pos hc,hc]
    simp [qBo]
   ·rw [if_neg hc,qDf,qSY,qHf,if_neg hc]
    simp [qBo]
  rw [e]
  have h:=qRM n s hs r (pre++ [c]) M (by rw [h1];simp) (by simp at h2;omega)
  rw [show ((pre++ [c]).length:Int)=((pre.length+1:Nat):Int) by simp] at h
  exact h
theorem qUM (s:ByteArray):(qO0 s).size≤2*s.size+2:=by
 have:=qI6 s.toList
 rw [qAZ] at this
 rw [qC7]
 simp [qO0]
 omega
theorem qQB (s:ByteArray) (hs:s.size≤1000):Ev (qFB · s) (qO0 s):=by
 refine ⟨s.size+5,fun n hn=>?_⟩
 obtain ⟨m,rfl,hm⟩:=up1 hn
 have h:=qRM m s hs s.toList [] m rfl (by rw [qAZ];omega)
 simp only [List.length_nil,Int.natCast_zero] at h
 have e0:(⟨(34::qBo []).toArray⟩:ByteArray)=⟨#[34]⟩:=rfl
 rw [e0] at h
 have hz:(⟨(34::qBo s.toList).toArray⟩:ByteArray).size+(⟨#[34]⟩:ByteArray).size≤9223372036854775807:=by
  have:=qI6 s.toList
  rw [qAZ] at this
  have d1:(⟨#[34]⟩:ByteArray).size=1:=rfl
  rw [qC7,d1]
  simp
  omega
 simp only [qFB,qG9,qC,qE,qG,qH,qJ,qK,Option.bind_some,qF,qM,qN,h,decide_eq_true hz,if_true]
 congr 1
theorem qR9 (s:ByteArray) (hs:s.size≤1000):Ev (qDv · s ⟨#[34]⟩ ⟨#[34,34]⟩) ⟨(qBo s.toList).toArray⟩:=by
 refine ⟨1,fun n hn=>?_⟩
 obtain ⟨m,rfl,hm⟩:=up1 (n0:=0) hn
 show zj s ⟨#[34]⟩ ⟨#[34,34]⟩=_
 have hc:=Lib.countB_mul_le (⟨#[34]⟩:ByteArray) (by decide) s.size s (Nat.le_refl _)
 have d1:(⟨#[34]⟩:ByteArray).size=1:=rfl
 have d2:(⟨#[34,34]⟩:ByteArray).size=2:=rfl
 unfold zj
 rw [d1] at hc
 rw [if_pos (by rw [d1,d2];omega)]
 congr 3
 rw [←Go.Lib.toList_data]
 exact qO1 _
def lvl (op:Int):Int:=if op≥6 then 1 else if op=5 then 2 else if op≥3 then 4 else 3
theorem qUN (op:Int):1≤lvl op∧lvl op≤4:=by
 unfold lvl
 split
 ·omega
 ·split
  ·omega
  ·split<;>omega
theorem qKH (op:Int):Ev (qCS · op) (lvl op):=by
 refine ⟨1,fun n hn=>?_⟩
 obtain ⟨m,rfl,hm⟩:=up1 hn
 simp only [qCS,qG5,qC,qE,qG,qH,qJ,qK,Option.bind_some,qF,qM,qN]
 unfold lvl
 by_cases h1:op≥6
 ·simp [h1]
 ·by_cases h2:op=5
  ·simp [h2]
  ·by_cases h3:op≥3<;>simp [h1,h2,h3]
theorem qWC {op:Int} (h:1≤op∧op≤11):op=1∨op=2∨op=3∨op=4∨op=5∨op=6∨op=7∨op=8∨op=9∨op=10∨op=11:=by omega
theorem qML (op:Int) (h:1≤op∧op≤11):Ev (qEA · op) (lvl op):=by
 refine ⟨1,fun n hn=>?_⟩
 obtain ⟨m,rfl,hm⟩:=up1 hn
 simp only [qEA,qJW,qC,qE,qG,qH,qJ,qK,Option.bind_some,qF,qM,qN]
 rcases qWC h with rfl|rfl|rfl|rfl|rfl|rfl|rfl|rfl|rfl|rfl|rfl<;>rfl
def qAV (op:Int):ByteArray:=if op=1 then ⟨#[43]⟩ else if op=2 then ⟨#[45]⟩ else if op=3 then ⟨#[42]⟩ else if op=4 then ⟨#[47]⟩ else if op=5 then ⟨#[38]⟩ else if op=6 then ⟨#[61]⟩ else if op=7 then ⟨#[60,62]⟩ else if op=8 then ⟨#[60]⟩ else if op=9 then ⟨#[60,61]⟩ else if op=10 then ⟨#[62]⟩ else ⟨#[62,61]⟩
def fnS (op:Int):ByteArray:=if op=1 then ⟨#[83,85,77]⟩ else if op=2 then ⟨#[77,73,78]⟩ else if op=3 then ⟨#[77,65,88]⟩ else if op=4 then ⟨#[67,79,85,78,84]⟩ else if op=5 then ⟨#[73,70]⟩ else if op=6 then ⟨#[65,78,68]⟩ else if op=7 then ⟨#[79,82]⟩ else if op=8 then ⟨#[78,79,84]⟩ else if op=9 then ⟨#[65,66,83]⟩ else ⟨#[76,69,78]⟩
theorem qM3 {op:Int} (h:1≤op∧op≤11):(qAV op).size≤2:=by
 rcases qWC h with rfl|rfl|rfl|rfl|rfl|rfl|rfl|rfl|rfl|rfl|rfl<;>decide
theorem qRN {op:Int} (h:1≤op∧op≤10):(fnS op).size≤5:=by
 rcases ten h with rfl|rfl|rfl|rfl|rfl|rfl|rfl|rfl|rfl|rfl<;>decide
theorem qLL (op:Int) (h:1≤op∧op≤11):Ev (qC0 · op) (qAV op):=by
 refine ⟨1,fun n hn=>?_⟩
 obtain ⟨m,rfl,hm⟩:=up1 hn
 simp only [qC0,qIJ,qC,qE,qG,qH,qJ,qK,Option.bind_some,qF,qM,qN]
 rcases qWC h with rfl|rfl|rfl|rfl|rfl|rfl|rfl|rfl|rfl|rfl|rfl<;>rfl
theorem qHg (op:Int) (h:1≤op∧op≤11):Ev (qBb · op) (qAV op):=by
 refine ⟨1,fun n hn=>?_⟩
 obtain ⟨m,rfl,hm⟩:=up1 hn
 simp only [qBb,qIV,qC,qE,qG,qH,qJ,qK,Option.bind_some,qF,qM,qN]
 rcases qWC h with rfl|rfl|rfl|rfl|rfl|rfl|rfl|rfl|rfl|rfl|rfl<;>rfl
theorem qNq (op:Int) (h:1≤op∧op≤10):Ev (qCi · op) (fnS op):=by
 refine ⟨1,fun n hn=>?_⟩
 obtain ⟨m,rfl,hm⟩:=up1 hn
 simp only [qCi,qKe,qC,qE,qG,qH,qJ,qK,Option.bind_some,qF,qM,qN]
 rcases ten h with rfl|rfl|rfl|rfl|rfl|rfl|rfl|rfl|rfl|rfl<;>rfl
theorem qLM (op:Int) (h:1≤op∧op≤10):Ev (qCM · op) (fnS op):=by
 refine ⟨1,fun n hn=>?_⟩
 obtain ⟨m,rfl,hm⟩:=up1 hn
 simp only [qCM,qIU,qC,qE,qG,qH,qJ,qK,Option.bind_some,qF,qM,qN]
 rcases ten h with rfl|rfl|rfl|rfl|rfl|rfl|rfl|rfl|rfl|rfl<;>rfl
def qRO (xs:List ByteArray):ByteArray:=⟨(Lib.join (xs.map (·.data.toList)) [44]).toArray⟩
def par (b:Bool) (s:ByteArray):ByteArray:=if b=true then ((⟨#[40]⟩:ByteArray)++s)++⟨#[41]⟩ else s
def kid (c:Nd) (j:Nat):Int:=(kd c).getD j 0
def qy (l:List Nd):Nat→Int→Int→ByteArray
 |0,_,_=>⟨#[]⟩
 |f+1,i,t=>
  if (ndi l i).1=1 then (if (ndi l i).2.2.1=2 then qO0 (ndi l i).2.2.2.2.1 else qCI (ndi l i).2.2.1 (ndi l i).2.2.2.1 (ndi l i).2.2.2.2.1)
  else if (ndi l i).1=2 then qBL (ndi l i).2.2.2.2.2.1 (ndi l i).2.2.2.2.2.2.1 (ndi l i).2.2.2.2.2.2.2.1 (ndi l i).2.2.2.2.2.2.2.2.1
  else if (ndi l i).1=3 then (qBL (ndi l i).2.2.2.2.2.1 (ndi l i).2.2.2.2.2.2.1 (ndi l i).2.2.2.2.2.2.2.1 (ndi l i).2.2.2.2.2.2.2.2.1++⟨#[58]⟩)++qBL (ndi l i).2.2.2.2.2.2.2.2.2.1 (ndi l i).2.2.2.2.2.2.2.2.2.2.1 (ndi l i).2.2.2.2.2.2.2.2.2.2.2.1 (ndi l i).2.2.2.2.2.2.2.2.2.2.2.2.1
  else if (ndi l i).1=4 then (⟨#[45]⟩:ByteArray)++qy l f (kid (ndi l i) 0) 5
  else if (ndi l i).1=5 then par (decide (lvl (ndi l i).2.1<t)) ((qy l f (kid (ndi l i) 0) (lvl (ndi l i).2.1)++qAV (ndi l i).2.1)++qy l f (kid (ndi l i) 1) (lvl (ndi l i).2.1+1))
  else ((fnS (ndi l i).2.1++⟨#[40]⟩)++qRO ((qV l i).map fun k=>qy l f k 1))++⟨#[41]⟩
theorem qUn (l:List Nd) (f:Nat) (i:Int):qy l f i 0=qy l f i 1:=by
 cases f with
 |zero=>rfl
 |succ f=>
  have h:=qUN (ndi l i).2.1
  have e:decide (lvl (ndi l i).2.1<0)=decide (lvl (ndi l i).2.1<1):=by
   rw [decide_eq_false (by omega),decide_eq_false (by omega)]
  simp only [qy,e]
theorem qLN {c:Nd} (h:qFc c=true):(c.1=1∧okV c.2.2.1 c.2.2.2.1 c.2.2.2.2.1=true)∨c.1=2∨c.1=3∨(c.1=4∧(kd c).length=1)∨(c.1=5∧(1≤c.2.1∧c.2.1≤11)∧(kd c).length=2)∨(c.1=6∧(1≤c.2.1∧c.2.1≤10)∧(1≤(kd c).length∧(kd c).length≤10)):=by
 unfold qFc at h
 by_cases k1:c.1=1
 ·rw [if_pos k1] at h
  simp only [Bool.and_eq_true] at h
  exact .inl ⟨k1,h.2.2.2.2.1⟩
 rw [if_neg k1] at h
 by_cases k2:c.1=2
 ·exact .inr (.inl k2)
 rw [if_neg k2] at h
 by_cases k3:c.1=3
 ·exact .inr (.inr (.inl k3))
 rw [if_neg k3] at h
 by_cases k4:c.1=4
 ·rw [if_pos k4] at h
  simp only [Bool.and_eq_true,decide_eq_true_eq] at h
  exact .inr (.inr (.inr (.inl ⟨k4,h.2.2.2.2⟩)))
 rw [if_neg k4] at h
 by_cases k5:c.1=5
 ·rw [if_pos k5] at h
  simp only [Bool.and_eq_true,decide_eq_true_eq] at h
  exact .inr (.inr (.inr (.inr (.inl ⟨k5,h.1,h.2.2.2.2⟩))))
 rw [if_neg k5] at h
 by_cases k6:c.1=6
 ·rw [if_pos k6] at h
  simp only [Bool.and_eq_true] at h
  have ha:=h.1
  unfold qI4 at ha
  refine .inr (.inr (.inr (.inr (.inr ⟨k6,?_⟩))))
  by_cases h5:c.2.1=5
  ·rw [if_pos h5] at ha
   have:=of_decide_eq_true ha
   omega
  ·rw [if_neg h5] at ha
   by_cases h8:8≤c.2.1∧c.2.1≤10
   ·rw [if_pos h8] at ha
    have:=of_decide_eq_true ha
    omega
   ·rw [if_neg h8] at ha
    by_cases h1:1≤c.2.1∧c.2.1≤7
    ·rw [if_pos h1] at ha
     have:=of_decide_eq_true ha
     omega
    ·rw [if_neg h1] at ha
     cases ha
 ·rw [if_neg k6] at h
  cases h
def szB:Nat→Nat
 |0=>37
 |f+1=>11*szB f
theorem qWD:∀f:Fin 13,szB f.val≤120000000000000:=by decide
theorem qVW {f:Nat} (h:f≤12):szB f≤120000000000000:=qWD ⟨f,by omega⟩
theorem qVX:∀f:Nat,37≤szB f
 |0=>Nat.le_refl _
 |f+1=>by have:=qVX f;simp only [szB];omega
theorem qMM (x:List UInt8) (r:List (List UInt8)) (sep:List UInt8):Lib.joinTail sep (x::r)=sep++x++Lib.joinTail sep r:=by simp [Lib.joinTail]
theorem qNr:∀(xs:List ByteArray) (b:Nat),(∀x∈xs,x.size≤b)→(Lib.joinTail [44] (xs.map (·.data.toList))).length≤xs.length*(b+1)
 | [],b,h=>by simp [Lib.joinTail]
 |x::r,b,h=>by
  have ih:=qNr r b fun y hy=>h y (List.mem_cons_of_mem _ hy)
  have hx:=h x (List.mem_cons_self ..)
  rw [qC7] at hx
  rw [List.map_cons,qMM,List.length_append,List.length_append,List.length_singleton,List.length_cons,Nat.add_mul]
  omega
theorem qM4 {xs:List ByteArray} {b:Nat} (h:∀x∈xs,x.size≤b):(qRO xs).size≤xs.length*(b+1):=by
 rw [qC7]
 show (Lib.join (xs.map (·.data.toList)) [44]).length≤_
 cases xs with
 |nil=>simp [Lib.join_nil]
 |cons x r=>
  have h1:=qNr r b fun y hy=>h y (List.mem_cons_of_mem _ hy)
  have hx:=h x (List.mem_cons_self ..)
  rw [qC7] at hx
  rw [List.map_cons,Lib.join_cons,List.length_append,List.length_cons,Nat.add_mul]
  omega
structure Fine (l:List Nd):Prop where
 len:l.length≤60
 own:∀i:Int,0≤i→i<l.length→qGr l i=true∧qHe (qBn l) (qCN l) (qV l) i
 sz:∀c∈l,(kd c).length≤140737488351232∧c.2.2.2.2.1.size≤140737488351232
theorem Fine.kid {l:List Nd} (h:Fine l) {f:Nat} {i k:Int} (hi:0≤i∧i<l.length) (hd:qA7 (qV l) (i.toNat+1) i≤(f+1:Nat)) (hk:k∈qV l i):(0≤k∧k<l.length)∧qA7 (qV l) (k.toNat+1) k≤f:=by
 have hin:=(h.own i hi.1 hi.2).2 k hk
 have h1:=(qRK (qV l) (n:=i) (b:=((f+1:Nat):Int)) (f:=i.toNat) (by omega)).1 hd k hk
 refine ⟨by omega,?_⟩
 rw [qRL (qBn l) (qCN l) (qV l) (k.toNat+1) i.toNat k (by omega) (by omega) (fun j j0 j1=>(h.own j j0 (by omega)).2) (by omega)]
 omega
theorem qO2 {l:List Nd} (h:Fine l):∀(f:Nat) (i t:Int),f≤12→(0≤i∧i<l.length)→qA7 (qV l) (i.toNat+1) i≤f→(qy l f i t).size≤szB f
 |0,i,t,hf,hi,hd=>by show (⟨#[]⟩:ByteArray).size≤_;exact Nat.zero_le _
 |f+1,i,t,hf,hi,hd=>by
  have ih:=fun k hk t'=>qO2 h f k t' (by omega) (h.kid hi hd hk).1 (h.kid hi hd hk).2
  have hs:=qVX f
  have hp:∀a b c d,(qBL a b c d).size≤30:=qEx
  have hz:=(h.sz _ (qJl hi)).2
  have d1:(⟨#[58]⟩:ByteArray).size=1:=rfl
  have d2:(⟨#[45]⟩:ByteArray).size=1:=rfl
  have d3:(⟨#[40]⟩:ByteArray).size=1:=rfl
  have d4:(⟨#[41]⟩:ByteArray).size=1:=rfl
  have hk0:∀j,j<(kd (ndi l i)).length→kid (ndi l i) j∈qV l i:=fun j hj=>by
   unfold kid
   rw [List.getD_eq_getElem?_getD,List.getElem?_eq_getElem hj]
   exact List.getElem_mem hj
  rw [szB,qy]
  rcases qLN (h.own i hi.1 hi.2).1 with ⟨k,hv⟩|k|k|⟨k,hk⟩|⟨k,ho,hk⟩|⟨k,ho,hk⟩
  ·rw [if_pos k]
   by_cases k2:(ndi l i).2.2.1=2
   ·rw [if_pos k2]
    rw [k2] at hv
    have:=(qSP hv).2.1
    have:=qUM (ndi l i).2.2.2.2.1
    omega
   ·rw [if_neg k2]
    have:=qUJ hv
    omega
  ·rw [if_neg (by omega),if_pos k]
   have:=hp (ndi l i).2.2.2.2.2.1 (ndi l i).2.2.2.2.2.2.1 (ndi l i).2.2.2.2.2.2.2.1 (ndi l i).2.2.2.2.2.2.2.2.1
   omega
  ·rw [if_neg (by omega),if_neg (by omega),if_pos k,ByteArray.size_append,ByteArray.size_append]
   have h1:=hp (ndi l i).2.2.2.2.2.1 (ndi l i).2.2.2.2.2.2.1 (ndi l i).2.2.2.2.2.2.2.1 (ndi l i).2.2.2.2.2.2.2.2.1
   have h2:=hp (ndi l i).2.2.2.2.2.2.2.2.2.1 (ndi l i).2.2.2.2.2.2.2.2.2.2.1 (ndi l i).2.2.2.2.2.2.2.2.2.2.2.1 (ndi l i).2.2.2.2.2.2.2.2.2.2.2.2.1
   omega
  ·rw [if_neg (by omega),if_neg (by omega),if_neg (by omega),if_pos k,ByteArray.size_append]
   have:=ih _ (hk0 0 (by omega)) 5
   omega
  ·rw [if_neg (by omega),if_neg (by omega),if_neg (by omega),if_neg (by omega),if_pos k]
   have h1:=ih _ (hk0 0 (by omega)) (lvl (ndi l i).2.1)
   have h2:=ih _ (hk0 1 (by omega)) (lvl (ndi l i).2.1+1)
   have h3:=qM3 ho
   unfold par
   split
   ·rw [ByteArray.size_append,ByteArray.size_append,ByteArray.size_append,ByteArray.size_append]
    omega
   ·rw [ByteArray.size_append,ByteArray.size_append]
    omega
  ·rw [if_neg (by omega),if_neg (by omega),if_neg (by omega),if_neg (by omega),if_neg (by omega)]
   rw [ByteArray.size_append,ByteArray.size_append,ByteArray.size_append]
   have h1:=qRN ho
   have h2:=qM4 (xs:=(qV l i).map fun k=>qy l f k 1) (b:=szB f) (fun x hx=>by
    obtain ⟨k,hk,rfl⟩:=List.mem_map.1 hx
    exact ih k hk 1)
   have h3:(qV l i).length≤10:=hk.2
   have h4:(qV l i).length*(szB f+1)≤10*(szB f+1):=Nat.mul_le_mul_right _ h3
   rw [List.length_map] at h2
   omega
abbrev R14:=Int×Int×Int×Int×ByteArray×Int×Int×Bool×Bool×Int×Int×Bool×Bool×List (List PV)
theorem qRP (rec:List (List PV)→Int→Int→Option ByteArray) (n:Nat) (rows:List (List PV)) (A t:ByteArray) (R:R14) (i:Nat) (k:Int) (hg:R.2.2.2.2.2.2.2.2.2.2.2.2.2[i]?=some (qq k)) (hr:rec rows k 0=some t) (hA:A.size≤2000000000000000) (ht:t.size≤120000000000000) (hi:i≤1000):
  (qBg rec n (rows,A,(i:Int),R)).run=some (.inl (rows,(if i=0 then A++t else (A++(⟨#[44]⟩:ByteArray))++t),((i+1:Nat):Int),R)):=by
 obtain ⟨a0,a1,a2,a3,a4,a5,a6,a7,a8,a9,a10,a11,a12,a13⟩:=R
 have hl:i<a13.length:=(List.getElem?_eq_some_iff.1 hg).1
 have h1:(i:Int)<(a13.length:Int):=by omega
 have h2:0≤(i:Int)∧(i:Int)<(a13.length:Int):=by omega
 have w1:IntKind.i64.wrap ((i:Int)+1)=((i+1:Nat):Int):=by rw [qT (by omega)];omega
 have d1:(⟨#[44]⟩:ByteArray).size=1:=rfl
 have z1:A.size+(⟨#[44]⟩:ByteArray).size≤9223372036854775807:=by omega
 have z2:(A++(⟨#[44]⟩:ByteArray)).size+t.size≤9223372036854775807:=by rw [ByteArray.size_append];omega
 have z3:A.size+t.size≤9223372036854775807:=by omega
 by_cases h0:i=0
 ·subst h0
  simp only [qBg,qC,qE,qG,qH,qJ,qK,Option.bind_some,qF,qM,qN,decide_eq_true h1,Int.natCast_zero,gt_iff_lt,Int.lt_irrefl,decide_false,Bool.false_eq_true,if_false,if_true] at*
  simp only [decide_eq_true h1,decide_eq_true h2,if_true,Int.toNat_zero,hg,Option.bind_some,qBM,qAv,decide_true,hr,decide_eq_true z3,w1]
 ·have hp:(i:Int)>0:=by omega
  simp only [qBg,qC,qE,qG,qH,qJ,qK,Option.bind_some,qF,qM,qN,decide_eq_true h1,decide_eq_true hp,if_true,decide_eq_true z1,decide_eq_true h2,Int.toNat_natCast,hg,qBM,qAv,decide_true,hr,decide_eq_true z2,w1,h0,if_false]
theorem qSZ (l:List Nd) (f n:Nat) (R:R14) (b:Nat) (hb:b≤120000000000000) (ks:List Int) (hks:R.2.2.2.2.2.2.2.2.2.2.2.2.2=ks.map qq) (hk10:ks.length≤10)
  (hr:∀k∈ks,qo n (l.map qa) k 0=some (qy l f k 1)∧(qy l f k 1).size≤b):
  ∀(r pre:List Int) (A:ByteArray) (M:Nat),ks=pre++r→r.length+1≤M→A.size≤100+pre.length*(b+1)→
   zC (qBg (qo n) n) M (l.map qa,A,(pre.length:Int),R)=some ⟨(A.data.toList++(if pre.length=0 then Lib.join (r.map fun k=>(qy l f k 1).data.toList) [44] else Lib.joinTail [44] (r.map fun k=>(qy l f k 1).data.toList))).toArray⟩
 |r,pre,A,0,h1,h2,h3=>by omega
 | [],pre,A,M+1,h1,h2,h3=>by
  obtain ⟨a0,a1,a2,a3,a4,a5,a6,a7,a8,a9,a10,a11,a12,a13⟩:=R
  simp only at hks
  subst hks
  have hi:¬(pre.length:Int)<((ks.map qq).length:Int):=by rw [List.length_map,h1];simp
  rw [qP (r:=A) (by simp only [qBg,qC,qE,qG,qH,qJ,qK,Option.bind_some,qF,qM,qN,decide_eq_false hi,Bool.false_eq_true,if_false])]
  congr 1
  apply qH4
  simp [Lib.joinTail,Lib.join_nil]
 |k::r,pre,A,M+1,h1,h2,h3=>by
  have hm:k∈ks:=by rw [h1];simp
  obtain ⟨g1,g2⟩:=hr k hm
  have hpl:pre.length+(r.length+1)=ks.length:=by rw [h1];simp
  have hmul:pre.length*(b+1)≤10*(b+1):=Nat.mul_le_mul_right _ (by omega)
  have hg:R.2.2.2.2.2.2.2.2.2.2.2.2.2[pre.length]?=some (qq k):=by rw [hks,h1,List.getElem?_map];simp
  rw [qU (qRP (qo n) n (l.map qa) A (qy l f k 1) R pre.length k hg g1 (by omega) (by omega) (by omega))]
  have h:=qSZ l f n R b hb ks hks hk10 hr r (pre++ [k]) (if pre.length=0 then A++qy l f k 1 else (A++(⟨#[44]⟩:ByteArray))++qy l f k 1) M (by rw [h1];simp) (by simp at h2;omega) (by
   have d1:(⟨#[44]⟩:ByteArray).size=1:=rfl
   rw [List.length_append,List.length_singleton,Nat.add_mul]
   split
   ·rw [ByteArray.size_append];omega
   ·rw [ByteArray.size_append,ByteArray.size_append];omega)
  rw [show ((pre++ [k]).length:Int)=((pre.length+1:Nat):Int) by simp] at h
  rw [h]
  congr 1
  apply qH4
  have e:(pre++ [k]).length≠0:=by simp
  simp only [if_neg e]
  by_cases h0:pre.length=0
  ·simp only [if_pos h0,qDf,List.map_cons,Lib.join_cons,List.append_assoc]
  ·simp only [if_neg h0,qDf,List.map_cons,qMM,List.append_assoc,List.cons_append,List.nil_append]
set_option maxHeartbeats 4000000 in
theorem qL5 {l:List Nd} (h:Fine l) (f:Nat) (i t:Int) (hf:f+1≤12) (hx:0≤i∧i<l.length) (hd:qA7 (qV l) (i.toNat+1) i≤(f+1:Nat)) (ih:∀k∈qV l i,∀t',Ev (qo · (l.map qa) k t') (qy l f k t')):Ev (qo · (l.map qa) i t) (qy l (f+1) i t):=by
  have ih:=fun k hk t'=>ih k hk t'
  have isz:=fun k hk t'=>qO2 h f k t' (by omega) (h.kid hx hd hk).1 (h.kid hx hd hk).2
  have hs:=qVW (f:=f) (by omega)
  have hcr:(l.map qa)[i.toNat]?=some (qa (ndi l i)):=by rw [List.getElem?_map,qC8 hx];rfl
  have hxb:0≤i∧i<((l.map qa).length:Int):=by rw [List.length_map];exact hx
  have hz:=(h.sz _ (qJl hx)).2
  have hp:∀a b c d,(qBL a b c d).size≤30:=qEx
  have d1:(⟨#[58]⟩:ByteArray).size=1:=rfl
  have d2:(⟨#[45]⟩:ByteArray).size=1:=rfl
  have d3:(⟨#[40]⟩:ByteArray).size=1:=rfl
  have d4:(⟨#[41]⟩:ByteArray).size=1:=rfl
  have hk0:∀j,j<(kd (ndi l i)).length→kid (ndi l i) j∈qV l i∧(List.map qq (ndi l i).2.2.2.2.2.2.2.2.2.2.2.2.2)[j]?=some (qq (kid (ndi l i) j)):=fun j hj=>by
   unfold kid
   rw [List.getD_eq_getElem?_getD,List.getElem?_eq_getElem hj]
   refine ⟨List.getElem_mem hj,?_⟩
   rw [List.getElem?_map]
   show ((kd (ndi l i))[j]?).map qq=_
   rw [List.getElem?_eq_getElem hj]
   rfl
  have hkl:(List.map qq (ndi l i).2.2.2.2.2.2.2.2.2.2.2.2.2).length=(kd (ndi l i)).length:=by rw [List.length_map];rfl
  rcases qLN (h.own i hx.1 hx.2).1 with ⟨k,hv⟩|k|k|⟨k,hk⟩|⟨k,ho,hk⟩|⟨k,ho,hk⟩
  ·by_cases k2:(ndi l i).2.2.1=2
   ·have hv2:okV 2 (ndi l i).2.2.2.1 (ndi l i).2.2.2.2.1=true:=by rw [←k2];exact hv
    obtain ⟨n1,g1⟩:=qQB (ndi l i).2.2.2.2.1 (by have:=(qSP hv2).2.1;omega)
    refine ⟨n1+1,fun n hn=>?_⟩
    obtain ⟨m,rfl,hm⟩:=up1 hn
    have g1:=g1 m (by omega)
    dsimp only at g1⊢
    show (qB0 (qo m) m (l.map qa) i t).run=_
    refine qD (decide_eq_true hxb) (qA hcr (qD rfl (qA (qAb _) (qA (qAc _) (qA (qAd _) (qA (qAe _) (qA (qAf _) (qA (qAg _) (qA (qAh _) (qA (qAi _) (qA (qAj _) (qA (qAk _) (qA (q9 _) (qA (qAA _) (qA (qAB _) (qA (qAC _) ?_))))))))))))))))
    refine qD (by rw [k];rfl) (qD (by rw [k2];rfl) (qA g1 ?_))
    rw [qC,qy,if_pos k,if_pos k2]
   ·obtain ⟨n1,g1⟩:=qDl (ndi l i).2.2.1 (ndi l i).2.2.2.1 (ndi l i).2.2.2.2.1 hz
    have kb:((ndi l i).2.2.1==(2:Int))=false:=by simpa using k2
    refine ⟨n1+1,fun n hn=>?_⟩
    obtain ⟨m,rfl,hm⟩:=up1 hn
    have g1:=g1 m (by omega)
    rw [hv] at g1
    dsimp only at g1⊢
    simp only [if_true] at g1
    show (qB0 (qo m) m (l.map qa) i t).run=_
    refine qD (decide_eq_true hxb) (qA hcr (qD rfl (qA (qAb _) (qA (qAc _) (qA (qAd _) (qA (qAe _) (qA (qAf _) (qA (qAg _) (qA (qAh _) (qA (qAi _) (qA (qAj _) (qA (qAk _) (qA (q9 _) (qA (qAA _) (qA (qAB _) (qA (qAC _) ?_))))))))))))))))
    refine qD (by rw [k];rfl) (qO kb (qA g1 ?_))
    rw [qC,qy,if_pos k,if_neg k2]
  ·obtain ⟨n1,g1⟩:=qDm (ndi l i).2.2.2.2.2.1 (ndi l i).2.2.2.2.2.2.1 (ndi l i).2.2.2.2.2.2.2.1 (ndi l i).2.2.2.2.2.2.2.2.1
   refine ⟨n1+1,fun n hn=>?_⟩
   obtain ⟨m,rfl,hm⟩:=up1 hn
   have g1:=g1 m (by omega)
   dsimp only at g1⊢
   show (qB0 (qo m) m (l.map qa) i t).run=_
   refine qD (decide_eq_true hxb) (qA hcr (qD rfl (qA (qAb _) (qA (qAc _) (qA (qAd _) (qA (qAe _) (qA (qAf _) (qA (qAg _) (qA (qAh _) (qA (qAi _) (qA (qAj _) (qA (qAk _) (qA (q9 _) (qA (qAA _) (qA (qAB _) (qA (qAC _) ?_))))))))))))))))
   refine qO (by rw [k];rfl) (qD (by rw [k];rfl) (qA g1 ?_))
   rw [qC,qy,if_neg (by omega),if_pos k]
  ·obtain ⟨n1,g1⟩:=qDm (ndi l i).2.2.2.2.2.1 (ndi l i).2.2.2.2.2.2.1 (ndi l i).2.2.2.2.2.2.2.1 (ndi l i).2.2.2.2.2.2.2.2.1
   obtain ⟨n2,g2⟩:=qDm (ndi l i).2.2.2.2.2.2.2.2.2.1 (ndi l i).2.2.2.2.2.2.2.2.2.2.1 (ndi l i).2.2.2.2.2.2.2.2.2.2.2.1 (ndi l i).2.2.2.2.2.2.2.2.2.2.2.2.1
   have h1:=hp (ndi l i).2.2.2.2.2.1 (ndi l i).2.2.2.2.2.2.1 (ndi l i).2.2.2.2.2.2.2.1 (ndi l i).2.2.2.2.2.2.2.2.1
   have h2:=hp (ndi l i).2.2.2.2.2.2.2.2.2.1 (ndi l i).2.2.2.2.2.2.2.2.2.2.1 (ndi l i).2.2.2.2.2.2.2.2.2.2.2.1 (ndi l i).2.2.2.2.2.2.2.2.2.2.2.2.1
   have z1:(qBL (ndi l i).2.2.2.2.2.1 (ndi l i).2.2.2.2.2.2.1 (ndi l i).2.2.2.2.2.2.2.1 (ndi l i).2.2.2.2.2.2.2.2.1).size+(⟨#[58]⟩:ByteArray).size≤9223372036854775807:=by omega
   have z2:(qBL (ndi l i).2.2.2.2.2.1 (ndi l i).2.2.2.2.2.2.1 (ndi l i).2.2.2.2.2.2.2.1 (ndi l i).2.2.2.2.2.2.2.2.1++(⟨#[58]⟩:ByteArray)).size+(qBL (ndi l i).2.2.2.2.2.2.2.2.2.1 (ndi l i).2.2.2.2.2.2.2.2.2.2.1 (ndi l i).2.2.2.2.2.2.2.2.2.2.2.1 (ndi l i).2.2.2.2.2.2.2.2.2.2.2.2.1).size≤9223372036854775807:=by rw [ByteArray.size_append];omega
   refine ⟨n1+n2+1,fun n hn=>?_⟩
   obtain ⟨m,rfl,hm⟩:=up1 hn
   have g1:=g1 m (by omega)
   have g2:=g2 m (by omega)
   dsimp only at g1 g2⊢
   show (qB0 (qo m) m (l.map qa) i t).run=_
   refine qD (decide_eq_true hxb) (qA hcr (qD rfl (qA (qAb _) (qA (qAc _) (qA (qAd _) (qA (qAe _) (qA (qAf _) (qA (qAg _) (qA (qAh _) (qA (qAi _) (qA (qAj _) (qA (qAk _) (qA (q9 _) (qA (qAA _) (qA (qAB _) (qA (qAC _) ?_))))))))))))))))
   refine qO (by rw [k];rfl) (qO (by rw [k];rfl) (qD (by rw [k];rfl) (qA g1 (qD (decide_eq_true z1) (qA g2 (qD (decide_eq_true z2) ?_))))))
   rw [qC,qy,if_neg (by omega),if_neg (by omega),if_pos k]
  ·obtain ⟨m0,c0⟩:=hk0 0 (by omega)
   obtain ⟨n1,g1⟩:=ih _ m0 5
   have h1:=isz _ m0 5
   have z1:(⟨#[45]⟩:ByteArray).size+(qy l f (kid (ndi l i) 0) 5).size≤9223372036854775807:=by omega
   have y1:(0:Int)≤(0:Int)∧(0:Int)<((List.map qq (ndi l i).2.2.2.2.2.2.2.2.2.2.2.2.2).length:Int):=by rw [hkl];omega
   refine ⟨n1+1,fun n hn=>?_⟩
   obtain ⟨m,rfl,hm⟩:=up1 hn
   have g1:=g1 m (by omega)
   dsimp only at g1⊢
   have e0:((0:Int)).toNat=0:=rfl
   show (qB0 (qo m) m (l.map qa) i t).run=_
   refine qD (decide_eq_true hxb) (qA hcr (qD rfl (qA (qAb _) (qA (qAc _) (qA (qAd _) (qA (qAe _) (qA (qAf _) (qA (qAg _) (qA (qAh _) (qA (qAi _) (qA (qAj _) (qA (qAk _) (qA (q9 _) (qA (qAA _) (qA (qAB _) (qA (qAC _) ?_))))))))))))))))
   refine qO (by rw [k];rfl) (qO (by rw [k];rfl) (qO (by rw [k];rfl) (qD (by rw [k];rfl) (qD (decide_eq_true y1) (qA c0 (qD rfl (qA (qAv _) (qA g1 (qD (decide_eq_true z1) ?_)))))))))
   rw [qC,qy,if_neg (by omega),if_neg (by omega),if_neg (by omega),if_pos k]
  ·obtain ⟨m0,c0⟩:=hk0 0 (by omega)
   obtain ⟨m1,c1⟩:=hk0 1 (by omega)
   have hlv:=qUN (ndi l i).2.1
   obtain ⟨n1,g1⟩:=ih _ m0 (lvl (ndi l i).2.1)
   obtain ⟨n2,g2⟩:=ih _ m1 (lvl (ndi l i).2.1+1)
   obtain ⟨n3,g3⟩:=qKH (ndi l i).2.1
   obtain ⟨n4,g4⟩:=qLL (ndi l i).2.1 ho
   have h1:=isz _ m0 (lvl (ndi l i).2.1)
   have h2:=isz _ m1 (lvl (ndi l i).2.1+1)
   have h3:=qM3 ho
   have hw:IntKind.i64.wrap (lvl (ndi l i).2.1+1)=lvl (ndi l i).2.1+1:=qT (by omega)
   have y1:(0:Int)≤(0:Int)∧(0:Int)<((List.map qq (ndi l i).2.2.2.2.2.2.2.2.2.2.2.2.2).length:Int):=by rw [hkl];omega
   have y2:(0:Int)≤(1:Int)∧(1:Int)<((List.map qq (ndi l i).2.2.2.2.2.2.2.2.2.2.2.2.2).length:Int):=by rw [hkl];omega
   refine ⟨n1+n2+n3+n4+1,fun n hn=>?_⟩
   obtain ⟨m,rfl,hm⟩:=up1 hn
   have g1:=g1 m (by omega)
   have g2:=g2 m (by omega)
   have g3:=g3 m (by omega)
   have g4:=g4 m (by omega)
   dsimp only at g1 g2 g3 g4⊢
   have e0:((0:Int)).toNat=0:=rfl
   have e1:((1:Int)).toNat=1:=rfl
   show (qB0 (qo m) m (l.map qa) i t).run=_
   refine qD (decide_eq_true hxb) (qA hcr (qD rfl (qA (qAb _) (qA (qAc _) (qA (qAd _) (qA (qAe _) (qA (qAf _) (qA (qAg _) (qA (qAh _) (qA (qAi _) (qA (qAj _) (qA (qAk _) (qA (q9 _) (qA (qAA _) (qA (qAB _) (qA (qAC _) ?_))))))))))))))))
   have z1:(qy l f (kid (ndi l i) 0) (lvl (ndi l i).2.1)).size+(qAV (ndi l i).2.1).size≤9223372036854775807:=by omega
   have z2:(qy l f (kid (ndi l i) 0) (lvl (ndi l i).2.1)++qAV (ndi l i).2.1).size+(qy l f (kid (ndi l i) 1) (lvl (ndi l i).2.1+1)).size≤9223372036854775807:=by rw [ByteArray.size_append];omega
   have z3:(⟨#[40]⟩:ByteArray).size+((qy l f (kid (ndi l i) 0) (lvl (ndi l i).2.1)++qAV (ndi l i).2.1)++qy l f (kid (ndi l i) 1) (lvl (ndi l i).2.1+1)).size≤9223372036854775807:=by rw [ByteArray.size_append,ByteArray.size_append];omega
   have z4:((⟨#[40]⟩:ByteArray)++((qy l f (kid (ndi l i) 0) (lvl (ndi l i).2.1)++qAV (ndi l i).2.1)++qy l f (kid (ndi l i) 1) (lvl (ndi l i).2.1+1))).size+(⟨#[41]⟩:ByteArray).size≤9223372036854775807:=by rw [ByteArray.size_append,ByteArray.size_append,ByteArray.size_append];omega
   have g2:qo m (l.map qa) (kid (ndi l i) 1) (IntKind.i64.wrap (lvl (ndi l i).2.1+1))=some (qy l f (kid (ndi l i) 1) (lvl (ndi l i).2.1+1)):=by rw [hw];exact g2
   refine qO (by rw [k];rfl) (qO (by rw [k];rfl) (qO (by rw [k];rfl) (qO (by rw [k];rfl) (qD (by rw [k];rfl) (qA g3 (qD (decide_eq_true y1) (qA c0 (qD rfl (qA (qAv _) (qD (decide_eq_true y2) (qA c1 (qD rfl (qA (qAv _) (qA g1 (qA g4 (qD (decide_eq_true z1) (qA g2 (qD (decide_eq_true z2) ?_))))))))))))))))))
   rw [qy,if_neg (by omega),if_neg (by omega),if_neg (by omega),if_neg (by omega),if_pos k]
   unfold par
   by_cases ht:lvl (ndi l i).2.1<t
   ·refine qD (decide_eq_true ht) (qD (decide_eq_true z3) (qD (decide_eq_true z4) ?_))
    rw [qC,if_pos (decide_eq_true ht)]
   ·refine qO (decide_eq_false ht) ?_
    rw [qC,if_neg (by simpa using ht)]
  ·obtain ⟨n0,g0⟩:=qAa (F:=fun k n=>qo n (l.map qa) k 0) (f:=fun k=>qy l f k 1) (qV l i) (fun k hk=>by
    have:=ih k hk 0
    rw [qUn] at this
    exact this)
   obtain ⟨n1,g1⟩:=qNq (ndi l i).2.1 ho
   have h1:=qRN ho
   refine ⟨n0+n1+20,fun n hn=>?_⟩
   obtain ⟨m,rfl,hm⟩:=up1 hn
   have g0:=g0 m (by omega)
   have g1:=g1 m (by omega)
   have hj:=qSZ l f m ((ndi l i).1,(ndi l i).2.1,(ndi l i).2.2.1,(ndi l i).2.2.2.1,(ndi l i).2.2.2.2.1,(ndi l i).2.2.2.2.2.1,(ndi l i).2.2.2.2.2.2.1,(ndi l i).2.2.2.2.2.2.2.1,(ndi l i).2.2.2.2.2.2.2.2.1,(ndi l i).2.2.2.2.2.2.2.2.2.1,(ndi l i).2.2.2.2.2.2.2.2.2.2.1,(ndi l i).2.2.2.2.2.2.2.2.2.2.2.1,(ndi l i).2.2.2.2.2.2.2.2.2.2.2.2.1,(kd (ndi l i)).map qq) (szB f) hs (kd (ndi l i)) rfl hk.2 (fun k hk=>⟨g0 k hk,isz k hk 1⟩) (kd (ndi l i)) [] (fnS (ndi l i).2.1++(⟨#[40]⟩:ByteArray)) m rfl (by omega) (by rw [ByteArray.size_append];omega)
   simp only [List.length_nil,Int.natCast_zero,if_true] at hj
   have hjs:=qM4 (xs:=(qV l i).map fun k=>qy l f k 1) (b:=szB f) (fun x hx=>by
    obtain ⟨k,hk,rfl⟩:=List.mem_map.1 hx
    exact isz k hk 1)
   have h3:(qV l i).length≤10:=hk.2
   have h4:(qV l i).length*(szB f+1)≤10*(szB f+1):=Nat.mul_le_mul_right _ h3
   rw [List.length_map] at hjs
   have ej:(⟨((fnS (ndi l i).2.1++(⟨#[40]⟩:ByteArray)).data.toList++Lib.join ((kd (ndi l i)).map fun k=>(qy l f k 1).data.toList) [44]).toArray⟩:ByteArray)=(fnS (ndi l i).2.1++(⟨#[40]⟩:ByteArray))++qRO ((qV l i).map fun k=>qy l f k 1):=by
    apply qH4
    rw [qDf]
    simp [qRO,qV,Function.comp_def]
   rw [ej] at hj
   obtain ⟨J,hJ⟩:∃J,qRO ((qV l i).map fun k=>qy l f k 1)=J:=⟨_,rfl⟩
   rw [hJ] at hj hjs
   have z1:(fnS (ndi l i).2.1).size+(⟨#[40]⟩:ByteArray).size≤9223372036854775807:=by omega
   have z2:((fnS (ndi l i).2.1++(⟨#[40]⟩:ByteArray))++J).size+(⟨#[41]⟩:ByteArray).size≤9223372036854775807:=by rw [ByteArray.size_append,ByteArray.size_append];omega
   unfold kd at hj
   dsimp only at g1⊢
   show (qB0 (qo m) m (l.map qa) i t).run=_
   refine qD (decide_eq_true hxb) (qA hcr (qD rfl (qA (qAb _) (qA (qAc _) (qA (qAd _) (qA (qAe _) (qA (qAf _) (qA (qAg _) (qA (qAh _) (qA (qAi _) (qA (qAj _) (qA (qAk _) (qA (q9 _) (qA (qAA _) (qA (qAB _) (qA (qAC _) ?_))))))))))))))))
   refine qO (by rw [k];rfl) (qO (by rw [k];rfl) (qO (by rw [k];rfl) (qO (by rw [k];rfl) (qO (by rw [k];rfl) (qA g1 (qD (decide_eq_true z1) (qA hj (qD (decide_eq_true z2) ?_))))))))
   rw [qC,qy,if_neg (by omega),if_neg (by omega),if_neg (by omega),if_neg (by omega),if_neg (by omega),hJ]
theorem qLO {l:List Nd} (h:Fine l):∀(f:Nat) (i t:Int),f≤12→(0≤i∧i<l.length)→qA7 (qV l) (i.toNat+1) i≤f→Ev (qo · (l.map qa) i t) (qy l f i t)
 |0,i,t,hf,hx,hd=>by
  have:=qOy (qV l) (i.toNat+1) i hx.1 (by omega)
  omega
 |f+1,i,t,hf,hx,hd=>qL5 h f i t hf hx hd fun k hk t'=>qLO h f k t' (by omega) (h.kid hx hd hk).1 (h.kid hx hd hk).2
theorem qU8:∀f:Fin 12,szB f.val≤12000000000000:=by decide
theorem qVY {f:Nat} (h:f≤11):szB f≤12000000000000:=qU8 ⟨f,by omega⟩
theorem qTs:∀xs:List ByteArray,zBn (xs.map fun x=> [PV.s x])=some xs
 | []=>rfl
 |x::r=>by simp only [List.map_cons,zBn,qTs r,Option.map_some]
theorem qSa (rec:List (List PV)→Int→Int→Option ByteArray) (n:Nat) (rows:List (List PV)) (T:Int→ByteArray) (a0 a1 a2 a3:Int) (a4:ByteArray) (a5 a6:Int) (a7 a8:Bool) (a9 a10:Int) (a11 a12:Bool) (a13:List (List PV)) (ks:List Int) (hk10:ks.length≤10)
  (hr:∀k∈ks,rec rows k 1=some (T k)):
  ∀(r pre:List Int) (M:Nat),ks=pre++r→r.length+1≤M→
   zC (qBh rec n) M (rows,pre.length,ks.map qq,((ks.map qq).length:Int),(pre.length:Int),a0,a1,a2,a3,a4,a5,a6,a7,a8,a9,a10,a11,a12,a13,pre.map fun k=> [PV.s (T k)])=some (ks.length,a0,a1,a2,a3,a4,a5,a6,a7,a8,a9,a10,a11,a12,a13,ks.map fun k=> [PV.s (T k)])
 |r,pre,0,h1,h2=>by omega
 | [],pre,M+1,h1,h2=>by
  have hi:¬(pre.length:Int)<((ks.map qq).length:Int):=by rw [List.length_map,h1];simp
  have e:pre=ks:=by rw [h1];simp
  rw [qP (r:=(pre.length,a0,a1,a2,a3,a4,a5,a6,a7,a8,a9,a10,a11,a12,a13,pre.map fun k=> [PV.s (T k)])) (by simp only [qBh,qC,qE,qG,qH,qJ,qK,Option.bind_some,qF,qM,qN,decide_eq_false hi,Bool.false_eq_true,if_false])]
  rw [e]
 |k::r,pre,M+1,h1,h2=>by
  have hm:k∈ks:=by rw [h1];simp
  have g1:=hr k hm
  have hpl:pre.length+(r.length+1)=ks.length:=by rw [h1];simp
  have hg:(ks.map qq)[pre.length]?=some (qq k):=by rw [h1,List.getElem?_map];simp
  have hi:(pre.length:Int)<((ks.map qq).length:Int):=by rw [List.length_map];omega
  have h3:0≤(pre.length:Int)∧(pre.length:Int)<((ks.map qq).length:Int):=by omega
  have w1:IntKind.i64.wrap ((pre.length:Int)+1)=((pre.length+1:Nat):Int):=by rw [qT (by omega)];omega
  have hc:pre.length=(pre.map fun k=> [PV.s (T k)]).length∧0<1∧0<16∧(pre.length+([[PV.s (T k)]]:List (List PV)).length)*16≤140737488355328∧([[PV.s (T k)]]:List (List PV)).all (fun e=>e.length==1)=true:=by
   refine ⟨by simp,by decide,by decide,?_,rfl⟩
   rw [List.length_singleton]
   omega
  have h1l:decide (1=([[PV.s (T k)]]:List (List PV)).length)=true:=rfl
  rw [qU (v':=(rows,pre.length+1,ks.map qq,((ks.map qq).length:Int),((pre.length+1:Nat):Int),a0,a1,a2,a3,a4,a5,a6,a7,a8,a9,a10,a11,a12,a13,(pre.map fun k=> [PV.s (T k)])++ [[PV.s (T k)]])) (by
   simp only [qBh,qC,qE,qG,qH,qJ,qK,Option.bind_some,qF,qM,qN,decide_eq_true hi,if_true,decide_eq_true h3,Int.toNat_natCast,hg,qBM,qAv,decide_true,g1,h1l,decide_eq_true hc,w1])]
  have h:=qSa rec n rows T a0 a1 a2 a3 a4 a5 a6 a7 a8 a9 a10 a11 a12 a13 ks hk10 hr r (pre++ [k]) M (by rw [h1];simp) (by simp at h2;omega)
  simp only [List.map_append,List.map_cons,List.map_nil,List.length_append,List.length_singleton] at h⊢
  exact h
set_option maxHeartbeats 4000000 in
theorem qIa {l:List Nd} (h:Fine l) (f:Nat) (i t:Int) (hf:f+1≤12) (hx:0≤i∧i<l.length) (hd:qA7 (qV l) (i.toNat+1) i≤(f+1:Nat)) (ih:∀k∈qV l i,∀t',Ev (qZ · (l.map qa) k t') (qy l f k t')):Ev (qZ · (l.map qa) i t) (qy l (f+1) i t):=by
  have ih:=fun k hk t'=>ih k hk t'
  have isz:=fun k hk t'=>qO2 h f k t' (by omega) (h.kid hx hd hk).1 (h.kid hx hd hk).2
  have hs:=qVW (f:=f) (by omega)
  have hcr:(l.map qa)[i.toNat]?=some (qa (ndi l i)):=by rw [List.getElem?_map,qC8 hx];rfl
  have hxb:0≤i∧i<((l.map qa).length:Int):=by rw [List.length_map];exact hx
  have hz:=(h.sz _ (qJl hx)).2
  have hp:∀a b c d,(qBL a b c d).size≤30:=qEx
  have d1:(⟨#[58]⟩:ByteArray).size=1:=rfl
  have d2:(⟨#[45]⟩:ByteArray).size=1:=rfl
  have d3:(⟨#[40]⟩:ByteArray).size=1:=rfl
  have d4:(⟨#[41]⟩:ByteArray).size=1:=rfl
  have hk0:∀j,j<(kd (ndi l i)).length→kid (ndi l i) j∈qV l i∧(List.map qq (ndi l i).2.2.2.2.2.2.2.2.2.2.2.2.2)[j]?=some (qq (kid (ndi l i) j)):=fun j hj=>by
   unfold kid
   rw [List.getD_eq_getElem?_getD,List.getElem?_eq_getElem hj]
   refine ⟨List.getElem_mem hj,?_⟩
   rw [List.getElem?_map]
   show ((kd (ndi l i))[j]?).map qq=_
   rw [List.getElem?_eq_getElem hj]
   rfl
  have hkl:(List.map qq (ndi l i).2.2.2.2.2.2.2.2.2.2.2.2.2).length=(kd (ndi l i)).length:=by rw [List.length_map];rfl
  rcases qLN (h.own i hx.1 hx.2).1 with ⟨k,hv⟩|k|k|⟨k,hk⟩|⟨k,ho,hk⟩|⟨k,ho,hk⟩
  ·by_cases k2:(ndi l i).2.2.1=2
   ·have hv2:okV 2 (ndi l i).2.2.2.1 (ndi l i).2.2.2.2.1=true:=by rw [←k2];exact hv
    have hq:=(qSP hv2).2.1
    obtain ⟨n1,g1⟩:=qR9 (ndi l i).2.2.2.2.1 (by omega)
    have h1:=qI6 (ndi l i).2.2.2.2.1.toList
    rw [qAZ] at h1
    have h2:(⟨(qBo (ndi l i).2.2.2.2.1.toList).toArray⟩:ByteArray).size=(qBo (ndi l i).2.2.2.2.1.toList).length:=by rw [qC7]
    have e:((⟨#[34]⟩:ByteArray)++⟨(qBo (ndi l i).2.2.2.2.1.toList).toArray⟩)++(⟨#[34]⟩:ByteArray)=qO0 (ndi l i).2.2.2.2.1:=by
     apply qH4
     rw [qDf,qDf]
     simp [qO0]
    have d5:(⟨#[34]⟩:ByteArray).size=1:=rfl
    refine ⟨n1+1,fun n hn=>?_⟩
    obtain ⟨m,rfl,hm⟩:=up1 hn
    have g1:=g1 m (by omega)
    dsimp only at g1⊢
    obtain ⟨q,hqe⟩:∃q,(⟨(qBo (ndi l i).2.2.2.2.1.toList).toArray⟩:ByteArray)=q:=⟨_,rfl⟩
    rw [hqe] at g1 h2 e
    have z1:(⟨#[34]⟩:ByteArray).size+q.size≤9223372036854775807:=by omega
    have z2:((⟨#[34]⟩:ByteArray)++q).size+(⟨#[34]⟩:ByteArray).size≤9223372036854775807:=by rw [ByteArray.size_append];omega
    show (qAt (qZ m) m (l.map qa) i t).run=_
    refine qD (decide_eq_true hxb) (qA hcr (qD rfl (qA (qAb _) (qA (qAc _) (qA (qAd _) (qA (qAe _) (qA (qAf _) (qA (qAg _) (qA (qAh _) (qA (qAi _) (qA (qAj _) (qA (qAk _) (qA (q9 _) (qA (qAA _) (qA (qAB _) (qA (qAC _) ?_))))))))))))))))
    refine qD (by rw [k];rfl) (qD (by rw [k2];rfl) (qA g1 (qD (decide_eq_true z1) (qD (decide_eq_true z2) ?_))))
    rw [qC,qy,if_pos k,if_pos k2,e]
   ·obtain ⟨n1,g1⟩:=qH5 (ndi l i).2.2.1 (ndi l i).2.2.2.1 (ndi l i).2.2.2.2.1 hv
    have kb:((ndi l i).2.2.1==(2:Int))=false:=by simpa using k2
    refine ⟨n1+1,fun n hn=>?_⟩
    obtain ⟨m,rfl,hm⟩:=up1 hn
    have g1:=g1 m (by omega)
    dsimp only at g1⊢
    show (qAt (qZ m) m (l.map qa) i t).run=_
    refine qD (decide_eq_true hxb) (qA hcr (qD rfl (qA (qAb _) (qA (qAc _) (qA (qAd _) (qA (qAe _) (qA (qAf _) (qA (qAg _) (qA (qAh _) (qA (qAi _) (qA (qAj _) (qA (qAk _) (qA (q9 _) (qA (qAA _) (qA (qAB _) (qA (qAC _) ?_))))))))))))))))
    refine qD (by rw [k];rfl) (qO kb (qA g1 ?_))
    rw [qC,qy,if_pos k,if_neg k2]
  ·obtain ⟨n1,g1⟩:=qCv (ndi l i).2.2.2.2.2.1 (ndi l i).2.2.2.2.2.2.1 (ndi l i).2.2.2.2.2.2.2.1 (ndi l i).2.2.2.2.2.2.2.2.1
   refine ⟨n1+1,fun n hn=>?_⟩
   obtain ⟨m,rfl,hm⟩:=up1 hn
   have g1:=g1 m (by omega)
   dsimp only at g1⊢
   show (qAt (qZ m) m (l.map qa) i t).run=_
   refine qD (decide_eq_true hxb) (qA hcr (qD rfl (qA (qAb _) (qA (qAc _) (qA (qAd _) (qA (qAe _) (qA (qAf _) (qA (qAg _) (qA (qAh _) (qA (qAi _) (qA (qAj _) (qA (qAk _) (qA (q9 _) (qA (qAA _) (qA (qAB _) (qA (qAC _) ?_))))))))))))))))
   refine qO (by rw [k];rfl) (qD (by rw [k];rfl) (qA g1 ?_))
   rw [qC,qy,if_neg (by omega),if_pos k]
  ·obtain ⟨n1,g1⟩:=qCv (ndi l i).2.2.2.2.2.1 (ndi l i).2.2.2.2.2.2.1 (ndi l i).2.2.2.2.2.2.2.1 (ndi l i).2.2.2.2.2.2.2.2.1
   obtain ⟨n2,g2⟩:=qCv (ndi l i).2.2.2.2.2.2.2.2.2.1 (ndi l i).2.2.2.2.2.2.2.2.2.2.1 (ndi l i).2.2.2.2.2.2.2.2.2.2.2.1 (ndi l i).2.2.2.2.2.2.2.2.2.2.2.2.1
   have h1:=hp (ndi l i).2.2.2.2.2.1 (ndi l i).2.2.2.2.2.2.1 (ndi l i).2.2.2.2.2.2.2.1 (ndi l i).2.2.2.2.2.2.2.2.1
   have h2:=hp (ndi l i).2.2.2.2.2.2.2.2.2.1 (ndi l i).2.2.2.2.2.2.2.2.2.2.1 (ndi l i).2.2.2.2.2.2.2.2.2.2.2.1 (ndi l i).2.2.2.2.2.2.2.2.2.2.2.2.1
   have z1:(qBL (ndi l i).2.2.2.2.2.1 (ndi l i).2.2.2.2.2.2.1 (ndi l i).2.2.2.2.2.2.2.1 (ndi l i).2.2.2.2.2.2.2.2.1).size+(⟨#[58]⟩:ByteArray).size≤9223372036854775807:=by omega
   have z2:(qBL (ndi l i).2.2.2.2.2.1 (ndi l i).2.2.2.2.2.2.1 (ndi l i).2.2.2.2.2.2.2.1 (ndi l i).2.2.2.2.2.2.2.2.1++(⟨#[58]⟩:ByteArray)).size+(qBL (ndi l i).2.2.2.2.2.2.2.2.2.1 (ndi l i).2.2.2.2.2.2.2.2.2.2.1 (ndi l i).2.2.2.2.2.2.2.2.2.2.2.1 (ndi l i).2.2.2.2.2.2.2.2.2.2.2.2.1).size≤9223372036854775807:=by rw [ByteArray.size_append];omega
   refine ⟨n1+n2+1,fun n hn=>?_⟩
   obtain ⟨m,rfl,hm⟩:=up1 hn
   have g1:=g1 m (by omega)
   have g2:=g2 m (by omega)
   dsimp only at g1 g2⊢
   show (qAt (qZ m) m (l.map qa) i t).run=_
   refine qD (decide_eq_true hxb) (qA hcr (qD rfl (qA (qAb _) (qA (qAc _) (qA (qAd _) (qA (qAe _) (qA (qAf _) (qA (qAg _) (qA (qAh _) (qA (qAi _) (qA (qAj _) (qA (qAk _) (qA (q9 _) (qA (qAA _) (qA (qAB _) (qA (qAC _) ?_))))))))))))))))
   refine qO (by rw [k];rfl) (qO (by rw [k];rfl) (qD (by rw [k];rfl) (qA g1 (qD (decide_eq_true z1) (qA g2 (qD (decide_eq_true z2) ?_))))))
   rw [qC,qy,if_neg (by omega),if_neg (by omega),if_pos k]
  ·obtain ⟨m0,c0⟩:=hk0 0 (by omega)
   obtain ⟨n1,g1⟩:=ih _ m0 5
   have h1:=isz _ m0 5
   have z1:(⟨#[45]⟩:ByteArray).size+(qy l f (kid (ndi l i) 0) 5).size≤9223372036854775807:=by omega
   have y1:(0:Int)≤(0:Int)∧(0:Int)<((List.map qq (ndi l i).2.2.2.2.2.2.2.2.2.2.2.2.2).length:Int):=by rw [hkl];omega
   refine ⟨n1+1,fun n hn=>?_⟩
   obtain ⟨m,rfl,hm⟩:=up1 hn
   have g1:=g1 m (by omega)
   dsimp only at g1⊢
   have e0:((0:Int)).toNat=0:=rfl
   show (qAt (qZ m) m (l.map qa) i t).run=_
   refine qD (decide_eq_true hxb) (qA hcr (qD rfl (qA (qAb _) (qA (qAc _) (qA (qAd _) (qA (qAe _) (qA (qAf _) (qA (qAg _) (qA (qAh _) (qA (qAi _) (qA (qAj _) (qA (qAk _) (qA (q9 _) (qA (qAA _) (qA (qAB _) (qA (qAC _) ?_))))))))))))))))
   refine qO (by rw [k];rfl) (qO (by rw [k];rfl) (qO (by rw [k];rfl) (qD (by rw [k];rfl) (qD (decide_eq_true y1) (qA c0 (qD rfl (qA (qAv _) (qA g1 (qD (decide_eq_true z1) ?_)))))))))
   rw [qC,qy,if_neg (by omega),if_neg (by omega),if_neg (by omega),if_pos k]
  ·obtain ⟨m0,c0⟩:=hk0 0 (by omega)
   obtain ⟨m1,c1⟩:=hk0 1 (by omega)
   have hlv:=qUN (ndi l i).2.1
   obtain ⟨n1,g1⟩:=ih _ m0 (lvl (ndi l i).2.1)
   obtain ⟨n2,g2⟩:=ih _ m1 (lvl (ndi l i).2.1+1)
   obtain ⟨n3,g3⟩:=qML (ndi l i).2.1 ho
   obtain ⟨n4,g4⟩:=qHg (ndi l i).2.1 ho
   have h1:=isz _ m0 (lvl (ndi l i).2.1)
   have h2:=isz _ m1 (lvl (ndi l i).2.1+1)
   have h3:=qM3 ho
   have hw:IntKind.i64.wrap (lvl (ndi l i).2.1+1)=lvl (ndi l i).2.1+1:=qT (by omega)
   have y1:(0:Int)≤(0:Int)∧(0:Int)<((List.map qq (ndi l i).2.2.2.2.2.2.2.2.2.2.2.2.2).length:Int):=by rw [hkl];omega
   have y2:(0:Int)≤(1:Int)∧(1:Int)<((List.map qq (ndi l i).2.2.2.2.2.2.2.2.2.2.2.2.2).length:Int):=by rw [hkl];omega
   refine ⟨n1+n2+n3+n4+1,fun n hn=>?_⟩
   obtain ⟨m,rfl,hm⟩:=up1 hn
   have g1:=g1 m (by omega)
   have g2:=g2 m (by omega)
   have g3:=g3 m (by omega)
   have g4:=g4 m (by omega)
   dsimp only at g1 g2 g3 g4⊢
   have e0:((0:Int)).toNat=0:=rfl
   have e1:((1:Int)).toNat=1:=rfl
   show (qAt (qZ m) m (l.map qa) i t).run=_
   refine qD (decide_eq_true hxb) (qA hcr (qD rfl (qA (qAb _) (qA (qAc _) (qA (qAd _) (qA (qAe _) (qA (qAf _) (qA (qAg _) (qA (qAh _) (qA (qAi _) (qA (qAj _) (qA (qAk _) (qA (q9 _) (qA (qAA _) (qA (qAB _) (qA (qAC _) ?_))))))))))))))))
   have z1:(qy l f (kid (ndi l i) 0) (lvl (ndi l i).2.1)).size+(qAV (ndi l i).2.1).size≤9223372036854775807:=by omega
   have z2:(qy l f (kid (ndi l i) 0) (lvl (ndi l i).2.1)++qAV (ndi l i).2.1).size+(qy l f (kid (ndi l i) 1) (lvl (ndi l i).2.1+1)).size≤9223372036854775807:=by rw [ByteArray.size_append];omega
   have z3:(⟨#[40]⟩:ByteArray).size+((qy l f (kid (ndi l i) 0) (lvl (ndi l i).2.1)++qAV (ndi l i).2.1)++qy l f (kid (ndi l i) 1) (lvl (ndi l i).2.1+1)).size≤9223372036854775807:=by rw [ByteArray.size_append,ByteArray.size_append];omega
   have z4:((⟨#[40]⟩:ByteArray)++((qy l f (kid (ndi l i) 0) (lvl (ndi l i).2.1)++qAV (ndi l i).2.1)++qy l f (kid (ndi l i) 1) (lvl (ndi l i).2.1+1))).size+(⟨#[41]⟩:ByteArray).size≤9223372036854775807:=by rw [ByteArray.size_append,ByteArray.size_append,ByteArray.size_append];omega
   have g2:qZ m (l.map qa) (kid (ndi l i) 1) (IntKind.i64.wrap (lvl (ndi l i).2.1+1))=some (qy l f (kid (ndi l i) 1) (lvl (ndi l i).2.1+1)):=by rw [hw];exact g2
   refine qO (by rw [k];rfl) (qO (by rw [k];rfl) (qO (by rw [k];rfl) (qO (by rw [k];rfl) (qD (by rw [k];rfl) (qA g3 (qD (decide_eq_true y1) (qA c0 (qD rfl (qA (qAv _) (qD (decide_eq_true y2) (qA c1 (qD rfl (qA (qAv _) (qA g1 (qA g4 (qD (decide_eq_true z1) (qA g2 (qD (decide_eq_true z2) ?_))))))))))))))))))
   rw [qy,if_neg (by omega),if_neg (by omega),if_neg (by omega),if_neg (by omega),if_pos k]
   unfold par
   by_cases ht:lvl (ndi l i).2.1<t
   ·refine qD (decide_eq_true ht) (qD (decide_eq_true z3) (qD (decide_eq_true z4) ?_))
    rw [qC,if_pos (decide_eq_true ht)]
   ·refine qO (decide_eq_false ht) ?_
    rw [qC,if_neg (by simpa using ht)]
  ·obtain ⟨n0,g0⟩:=qAa (F:=fun k n=>qZ n (l.map qa) k 1) (f:=fun k=>qy l f k 1) (qV l i) (fun k hk=>ih k hk 1)
   obtain ⟨n1,g1⟩:=qLM (ndi l i).2.1 ho
   have h1:=qRN ho
   have hs11:=qVY (f:=f) (by omega)
   have h3:(qV l i).length≤10:=hk.2
   have hjs:=qM4 (xs:=(qV l i).map fun k=>qy l f k 1) (b:=szB f) (fun x hx=>by
    obtain ⟨k,hk,rfl⟩:=List.mem_map.1 hx
    exact isz k hk 1)
   have h4:(qV l i).length*(szB f+1)≤10*(szB f+1):=Nat.mul_le_mul_right _ h3
   rw [List.length_map] at hjs
   have gj:∀n,1≤n→qHU n (((qV l i).map fun k=>qy l f k 1).map fun x=> [PV.s x]) ⟨#[44]⟩=some (qRO ((qV l i).map fun k=>qy l f k 1)):=fun n hn=>by
    obtain ⟨m,rfl,_⟩:=up1 (n0:=0) hn
    show zAt _ _=_
    unfold zAt
    rw [qTs,Option.bind_some,if_pos]
    ·rfl
    ·rw [qC7] at hjs
     refine ⟨by rw [List.length_map];omega,?_⟩
     have:(Lib.join (((qV l i).map fun k=>qy l f k 1).map (·.data.toList)) [44]).length≤(qV l i).length*(szB f+1):=hjs
     show (Lib.join (((qV l i).map fun k=>qy l f k 1).map (·.data.toList)) [44]).length≤_
     omega
   refine ⟨n0+n1+20,fun n hn=>?_⟩
   obtain ⟨m,rfl,hm⟩:=up1 hn
   have g0:=g0 m (by omega)
   have g1:=g1 m (by omega)
   have gj:=gj m (by omega)
   have hj:=qSa (qZ m) m (l.map qa) (fun k=>qy l f k 1) (ndi l i).1 (ndi l i).2.1 (ndi l i).2.2.1 (ndi l i).2.2.2.1 (ndi l i).2.2.2.2.1 (ndi l i).2.2.2.2.2.1 (ndi l i).2.2.2.2.2.2.1 (ndi l i).2.2.2.2.2.2.2.1 (ndi l i).2.2.2.2.2.2.2.2.1 (ndi l i).2.2.2.2.2.2.2.2.2.1 (ndi l i).2.2.2.2.2.2.2.2.2.2.1 (ndi l i).2.2.2.2.2.2.2.2.2.2.2.1 (ndi l i).2.2.2.2.2.2.2.2.2.2.2.2.1 ((kd (ndi l i)).map qq) (kd (ndi l i)) hk.2 g0 (kd (ndi l i)) [] m rfl (by omega)
   simp only [List.length_nil,Int.natCast_zero,List.map_nil,List.length_map] at hj
   obtain ⟨J,hJ⟩:∃J,qRO ((qV l i).map fun k=>qy l f k 1)=J:=⟨_,rfl⟩
   rw [hJ] at gj hjs
   have z1:(fnS (ndi l i).2.1).size+(⟨#[40]⟩:ByteArray).size≤9223372036854775807:=by omega
   have z2:(fnS (ndi l i).2.1++(⟨#[40]⟩:ByteArray)).size+J.size≤9223372036854775807:=by rw [ByteArray.size_append];omega
   have z3:((fnS (ndi l i).2.1++(⟨#[40]⟩:ByteArray))++J).size+(⟨#[41]⟩:ByteArray).size≤9223372036854775807:=by rw [ByteArray.size_append,ByteArray.size_append];omega
   unfold qV at gj
   unfold kd at hj gj
   dsimp only at g1⊢
   rw [List.map_map] at gj
   have hkl':(((ndi l i).2.2.2.2.2.2.2.2.2.2.2.2.2.map qq).length:Int)=((ndi l i).2.2.2.2.2.2.2.2.2.2.2.2.2.length:Int):=by rw [List.length_map]
   have hll:decide ((ndi l i).2.2.2.2.2.2.2.2.2.2.2.2.2.length=(List.map ((fun x=> [PV.s x])∘fun k=>qy l f k 1) (ndi l i).2.2.2.2.2.2.2.2.2.2.2.2.2).length)=true:=by simp
   have hmm:(List.map (fun k=> [PV.s (qy l f k 1)]) (ndi l i).2.2.2.2.2.2.2.2.2.2.2.2.2)=List.map ((fun x=> [PV.s x])∘fun k=>qy l f k 1) (ndi l i).2.2.2.2.2.2.2.2.2.2.2.2.2:=rfl
   rw [hmm] at hj
   rw [←hkl'] at hj
   show (qAt (qZ m) m (l.map qa) i t).run=_
   refine qD (decide_eq_true hxb) (qA hcr (qD rfl (qA (qAb _) (qA (qAc _) (qA (qAd _) (qA (qAe _) (qA (qAf _) (qA (qAg _) (qA (qAh _) (qA (qAi _) (qA (qAj _) (qA (qAk _) (qA (q9 _) (qA (qAA _) (qA (qAB _) (qA (qAC _) ?_))))))))))))))))
   refine qO (by rw [k];rfl) (qO (by rw [k];rfl) (qO (by rw [k];rfl) (qO (by rw [k];rfl) (qO (by rw [k];rfl) (qA hj (qA g1 (qD (decide_eq_true z1) (qD hll (qA gj (qD rfl (qD (decide_eq_true z2) (qD (decide_eq_true z3) ?_))))))))))))
   rw [qC,qy,if_neg (by omega),if_neg (by omega),if_neg (by omega),if_neg (by omega),if_neg (by omega),hJ]
theorem qGk {l:List Nd} (h:Fine l):∀(f:Nat) (i t:Int),f≤12→(0≤i∧i<l.length)→qA7 (qV l) (i.toNat+1) i≤f→Ev (qZ · (l.map qa) i t) (qy l f i t)
 |0,i,t,hf,hx,hd=>by
  have:=qOy (qV l) (i.toNat+1) i hx.1 (by omega)
  omega
 |f+1,i,t,hf,hx,hd=>qIa h f i t hf hx hd fun k hk t'=>qGk h f k t' (by omega) (h.kid hx hd hk).1 (h.kid hx hd hk).2
def qDO (l:List Nd):ByteArray:=if qGH l=true then (if ((qy l 12 ((l.length:Int)-1) 1).size:Int)>200 then ⟨#[]⟩ else qy l 12 ((l.length:Int)-1) 1) else ⟨#[]⟩
theorem qUo {l:List Nd} (h:qGH l=true) (hk:∀c∈l,(kd c).length≤140737488351232∧c.2.2.2.2.1.size≤140737488351232):Fine l∧(0≤(l.length:Int)-1∧(l.length:Int)-1<l.length)∧qA7 (qV l) (((l.length:Int)-1).toNat+1) ((l.length:Int)-1)≤(12:Nat):=by
 unfold qGH at h
 simp only [Bool.and_eq_true,decide_eq_true_eq] at h
 obtain ⟨h1,h2,h3,h4,h5⟩:=h
 have e:((l.length:Int)-1).toNat+1=l.length:=by omega
 rw [e]
 exact ⟨⟨h1.2,qGG.1 h2,hk⟩,by omega,h5⟩
theorem qL6 (l:List Nd) (hl:l.length≤140737488351232) (hk:∀c∈l,(kd c).length≤140737488351232∧c.2.2.2.2.1.size≤140737488351232):Ev (qBr · (l.map qa)) (qDO l):=by
 obtain ⟨n1,g1⟩:=qH8 l hk
 unfold qDO
 cases hf:qGH l with
 |false=>
  rw [hf] at g1
  refine ⟨n1+1,fun n hn=>?_⟩
  obtain ⟨m,rfl,hm⟩:=up1 hn
  have g1:=g1 m (by omega)
  dsimp only at g1⊢
  simp [qBr,qDQ,qC,qE,qG,qH,qJ,qK,Option.bind_some,qF,qM,qN,g1]
 |true=>
  rw [hf] at g1
  obtain ⟨q1,q2,q3⟩:=qUo hf hk
  obtain ⟨n2,g2⟩:=qLO q1 12 ((l.length:Int)-1) 0 (by decide) q2 q3
  rw [qUn] at g2
  have hw:IntKind.i64.wrap ((l.length:Int)-1)=(l.length:Int)-1:=qT (by omega)
  refine ⟨n1+n2+1,fun n hn=>?_⟩
  obtain ⟨m,rfl,hm⟩:=up1 hn
  have g1:=g1 m (by omega)
  have g2:=g2 m (by omega)
  dsimp only at g1 g2⊢
  generalize qy l 12 ((l.length:Int)-1) 1=t at*
  simp only [qBr,qDQ,qC,qE,qG,qH,qJ,qK,Option.bind_some,qF,qM,qN,g1,List.length_map,hw,g2]
  by_cases h2:(t.size:Int)>200<;>simp [h2]
theorem qL7 (l:List Nd) (hl:l.length≤140737488351232) (hk:∀c∈l,(kd c).length≤140737488351232∧c.2.2.2.2.1.size≤140737488351232):Ev (qBy · (l.map qa)) (qDO l):=by
 obtain ⟨n1,g1⟩:=qH9 l hl hk
 unfold qDO
 cases hf:qGH l with
 |false=>
  rw [hf] at g1
  refine ⟨n1+1,fun n hn=>?_⟩
  obtain ⟨m,rfl,hm⟩:=up1 hn
  have g1:=g1 m (by omega)
  dsimp only at g1⊢
  simp [qBy,qDU,qC,qE,qG,qH,qJ,qK,Option.bind_some,qF,qM,qN,g1]
 |true=>
  rw [hf] at g1
  obtain ⟨q1,q2,q3⟩:=qUo hf hk
  obtain ⟨n2,g2⟩:=qGk q1 12 ((l.length:Int)-1) 1 (by decide) q2 q3
  have hw:IntKind.i64.wrap ((l.length:Int)-1)=(l.length:Int)-1:=qT (by omega)
  refine ⟨n1+n2+1,fun n hn=>?_⟩
  obtain ⟨m,rfl,hm⟩:=up1 hn
  have g1:=g1 m (by omega)
  have g2:=g2 m (by omega)
  dsimp only at g1 g2⊢
  generalize qy l 12 ((l.length:Int)-1) 1=t at*
  simp only [qBy,qDU,qC,qE,qG,qH,qJ,qK,Option.bind_some,qF,qM,qN,g1,List.length_map,hw,g2]
  by_cases h2:(t.size:Int)>200<;>simp [h2]
abbrev PS:=List UInt8×Bool×List Nd
def tb (r:List UInt8):List UInt8:=r.dropWhile (· ==32)
def wch (c:UInt8):Bool:=(decide (65≤c.toNat)&&decide (c.toNat≤90))||((decide (48≤c.toNat)&&decide (c.toNat≤57))||c==36)
def wd (r:List UInt8):List UInt8:=r.takeWhile wch
def wr (r:List UInt8):List UInt8:=r.dropWhile wch
def BR (r:List UInt8):ByteArray:=⟨r.toArray⟩
def qEv:List (List UInt8):= [[60,62],[60,61],[62,61],[60],[62],[61],[38],[43],[45],[42],[47],[40],[41],[44],[58]]
def sgn (r:List UInt8):List UInt8:=match qEv.find? (fun w=>w.isPrefixOf r) with|some w=>w|none=> []
def nd1 (v:V3):Nd:=(1,0,v.1,v.2.1,v.2.2,0,0,false,false,0,0,false,false,[])
def ndK (k op:Int) (kids:List Int):Nd:=(k,op,0,0,em,0,0,false,false,0,0,false,false,kids)
def ndC (p:Int×Int×Bool×Bool×Bool):Nd:=(2,0,0,0,em,p.1,p.2.1,p.2.2.1,p.2.2.2.1,0,0,false,false,[])
def ndA (p q:Int×Int×Bool×Bool×Bool):Nd:=(3,0,0,0,em,p.1,p.2.1,p.2.2.1,p.2.2.2.1,q.1,q.2.1,q.2.2.1,q.2.2.2.1,[])
def qCJ:List UInt8→List UInt8→Option (List UInt8×List UInt8)
 |_,[]=>none
 |acc,c::t=>if c=34 then (match t with
   |d::t'=>if d=34 then qCJ (acc++ [34]) t' else some (acc,t)
   | []=>some (acc,[])) else qCJ (acc++ [c]) t
def qKI (r:List UInt8):Int→Nat→Option Int
 |_,0=>none
 |n,k+1=>if (qf n).toList.isPrefixOf r=true then some n else qKI r (n+1) k
def qGs (w:List UInt8):Int→Nat→Option Int
 |_,0=>none
 |n,k+1=>if (fnS n).toList=w then some n else qGs w (n+1) k
def qA3 (r:List UInt8):Int:=
 if sgn r= [43] then 1 else if sgn r= [45] then 2 else if sgn r= [42] then 3 else if sgn r= [47] then 4 else if sgn r= [38] then 5 else if sgn r= [61] then 6 else
 if sgn r= [60,62] then 7 else if sgn r= [60] then 8 else if sgn r= [60,61] then 9 else if sgn r= [62] then 10 else if sgn r= [62,61] then 11 else 0
def qX (w:List UInt8) (p:PS):Bool×PS:=if sgn (tb p.1)=w then (true,(tb p.1).drop w.length,p.2) else (false,tb p.1,p.2)
def qDb (x:Nd) (p:PS):Int×PS:=if p.2.1=true∨60≤p.2.2.length then ((p.2.2.length:Int)-1,p.1,true,p.2.2) else ((p.2.2.length:Int),p.1,false,p.2.2++ [x])
def qUO (p:PS):PS:=(p.1,true,p.2.2)
def qCX (w:List UInt8) (p:PS):PS:=if p.2.1=true then p else if (qX w p).1=true then (qX w p).2 else qUO (qX w p).2
def qBN (p:PS):Option Nd×PS:=
 let w:=wd (tb p.1)
 let p1:PS:=(wr (tb p.1),p.2)
 if (qA9 (BR w)).2.2.2.2=true∧(qX [58] p1).1=true then
  let p2:=(qX [58] p1).2
  let w2:=wd (tb p2.1)
  (some (ndA (qA9 (BR w)) (qA9 (BR w2))),wr (tb p2.1),p2.2.1||!(qA9 (BR w2)).2.2.2.2,p2.2.2)
 else (none,p)
def qEy (o:Option Nd×PS) (g:PS→Int×PS):Int×PS:=match o.1 with
 |some x=>qDb x o.2
 |none=>g o.2
inductive PJ where
 |bin (least deep:Int)
 |loop (least deep a:Int)
 |un (deep:Int)
 |at (deep:Int)
 |call (op deep:Int)
 |args (op deep:Int) (kids:List Int)
def pP:Nat→PJ→PS→Int×PS
 |0,_,p=>(0,p)
 |f+1,.bin least deep,p=>pP f (.loop least deep (pP f (.un deep) p).1) (pP f (.un deep) p).2
 |f+1,.loop least deep a,p=>
  if p.2.1=true then (a,p) else
  if qA3 (tb p.1)=0∨lvl (qA3 (tb p.1))<least then (a,tb p.1,p.2) else
  let p1:PS:=((tb p.1).drop (sgn (tb p.1)).length,p.2)
  let q:=pP f (.bin (lvl (qA3 (tb p.1))+1) deep) p1
  let c:=qDb (ndK 5 (qA3 (tb p.1)) [a,q.1]) q.2
  pP f (.loop least deep c.1) c.2
 |f+1,.un deep,p=>
  if deep>400∨p.2.1=true then (-1,qUO p) else
  if (qX [45] p).1=true then
   let q:=pP f (.un (deep+1)) (qX [45] p).2
   qDb (ndK 4 0 [q.1]) q.2
  else pP f (.at deep) (qX [45] p).2
 |f+1,.at deep,p=>
  let r:=tb p.1
  if r.head?=some 34 then (match qCJ [] r.tail with
   |none=>(-1,r,true,p.2.2)
   |some (s,t)=>qDb (nd1 (2,0,BR s)) (t,p.2))
  else match (if r.head?=some 35 then qKI r 1 5 else none) with
  |some n=>qDb (nd1 (4,n,em)) (r.drop (qf n).size,p.2)
  |none=>
   if r.head?≠some 35∧(qX [40] p).1=true then
    let q:=pP f (.bin 1 (deep+1)) (qX [40] p).2
    (q.1,qCX [41] q.2)
   else
    let w:=wd r
    let p2:PS:=(wr r,p.2)
    if (qi (BR w)).2.2.2=true∧((qi (BR w)).1=1∨(qi (BR w)).1=3) then qDb (nd1 ((qi (BR w)).1,(qi (BR w)).2.1,(qi (BR w)).2.2.1)) p2
    else if (qA9 (BR w)).2.2.2.2=true then qDb (ndC (qA9 (BR w))) p2
    else match qGs w 1 10 with
    |some op=>pP f (.call op deep) p2
    |none=>(-1,qUO p2)
 |f+1,.call op deep,p=>pP f (.args op deep []) (qCX [40] p)
 |f+1,.args op deep kids,p=>
  if p.2.1=true then qDb (ndK 6 op kids) p else
  let q:=qEy (qBN p) (fun p=>pP f (.bin 1 (deep+1)) p)
  if (qX [44] q.2).1=true then pP f (.args op deep (kids++ [q.1])) (qX [44] q.2).2
  else qDb (ndK 6 op (kids++ [q.1])) (qCX [41] (qX [44] q.2).2)
def sIs (w:List UInt8) (q:PS):Bool×PS:=if q.2.1=true then (false,tb q.1,q.2) else if w.isPrefixOf (tb q.1)=true then (true,(tb q.1).drop w.length,q.2) else (false,tb q.1,q.2)
def qEV (x:Nd) (q:PS):Int×PS:=((q.2.2.length:Int),q.1,(if 60<q.2.2.length+1∨qFc x=false then true else q.2.1),q.2.2++ [x])
def qM5 (q:PS):PS:=(q.1,true,q.2.2)
def qCL:List Int:= [7,9,11,6,8,10,1,2,3,4,5]
def qEE (level:Int) (r:List UInt8):List Int→Int
 | []=>0
 |o::l=>if lvl o=level∧(qAV o).toList.isPrefixOf r=true then o else qEE level r l
def sOp (level:Int) (q:PS):Int×PS:=
 if q.2.1=true then (0,tb q.1,q.2) else
 (qEE level (tb q.1) qCL,(if qEE level (tb q.1) qCL=0 then tb q.1 else (tb q.1).drop (qAV (qEE level (tb q.1) qCL)).size),q.2)
def qTt (r:List UInt8):Int→Nat→Option Int
 |_,0=>none
 |n,k+1=>if (qf n).toList.tail.isPrefixOf r=true then some n else qTt r (n+1) k
inductive SJ where
 |row (level:Int)
 |rl (level a:Int)
 |one
 |call (op:Int) (kids:List Int)
 |arg
def sP:Nat→SJ→PS→Int×PS
 |0,_,q=>(0,q)
 |f+1,.row level,q=>
  if q.2.1=true then (0,q) else
  if level=5 then sP f .one q else
  sP f (.rl level (sP f (.row (level+1)) q).1) (sP f (.row (level+1)) q).2
 |f+1,.rl level a,q=>
  if q.2.1=true then (a,q) else
  let o:=sOp level q
  if o.1=0 then (a,o.2) else
  let b:=sP f (.row (level+1)) o.2
  let c:=qEV (ndK 5 o.1 [a,b.1]) b.2
  sP f (.rl level c.1) c.2
 |f+1,.one,q=>
  if (sIs [45] q).1=true then
   let b:=sP f (.row 5) (sIs [45] q).2
   qEV (ndK 4 0 [b.1]) b.2
  else if (sIs [40] (sIs [45] q).2).1=true then
   let b:=sP f (.row 1) (sIs [40] (sIs [45] q).2).2
   (b.1,if (sIs [41] b.2).1=true then (sIs [41] b.2).2 else qM5 (sIs [41] b.2).2)
  else
   let q2:PS:=(tb q.1,q.2)
   if (sIs [34] q2).1=true then (match qCJ [] (sIs [34] q2).2.1 with
    |none=>(0,[],true,q.2.2)
    |some (s,t)=>qEV (nd1 (2,0,BR s)) (t,q.2))
   else if (sIs [35] q2).1=true then (match qTt (sIs [35] q2).2.1 1 5 with
    |some n=>qEV (nd1 (4,n,em)) ((sIs [35] q2).2.1.drop ((qf n).size-1),q.2)
    |none=>(0,(sIs [35] q2).2.1,true,q.2.2))
   else
    let w:=wd (tb q.1)
    let q3:PS:=(wr (tb q.1),q.2)
    match qGs w 1 10 with
    |some op=>if (sIs [40] q3).1=true then sP f (.call op []) (sIs [40] q3).2 else (0,qM5 (sIs [40] q3).2)
    |none=>
     if (qi (BR w)).2.2.2=true∧w≠ [] then qEV (nd1 ((qi (BR w)).1,(qi (BR w)).2.1,(qi (BR w)).2.2.1)) q3
     else if (qA9 (BR w)).2.2.2.2=true then qEV (ndC (qA9 (BR w))) q3
     else (0,qM5 q3)
 |f+1,.call op kids,q=>
  if q.2.1=true then (0,q) else
  let a:=sP f .arg q
  if (sIs [41] a.2).1=true then qEV (ndK 6 op (kids++ [a.1])) (sIs [41] a.2).2
  else sP f (.call op (kids++ [a.1])) (if (sIs [44] (sIs [41] a.2).2).1=true then (sIs [44] (sIs [41] a.2).2).2 else qM5 (sIs [44] (sIs [41] a.2).2).2)
 |f+1,.arg,q=>
  let w:=wd (tb q.1)
  let q1:PS:=(wr (tb q.1),q.2)
  if (qA9 (BR w)).2.2.2.2=true∧(sIs [58] q1).1=true then
   let q2:=(sIs [58] q1).2
   let w2:=wd (tb q2.1)
   if (qA9 (BR w2)).2.2.2.2=true then qEV (ndA (qA9 (BR w)) (qA9 (BR w2))) (wr (tb q2.1),q2.2) else (0,wr (tb q2.1),true,q2.2.2)
  else sP f (.row 1) (tb q.1,q.2)
theorem qCd:∀r:List UInt8,tb (tb r)=tb r
 | []=>rfl
 |c::r=>by
  unfold tb
  by_cases h:(c==32)=true
  ·simp only [List.dropWhile_cons,h,if_true];exact qCd r
  ·simp [List.dropWhile_cons,h]
theorem qAD:∀r:List UInt8,(tb r).length≤r.length
 | []=>Nat.le_refl _
 |c::r=>by
  unfold tb
  by_cases h:(c==32)=true
  ·simp only [List.dropWhile_cons,h,if_true];exact Nat.le_succ_of_le (qAD r)
  ·simp [List.dropWhile_cons,h]
theorem qSb {p:UInt8→Bool}:∀r:List UInt8,(r.dropWhile p).length≤r.length
 | []=>Nat.le_refl _
 |c::r=>by
  by_cases h:p c=true
  ·simp only [List.dropWhile_cons,h,if_true];exact Nat.le_succ_of_le (qSb r)
  ·simp [List.dropWhile_cons,h]
theorem qHh (r:List UInt8):(wr r).length≤r.length:=qSb r
theorem wdr (r:List UInt8):wd r++wr r=r:=List.takeWhile_append_dropWhile
theorem qTL (c:UInt8) (t:List UInt8) (h1:c≠60) (h2:c≠62):sgn (c::t)=if c∈([61,38,43,45,42,47,40,41,44,58]:List UInt8) then [c] else []:=by
 have e1:(60==c)=false:=by simpa using fun e=>h1 e.symm
 have e2:(62==c)=false:=by simpa using fun e=>h2 e.symm
 by_cases h:c∈([61,38,43,45,42,47,40,41,44,58]:List UInt8)
 ·rw [if_pos h]
  simp only [List.mem_cons,List.not_mem_nil,or_false] at h
  rcases h with rfl|rfl|rfl|rfl|rfl|rfl|rfl|rfl|rfl|rfl<;>rfl
 ·rw [if_neg h]
  simp only [List.mem_cons,List.not_mem_nil,or_false,not_or] at h
  obtain ⟨a1,a2,a3,a4,a5,a6,a7,a8,a9,a10⟩:=h
  have f:∀d:UInt8,c≠d→(d==c)=false:=fun d hd=>by simpa using fun e=>hd e.symm
  simp [sgn,qEv,List.find?,List.isPrefixOf,e1,e2,f _ a1,f _ a2,f _ a3,f _ a4,f _ a5,f _ a6,f _ a7,f _ a8,f _ a9,f _ a10]
theorem qRQ (t:List UInt8):sgn (60::t)=if t.head?=some 62 then [60,62] else if t.head?=some 61 then [60,61] else [60]:=by
 cases t with
 |nil=>rfl
 |cons d t=>
  by_cases h:d=62
  ·subst h;rfl
  ·by_cases h2:d=61
   ·subst h2;rfl
   ·have e1:(62==d)=false:=by simpa using fun e=>h e.symm
    have e2:(61==d)=false:=by simpa using fun e=>h2 e.symm
    simp [sgn,qEv,List.find?,List.isPrefixOf,e1,e2,h,h2]
theorem qTM (t:List UInt8):sgn (62::t)=if t.head?=some 61 then [62,61] else [62]:=by
 cases t with
 |nil=>rfl
 |cons d t=>
  by_cases h2:d=61
  ·subst h2;rfl
  ·have e2:(61==d)=false:=by simpa using fun e=>h2 e.symm
   simp [sgn,qEv,List.find?,List.isPrefixOf,e2,h2]
theorem qXC {c:UInt8} (hc:c∈([45,40,41,44,58]:List UInt8)) (r:List UInt8):(sgn r= [c])↔([c].isPrefixOf r=true):=by
 cases r with
 |nil=>
  have:sgn []= []:=rfl
  rw [this]
  simp [List.isPrefixOf]
 |cons d t=>
  have hcc:c≠60∧c≠62∧c∈([61,38,43,45,42,47,40,41,44,58]:List UInt8):=by
   simp only [List.mem_cons,List.not_mem_nil,or_false] at hc
   rcases hc with rfl|rfl|rfl|rfl|rfl<;>decide
  have e:([c].isPrefixOf (d::t)=true)↔c=d:=by simp [List.isPrefixOf]
  rw [e]
  by_cases h1:d=60
  ·subst h1
   rw [qRQ]
   constructor
   ·intro h;split at h
    ·cases h
    ·split at h
     ·cases h
     ·simp only [List.cons.injEq,and_true] at h;exact absurd h.symm hcc.1
   ·intro h;exact absurd h hcc.1
  ·by_cases h2:d=62
   ·subst h2
    rw [qTM]
    constructor
    ·intro h;split at h
     ·cases h
     ·simp only [List.cons.injEq,and_true] at h;exact absurd h.symm hcc.2.1
    ·intro h;exact absurd h hcc.2.1
   ·rw [qTL d t h1 h2]
    constructor
    ·intro h;split at h
     ·simp only [List.cons.injEq,and_true] at h;exact h.symm
     ·cases h
    ·intro h;subst h;rw [if_pos hcc.2.2]
theorem qWE {c:UInt8} (hc:c∈([45,40,41,44,58]:List UInt8)) {p q:PS} (hb:q.2.1=false) (ht:tb p.1=tb q.1):(qX [c] p).1=(sIs [c] q).1∧(qX [c] p).2.1=(sIs [c] q).2.1∧(qX [c] p).2.2=p.2∧(sIs [c] q).2.2=q.2:=by
 have h:=qXC hc (tb q.1)
 unfold qX sIs
 rw [ht,hb]
 by_cases hs:sgn (tb q.1)= [c]
 ·rw [if_pos hs,if_neg (by simp),if_pos (h.1 hs)]
  exact ⟨rfl,rfl,rfl,rfl⟩
 ·rw [if_neg hs,if_neg (by simp),if_neg (fun e=>hs (h.2 e))]
  exact ⟨rfl,rfl,rfl,rfl⟩
theorem qD0 {w:List UInt8} (hw:w≠ []) {p:PS} (h:(qX w p).1=true):(qX w p).2.1.length<(tb p.1).length:=by
 unfold qX at h⊢
 by_cases hs:sgn (tb p.1)=w
 ·rw [if_pos hs]
  have hp:w.isPrefixOf (tb p.1)=true:=by
   unfold sgn at hs
   split at hs
   ·rename_i x hx
    subst hs
    have:=List.find?_some hx
    simpa using this
   ·exact absurd hs.symm hw
  obtain ⟨t,ht⟩:=List.isPrefixOf_iff_prefix.1 hp
  have h0:0<w.length:=List.length_pos_iff.2 hw
  have h1:=congrArg List.length ht
  simp only [List.length_append] at h1
  simp only [List.length_drop]
  omega
 ·rw [if_neg hs] at h;cases h
theorem qJm (w:List UInt8) (p:PS):(qX w p).2.1.length≤(tb p.1).length:=by
 unfold qX
 split
 ·simp
 ·exact Nat.le_refl _
theorem qUp (r:List UInt8):(qA3 r=0)∨(1≤qA3 r∧qA3 r≤11∧sgn r=(qAV (qA3 r)).toList):=by
 unfold qA3
 repeat' (split; · rename_i h;right;rw [h];exact ⟨by decide,by decide,by decide+kernel⟩)
 left;rfl
theorem sg1:(qAV 1).toList= [43]:=by decide+kernel
theorem sg2:(qAV 2).toList= [45]:=by decide+kernel
theorem sg3:(qAV 3).toList= [42]:=by decide+kernel
theorem sg4:(qAV 4).toList= [47]:=by decide+kernel
theorem sg5:(qAV 5).toList= [38]:=by decide+kernel
theorem sg6:(qAV 6).toList= [61]:=by decide+kernel
theorem sg7:(qAV 7).toList= [60,62]:=by decide+kernel
theorem sg8:(qAV 8).toList= [60]:=by decide+kernel
theorem sg9:(qAV 9).toList= [60,61]:=by decide+kernel
theorem qVZ:(qAV 10).toList= [62]:=by decide+kernel
theorem qVa:(qAV 11).toList= [62,61]:=by decide+kernel
theorem qIb (r:List UInt8):qEE 1 r qCL=if [60,62].isPrefixOf r=true then 7 else if [60,61].isPrefixOf r=true then 9 else if [62,61].isPrefixOf r=true then 11 else if [61].isPrefixOf r=true then 6 else if [60].isPrefixOf r=true then 8 else if [62].isPrefixOf r=true then 10 else 0:=by
 simp [qEE,qCL,lvl,sg1,sg2,sg3,sg4,sg5,sg6,sg7,sg8,sg9,qVZ,qVa]
theorem qIc (r:List UInt8):qEE 2 r qCL=if [38].isPrefixOf r=true then 5 else 0:=by
 simp [qEE,qCL,lvl,sg1,sg2,sg3,sg4,sg5,sg6,sg7,sg8,sg9,qVZ,qVa]
theorem qId (r:List UInt8):qEE 3 r qCL=if [43].isPrefixOf r=true then 1 else if [45].isPrefixOf r=true then 2 else 0:=by
 simp [qEE,qCL,lvl,sg1,sg2,sg3,sg4,sg5,sg6,sg7,sg8,sg9,qVZ,qVa]
theorem qIe (r:List UInt8):qEE 4 r qCL=if [42].isPrefixOf r=true then 3 else if [47].isPrefixOf r=true then 4 else 0:=by
 simp [qEE,qCL,lvl,sg1,sg2,sg3,sg4,sg5,sg6,sg7,sg8,sg9,qVZ,qVa]
theorem qWF {m:Int} (hm:1≤m∧m≤4) (r:List UInt8):qEE m r qCL=if qA3 r≠0∧lvl (qA3 r)=m then qA3 r else 0:=by
 have hm:m=1∨m=2∨m=3∨m=4:=by omega
 cases r with
 |nil=>rcases hm with rfl|rfl|rfl|rfl<;>simp [qIb,qIc,qId,qIe,qA3,sgn,qEv,List.find?,List.isPrefixOf]
 |cons c t=>
  have f:∀d:UInt8,c≠d→(d==c)=false:=fun d hd=>by simpa using fun e=>hd e.symm
  by_cases h1:c=60
  ·subst h1
   cases t with
   |nil=>rcases hm with rfl|rfl|rfl|rfl<;>simp [qIb,qIc,qId,qIe,qA3,qRQ,List.isPrefixOf,lvl]
   |cons d t=>
    have g:∀e:UInt8,d≠e→(e==d)=false:=fun e hd=>by simpa using fun x=>hd x.symm
    by_cases hd:d=62
    ·subst hd;rcases hm with rfl|rfl|rfl|rfl<;>simp [qIb,qIc,qId,qIe,qA3,qRQ,List.isPrefixOf,lvl]
    ·by_cases hd2:d=61
     ·subst hd2;rcases hm with rfl|rfl|rfl|rfl<;>simp [qIb,qIc,qId,qIe,qA3,qRQ,List.isPrefixOf,lvl]
     ·rcases hm with rfl|rfl|rfl|rfl<;>simp [qIb,qIc,qId,qIe,qA3,qRQ,List.isPrefixOf,lvl,hd,hd2,g _ hd,g _ hd2]
  ·by_cases h2:c=62
   ·subst h2
    cases t with
    |nil=>rcases hm with rfl|rfl|rfl|rfl<;>simp [qIb,qIc,qId,qIe,qA3,qTM,List.isPrefixOf,lvl]
    |cons d t=>
     have g:∀e:UInt8,d≠e→(e==d)=false:=fun e hd=>by simpa using fun x=>hd x.symm
     by_cases hd2:d=61
     ·subst hd2;rcases hm with rfl|rfl|rfl|rfl<;>simp [qIb,qIc,qId,qIe,qA3,qTM,List.isPrefixOf,lvl]
     ·rcases hm with rfl|rfl|rfl|rfl<;>simp [qIb,qIc,qId,qIe,qA3,qTM,List.isPrefixOf,lvl,hd2,g _ hd2]
   ·by_cases h:c∈([61,38,43,45,42,47,40,41,44,58]:List UInt8)
    ·have hs:sgn (c::t)= [c]:=by rw [qTL c t h1 h2,if_pos h]
     simp only [List.mem_cons,List.not_mem_nil,or_false] at h
     rcases h with rfl|rfl|rfl|rfl|rfl|rfl|rfl|rfl|rfl|rfl<;>rcases hm with rfl|rfl|rfl|rfl<;>
      simp [qIb,qIc,qId,qIe,qA3,hs,List.isPrefixOf,lvl]
    ·have hs:sgn (c::t)= []:=by rw [qTL c t h1 h2,if_neg h]
     simp only [List.mem_cons,List.not_mem_nil,or_false,not_or] at h
     obtain ⟨a1,a2,a3,a4,a5,a6,a7,a8,a9,a10⟩:=h
     rcases hm with rfl|rfl|rfl|rfl<;>
      simp [qIb,qIc,qId,qIe,qA3,hs,List.isPrefixOf,f _ h1,f _ h2,f _ a1,f _ a2,f _ a3,f _ a4,f _ a5,f _ a6]
theorem qUP {op:Int}:1≤lvl op∧lvl op≤4:=by unfold lvl;split<;>(try split)<;>(try split)<;>omega
def qNs (p:PS):Prop:=p.2.1=true∨∃x∈p.2.2,qFc x=false
theorem qCx {x:Nd} {p:PS} (h:qNs p):qNs (qDb x p).2:=by
 unfold qDb
 split
 ·exact .inl rfl
 ·rename_i hn
  rcases h with h|⟨y,hy,hb⟩
  ·exact absurd (.inl h) hn
  ·exact .inr ⟨y,List.mem_append_left _ hy,hb⟩
theorem qEz {w:List UInt8} {p:PS} (h:qNs p):qNs (qX w p).2:=by unfold qX;split<;>exact h
theorem qGI (p:PS):qNs (qUO p):= .inl rfl
theorem qI7 {w:List UInt8} {p:PS} (h:qNs p):qNs (qCX w p):=by
 unfold qCX
 split
 ·exact h
 ·split
  ·exact qEz h
  ·exact qGI _
theorem qSc {p:PS} (h:qNs p):qNs (qBN p).2:=by
 unfold qBN
 simp only
 split
 ·rcases h with h|h
  ·left
   simp only [Bool.or_eq_true]
   left
   have:(qX [58] (wr (tb p.1),p.2)).2.2=p.2:=by unfold qX;split<;>rfl
   rw [this];exact h
  ·right
   have:(qX [58] (wr (tb p.1),p.2)).2.2=p.2:=by unfold qX;split<;>rfl
   simp only [this]
   exact h
 ·exact h
theorem qC9:∀(f:Nat) (j:PJ) (p:PS),qNs p→qNs (pP f j p).2
 |0,j,p,h=>h
 |f+1,.bin least deep,p,h=>by
  simp only [pP]
  exact qC9 f _ _ (qC9 f _ _ h)
 |f+1,.loop least deep a,p,h=>by
  simp only [pP]
  split
  ·exact h
  ·split
   ·exact h
   ·exact qC9 f _ _ (qCx (qC9 f _ _ h))
 |f+1,.un deep,p,h=>by
  simp only [pP]
  split
  ·exact qGI _
  ·split
   ·exact qCx (qC9 f _ _ (qEz h))
   ·exact qC9 f _ _ (qEz h)
 |f+1,.at deep,p,h=>by
  simp only [pP]
  split
  ·split
   ·exact .inl rfl
   ·exact qCx h
  ·split
   ·exact qCx h
   ·split
    ·exact qI7 (qC9 f _ _ (qEz h))
    ·split
     ·exact qCx h
     ·split
      ·exact qCx h
      ·split
       ·exact qC9 f _ _ h
       ·exact qGI _
 |f+1,.call op deep,p,h=>by
  simp only [pP]
  exact qC9 f _ _ (qI7 h)
 |f+1,.args op deep kids,p,h=>by
  simp only [pP]
  have hq:qNs (qEy (qBN p) (fun p=>pP f (.bin 1 (deep+1)) p)).2:=by
   unfold qEy
   split
   ·exact qCx (qSc h)
   ·exact qC9 f _ _ (qSc h)
  revert hq
  generalize qEy (qBN p) (fun p=>pP f (.bin 1 (deep+1)) p)=q
  intro hq
  split
  ·exact qCx h
  ·split
   ·exact qC9 f _ _ (qEz hq)
   ·exact qCx (qI7 (qEz hq))
theorem qA8 (x:Nd) (p:PS):(qDb x p).2.1=p.1:=by unfold qDb;split<;>rfl
theorem qEF (w:List UInt8) (p:PS):(tb (qX w p).2.1).length≤(tb p.1).length:=by
 unfold qX
 split
 ·refine Nat.le_trans (qAD _) ?_
  simp
 ·simp only;rw [qCd];exact Nat.le_refl _
theorem qLX (w:List UInt8) (p:PS):(tb (qCX w p).1).length≤(tb p.1).length:=by
 unfold qCX
 split
 ·exact Nat.le_refl _
 ·split
  ·exact qEF w p
  ·exact qEF w p
theorem qI8 (p:PS):(tb (qBN p).2.1).length≤(tb p.1).length:=by
 unfold qBN
 simp only
 split
 ·simp only
  refine Nat.le_trans (qAD _) (Nat.le_trans (qHh _) (Nat.le_trans (qEF [58] _) ?_))
  exact Nat.le_trans (qAD _) (qHh _)
 ·exact Nat.le_refl _
theorem qLY:∀(acc r:List UInt8) {s t:List UInt8},qCJ acc r=some (s,t)→t.length<r.length
 |acc,[],s,t,h=>by simp [qCJ] at h
 |acc,c::r,s,t,h=>by
  unfold qCJ at h
  by_cases hc:c=34
  ·rw [if_pos hc] at h
   match r,h with
   | [],h=>simp only [Option.some.injEq,Prod.mk.injEq] at h;rw [←h.2];simp
   |d::t',h=>
    simp only at h
    by_cases hd:d=34
    ·rw [if_pos hd] at h
     have:=qLY _ t' h
     simp only [List.length_cons];omega
    ·rw [if_neg hd] at h
     simp only [Option.some.injEq,Prod.mk.injEq] at h
     rw [←h.2];simp
  ·rw [if_neg hc] at h
   have:=qLY _ r h
   simp only [List.length_cons];omega
theorem qD1:∀(f:Nat) (j:PJ) (p:PS),(tb (pP f j p).2.1).length≤(tb p.1).length
 |0,j,p=>Nat.le_refl _
 |f+1,.bin least deep,p=>by
  simp only [pP]
  exact Nat.le_trans (qD1 f _ _) (qD1 f _ _)
 |f+1,.loop least deep a,p=>by
  simp only [pP]
  split
  ·exact Nat.le_refl _
  ·split
   ·simp only;rw [qCd];exact Nat.le_refl _
   ·refine Nat.le_trans (qD1 f _ _) ?_
    rw [qA8]
    refine Nat.le_trans (qD1 f _ _) (Nat.le_trans (qAD _) ?_)
    simp
 |f+1,.un deep,p=>by
  simp only [pP]
  split
  ·exact Nat.le_refl _
  ·split
   ·rw [qA8]
    exact Nat.le_trans (qD1 f _ _) (qEF _ _)
   ·exact Nat.le_trans (qD1 f _ _) (qEF _ _)
 |f+1,.at deep,p=>by
  simp only [pP]
  split
  ·split
   ·simp only;rw [qCd];exact Nat.le_refl _
   ·rename_i s t hq
    rw [qA8]
    have:=qLY _ _ hq
    refine Nat.le_trans (qAD _) ?_
    have h2:((tb p.1).tail).length≤(tb p.1).length:=by simp
    simp only;omega
  ·split
   ·rw [qA8]
    refine Nat.le_trans (qAD _) ?_
    simp
   ·split
    ·exact Nat.le_trans (qLX _ _) (Nat.le_trans (qD1 f _ _) (qEF _ _))
    ·have hw:(tb (wr (tb p.1))).length≤(tb p.1).length:=Nat.le_trans (qAD _) (qHh _)
     split
     ·rw [qA8];exact hw
     ·split
      ·rw [qA8];exact hw
      ·split
       ·exact Nat.le_trans (qD1 f _ _) hw
       ·exact hw
 |f+1,.call op deep,p=>by
  simp only [pP]
  exact Nat.le_trans (qD1 f _ _) (qLX _ _)
 |f+1,.args op deep kids,p=>by
  simp only [pP]
  have hq:(tb (qEy (qBN p) (fun p=>pP f (.bin 1 (deep+1)) p)).2.1).length≤(tb p.1).length:=by
   unfold qEy
   split
   ·rw [qA8];exact qI8 p
   ·exact Nat.le_trans (qD1 f _ _) (qI8 p)
  revert hq
  generalize qEy (qBN p) (fun p=>pP f (.bin 1 (deep+1)) p)=q
  intro hq
  split
  ·rw [qA8];exact Nat.le_refl _
  ·split
   ·exact Nat.le_trans (qD1 f _ _) (Nat.le_trans (qEF _ _) hq)
   ·rw [qA8]
    exact Nat.le_trans (qLX _ _) (Nat.le_trans (qEF _ _) hq)
structure RdOK:Prop where
 v:∀w:List UInt8,w.all wch=true→w≠ []→(qi (BR w)).2.2.2=true→(qi (BR w)).1=1∨(qi (BR w)).1=3
 v0:¬((qi (BR [])).1=1∨(qi (BR [])).1=3)
 p0:(qA9 (BR [])).2.2.2.2=false
 f:∀w op,qGs w 1 10=some op→(qi (BR w)).2.2.2=false∧(qA9 (BR w)).2.2.2.2=false
 f0:qGs [] 1 10=none
 n:∀n:Int,1≤n∧n≤5→∃t,(qf n).toList=35::t
def Lk (p q:PS):Prop:=p.2.1=false∧q.2.1=false∧p.2.2=q.2.2∧tb p.1=tb q.1
def Sim (a b:Int×PS):Prop:=(a.1=b.1∧Lk a.2 b.2)∨(b.2.2.1=true∧qNs a.2)
def qXD (least:Int) (p:PS):Prop:=qA3 (tb p.1)=0∨lvl (qA3 (tb p.1))<least
def SimP (least:Int) (a b:Int×PS):Prop:=(a.1=b.1∧Lk a.2 b.2∧qXD least a.2)∨(b.2.2.1=true∧qNs a.2)
theorem SimP.sim {least:Int} {a b:Int×PS} (h:SimP least a b):Sim a b:=h.elim (fun h=> .inl ⟨h.1,h.2.1⟩) .inr
theorem qNt {x:Nd} {q:PS} (h:q.2.1=true):(qEV x q).2.2.1=true:=by
 unfold qEV;simp only;split
 ·rfl
 ·exact h
theorem qJn {w:List UInt8} {q:PS} (h:q.2.1=true):sIs w q=(false,tb q.1,q.2):=by unfold sIs;rw [if_pos h]
theorem qO3:∀(g:Nat) (j:SJ) (q:PS),q.2.1=true→(sP g j q).2.2.1=true
 |0,j,q,h=>h
 |g+1,.row level,q,h=>by simp only [sP];rw [if_pos h];exact h
 |g+1,.rl level a,q,h=>by simp only [sP];rw [if_pos h];exact h
 |g+1,.one,q,h=>by
  simp only [sP]
  rw [qJn (w:= [45]) h]
  simp only [Bool.false_eq_true,if_false]
  rw [qJn (w:= [40]) (q:=(tb q.1,q.2)) h]
  simp only [Bool.false_eq_true,if_false]
  rw [qJn (w:= [34]) (q:=(tb q.1,q.2)) h]
  simp only [Bool.false_eq_true,if_false]
  rw [qJn (w:= [35]) (q:=(tb q.1,q.2)) h]
  simp only [Bool.false_eq_true,if_false]
  split
  ·rw [qJn (w:= [40]) (q:=(wr (tb q.1),q.2)) h]
   simp [qM5]
  ·split
   ·exact qNt h
   ·split
    ·exact qNt h
    ·rfl
 |g+1,.call op kids,q,h=>by simp only [sP];rw [if_pos h];exact h
 |g+1,.arg,q,h=>by
  simp only [sP]
  rw [qJn (w:= [58]) (q:=(wr (tb q.1),q.2)) h]
  simp only [Bool.false_eq_true,and_false,if_false]
  exact qO3 g _ _ h
theorem qJo {x:Nd} {p q:PS} (h:Lk p q):Sim (qDb x p) (qEV x q):=by
 obtain ⟨h1,h2,h3,h4⟩:=h
 unfold qDb qEV
 rw [h1,h2,h3]
 by_cases hl:60≤q.2.2.length
 ·refine .inr ⟨?_,.inl ?_⟩
  ·simp only;rw [if_pos (.inl (by omega))]
  ·rw [if_pos (.inr hl)]
 ·rw [if_neg (by simp;omega)]
  by_cases hn:qFc x=false
  ·exact .inr ⟨by simp only;rw [if_pos (.inr hn)],.inr ⟨x,by simp,hn⟩⟩
  ·refine .inl ⟨rfl,rfl,?_,rfl,h4⟩
   simp only
   rw [if_neg]
   intro e
   rcases e with e|e
   ·omega
   ·exact hn e
theorem qTu {a b:Int×PS} (f:Int→Nd) (h:Sim a b):Sim (qDb (f a.1) a.2) (qEV (f b.1) b.2):=by
 rcases h with ⟨h1,h2⟩|⟨h1,h2⟩
 ·rw [h1];exact qJo h2
 ·exact .inr ⟨qNt h1,qCx h2⟩
theorem qLZ {c:UInt8} (hc:c∈([45,40,41,44,58]:List UInt8)) {p q:PS} (h:Lk p q):(qX [c] p).1=(sIs [c] q).1∧Lk (qX [c] p).2 (sIs [c] q).2:=by
 obtain ⟨h1,h2,h3,h4⟩:=h
 obtain ⟨e1,e2,e3,e4⟩:=qWE hc h2 h4
 refine ⟨e1,?_,?_,?_,?_⟩
 ·rw [e3];exact h1
 ·rw [e4];exact h2
 ·rw [e3,e4];exact h3
 ·rw [e2]
theorem qTv {c:UInt8} (hc:c∈([45,40,41,44,58]:List UInt8)) {a b:Int×PS} (h:Sim a b):Sim (a.1,qCX [c] a.2) (b.1,if (sIs [c] b.2).1=true then (sIs [c] b.2).2 else qM5 (sIs [c] b.2).2):=by
 rcases h with ⟨h1,h2⟩|⟨h1,h2⟩
 ·obtain ⟨e1,e2⟩:=qLZ hc h2
  unfold qCX
  rw [if_neg (by rw [h2.1];simp),e1]
  by_cases ht:(sIs [c] b.2).1=true
  ·rw [if_pos ht,if_pos ht]
   exact .inl ⟨h1,e2⟩
  ·rw [if_neg ht,if_neg ht]
   exact .inr ⟨rfl,qGI _⟩
 ·refine .inr ⟨?_,qI7 h2⟩
  rw [qJn h1]
  simp [qM5]
def qKW (G:Nat) (least:Int):Nat→Int×PS→Int×PS→Prop
 |0,x,res=>res=x
 |m+1,x,res=>if ((m:Int)+1)<least then res=x else ∃g,G≤g∧qKW G least m (sP g (.rl ((m:Int)+1) x.1) x.2) res
theorem qO4 {G G':Nat} (h:G'≤G) {least:Int}:∀(m:Nat) {x res:Int×PS},qKW G least m x res→qKW G' least m x res
 |0,x,res,ht=>ht
 |m+1,x,res,ht=>by
  unfold qKW at ht⊢
  split
  ·rename_i hc;rw [if_pos hc] at ht;exact ht
  ·rename_i hc
   rw [if_neg hc] at ht
   obtain ⟨g,h1,h2⟩:=ht
   exact ⟨g,Nat.le_trans h h1,qO4 h m h2⟩
theorem qNu {G:Nat} {least:Int}:∀(m:Nat) {x res:Int×PS},x.2.2.1=true→qKW G least m x res→res.2.2.1=true
 |0,x,res,hb,ht=>by unfold qKW at ht;rw [ht];exact hb
 |m+1,x,res,hb,ht=>by
  unfold qKW at ht
  split at ht
  ·rw [ht];exact hb
  ·obtain ⟨g,_,h2⟩:=ht
   exact qNu m (qO3 g _ _ hb) h2
theorem qSd {G:Nat} {l:Nat} (hl0:1≤l) {g:Nat} (hg:G≤g):∀(m:Nat) {x y:Int×PS},l≤m→qKW G ((l:Int)+1) m x y→qKW G (l:Int) m x (sP g (.rl (l:Int) y.1) y.2)
 |0,x,y,hl,ht=>by omega
 |m+1,x,y,hl,ht=>by
  unfold qKW at ht⊢
  rw [if_neg (by omega)]
  by_cases e:l=m+1
  ·subst e
   rw [if_pos (by omega)] at ht
   subst ht
   refine ⟨g,hg,?_⟩
   have key:∀{z:Int×PS},qKW G ((m+1:Nat):Int) m z z:=fun {z}=>by
    cases m with
    |zero=>rfl
    |succ k=>unfold qKW;rw [if_pos (by omega)]
   exact key
  ·rw [if_neg (by omega)] at ht
   obtain ⟨g',h1,h2⟩:=ht
   exact ⟨g',h1,qSd hl0 hg m (by omega) h2⟩
theorem qTw {G:Nat} {q:PS} (hq:q.2.1=false):∀(k:Nat),k≤4→∀g,G+k≤g→∃g5,G≤g5∧qKW G (5-(k:Int)) 4 (sP g5 (.row 5) q) (sP g (.row (5-(k:Int))) q)
 |0,_,g,hg=>⟨g,hg,by
  unfold qKW
  rw [if_pos (by decide)]
  simp⟩
 |k+1,hk,0,hg=>by omega
 |k+1,hk,g+1,hg=>by
  obtain ⟨g5,h1,h2⟩:=qTw (G:=G) hq k (by omega) g (by omega)
  refine ⟨g5,h1,?_⟩
  have e:(5-((k+1:Nat):Int))=((4-k:Nat):Int):=by omega
  have e1:(5-(k:Int))=((4-k:Nat):Int)+1:=by omega
  rw [e1] at h2
  rw [e]
  have:=qSd (G:=G) (l:=4-k) (by omega) (g:=g) (by omega) 4 (by omega) h2
  have e2:sP (g+1) (.row ((4-k:Nat):Int)) q=sP g (.rl ((4-k:Nat):Int) (sP g (.row (((4-k:Nat):Int)+1)) q).1) (sP g (.row (((4-k:Nat):Int)+1)) q).2:=by
   simp only [sP]
   rw [if_neg (by rw [hq];simp),if_neg (by omega)]
  rw [e2]
  exact this
theorem qVb (H:RdOK) {r:List UInt8} (h:r.head?=some 35):∀(k:Nat) (n:Int),1≤n→n+k≤6→qTt r.tail n k=qKI r n k
 |0,n,_,_=>rfl
 |k+1,n,h1,h2=>by
  obtain ⟨t,ht⟩:=H.n n ⟨h1,by omega⟩
  cases r with
  |nil=>cases h
  |cons c r=>
   simp only [List.head?_cons,Option.some.injEq] at h
   subst h
   simp only [qTt,qKI,ht,List.tail_cons]
   have ih:=qVb H (r:=35::r) rfl k (n+1) (by omega) (by omega)
   simp only [List.tail_cons] at ih
   rw [ih]
   simp [List.isPrefixOf]
theorem qTx {r:List UInt8}:∀(k:Nat) (n:Int) {m:Int},qKI r n k=some m→n≤m∧m<n+k
 |0,n,m,h=>by cases h
 |k+1,n,m,h=>by
  simp only [qKI] at h
  split at h
  ·simp only [Option.some.injEq] at h;omega
  ·have:=qTx k (n+1) h;omega
theorem qFV (c:UInt8) (r:List UInt8):([c].isPrefixOf r=true)↔r.head?=some c:=by
 cases r with
 |nil=>simp [List.isPrefixOf]
 |cons d t=>simp [List.isPrefixOf];exact eq_comm
theorem qNv {c:UInt8} {q:PS} (hb:q.2.1=false):(sIs [c] q).1=true↔(tb q.1).head?=some c:=by
 unfold sIs
 rw [if_neg (by rw [hb];simp)]
 split
 ·rename_i h;exact ⟨fun _=>(qFV c _).1 h,fun _=>rfl⟩
 ·rename_i h;exact ⟨fun e=>(by cases e),fun e=>absurd ((qFV c _).2 e) h⟩
theorem qUQ (r:List UInt8):(wd r).all wch=true:=by
 unfold wd
 induction r with
 |nil=>rfl
 |cons c r ih=>
  by_cases h:wch c=true
  ·simp only [List.takeWhile_cons,h,if_true,List.all_cons,Bool.true_and];exact ih
  ·simp [List.takeWhile_cons,h]
def qWG (N:Nat):Prop:=∀(p q:PS) (deep:Int) (f g:Nat),Lk p q→(tb p.1).length=N→0≤deep→deep+N≤400→20*N+4≤f→20*N+5≤g→Sim (pP f (.un deep) p) (sP g (.row 5) q)
def qWH (N:Nat):Prop:=∀(m:Nat),m≤4→∀(p q:PS) (deep least a:Int) (f:Nat) (res:Int×PS),Lk p q→(tb p.1).length=N→1≤least→0≤deep→deep+N≤400→20*N+5≤f→
 (qA3 (tb p.1)=0∨lvl (qA3 (tb p.1))≤m)→qKW (20*N+5) least m (a,q) res→SimP least (pP f (.loop least deep a) p) res
def qVc (N:Nat):Prop:=∀(p q:PS) (deep:Int) (k f g:Nat),k≤4→Lk p q→(tb p.1).length=N→0≤deep→deep+N≤400→20*N+6≤f→20*N+10≤g→SimP (5-(k:Int)) (pP f (.bin (5-(k:Int)) deep) p) (sP g (.row (5-(k:Int))) q)
def qWI (N:Nat):Prop:=∀(p q:PS) (deep op:Int) (kids:List Int) (f g:Nat),Lk p q→(tb p.1).length=N→0≤deep→deep+N+1≤400→20*N+8≤f→20*N+12≤g→Sim (pP f (.args op deep kids) p) (sP g (.call op kids) q)
theorem qXL (N:Nat) (hB:∀M,M<N→qVc M) (hT:∀M,M<N→qWH M):qWH N:=by
 intro m
 induction m with
 |zero=>
  intro hm p q deep least a f res hl hN hle hd hdN hf hpk ht
  have h0:qA3 (tb p.1)=0:=by
   rcases hpk with h|h
   ·exact h
   ·have:=(qUP (op:=qA3 (tb p.1))).1
    omega
  cases f with
  |zero=>omega
  |succ f=>
   simp only [pP]
   rw [if_neg (by rw [hl.1];simp),if_pos (.inl h0)]
   unfold qKW at ht
   subst ht
   refine .inl ⟨rfl,⟨hl.1,hl.2.1,hl.2.2.1,?_⟩,.inl ?_⟩
   ·simp only;rw [qCd];exact hl.2.2.2
   ·simp only;rw [qCd];exact h0
 |succ m ih=>
  intro hm p q deep least a f res hl hN hle hd hdN hf hpk ht
  unfold qKW at ht
  by_cases hc:(m:Int)+1<least
  ·rw [if_pos hc] at ht
   subst ht
   cases f with
   |zero=>omega
   |succ f=>
    have hst:qA3 (tb p.1)=0∨lvl (qA3 (tb p.1))<least:=by
     rcases hpk with h|h
     ·exact .inl h
     ·right;push_cast at h;omega
    simp only [pP]
    rw [if_neg (by rw [hl.1];simp),if_pos hst]
    refine .inl ⟨rfl,⟨hl.1,hl.2.1,hl.2.2.1,?_⟩,?_⟩
    ·simp only;rw [qCd];exact hl.2.2.2
    ·unfold qXD;simp only;rw [qCd];exact hst
  ·rw [if_neg hc] at ht
   obtain ⟨g,hg,ht⟩:=ht
   cases g with
   |zero=>omega
   |succ g=>
    have hin:=qWF (m:=(m:Int)+1) (by omega) (tb q.1)
    have hpq:tb p.1=tb q.1:=hl.2.2.2
    simp only [sP] at ht
    rw [if_neg (by rw [hl.2.1];simp)] at ht
    have ho:sOp ((m:Int)+1) q=(qEE ((m:Int)+1) (tb q.1) qCL,(if qEE ((m:Int)+1) (tb q.1) qCL=0 then tb q.1 else (tb q.1).drop (qAV (qEE ((m:Int)+1) (tb q.1) qCL)).size),q.2):=by
     unfold sOp;rw [if_neg (by rw [hl.2.1];simp)]
    by_cases hop:qA3 (tb q.1)≠0∧lvl (qA3 (tb q.1))=(m:Int)+1
    ·rw [if_pos hop] at hin
     rw [hin,if_neg hop.1] at ho
     rw [ho] at ht
     simp only at ht
     rw [if_neg hop.1] at ht
     cases f with
     |zero=>omega
     |succ f=>
      simp only [pP]
      rw [if_neg (by rw [hl.1];simp),if_neg (by rw [hpq];exact fun e=>e.elim (fun e=>hop.1 e) (fun e=>by have:=hop.2;omega))]
      rw [hpq]
      rcases qUp (tb q.1) with h0|⟨_,_,hsg⟩
      ·exact absurd h0 hop.1
      have hsz:(sgn (tb q.1)).length=(qAV (qA3 (tb q.1))).size:=by rw [hsg,qAZ]
      have hpos:0<(sgn (tb q.1)).length:=by
       cases hh:sgn (tb q.1) with
       |nil=>
        exfalso
        apply hop.1
        unfold qA3
        rw [hh]
        simp
       |cons c t=>simp
      have hdrop:(tb ((tb q.1).drop (sgn (tb q.1)).length)).length<N:=by
       have h1:=qAD ((tb q.1).drop (sgn (tb q.1)).length)
       have h2:(sgn (tb q.1)).length≤(tb q.1).length∨(tb q.1).length<(sgn (tb q.1)).length:=by omega
       rw [List.length_drop] at h1
       have h3:(tb q.1).length=N:=by rw [←hpq];exact hN
       have h4:0<N:=by
        rcases Nat.eq_zero_or_pos N with h|h
        ·exfalso
         rw [h] at h3
         have:tb q.1= []:=List.eq_nil_of_length_eq_zero h3
         apply hop.1
         rw [this];rfl
        ·exact h
       omega
      have hlk:Lk ((tb q.1).drop (sgn (tb q.1)).length,p.2) ((tb q.1).drop (qAV (qA3 (tb q.1))).size,q.2):=⟨hl.1,hl.2.1,hl.2.2.1,by simp only;rw [hsz]⟩
      have hb:=hB _ hdrop ((tb q.1).drop (sgn (tb q.1)).length,p.2) ((tb q.1).drop (qAV (qA3 (tb q.1))).size,q.2) deep (3-m) f g (by omega) hlk rfl hd (by omega) (by omega) (by omega)
      have e5:(5-((3-m:Nat):Int))=(m:Int)+1+1:=by omega
      rw [e5] at hb
      rw [hop.2]
      have hlenA:=qD1 f (.bin ((m:Int)+1+1) deep) ((tb q.1).drop (sgn (tb q.1)).length,p.2)
      generalize pP f (.bin ((m:Int)+1+1) deep) ((tb q.1).drop (sgn (tb q.1)).length,p.2)=A at hb hlenA⊢
      generalize hBB:sP g (.row ((m:Int)+1+1)) ((tb q.1).drop (qAV (qA3 (tb q.1))).size,q.2)=B at hb ht
      rcases hb with ⟨b1,b2,b3⟩|⟨b1,b2⟩
      ·rw [b1]
       have hs:=qJo (x:=ndK 5 (qA3 (tb q.1)) [a,B.1]) b2
       generalize hC:qDb (ndK 5 (qA3 (tb q.1)) [a,B.1]) A.2=C at hs⊢
       generalize qEV (ndK 5 (qA3 (tb q.1)) [a,B.1]) B.2=D at hs ht
       rcases hs with ⟨c1,c2⟩|⟨c1,c2⟩
       ·have hrC:C.2.1=A.2.1:=by rw [←hC];exact qA8 _ _
        have hN3:(tb C.2.1).length<N:=by
         rw [hrC]
         exact Nat.lt_of_le_of_lt hlenA hdrop
        refine hT _ hN3 (m+1) hm C.2 D.2 deep least C.1 f res c2 rfl hle hd (by omega) (by omega) ?_ ?_
        ·rw [hrC]
         rcases b3 with h|h
         ·exact .inl h
         ·right;push_cast;omega
        ·rw [c1]
         unfold qKW
         rw [if_neg hc]
         exact ⟨g,by omega,qO4 (by omega) m ht⟩
       ·exact .inr ⟨qNu _ (qO3 g _ _ c1) ht,qC9 f _ _ c2⟩
      ·exact .inr ⟨qNu _ (qO3 g _ _ (qNt b1)) ht,qC9 f _ _ (qCx b2)⟩
    ·rw [if_neg hop] at hin
     rw [hin,if_pos rfl] at ho
     rw [ho] at ht
     simp only at ht
     rw [if_pos trivial] at ht
     refine ih (by omega) p (tb q.1,q.2) deep least a f res ⟨hl.1,hl.2.1,hl.2.2.1,by simp only;rw [qCd];exact hpq⟩ hN hle hd hdN hf ?_ ht
     rw [hpq]
     rw [hpq] at hpk
     by_cases h0:qA3 (tb q.1)=0
     ·exact .inl h0
     ·right
      rcases hpk with h|h
      ·exact absurd h h0
      ·have:lvl (qA3 (tb q.1))≠(m:Int)+1:=fun e=>hop ⟨h0,e⟩
       push_cast at h
       omega
theorem qWJ (N:Nat) (hA:qWG N) (hT:∀M,M≤N→qWH M):qVc N:=by
 intro p q deep k f g hk hl hN hd hdN hf hg
 obtain ⟨g5,hg5,ht⟩:=qTw (G:=20*N+5) hl.2.1 k hk g (by omega)
 cases f with
 |zero=>omega
 |succ f=>
  simp only [pP]
  have ha:=hA p q deep f g5 hl hN hd hdN (by omega) hg5
  have hlen:=qD1 f (.un deep) p
  generalize pP f (.un deep) p=A at ha hlen⊢
  generalize sP g5 (.row 5) q=B at ha ht
  rcases ha with ⟨h1,h2⟩|⟨h1,h2⟩
  ·have hM:(tb A.2.1).length≤N:=by omega
   refine hT _ hM 4 (by omega) A.2 B.2 deep (5-(k:Int)) A.1 f _ h2 rfl (by omega) hd (by omega) (by omega) (.inr ?_) ?_
   ·have:=(qUP (op:=qA3 (tb A.2.1))).2;omega
   ·rw [h1];exact qO4 (by omega) 4 ht
  ·exact .inr ⟨qNu 4 h1 ht,qC9 f _ _ h2⟩
theorem qWK (H:RdOK) (N:Nat) (hB:qVc N) (hC:∀M,M<N→qWI M):qWI N:=by
 intro p q deep op kids f g hl hN hd hdN hf hg
 cases f with
 |zero=>omega
 |succ f=>
 cases g with
 |zero=>omega
 |succ g=>
 cases g with
 |zero=>omega
 |succ g=>
 have hpq:=hl.2.2.2
 have hpb:¬p.2.1=true:=by rw [hl.1];simp
 have hqb:¬q.2.1=true:=by rw [hl.2.1];simp
 have harg:Sim (qEy (qBN p) (fun p=>pP f (.bin 1 (deep+1)) p)) (sP (g+1) .arg q)∧(tb (qEy (qBN p) (fun p=>pP f (.bin 1 (deep+1)) p)).2.1).length≤N:=by
  refine ⟨?_,?_⟩
  ·have hw:Lk (wr (tb p.1),p.2) (wr (tb q.1),q.2):=⟨hl.1,hl.2.1,hl.2.2.1,by rw [hpq]⟩
   obtain ⟨e1,e2⟩:=qLZ (c:=58) (by decide) hw
   simp only [sP]
   unfold qEy qBN
   simp only
   rw [hpq] at e1 e2⊢
   by_cases hc:(qA9 (BR (wd (tb q.1)))).2.2.2.2=true∧(qX [58] (wr (tb q.1),p.2)).1=true
   ·rw [if_pos hc,if_pos ⟨hc.1,e1▸hc.2⟩]
    simp only
    rw [e2.2.2.2]
    by_cases h2:(qA9 (BR (wd (tb (sIs [58] (wr (tb q.1),q.2)).2.1)))).2.2.2.2=true
    ·rw [if_pos h2,h2]
     simp only [Bool.not_true,Bool.or_false]
     exact qJo ⟨e2.1,e2.2.1,e2.2.2.1,rfl⟩
    ·rw [if_neg h2]
     refine .inr ⟨rfl,qCx (.inl ?_)⟩
     simp only
     have h2:(qA9 (BR (wd (tb (sIs [58] (wr (tb q.1),q.2)).2.1)))).2.2.2.2=false:=by simpa using h2
     rw [h2];simp
   ·rw [if_neg hc,if_neg (fun e=>hc ⟨e.1,e1.symm▸e.2⟩)]
    simp only
    have:=hB p (tb q.1,q.2) (deep+1) 4 f g (by omega) ⟨hl.1,hl.2.1,hl.2.2.1,by simp only;rw [qCd];exact hpq⟩ hN (by omega) (by omega) (by omega) (by omega)
    exact this.sim
  ·unfold qEy
   split
   ·rw [qA8];have:=qI8 p;omega
   ·have h1:=qD1 f (.bin 1 (deep+1)) (qBN p).2
    have h2:=qI8 p
    exact Nat.le_trans h1 (by omega)
 obtain ⟨harg,hal⟩:=harg
 simp only [pP]
 rw [if_neg hpb]
 have hs:sP (g+1+1) (.call op kids) q=(if (sIs [41] (sP (g+1) .arg q).2).1=true then qEV (ndK 6 op (kids++ [(sP (g+1) .arg q).1])) (sIs [41] (sP (g+1) .arg q).2).2
  else sP (g+1) (.call op (kids++ [(sP (g+1) .arg q).1])) (if (sIs [44] (sIs [41] (sP (g+1) .arg q).2).2).1=true then (sIs [44] (sIs [41] (sP (g+1) .arg q).2).2).2 else qM5 (sIs [44] (sIs [41] (sP (g+1) .arg q).2).2).2)):=by
  rw [sP]
  rw [if_neg hqb]
 rw [hs]
 generalize qEy (qBN p) (fun p=>pP f (.bin 1 (deep+1)) p)=Q at harg hal⊢
 generalize sP (g+1) .arg q=A at harg⊢
 rcases harg with ⟨h1,h2⟩|⟨h1,h2⟩
 ·have hb2:=h2.2.1
  obtain ⟨c1,c2⟩:=qLZ (c:=44) (by decide) h2
  have i41:=qNv (c:=41) hb2
  have i44:=qNv (c:=44) hb2
  by_cases hc:(qX [44] Q.2).1=true
  ·rw [if_pos hc]
   have hh:=i44.1 (c1▸hc)
   have n41:¬(sIs [41] A.2).1=true:=fun e=>by rw [i41.1 e] at hh;cases hh
   rw [if_neg n41]
   have e41:(sIs [41] A.2).2=(tb A.2.1,A.2.2):=by
    unfold sIs at n41⊢
    rw [if_neg (by rw [hb2];simp)] at n41⊢
    split
    ·rename_i hx;rw [if_pos hx] at n41;exact absurd rfl n41
    ·rfl
   rw [e41]
   have e44:sIs [44] (tb A.2.1,A.2.2)=sIs [44] A.2:=by unfold sIs;simp only [qCd]
   rw [e44,if_pos (c1▸hc),h1]
   have hlt:=qD0 (w:= [44]) (by simp) hc
   have htb:=qAD (qX [44] Q.2).2.1
   exact hC _ (by omega) (qX [44] Q.2).2 (sIs [44] A.2).2 deep op _ f (g+1) c2 rfl hd (by omega) (by omega) (by omega)
  ·rw [if_neg hc]
   have et:(qX [44] Q.2).2=(tb Q.2.1,Q.2.2):=by
    unfold qX at hc⊢
    split
    ·rename_i hx;rw [if_pos hx] at hc;exact absurd rfl hc
    ·rfl
   rw [et]
   have hl2:Lk (tb Q.2.1,Q.2.2) A.2:=⟨h2.1,h2.2.1,h2.2.2.1,by simp only;rw [qCd];exact h2.2.2.2⟩
   have hm:=qTv (c:=41) (by decide) (a:=(A.1,(tb Q.2.1,Q.2.2))) (b:=(A.1,A.2)) (.inl ⟨rfl,hl2⟩)
   by_cases h41:(sIs [41] A.2).1=true
   ·rw [if_pos h41]
    simp only [h41,if_true] at hm
    have:=qTu (fun _=>ndK 6 op (kids++ [A.1])) hm
    rw [h1]
    exact this
   ·rw [if_neg h41]
    have e41:(sIs [41] A.2).2=(tb A.2.1,A.2.2):=by
     unfold sIs at h41⊢
     rw [if_neg (by rw [hb2];simp)] at h41⊢
     split
     ·rename_i hx;rw [if_pos hx] at h41;exact absurd rfl h41
     ·rfl
    have e44:sIs [44] (tb A.2.1,A.2.2)=sIs [44] A.2:=by unfold sIs;simp only [qCd]
    rw [e41,e44,if_neg (c1▸hc)]
    refine .inr ⟨qO3 _ _ _ rfl,qCx ?_⟩
    simp only [if_neg h41] at hm
    rcases hm with ⟨_,_,hb,_⟩|⟨_,hdm⟩
    ·simp [qM5] at hb
    ·exact hdm
 ·have e41:sIs [41] A.2=(false,tb A.2.1,A.2.2):=qJn h1
  have e44:sIs [44] (tb A.2.1,A.2.2)=(false,tb (tb A.2.1),A.2.2):=qJn h1
  rw [e41]
  simp only [Bool.false_eq_true,if_false]
  rw [e44]
  simp only [Bool.false_eq_true,if_false]
  refine .inr ⟨qO3 _ _ _ rfl,?_⟩
  split
  ·exact qC9 f _ _ (qEz h2)
  ·exact qCx (qI7 (qEz h2))
theorem qTy {c d:UInt8} (h:c≠d) {r:List UInt8} (hr:r.head?=some c):¬r.head?=some d:=by rw [hr];simpa using h
theorem qWL (H:RdOK) (N:Nat) (hA:∀M,M<N→qWG M) (hB:∀M,M<N→qVc M) (hC:∀M,M<N→qWI M):qWG N:=by
 intro p q deep f g hl hN hd hdN hf hg
 cases f with
 |zero=>omega
 |succ f=>
 cases f with
 |zero=>omega
 |succ f=>
 cases g with
 |zero=>omega
 |succ g=>
 cases g with
 |zero=>omega
 |succ g=>
 have hpq:=hl.2.2.2
 have hpb:¬p.2.1=true:=by rw [hl.1];simp
 have hqb:¬q.2.1=true:=by rw [hl.2.1];simp
 have hq0:=hl.2.1
 have hs:sP (g+1+1) (.row 5) q=sP (g+1) .one q:=by
  rw [sP,if_neg hqb,if_pos rfl]
 rw [hs]
 obtain ⟨e1,e2⟩:=qLZ (c:=45) (by decide) hl
 rw [pP]
 rw [if_neg (by intro e;rcases e with e|e;omega;exact hpb e)]
 by_cases hc:(qX [45] p).1=true
 ·rw [if_pos hc]
  simp only [sP]
  rw [if_pos (e1▸hc)]
  have hlt:=qD0 (w:= [45]) (by simp) hc
  have htb:=qAD (qX [45] p).2.1
  exact qTu (fun k=>ndK 4 0 [k]) (hA _ (by omega) _ _ (deep+1) (f+1) g e2 rfl (by omega) (by omega) (by omega) (by omega))
 ·rw [if_neg hc]
  have hp':(qX [45] p).2=(tb p.1,p.2):=by
   unfold qX at hc⊢
   split
   ·rename_i hx;rw [if_pos hx] at hc;exact absurd rfl hc
   ·rfl
  have hq':(sIs [45] q).2=(tb q.1,q.2):=by
   have hc:¬(sIs [45] q).1=true:=e1▸hc
   unfold sIs at hc⊢
   rw [if_neg hqb] at hc⊢
   split
   ·rename_i hx;rw [if_pos hx] at hc;exact absurd rfl hc
   ·rfl
  rw [hp']
  simp only [sP]
  rw [if_neg (e1▸hc),hq']
  simp only [pP,qCd]
  have hl2:Lk (tb p.1,p.2) (tb q.1,q.2):=⟨hl.1,hl.2.1,hl.2.2.1,by simp only [qCd];exact hpq⟩
  obtain ⟨f1,f2⟩:=qLZ (c:=40) (by decide) hl2
  have i40:=qNv (c:=40) (q:=(tb q.1,q.2)) hq0
  have i34:=qNv (c:=34) (q:=(tb q.1,q.2)) hq0
  have i35:=qNv (c:=35) (q:=(tb q.1,q.2)) hq0
  simp only [qCd] at i40 i34 i35
  rw [hpq] at hN f1 f2⊢
  by_cases h34:(tb q.1).head?=some 34
  ·rw [if_pos h34,if_neg (fun e=>qTy (by decide) h34 (i40.1 e)),if_pos (i34.2 h34)]
   have es:(sIs [34] (tb q.1,q.2)).2.1=(tb q.1).tail:=by
    have:=i34.2 h34
    unfold sIs at this⊢
    rw [if_neg hqb] at this⊢
    simp only [qCd] at this⊢
    split
    ·simp
    ·rename_i hx;rw [if_neg hx] at this;cases this
   rw [es]
   cases hqr:qCJ [] (tb q.1).tail with
   |none=>exact .inr ⟨rfl,.inl rfl⟩
   |some st=>
    obtain ⟨s,t⟩:=st
    exact qJo ⟨hl.1,hl.2.1,hl.2.2.1,rfl⟩
  ·rw [if_neg h34]
   by_cases h35:(tb q.1).head?=some 35
   ·rw [if_pos h35,if_neg (fun e=>qTy (by decide) h35 (i40.1 e)),if_neg (fun e=>h34 (i34.1 e)),if_pos (i35.2 h35)]
    have es:(sIs [35] (tb q.1,q.2)).2.1=(tb q.1).tail:=by
     have:=i35.2 h35
     unfold sIs at this⊢
     rw [if_neg hqb] at this⊢
     simp only [qCd] at this⊢
     split
     ·simp
     ·rename_i hx;rw [if_neg hx] at this;cases this
    rw [es,qVb H h35 5 1 (by omega) (by omega)]
    cases he:qKI (tb q.1) 1 5 with
    |some n=>
     simp only
     obtain ⟨t,ht⟩:=H.n n (by have:=qTx 5 1 he;omega)
     have hsz:(qf n).size=t.length+1:=by rw [←qAZ,ht];rfl
     refine qJo ⟨hl.1,hl.2.1,hl.2.2.1,?_⟩
     simp only
     rw [hsz]
     cases hr:tb q.1 with
     |nil=>rw [hr] at h35;cases h35
     |cons c r=>rfl
    |none=>
     simp only
     rw [if_neg (fun e=>e.1 h35)]
     have hw:wd (tb q.1)= []:=by
      cases hr:tb q.1 with
      |nil=>rw [hr] at h35;cases h35
      |cons c r=>
       rw [hr] at h35
       simp only [List.head?_cons,Option.some.injEq] at h35
       subst h35
       rfl
     rw [hw,if_neg (fun e=>H.v0 e.2),if_neg (by rw [H.p0];simp),H.f0]
     exact .inr ⟨rfl,qGI _⟩
   ·rw [if_neg h35]
    simp only
    by_cases h40:(qX [40] (tb q.1,p.2)).1=true
    ·rw [if_pos ⟨h35,h40⟩,if_pos (f1▸h40)]
     have hlt:=qD0 (w:= [40]) (by simp) h40
     simp only [qCd] at hlt
     have htb:=qAD (qX [40] (tb q.1,p.2)).2.1
     have hb:=(hB _ (by omega) _ _ (deep+1) 4 f g (by omega) f2 rfl (by omega) (by omega) (by omega) (by omega)).sim
     have e5:(5-((4:Nat):Int))=1:=by omega
     rw [e5] at hb
     exact qTv (by decide) hb
    ·have n40:¬(sIs [40] (tb q.1,q.2)).1=true:=f1▸h40
     have n34:¬(sIs [34] (tb q.1,q.2)).1=true:=fun e=>h34 (i34.1 e)
     have n35:¬(sIs [35] (tb q.1,q.2)).1=true:=fun e=>h35 (i35.1 e)
     rw [if_neg (fun e=>h40 e.2),if_neg n40,if_neg n34,if_neg n35]
     have hl3:Lk (wr (tb q.1),p.2) (wr (tb q.1),q.2):=⟨hl.1,hl.2.1,hl.2.2.1,rfl⟩
     cases hfn:qGs (wd (tb q.1)) 1 10 with
     |some op=>
      simp only
      obtain ⟨z1,z2⟩:=H.f _ _ hfn
      rw [if_neg (by rw [z1];simp),if_neg (by rw [z2];simp)]
      have hne:1≤(wd (tb q.1)).length:=by
       cases hw:wd (tb q.1) with
       |nil=>rw [hw,H.f0] at hfn;cases hfn
       |cons c t=>simp
      have hlen:(wr (tb q.1)).length+1≤N:=by
       have:=congrArg List.length (wdr (tb q.1))
       simp only [List.length_append] at this
       omega
      obtain ⟨k1,k2⟩:=qLZ (c:=40) (by decide) hl3
      cases f with
      |zero=>omega
      |succ f=>
       simp only [pP]
       by_cases ht:(sIs [40] (wr (tb q.1),q.2)).1=true
       ·rw [if_pos ht]
        have em:qCX [40] (wr (tb q.1),p.2)=(qX [40] (wr (tb q.1),p.2)).2:=by
         unfold qCX
         rw [if_neg hpb,if_pos (k1▸ht)]
        rw [em]
        have hlt:=qD0 (w:= [40]) (by simp) (k1.symm▸ht)
        have h2:=qAD (wr (tb q.1))
        have h3:=qAD (qX [40] (wr (tb q.1),p.2)).2.1
        simp only at hlt
        exact hC _ (by omega) _ _ deep op [] f g k2 rfl hd (by omega) (by omega) (by omega)
       ·rw [if_neg ht]
        have em:qCX [40] (wr (tb q.1),p.2)=qUO (qX [40] (wr (tb q.1),p.2)).2:=by
         unfold qCX
         rw [if_neg hpb,if_neg (k1▸ht)]
        rw [em]
        exact .inr ⟨rfl,qC9 f _ _ (qGI _)⟩
     |none=>
      simp only
      by_cases hw0:wd (tb q.1)= []
      ·rw [hw0,if_neg (fun e=>H.v0 e.2),if_neg (by rw [H.p0];simp),if_neg (fun e=>e.2 rfl),if_neg (by rw [H.p0];simp)]
       exact .inr ⟨rfl,qGI _⟩
      ·by_cases hv:(qi (BR (wd (tb q.1)))).2.2.2=true
       ·rw [if_pos ⟨hv,H.v _ (qUQ _) hw0 hv⟩,if_pos ⟨hv,hw0⟩]
        exact qJo hl3
       ·have nv1:¬((qi (BR (wd (tb q.1)))).2.2.2=true∧((qi (BR (wd (tb q.1)))).1=1∨(qi (BR (wd (tb q.1)))).1=3)):=fun e=>hv e.1
        have nv2:¬((qi (BR (wd (tb q.1)))).2.2.2=true∧wd (tb q.1)≠ []):=fun e=>hv e.1
        rw [if_neg nv1,if_neg nv2]
        by_cases hp:(qA9 (BR (wd (tb q.1)))).2.2.2.2=true
        ·rw [if_pos hp,if_pos hp]
         exact qJo hl3
        ·rw [if_neg hp,if_neg hp]
         exact .inr ⟨rfl,qGI _⟩
theorem qWM (H:RdOK) (N:Nat):qWG N∧qWH N∧qVc N∧qWI N:=by
 induction N using Nat.strongRecOn with
 |ind N ih=>
  have hA:=qWL H N (fun M h=>(ih M h).1) (fun M h=>(ih M h).2.2.1) (fun M h=>(ih M h).2.2.2)
  have hT:=qXL N (fun M h=>(ih M h).2.2.1) (fun M h=>(ih M h).2.1)
  have hB:=qWJ N hA (fun M h=>(Nat.lt_or_eq_of_le h).elim (fun h=>(ih M h).2.1) (fun h=>h▸hT))
  exact ⟨hA,hT,hB,qWK H N hB (fun M h=>(ih M h).2.2.2)⟩
theorem qAR (r:List UInt8):(BR r).toList=r:=qCA r
theorem qb (r:List UInt8):(BR r).size=r.length:=by rw [←qAZ,qAR]
theorem qKJ (s:ByteArray):BR s.toList=s:=qFT (qAR _)
theorem qGb (r:List UInt8) (a b:Nat):(BR r).extract a b=BR ((r.take b).drop a):=by
 refine qFT ?_
 rw [qAR,Go.Lib.toList_data,ByteArray.data_extract,Array.toList_extract]
 simp [BR,List.extract_eq_take_drop,List.drop_take]
theorem qO5 (a b:List UInt8):BR a++BR b=BR (a++b):=by
 refine qFT ?_
 rw [qAR,Go.Lib.toList_data]
 simp [BR]
theorem qWl:∀i:Fin 256,((⟨#[32]⟩:ByteArray).data.toList.contains (UInt8.ofNat i.val))=(UInt8.ofNat i.val==32):=by decide+kernel
def wcS:ByteArray:=⟨#[65,66,67,68,69,70,71,72,73,74,75,76,77,78,79,80,81,82,83,84,85,86,87,88,89,90,48,49,50,51,52,53,54,55,56,57,36]⟩
theorem qWm:∀i:Fin 256,(wcS.data.toList.contains (UInt8.ofNat i.val))=wch (UInt8.ofNat i.val):=by decide+kernel
theorem qTN {f g:UInt8→Bool} (h:∀i:Fin 256,f (UInt8.ofNat i.val)=g (UInt8.ofNat i.val)) (c:UInt8):f c=g c:=by
 have h:=h ⟨c.toNat,UInt8.toNat_lt c⟩
 have e:UInt8.ofNat c.toNat=c:=by simp
 simp only [e] at h
 exact h
end Go.Proofs.YtdkoeegcpbaojaaGreatDoor.KFnExactDagText

