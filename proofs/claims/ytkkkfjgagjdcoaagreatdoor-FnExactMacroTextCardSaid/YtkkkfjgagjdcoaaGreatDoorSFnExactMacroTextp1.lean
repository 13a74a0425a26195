import Derived.Test.YtkkkfjgagjdcoaaGreatDoorTFnExactMacroText
import Derived.Test.YtkkkfjgagjdcoaaGreatDoorE32
import Derived.Lib.Strings
namespace Go.Proofs.YtkkkfjgagjdcoaaGreatDoor.KFnExactMacroText
open Go.Eng
set_option linter.unusedVariables false
set_option linter.unusedSimpArgs false
def Ev {R:Type} (F:Nat→Option R) (r:R):Prop:=∃n0,∀n,n0≤n→F n=some r
theorem qAQ (s:ByteArray):s.toList.length=s.size:=by rw [Go.Lib.toList_data];rfl
theorem q9:(ByteArray.mk #[]).toList= []:=by decide+kernel
theorem qa {x:Int} (h: -9223372036854775808≤x∧x≤9223372036854775807):IntKind.i64.wrap x=x:=by
 unfold IntKind.wrap
 have e1:(2:Int)^(64-1)=9223372036854775808:=by decide
 have e2:(2:Int)^64=18446744073709551616:=by decide
 simp only [IntKind.signed,IntKind.bits,Bool.true_and,decide_eq_true_eq,e1,e2]
 split<;>omega
theorem qOp {s:ByteArray} {i:Nat} (h:i<s.size):∃c,s.toList[i]?=some c:=⟨_,List.getElem?_eq_getElem (by rw [qAQ];exact h)⟩
theorem qEm {α:Type} {s:List α} {i:Nat} {c:α} (h:s[i]?=some c):s.drop i=c::s.drop (i+1):=by
 obtain ⟨h1,rfl⟩:=List.getElem?_eq_some_iff.1 h
 exact List.drop_eq_getElem_cons h1
theorem qX {V R:Type} {B:V→Tr (V⊕R)} {m:Nat} {v v':V} (h:(B v).run=some (.inl v')):zC B (m+1) v=zC B m v':=by simp only [zC,h]
theorem qP {V R:Type} {B:V→Tr (V⊕R)} {m:Nat} {v:V} {r:R} (h:(B v).run=some (.inr r)):zC B (m+1) v=some r:=by simp only [zC,h]
theorem up1 {n n0:Nat} (h:n0+1≤n):∃m,n=m+1∧n0≤m:=⟨n-1,by omega,by omega⟩
theorem qC {α:Type} (x:α):(Tr.done x).run=some x:=rfl
theorem qE {α:Type}:(Tr.fail:Tr α).run=none:=rfl
theorem qG {α:Type} (b:Bool) (t f:Tr α):(Tr.ask b t f).run=if b=true then t.run else f.run:=by cases b<;>rfl
theorem qH {α β:Type} (o:Option β) (k:β→Tr α):(Tr.opt o k).run=o.bind fun x=>(k x).run:=by cases o<;>rfl
theorem qJ {α β γ:Type} (x:β) (k:β→Tr α) (l:γ→Tr α):(Tr.alt (.inl x) k l).run=(k x).run:=rfl
theorem qK {α β γ:Type} (x:γ) (k:β→Tr α) (l:γ→Tr α):(Tr.alt (.inr x) k l).run=(l x).run:=rfl
theorem qBI {α R:Type} {F:α→Nat→Option R} {f:α→R}:∀(l:List α),(∀c∈l,Ev (F c) (f c))→∃n0,∀n,n0≤n→∀c∈l,F c n=some (f c)
 | [],_=>⟨0,fun n _ c hc=>by cases hc⟩
 |a::l,h=>by
  obtain ⟨n1,h1⟩:=h a (List.mem_cons_self ..)
  obtain ⟨n2,h2⟩:=qBI l fun c hc=>h c (List.mem_cons_of_mem _ hc)
  exact ⟨n1+n2,fun n hn c hc=>by
   rcases List.mem_cons.1 hc with rfl|hc
   ·exact h1 n (by omega)
   ·exact h2 n (by omega) c hc⟩
theorem qOq {R:Type} {B:List (List PV)×Nat×Int×List (List PV)→Tr ((List (List PV)×Nat×Int×List (List PV))⊕R)} {rows:List (List PV)} {z:List PV} {r:List (List PV)→R}
  (hs:∀(i:Nat) (acc:List (List PV)) (e:List PV),rows[i]?=some e→acc.length=rows.length→acc[i]?=some z→(B (rows,rows.length,(i:Int),acc)).run=some (.inl (rows,rows.length,((i+1:Nat):Int),acc.set i e)))
  (he:∀acc:List (List PV),acc.length=rows.length→(B (rows,rows.length,(rows.length:Int),acc)).run=some (.inr (r acc))):
  ∀(m i M:Nat),rows.length=i+m→m+1≤M→zC B M (rows,rows.length,(i:Int),rows.take i++zAl z m)=some (r rows)
 |m,i,0,h1,h2=>by omega
 |0,i,M+1,h1,h2=>by
  have hi:i=rows.length:=by omega
  subst hi
  have e:rows.take rows.length++zAl z 0=rows:=by simp [zAl]
  rw [e,qP (he rows rfl)]
 |m+1,i,M+1,h1,h2=>by
  have hl:i<rows.length:=by omega
  have hg:=List.getElem?_eq_getElem hl
  have hlen:(rows.take i++zAl z (m+1)).length=rows.length:=by simp [zAl];omega
  have hz:(rows.take i++zAl z (m+1))[i]?=some z:=by
   rw [List.getElem?_append_right (by simp;omega)]
   simp [zAl,Nat.min_eq_left (Nat.le_of_lt hl)]
  rw [qX (hs i _ _ hg hlen hz)]
  have e:(rows.take i++zAl z (m+1)).set i rows[i]=rows.take (i+1)++zAl z m:=by
   have hx:zAl z (m+1)=z::zAl z m:=by simp [zAl,List.replicate_succ]
   rw [hx,List.set_append_right (h:=by simp;omega)]
   have:i-(rows.take i).length=0:=by simp;omega
   rw [this,List.set_cons_zero,show rows.take (i+1)=rows.take i++ [rows[i]] from by rw [List.take_add_one,hg];rfl,List.append_assoc]
   rfl
  rw [e]
  exact qOq hs he m (i+1) M (by omega) (by omega)
theorem qRL {R:Type} {B:List (List PV)×Nat×Int×List (List PV)→Tr ((List (List PV)×Nat×Int×List (List PV))⊕R)} {rows:List (List PV)} {z:List PV} {r:List (List PV)→R} {M:Nat}
  (hs:∀(i:Nat) (acc:List (List PV)) (e:List PV),rows[i]?=some e→acc.length=rows.length→acc[i]?=some z→(B (rows,rows.length,(i:Int),acc)).run=some (.inl (rows,rows.length,((i+1:Nat):Int),acc.set i e)))
  (he:∀acc:List (List PV),acc.length=rows.length→(B (rows,rows.length,(rows.length:Int),acc)).run=some (.inr (r acc))) (hM:rows.length+1≤M):
  zC B M (rows,rows.length,0,zAl z rows.length)=some (r rows):=by
 have:=qOq (B:=B) hs he rows.length 0 M (by omega) hM
 simpa using this
theorem qQg {R:Type} {B:List (List PV)×List (List PV)×Int→Tr ((List (List PV)×List (List PV)×Int)⊕R)} {rows:List (List PV)} {r:R}
  (hs:∀(i:Nat) (e:List PV),rows[i]?=some e→(B (rows,rows,(i:Int))).run=some (.inl (rows,rows,((i+1:Nat):Int)))) (he:(B (rows,rows,(rows.length:Int))).run=some (.inr r)):
  ∀(m i M:Nat),rows.length=i+m→m+1≤M→zC B M (rows,rows,(i:Int))=some r
 |m,i,0,h1,h2=>by omega
 |0,i,M+1,h1,h2=>by
  have hi:i=rows.length:=by omega
  subst hi
  rw [qP he]
 |m+1,i,M+1,h1,h2=>by
  have hg:=List.getElem?_eq_getElem (l:=rows) (i:=i) (by omega)
  rw [qX (hs i _ hg)]
  exact qQg hs he m (i+1) M (by omega) (by omega)
theorem qQh {R:Type} {B:List (List PV)×Int×Int→Tr ((List (List PV)×Int×Int)⊕R)} {rows:List (List PV)}
  (hs:∀(i:Nat) (e:List PV) (x:Int),rows[i]?=some e→(∃y,(B (rows,x,(i:Int))).run=some (.inl (rows,y,((i+1:Nat):Int))))∨∃r,(B (rows,x,(i:Int))).run=some (.inr r)) (he:∀x,∃r,(B (rows,x,(rows.length:Int))).run=some (.inr r)):
  ∀(m i M:Nat) (x:Int),rows.length=i+m→m+1≤M→∃r,zC B M (rows,x,(i:Int))=some r
 |m,i,0,x,h1,h2=>by omega
 |0,i,M+1,x,h1,h2=>by
  have hi:i=rows.length:=by omega
  subst hi
  obtain ⟨r,hr⟩:=he x
  exact ⟨r,qP hr⟩
 |m+1,i,M+1,x,h1,h2=>by
  have hg:=List.getElem?_eq_getElem (l:=rows) (i:=i) (by omega)
  rcases hs i _ x hg with ⟨y,hy⟩|⟨r,hr⟩
  ·rw [qX hy]
   exact qQh hs he m (i+1) M y (by omega) (by omega)
  ·exact ⟨r,qP hr⟩
theorem qPn {α:Type} {enc:α→List PV} {P:α→Prop} {sh:List Sh} (hd:∀e,okR sh e→∃a,e=enc a∧P a):∀{rows:List (List PV)},(∀e∈rows,okR sh e)→∃l:List α,rows=l.map enc∧∀a∈l,P a
 | [],_=>⟨[],rfl,fun a h=>by cases h⟩
 |e::rows,h=>by
  obtain ⟨a,rfl,ha⟩:=hd e (h e (List.mem_cons_self ..))
  obtain ⟨l,rfl,hl⟩:=qPn hd fun e he=>h e (List.mem_cons_of_mem _ he)
  exact ⟨a::l,rfl,fun b hb=>by
   rcases List.mem_cons.1 hb with rfl|hb
   ·exact ha
   ·exact hl b hb⟩
theorem qA {α β:Type} {o:Option β} {x:β} {k:β→Tr α} {y:Option α} (h:o=some x) (h2:(k x).run=y):(Tr.opt o k).run=y:=by rw [h];exact h2
theorem qD {α:Type} {b:Bool} {t f:Tr α} {y:Option α} (h:b=true) (h2:t.run=y):(Tr.ask b t f).run=y:=by rw [h];exact h2
theorem qO {α:Type} {b:Bool} {t f:Tr α} {y:Option α} (h:b=false) (h2:f.run=y):(Tr.ask b t f).run=y:=by rw [h];exact h2
theorem qF (b:Bool):zAk (⟨(.c (.p (.b b))),[],[]⟩:Res)=true:=rfl
theorem qM (x:Int):zAk (⟨(.c (.p (.i .i64 x))),[],[]⟩:Res)=true:=rfl
theorem qN (x:ByteArray):zAk (⟨(.c (.p (.s x))),[],[]⟩:Res)=true:=rfl
theorem qB0 (x lo hi:Int):Ev (qAb · x lo hi) (decide (lo≤x∧x≤hi)):=by
 refine ⟨1,fun n hn=>?_⟩
 obtain ⟨m,rfl,hm⟩:=up1 hn
 simp only [qAb,qGQ,qC,qE,qG,qH,qJ,qK,Option.bind_some,qF,qM,qN]
 by_cases h:x≥lo<;>simp [h]
theorem qAF (x lo hi:Int):Ev (qAD · x lo hi) (decide (lo≤x∧x≤hi)):=by
 refine ⟨1,fun n hn=>?_⟩
 obtain ⟨m,rfl,hm⟩:=up1 hn
 simp only [qAD,qGx,qC,qE,qG,qH,qJ,qK,Option.bind_some,qF,qM,qN]
 by_cases h:x≥lo<;>simp [h]
def okc (c:UInt8):Bool:=decide (32≤c.toNat∧c.toNat≤126)
def qBt (s:ByteArray) (most:Int):Bool:=s.toList.all okc&&decide ((s.size:Int)≤most)
def okV (k n:Int) (s:ByteArray):Bool:=
 if k=2 then decide (n=0)&&qBt s 200 else (s.toList== [])&&(if k=0 then decide (n=0) else if k=1 then decide (-1000000000000000≤n∧n≤1000000000000000) else if k=3 then decide (0≤n∧n≤1) else if k=4 then decide (1≤n∧n≤5) else false)
theorem qLA (n:Nat) (s:ByteArray) (hb:s.size≤140737488355328):∀(m i M:Nat),s.size=i+m→m+1≤M→
  zC (qBM n) M (s,(i:Int))=some (if (s.toList.drop i).all okc then .inr s else .inl false)
 |m,i,0,h1,h2=>by omega
 |0,i,M+1,h1,h2=>by
  rw [qP (r:= .inr s) (by simp [qBM,qC,qE,qG,qH,qJ,qK,Option.bind_some,qF,qM,qN,show ¬((i:Int)<s.size) by omega])]
  rw [List.drop_eq_nil_of_le (by rw [qAQ];omega)]
  rfl
 |m+1,i,M+1,h1,h2=>by
  obtain ⟨c,hc⟩:=qOp (s:=s) (i:=i) (by omega)
  have hi:(i:Int)<s.size:=by omega
  rw [qEm hc]
  by_cases c1:(c.toNat:Int)<32
  ·rw [qP (r:= .inl false) (by simp [qBM,qC,qE,qG,qH,qJ,qK,Option.bind_some,qF,qM,qN,hi,hc,c1])]
   have:okc c=false:=by simp [okc];omega
   simp [this]
  ·by_cases c2:(c.toNat:Int)>126
   ·rw [qP (r:= .inl false) (by simp [qBM,qC,qE,qG,qH,qJ,qK,Option.bind_some,qF,qM,qN,hi,hc,c1,c2])]
    have:okc c=false:=by simp [okc];omega
    simp [this]
   ·have hw:IntKind.i64.wrap ((i:Int)+1)=((i+1:Nat):Int):=by rw [qa (by omega)];omega
    rw [qX (v':=(s,((i+1:Nat):Int))) (by simp [qBM,qC,qE,qG,qH,qJ,qK,Option.bind_some,qF,qM,qN,hi,hc,c1,c2,hw])]
    rw [qLA n s hb m (i+1) M (by omega) (by omega)]
    have:okc c=true:=by simp [okc];omega
    simp [this]
theorem qHW (s:ByteArray) (hb:s.size≤140737488355328):Ev (qB6 · s) (qBt s 200):=by
 refine ⟨s.size+2,fun n hn=>?_⟩
 obtain ⟨m,rfl,hm⟩:=up1 hn
 have h:=qLA m s hb s.size 0 m (by omega) (by omega)
 simp only [qB6,qFd,qC,qE,qG,qH,qJ,qK,Option.bind_some,qF,qM,qN]
 simp only [Int.natCast_zero,List.drop_zero] at h
 rw [h]
 cases hc:s.toList.all okc<;>simp [qC,qE,qG,qH,qJ,qK,Option.bind_some,qF,qM,qN,qBt,hc]
theorem qIQ (s:ByteArray) (hb:s.size≤140737488351232):Ev (qB6 · s) (qBt s 200):=qHW s (by omega)
theorem qMR (n:Nat) (s:ByteArray) (y:Int) (hb:s.size≤140737488355328):∀(m i M:Nat),s.size=i+m→m+1≤M→
  zC (qBe n) M (s,y,(s.size:Int),(i:Int))=some (if (s.toList.drop i).all okc then .inr (s,y) else .inl false)
 |m,i,0,h1,h2=>by omega
 |0,i,M+1,h1,h2=>by
  rw [qP (r:= .inr (s,y)) (by simp [qBe,qC,qE,qG,qH,qJ,qK,Option.bind_some,qF,qM,qN,show ¬((i:Int)<s.size) by omega])]
  rw [List.drop_eq_nil_of_le (by rw [qAQ];omega)]
  rfl
 |m+1,i,M+1,h1,h2=>by
  obtain ⟨c,hc⟩:=qOp (s:=s) (i:=i) (by omega)
  have hi:(i:Int)<s.size:=by omega
  rw [qEm hc]
  by_cases c1:(c.toNat:Int)<32
  ·rw [qP (r:= .inl false) (by simp [qBe,qC,qE,qG,qH,qJ,qK,Option.bind_some,qF,qM,qN,hi,hc,c1])]
   have:okc c=false:=by simp [okc];omega
   simp [this]
  ·by_cases c2:(c.toNat:Int)>126
   ·rw [qP (r:= .inl false) (by simp [qBe,qC,qE,qG,qH,qJ,qK,Option.bind_some,qF,qM,qN,hi,hc,c1,c2])]
    have:okc c=false:=by simp [okc];omega
    simp [this]
   ·have hw:IntKind.i64.wrap ((i:Int)+1)=((i+1:Nat):Int):=by rw [qa (by omega)];omega
    rw [qX (v':=(s,y,(s.size:Int),((i+1:Nat):Int))) (by simp [qBe,qC,qE,qG,qH,qJ,qK,Option.bind_some,qF,qM,qN,hi,hc,c1,c2,hw])]
    rw [qMR n s y hb m (i+1) M (by omega) (by omega)]
    have:okc c=true:=by simp [okc];omega
    simp [this]
theorem qIR (s:ByteArray) (y:Int) (hb:s.size≤140737488355328):Ev (qCY · s y) (qBt s y):=by
 refine ⟨s.size+2,fun n hn=>?_⟩
 obtain ⟨m,rfl,hm⟩:=up1 hn
 have h:=qMR m s y hb s.size 0 m (by omega) (by omega)
 simp only [qCY,qGy,qC,qE,qG,qH,qJ,qK,Option.bind_some,qF,qM,qN]
 simp only [Int.natCast_zero,List.drop_zero] at h
 rw [h]
 cases hc:s.toList.all okc<;>simp [qC,qE,qG,qH,qJ,qK,Option.bind_some,qF,qM,qN,qBt,hc]
theorem qJF (s:ByteArray) (y:Int) (hb:s.size≤140737488351232):Ev (qCY · s y) (qBt s y):=qIR s y (by omega)
theorem qAA (k x:Int) (s:ByteArray) (hb:s.size≤140737488351232):Ev (qY · k x s) (okV k x s):=by
 obtain ⟨n1,h1⟩:=qB0 x (-1000000000000000) 1000000000000000
 obtain ⟨n2,h2⟩:=qB0 x 0 1
 obtain ⟨n3,h3⟩:=qB0 x 1 5
 obtain ⟨n4,h4⟩:=qIQ s hb
 refine ⟨n1+n2+n3+n4+1,fun n hn=>?_⟩
 obtain ⟨m,rfl,hm⟩:=up1 hn
 have h1:=h1 m (by omega)
 dsimp only at h1
 have h2:=h2 m (by omega)
 dsimp only at h2
 have h3:=h3 m (by omega)
 dsimp only at h3
 have h4:=h4 m (by omega)
 dsimp only at h4
 simp only [qY,qFf,qC,qE,qG,qH,qJ,qK,Option.bind_some,qF,qM,qN,h1,h2,h3,h4]
 simp only [okV,q9]
 by_cases k2:k=2
 ·subst k2
  by_cases x0:x=0<;>simp [x0]
 ·by_cases k0:k=0
  ·subst k0
   by_cases x0:x=0<;>simp [x0]
  ·by_cases k1:k=1
   ·subst k1
    by_cases hx: -1000000000000000≤x∧x≤1000000000000000<;>simp [hx]
   ·by_cases k3:k=3
    ·subst k3
     by_cases hx:0≤x∧x≤1<;>simp [hx]
    ·by_cases k4:k=4
     ·subst k4
      by_cases hx:1≤x∧x≤5<;>simp [hx]
     ·simp [k0,k1,k2,k3,k4]
theorem qFI (k x:Int) (s:ByteArray) (hb:s.size≤140737488351232):Ev (qAO · k x s) (okV k x s):=by
 obtain ⟨n1,h1⟩:=qAF x (-1000000000000000) 1000000000000000
 obtain ⟨n2,h2⟩:=qAF x 0 1
 obtain ⟨n3,h3⟩:=qAF x 1 5
 obtain ⟨n4,h4⟩:=qJF s 200 hb
 refine ⟨n1+n2+n3+n4+1,fun n hn=>?_⟩
 obtain ⟨m,rfl,hm⟩:=up1 hn
 have h1:=h1 m (by omega)
 dsimp only at h1
 have h2:=h2 m (by omega)
 dsimp only at h2
 have h3:=h3 m (by omega)
 dsimp only at h3
 have h4:=h4 m (by omega)
 dsimp only at h4
 simp only [qAO,qFx,qC,qE,qG,qH,qJ,qK,Option.bind_some,qF,qM,qN,h1,h2,h3,h4]
 simp only [okV,q9]
 by_cases k2:k=2
 ·subst k2
  by_cases x0:x=0<;>simp [x0]
 ·by_cases he:s.toList= []
  ·by_cases k0:k=0
   ·subst k0
    by_cases x0:x=0<;>simp [x0,he]
   ·by_cases k1:k=1
    ·subst k1;simp [he]
    ·by_cases k3:k=3
     ·subst k3;simp [he]
     ·by_cases k4:k=4
      ·subst k4;simp [he]
      ·simp [k0,k1,k2,k3,k4,he]
  ·simp [k2,he]
abbrev V3:=Int×Int×ByteArray
def em:ByteArray:=⟨#[]⟩
theorem qM7 (x:Int):Ev (qCj · x) (4,x,em):=by
 refine ⟨1,fun n hn=>?_⟩
 obtain ⟨m,rfl,hm⟩:=up1 hn
 simp only [qCj,qFh,qC,qE,qG,qH,qJ,qK,Option.bind_some,qF,qM,qN]
 rfl
theorem qJ9 (x:Int):Ev (qBl · x) (4,x,em):=by
 refine ⟨1,fun n hn=>?_⟩
 obtain ⟨m,rfl,hm⟩:=up1 hn
 simp only [qBl,qHn,qC,qE,qG,qH,qJ,qK,Option.bind_some,qF,qM,qN]
 rfl
theorem qJG (x:Int):Ev (qCZ · x) (1,x,em):=by
 refine ⟨1,fun n hn=>?_⟩
 obtain ⟨m,rfl,hm⟩:=up1 hn
 simp only [qCZ,qG0,qC,qE,qG,qH,qJ,qK,Option.bind_some,qF,qM,qN]
 rfl
def qA5 (c r:Int):Bool:=decide (1≤c∧c≤52)&&decide (1≤r∧r≤99)
def qFJ (a b c d:Int):Bool:=qA5 a b&&qA5 c d&&decide (a≤c)&&decide (b≤d)
theorem qCa (c r:Int):Ev (qy · c r) (qA5 c r):=by
 obtain ⟨n1,h1⟩:=qB0 c 1 52
 obtain ⟨n2,h2⟩:=qB0 r 1 99
 refine ⟨n1+n2+1,fun n hn=>?_⟩
 obtain ⟨m,rfl,hm⟩:=up1 hn
 have h1:=h1 m (by omega)
 dsimp only at h1
 have h2:=h2 m (by omega)
 dsimp only at h2
 simp only [qy,qHh,qC,qE,qG,qH,qJ,qK,Option.bind_some,qF,qM,qN,h1,h2]
 unfold qA5
 cases decide (1≤c∧c≤52)<;>simp
theorem qCb (c r:Int):Ev (qBS · c r) (qA5 c r):=by
 obtain ⟨n1,h1⟩:=qAF c 1 52
 obtain ⟨n2,h2⟩:=qAF r 1 99
 refine ⟨n1+n2+1,fun n hn=>?_⟩
 obtain ⟨m,rfl,hm⟩:=up1 hn
 have h1:=h1 m (by omega)
 dsimp only at h1
 have h2:=h2 m (by omega)
 dsimp only at h2
 simp only [qBS,qHk,qC,qE,qG,qH,qJ,qK,Option.bind_some,qF,qM,qN,h1,h2]
 unfold qA5
 cases decide (1≤c∧c≤52)<;>simp
theorem qNx (a b c d:Int):Ev (qEt · a b c d) (qFJ a b c d):=by
 obtain ⟨n1,h1⟩:=qCa a b
 obtain ⟨n2,h2⟩:=qCa c d
 refine ⟨n1+n2+1,fun n hn=>?_⟩
 obtain ⟨m,rfl,hm⟩:=up1 hn
 have h1:=h1 m (by omega)
 dsimp only at h1
 have h2:=h2 m (by omega)
 dsimp only at h2
 simp only [qEt,qGm,qC,qE,qG,qH,qJ,qK,Option.bind_some,qF,qM,qN,h1,h2]
 unfold qFJ
 cases qA5 a b<;>cases qA5 c d<;>by_cases h:a≤c<;>simp [h]
theorem qJH (a b c d:Int):Ev (qDi · a b c d) (qFJ a b c d):=by
 obtain ⟨n1,h1⟩:=qCb a b
 obtain ⟨n2,h2⟩:=qCb c d
 refine ⟨n1+n2+1,fun n hn=>?_⟩
 obtain ⟨m,rfl,hm⟩:=up1 hn
 have h1:=h1 m (by omega)
 dsimp only at h1
 have h2:=h2 m (by omega)
 dsimp only at h2
 simp only [qDi,qG4,qC,qE,qG,qH,qJ,qK,Option.bind_some,qF,qM,qN,h1,h2]
 unfold qFJ
 cases qA5 a b<;>cases qA5 c d<;>by_cases h:a≤c<;>simp [h]
def qSd (x y:Int):Int:=if x<y then-1 else if x>y then 1 else 0
def qSy (x y:ByteArray):Int:=if Op.bytesLess x.toList y.toList=true then-1 else if x.toList=y.toList then 0 else 1
def qQi:List Int→Int
 | []=>0
 |x::r=>if x≠0 then x else qQi r
def qSz (k x:Int) (s:ByteArray) (k' x':Int) (s':ByteArray):Int:=qQi [qSd k k',qSd x x',qSy s s']
theorem qKA (b:Bool):Ev (qEK · b) (3,if b=true then 1 else 0,em):=by
 refine ⟨1,fun n hn=>?_⟩
 obtain ⟨m,rfl,hm⟩:=up1 hn
 simp only [qEK,qHo,qC,qE,qG,qH,qJ,qK,Option.bind_some,qF,qM,qN]
 cases b<;>rfl
def qSe (op o:Int):Bool:=if op=6 then o==0 else if op=7 then o !=0 else if op=8 then decide (o<0) else if op=9 then decide (o≤0) else if op=10 then decide (o>0) else decide (o≥0)
def qSx (op k x:Int) (s:ByteArray) (k' x':Int) (s':ByteArray):Int×Int×ByteArray:=
 if okV k x s=true∧okV k' x' s'=true∧6≤op∧op≤11 then
  (if k=4 then (k,x,s) else if k'=4 then (k',x',s') else (3,if qSe op (qSz (if k=0 then k' else k) x s (if k'=0 then k else k') x' s')=true then 1 else 0,em))
 else (4,2,em)
def qDz (x:Int):ByteArray:=⟨(Lib.itoa x).toArray⟩
theorem qC2 (a b:ByteArray):(a++b).data.toList=a.data.toList++b.data.toList:=by
 rw [ByteArray.data_append,Array.toList_append]
theorem qGc {a b:ByteArray} (h:a.data.toList=b.data.toList):a=b:=by
 cases a;cases b
 congr 1
 exact Array.toList_inj.1 h
theorem qER {a b:ByteArray} (h:a.toList=b.toList):a=b:=qGc (by rw [←Go.Lib.toList_data,←Go.Lib.toList_data];exact h)
theorem qCe (a:ByteArray):a.size=a.data.toList.length:=by rw [Array.length_toList];rfl
theorem u8w {q:Nat} (h:q<10):IntKind.u8.wrap (IntKind.i64.wrap (48+(q:Int)))=((48+q:Nat):Int):=by
 rw [qa (by omega)]
 unfold IntKind.wrap
 have e2:(2:Int)^8=256:=by decide
 simp only [IntKind.signed,IntKind.bits,Bool.false_and,Bool.false_eq_true,if_false,e2]
 omega
theorem qSD:∀(k v:Nat),1≤v→v<10^k→Lib.nDigits v≤k:=by
 intro k
 induction k with
 |zero=>intro v hv hv';simp at hv';omega
 |succ k ih=>
  intro v hv hv'
  by_cases h10:v<10
  ·rw [Lib.nDigits_small h10];omega
  ·rw [Lib.nDigits_big h10]
   have:=ih (v/10) (by omega) (by rw [Nat.pow_succ] at hv';omega)
   omega
theorem qJV (u:Nat) (h:u≤1000000000000000000):(Lib.decDigits u).length≤19:=by
 have p:(10:Nat)^19=10000000000000000000:=by decide
 rw [Lib.decDigits_length]
 rcases Nat.lt_or_ge u 1 with h6|h6
 ·have:u=0:=by omega
  subst this
  rw [Lib.nDigits_small (by decide)]
  decide
 ·exact qSD 19 u h6 (by omega)
def qf (x:Int):ByteArray:=if x=1 then ⟨#[35,68,73,86,33]⟩ else if x=2 then ⟨#[35,84,89,80,69,33]⟩ else if x=3 then ⟨#[35,82,69,70,33]⟩ else if x=4 then ⟨#[35,79,86,69,82,33]⟩ else if x=5 then ⟨#[35,67,89,67,76,69,33]⟩ else ⟨#[]⟩
theorem lt6 {x:Int} (h:0≤x∧x≤5):x=0∨x=1∨x=2∨x=3∨x=4∨x=5:=by omega
def qPo (x:Int):ByteArray:=if x=1 then ⟨#[84,82,85,69]⟩ else ⟨#[70,65,76,83,69]⟩
theorem qRM {x:Int} {s:ByteArray} (h:okV 1 x s=true): -1000000000000000≤x∧x≤1000000000000000:=by
 simp [okV] at h;exact h.2
theorem qOr {x:Int} {s:ByteArray} (h:okV 2 x s=true):x=0∧(s.size:Int)≤200∧s.toList.all okc=true:=by
 simp only [okV,qBt,if_true,Bool.and_eq_true,decide_eq_true_eq] at h
 exact ⟨h.1,h.2.2,h.2.1⟩
theorem qSf {x:Int} {s:ByteArray} (h:okV 3 x s=true):0≤x∧x≤1:=by
 simp [okV] at h;exact h.2
theorem qSE {x:Int} {s:ByteArray} (h:okV 4 x s=true):1≤x∧x≤5:=by
 simp [okV] at h;exact h.2
def qBx (k x:Int) (s:ByteArray):ByteArray:=if k=1 then qDz x else if k=2 then ⟨#[39]⟩++s else if k=3 then qPo x else if k=4 then qf x else ⟨#[]⟩
theorem qFa {x:Int} (h: -1000000000000000000≤x∧x≤1000000000000000000):(qDz x).size≤20:=by
 rw [qCe]
 show (Lib.itoa x).length≤20
 unfold Lib.itoa
 split
 ·have:=qJV x.natAbs (by omega);simp;omega
 ·have:=qJV x.toNat (by omega);omega
theorem qQM {k x:Int} {s:ByteArray} (h:okV k x s=true):(qBx k x s).size≤300:=by
 unfold qBx
 split
 ·rename_i k1;subst k1;have:=qRM h;have:=qFa (x:=x) (by omega);omega
 ·split
  ·rename_i k2;subst k2
   have:=qOr h
   rw [ByteArray.size_append]
   show 1+s.size≤300
   omega
  ·split
   ·unfold qPo;split<;>decide
   ·split
    ·unfold qf
     repeat' split
     all_goals decide
    ·decide
def qC6 (x:Int):ByteArray:=if x<1∨x>52 then ⟨#[]⟩ else if x≤26 then ⟨#[UInt8.ofNat (64+x.toNat)]⟩ else ⟨#[65,UInt8.ofNat (65+(x.toNat-1)%26)]⟩
theorem qL8 (x:Int):(qC6 x).size≤2:=by
 unfold qC6
 split
 ·decide
 ·split
  ·exact (show (1:Nat)≤2 by decide)
  ·exact (show (2:Nat)≤2 by decide)
theorem qPQ {q:Int} (h:0≤q∧q<256):IntKind.u8.wrap q=q:=by
 unfold IntKind.wrap
 have e2:(2:Int)^8=256:=by decide
 simp only [IntKind.signed,IntKind.bits,Bool.false_and,Bool.false_eq_true,if_false,e2]
 omega
def qA8 (c r:Int) (fc fr:Bool):ByteArray:=if qA5 c r=true then ⟨((if fc=true then [36] else [])++(qC6 c).data.toList++(if fr=true then [36] else [])++(qDz r).data.toList).toArray⟩ else ⟨#[]⟩
theorem qKg {x:Int} (h:1≤x∧x≤99):(qDz x).size≤20:=by
 rw [qCe]
 show (Lib.itoa x).length≤20
 unfold Lib.itoa
 rw [if_neg (by omega)]
 have:=qJV x.toNat (by omega)
 omega
theorem qHX {c r:Int} (h:qA5 c r=true):(1≤c∧c≤52)∧(1≤r∧r≤99):=by
 simpa [qA5] using h
def qA2 (c:UInt8):Bool:=decide (48≤c.toNat)&&decide (c.toNat≤57)
def qAc (acc:Nat) (l:List UInt8):Nat:=l.foldl (fun a c=>a*10+(c.toNat-48)) acc
theorem qGC (acc:Nat):qAc acc []=acc:=rfl
theorem qDR (acc:Nat) (c:UInt8) (r:List UInt8):qAc acc (c::r)=qAc (acc*10+(c.toNat-48)) r:=by simp only [qAc,List.foldl_cons]
theorem qPp (l:List UInt8) (acc:Nat) (c:UInt8):qAc acc (l++ [c])=qAc acc l*10+(c.toNat-48):=by
 simp only [qAc,List.foldl_append,List.foldl_cons,List.foldl_nil]
theorem qQj:∀(l:List UInt8) (acc:Nat),acc≤qAc acc l
 | [],acc=>by rw [qGC];exact Nat.le_refl _
 |c::r,acc=>by
  have h:=qQj r (acc*10+(c.toNat-48))
  have h2:acc≤acc*10+(c.toNat-48):=by omega
  rw [qDR]
  exact Nat.le_trans h2 h
theorem qPR {d:Nat} (h:d<10):(UInt8.ofNat (48+d)).toNat=48+d:=by
 rw [UInt8.toNat_ofNat'];omega
theorem qPq {d:Nat} (h:d<10):qA2 (UInt8.ofNat (48+d))=true:=by
 unfold qA2
 rw [qPR h]
 simp
 omega
theorem qHY:∀u:Nat,(Lib.decDigits u).all qA2=true∧qAc 0 (Lib.decDigits u)=u∧Lib.decDigits u≠ []∧(10≤u→(Lib.decDigits u).head?≠some 48)∧(1≤u→(Lib.decDigits u).head?≠some 48):=by
 intro u
 induction u using Nat.strongRecOn with
 |_ u ih=>
  by_cases h:u<10
  ·rw [Lib.decDigits,dif_pos h]
   have h1:∀k,1≤k→k<10→UInt8.ofNat (48+k)≠48:=fun k hk hk' e=>by
    have:=congrArg UInt8.toNat e
    rw [qPR hk'] at this
    have h2:(48:UInt8).toNat=48:=rfl
    omega
   refine ⟨by simp only [List.all_cons,List.all_nil,qPq h,Bool.and_true],by rw [qDR,qGC,qPR h];omega,by simp,fun _=>by omega,fun hu=>?_⟩
   simp only [List.head?_cons,ne_eq,Option.some.injEq]
   exact h1 u hu h
  ·obtain ⟨i1,i2,i3,i4,i5⟩:=ih (u/10) (by omega)
   rw [Lib.decDigits,dif_neg h]
   have hd:u%10<10:=by omega
   have hh:(Lib.decDigits (u/10)++ [UInt8.ofNat (48+u%10)]).head?=(Lib.decDigits (u/10)).head?:=by
    cases hq:Lib.decDigits (u/10) with
    |nil=>exact absurd hq i3
    |cons a b=>rfl
   refine ⟨by simp only [List.all_append,i1,List.all_cons,List.all_nil,qPq hd,Bool.and_true],by rw [qPp,i2,qPR hd];omega,by simp,fun _=>?_,fun _=>?_⟩
   ·rw [hh];exact i5 (by omega)
   ·rw [hh];exact i5 (by omega)
def qFR (l:List UInt8):Bool:=!(l== [])&&l.all qA2&&(!(l.head?==some 48)||l.length==1)
theorem qOs (u:Nat):qFR (Lib.decDigits u)=true:=by
 obtain ⟨h1,h2,h3,h4,h5⟩:=qHY u
 simp only [qFR,h1,Bool.and_true,Bool.and_eq_true,Bool.not_eq_true',beq_eq_false_iff_ne,Bool.or_eq_true]
 refine ⟨h3,?_⟩
 by_cases hu:u<10
 ·right;rw [Lib.decDigits,dif_pos hu];rfl
 ·left;exact h4 (by omega)
theorem qL9:∀(n:Nat) (l:List UInt8),l.length=n→qFR l=true→Lib.decDigits (qAc 0 l)=l
 |0,l,hn,h=>by
  have:=List.eq_nil_of_length_eq_zero hn
  subst this
  simp [qFR] at h
 |n+1,l,hn,h=>by
  simp only [qFR,Bool.and_eq_true,Bool.not_eq_true',beq_eq_false_iff_ne,Bool.or_eq_true,beq_iff_eq] at h
  obtain ⟨⟨h1,h2⟩,h3⟩:=h
  obtain ⟨ini,c,rfl⟩:∃ini c,l=ini++ [c]:=⟨l.dropLast,l.getLast h1,(List.dropLast_concat_getLast h1).symm⟩
  simp only [List.all_append,Bool.and_eq_true,List.all_cons,List.all_nil,Bool.and_true] at h2
  obtain ⟨h2,hc⟩:=h2
  simp only [qA2,Bool.and_eq_true,decide_eq_true_eq] at hc
  have ec:UInt8.ofNat (48+(c.toNat-48))=c:=by
   have:48+(c.toNat-48)=c.toNat:=by omega
   rw [this];simp
  rw [qPp]
  cases ini with
  |nil=>
   rw [qGC,Nat.zero_mul,Nat.zero_add,List.nil_append,Lib.decDigits,dif_pos (by omega),ec]
  |cons a b=>
   have hl:(a::b).length=n:=by simp at hn⊢;omega
   have h48:¬a=48:=by
    rcases h3 with h3|h3
    ·simpa using h3
    ·simp at h3
   have hcn:qFR (a::b)=true:=by
    simp only [qFR,h2,Bool.and_true,Bool.and_eq_true,Bool.not_eq_true',beq_eq_false_iff_ne,Bool.or_eq_true]
    exact ⟨by simp,.inl (by simpa using h48)⟩
   have ih:=qL9 n (a::b) hl hcn
   have hp:1≤qAc 0 (a::b):=by
    rcases Nat.eq_zero_or_pos (qAc 0 (a::b)) with h0|h0
    ·rw [h0,Lib.decDigits,dif_pos (by decide)] at ih
     have:a=48:=by
      have:=congrArg List.head? ih
      simpa using this.symm
     exact absurd this h48
    ·exact h0
   rw [Lib.decDigits,dif_neg (by omega)]
   have e1:(qAc 0 (a::b)*10+(c.toNat-48))/10=qAc 0 (a::b):=by omega
   have e2:(qAc 0 (a::b)*10+(c.toNat-48))%10=c.toNat-48:=by omega
   rw [e1,e2,ih,ec]
def l1I (l:List UInt8) (most:Int):Int×Bool:=if (l.length:Int)≤most∧qFR l=true then ((qAc 0 l:Int),true) else (0,false)
theorem qPS:∀(l:List UInt8) (acc k:Nat),l.all qA2=true→acc<10^k→qAc acc l<10^(k+l.length)
 | [],acc,k,_,h=>by rw [qGC];simpa using h
 |c::r,acc,k,hd,h=>by
  simp only [List.all_cons,Bool.and_eq_true] at hd
  have hc:=hd.1
  simp only [qA2,Bool.and_eq_true,decide_eq_true_eq] at hc
  have:=qPS r (acc*10+(c.toNat-48)) (k+1) hd.2 (by rw [Nat.pow_succ];omega)
  rw [qDR,List.length_cons,show k+(r.length+1)=k+1+r.length by omega]
  exact this
theorem qMA:∀(l:List UInt8) (acc:Nat),l.all qA2=true→qAc acc l≤1000000000000000000→Lib.parseUintM (2^64-1) acc l= .ok (qAc acc l)
 | [],acc,_,_=>by simp only [Lib.parseUintM,qGC]
 |c::r,acc,hd,h=>by
  simp only [List.all_cons,Bool.and_eq_true] at hd
  have hc:=hd.1
  simp only [qA2,Bool.and_eq_true,decide_eq_true_eq] at hc
  rw [qDR] at h⊢
  have g1:=qQj r (acc*10+(c.toNat-48))
  have p:(2:Nat)^64-1=18446744073709551615:=by decide
  simp only [Lib.parseUintM]
  rw [if_pos hc,if_neg (by omega),if_neg (by rw [p];omega)]
  exact qMA r _ hd.2 h
theorem qOt {u:Nat} (h:u≤1000000000000000000):Lib.parseUintB 64 (Lib.decDigits u)= .ok u:=by
 obtain ⟨h1,h2,h3,_,_⟩:=qHY u
 unfold Lib.parseUintB
 rw [if_neg h3,qMA _ 0 h1 (by rw [h2];exact h),h2]
theorem qPr (u:Nat):∃c r,Lib.decDigits u=c::r∧qA2 c=true:=by
 obtain ⟨h1,_,h3,_,_⟩:=qHY u
 cases hq:Lib.decDigits u with
 |nil=>exact absurd hq h3
 |cons c r=>
  rw [hq] at h1
  simp only [List.all_cons,Bool.and_eq_true] at h1
  exact ⟨c,r,rfl,h1.1⟩
theorem qQN {x:Int} (h: -1000000000000000≤x∧x≤1000000000000000):Lib.parseIntB 64 (Lib.itoa x)= .ok x:=by
 have p:(2:Nat)^(64-1)=9223372036854775808:=by decide
 by_cases hx:x<0
 ·have e:Lib.itoa x=45::Lib.decDigits x.natAbs:=by unfold Lib.itoa;rw [if_pos hx]
  have c45:(45:UInt8).toNat=45:=rfl
  rw [e]
  simp only [Lib.parseIntB,c45,or_true,if_true,qOt (u:=x.natAbs) (by omega),p]
  rw [if_neg (by simp),if_neg (by omega)]
  congr 1
  omega
 ·have e:Lib.itoa x=Lib.decDigits x.toNat:=by unfold Lib.itoa;rw [if_neg hx]
  obtain ⟨c,r,hcr,hd⟩:=qPr x.toNat
  simp only [qA2,Bool.and_eq_true,decide_eq_true_eq] at hd
  rw [e,hcr]
  simp only [Lib.parseIntB]
  rw [if_neg (by omega),←hcr,qOt (u:=x.toNat) (by omega)]
  simp only [p]
  rw [if_neg (by omega),if_neg (by omega),if_neg (by omega)]
  congr 1
  omega
def qPT (l:List UInt8):Option Int:=if l.head?=some 45 then (if (l1I (l.drop 1) 16).2=true∧(l1I (l.drop 1) 16).1≠0 then some (-(l1I (l.drop 1) 16).1) else none) else (if (l1I l 16).2=true then some (l1I l 16).1 else none)
theorem qNy {l:List UInt8} (h:(l1I l 16).2=true):l.length≤16∧qFR l=true∧(l1I l 16).1=(qAc 0 l:Int)∧Lib.decDigits (qAc 0 l)=l:=by
 unfold l1I at h⊢
 split at h
 ·rename_i hc
  rw [if_pos hc]
  exact ⟨by omega,hc.2,rfl,qL9 _ l rfl hc.2⟩
 ·cases h
theorem qQk {u:Nat} (h:u≤1000000000000000):l1I (Lib.decDigits u) 16=((u:Int),true):=by
 obtain ⟨h1,h2,h3,_,_⟩:=qHY u
 have hl:(Lib.decDigits u).length≤16:=by
  rw [Lib.decDigits_length]
  have:Lib.nDigits 1000000000000000=16:=Lib.nDigits_unique 15 _ (by decide) (by decide)
  rcases Nat.lt_or_ge 16 (Lib.nDigits u) with h4|h4
  ·have h5:u<10^16:=by
    have:(10:Nat)^16=10000000000000000:=by decide
    omega
   exfalso
   rcases Nat.lt_or_ge u 1 with h6|h6
   ·have:u=0:=by omega
    subst this
    rw [Lib.nDigits_small (by decide)] at h4
    omega
   ·have key:∀(k v:Nat),1≤v→v<10^k→Lib.nDigits v≤k:=by
     intro k
     induction k with
     |zero=>intro v hv hv';simp at hv';omega
     |succ k ih=>
      intro v hv hv'
      by_cases h10:v<10
      ·rw [Lib.nDigits_small h10];omega
      ·rw [Lib.nDigits_big h10]
       have:=ih (v/10) (by omega) (by rw [Nat.pow_succ] at hv';omega)
       omega
    have:=key 16 u h6 h5
    omega
  ·exact h4
 unfold l1I
 rw [if_pos ⟨by omega,qOs u⟩,h2]
theorem qQ5 {l:List UInt8} {x:Int} (h:qPT l=some x):l=Lib.itoa x:=by
 unfold qPT at h
 split at h
 ·rename_i h45
  split at h
  ·rename_i hc
   cases h
   obtain ⟨a1,a2,a3,a4⟩:=qNy hc.1
   have hne:=hc.2
   rw [a3] at hne⊢
   unfold Lib.itoa
   rw [if_pos (by omega)]
   have:(-(qAc 0 (l.drop 1):Int)).natAbs=qAc 0 (l.drop 1):=by omega
   rw [this,a4]
   cases l with
   |nil=>cases h45
   |cons c r=>simp at h45;simp [h45]
  ·cases h
 ·split at h
  ·rename_i hc
   cases h
   obtain ⟨a1,a2,a3,a4⟩:=qNy hc
   rw [a3]
   unfold Lib.itoa
   rw [if_neg (by omega),Int.toNat_natCast,a4]
  ·cases h
theorem qQ6 {x:Int} (h: -1000000000000000≤x∧x≤1000000000000000):qPT (Lib.itoa x)=some x:=by
 unfold qPT
 by_cases hx:x<0
 ·have e:Lib.itoa x=45::Lib.decDigits x.natAbs:=by unfold Lib.itoa;rw [if_pos hx]
  have e2:=qQk (u:=x.natAbs) (by omega)
  rw [e,List.head?_cons,if_pos rfl,List.drop_succ_cons,List.drop_zero,e2,if_pos ⟨rfl,by show ((x.natAbs:Nat):Int)≠0;omega⟩]
  congr 1
  show-((x.natAbs:Nat):Int)=x
  omega
 ·have e:Lib.itoa x=Lib.decDigits x.toNat:=by unfold Lib.itoa;rw [if_neg hx]
  have e2:=qQk (u:=x.toNat) (by omega)
  obtain ⟨c,r,hcr,hd⟩:=qPr x.toNat
  have h45:¬(Lib.decDigits x.toNat).head?=some 45:=by
   rw [hcr]
   simp only [List.head?_cons,Option.some.injEq]
   intro hc
   subst hc
   simp [qA2] at hd
  rw [e,if_neg h45,e2,if_pos rfl]
  congr 1
  show ((x.toNat:Nat):Int)=x
  omega
def qBj (s:ByteArray):Int:=match zK s 10 64 with
 |some (.inl v)=>v
 |some (.inr v)=>v
 |none=>0
theorem qMS {s:ByteArray} {x:Int} (hs:s.toList=Lib.itoa x) (h: -1000000000000000≤x∧x≤1000000000000000):qBj s=x:=by
 have hd:s.data.toList=Lib.itoa x:=by rw [←Go.Lib.toList_data];exact hs
 have hsz:s.size≤281474976710656:=by
  rw [←qAQ,hs]
  unfold Lib.itoa
  split
  ·have:=qJV x.natAbs (by omega);simp;omega
  ·have:=qJV x.toNat (by omega);omega
 unfold qBj zK
 rw [if_pos ⟨rfl,rfl,hsz⟩,hd,qQN h]
def qD0 (s:ByteArray):Int:=if (qf 5).toList=s.toList then 5 else if (qf 4).toList=s.toList then 4 else if (qf 3).toList=s.toList then 3 else if (qf 2).toList=s.toList then 2 else if (qf 1).toList=s.toList then 1 else 0
theorem qRp (s:ByteArray):0≤qD0 s∧qD0 s≤5:=by
 unfold qD0
 repeat' split
 all_goals decide
theorem qRq {s:ByteArray} (h:¬qD0 s=0):qf (qD0 s)=s:=by
 unfold qD0 at h⊢
 by_cases h5:(qf 5).toList=s.toList
 ·rw [if_pos h5];exact qER h5
 rw [if_neg h5] at h⊢
 by_cases h4:(qf 4).toList=s.toList
 ·rw [if_pos h4];exact qER h4
 rw [if_neg h4] at h⊢
 by_cases h3:(qf 3).toList=s.toList
 ·rw [if_pos h3];exact qER h3
 rw [if_neg h3] at h⊢
 by_cases h2:(qf 2).toList=s.toList
 ·rw [if_pos h2];exact qER h2
 rw [if_neg h2] at h⊢
 by_cases h1:(qf 1).toList=s.toList
 ·rw [if_pos h1];exact qER h1
 rw [if_neg h1] at h
 exact absurd rfl h
def qBD (s:ByteArray):V3:=
 if s.toList.head?=some 39 then (2,0,⟨s.toList.tail.toArray⟩) else
 if s.toList= [70,65,76,83,69] then (3,0,em) else if s.toList= [84,82,85,69] then (3,1,em) else
 if s.toList.head?=some 35 then (if qD0 s=0 then (0,0,em) else (4,qD0 s,em)) else
 if s.toList= [] then (0,0,em) else (1,qBj s,em)
def qh (s:ByteArray):Int×Int×ByteArray×Bool:=if okV (qBD s).1 (qBD s).2.1 (qBD s).2.2=true∧(qBx (qBD s).1 (qBD s).2.1 (qBD s).2.2).toList=s.toList then ((qBD s).1,(qBD s).2.1,(qBD s).2.2,true) else (0,0,⟨#[]⟩,false)
theorem qRr (c:UInt8) (k:Nat) (hk:k<256):((c.toNat:Int)==(k:Int))=(some c==some (UInt8.ofNat k)):=by
 by_cases e:c=UInt8.ofNat k
 ·subst e
  have:(UInt8.ofNat k).toNat=k:=by rw [UInt8.toNat_ofNat'];omega
  simp [this]
 ·have h1:¬(c.toNat:Int)=(k:Int):=fun h=>e (by
   have:c.toNat=k:=by omega
   rw [←this];simp)
  have h2:¬some c=some (UInt8.ofNat k):=fun h=>e (by simpa using h)
  rw [beq_eq_false_iff_ne.2 h1,beq_eq_false_iff_ne.2 h2]
theorem qBr (l:List UInt8):(⟨l.toArray⟩:ByteArray).toList=l:=by rw [Go.Lib.toList_data]
theorem qNz (n:Nat):∀(f u:Nat) (s:ByteArray),u<10^(f+1)→u≤9223372036854775807→s.size+f≤1000→∃(q:Nat) (t:ByteArray),q<10∧t.size≤s.size+f∧UInt8.ofNat (48+q)::t.data.toList=Lib.decDigits u++s.data.toList∧∀M,f+1≤M→zC (qC4 n) M ((u:Int),s)=some ((q:Int),t)
 |f,u,s,h1,h2,h3=>by
  by_cases h:u<10
  ·refine ⟨u,s,h,by omega,by rw [Lib.decDigits,dif_pos h];rfl,fun M hM=>?_⟩
   obtain ⟨M,rfl⟩:∃k,M=k+1:=⟨M-1,by omega⟩
   have hc:¬(u:Int)≥10:=by omega
   rw [qP (r:=((u:Int),s)) (by simp [qC4,qC,qE,qG,qH,qJ,qK,Option.bind_some,qF,qM,qN,hc])]
  ·cases f with
   |zero=>simp at h1;omega
   |succ f=>
    have e1:Int.tmod (u:Int) 10=((u%10:Nat):Int):=by rw [Int.tmod_eq_emod_of_nonneg (by omega)];omega
    have e2:IntKind.i64.wrap (Int.tdiv (u:Int) 10)=((u/10:Nat):Int):=by
     rw [Int.tdiv_eq_ediv_of_nonneg (by omega),qa (by omega)];omega
    have e3:=u8w (q:=u%10) (by omega)
    have h4:u/10<10^(f+1):=by
     have:10^(f+1+1)=10^(f+1)*10:=Nat.pow_succ 10 (f+1)
     omega
    let d:ByteArray:=⟨#[UInt8.ofNat (48+u%10)]⟩
    have hd:d.size=1:=rfl
    have hs:(d++s).size=s.size+1:=by rw [ByteArray.size_append];omega
    obtain ⟨q,t,g1,g2,g3,g4⟩:=qNz n f (u/10) (d++s) h4 (by omega) (by omega)
    refine ⟨q,t,g1,by omega,?_,fun M hM=>?_⟩
    ·rw [g3,qC2,Lib.decDigits.eq_1 u,dif_neg h]
     simp [d]
    ·obtain ⟨M,rfl⟩:∃k,M=k+1:=⟨M-1,by omega⟩
     have hc:(u:Int)≥10:=by omega
     have hz:d.size+s.size≤9223372036854775807:=by omega
     rw [qX (v':=(((u/10:Nat):Int),d++s)) (by
      simp only [qC4,qC,qE,qG,qH,qJ,qK,Option.bind_some,qF,qM,qN,e1,e2,e3,bytesOf,Option.map_some,Int.toNat_natCast]
      rw [if_pos (by simpa using hc),if_pos (by simp),if_pos (decide_eq_true hz)])]
     exact g4 M (by omega)
theorem qLB (u:Nat) (h:u≤1000000000000000000):∀n,25≤n→qAN n (u:Int)=some (qDz u):=by
 intro n hn
 obtain ⟨m,rfl,hm⟩:=up1 hn
 have p:(10:Nat)^(18+1)=10000000000000000000:=by decide
 obtain ⟨q,t,g1,g2,g3,g4⟩:=qNz m 18 u ⟨#[]⟩ (by omega) (by omega) (by show 0+18≤1000;decide)
 have g4:=g4 m (by omega)
 have e3:=u8w g1
 have hc:¬(u:Int)<0:=by omega
 have hz:(⟨#[UInt8.ofNat (48+q)]⟩:ByteArray).size+t.size≤9223372036854775807:=by
  have g2:t.size≤0+18:=g2
  show 1+t.size≤_
  omega
 simp only [qAN,qFT,qC,qE,qG,qH,qJ,qK,Option.bind_some,qF,qM,qN,g4,e3,bytesOf,Option.map_some,Int.toNat_natCast]
 rw [if_neg (by simp),if_pos (by simp),if_pos (decide_eq_true hz)]
 congr 1
 apply qGc
 rw [qC2]
 have e:Lib.itoa (u:Int)=Lib.decDigits u:=by unfold Lib.itoa;rw [if_neg hc];simp
 show UInt8.ofNat (48+q)::t.data.toList=Lib.itoa (u:Int)
 rw [g3,e]
 simp
theorem qG7 (x:Int) (h: -1000000000000000000≤x∧x≤1000000000000000000):Ev (qAN · x) (qDz x):=by
 by_cases hx:x<0
 ·refine ⟨30,fun n hn=>?_⟩
  obtain ⟨m,rfl,hm⟩:=up1 hn
  have e1:IntKind.i64.wrap (0-x)=((x.natAbs:Nat):Int):=by rw [qa (by omega)];omega
  have g:=qLB x.natAbs (by omega) m (by omega)
  have hl:=qJV x.natAbs (by omega)
  have e0:Lib.itoa ((x.natAbs:Nat):Int)=Lib.decDigits x.natAbs:=by unfold Lib.itoa;rw [if_neg (by omega)];simp
  have hz:(⟨#[45]⟩:ByteArray).size+(qDz ((x.natAbs:Nat):Int)).size≤9223372036854775807:=by
   have:(qDz ((x.natAbs:Nat):Int)).size=(Lib.decDigits x.natAbs).length:=by rw [qCe];simp [qDz,e0]
   show 1+_≤_
   omega
  simp only [qAN,qFT,qC,qE,qG,qH,qJ,qK,Option.bind_some,qF,qM,qN,e1,g]
  rw [if_pos (by simpa using hx),if_pos (decide_eq_true hz)]
  congr 1
  apply qGc
  rw [qC2]
  have e:Lib.itoa x=45::Lib.decDigits x.natAbs:=by unfold Lib.itoa;rw [if_pos hx]
  show 45::(Lib.itoa ((x.natAbs:Nat):Int))=Lib.itoa x
  rw [e,e0]
 ·obtain ⟨u,rfl⟩:∃u:Nat,x=u:=⟨x.toNat,by omega⟩
  exact ⟨25,qLB u (by omega)⟩
theorem qPU (x:Int) (h: -9223372036854775808≤x∧x≤9223372036854775807):Ev (qDb · x 10) (qDz x):=by
 refine ⟨1,fun n hn=>?_⟩
 obtain ⟨m,rfl,hm⟩:=up1 hn
 show zi x 10=_
 unfold zi
 rw [if_pos ⟨rfl,h⟩]
 rfl
theorem qDq (x:Int) (h: -9223372036854775808≤x∧x≤9223372036854775807):Ev (qAe · x) (qDz x):=by
 obtain ⟨n1,h1⟩:=qPU x h
 refine ⟨n1+1,fun n hn=>?_⟩
 obtain ⟨m,rfl,hm⟩:=up1 hn
 have h1:=h1 m (by omega)
 dsimp only at h1
 simp only [qAe,qFy,qC,qE,qG,qH,qJ,qK,Option.bind_some,qF,qM,qN,h1]
theorem qGD (x:Int) (h:0≤x∧x≤5):Ev (qBK · x) (qf x):=by
 refine ⟨1,fun n hn=>?_⟩
 obtain ⟨m,rfl,hm⟩:=up1 hn
 simp only [qBK,qGo,qC,qE,qG,qH,qJ,qK,Option.bind_some,qF,qM,qN]
 rcases lt6 h with rfl|rfl|rfl|rfl|rfl|rfl<;>simp [zh,qf]
theorem qES (x:Int) (h:0≤x∧x≤5):Ev (qAd · x) (qf x):=by
 refine ⟨1,fun n hn=>?_⟩
 obtain ⟨m,rfl,hm⟩:=up1 hn
 simp only [qAd,qEf,qC,qE,qG,qH,qJ,qK,Option.bind_some,qF,qM,qN]
 rcases lt6 h with rfl|rfl|rfl|rfl|rfl|rfl<;>simp [zh,qf]
theorem qN0 (x:Int):Ev (qEv · x) (qPo x):=by
 refine ⟨1,fun n hn=>?_⟩
 obtain ⟨m,rfl,hm⟩:=up1 hn
 simp only [qEv,qGv,qC,qE,qG,qH,qJ,qK,Option.bind_some,qF,qM,qN]
 by_cases h:x=1<;>simp [qPo,h]
theorem qC9 (k x:Int) (s:ByteArray) (hb:s.size≤140737488351232):Ev (qAM · k x s) (if okV k x s=true then qBx k x s else ⟨#[]⟩):=by
 cases ho:okV k x s with
 |false=>
  obtain ⟨n1,h1⟩:=qAA k x s hb
  refine ⟨n1+1,fun n hn=>?_⟩
  obtain ⟨m,rfl,hm⟩:=up1 hn
  have h1:=h1 m (by omega)
  dsimp only at h1
  simp only [qAM,qBG,qC,qE,qG,qH,qJ,qK,Option.bind_some,qF,qM,qN,h1]
  simp [ho]
 |true=>
  by_cases k1:k=1
  ·subst k1
   have:=qRM ho
   obtain ⟨n1,h1⟩:=qAA 1 x s hb
   obtain ⟨n2,h2⟩:=qG7 x (by omega)
   refine ⟨n1+n2+1,fun n hn=>?_⟩
   obtain ⟨m,rfl,hm⟩:=up1 hn
   have h1:=h1 m (by omega)
   dsimp only at h1
   have h2:=h2 m (by omega)
   dsimp only at h2
   simp only [qAM,qBG,qC,qE,qG,qH,qJ,qK,Option.bind_some,qF,qM,qN,h1,h2]
   simp [ho,qBx]
  ·by_cases k2:k=2
   ·subst k2
    have:=qOr ho
    have hz:(⟨#[39]⟩:ByteArray).size+s.size≤9223372036854775807:=by show 1+s.size≤_;omega
    obtain ⟨n1,h1⟩:=qAA 2 x s hb
    refine ⟨n1+1,fun n hn=>?_⟩
    obtain ⟨m,rfl,hm⟩:=up1 hn
    have h1:=h1 m (by omega)
    dsimp only at h1
    simp only [qAM,qBG,qC,qE,qG,qH,qJ,qK,Option.bind_some,qF,qM,qN,h1]
    simp [ho,qBx,hz]
   ·by_cases k3:k=3
    ·subst k3
     obtain ⟨n1,h1⟩:=qAA 3 x s hb
     obtain ⟨n2,h2⟩:=qN0 x
     refine ⟨n1+n2+1,fun n hn=>?_⟩
     obtain ⟨m,rfl,hm⟩:=up1 hn
     have h1:=h1 m (by omega)
     dsimp only at h1
     have h2:=h2 m (by omega)
     dsimp only at h2
     simp only [qAM,qBG,qC,qE,qG,qH,qJ,qK,Option.bind_some,qF,qM,qN,h1,h2]
     simp [ho,qBx]
    ·by_cases k4:k=4
     ·subst k4
      have:=qSE ho
      obtain ⟨n1,h1⟩:=qAA 4 x s hb
      obtain ⟨n2,h2⟩:=qGD x (by omega)
      refine ⟨n1+n2+1,fun n hn=>?_⟩
      obtain ⟨m,rfl,hm⟩:=up1 hn
      have h1:=h1 m (by omega)
      dsimp only at h1
      have h2:=h2 m (by omega)
      dsimp only at h2
      simp only [qAM,qBG,qC,qE,qG,qH,qJ,qK,Option.bind_some,qF,qM,qN,h1,h2]
      simp [ho,qBx]
     ·obtain ⟨n1,h1⟩:=qAA k x s hb
      refine ⟨n1+1,fun n hn=>?_⟩
      obtain ⟨m,rfl,hm⟩:=up1 hn
      have h1:=h1 m (by omega)
      dsimp only at h1
      simp only [qAM,qBG,qC,qE,qG,qH,qJ,qK,Option.bind_some,qF,qM,qN,h1]
      simp [ho,qBx,k1,k2,k3,k4]
theorem qGd (k x:Int) (s:ByteArray) (ho:okV k x s=true):Ev (qo · k x s) (qBx k x s):=by
 by_cases k1:k=1
 ·subst k1
  have:=qRM ho
  obtain ⟨n1,h1⟩:=qDq x (by omega)
  refine ⟨n1+1,fun n hn=>?_⟩
  obtain ⟨m,rfl,hm⟩:=up1 hn
  have h1:=h1 m (by omega)
  dsimp only at h1
  simp only [qo,qBg,qC,qE,qG,qH,qJ,qK,Option.bind_some,qF,qM,qN,h1]
  simp [qBx]
 ·by_cases k2:k=2
  ·subst k2
   have:=qOr ho
   have hz:(⟨#[39]⟩:ByteArray).size+s.size≤9223372036854775807:=by show 1+s.size≤_;omega
   refine ⟨1,fun n hn=>?_⟩
   obtain ⟨m,rfl,hm⟩:=up1 hn
   simp only [qo,qBg,qC,qE,qG,qH,qJ,qK,Option.bind_some,qF,qM,qN]
   simp [qBx,hz]
  ·by_cases k3:k=3
   ·subst k3
    have:=qSf ho
    refine ⟨1,fun n hn=>?_⟩
    obtain ⟨m,rfl,hm⟩:=up1 hn
    simp only [qo,qBg,qC,qE,qG,qH,qJ,qK,Option.bind_some,qF,qM,qN]
    have c:x=0∨x=1:=by omega
    rcases c with rfl|rfl<;>simp [zh,qBx,qPo]
   ·by_cases k4:k=4
    ·subst k4
     have:=qSE ho
     obtain ⟨n1,h1⟩:=qES x (by omega)
     refine ⟨n1+1,fun n hn=>?_⟩
     obtain ⟨m,rfl,hm⟩:=up1 hn
     have h1:=h1 m (by omega)
     dsimp only at h1
     simp only [qo,qBg,qC,qE,qG,qH,qJ,qK,Option.bind_some,qF,qM,qN,h1]
     simp [qBx]
    ·refine ⟨1,fun n hn=>?_⟩
     obtain ⟨m,rfl,hm⟩:=up1 hn
     simp only [qo,qBg,qC,qE,qG,qH,qJ,qK,Option.bind_some,qF,qM,qN]
     simp [qBx,k1,k2,k3,k4]
theorem qIS (x:Int):Ev (qBo · x) (qC6 x):=by
 by_cases h:1≤x∧x≤52
 ·by_cases h26:x≤26
  ·have w1:IntKind.i64.wrap (65+x)=65+x:=qa (by omega)
   have w2:IntKind.i64.wrap (65+x-1)=65+x-1:=qa (by omega)
   have w3:IntKind.u8.wrap (65+x-1)=65+x-1:=qPQ (by omega)
   have e:(65+x-1).toNat=64+x.toNat:=by omega
   obtain ⟨n1,h1⟩:=qAF x 1 52
   refine ⟨n1+1,fun n hn=>?_⟩
   obtain ⟨m,rfl,hm⟩:=up1 hn
   have h1:=h1 m (by omega)
   dsimp only at h1
   simp only [qBo,qDE,qC,qE,qG,qH,qJ,qK,Option.bind_some,qF,qM,qN,h1]
   simp only [w1,w2,w3,bytesOf,Option.map_some,e]
   simp [h,h26,qC6,show ¬x<1 by omega,show ¬52<x by omega]
  ·have w1:IntKind.i64.wrap (x-1)=x-1:=qa (by omega)
   have e1:Int.tdiv (x-1) 26=1:=by rw [Int.tdiv_eq_ediv_of_nonneg (by omega)];omega
   have e2:Int.tmod (x-1) 26=(((x.toNat-1)%26:Nat):Int):=by rw [Int.tmod_eq_emod_of_nonneg (by omega)];omega
   have w2:IntKind.u8.wrap (IntKind.i64.wrap (IntKind.i64.wrap (65+IntKind.i64.wrap 1)-1))=65:=by decide
   have w3:IntKind.i64.wrap (65+(((x.toNat-1)%26:Nat):Int))=65+(((x.toNat-1)%26:Nat):Int):=qa (by omega)
   have w4:IntKind.u8.wrap (65+(((x.toNat-1)%26:Nat):Int))=65+(((x.toNat-1)%26:Nat):Int):=qPQ (by omega)
   have e3:(65+(((x.toNat-1)%26:Nat):Int)).toNat=65+(x.toNat-1)%26:=by omega
   obtain ⟨n1,h1⟩:=qAF x 1 52
   refine ⟨n1+1,fun n hn=>?_⟩
   obtain ⟨m,rfl,hm⟩:=up1 hn
   have h1:=h1 m (by omega)
   dsimp only at h1
   simp only [qBo,qDE,qC,qE,qG,qH,qJ,qK,Option.bind_some,qF,qM,qN,h1]
   simp only [w1,e1,e2,w2,w3,w4,e3,bytesOf,Option.map_some]
   simp [h,h26,qC6,show ¬x<1 by omega,show ¬52<x by omega]
 ·have hx:x<1∨x>52:=by omega
  obtain ⟨n1,h1⟩:=qAF x 1 52
  refine ⟨n1+1,fun n hn=>?_⟩
  obtain ⟨m,rfl,hm⟩:=up1 hn
  have h1:=h1 m (by omega)
  dsimp only at h1
  simp only [qBo,qDE,qC,qE,qG,qH,qJ,qK,Option.bind_some,qF,qM,qN,h1]
  simp [h,qC6,hx]
theorem qOu (n x:Nat) (s:ByteArray) (h:1≤x∧x≤1000) (hs:s.size≤100):(qBN n ((x:Int),s)).run=some (.inl ((((x-1)/26:Nat):Int),(⟨#[UInt8.ofNat (65+(x-1)%26)]⟩:ByteArray)++s)):=by
 have w1:IntKind.i64.wrap ((x:Int)-1)=((x-1:Nat):Int):=by rw [qa (by omega)];omega
 have e1:Int.tdiv ((x-1:Nat):Int) 26=(((x-1)/26:Nat):Int):=by rw [Int.tdiv_eq_ediv_of_nonneg (by omega)];omega
 have e2:Int.tmod ((x-1:Nat):Int) 26=(((x-1)%26:Nat):Int):=by rw [Int.tmod_eq_emod_of_nonneg (by omega)];omega
 have w2:IntKind.i64.wrap (((x-1)/26:Nat):Int)=(((x-1)/26:Nat):Int):=qa (by omega)
 have w3:IntKind.i64.wrap (65+(((x-1)%26:Nat):Int))=65+(((x-1)%26:Nat):Int):=qa (by omega)
 have w4:IntKind.u8.wrap (65+(((x-1)%26:Nat):Int))=65+(((x-1)%26:Nat):Int):=qPQ (by omega)
 have e3:(65+(((x-1)%26:Nat):Int)).toNat=65+(x-1)%26:=by omega
 have hz:(⟨#[UInt8.ofNat (65+(x-1)%26)]⟩:ByteArray).size+s.size≤9223372036854775807:=by show 1+s.size≤_;omega
 have hc:(x:Int)>0:=by omega
 simp only [qBN,qC,qE,qG,qH,qJ,qK,Option.bind_some,qF,qM,qN,w1,e1,e2,w2,w3,w4,e3,bytesOf,Option.map_some]
 rw [if_pos (decide_eq_true hc),if_pos (by simp),if_pos (decide_eq_true hz)]
theorem qPs (n:Nat) (s:ByteArray):(qBN n (((0:Nat):Int),s)).run=some (.inr s):=by
 simp [qBN,qC,qE,qG,qH,qJ,qK,Option.bind_some,qF,qM,qN]
theorem qIT (x:Int):Ev (qCl · x) (qC6 x):=by
 by_cases h:1≤x∧x≤52
 ·obtain ⟨n1,h1⟩:=qB0 x 1 52
  refine ⟨n1+10,fun n hn=>?_⟩
  obtain ⟨m,rfl,hm⟩:=up1 hn
  have h1:=h1 m (by omega)
  dsimp only at h1
  obtain ⟨u,rfl⟩:∃u:Nat,x=u:=⟨x.toNat,by omega⟩
  obtain ⟨M,hM⟩:∃M,m=M+3:=⟨m-3,by omega⟩
  have key:zC (qBN m) m ((u:Int),(⟨#[]⟩:ByteArray))=some (qC6 u):=by
   rw [hM,qX (qOu _ u ⟨#[]⟩ (by omega) (by decide))]
   by_cases h26:u≤26
   ·have e:(u-1)/26=0:=by omega
    have e2:65+(u-1)%26=64+u:=by omega
    rw [e,qP (qPs _ _),e2]
    congr 1
    apply qGc
    rw [qC2]
    simp [qC6,show ¬(u:Int)<1 by omega,show ¬(52:Int)<u by omega,show (u:Int)≤26 by omega]
   ·have e:(u-1)/26=1:=by omega
    have e4:(⟨#[UInt8.ofNat (65+(u-1)%26)]⟩++(⟨#[]⟩:ByteArray)).size≤100:=by rw [ByteArray.size_append];show 1+0≤100;decide
    rw [e,qX (qOu _ 1 _ (by decide) e4)]
    have e3:(1-1)/26=0:=by decide
    rw [e3,qP (qPs _ _)]
    congr 1
    apply qGc
    rw [qC2,qC2]
    simp [qC6,show ¬(u:Int)<1 by omega,show ¬(52:Int)<u by omega,show ¬(u:Int)≤26 by omega]
  simp only [qCl,qEA,qC,qE,qG,qH,qJ,qK,Option.bind_some,qF,qM,qN,h1,key]
  simp [h]
 ·have hx:x<1∨x>52:=by omega
  obtain ⟨n1,h1⟩:=qB0 x 1 52
  refine ⟨n1+1,fun n hn=>?_⟩
  obtain ⟨m,rfl,hm⟩:=up1 hn
  have h1:=h1 m (by omega)
  dsimp only at h1
  simp only [qCl,qEA,qC,qE,qG,qH,qJ,qK,Option.bind_some,qF,qM,qN,h1]
  simp [h,qC6,hx]
theorem qDA (c r:Int) (fc fr:Bool):Ev (qA1 · c r fc fr) (qA8 c r fc fr):=by
 cases ho:qA5 c r with
 |false=>
  obtain ⟨n1,h1⟩:=qCa c r
  refine ⟨n1+1,fun n hn=>?_⟩
  obtain ⟨m,rfl,hm⟩:=up1 hn
  have h1:=h1 m (by omega)
  dsimp only at h1
  simp only [qA1,qDO,qC,qE,qG,qH,qJ,qK,Option.bind_some,qF,qM,qN,h1]
  simp [ho,qA8]
 |true=>
  have h:=qHX ho
  have s1:=qL8 c
  have s2:=qKg h.2
  have d1:(⟨#[36]⟩:ByteArray).size=1:=rfl
  have z1:(⟨#[36]⟩:ByteArray).size+(qC6 c).size≤9223372036854775807:=by omega
  have z2:((⟨#[36]⟩:ByteArray)++qC6 c).size+(⟨#[36]⟩:ByteArray).size≤9223372036854775807:=by rw [ByteArray.size_append];omega
  have z3:(((⟨#[36]⟩:ByteArray)++qC6 c)++(⟨#[36]⟩:ByteArray)).size+(qDz r).size≤9223372036854775807:=by rw [ByteArray.size_append,ByteArray.size_append];omega
  have z4:((⟨#[36]⟩:ByteArray)++qC6 c).size+(qDz r).size≤9223372036854775807:=by rw [ByteArray.size_append];omega
  have z5:(qC6 c).size+(⟨#[36]⟩:ByteArray).size≤9223372036854775807:=by omega
  have z6:(qC6 c++(⟨#[36]⟩:ByteArray)).size+(qDz r).size≤9223372036854775807:=by rw [ByteArray.size_append];omega
  have z7:(qC6 c).size+(qDz r).size≤9223372036854775807:=by omega
  obtain ⟨n1,h1⟩:=qCa c r
  obtain ⟨n2,h2⟩:=qIT c
  obtain ⟨n3,h3⟩:=qG7 r (by omega)
  refine ⟨n1+n2+n3+1,fun n hn=>?_⟩
  obtain ⟨m,rfl,hm⟩:=up1 hn
  have h1:=h1 m (by omega)
  dsimp only at h1
  have h2:=h2 m (by omega)
  dsimp only at h2
  have h3:=h3 m (by omega)
  dsimp only at h3
  simp only [qA1,qDO,qC,qE,qG,qH,qJ,qK,Option.bind_some,qF,qM,qN,h1,h2,h3]
  simp only [ho,decide_eq_true z1,decide_eq_true z2,decide_eq_true z3,decide_eq_true z4,decide_eq_true z5,decide_eq_true z6,decide_eq_true z7,if_true,Bool.not_true,Bool.false_eq_true,if_false]
  cases fc<;>cases fr<;>simp only [if_true,if_false,Bool.false_eq_true,Option.some.injEq]<;>apply qGc<;>simp [qA8,ho,qC2]
theorem qCT (c r:Int) (fc fr:Bool):Ev (qAo · c r fc fr) (qA8 c r fc fr):=by
 cases ho:qA5 c r with
 |false=>
  obtain ⟨n1,h1⟩:=qCb c r
  refine ⟨n1+1,fun n hn=>?_⟩
  obtain ⟨m,rfl,hm⟩:=up1 hn
  have h1:=h1 m (by omega)
  dsimp only at h1
  simp only [qAo,qDP,qC,qE,qG,qH,qJ,qK,Option.bind_some,qF,qM,qN,h1]
  simp [ho,qA8]
 |true=>
  have h:=qHX ho
  have s1:=qL8 c
  have s2:=qKg h.2
  have d1:(⟨#[36]⟩:ByteArray).size=1:=rfl
  have d0:(⟨#[]⟩:ByteArray).size=0:=rfl
  have z1:(⟨#[36]⟩:ByteArray).size+(qC6 c).size≤9223372036854775807:=by omega
  have z2:((⟨#[36]⟩:ByteArray)++qC6 c).size+(⟨#[36]⟩:ByteArray).size≤9223372036854775807:=by rw [ByteArray.size_append];omega
  have z3:(((⟨#[36]⟩:ByteArray)++qC6 c)++(⟨#[36]⟩:ByteArray)).size+(qDz r).size≤9223372036854775807:=by rw [ByteArray.size_append,ByteArray.size_append];omega
  have z4:((⟨#[36]⟩:ByteArray)++qC6 c).size+(qDz r).size≤9223372036854775807:=by rw [ByteArray.size_append];omega
  have y1:(⟨#[]⟩:ByteArray).size+(qC6 c).size≤9223372036854775807:=by omega
  have y2:((⟨#[]⟩:ByteArray)++qC6 c).size+(⟨#[36]⟩:ByteArray).size≤9223372036854775807:=by rw [ByteArray.size_append];omega
  have y3:(((⟨#[]⟩:ByteArray)++qC6 c)++(⟨#[36]⟩:ByteArray)).size+(qDz r).size≤9223372036854775807:=by rw [ByteArray.size_append,ByteArray.size_append];omega
  have y4:((⟨#[]⟩:ByteArray)++qC6 c).size+(qDz r).size≤9223372036854775807:=by rw [ByteArray.size_append];omega
  obtain ⟨n1,h1⟩:=qCb c r
  obtain ⟨n2,h2⟩:=qIS c
  obtain ⟨n3,h3⟩:=qDq r (by omega)
  refine ⟨n1+n2+n3+1,fun n hn=>?_⟩
  obtain ⟨m,rfl,hm⟩:=up1 hn
  have h1:=h1 m (by omega)
  dsimp only at h1
  have h2:=h2 m (by omega)
  dsimp only at h2
  have h3:=h3 m (by omega)
  dsimp only at h3
  simp only [qAo,qDP,qC,qE,qG,qH,qJ,qK,Option.bind_some,qF,qM,qN,h1,h2,h3]
  simp only [ho,decide_eq_true z1,decide_eq_true z2,decide_eq_true z3,decide_eq_true z4,decide_eq_true y1,decide_eq_true y2,decide_eq_true y3,decide_eq_true y4,if_true,Bool.not_true,Bool.false_eq_true,if_false]
  cases fc<;>cases fr<;>simp only [if_true,if_false,Bool.false_eq_true,Option.some.injEq]<;>apply qGc<;>simp [qA8,ho,qC2]
theorem qN1 (n:Nat) (s:ByteArray):∀(r pre:List UInt8) (acc M:Nat),s.toList=pre++r→acc<10^pre.length→pre.length+r.length≤17→r.length+1≤M→
  zC (qBX n) M (s,(acc:Int),(pre.length:Int))=some (if r.all qA2=true then .inr ((qAc acc r:Nat):Int) else .inl (0,false))
 |r,pre,acc,0,h1,h2,h3,h4=>by omega
 | [],pre,acc,M+1,h1,h2,h3,h4=>by
  have hs:s.size=pre.length:=by rw [←qAQ,h1];simp
  rw [qP (r:= .inr (acc:Int)) (by simp [qBX,qC,qE,qG,qH,qJ,qK,Option.bind_some,qF,qM,qN,hs])]
  simp [qGC]
 |c::r,pre,acc,M+1,h1,h2,h3,h4=>by
  have hs:s.size=pre.length+(r.length+1):=by rw [←qAQ,h1];simp
  have hi:(pre.length:Int)<s.size:=by omega
  have hg:s.toList[pre.length]?=some c:=by rw [h1];simp
  simp only [List.length_cons] at h3 h4
  by_cases c1:(c.toNat:Int)<48
  ·rw [qP (r:= .inl (0,false)) (by simp [qBX,qC,qE,qG,qH,qJ,qK,Option.bind_some,qF,qM,qN,hi,hg,c1])]
   have:qA2 c=false:=by simp [qA2];omega
   simp [this]
  ·by_cases c2:(c.toNat:Int)>57
   ·rw [qP (r:= .inl (0,false)) (by simp [qBX,qC,qE,qG,qH,qJ,qK,Option.bind_some,qF,qM,qN,hi,hg,c1,c2])]
    have:qA2 c=false:=by simp [qA2];omega
    simp [this]
   ·have hc:qA2 c=true:=by simp [qA2];omega
    have hp:10^pre.length≤10^16:=Nat.pow_le_pow_right (by decide) (by omega)
    have p16:(10:Nat)^16=10000000000000000:=by decide
    have w1:IntKind.i64.wrap ((acc:Int)*10)=(acc:Int)*10:=qa (by omega)
    have w2:IntKind.u8.wrap ((c.toNat:Int)-48)=((c.toNat-48:Nat):Int):=by rw [qPQ (by omega)];omega
    have w3:IntKind.i64.wrap ((c.toNat-48:Nat):Int)=((c.toNat-48:Nat):Int):=qa (by omega)
    have w4:IntKind.i64.wrap ((acc:Int)*10+((c.toNat-48:Nat):Int))=((acc*10+(c.toNat-48):Nat):Int):=by rw [qa (by omega)];omega
    have w5:IntKind.i64.wrap ((pre.length:Int)+1)=(pre.length:Int)+1:=qa (by omega)
    have e0:((pre++ [c]).length:Int)=(pre.length:Int)+1:=by simp
    rw [qX (v':=(s,((acc*10+(c.toNat-48):Nat):Int),((pre++ [c]).length:Int))) (by
     rw [e0]
     simp [qBX,qC,qE,qG,qH,qJ,qK,Option.bind_some,qF,qM,qN,hi,hg,c1,c2,w1,w2,w3,w4,w5])]
    rw [qN1 n s r (pre++ [c]) (acc*10+(c.toNat-48)) M (by rw [h1];simp) (by rw [List.length_append,List.length_singleton,Nat.pow_succ];omega) (by simp;omega) (by omega)]
    simp [hc,qDR]
theorem qDj (s:ByteArray) (most:Int) (hm:most≤16):Ev (qr · s most) (l1I s.toList most):=by
 have hsz:s.size=s.toList.length:=(qAQ s).symm
 by_cases h0:s.toList= []
 ·have hz:s.size=0:=by rw [hsz,h0];rfl
  refine ⟨1,fun n hn=>?_⟩
  obtain ⟨m,rfl,hm⟩:=up1 hn
  simp only [qr,qEB,qC,qE,qG,qH,qJ,qK,Option.bind_some,qF,qM,qN]
  simp [hz,h0,l1I,qFR]
 ·obtain ⟨c,r,hcr⟩:∃c r,s.toList=c::r:=by
   cases hq:s.toList with
   |nil=>exact absurd hq h0
   |cons a b=>exact ⟨a,b,rfl⟩
  have hl:s.size=r.length+1:=by rw [hsz,hcr];rfl
  have z1:¬(s.size:Int)<1:=by omega
  by_cases h1:(s.size:Int)>most
  ·refine ⟨1,fun n hn=>?_⟩
   obtain ⟨m,rfl,hm⟩:=up1 hn
   simp only [qr,qEB,qC,qE,qG,qH,qJ,qK,Option.bind_some,qF,qM,qN]
   have:¬((s.toList.length:Int)≤most):=by rw [←hsz];omega
   simp [z1,h1,l1I,this]
  ·have hle:(s.toList.length:Int)≤most:=by rw [←hsz];omega
   refine ⟨30,fun n hn=>?_⟩
   obtain ⟨m,rfl,hm'⟩:=up1 hn
   have hg:s.toList[0]?=some c:=by rw [hcr];rfl
   have lp:=qN1 m s s.toList [] 0 m rfl (by decide) (by simp;omega) (by omega)
   simp only [List.length_nil,Int.natCast_zero] at lp
   have c48:((c.toNat:Int)==48)=(c==48):=by
    by_cases e:c=48
    ·subst e;rfl
    ·have:¬(c.toNat:Int)=48:=fun h=>e (UInt8.toNat_inj.1 (by show c.toNat=48;omega))
     rw [beq_eq_false_iff_ne.2 this,beq_eq_false_iff_ne.2 e]
   simp only [qr,qEB,qC,qE,qG,qH,qJ,qK,Option.bind_some,qF,qM,qN,lp,Int.toNat_zero,hg,c48]
   rw [if_neg (by simpa using z1),if_neg (by simpa using h1),if_pos (by simp)]
   have ne:(s.toList== [])=false:=by simpa using h0
   have hd:s.toList.head?=some c:=by rw [hcr];rfl
   by_cases hc:c=48
   ·subst hc
    by_cases h2:(s.size:Int)>1
    ·have:¬s.toList.length=1:=by omega
     simp [h2,l1I,qFR,hd,this]
    ·have:s.toList.length=1:=by omega
     cases hall:s.toList.all qA2<;>simp [h2,l1I,qFR,hd,this,hall,ne,hle,qC,qE,qG,qH,qJ,qK,Option.bind_some,qF,qM,qN]
     ·omega
   ·have:(some c==some 48)=false:=by simpa using hc
    cases hall:s.toList.all qA2<;>simp [hc,l1I,qFR,hd,this,hall,ne,hle,qC,qE,qG,qH,qJ,qK,Option.bind_some,qF,qM,qN]
theorem qMT (s:ByteArray) (h:s.size≤281474976710656):Ev (qAt · s 10 64) (.inl (qBj s))∨Ev (qAt · s 10 64) (.inr (qBj s)):=by
 have key:∃r,zK s 10 64=some r:=by
  unfold zK
  rw [if_pos ⟨rfl,rfl,h⟩]
  split<;>exact ⟨_,rfl⟩
 obtain ⟨r,hr⟩:=key
 have e:Ev (qAt · s 10 64) r:=⟨1,fun n hn=>by
  obtain ⟨m,rfl,hm⟩:=up1 hn
  exact hr⟩
 rcases r with v|v
 ·exact .inl (by unfold qBj;rw [hr];exact e)
 ·exact .inr (by unfold qBj;rw [hr];exact e)
theorem qFU (s:ByteArray) (c:UInt8):Ev (qAC · s ⟨#[c]⟩) (if s.toList.head?=some c then (⟨s.toList.tail.toArray⟩,true) else (s,false)):=by
 refine ⟨1,fun n hn=>?_⟩
 obtain ⟨m,rfl,hm⟩:=up1 hn
 show za s ⟨#[c]⟩=_
 unfold za Lib.trimPrefix Lib.hasPrefix
 rw [←Go.Lib.toList_data s]
 have es:(⟨s.toList.toArray⟩:ByteArray)=s:=qGc (by rw [←Go.Lib.toList_data s])
 generalize s.toList=l at*
 cases l with
 |nil=>simp [es]
 |cons a r=>
  by_cases h:a=c
  ·subst h;simp
  ·have:¬c=a:=fun e=>h e.symm
   simp [h,this,es,List.isPrefixOf]
theorem qPV (s:ByteArray) (c:UInt8):Ev (qk · s ⟨#[c]⟩) (s.toList.head?==some c):=by
 refine ⟨2,fun n hn=>?_⟩
 obtain ⟨m,rfl,hm⟩:=up1 hn
 obtain ⟨m,rfl,hm⟩:=up1 hm
 have z:(⟨#[c]⟩:ByteArray).size=1:=rfl
 have tc:(⟨#[c]⟩:ByteArray).toList= [c]:=by rw [Go.Lib.toList_data]
 have hsz:s.size=s.toList.length:=(qAQ s).symm
 simp only [qk,qBv,qz,qAr,qC,qE,qG,qH,qJ,qK,Option.bind_some,qF,qM,qN,z,tc]
 cases hq:s.toList with
 |nil=>
  have:s.size=0:=by rw [hsz,hq];rfl
  simp [this]
 |cons a r=>
  have h1:(1:Int)≤s.size:=by rw [hsz,hq];simp;omega
  have e:(s.extract 0 1).toList= [a]:=by
   rw [Go.Lib.toList_data,ByteArray.data_extract,Array.toList_extract]
   rw [Go.Lib.toList_data] at hq
   simp [hq]
  have h2:1≤s.size:=by omega
  simp [h1,h2,e]
theorem qPW (n:Nat) (s:ByteArray) (a b:Int) (c:ByteArray) (i:Int) (v:V3) (hi:1≤i∧i≤5) (h1:qAd n i=some (qf i)) (h2:qBl n i=some (4,i,em)):
  (qA6 n (s,i,a,b,c,v.1,v.2.1,v.2.2)).run=some (.inl (s,i+1,a,b,c,if (qf i).toList=s.toList then (4,i,em) else v)):=by
 have w1:IntKind.i64.wrap (i+1)=i+1:=qa (by omega)
 simp only [qA6,qC,qE,qG,qH,qJ,qK,Option.bind_some,qF,qM,qN,h1,h2,w1]
 rw [if_pos (decide_eq_true hi.2)]
 by_cases h:(qf i).toList=s.toList<;>simp [h]
def qKh (s:ByteArray):Nat→Int→V3→V3
 |0,_,v=>v
 |k+1,i,v=>qKh s k (i+1) (if (qf i).toList=s.toList then (4,i,em) else v)
theorem qRN (s:ByteArray):qKh s 5 1 (0,0,em)=if qD0 s=0 then (0,0,em) else (4,qD0 s,em):=by
 have a2:(1:Int)+1=2:=by decide
 have a3:(2:Int)+1=3:=by decide
 have a4:(3:Int)+1=4:=by decide
 have a5:(4:Int)+1=5:=by decide
 simp only [qKh,qD0,a2,a3,a4,a5]
 by_cases h5:(qf 5).toList=s.toList
 ·simp [h5]
 by_cases h4:(qf 4).toList=s.toList
 ·simp [h5,h4]
 by_cases h3:(qf 3).toList=s.toList
 ·simp [h5,h4,h3]
 by_cases h2:(qf 2).toList=s.toList
 ·simp [h5,h4,h3,h2]
 by_cases h1:(qf 1).toList=s.toList<;>simp [h5,h4,h3,h2,h1]
theorem qLC (n:Nat) (s:ByteArray) (a b:Int) (c:ByteArray) (h1:∀i,0≤i∧i≤5→qAd n i=some (qf i)) (h2:∀i,1≤i∧i≤5→qBl n i=some (4,i,em)):
  ∀(k:Nat) (i:Int) (v:V3) (M:Nat),i+k=6→1≤i→k+1≤M→zC (qA6 n) M (s,i,a,b,c,v.1,v.2.1,v.2.2)=some (s,a,b,c,(qKh s k i v).1,(qKh s k i v).2.1,(qKh s k i v).2.2)
 |k,i,v,0,e,h,hM=>by omega
 |0,i,v,M+1,e,h,hM=>by
  have hi:¬i≤5:=by omega
  rw [qP (r:=(s,a,b,c,v.1,v.2.1,v.2.2)) (by simp [qA6,qC,qE,qG,qH,qJ,qK,Option.bind_some,qF,qM,qN,hi])]
  rfl
 |k+1,i,v,M+1,e,h,hM=>by
  rw [qX (qPW n s a b c i v (by omega) (h1 i (by omega)) (h2 i (by omega)))]
  exact qLC n s a b c h1 h2 k (i+1) _ M (by omega) (by omega) (by omega)
theorem qOv:okV 0 0 em=true:=by simp [okV,em,q9]
theorem qMU:qBx 0 0 em=⟨#[]⟩:=rfl
theorem qFV {R:Type} {F:Nat→Int→Option R} {f:Int→R} {lo:Int} (h0:0≤lo) (h:∀i,lo≤i∧i≤5→Ev (F · i) (f i)):∃n0,∀n,n0≤n→∀i,lo≤i∧i≤5→F n i=some (f i):=by
 obtain ⟨n0,h1⟩:=qBI (F:=fun i n=>if lo≤i∧i≤5 then F n i else some (f i)) (f:=f) [0,1,2,3,4,5] (fun i _=>by
  by_cases hi:lo≤i∧i≤5
  ·obtain ⟨n0,h1⟩:=h i hi
   exact ⟨n0,fun n hn=>by simp only [if_pos hi];exact h1 n hn⟩
  ·exact ⟨0,fun n _=>by simp only [if_neg hi]⟩)
 refine ⟨n0,fun n hn i hi=>?_⟩
 have:=h1 n hn i (by
  have c:i=0∨i=1∨i=2∨i=3∨i=4∨i=5:=by omega
  rcases c with rfl|rfl|rfl|rfl|rfl|rfl<;>simp)
 simp only [if_pos hi] at this
 exact this
theorem qGe (s:ByteArray) (hb:s.size≤1048576):Ev (qe · s) (qh s):=by
 have te:(⟨#[]⟩:ByteArray).toList= []:=q9
 have tF:(⟨#[70,65,76,83,69]⟩:ByteArray).toList= [70,65,76,83,69]:=by rw [Go.Lib.toList_data]
 have tT:(⟨#[84,82,85,69]⟩:ByteArray).toList= [84,82,85,69]:=by rw [Go.Lib.toList_data]
 have fin:∀k x (t:ByteArray),qBD s=(k,x,t)→t.size≤140737488351232→∃n0,∀n,n0≤n→qAO n k x t=some (okV k x t)∧(okV k x t=true→qo n k x t=some (qBx k x t)):=fun k x t _ ht=>by
  obtain ⟨n1,h1⟩:=qFI k x t ht
  by_cases ho:okV k x t=true
  ·obtain ⟨n2,h2⟩:=qGd k x t ho
   exact ⟨n1+n2,fun n hn=>⟨h1 n (by omega),fun _=>h2 n (by omega)⟩⟩
  ·exact ⟨n1,fun n hn=>⟨h1 n hn,fun h=>absurd h ho⟩⟩
 have rd:∀k x (t:ByteArray),qBD s=(k,x,t)→qh s=if okV k x t=true∧(qBx k x t).toList=s.toList then (k,x,t,true) else (0,0,⟨#[]⟩,false):=fun k x t h=>by unfold qh;rw [h]
 by_cases h39:s.toList.head?=some 39
 ·have hc:qBD s=(2,0,⟨s.toList.tail.toArray⟩):=by unfold qBD;rw [if_pos h39]
  have hsz:(⟨s.toList.tail.toArray⟩:ByteArray).size≤140737488351232:=by rw [qCe];simp only [List.length_tail];rw [qAQ];omega
  obtain ⟨n0,hf⟩:=fin _ _ _ hc hsz
  rw [rd _ _ _ hc]
  obtain ⟨n1,h1⟩:=qFU s 39
  refine ⟨n0+n1+1,fun n hn=>?_⟩
  obtain ⟨m,rfl,hm⟩:=up1 hn
  have h1:=h1 m (by omega)
  obtain ⟨g1,g2⟩:=hf m (by omega)
  dsimp only at h1
  simp only [qe,qBH,qC,qE,qG,qH,qJ,qK,Option.bind_some,qF,qM,qN,h1,if_pos h39,g1]
  cases ho:okV 2 0 (⟨s.toList.tail.toArray⟩:ByteArray) with
  |false=>simp
  |true=>
   simp only [g2 ho]
   by_cases e:(qBx 2 0 (⟨s.toList.tail.toArray⟩:ByteArray)).toList=s.toList<;>simp [e]
 ·have cut:=qFU s 39
  rw [if_neg h39] at cut
  by_cases hF:s.toList= [70,65,76,83,69]
  ·have hc:qBD s=(3,0,em):=by unfold qBD;rw [if_neg h39,if_pos hF]
   have hT:¬s.toList= [84,82,85,69]:=by rw [hF];decide
   obtain ⟨n0,hf⟩:=fin _ _ _ hc (by decide)
   rw [rd _ _ _ hc]
   obtain ⟨n1,h1⟩:=cut
   obtain ⟨n2,h2⟩:=qKA false
   refine ⟨n0+n1+n2+1,fun n hn=>?_⟩
   obtain ⟨m,rfl,hm⟩:=up1 hn
   have h1:=h1 m (by omega)
   have h2:=h2 m (by omega)
   obtain ⟨g1,g2⟩:=hf m (by omega)
   dsimp only at h1 h2
   simp only [Bool.false_eq_true,if_false] at h2
   have bT:(s.toList== [84,82,85,69])=false:=by simpa using hT
   have bF:(s.toList== [70,65,76,83,69])=true:=by simpa using hF
   simp only [qe,qBH,qC,qE,qG,qH,qJ,qK,Option.bind_some,qF,qM,qN,h1,tF,tT,bT,bF,h2,g1]
   cases ho:okV 3 0 em with
   |false=>simp
   |true=>
    simp only [g2 ho]
    by_cases e:(qBx 3 0 em).toList=s.toList<;>simp [e]
  ·by_cases hT:s.toList= [84,82,85,69]
   ·have hc:qBD s=(3,1,em):=by unfold qBD;rw [if_neg h39,if_neg hF,if_pos hT]
    obtain ⟨n0,hf⟩:=fin _ _ _ hc (by decide)
    rw [rd _ _ _ hc]
    obtain ⟨n1,h1⟩:=cut
    obtain ⟨n2,h2⟩:=qKA true
    refine ⟨n0+n1+n2+1,fun n hn=>?_⟩
    obtain ⟨m,rfl,hm⟩:=up1 hn
    have h1:=h1 m (by omega)
    have h2:=h2 m (by omega)
    obtain ⟨g1,g2⟩:=hf m (by omega)
    dsimp only at h1 h2
    simp only [if_true] at h2
    have bT:(s.toList== [84,82,85,69])=true:=by simpa using hT
    have bF:(s.toList== [70,65,76,83,69])=false:=by simpa using hF
    simp only [qe,qBH,qC,qE,qG,qH,qJ,qK,Option.bind_some,qF,qM,qN,h1,tF,tT,bT,bF,h2,g1]
    cases ho:okV 3 1 em with
    |false=>simp
    |true=>
     simp only [g2 ho]
     by_cases e:(qBx 3 1 em).toList=s.toList<;>simp [e]
   ·have bT:(s.toList== [84,82,85,69])=false:=by simpa using hT
    have bF:(s.toList== [70,65,76,83,69])=false:=by simpa using hF
    have pre:=qPV s 35
    by_cases h35:s.toList.head?=some 35
    ·have hc:qBD s=(if qD0 s=0 then (0,0,em) else (4,qD0 s,em)):=by unfold qBD;rw [if_neg h39,if_neg hF,if_neg hT,if_pos h35]
     have main:∀k x (t:ByteArray),qBD s=(k,x,t)→qKh s 5 1 (0,0,em)=(k,x,t)→t.size≤140737488351232→Ev (qe · s) (qh s):=fun k x t hc hu ht=>by
      obtain ⟨n0,hf⟩:=fin _ _ _ hc ht
      rw [rd _ _ _ hc]
      obtain ⟨n1,h1⟩:=cut
      obtain ⟨n2,h2⟩:=pre
      obtain ⟨n3,h3⟩:=qFV (F:=qAd) (f:=qf) (lo:=0) (by decide) qES
      obtain ⟨n4,h4⟩:=qFV (F:=qBl) (f:=fun i=>(4,i,em)) (lo:=1) (by decide) (fun i _=>qJ9 i)
      refine ⟨n0+n1+n2+n3+n4+10,fun n hn=>?_⟩
      obtain ⟨m,rfl,hm⟩:=up1 hn
      have h1:=h1 m (by omega)
      have h2:=h2 m (by omega)
      have lp:=qLC m s 0 0 ⟨#[]⟩ (h3 m (by omega)) (h4 m (by omega)) 5 1 (0,0,em) m (by decide) (by decide) (by omega)
      rw [hu] at lp
      obtain ⟨g1,g2⟩:=hf m (by omega)
      dsimp only [em] at h1 h2 lp g1 g2
      have b35:(s.toList.head?==some 35)=true:=by simpa using h35
      simp only [qe,qBH,qC,qE,qG,qH,qJ,qK,Option.bind_some,qF,qM,qN,h1,tF,tT,bT,bF,h2,b35,lp,g1]
      cases ho:okV k x t with
      |false=>simp
      |true=>
       simp only [g2 ho]
       by_cases e:(qBx k x t).toList=s.toList<;>simp [e]
     by_cases hz:qD0 s=0
     ·rw [if_pos hz] at hc
      exact main _ _ _ hc (by rw [qRN,if_pos hz]) (show (0:Nat)≤140737488351232 by decide)
     ·rw [if_neg hz] at hc
      exact main _ _ _ hc (by rw [qRN,if_neg hz]) (show (0:Nat)≤140737488351232 by decide)
    ·have b35:(s.toList.head?==some 35)=false:=by simpa using h35
     by_cases h0:s.toList= []
     ·have hc:qBD s=(0,0,em):=by unfold qBD;rw [if_neg h39,if_neg hF,if_neg hT,if_neg h35,if_pos h0]
      obtain ⟨n0,hf⟩:=fin _ _ _ hc (by decide)
      rw [rd _ _ _ hc]
      obtain ⟨n1,h1⟩:=cut
      obtain ⟨n2,h2⟩:=pre
      refine ⟨n0+n1+n2+1,fun n hn=>?_⟩
      obtain ⟨m,rfl,hm⟩:=up1 hn
      have h1:=h1 m (by omega)
      have h2:=h2 m (by omega)
      obtain ⟨g1,g2⟩:=hf m (by omega)
      dsimp only [em] at h1 h2 g1 g2
      have b0:(!(s.toList== []))=false:=by simpa using h0
      simp only [qe,qBH,qC,qE,qG,qH,qJ,qK,Option.bind_some,qF,qM,qN,h1,tF,tT,bT,bF,h2,b35,te,b0,g1]
      have ho:=qOv
      dsimp only [em] at ho
      simp only [g2 ho,ho]
      by_cases e:(qBx 0 0 (⟨#[]⟩:ByteArray)).toList=s.toList<;>simp [em,ho,e]
     ·have hc:qBD s=(1,qBj s,em):=by unfold qBD;rw [if_neg h39,if_neg hF,if_neg hT,if_neg h35,if_neg h0]
      obtain ⟨n0,hf⟩:=fin _ _ _ hc (by decide)
      rw [rd _ _ _ hc]
      obtain ⟨n1,h1⟩:=cut
      obtain ⟨n2,h2⟩:=pre
      obtain ⟨n4,h4⟩:=qJG (qBj s)
      have b0:(!(s.toList== []))=true:=by simpa using h0
      rcases qMT s (by omega) with ⟨n3,h3⟩|⟨n3,h3⟩
      all_goals
       refine ⟨n0+n1+n2+n3+n4+1,fun n hn=>?_⟩
       obtain ⟨m,rfl,hm⟩:=up1 hn
       have h1:=h1 m (by omega)
       have h2:=h2 m (by omega)
       have h3:=h3 m (by omega)
       have h4:=h4 m (by omega)
       obtain ⟨g1,g2⟩:=hf m (by omega)
       dsimp only at h1 h2 h3 h4
       simp only [qe,qBH,qC,qE,qG,qH,qJ,qK,Option.bind_some,qF,qM,qN,h1,tF,tT,bT,bF,h2,b35,te,b0,h3,h4,g1]
       cases ho:okV 1 (qBj s) em with
       |false=>simp
       |true=>
        simp only [g2 ho]
        by_cases e:(qBx 1 (qBj s) em).toList=s.toList<;>simp [e]
theorem qLD (n:Nat) (s:ByteArray) (a b:Int) (c:ByteArray) (h1:∀i,0≤i∧i≤5→qBK n i=some (qf i)):
  ∀(k:Nat) (i x:Int) (M:Nat),i+k=6→1≤i→k+1≤M→(qKh s k i (4,x,em)).1=4∧(qKh s k i (4,x,em)).2.2=em∧zC (qBO n) M (s,i,a,b,c,4,x,⟨#[]⟩)=some (a,b,c,4,(qKh s k i (4,x,em)).2.1,⟨#[]⟩)
 |k,i,x,0,e,h,hM=>by omega
 |0,i,x,M+1,e,h,hM=>by
  have hi:¬i≤5:=by omega
  refine ⟨rfl,rfl,?_⟩
  rw [qP (r:=(a,b,c,4,x,⟨#[]⟩)) (by simp [qBO,qC,qE,qG,qH,qJ,qK,Option.bind_some,qF,qM,qN,hi])]
  rfl
 |k+1,i,x,M+1,e,h,hM=>by
  have hi:i≤5:=by omega
  have g:=h1 i (by omega)
  have w1:IntKind.i64.wrap (i+1)=i+1:=qa (by omega)
  have hu:qKh s (k+1) i (4,x,em)=qKh s k (i+1) (4,if (qf i).toList=s.toList then i else x,em):=by
   simp only [qKh]
   split<;>rfl
  rw [hu,qX (v':=(s,i+1,a,b,c,4,(if (qf i).toList=s.toList then i else x),⟨#[]⟩)) (by
   simp only [qBO,qC,qE,qG,qH,qJ,qK,Option.bind_some,qF,qM,qN,g,w1]
   rw [if_pos (decide_eq_true hi)]
   by_cases hq:(qf i).toList=s.toList<;>simp [hq])]
  exact qLD n s a b c h1 k (i+1) _ M (by omega) (by omega) (by omega)
theorem qRs (s:ByteArray):qKh s 5 1 (4,0,em)=(4,qD0 s,em):=by
 have a2:(1:Int)+1=2:=by decide
 have a3:(2:Int)+1=3:=by decide
 have a4:(3:Int)+1=4:=by decide
 have a5:(4:Int)+1=5:=by decide
 simp only [qKh,qD0,a2,a3,a4,a5]
 by_cases h5:(qf 5).toList=s.toList
 ·simp [h5]
 by_cases h4:(qf 4).toList=s.toList
 ·simp [h5,h4]
 by_cases h3:(qf 3).toList=s.toList
 ·simp [h5,h4,h3]
 by_cases h2:(qf 2).toList=s.toList
 ·simp [h5,h4,h3,h2]
 by_cases h1:(qf 1).toList=s.toList<;>simp [h5,h4,h3,h2,h1]
theorem qSg (s:ByteArray):(s.extract (1:Int).toNat ((s.size:Int)).toNat).toList=s.toList.tail:=by
 have e1:(1:Int).toNat=1:=rfl
 rw [Int.toNat_natCast,e1,Go.Lib.toList_data,ByteArray.data_extract,Array.toList_extract,Go.Lib.toList_data]
 have hl:s.data.toList.length=s.size:=by rw [←qCe]
 show (s.data.toList.drop 1).take (s.size-1)=s.data.toList.tail
 rw [List.take_of_length_le (by rw [List.length_drop,hl];exact Nat.le_refl _),List.drop_one]
theorem qRO {s:ByteArray} {c:UInt8} {r:List UInt8} (h:s.toList=c::r):s.toList[((0:Int)).toNat]?=some c:=by rw [h];rfl
theorem qQl {x:Int}:okV 1 x em=decide (-1000000000000000≤x∧x≤1000000000000000):=by
 simp [okV,em,q9]
theorem qQ7 {s:ByteArray} (h39:¬s.toList.head?=some 39) (hF:¬s.toList= [70,65,76,83,69]) (hT:¬s.toList= [84,82,85,69]) (h35:¬s.toList.head?=some 35) (h0:¬s.toList= []):
  qh s=match qPT s.toList with
   |some x=>if okV 1 x em=true then (1,x,em,true) else (0,0,⟨#[]⟩,false)
   |none=>(0,0,⟨#[]⟩,false):=by
 have hc:qBD s=(1,qBj s,em):=by unfold qBD;rw [if_neg h39,if_neg hF,if_neg hT,if_neg h35,if_neg h0]
 have rd:qh s=if okV 1 (qBj s) em=true∧(qBx 1 (qBj s) em).toList=s.toList then (1,qBj s,em,true) else (0,0,⟨#[]⟩,false):=by unfold qh;rw [hc]
 have tx:∀x,(qBx 1 x em).toList=Lib.itoa x:=fun x=>by
  rw [Go.Lib.toList_data];simp [qBx,qDz]
 have back:okV 1 (qBj s) em=true∧(qBx 1 (qBj s) em).toList=s.toList→qPT s.toList=some (qBj s):=fun ⟨a,b⟩=>by
  rw [tx] at b
  rw [qQl] at a
  rw [←b]
  exact qQ6 (by simpa using a)
 rw [rd]
 cases hn:qPT s.toList with
 |none=>
  rw [if_neg (fun h=>by rw [back h] at hn;cases hn)]
 |some x=>
  by_cases hx:okV 1 x em=true
  ·have hi:=qQ5 hn
   have hr: -1000000000000000≤x∧x≤1000000000000000:=by rw [qQl] at hx;simpa using hx
   have hp:=qMS hi hr
   dsimp only
   rw [hp,if_pos ⟨hx,by rw [tx,hi]⟩,if_pos hx]
  ·dsimp only
   rw [if_neg hx,if_neg (fun h=>by
    have:=back h
    rw [hn] at this
    cases this
    exact hx h.1)]
theorem qQ8 (s:ByteArray) {c:UInt8} {r:List UInt8} (hcr:s.toList=c::r):qPT s.toList=if c=45 then (if (l1I s.toList.tail 16).2=true∧(l1I s.toList.tail 16).1≠0 then some (-(l1I s.toList.tail 16).1) else none) else (if (l1I s.toList 16).2=true then some (l1I s.toList 16).1 else none):=by
 unfold qPT
 rw [hcr]
 simp only [List.head?_cons,Option.some.injEq,List.drop_one]
theorem qGf (s:ByteArray) (hb:s.size≤1048576):Ev (qAE · s) (qh s):=by
 have te:(⟨#[]⟩:ByteArray).toList= []:=q9
 have tF:(⟨#[70,65,76,83,69]⟩:ByteArray).toList= [70,65,76,83,69]:=by rw [Go.Lib.toList_data]
 have tT:(⟨#[84,82,85,69]⟩:ByteArray).toList= [84,82,85,69]:=by rw [Go.Lib.toList_data]
 have hsz:s.size=s.toList.length:=(qAQ s).symm
 by_cases h0:s.toList= []
 ·have hv:qh s=(0,0,⟨#[]⟩,true):=by
   have hc:qBD s=(0,0,em):=by unfold qBD;rw [h0];simp
   unfold qh
   rw [hc,if_pos ⟨qOv,by rw [qMU,h0];exact te⟩]
   rfl
  rw [hv]
  refine ⟨1,fun n hn=>?_⟩
  obtain ⟨m,rfl,hm⟩:=up1 hn
  simp only [qAE,qAx,qC,qE,qG,qH,qJ,qK,Option.bind_some,qF,qM,qN]
  simp [h0,te]
 ·obtain ⟨c,r,hcr⟩:∃c r,s.toList=c::r:=by
   cases hq:s.toList with
   |nil=>exact absurd hq h0
   |cons a b=>exact ⟨a,b,rfl⟩
  have hg:=qRO hcr
  have hd:s.toList.head?=some c:=by rw [hcr];rfl
  have b0:(s.toList== [])=false:=by simpa using h0
  have s1:(1:Int)≤(s.size:Int):=by rw [hsz,hcr];simp;omega
  have k39:=qRr c 39 (by decide)
  have k35:=qRr c 35 (by decide)
  have k45:=qRr c 45 (by decide)
  have u39:UInt8.ofNat 39=39:=rfl
  have u35:UInt8.ofNat 35=35:=rfl
  have u45:UInt8.ofNat 45=45:=rfl
  rw [u39] at k39
  rw [u35] at k35
  rw [u45] at k45
  have q39:((39:Nat):Int)=39:=rfl
  have q35:((35:Nat):Int)=35:=rfl
  have q45:((45:Nat):Int)=45:=rfl
  rw [q39] at k39
  rw [q35] at k35
  rw [q45] at k45
  by_cases h39:c=39
  ·have hx:(⟨s.toList.tail.toArray⟩:ByteArray)=s.extract (1:Int).toNat ((s.size:Int)).toNat:=qER (by rw [qSg];rw [Go.Lib.toList_data])
   have hc:qBD s=(2,0,s.extract (1:Int).toNat ((s.size:Int)).toNat):=by unfold qBD;rw [if_pos (by rw [hd,h39]),hx]
   have hz:(s.extract (1:Int).toNat ((s.size:Int)).toNat).size≤140737488351232:=by rw [←hx,qCe];simp only [List.length_tail];rw [qAQ];omega
   have hvt:(qBx 2 0 (s.extract (1:Int).toNat ((s.size:Int)).toNat)).toList=s.toList:=by
    rw [←hx,Go.Lib.toList_data]
    show ((⟨#[39]⟩:ByteArray)++_).data.toList=_
    rw [qC2,hcr,h39]
    rfl
   have hv:qh s=if okV 2 0 (s.extract (1:Int).toNat ((s.size:Int)).toNat)=true then (2,0,s.extract (1:Int).toNat ((s.size:Int)).toNat,true) else (0,0,⟨#[]⟩,false):=by
    unfold qh
    rw [hc]
    simp only [hvt,and_true]
   rw [hv]
   have e39:(some c==some 39)=true:=by rw [h39];rfl
   obtain ⟨n1,h1⟩:=qAA 2 0 (s.extract (1:Int).toNat ((s.size:Int)).toNat) hz
   refine ⟨n1+1,fun n hn=>?_⟩
   obtain ⟨m,rfl,hm⟩:=up1 hn
   have h1:=h1 m (by omega)
   dsimp only at h1
   simp only [qAE,qAx,qC,qE,qG,qH,qJ,qK,Option.bind_some,qF,qM,qN,h1]
   simp only [qC,qE,qG,qH,qJ,qK,Option.bind_some,qF,qM,qN,te,b0,hg,k39,e39]
   cases ho:okV 2 0 (s.extract (1:Int).toNat ((s.size:Int)).toNat)<;>simp [s1]
  ·have n39:¬s.toList.head?=some 39:=by rw [hd];simpa using h39
   have e39:(some c==some 39)=false:=by simpa using h39
   by_cases hT:s.toList= [84,82,85,69]
   ·have hF:¬s.toList= [70,65,76,83,69]:=by rw [hT];decide
    have hc:qBD s=(3,1,em):=by unfold qBD;rw [if_neg n39,if_neg hF,if_pos hT]
    have ho:okV 3 1 em=true:=by simp [okV,em,q9]
    have hv:qh s=(3,1,⟨#[]⟩,true):=by
     unfold qh
     rw [hc,if_pos ⟨ho,by rw [hT];exact tT⟩]
     rfl
    rw [hv]
    have bT:(s.toList== [84,82,85,69])=true:=by simpa using hT
    obtain ⟨n1,h1⟩:=qAA 3 1 ⟨#[]⟩ (by decide)
    refine ⟨n1+1,fun n hn=>?_⟩
    obtain ⟨m,rfl,hm⟩:=up1 hn
    have h1:=h1 m (by omega)
    dsimp only at h1
    simp only [qAE,qAx,qC,qE,qG,qH,qJ,qK,Option.bind_some,qF,qM,qN,h1]
    dsimp only [em] at ho
    simp only [qC,qE,qG,qH,qJ,qK,Option.bind_some,qF,qM,qN,te,b0,hg,k39,e39,tT,bT,ho]
    simp
   ·have bT:(s.toList== [84,82,85,69])=false:=by simpa using hT
    by_cases hF:s.toList= [70,65,76,83,69]
    ·have hc:qBD s=(3,0,em):=by unfold qBD;rw [if_neg n39,if_pos hF]
     have ho:okV 3 0 em=true:=by simp [okV,em,q9]
     have hv:qh s=(3,0,⟨#[]⟩,true):=by
      unfold qh
      rw [hc,if_pos ⟨ho,by rw [hF];exact tF⟩]
      rfl
     rw [hv]
     have bF:(s.toList== [70,65,76,83,69])=true:=by simpa using hF
     obtain ⟨n1,h1⟩:=qAA 3 0 ⟨#[]⟩ (by decide)
     refine ⟨n1+1,fun n hn=>?_⟩
     obtain ⟨m,rfl,hm⟩:=up1 hn
     have h1:=h1 m (by omega)
     dsimp only at h1
     simp only [qAE,qAx,qC,qE,qG,qH,qJ,qK,Option.bind_some,qF,qM,qN,h1]
     dsimp only [em] at ho
     simp only [qC,qE,qG,qH,qJ,qK,Option.bind_some,qF,qM,qN,te,b0,hg,k39,e39,tT,bT,tF,bF,ho]
     simp
    ·have bF:(s.toList== [70,65,76,83,69])=false:=by simpa using hF
     by_cases h35:c=35
     ·have n35:s.toList.head?=some 35:=by rw [hd,h35]
      have e35:(some c==some 35)=true:=by rw [h35];rfl
      have hc:qBD s=(if qD0 s=0 then (0,0,em) else (4,qD0 s,em)):=by unfold qBD;rw [if_neg n39,if_neg hF,if_neg hT,if_pos n35]
      have hin:=qRp s
      have ho:okV 4 (qD0 s) (⟨#[]⟩:ByteArray)=!(qD0 s==0):=by
       by_cases hz:qD0 s=0
       ·simp [okV,q9,hz]
       ·have hr:1≤qD0 s∧qD0 s≤5:=by omega
        simp [okV,q9,hr,hz]
      have hv:qh s=if qD0 s=0 then (0,0,⟨#[]⟩,false) else (4,qD0 s,⟨#[]⟩,true):=by
       unfold qh
       rw [hc]
       by_cases hz:qD0 s=0
       ·simp only [if_pos hz]
        rw [if_neg (fun h=>h0 (by rw [←h.2,qMU];exact te))]
       ·simp only [if_neg hz]
        have ho':okV 4 (qD0 s) em=true:=by show okV 4 (qD0 s) ⟨#[]⟩=true;rw [ho];simpa using hz
        rw [if_pos ⟨ho',by show (qf (qD0 s)).toList=s.toList;rw [qRq hz]⟩]
        rfl
      rw [hv]
      obtain ⟨n1,h1⟩:=qAA 4 (qD0 s) ⟨#[]⟩ (by decide)
      obtain ⟨n3,h3⟩:=qFV (F:=qBK) (f:=qf) (lo:=0) (by decide) qGD
      refine ⟨n1+n3+10,fun n hn=>?_⟩
      obtain ⟨m,rfl,hm⟩:=up1 hn
      have h1:=h1 m (by omega)
      dsimp only at h1
      obtain ⟨_,_,lp⟩:=qLD m s 0 0 ⟨#[]⟩ (h3 m (by omega)) 5 1 0 m (by decide) (by decide) (by omega)
      rw [qRs] at lp
      simp only [qAE,qAx,qC,qE,qG,qH,qJ,qK,Option.bind_some,qF,qM,qN,te,b0,hg,k39,e39,tT,bT,tF,bF,k35,e35,lp,h1,ho]
      by_cases hz:qD0 s=0<;>simp [hz]
     ·have n35:¬s.toList.head?=some 35:=by rw [hd];simpa using h35
      have e35:(some c==some 35)=false:=by simpa using h35
      rw [qQ7 n39 hF hT n35 h0,qQ8 s hcr]
      dsimp only [em]
      by_cases h45:c=45
      ·have e45:(some c==some 45)=true:=by rw [h45];rfl
       have g16:∀{q:List UInt8},(l1I q 16).2=true→(0≤(l1I q 16).1∧(l1I q 16).1≤10000000000000000):=fun {q} hq=>by
        have p16:(10:Nat)^16=10000000000000000:=by decide
        obtain ⟨a1,a2,a3,a4⟩:=qNy hq
        rw [a3]
        simp only [qFR,Bool.and_eq_true] at a2
        have:=qPS q 0 0 a2.1.2 (by decide)
        have h2:(10:Nat)^(0+q.length)≤10^16:=Nat.pow_le_pow_right (by decide) (by omega)
        omega
       have hl:=qDj (s.extract (1:Int).toNat ((s.size:Int)).toNat) 16 (by decide)
       rw [qSg] at hl
       have hrange:= @g16 s.toList.tail
       generalize l1I s.toList.tail 16=q at*
       obtain ⟨x,ok⟩:=q
       have w1:ok=true→IntKind.i64.wrap (0-x)= -x:=fun h=>by
        have:=hrange h
        dsimp only at this
        rw [Int.zero_sub];exact qa (by omega)
       obtain ⟨n1,h1⟩:=hl
       obtain ⟨n2,h2⟩:=qAA 1 (-x) ⟨#[]⟩ (by decide)
       refine ⟨n1+n2+1,fun n hn=>?_⟩
       obtain ⟨m,rfl,hm⟩:=up1 hn
       have h1:=h1 m (by omega)
       dsimp only at h1
       have h2:=h2 m (by omega)
       dsimp only at h2
       simp only [qAE,qAx,qC,qE,qG,qH,qJ,qK,Option.bind_some,qF,qM,qN,h1,h2]
       simp only [qC,qE,qG,qH,qJ,qK,Option.bind_some,qF,qM,qN,te,b0,hg,k39,e39,tT,bT,tF,bF,k35,e35,k45,e45,h45,if_true]
       cases ok with
       |false=>simp [s1]
       |true=>
        simp only [qC,qE,qG,qH,qJ,qK,Option.bind_some,qF,qM,qN,w1 rfl,h2]
        by_cases hx:x=0
        ·simp [s1,hx]
        ·cases ho:okV 1 (-x) (⟨#[]⟩:ByteArray)<;>simp [s1,hx,ho]
      ·have e45:(some c==some 45)=false:=by simpa using h45
       have hl:=qDj s 16 (by decide)
       generalize l1I s.toList 16=q at*
       obtain ⟨x,ok⟩:=q
       obtain ⟨n1,h1⟩:=hl
       obtain ⟨n2,h2⟩:=qAA 1 x ⟨#[]⟩ (by decide)
       refine ⟨n1+n2+1,fun n hn=>?_⟩
       obtain ⟨m,rfl,hm⟩:=up1 hn
       have h1:=h1 m (by omega)
       dsimp only at h1
       have h2:=h2 m (by omega)
       dsimp only at h2
       simp only [qAE,qAx,qC,qE,qG,qH,qJ,qK,Option.bind_some,qF,qM,qN,h1,h2]
       simp only [qC,qE,qG,qH,qJ,qK,Option.bind_some,qF,qM,qN,te,b0,hg,k39,e39,tT,bT,tF,bF,k35,e35,k45,e45,if_neg h45]
       cases ok with
       |false=>simp
       |true=>cases ho:okV 1 x (⟨#[]⟩:ByteArray)<;>simp [ho]
def rcK (s:ByteArray):Nat→Int→Int
 |0,_=>0
 |k+1,i=>if (qC6 i).toList=s.toList then i else rcK s k (i+1)
def qEn (s:ByteArray):Int:=rcK s 52 1
theorem qRP (s:ByteArray):∀(k:Nat) (i:Int),1≤rcK s k i→(qC6 (rcK s k i)).toList=s.toList
 |0,i,h=>by simp [rcK] at h
 |k+1,i,h=>by
  simp only [rcK] at h⊢
  by_cases e:(qC6 i).toList=s.toList
  ·rw [if_pos e];exact e
  ·rw [if_neg e] at h⊢;exact qRP s k (i+1) h
def qHZ (c:UInt8):Bool:=decide (65≤c.toNat)&&decide (c.toNat≤90)
def qV (l:List UInt8):List UInt8:=if l.head?=some 36 then l.tail else l
def qQ (l:List UInt8):List UInt8:=l.takeWhile qHZ
def qj (l:List UInt8):List UInt8:=l.dropWhile qHZ
def qAw (s:ByteArray):Int×Int×Bool×Bool×Bool:=
 if (l1I (qV (qj (qV s.toList))) 2).2=true∧qA5 (qEn ⟨(qQ (qV s.toList)).toArray⟩) (l1I (qV (qj (qV s.toList))) 2).1=true then
  (qEn ⟨(qQ (qV s.toList)).toArray⟩,(l1I (qV (qj (qV s.toList))) 2).1,s.toList.head?==some 36,(qj (qV s.toList)).head?==some 36,true) else (0,0,false,false,false)
theorem qKi {R:Type} {B:ByteArray×Int→Tr ((ByteArray×Int)⊕(Int⊕Unit))} {s:ByteArray} (hs:∀i:Int,1≤i∧i≤52→(B (s,i)).run=some (if (qC6 i).toList=s.toList then .inr (.inl i) else .inl (s,i+1))) (he:(B (s,53)).run=some (.inr (.inr ()))):
  ∀(k:Nat) (i:Int) (M:Nat),1≤i→i+k=53→k+1≤M→zC B M (s,i)=some (if rcK s k i=0 then .inr () else .inl (rcK s k i))
 |k,i,0,h1,h2,h3=>by omega
 |0,i,M+1,h1,h2,h3=>by
  have:i=53:=by omega
  subst this
  rw [qP he]
  rfl
 |k+1,i,M+1,h1,h2,h3=>by
  have h:=hs i ⟨h1,by omega⟩
  by_cases e:(qC6 i).toList=s.toList
  ·rw [if_pos e] at h
   rw [qP h]
   simp only [rcK,if_pos e]
   rw [if_neg (by omega)]
  ·rw [if_neg e] at h
   rw [qX h]
   simp only [rcK,if_neg e]
   exact qKi (R:=R) hs he k (i+1) M (by omega) (by omega) (by omega)
theorem qQm {F:Nat→Int→Option ByteArray} (h:∀i,Ev (F · i) (qC6 i)):∃n0,∀n,n0≤n→∀i,1≤i∧i≤52→F n i=some (qC6 i):=by
 obtain ⟨n0,h1⟩:=qBI (F:=fun (i:Nat) n=>F n (i:Int)) (f:=fun i=>qC6 (i:Int)) (List.range 53) (fun i _=>h i)
 refine ⟨n0,fun n hn i hi=>?_⟩
 have:=h1 n hn i.toNat (by rw [List.mem_range];omega)
 rwa [Int.toNat_of_nonneg (by omega)] at this
theorem qM8 (s:ByteArray):Ev (qB7 · s) (qEn s):=by
 obtain ⟨n0,h⟩:=qQm qIT
 refine ⟨n0+60,fun n hn=>?_⟩
 obtain ⟨m,rfl,hm⟩:=up1 hn
 have hc:=h m (by omega)
 have lp:=qKi (R:=Unit) (B:=qCL m) (s:=s) (fun i hi=>by
  have g:=hc i hi
  have w1:IntKind.i64.wrap (i+1)=i+1:=qa (by omega)
  simp only [qCL,qC,qE,qG,qH,qJ,qK,Option.bind_some,qF,qM,qN,g,w1]
  rw [if_pos (decide_eq_true hi.2)]
  by_cases e:(qC6 i).toList=s.toList<;>simp [e]) (by simp [qCL,qC,qE,qG,qH,qJ,qK,Option.bind_some,qF,qM,qN]) 52 1 m (by decide) (by decide) (by omega)
 simp only [qB7,qFi,qC,qE,qG,qH,qJ,qK,Option.bind_some,qF,qM,qN,lp]
 show _=some (rcK s 52 1)
 by_cases e:rcK s 52 1=0
 ·rw [if_pos e,e];rfl
 ·rw [if_neg e];rfl
theorem qM9 (s:ByteArray):Ev (qEL · s) (qEn s):=by
 obtain ⟨n0,h⟩:=qQm qIS
 refine ⟨n0+60,fun n hn=>?_⟩
 obtain ⟨m,rfl,hm⟩:=up1 hn
 have hc:=h m (by omega)
 have lp:=qKi (R:=Unit) (B:=qCP m) (s:=s) (fun i hi=>by
  have g:=hc i hi
  have w1:IntKind.i64.wrap (i+1)=i+1:=qa (by omega)
  simp only [qCP,qC,qE,qG,qH,qJ,qK,Option.bind_some,qF,qM,qN,g,w1]
  rw [if_pos (decide_eq_true hi.2)]
  by_cases e:(qC6 i).toList=s.toList<;>simp [e]) (by simp [qCP,qC,qE,qG,qH,qJ,qK,Option.bind_some,qF,qM,qN]) 52 1 m (by decide) (by decide) (by omega)
 simp only [qEL,qFz,qC,qE,qG,qH,qJ,qK,Option.bind_some,qF,qM,qN,lp]
 show _=some (rcK s 52 1)
 by_cases e:rcK s 52 1=0
 ·rw [if_pos e,e];rfl
 ·rw [if_neg e];rfl
theorem qBp (b:ByteArray):b.size=b.toList.length:=(qAQ b).symm
theorem qPt (b:ByteArray) (k:Nat):(b.extract 0 k).toList=b.toList.take k:=by
 rw [Go.Lib.toList_data,ByteArray.data_extract,Array.toList_extract,Go.Lib.toList_data]
 show (b.data.toList.drop 0).take (k-0)=_
 simp
theorem qE6 (b:ByteArray) (k:Nat):(b.extract k b.size).toList=b.toList.drop k:=by
 rw [Go.Lib.toList_data,ByteArray.data_extract,Array.toList_extract,Go.Lib.toList_data]
 have hl:b.data.toList.length=b.size:=by rw [←qCe]
 show (b.data.toList.drop k).take (b.size-k)=_
 rw [List.take_of_length_le (by rw [List.length_drop,hl];exact Nat.le_refl _)]
theorem qLE (l:List UInt8):l.take (qQ l).length=qQ l:=by
 have h:=List.takeWhile_append_dropWhile (p:=qHZ) (l:=l)
 have h2:(List.takeWhile qHZ l++List.dropWhile qHZ l).take (List.takeWhile qHZ l).length=List.takeWhile qHZ l:=List.take_left ..
 rw [h] at h2
 exact h2
theorem qHz (l:List UInt8):l.drop (qQ l).length=qj l:=by
 have h:=List.takeWhile_append_dropWhile (p:=qHZ) (l:=l)
 have h2:(List.takeWhile qHZ l++List.dropWhile qHZ l).drop (List.takeWhile qHZ l).length=List.dropWhile qHZ l:=List.drop_left ..
 rw [h] at h2
 exact h2
theorem qMV (l:List UInt8):(qQ l).length≤l.length:=by
 have h:=congrArg List.length (List.takeWhile_append_dropWhile (p:=qHZ) (l:=l))
 rw [List.length_append] at h
 unfold qQ
 omega
theorem qLF (n:Nat) (b:ByteArray) (fc:Bool) (hb:b.size≤1048576):∀(r pre:List UInt8) (M:Nat),b.toList=pre++r→r.length+1≤M→
  zC (qAI n) M (b,(pre.length:Int),0,0,false,false,0,0,fc,false)=some (b,((pre.length+(qQ r).length:Nat):Int),0,0,false,false,0,0,fc,false)
 |r,pre,0,h1,h2=>by omega
 | [],pre,M+1,h1,h2=>by
  have hi:¬(pre.length:Int)<b.size:=by rw [qBp,h1];simp
  rw [qP (r:=(b,(pre.length:Int),0,0,false,false,0,0,fc,false)) (by simp [qAI,qC,qE,qG,qH,qJ,qK,Option.bind_some,qF,qM,qN,hi])]
  simp [qQ]
 |c::r,pre,M+1,h1,h2=>by
  have hl:b.size=pre.length+(r.length+1):=by rw [qBp,h1];simp
  have hi:(pre.length:Int)<b.size:=by omega
  have hg:b.toList[pre.length]?=some c:=by rw [h1];simp
  have w1:IntKind.i64.wrap ((pre.length:Int)+1)=(pre.length:Int)+1:=qa (by omega)
  by_cases hc:qHZ c=true
  ·have hc':65≤c.toNat∧c.toNat≤90:=by simpa [qHZ] using hc
   have c1:(c.toNat:Int)≥65:=by omega
   have c2:(c.toNat:Int)≤90:=by omega
   have e0:((pre++ [c]).length:Int)=(pre.length:Int)+1:=by simp
   rw [qX (v':=(b,((pre++ [c]).length:Int),0,0,false,false,0,0,fc,false)) (by
    rw [e0]
    simp [qAI,qC,qE,qG,qH,qJ,qK,Option.bind_some,qF,qM,qN,hi,hg,c1,c2,w1])]
   rw [qLF n b fc hb r (pre++ [c]) M (by rw [h1];simp) (by simp at h2;omega)]
   simp [qQ,hc]
   omega
  ·rw [qP (r:=(b,(pre.length:Int),0,0,false,false,0,0,fc,false)) (by
    by_cases c1:(c.toNat:Int)≥65
    ·have c2:¬(c.toNat:Int)≤90:=fun h=>hc (by simp [qHZ];omega)
     simp [qAI,qC,qE,qG,qH,qJ,qK,Option.bind_some,qF,qM,qN,hi,hg,c1,c2]
    ·simp [qAI,qC,qE,qG,qH,qJ,qK,Option.bind_some,qF,qM,qN,hi,hg,c1])]
   simp [qQ,hc]
theorem qLG (s:ByteArray) (hb:s.size≤1048576):Ev (qAl · s) (qAw s):=by
 have main:∀(b:ByteArray) (fc:Bool),b.size≤1048576→b.toList=qV s.toList→fc=(s.toList.head?==some 36)→
   ∃n0,∀m,n0≤m→zC (qAI m) m (b,0,0,0,false,false,0,0,fc,false)=some (b,((qQ (qV s.toList)).length:Int),0,0,false,false,0,0,fc,false)∧
    qB7 m (b.extract 0 (qQ (qV s.toList)).length)=some (qEn ⟨(qQ (qV s.toList)).toArray⟩)∧
    qr m (b.extract (qQ (qV s.toList)).length b.size) 2=some (l1I (qj (qV s.toList)) 2)∧
    qr m ((b.extract (qQ (qV s.toList)).length b.size).extract 1 (b.extract (qQ (qV s.toList)).length b.size).size) 2=some (l1I (qj (qV s.toList)).tail 2):=fun b fc hb hl _=>by
  have x1:b.extract 0 (qQ (qV s.toList)).length=⟨(qQ (qV s.toList)).toArray⟩:=qER (by rw [qPt,hl,qLE,qBr (qQ (qV s.toList))])
  have x2:(b.extract (qQ (qV s.toList)).length b.size).toList=qj (qV s.toList):=by rw [qE6,hl,qHz]
  have x3:((b.extract (qQ (qV s.toList)).length b.size).extract 1 (b.extract (qQ (qV s.toList)).length b.size).size).toList=(qj (qV s.toList)).tail:=by rw [qE6,x2,List.drop_one]
  obtain ⟨n1,h1⟩:=qM8 (b.extract 0 (qQ (qV s.toList)).length)
  obtain ⟨n2,h2⟩:=qDj (b.extract (qQ (qV s.toList)).length b.size) 2 (by decide)
  obtain ⟨n3,h3⟩:=qDj ((b.extract (qQ (qV s.toList)).length b.size).extract 1 (b.extract (qQ (qV s.toList)).length b.size).size) 2 (by decide)
  rw [x1] at h1
  rw [x2] at h2
  rw [x3] at h3
  refine ⟨n1+n2+n3+b.size+2,fun m hm=>⟨?_,by rw [x1];exact h1 m (by omega),h2 m (by omega),h3 m (by omega)⟩⟩
  have:=qLF m b fc hb b.toList [] m rfl (by rw [←qBp];omega)
  simp only [List.length_nil,Int.natCast_zero,Nat.zero_add] at this
  rw [this,hl]
 have z:∀(b:ByteArray),b.toList=qV s.toList→((qQ (qV s.toList)).length:Int)≤b.size:=fun b hl=>by
  have:=qMV (qV s.toList)
  rw [←hl] at this⊢
  rw [qBp]
  omega
 have k36:∀c:UInt8,((c.toNat:Int)==36)=(some c==some 36):=fun c=>by
  have h:=qRr c 36 (by decide)
  have u:UInt8.ofNat 36=36:=rfl
  rw [u] at h
  exact h
 unfold qAw
 have part:∀(b:ByteArray) (fc:Bool),b.size≤1048576→b.toList=qV s.toList→fc=(s.toList.head?==some 36)→
   ((fc=true∧b=s.extract 1 s.size∧∃c r,s.toList=c::r∧c=36)∨(fc=false∧b=s∧∀c r,s.toList=c::r→(some c==some (36:UInt8))=false))→
   Ev (qAl · s) (if (l1I (qV (qj (qV s.toList))) 2).2=true∧qA5 (qEn ⟨(qQ (qV s.toList)).toArray⟩) (l1I (qV (qj (qV s.toList))) 2).1=true then
    (qEn ⟨(qQ (qV s.toList)).toArray⟩,(l1I (qV (qj (qV s.toList))) 2).1,s.toList.head?==some 36,(qj (qV s.toList)).head?==some 36,true) else (0,0,false,false,false)):=fun b fc hb2 hl hfc hcase=>by
  obtain ⟨n0,hm0⟩:=main b fc hb2 hl hfc
  have hz:=z b hl
  obtain ⟨n2,h2⟩:=qCa (qEn ⟨(qQ (qV s.toList)).toArray⟩) (l1I (qV (qj (qV s.toList))) 2).1
  have x2:(b.extract (qQ (qV s.toList)).length b.size).toList=qj (qV s.toList):=by rw [qE6,hl,qHz]
  rw [←hfc]
  refine ⟨n0+n2+1,fun n hn=>?_⟩
  obtain ⟨m,rfl,hm⟩:=up1 hn
  obtain ⟨g1,g2,g3,g4⟩:=hm0 m (by omega)
  have h2:=h2 m (by omega)
  dsimp only at h2
  have e1:(1:Int).toNat=1:=rfl
  have e0:(0:Int).toNat=0:=rfl
  have start:∀q,(qB4 m s).run=q→qAl (m+1) s=q:=fun q h=>h
  apply start
  rcases hcase with ⟨rfl,rfl,c,r,hcr,rfl⟩|⟨rfl,rfl,hno⟩
  ·have hsz:(s.size:Int)>0:=by rw [qBp,hcr];simp<;>omega
   have hs1:(1:Int)≤s.size:=by omega
   have hg:s.toList[0]?=some 36:=by rw [hcr];rfl
   have bs:(s.extract 1 s.size).size=s.size-1:=by rw [qBp,qE6,List.length_drop,←qBp]
   have zn:(qQ (qV s.toList)).length≤s.size-1:=by rw [←bs];omega
   have sn:0<s.size:=by omega
   have c36:((((36:UInt8)).toNat:Int)==36)=true:=rfl
   simp only [qB4,qC,qE,qG,qH,qJ,qK,Option.bind_some,qF,qM,qN,Int.toNat_natCast,e0,e1,hg,c36,g1,g2]
   cases hq:qj (qV s.toList) with
   |nil=>
    have y0:((s.extract 1 s.size).extract (qQ (qV s.toList)).length (s.extract 1 s.size).size).size=0:=by rw [qBp,x2,hq];rfl
    have hoff:qV (qj (qV s.toList))= []:=by rw [hq];rfl
    rw [hoff] at h2
    rw [hq] at g3
    simp only [y0,g3,h2,qC,qE,qG,qH,qJ,qK,Option.bind_some,qF,qM,qN]
    have hoff':qV ([]:List UInt8)= []:=rfl
    rw [hoff']
    generalize l1I ([]:List UInt8) 2=q at*
    obtain ⟨x,ok⟩:=q
    cases ok<;>cases hk:qA5 (qEn ⟨(qQ (qV s.toList)).toArray⟩) x<;>simp [hz,hsz,hs1,zn,sn]
   |cons d w=>
    have y0:(((s.extract 1 s.size).extract (qQ (qV s.toList)).length (s.extract 1 s.size).size).size:Int)>0:=by rw [qBp,x2,hq];simp<;>omega
    have y1:(1:Int)≤((s.extract 1 s.size).extract (qQ (qV s.toList)).length (s.extract 1 s.size).size).size:=by omega
    have ys:((s.extract 1 s.size).extract (qQ (qV s.toList)).length (s.extract 1 s.size).size).size=(s.extract 1 s.size).size-(qQ (qV s.toList)).length:=by rw [qBp,qE6,List.length_drop,←qBp]
    have yn:(qQ (qV s.toList)).length<(s.size-1):=by rw [←bs];omega
    have yn2:1≤(s.size-1)-(qQ (qV s.toList)).length:=by omega
    have yn3:0<(s.size-1)-(qQ (qV s.toList)).length:=by omega
    have yn4:(1:Int)≤(((s.size-1)-(qQ (qV s.toList)).length:Nat):Int):=by omega
    have yg:((s.extract 1 s.size).extract (qQ (qV s.toList)).length (s.extract 1 s.size).size).toList[0]?=some d:=by rw [x2,hq];rfl
    rw [hq] at g3 g4 h2
    simp only [yg,k36 d,qC,qE,qG,qH,qJ,qK,Option.bind_some,qF,qM,qN]
    by_cases hd:d=36
    ·have hoff:qV (d::w)=w:=by unfold qV;rw [if_pos (by rw [hd];rfl)];rfl
     rw [hoff] at h2⊢
     have e36:(some d==some (36:UInt8))=true:=by rw [hd];rfl
     simp only [List.tail_cons] at g4
     simp only [e36,g4,h2,List.head?_cons,qC,qE,qG,qH,qJ,qK,Option.bind_some,qF,qM,qN]
     generalize l1I w 2=q at*
     obtain ⟨x,ok⟩:=q
     cases ok<;>cases hk:qA5 (qEn ⟨(qQ (qV s.toList)).toArray⟩) x<;>simp [hz,hsz,hs1,y0,y1,zn,sn,yn,yn2,yn3,yn4]
    ·have hoff:qV (d::w)=d::w:=by unfold qV;rw [if_neg (by simpa using hd)]
     rw [hoff] at h2⊢
     have e36:(some d==some (36:UInt8))=false:=by simpa using hd
     simp only [e36,g3,h2,List.head?_cons,qC,qE,qG,qH,qJ,qK,Option.bind_some,qF,qM,qN]
     generalize l1I (d::w) 2=q at*
     obtain ⟨x,ok⟩:=q
     cases ok<;>cases hk:qA5 (qEn ⟨(qQ (qV s.toList)).toArray⟩) x<;>simp [hz,hsz,hs1,y0,y1,zn,sn,yn,yn2,yn3,yn4]
  ·by_cases hs0:(b.size:Int)>0
   ·obtain ⟨c,r,hcr⟩:∃c r,b.toList=c::r:=by
     cases hq:b.toList with
     |nil=>rw [qBp,hq] at hs0;simp at hs0
     |cons a l=>exact ⟨a,l,rfl⟩
    have hg:b.toList[0]?=some c:=by rw [hcr];rfl
    have hc:=hno c r hcr
    have hsz:(b.size:Int)>0:=hs0
    have hs1:(1:Int)≤b.size:=by omega
    have zn:(qQ (qV b.toList)).length≤b.size:=by omega
    have sn:0<b.size:=by omega
    simp only [qB4,qC,qE,qG,qH,qJ,qK,Option.bind_some,qF,qM,qN,Int.toNat_natCast,e0,e1,hg,k36 c,hc,g1,g2]
    cases hq:qj (qV b.toList) with
    |nil=>
     have y0:(b.extract (qQ (qV b.toList)).length b.size).size=0:=by rw [qBp,x2,hq];rfl
     have hoff:qV (qj (qV b.toList))= []:=by rw [hq];rfl
     rw [hoff] at h2
     rw [hq] at g3
     simp only [y0,g3,h2,qC,qE,qG,qH,qJ,qK,Option.bind_some,qF,qM,qN]
     have hoff':qV ([]:List UInt8)= []:=rfl
     rw [hoff']
     generalize l1I ([]:List UInt8) 2=q at*
     obtain ⟨x,ok⟩:=q
     cases ok<;>cases hk:qA5 (qEn ⟨(qQ (qV b.toList)).toArray⟩) x<;>simp [hz,hsz,hs1,zn,sn]
    |cons d w=>
     have y0:((b.extract (qQ (qV b.toList)).length b.size).size:Int)>0:=by rw [qBp,x2,hq];simp<;>omega
     have y1:(1:Int)≤(b.extract (qQ (qV b.toList)).length b.size).size:=by omega
     have ys:(b.extract (qQ (qV b.toList)).length b.size).size=b.size-(qQ (qV b.toList)).length:=by rw [qBp,qE6,List.length_drop,←qBp]
     have yn:(qQ (qV b.toList)).length<b.size:=by omega
     have yn2:1≤b.size-(qQ (qV b.toList)).length:=by omega
     have yn3:0<b.size-(qQ (qV b.toList)).length:=by omega
     have yn4:(1:Int)≤((b.size-(qQ (qV b.toList)).length:Nat):Int):=by omega
     have yg:(b.extract (qQ (qV b.toList)).length b.size).toList[0]?=some d:=by rw [x2,hq];rfl
     rw [hq] at g3 g4 h2
     simp only [yg,k36 d,qC,qE,qG,qH,qJ,qK,Option.bind_some,qF,qM,qN]
     by_cases hd:d=36
     ·have hoff:qV (d::w)=w:=by unfold qV;rw [if_pos (by rw [hd];rfl)];rfl
      rw [hoff] at h2⊢
      have e36:(some d==some (36:UInt8))=true:=by rw [hd];rfl
      simp only [List.tail_cons] at g4
      simp only [e36,g4,h2,List.head?_cons,qC,qE,qG,qH,qJ,qK,Option.bind_some,qF,qM,qN]
      generalize l1I w 2=q at*
      obtain ⟨x,ok⟩:=q
      cases ok<;>cases hk:qA5 (qEn ⟨(qQ (qV b.toList)).toArray⟩) x<;>simp [hz,hsz,hs1,y0,y1,zn,sn,yn,yn2,yn3,yn4]
     ·have hoff:qV (d::w)=d::w:=by unfold qV;rw [if_neg (by simpa using hd)]
      rw [hoff] at h2⊢
      have e36:(some d==some (36:UInt8))=false:=by simpa using hd
      simp only [e36,g3,h2,List.head?_cons,qC,qE,qG,qH,qJ,qK,Option.bind_some,qF,qM,qN]
      generalize l1I (d::w) 2=q at*
      obtain ⟨x,ok⟩:=q
      cases ok<;>cases hk:qA5 (qEn ⟨(qQ (qV b.toList)).toArray⟩) x<;>simp [hz,hsz,hs1,y0,y1,zn,sn,yn,yn2,yn3,yn4]
   ·have hsz:¬(b.size:Int)>0:=hs0
    have hs1:True:=trivial
    have zn:(qQ (qV b.toList)).length≤b.size:=by omega
    have sn:b.size=0:=by omega
    have lb:b.toList= []:=List.eq_nil_of_length_eq_zero (by rw [←qBp];omega)
    have hb0:qj (qV b.toList)= []:=by rw [lb];rfl
    have ln:qQ (qV b.toList)= []:=by rw [lb];rfl
    simp only [qB4,qC,qE,qG,qH,qJ,qK,Option.bind_some,qF,qM,qN,Int.toNat_natCast,e0,e1,g1,g2]
    cases hq:qj (qV b.toList) with
    |nil=>
     have y0:(b.extract (qQ (qV b.toList)).length b.size).size=0:=by rw [qBp,x2,hq];rfl
     have hoff:qV (qj (qV b.toList))= []:=by rw [hq];rfl
     rw [hoff] at h2
     rw [hq] at g3
     simp only [y0,g3,h2,qC,qE,qG,qH,qJ,qK,Option.bind_some,qF,qM,qN]
     have hoff':qV ([]:List UInt8)= []:=rfl
     rw [hoff']
     generalize l1I ([]:List UInt8) 2=q at*
     obtain ⟨x,ok⟩:=q
     cases ok<;>cases hk:qA5 (qEn ⟨(qQ (qV b.toList)).toArray⟩) x<;>simp [hz,hsz,hs1,zn,sn,ln]
    |cons d w=>rw [hb0] at hq;cases hq
 by_cases h36:s.toList.head?=some 36
 ·have ho:qV s.toList=s.toList.tail:=by unfold qV;rw [if_pos h36]
  have ht:(s.extract 1 s.size).toList=s.toList.tail:=by rw [qE6,List.drop_one]
  obtain ⟨c,r,hcr⟩:∃c r,s.toList=c::r:=by
   cases hq:s.toList with
   |nil=>rw [hq] at h36;cases h36
   |cons a l=>exact ⟨a,l,rfl⟩
  refine part (s.extract 1 s.size) true (by rw [qBp,ht,List.length_tail,←qBp];omega) (by rw [ht,ho]) (by rw [h36];rfl) (.inl ⟨rfl,rfl,c,r,hcr,?_⟩)
  rw [hcr] at h36
  simpa using h36
 ·have ho:qV s.toList=s.toList:=by unfold qV;rw [if_neg h36]
  refine part s false hb ho.symm (by symm;simpa using h36) (.inr ⟨rfl,rfl,fun c r hcr=>?_⟩)
  rw [hcr] at h36
  simpa using h36
def upS:ByteArray:=⟨#[65,66,67,68,69,70,71,72,73,74,75,76,77,78,79,80,81,82,83,84,85,86,87,88,89,90]⟩
theorem qSJ:∀i:Fin 256,(upS.data.toList.contains (UInt8.ofNat i.val))=(decide (65≤i.val)&&decide (i.val≤90)):=by decide+kernel
theorem qSh (c:UInt8):(upS.data.toList.contains c)=qHZ c:=by
 have h:=qSJ ⟨c.toNat,UInt8.toNat_lt c⟩
 have e:UInt8.ofNat c.toNat=c:=by simp
 simp only [e] at h
 exact h
theorem qRQ:(upS.data.toList.all fun b=>decide (b.toNat<128))=true:=by decide+kernel
theorem qPu (s:ByteArray):Ev (qBE · s ⟨#[65,66,67,68,69,70,71,72,73,74,75,76,77,78,79,80,81,82,83,84,85,86,87,88,89,90]⟩) ⟨(qj s.toList).toArray⟩:=by
 refine ⟨1,fun n hn=>?_⟩
 obtain ⟨m,rfl,hm⟩:=up1 hn
 show zQ s upS=_
 unfold zQ
 rw [if_pos ⟨by decide,qRQ⟩]
 unfold Lib.trimLeftS qj
 rw [Go.Lib.toList_data]
 have:(fun c=>upS.data.toList.contains c)=qHZ:=funext qSh
 rw [this]
theorem qPv (s:ByteArray):Ev (qAC · s ⟨#[36]⟩) (⟨(qV s.toList).toArray⟩,s.toList.head?==some 36):=by
 have h:=qFU s 36
 have es:(⟨s.toList.toArray⟩:ByteArray)=s:=qER (qBr s.toList)
 by_cases e:s.toList.head?=some 36
 ·rw [if_pos e] at h
  have:(s.toList.head?==some 36)=true:=by simpa using e
  unfold qV
  rw [if_pos e,this]
  exact h
 ·rw [if_neg e] at h
  have:(s.toList.head?==some 36)=false:=by simpa using e
  unfold qV
  rw [if_neg e,this,es]
  exact h
theorem qRt {r:Int} (h:1≤r∧r≤99):l1I (Lib.itoa r) 2=(r,true):=by
 have e:Lib.itoa r=Lib.decDigits r.toNat:=by unfold Lib.itoa;rw [if_neg (by omega)]
 obtain ⟨h1,h2,h3,_,_⟩:=qHY r.toNat
 have hl:(Lib.decDigits r.toNat).length≤2:=by
  rw [Lib.decDigits_length]
  exact qSD 2 r.toNat (by omega) (by
   have:(10:Nat)^2=100:=by decide
   omega)
 rw [e]
 unfold l1I
 rw [if_pos ⟨by omega,qOs _⟩,h2]
 congr 1
 omega
theorem qSi {l:List UInt8} (h:(l1I l 2).2=true):(l1I l 2).1=(qAc 0 l:Int)∧Lib.decDigits (qAc 0 l)=l:=by
 unfold l1I at h⊢
 split at h
 ·rename_i hc
  rw [if_pos hc]
  exact ⟨rfl,qL9 _ l rfl hc.2⟩
 ·cases h
theorem qRR (s:ByteArray):qAw s=if qA5 (qEn ⟨(qQ (qV s.toList)).toArray⟩) (qBj ⟨(qV (qj (qV s.toList))).toArray⟩)=true∧
  (qA8 (qEn ⟨(qQ (qV s.toList)).toArray⟩) (qBj ⟨(qV (qj (qV s.toList))).toArray⟩) (s.toList.head?==some 36) ((qj (qV s.toList)).head?==some 36)).toList=s.toList then
   (qEn ⟨(qQ (qV s.toList)).toArray⟩,qBj ⟨(qV (qj (qV s.toList))).toArray⟩,s.toList.head?==some 36,(qj (qV s.toList)).head?==some 36,true) else (0,0,false,false,false):=by
 have hoff:∀l:List UInt8,l=(if (l.head?==some 36)=true then [36] else [])++qV l:=fun l=>by
  unfold qV
  cases l with
  |nil=>rfl
  |cons c r=>
   by_cases e:c=36
   ·subst e;simp
   ·simp [e]
 have hsplit:qV s.toList=qQ (qV s.toList)++qj (qV s.toList):=(List.takeWhile_append_dropWhile (p:=qHZ) (l:=qV s.toList)).symm
 have hs:s.toList=(if (s.toList.head?==some 36)=true then [36] else [])++qQ (qV s.toList)++(if ((qj (qV s.toList)).head?==some 36)=true then [36] else [])++qV (qj (qV s.toList)):=by
  conv=>lhs;rw [hoff s.toList,hsplit,hoff (qj (qV s.toList))]
  simp only [List.append_assoc]
 unfold qAw
 generalize hL:qQ (qV s.toList)=L at*
 generalize hR:qV (qj (qV s.toList))=R at*
 generalize (s.toList.head?==some 36)=fc at*
 generalize ((qj (qV s.toList)).head?==some 36)=fr at*
 have col:∀r,qA5 (qEn ⟨L.toArray⟩) r=true→(qC6 (qEn ⟨L.toArray⟩)).data.toList=L:=fun r h=>by
  have:=qRP (⟨L.toArray⟩:ByteArray) 52 1 (qHX h).1.1
  rw [qBr L,Go.Lib.toList_data] at this
  exact this
 have pl:∀r,qA5 (qEn ⟨L.toArray⟩) r=true→(qA8 (qEn ⟨L.toArray⟩) r fc fr).toList=(if fc=true then [36] else [])++L++(if fr=true then [36] else [])++Lib.itoa r:=fun r h=>by
  rw [Go.Lib.toList_data]
  unfold qA8
  rw [if_pos h,col r h]
  simp [qDz]
 have tR:(⟨R.toArray⟩:ByteArray).toList=R:=qBr R
 by_cases hA:(l1I R 2).2=true∧qA5 (qEn ⟨L.toArray⟩) (l1I R 2).1=true
 ·obtain ⟨a1,a2⟩:=qSi hA.1
  have hr:=(qHX hA.2).2
  have hi:R=Lib.itoa (l1I R 2).1:=by
   rw [a1]
   unfold Lib.itoa
   rw [if_neg (by omega),Int.toNat_natCast,a2]
  have hp:qBj ⟨R.toArray⟩=(l1I R 2).1:=qMS (by rw [tR];exact hi) (by omega)
  rw [if_pos hA,hp,if_pos ⟨hA.2,by rw [pl _ hA.2,←hi];exact hs.symm⟩]
 ·rw [if_neg hA,if_neg]
  rintro ⟨h1,h2⟩
  rw [pl _ h1] at h2
  have h3:R=Lib.itoa (qBj ⟨R.toArray⟩):=by
   rw [hs] at h2
   exact (List.append_cancel_left h2).symm
  have h4:=qRt (qHX h1).2
  rw [←h3] at h4
  exact hA (by rw [h4];exact ⟨rfl,h1⟩)
theorem qLH (s:ByteArray) (hb:s.size≤1048576):Ev (qAf · s) (qAw s):=by
 rw [qRR]
 have hlen:=qMV (qV s.toList)
 have lo:(qV s.toList).length≤s.size:=by
  unfold qV
  rw [qBp]
  split
  ·rw [List.length_tail];omega
  ·exact Nat.le_refl _
 have l2:(qj (qV s.toList)).length+(qQ (qV s.toList)).length=(qV s.toList).length:=by
  have h:=congrArg List.length (List.takeWhile_append_dropWhile (p:=qHZ) (l:=qV s.toList))
  rw [List.length_append] at h
  unfold qj qQ
  omega
 have z1:(⟨(qV s.toList).toArray⟩:ByteArray).size=(qV s.toList).length:=by rw [qBp,qBr (qV s.toList)]
 have z2:(⟨(qj (qV s.toList)).toArray⟩:ByteArray).size=(qj (qV s.toList)).length:=by rw [qBp,qBr (qj (qV s.toList))]
 have w1:IntKind.i64.wrap (((qV s.toList).length:Int)-(qj (qV s.toList)).length)=((qQ (qV s.toList)).length:Int):=by rw [qa (by omega)];omega
 have x1:(⟨(qV s.toList).toArray⟩:ByteArray).extract 0 (qQ (qV s.toList)).length=⟨(qQ (qV s.toList)).toArray⟩:=qER (by rw [qPt,qBr (qV s.toList),qLE,qBr (qQ (qV s.toList))])
 have x2:(⟨(qV s.toList).toArray⟩:ByteArray).extract (qQ (qV s.toList)).length (qV s.toList).length=⟨(qj (qV s.toList)).toArray⟩:=qER (by rw [←z1,qE6,qBr (qV s.toList),qHz,qBr (qj (qV s.toList))])
 have lr:(⟨(qV (qj (qV s.toList))).toArray⟩:ByteArray).size≤281474976710656:=by
  rw [qBp,qBr (qV (qj (qV s.toList)))]
  have:(qV (qj (qV s.toList))).length≤(qj (qV s.toList)).length:=by
   generalize qj (qV s.toList)=q
   unfold qV
   split
   ·rw [List.length_tail];omega
   ·exact Nat.le_refl _
  omega
 obtain ⟨n1,h1⟩:=qPv s
 obtain ⟨n2,h2⟩:=qPu ⟨(qV s.toList).toArray⟩
 rw [qBr (qV s.toList)] at h2
 obtain ⟨n3,h3⟩:=qM9 ⟨(qQ (qV s.toList)).toArray⟩
 obtain ⟨n4,h4⟩:=qPv ⟨(qj (qV s.toList)).toArray⟩
 rw [qBr (qj (qV s.toList))] at h4
 generalize qV s.toList=A at*
 generalize qj A=Bq at*
 generalize qQ A=L at*
 generalize qV Bq=R at*
 generalize (s.toList.head?==some 36)=fc at*
 generalize (Bq.head?==some 36)=fr at*
 obtain ⟨n5,h5⟩:=qCb (qEn ⟨L.toArray⟩) (qBj ⟨R.toArray⟩)
 obtain ⟨n6,h6⟩:=qCT (qEn ⟨L.toArray⟩) (qBj ⟨R.toArray⟩) fc fr
 have e0:(0:Int).toNat=0:=rfl
 have c1:L.length≤A.length:=by omega
 rcases qMT ⟨R.toArray⟩ lr with ⟨n7,h7⟩|⟨n7,h7⟩
 all_goals
  refine ⟨n1+n2+n3+n4+n5+n6+n7+1,fun n hn=>?_⟩
  obtain ⟨m,rfl,hm⟩:=up1 hn
  have h1:=h1 m (by omega)
  have h2:=h2 m (by omega)
  have h3:=h3 m (by omega)
  have h4:=h4 m (by omega)
  have h5:=h5 m (by omega)
  have h6:=h6 m (by omega)
  have h7:=h7 m (by omega)
  dsimp only at h1 h2 h3 h4 h5 h6 h7
  simp only [qAf,qEg,qC,qE,qG,qH,qJ,qK,Option.bind_some,qF,qM,qN,h1,h2,z1,z2,w1,Int.toNat_natCast,e0,x1,x2,h3,h4,h5,h6,h7]
  cases hk:qA5 (qEn ⟨L.toArray⟩) (qBj ⟨R.toArray⟩) with
  |false=>simp [c1]
  |true=>by_cases e:(qA8 (qEn ⟨L.toArray⟩) (qBj ⟨R.toArray⟩) fc fr).toList=s.toList<;>simp [c1,e]
theorem qDJ (c r:Int) (fc fr:Bool):(qA8 c r fc fr).size≤30:=by
 unfold qA8
 split
 ·rename_i h
  have h1:=qL8 c
  have h2:=qKg (qHX h).2
  rw [qCe]
  cases fc<;>cases fr<;>simp<;>omega
 ·decide
abbrev Nd:=Int×Int×Int×Int×ByteArray×Int×Int×Bool×Bool×Int×Int×Bool×Bool×List Int
def qA3 (x:Int):List PV:= [.i .i64 x]
def qb (c:Nd):List PV:= [.i .i64 c.1,.i .i64 c.2.1,.i .i64 c.2.2.1,.i .i64 c.2.2.2.1,.s c.2.2.2.2.1,.i .i64 c.2.2.2.2.2.1,.i .i64 c.2.2.2.2.2.2.1,.b c.2.2.2.2.2.2.2.1,.b c.2.2.2.2.2.2.2.2.1,.i .i64 c.2.2.2.2.2.2.2.2.2.1,.i .i64 c.2.2.2.2.2.2.2.2.2.2.1,.b c.2.2.2.2.2.2.2.2.2.2.2.1,.b c.2.2.2.2.2.2.2.2.2.2.2.2.1,.ls ((c.2.2.2.2.2.2.2.2.2.2.2.2.2).map qA3)]
def kd (c:Nd):List Int:=c.2.2.2.2.2.2.2.2.2.2.2.2.2
def qHa (op n:Int):Bool:=if op=5 then decide (n=2∨n=3) else if 8≤op∧op≤10 then decide (n=1) else if 1≤op∧op≤7 then decide (1≤n∧n≤10) else false
theorem ten {op:Int} (h:1≤op∧op≤10):op=1∨op=2∨op=3∨op=4∨op=5∨op=6∨op=7∨op=8∨op=9∨op=10:=by omega
theorem qN2 (op n:Int):Ev (qEu · op n) (qHa op n):=by
 refine ⟨1,fun n hn=>?_⟩
 obtain ⟨m,rfl,hm⟩:=up1 hn
 simp only [qEu,qGn,qC,qE,qG,qH,qJ,qK,Option.bind_some,qF,qM,qN]
 by_cases h:1≤op∧op≤10
 ·rcases ten h with rfl|rfl|rfl|rfl|rfl|rfl|rfl|rfl|rfl|rfl
  all_goals
   first
   |(by_cases h2:n=2<;>simp [qHa,h2];done)
   |(by_cases h1:n≥1<;>simp [qHa,h1];done)
   |(by_cases h1:n=1<;>simp [qHa,h1];done)
   |(by_cases h2:n=2<;>by_cases h3:n=3<;>simp [qHa,h2,h3];done)
   |(simp [qHa];done)
 ·have e1:¬op=1:=by omega
  have e2:¬op=2:=by omega
  have e3:¬op=3:=by omega
  have e4:¬op=4:=by omega
  have e5:¬op=5:=by omega
  have e6:¬op=6:=by omega
  have e7:¬op=7:=by omega
  have e8:¬op=8:=by omega
  have e9:¬op=9:=by omega
  have e10:¬op=10:=by omega
  have g1:¬(8≤op∧op≤10):=by omega
  have g2:¬(1≤op∧op≤7):=by omega
  simp [qHa,e1,e2,e3,e4,e5,e6,e7,e8,e9,e10,g1,g2]
def zV (k x:Int) (s:ByteArray):Bool:=decide (k=0)&&(decide (x=0)&&(s.toList== []))
def zP (a b:Int) (f g:Bool):Bool:=decide (a=0)&&(decide (b=0)&&(!f&&!g))
def qEX (c:Nd):Bool:=
 if c.1=1 then decide (c.2.1=0)&&(zP c.2.2.2.2.2.1 c.2.2.2.2.2.2.1 c.2.2.2.2.2.2.2.1 c.2.2.2.2.2.2.2.2.1&&(zP c.2.2.2.2.2.2.2.2.2.1 c.2.2.2.2.2.2.2.2.2.2.1 c.2.2.2.2.2.2.2.2.2.2.2.1 c.2.2.2.2.2.2.2.2.2.2.2.2.1&&(decide ((kd c).length=0)&&(okV c.2.2.1 c.2.2.2.1 c.2.2.2.2.1&&(!decide (c.2.2.1=0)&&(!decide (c.2.2.1=1)||decide (c.2.2.2.1≥0))))))) else
 if c.1=2 then decide (c.2.1=0)&&(zV c.2.2.1 c.2.2.2.1 c.2.2.2.2.1&&(zP c.2.2.2.2.2.2.2.2.2.1 c.2.2.2.2.2.2.2.2.2.2.1 c.2.2.2.2.2.2.2.2.2.2.2.1 c.2.2.2.2.2.2.2.2.2.2.2.2.1&&(decide ((kd c).length=0)&&qA5 c.2.2.2.2.2.1 c.2.2.2.2.2.2.1))) else
 if c.1=3 then decide (c.2.1=0)&&(zV c.2.2.1 c.2.2.2.1 c.2.2.2.2.1&&(decide ((kd c).length=0)&&qFJ c.2.2.2.2.2.1 c.2.2.2.2.2.2.1 c.2.2.2.2.2.2.2.2.2.1 c.2.2.2.2.2.2.2.2.2.2.1)) else
 if c.1=4 then decide (c.2.1=0)&&(zV c.2.2.1 c.2.2.2.1 c.2.2.2.2.1&&(zP c.2.2.2.2.2.1 c.2.2.2.2.2.2.1 c.2.2.2.2.2.2.2.1 c.2.2.2.2.2.2.2.2.1&&(zP c.2.2.2.2.2.2.2.2.2.1 c.2.2.2.2.2.2.2.2.2.2.1 c.2.2.2.2.2.2.2.2.2.2.2.1 c.2.2.2.2.2.2.2.2.2.2.2.2.1&&decide ((kd c).length=1)))) else
 if c.1=5 then decide (1≤c.2.1∧c.2.1≤11)&&(zV c.2.2.1 c.2.2.2.1 c.2.2.2.2.1&&(zP c.2.2.2.2.2.1 c.2.2.2.2.2.2.1 c.2.2.2.2.2.2.2.1 c.2.2.2.2.2.2.2.2.1&&(zP c.2.2.2.2.2.2.2.2.2.1 c.2.2.2.2.2.2.2.2.2.2.1 c.2.2.2.2.2.2.2.2.2.2.2.1 c.2.2.2.2.2.2.2.2.2.2.2.2.1&&decide ((kd c).length=2)))) else
 if c.1=6 then qHa c.2.1 ((kd c).length:Int)&&(zV c.2.2.1 c.2.2.2.1 c.2.2.2.2.1&&(zP c.2.2.2.2.2.1 c.2.2.2.2.2.2.1 c.2.2.2.2.2.2.2.1 c.2.2.2.2.2.2.2.2.1&&zP c.2.2.2.2.2.2.2.2.2.1 c.2.2.2.2.2.2.2.2.2.2.1 c.2.2.2.2.2.2.2.2.2.2.2.1 c.2.2.2.2.2.2.2.2.2.2.2.2.1)) else false
theorem qSj (k x:Int) (s:ByteArray):((k==(0:Int))&&((x==(0:Int))&&((s.toList==(⟨#[]⟩:ByteArray).toList)&&true)))=zV k x s:=by
 rw [q9]
 unfold zV
 by_cases h:k=0<;>by_cases h2:x=0<;>simp [h,h2]
theorem qSk (k x:Int) (s:ByteArray):(((0:Int)==k)&&(((0:Int)==x)&&(((⟨#[]⟩:ByteArray).toList==s.toList)&&true)))=zV k x s:=by
 rw [←qSj]
 congr 1
 ·exact Bool.beq_comm
 ·congr 1
  ·exact Bool.beq_comm
  ·congr 1
   exact Bool.beq_comm
theorem qSl (a b:Int) (f g:Bool):((a==(0:Int))&&((b==(0:Int))&&((f==false)&&((g==false)&&true))))=zP a b f g:=by
 unfold zP
 by_cases h:a=0<;>by_cases h2:b=0<;>cases f<;>cases g<;>simp [h,h2]
theorem qSm (a b:Int) (f g:Bool):(((0:Int)==a)&&(((0:Int)==b)&&((false==f)&&((false==g)&&true))))=zP a b f g:=by
 rw [←qSl]
 congr 1
 ·exact Bool.beq_comm
 ·congr 1
  ·exact Bool.beq_comm
  ·cases f<;>cases g<;>rfl
theorem qHb (c:Nd) (hb:c.2.2.2.2.1.size≤140737488351232):Ev (qBs · c.1 c.2.1 c.2.2.1 c.2.2.2.1 c.2.2.2.2.1 c.2.2.2.2.2.1 c.2.2.2.2.2.2.1 c.2.2.2.2.2.2.2.1 c.2.2.2.2.2.2.2.2.1 c.2.2.2.2.2.2.2.2.2.1 c.2.2.2.2.2.2.2.2.2.2.1 c.2.2.2.2.2.2.2.2.2.2.2.1 c.2.2.2.2.2.2.2.2.2.2.2.2.1 ((c.2.2.2.2.2.2.2.2.2.2.2.2.2).map qA3)) (qEX c):=by
 obtain ⟨n1,h1⟩:=qAA c.2.2.1 c.2.2.2.1 c.2.2.2.2.1 hb
 obtain ⟨n2,h2⟩:=qCa c.2.2.2.2.2.1 c.2.2.2.2.2.2.1
 obtain ⟨n3,h3⟩:=qNx c.2.2.2.2.2.1 c.2.2.2.2.2.2.1 c.2.2.2.2.2.2.2.2.2.1 c.2.2.2.2.2.2.2.2.2.2.1
 obtain ⟨n4,h4⟩:=qB0 c.2.1 1 11
 obtain ⟨n5,h5⟩:=qN2 c.2.1 (((c.2.2.2.2.2.2.2.2.2.2.2.2.2).map qA3).length:Int)
 refine ⟨n1+n2+n3+n4+n5+1,fun n hn=>?_⟩
 obtain ⟨m,rfl,hm⟩:=up1 hn
 have h1:=h1 m (by omega)
 dsimp only at h1
 have h2:=h2 m (by omega)
 dsimp only at h2
 have h3:=h3 m (by omega)
 dsimp only at h3
 have h4:=h4 m (by omega)
 dsimp only at h4
 have h5:=h5 m (by omega)
 dsimp only at h5
 simp only [qBs,qFC,qC,qE,qG,qH,qJ,qK,Option.bind_some,qF,qM,qN,h1,h2,h3,h4,h5]
 have hk:((c.2.2.2.2.2.2.2.2.2.2.2.2.2).map qA3).length=(kd c).length:=by rw [List.length_map];rfl
 simp only [qSj,qSl,hk]
 unfold qEX
 by_cases k1:c.1=1
 ·simp only [k1,if_true,beq_self_eq_true]
  cases zP c.2.2.2.2.2.1 c.2.2.2.2.2.2.1 c.2.2.2.2.2.2.2.1 c.2.2.2.2.2.2.2.2.1<;>cases zP c.2.2.2.2.2.2.2.2.2.1 c.2.2.2.2.2.2.2.2.2.2.1 c.2.2.2.2.2.2.2.2.2.2.2.1 c.2.2.2.2.2.2.2.2.2.2.2.2.1<;>cases okV c.2.2.1 c.2.2.2.1 c.2.2.2.2.1<;>by_cases h0:c.2.1=0<;>by_cases h1:(kd c).length=0<;>by_cases h2:c.2.2.1=0<;>by_cases h3:c.2.2.1=1<;>simp [h0,h1,h2,h3]
 by_cases k2:c.1=2
 ·simp only [k2]
  cases zV c.2.2.1 c.2.2.2.1 c.2.2.2.2.1<;>cases zP c.2.2.2.2.2.2.2.2.2.1 c.2.2.2.2.2.2.2.2.2.2.1 c.2.2.2.2.2.2.2.2.2.2.2.1 c.2.2.2.2.2.2.2.2.2.2.2.2.1<;>cases qA5 c.2.2.2.2.2.1 c.2.2.2.2.2.2.1<;>by_cases h0:c.2.1=0<;>by_cases h1:(kd c).length=0<;>simp [h0,h1]
 by_cases k3:c.1=3
 ·simp only [k3]
  cases zV c.2.2.1 c.2.2.2.1 c.2.2.2.2.1<;>cases qFJ c.2.2.2.2.2.1 c.2.2.2.2.2.2.1 c.2.2.2.2.2.2.2.2.2.1 c.2.2.2.2.2.2.2.2.2.2.1<;>by_cases h0:c.2.1=0<;>by_cases h1:(kd c).length=0<;>simp [h0,h1]
 by_cases k4:c.1=4
 ·simp only [k4]
  cases zV c.2.2.1 c.2.2.2.1 c.2.2.2.2.1<;>cases zP c.2.2.2.2.2.1 c.2.2.2.2.2.2.1 c.2.2.2.2.2.2.2.1 c.2.2.2.2.2.2.2.2.1<;>cases zP c.2.2.2.2.2.2.2.2.2.1 c.2.2.2.2.2.2.2.2.2.2.1 c.2.2.2.2.2.2.2.2.2.2.2.1 c.2.2.2.2.2.2.2.2.2.2.2.2.1<;>by_cases h0:c.2.1=0<;>by_cases h1:(kd c).length=1<;>simp [h0,h1]<;>omega
 by_cases k5:c.1=5
 ·simp only [k5]
  cases zV c.2.2.1 c.2.2.2.1 c.2.2.2.2.1<;>cases zP c.2.2.2.2.2.1 c.2.2.2.2.2.2.1 c.2.2.2.2.2.2.2.1 c.2.2.2.2.2.2.2.2.1<;>cases zP c.2.2.2.2.2.2.2.2.2.1 c.2.2.2.2.2.2.2.2.2.2.1 c.2.2.2.2.2.2.2.2.2.2.2.1 c.2.2.2.2.2.2.2.2.2.2.2.2.1<;>by_cases h0:1≤c.2.1∧c.2.1≤11<;>by_cases h1:(kd c).length=2<;>simp [h0,h1]<;>omega
 by_cases k6:c.1=6
 ·simp only [k6]
  cases zV c.2.2.1 c.2.2.2.1 c.2.2.2.2.1<;>cases zP c.2.2.2.2.2.1 c.2.2.2.2.2.2.1 c.2.2.2.2.2.2.2.1 c.2.2.2.2.2.2.2.2.1<;>cases zP c.2.2.2.2.2.2.2.2.2.1 c.2.2.2.2.2.2.2.2.2.2.1 c.2.2.2.2.2.2.2.2.2.2.2.1 c.2.2.2.2.2.2.2.2.2.2.2.2.1<;>cases qHa c.2.1 ((kd c).length:Int)<;>simp
 simp [k1,k2,k3,k4,k5,k6]
theorem qN3 (c:Nd):Ev (qAJ · c.1 c.2.1 c.2.2.1 c.2.2.2.1 c.2.2.2.2.1 c.2.2.2.2.2.1 c.2.2.2.2.2.2.1 c.2.2.2.2.2.2.2.1 c.2.2.2.2.2.2.2.2.1 c.2.2.2.2.2.2.2.2.2.1 c.2.2.2.2.2.2.2.2.2.2.1 c.2.2.2.2.2.2.2.2.2.2.2.1 c.2.2.2.2.2.2.2.2.2.2.2.2.1 ((c.2.2.2.2.2.2.2.2.2.2.2.2.2).map qA3)) (if c.1=4 then decide (c.2.1=0)&&decide ((kd c).length=1) else if c.1=5 then decide (1≤c.2.1∧c.2.1≤11)&&decide ((kd c).length=2) else if c.1=6 then qHa c.2.1 ((kd c).length:Int) else decide (c.2.1=0)&&decide ((kd c).length=0)):=by
 obtain ⟨n1,h1⟩:=qAF c.2.1 1 11
 obtain ⟨n2,h2⟩:=qAF c.2.1 1 10
 obtain ⟨n3,h3⟩:=qAF (((c.2.2.2.2.2.2.2.2.2.2.2.2.2).map qA3).length:Int) 2 3
 obtain ⟨n4,h4⟩:=qAF (((c.2.2.2.2.2.2.2.2.2.2.2.2.2).map qA3).length:Int) 1 10
 refine ⟨n1+n2+n3+n4+1,fun n hn=>?_⟩
 obtain ⟨m,rfl,hm⟩:=up1 hn
 have h1:=h1 m (by omega)
 dsimp only at h1
 have h2:=h2 m (by omega)
 dsimp only at h2
 have h3:=h3 m (by omega)
 dsimp only at h3
 have h4:=h4 m (by omega)
 dsimp only at h4
 simp only [qAJ,qDd,qC,qE,qG,qH,qJ,qK,Option.bind_some,qF,qM,qN,h1,h2,h3,h4]
 have hk:((c.2.2.2.2.2.2.2.2.2.2.2.2.2).map qA3).length=(kd c).length:=by rw [List.length_map];rfl
 simp only [hk]
 by_cases k4:c.1=4
 ·simp only [k4]
  by_cases h0:c.2.1=0<;>by_cases h1:(kd c).length=1<;>simp [h0,h1]<;>omega
 by_cases k5:c.1=5
 ·simp only [k5]
  by_cases h0:1≤c.2.1∧c.2.1≤11<;>by_cases h1:(kd c).length=2<;>simp [h0,h1]<;>omega
 by_cases k6:c.1=6
 ·simp only [k6]
  unfold qHa
  by_cases h:1≤c.2.1∧c.2.1≤10
  ·by_cases h5:c.2.1=5
   ·have:(2≤((kd c).length:Int)∧((kd c).length:Int)≤3)↔(((kd c).length:Int)=2∨((kd c).length:Int)=3):=by omega
    simp [h5,this]
   ·by_cases h8:c.2.1≥8
    ·have g:8≤c.2.1∧c.2.1≤10:=by omega
     by_cases h1:((kd c).length:Int)=1<;>simp [h,h5,h8,g,h1]
    ·have g:¬(8≤c.2.1∧c.2.1≤10):=by omega
     have g':1≤c.2.1∧c.2.1≤7:=by omega
     simp [h,h5,h8,g,g']
  ·have h5:¬c.2.1=5:=by omega
   have g:¬(8≤c.2.1∧c.2.1≤10):=by omega
   have g':¬(1≤c.2.1∧c.2.1≤7):=by omega
   simp [h,h5,g,g']
 by_cases h0:c.2.1=0<;>by_cases h1:(kd c).length=0<;>simp [k4,k5,k6,h0,h1]<;>omega
theorem qMB (c:Nd):Ev (q8 · c.1 c.2.1 c.2.2.1 c.2.2.2.1 c.2.2.2.2.1 c.2.2.2.2.2.1 c.2.2.2.2.2.2.1 c.2.2.2.2.2.2.2.1 c.2.2.2.2.2.2.2.2.1 c.2.2.2.2.2.2.2.2.2.1 c.2.2.2.2.2.2.2.2.2.2.1 c.2.2.2.2.2.2.2.2.2.2.2.1 c.2.2.2.2.2.2.2.2.2.2.2.2.1 ((c.2.2.2.2.2.2.2.2.2.2.2.2.2).map qA3)) (if c.1=2 then qFJ c.2.2.2.2.2.1 c.2.2.2.2.2.2.1 c.2.2.2.2.2.1 c.2.2.2.2.2.2.1 else if c.1=3 then qFJ c.2.2.2.2.2.1 c.2.2.2.2.2.2.1 c.2.2.2.2.2.2.2.2.2.1 c.2.2.2.2.2.2.2.2.2.2.1 else true):=by
 have g:Ev (qCR · c.1 c.2.1 c.2.2.1 c.2.2.2.1 c.2.2.2.2.1 c.2.2.2.2.2.1 c.2.2.2.2.2.2.1 c.2.2.2.2.2.2.2.1 c.2.2.2.2.2.2.2.2.1 c.2.2.2.2.2.2.2.2.2.1 c.2.2.2.2.2.2.2.2.2.2.1 c.2.2.2.2.2.2.2.2.2.2.2.1 c.2.2.2.2.2.2.2.2.2.2.2.2.1 ((c.2.2.2.2.2.2.2.2.2.2.2.2.2).map qA3)) (if c.1=2 then (c.2.2.2.2.2.1,c.2.2.2.2.2.2.1,c.2.2.2.2.2.1,c.2.2.2.2.2.2.1) else (c.2.2.2.2.2.1,c.2.2.2.2.2.2.1,c.2.2.2.2.2.2.2.2.2.1,c.2.2.2.2.2.2.2.2.2.2.1)):=by
  refine ⟨1,fun n hn=>?_⟩
  obtain ⟨m,rfl,hm⟩:=up1 hn
  simp only [qCR,qEO,qC,qE,qG,qH,qJ,qK,Option.bind_some,qF,qM,qN]
  by_cases k2:c.1=2<;>simp [k2]
 obtain ⟨n1,h1⟩:=g
 obtain ⟨n2,h2⟩:=qJH c.2.2.2.2.2.1 c.2.2.2.2.2.2.1 c.2.2.2.2.2.1 c.2.2.2.2.2.2.1
 obtain ⟨n3,h3⟩:=qJH c.2.2.2.2.2.1 c.2.2.2.2.2.2.1 c.2.2.2.2.2.2.2.2.2.1 c.2.2.2.2.2.2.2.2.2.2.1
 refine ⟨n1+n2+n3+1,fun n hn=>?_⟩
 obtain ⟨m,rfl,hm⟩:=up1 hn
 have h1:=h1 m (by omega)
 dsimp only at h1
 have h2:=h2 m (by omega)
 dsimp only at h2
 have h3:=h3 m (by omega)
 dsimp only at h3
 simp only [q8,qC8,qC,qE,qG,qH,qJ,qK,Option.bind_some,qF,qM,qN,h1,h2,h3]
 by_cases k2:c.1=2
 ·simp [k2,h2]
 ·by_cases k3:c.1=3
  ·simp [k3,h3]
  ·simp [k2,k3]
theorem qRS (a b:Int):qFJ a b a b=qA5 a b:=by
 unfold qFJ
 cases qA5 a b<;>simp
theorem qOk (c:Nd) (hb:c.2.2.2.2.1.size≤140737488351232):Ev (qCz · c.1 c.2.1 c.2.2.1 c.2.2.2.1 c.2.2.2.2.1 c.2.2.2.2.2.1 c.2.2.2.2.2.2.1 c.2.2.2.2.2.2.2.1 c.2.2.2.2.2.2.2.2.1 c.2.2.2.2.2.2.2.2.2.1 c.2.2.2.2.2.2.2.2.2.2.1 c.2.2.2.2.2.2.2.2.2.2.2.1 c.2.2.2.2.2.2.2.2.2.2.2.2.1 ((c.2.2.2.2.2.2.2.2.2.2.2.2.2).map qA3)) (qEX c):=by
 obtain ⟨n1,g1⟩:=qFI c.2.2.1 c.2.2.2.1 c.2.2.2.2.1 hb
 obtain ⟨n2,g2⟩:=qMB c
 obtain ⟨n3,g3⟩:=qN3 c
 refine ⟨n1+n2+n3+1,fun n hn=>?_⟩
 obtain ⟨m,rfl,hm⟩:=up1 hn
 have g1:=g1 m (by omega)
 have g2:=g2 m (by omega)
 have g3:=g3 m (by omega)
 dsimp only at g1 g2 g3
 rw [qRS] at g2
 simp only [qCz,qDu,qC,qE,qG,qH,qJ,qK,Option.bind_some,qF,qM,qN,g1,g2,g3,qSk,qSm]
 simp only [beq_self_eq_true,Bool.and_true,Bool.true_and]
 unfold qEX
 by_cases k1:c.1=1
 ·have h5:(c.2.2.2.1≥0)=¬(c.2.2.2.1<0):=propext Int.not_lt.symm
  simp only [k1,h5]
  cases zP c.2.2.2.2.2.1 c.2.2.2.2.2.2.1 c.2.2.2.2.2.2.2.1 c.2.2.2.2.2.2.2.2.1<;>cases zP c.2.2.2.2.2.2.2.2.2.1 c.2.2.2.2.2.2.2.2.2.2.1 c.2.2.2.2.2.2.2.2.2.2.2.1 c.2.2.2.2.2.2.2.2.2.2.2.2.1<;>cases okV c.2.2.1 c.2.2.2.1 c.2.2.2.2.1<;>by_cases h0:c.2.1=0<;>by_cases h1:(kd c).length=0<;>by_cases h2:c.2.2.1=0<;>by_cases h3:c.2.2.1=1<;>by_cases h4:c.2.2.2.1<0<;>simp [h0,h1,h2,h3,h4]<;>(try omega)
 by_cases k2:c.1=2
 ·simp only [k2]
  cases zV c.2.2.1 c.2.2.2.1 c.2.2.2.2.1<;>cases zP c.2.2.2.2.2.2.2.2.2.1 c.2.2.2.2.2.2.2.2.2.2.1 c.2.2.2.2.2.2.2.2.2.2.2.1 c.2.2.2.2.2.2.2.2.2.2.2.2.1<;>cases qA5 c.2.2.2.2.2.1 c.2.2.2.2.2.2.1<;>by_cases h0:c.2.1=0<;>by_cases h1:(kd c).length=0<;>simp [h0,h1]
 by_cases k3:c.1=3
 ·simp only [k3]
  cases zV c.2.2.1 c.2.2.2.1 c.2.2.2.2.1<;>cases qFJ c.2.2.2.2.2.1 c.2.2.2.2.2.2.1 c.2.2.2.2.2.2.2.2.2.1 c.2.2.2.2.2.2.2.2.2.2.1<;>by_cases h0:c.2.1=0<;>by_cases h1:(kd c).length=0<;>simp [h0,h1]
 by_cases k4:c.1=4
 ·simp only [k4]
  cases zV c.2.2.1 c.2.2.2.1 c.2.2.2.2.1<;>cases zP c.2.2.2.2.2.1 c.2.2.2.2.2.2.1 c.2.2.2.2.2.2.2.1 c.2.2.2.2.2.2.2.2.1<;>cases zP c.2.2.2.2.2.2.2.2.2.1 c.2.2.2.2.2.2.2.2.2.2.1 c.2.2.2.2.2.2.2.2.2.2.2.1 c.2.2.2.2.2.2.2.2.2.2.2.2.1<;>by_cases h0:c.2.1=0<;>by_cases h1:(kd c).length=1<;>simp [h0,h1]
 by_cases k5:c.1=5
 ·simp only [k5]
  cases zV c.2.2.1 c.2.2.2.1 c.2.2.2.2.1<;>cases zP c.2.2.2.2.2.1 c.2.2.2.2.2.2.1 c.2.2.2.2.2.2.2.1 c.2.2.2.2.2.2.2.2.1<;>cases zP c.2.2.2.2.2.2.2.2.2.1 c.2.2.2.2.2.2.2.2.2.2.1 c.2.2.2.2.2.2.2.2.2.2.2.1 c.2.2.2.2.2.2.2.2.2.2.2.2.1<;>by_cases h0:1≤c.2.1∧c.2.1≤11<;>by_cases h1:(kd c).length=2<;>simp [h0,h1]
 by_cases k6:c.1=6
 ·simp only [k6]
  cases zV c.2.2.1 c.2.2.2.1 c.2.2.2.2.1<;>cases zP c.2.2.2.2.2.1 c.2.2.2.2.2.2.1 c.2.2.2.2.2.2.2.1 c.2.2.2.2.2.2.2.2.1<;>cases zP c.2.2.2.2.2.2.2.2.2.1 c.2.2.2.2.2.2.2.2.2.2.1 c.2.2.2.2.2.2.2.2.2.2.2.1 c.2.2.2.2.2.2.2.2.2.2.2.2.1<;>cases qHa c.2.1 ((kd c).length:Int)<;>simp
 simp [k1,k2,k3,k4,k5,k6]
section
variable (own area call:Int→Bool) (kids:Int→List Int)
def goF (F:Int→Int) (n:Int):List Int→Int→Int
 | [],start=>start
 |k::r,start=>if k≠start-1∨k<0∨(area k=true∧call n=false) then-1 else if F k<0 then-1 else goF F n r (F k)
def qCU:Nat→Int→Int
 |0,_=> -1
 |f+1,n=>if n<0∨own n=false then-1 else goF area call (qCU f) n (kids n).reverse n
def goT (F:Int→Int):List Int→Int→Int
 | [],x=>x+1
 |k::r,x=>if x<0∨k≠x then-1 else if F x<0 then-1 else goT F r (F x-1)
def qCc:Nat→Int→Int
 |0,_=> -1
 |f+1,n=>goT (qCc f) (kids n).reverse (n-1)
def qJI:List Int→Int
 | []=>0
 |x::r=>max x (qJI r)
def qAu:Nat→Int→Int
 |0,_=>0
 |f+1,n=>qJI ((kids n).map fun k=>qAu f k)+1
def qGE (i:Int):Prop:=∀k∈kids i,0≤k∧k≤i-1∧¬(area k=true∧call i=false)
theorem qN4:∀(f:Nat) (n:Int),0≤n→qCc kids f n≤n
 |0,n,h=>by rw [qCc];omega
 |f+1,n,h=>by
  have go:∀(l:List Int) (x:Int),x+1≤n→-1≤x→goT (qCc kids f) l x≤n:=by
   intro l
   induction l with
   |nil=>intro x h1 h2;rw [goT];omega
   |cons k r ih=>
    intro x h1 h2
    rw [goT]
    split
    ·omega
    ·split
     ·omega
     ·have:=qN4 f x (by omega)
      exact ih _ (by omega) (by omega)
  rw [qCc]
  exact go _ _ (by omega) (by omega)
theorem qQn {l:List Int} {b:Int} (h0:0≤b):qJI l≤b↔∀x∈l,x≤b:=by
 induction l with
 |nil=>simp [qJI,h0]
 |cons a r ih=>simp only [qJI,List.mem_cons,forall_eq_or_imp];rw [Int.max_le,ih]
theorem qN5 {n b:Int} {f:Nat} (h0:1≤b):qAu kids (f+1) n≤b↔∀k∈kids n,qAu kids f k≤b-1:=by
 rw [qAu]
 constructor
 ·intro h k hk
  exact (qQn (l:=(kids n).map fun k=>qAu kids f k) (by omega)).1 (by omega) _ (List.mem_map_of_mem (f:=fun k=>qAu kids f k) hk)
 ·intro h
  have:=(qQn (l:=(kids n).map fun k=>qAu kids f k) (b:=b-1) (by omega)).2 (by
   intro x hx
   obtain ⟨k,hk,rfl⟩:=List.mem_map.1 hx
   exact h k hk)
  omega
theorem qN6:∀(f g:Nat) (n:Int),n<f→n<g→(∀i,0≤i→i≤n→qGE area call kids i)→0≤n→qAu kids f n=qAu kids g n
 |0,g,n,h1,h2,_,h3=>by omega
 |f+1,0,n,h1,h2,_,h3=>by omega
 |f+1,g+1,n,h1,h2,hk,h3=>by
  rw [qAu,qAu]
  congr 2
  apply List.map_congr_left
  intro k hm
  have:=hk n h3 (by omega) k hm
  exact qN6 f g k (by omega) (by omega) (fun i h0 h1=>hk i h0 (by omega)) (by omega)
theorem qMC:∀(f:Nat) (n:Int),0≤n→n<f→1≤qAu kids f n
 |0,n,h,h'=>by omega
 |f+1,n,h,h'=>by
  rw [qAu]
  have:∀l:List Int,0≤qJI l:=by
   intro l
   induction l with
   |nil=>exact Int.le_refl 0
   |cons a r ih=>simp only [qJI];omega
  have:=this ((kids n).map fun k=>qAu kids f k)
  omega
theorem qPX:∀(f g:Nat) (n:Int),0≤n→n<g→0≤qCU own area call kids f n→
  qCU own area call kids f n≤n∧qCc kids g n=qCU own area call kids f n∧(∀i,qCU own area call kids f n≤i→i≤n→own i=true∧qGE area call kids i)∧(∀h:Nat,(∀i,0≤i→i≤n→qGE area call kids i)→n<h→qAu kids h n≤f)
 |0,g,n,h0,h1,h2=>by rw [qCU] at h2;omega
 |f+1,0,n,h0,h1,h2=>by omega
 |f+1,g+1,n,h0,h1,h2=>by
  rw [qCU] at h2⊢
  split at h2
  ·omega
  ·rename_i hc
   rw [if_neg hc]
   have go:∀(l:List Int) (s:Int),0≤s→s≤n→0≤goF area call (qCU own area call kids f) n l s→
     goF area call (qCU own area call kids f) n l s≤s∧goT (qCc kids g) l (s-1)=goF area call (qCU own area call kids f) n l s∧(∀i,goF area call (qCU own area call kids f) n l s≤i→i≤s-1→own i=true∧qGE area call kids i)∧(∀k∈l,0≤k∧k≤n-1∧¬(area k=true∧call n=false))∧(∀h:Nat,(∀i,0≤i→i≤n→qGE area call kids i)→n<h→∀k∈l,qAu kids h k≤f):=by
    intro l
    induction l with
    |nil=>
     intro s h3 h4 h5
     rw [goF] at h5⊢
     rw [goT]
     refine ⟨by omega,by omega,fun i _ _=>by omega,fun k hk=>(by cases hk),fun h _ _ k hk=>(by cases hk)⟩
    |cons k r ih=>
     intro s h3 h4 h5
     rw [goF] at h5⊢
     split at h5
     ·omega
     ·rename_i hd
      rw [if_neg hd]
      split at h5
      ·omega
      ·rename_i he
       rw [if_neg he]
       have hk:k=s-1:=by omega
       subst hk
       obtain ⟨a1,a2,a3,a4⟩:=qPX f g (s-1) (by omega) (by omega) (by omega)
       obtain ⟨b1,b2,b3,b4,b5⟩:=ih _ (by omega) (by omega) h5
       refine ⟨by omega,?_,?_,?_,?_⟩
       ·rw [goT,if_neg (by omega),a2,if_neg he,b2]
       ·intro i i1 i2
        by_cases hi:qCU own area call kids f (s-1)≤i
        ·exact a3 i hi i2
        ·exact b3 i i1 (by omega)
       ·intro k hk
        rcases List.mem_cons.1 hk with rfl|hk
        ·exact ⟨by omega,by omega,fun h=>hd (.inr (.inr h))⟩
        ·exact b4 k hk
       ·intro h hx hy k hk
        rcases List.mem_cons.1 hk with rfl|hk
        ·exact a4 h (fun i i1 i2=>hx i i1 (by omega)) (by omega)
        ·exact b5 h hx hy k hk
   obtain ⟨c1,c2,c3,c4,c5⟩:=go _ n h0 (Int.le_refl n) h2
   have hown:own n=true:=by cases ho:own n with
    |true=>rfl
    |false=>exact absurd (.inr ho) hc
   refine ⟨c1,by rw [qCc];exact c2,?_,?_⟩
   ·intro i i1 i2
    by_cases hi:i=n
    ·subst hi
     exact ⟨hown,fun k hk=>c4 k (List.mem_reverse.2 hk)⟩
    ·exact c3 i i1 (by omega)
   ·intro h hx hy
    cases h with
    |zero=>omega
    |succ h=>
     refine (qN5 kids (by omega)).2 fun k hk=>?_
     have hin:=hx n h0 (Int.le_refl n) k hk
     have e:qAu kids h k=qAu kids (n.toNat+1) k:=qN6 area call kids _ _ _ (by omega) (by omega) (fun i i1 i2=>hx i i1 (by omega)) (by omega)
     rw [e]
     have:=c5 (n.toNat+1) hx (by omega) k (List.mem_reverse.2 hk)
     omega
theorem qQo:∀(f g h:Nat) (n:Int),0≤n→n<g→n<h→(∀i,0≤i→i≤n→own i=true∧qGE area call kids i)→0≤qCc kids g n→qAu kids h n≤f→qCU own area call kids f n=qCc kids g n
 |0,g,h,n,h0,h1,h1',h2,h3,h4=>by have:=qMC kids h n h0 h1';omega
 |f+1,0,h,n,h0,h1,_,h2,h3,h4=>by omega
 |f+1,g+1,0,n,h0,h1,_,h2,h3,h4=>by omega
 |f+1,g+1,h+1,n,h0,h1,h1',h2,h3,h4=>by
  have hd:=(qN5 kids (b:=((f+1:Nat):Int)) (by omega)).1 h4
  have go:∀(l:List Int) (s:Int),(∀k∈l,k∈kids n)→0≤s→s≤n→0≤goT (qCc kids g) l (s-1)→goF area call (qCU own area call kids f) n l s=goT (qCc kids g) l (s-1):=by
   intro l
   induction l with
   |nil=>intro s _ _ _ _;rw [goF,goT];omega
   |cons k r ih=>
    intro s hm h3 h4 h5
    rw [goT] at h5⊢
    rw [goF]
    split at h5
    ·omega
    ·rename_i hc
     rw [if_neg hc]
     split at h5
     ·omega
     ·rename_i he
      rw [if_neg he]
      have hk:k=s-1:=by omega
      have hin:=(h2 n h0 (Int.le_refl n)).2 k (hm k (List.mem_cons_self ..))
      have hdk:=hd k (hm k (List.mem_cons_self ..))
      subst hk
      have e:=qQo f g h (s-1) (by omega) (by omega) (by omega) (fun i i1 i2=>h2 i i1 (by omega)) (by omega) (by omega)
      have hb:¬(s-1≠s-1∨s-1<0∨(area (s-1)=true∧call n=false)):=fun hx=>by
       rcases hx with hx|hx|hx
       ·exact hx rfl
       ·omega
       ·exact hin.2.2 hx
      rw [if_neg hb,e,if_neg he]
      have hle:=qN4 kids g (s-1) (by omega)
      exact ih _ (fun k hk=>hm k (List.mem_cons_of_mem _ hk)) (by omega) (by omega) h5
  rw [qCc] at h3
  have hn:¬(n<0∨own n=false):=fun hx=>by
   rcases hx with hx|hx
   ·omega
   ·rw [(h2 n h0 (Int.le_refl n)).1] at hx;cases hx
  rw [qCU,qCc,if_neg hn]
  exact go _ n (fun k hk=>List.mem_reverse.1 hk) h0 (Int.le_refl n) h3
end
theorem qBU (c:Nd):(qb c).length=14:=rfl
theorem qA9 (k:Int):(qA3 k).length=1:=rfl
theorem qAk (k:Int):zE .i64 (qA3 k) 0=some k:=rfl
theorem qAR (c:Nd):zE .i64 (qb c) 0=some c.1:=rfl
theorem qAS (c:Nd):zE .i64 (qb c) 1=some c.2.1:=rfl
theorem qAT (c:Nd):zE .i64 (qb c) 2=some c.2.2.1:=rfl
theorem qAU (c:Nd):zE .i64 (qb c) 3=some c.2.2.2.1:=rfl
theorem qAV (c:Nd):zh (qb c) 4=some c.2.2.2.2.1:=rfl
theorem qAW (c:Nd):zE .i64 (qb c) 5=some c.2.2.2.2.2.1:=rfl
theorem qAX (c:Nd):zE .i64 (qb c) 6=some c.2.2.2.2.2.2.1:=rfl
theorem qAY (c:Nd):zAT (qb c) 7=some c.2.2.2.2.2.2.2.1:=rfl
theorem qAZ (c:Nd):zAT (qb c) 8=some c.2.2.2.2.2.2.2.2.1:=rfl
theorem qAa (c:Nd):zE .i64 (qb c) 9=some c.2.2.2.2.2.2.2.2.2.1:=rfl
theorem qt (c:Nd):zE .i64 (qb c) 10=some c.2.2.2.2.2.2.2.2.2.2.1:=rfl
theorem qu (c:Nd):zAT (qb c) 11=some c.2.2.2.2.2.2.2.2.2.2.2.1:=rfl
theorem qv (c:Nd):zAT (qb c) 12=some c.2.2.2.2.2.2.2.2.2.2.2.2.1:=rfl
theorem qw (c:Nd):zA7 (qb c) 13=some ((c.2.2.2.2.2.2.2.2.2.2.2.2.2).map qA3):=rfl
def nd0:Nd:=(0,0,0,0,⟨#[]⟩,0,0,false,false,0,0,false,false,[])
def ndi (l:List Nd) (i:Int):Nd:=l.getD i.toNat nd0
def qU (l:List Nd) (i:Int):List Int:=kd (ndi l i)
def qFW (l:List Nd) (i:Int):Bool:=qEX (ndi l i)
def qBY (l:List Nd) (i:Int):Bool:=decide ((ndi l i).1=3)
def qB3 (l:List Nd) (i:Int):Bool:=decide ((ndi l i).1=6)
theorem qCf {l:List Nd} {i:Int} (h:0≤i∧i<l.length):l[i.toNat]?=some (ndi l i):=by
 have:i.toNat<l.length:=by omega
 unfold ndi
 rw [List.getElem?_eq_getElem this,List.getD_eq_getElem?_getD,List.getElem?_eq_getElem this]
 rfl
theorem qH0 {l:List Nd} {i:Int} (h:0≤i∧i<l.length):ndi l i∈l:=List.mem_of_getElem? (qCf h)
theorem qPw {α:Type} {l:List α} {j:Nat} {k:α} (h:l[j]?=some k):(l.take (j+1)).reverse=k::(l.take j).reverse:=by
 rw [List.take_add_one,h]
 simp
theorem qPx {R:Type} {F:Int→Nat→Option R} {f:Int→R} (x:Int) (h:∀y,0≤y→y<x→Ev (F y) (f y)):∃n0,∀n,n0≤n→∀y,0≤y→y<x→F y n=some (f y):=by
 obtain ⟨n0,h0⟩:=qBI (F:=F) (f:=f) ((List.range x.toNat).map fun (i:Nat)=>(i:Int)) (fun c hc=>by
  obtain ⟨i,hi,rfl⟩:=List.mem_map.1 hc
  have:=List.mem_range.1 hi
  exact h _ (Int.natCast_nonneg i) (by omega))
 refine ⟨n0,fun n hn y h1 h2=>h0 n hn y (List.mem_map.2 ⟨y.toNat,List.mem_range.2 (by omega),by omega⟩)⟩
theorem qOw (l:List Nd) (x1:Int) (f n:Nat) (hx:0≤x1∧x1<l.length) (hl:l.length≤140737488351232) (hk:(kd (ndi l x1)).length≤140737488351232)
  (hrec:∀y:Int,0≤y→y<x1→qAm n (l.map qb) y=some (qCc (qU l) f y)):
  ∀(j M:Nat) (s:Int),j≤(kd (ndi l x1)).length→j+1≤M→-1≤s→s<x1→
   (∃x,zC (qA0 (qAm n) n) M (l.map qb,x1,s,(j:Int)-1)=some (.inr x)∧goT (qCc (qU l) f) ((qU l x1).take j).reverse s=x+1∧-1≤x∧x<x1)∨
   (zC (qA0 (qAm n) n) M (l.map qb,x1,s,(j:Int)-1)=some (.inl (-1))∧goT (qCc (qU l) f) ((qU l x1).take j).reverse s= -1)
 |0,0,s,h1,h2,h3,h4=>by omega
 |0,M+1,s,h1,h2,h3,h4=>by
  refine .inl ⟨s,?_,by simp [goT],h3,h4⟩
  rw [qP (r:= .inr s) (by simp [-getElem?_pos,qA0,qC,qE,qG,qH,qJ,qK,Option.bind_some,qF,qM,qN])]
 |j+1,0,s,h1,h2,h3,h4=>by omega
 |j+1,M+1,s,h1,h2,h3,h4=>by
  have hc:=qCf hx
  have hj:j<(kd (ndi l x1)).length:=by omega
  have hg:(qU l x1)[j]?=some (qU l x1)[j]:=List.getElem?_eq_getElem hj
  have ih:=qOw l x1 f n hx hl hk hrec j M
  rw [qPw hg]
  generalize (qU l x1)[j]=k at hg
  have hi:(((j+1:Nat):Int)-1)=(j:Int):=by omega
  rw [hi,goT]
  have hg':(ndi l x1).2.2.2.2.2.2.2.2.2.2.2.2.2[j]?=some k:=hg
  have hj':j<(ndi l x1).2.2.2.2.2.2.2.2.2.2.2.2.2.length:=hj
  by_cases hs:s<0
  ·refine .inr ⟨?_,by rw [if_pos (.inl hs)]⟩
   rw [qP (r:= .inl (-1)) (by simp [-getElem?_pos,qA0,qC,qE,qG,qH,qJ,qK,Option.bind_some,qF,qM,qN,hs])]
  ·by_cases hks:k=s
   ·subst hks
    have hr:=hrec k (by omega) h4
    by_cases ht:qCc (qU l) f k<0
    ·refine .inr ⟨?_,by rw [if_neg (by omega),if_pos ht]⟩
     rw [qP (r:= .inl (-1)) (by simp [-getElem?_pos,qA0,qC,qE,qG,qH,qJ,qK,Option.bind_some,qF,qM,qN,hs,hc,hx,qBU,qA9,qAk,qAR,qAS,qAT,qAU,qAV,qAW,qAX,qAY,qAZ,qAa,qt,qu,qv,qw,hg',hj',hr,ht])]
    ·have hle:=qN4 (qU l) f k (by omega)
     have hw:IntKind.i64.wrap (qCc (qU l) f k-1)=qCc (qU l) f k-1:=qa (by omega)
     have hw2:IntKind.i64.wrap ((j:Int)-1)=(j:Int)-1:=qa (by omega)
     rw [if_neg (by omega),if_neg ht]
     rw [qX (v':=(l.map qb,x1,qCc (qU l) f k-1,(j:Int)-1)) (by simp [-getElem?_pos,qA0,qC,qE,qG,qH,qJ,qK,Option.bind_some,qF,qM,qN,hs,hc,hx,qBU,qA9,qAk,qAR,qAS,qAT,qAU,qAV,qAW,qAX,qAY,qAZ,qAa,qt,qu,qv,qw,hg',hj',hr,ht,hw,hw2])]
     exact ih _ (by omega) (by omega) (by omega) (by omega)
   ·refine .inr ⟨?_,by rw [if_pos (.inr hks)]⟩
    rw [qP (r:= .inl (-1)) (by simp [-getElem?_pos,qA0,qC,qE,qG,qH,qJ,qK,Option.bind_some,qF,qM,qN,hs,hc,hx,qBU,qA9,qAk,qAR,qAS,qAT,qAU,qAV,qAW,qAX,qAY,qAZ,qAa,qt,qu,qv,qw,hg',hj',hks])]
theorem qJJ (l:List Nd) (hl:l.length≤140737488351232) (hk:∀c∈l,(kd c).length≤140737488351232):∀(f:Nat) (x:Int),0≤x→x<l.length→x<f→Ev (qAm · (l.map qb) x) (qCc (qU l) f x)
 |0,x,h0,h1,h2=>by omega
 |f+1,x,h0,h1,h2=>by
  obtain ⟨n0,hn0⟩:=qPx (F:=fun y n=>qAm n (l.map qb) y) (f:=fun y=>qCc (qU l) f y) x (fun y h3 h4=>qJJ l hl hk f y h3 (by omega) (by omega))
  refine ⟨n0+(kd (ndi l x)).length+5,fun n hn=>?_⟩
  obtain ⟨m,rfl,hm⟩:=up1 hn
  have hc:=qCf (l:=l) (i:=x) ⟨h0,h1⟩
  have hkx:=hk _ (qH0 (l:=l) ⟨h0,h1⟩)
  have hw:IntKind.i64.wrap (x-1)=x-1:=qa (by omega)
  have hw2:IntKind.i64.wrap (((kd (ndi l x)).length:Int)-1)=((kd (ndi l x)).length:Int)-1:=qa (by omega)
  have h:=qOw l x f m ⟨h0,h1⟩ hl hkx (hn0 m (by omega)) (kd (ndi l x)).length m (x-1) (Nat.le_refl _) (by omega) (by omega) (by omega)
  have e:(qU l x).take (kd (ndi l x)).length=qU l x:=List.take_length
  rw [e] at h
  rw [show qCc (qU l) (f+1) x=goT (qCc (qU l) f) (qU l x).reverse (x-1) from rfl]
  unfold kd at h hw2
  dsimp only
  simp only [qAm,qGs,qC,qE,qG,qH,qJ,qK,Option.bind_some,qF,qM,qN]
  rcases h with ⟨y,g1,g2,g3,g4⟩|⟨g1,g2⟩
  ·have hw3:IntKind.i64.wrap (y+1)=y+1:=qa (by omega)
   rw [g2]
   simp [-getElem?_pos,qC,qE,qG,qH,qJ,qK,Option.bind_some,qF,qM,qN,hc,h0,h1,qBU,qA9,qAk,qAR,qAS,qAT,qAU,qAV,qAW,qAX,qAY,qAZ,qAa,qt,qu,qv,qw,hw,hw2,g1,hw3]
  ·rw [g2]
   simp [-getElem?_pos,qC,qE,qG,qH,qJ,qK,Option.bind_some,qF,qM,qN,hc,h0,h1,qBU,qA9,qAk,qAR,qAS,qAT,qAU,qAV,qAW,qAX,qAY,qAZ,qAa,qt,qu,qv,qw,hw,hw2,g1]
theorem qMD (kids:Int→List Int):∀(f:Nat) (n:Int),0≤qAu kids f n∧qAu kids f n≤f
 |0,n=>by rw [qAu];omega
 |f+1,n=>by
  have:∀l:List Int,0≤qJI (l.map fun k=>qAu kids f k)∧qJI (l.map fun k=>qAu kids f k)≤f:=by
   intro l
   induction l with
   |nil=>exact ⟨Int.le_refl 0,Int.natCast_nonneg f⟩
   |cons a r ih=>have:=qMD kids f a;simp only [List.map_cons,qJI];omega
  have:=this (kids n)
  rw [qAu]
  omega
theorem qOx (l:List Nd) (x1:Int) (f n:Nat) (hx:0≤x1∧x1<l.length) (hf:f≤1000) (hk:(kd (ndi l x1)).length≤140737488351232)
  (hrec:∀k∈qU l x1,qAn n (l.map qb) k=some (qAu (qU l) f k)):
  ∀(m i M:Nat) (a:Int),(kd (ndi l x1)).length=i+m→m+1≤M→0≤a→
   zC (qCm (qAn n) n) M (l.map qb,x1,a,(i:Int))=some (max a (qJI (((qU l x1).drop i).map fun k=>qAu (qU l) f k)))
 |m,i,0,a,h1,h2,h3=>by omega
 |0,i,M+1,a,h1,h2,h3=>by
  have hc:=qCf hx
  have hi:¬i<(ndi l x1).2.2.2.2.2.2.2.2.2.2.2.2.2.length:=by unfold kd at h1;omega
  rw [qP (r:=a) (by simp [-getElem?_pos,qCm,qC,qE,qG,qH,qJ,qK,Option.bind_some,qF,qM,qN,hc,hx,qBU,qA9,qAk,qAR,qAS,qAT,qAU,qAV,qAW,qAX,qAY,qAZ,qAa,qt,qu,qv,qw,hi])]
  rw [List.drop_eq_nil_of_le (by unfold qU;omega)]
  simp only [List.map_nil,qJI]
  congr 1
  omega
 |m+1,i,M+1,a,h1,h2,h3=>by
  have hc:=qCf hx
  have hj:i<(kd (ndi l x1)).length:=by omega
  have hg:(qU l x1)[i]?=some (qU l x1)[i]:=List.getElem?_eq_getElem hj
  rw [qEm hg]
  have hr:=hrec _ (List.mem_of_getElem? hg)
  generalize (qU l x1)[i]=k at hg hr
  have hg':(ndi l x1).2.2.2.2.2.2.2.2.2.2.2.2.2[i]?=some k:=hg
  have hj':i<(ndi l x1).2.2.2.2.2.2.2.2.2.2.2.2.2.length:=hj
  have hj'':(i:Int)<((ndi l x1).2.2.2.2.2.2.2.2.2.2.2.2.2.length:Int):=by omega
  have hw:IntKind.i64.wrap ((i:Int)+1)=((i+1:Nat):Int):=by rw [qa (by omega)];omega
  have hd:=qMD (qU l) f k
  rw [qX (v':=(l.map qb,x1,(if qAu (qU l) f k>a then qAu (qU l) f k else a),((i+1:Nat):Int))) (by simp [-getElem?_pos,qCm,qC,qE,qG,qH,qJ,qK,Option.bind_some,qF,qM,qN,hc,hx,qBU,qA9,qAk,qAR,qAS,qAT,qAU,qAV,qAW,qAX,qAY,qAZ,qAa,qt,qu,qv,qw,hg',hj',hr,hw])]
  rw [qOx l x1 f n hx hf hk hrec m (i+1) M _ (by omega) (by omega) (by split<;>omega)]
  simp only [List.map_cons,qJI]
  congr 1
  split<;>omega
theorem qJK (l:List Nd) (hl:l.length≤60) (hk:∀c∈l,(kd c).length≤140737488351232) (hin:∀i:Int,0≤i→i<l.length→qGE (qBY l) (qB3 l) (qU l) i):∀(f:Nat) (x:Int),f≤1000→0≤x→x<l.length→x<f→Ev (qAn · (l.map qb) x) (qAu (qU l) f x)
 |0,x,hf,h0,h1,h2=>by omega
 |f+1,x,hf,h0,h1,h2=>by
  obtain ⟨n0,hn0⟩:=qBI (F:=fun y n=>qAn n (l.map qb) y) (f:=fun y=>qAu (qU l) f y) (qU l x) (fun y hy=>by
   have:=hin x h0 h1 y hy
   exact qJK l hl hk hin f y (by omega) (by omega) (by omega) (by omega))
  refine ⟨n0+(kd (ndi l x)).length+5,fun n hn=>?_⟩
  obtain ⟨m,rfl,hm⟩:=up1 hn
  have h:=qOx l x f m ⟨h0,h1⟩ (by omega) (hk _ (qH0 (l:=l) ⟨h0,h1⟩)) (hn0 m (by omega)) (kd (ndi l x)).length 0 m 0 (by omega) (by omega) (by omega)
  have hd:=qMD (qU l) (f+1) x
  have e:max 0 (qJI ((qU l x).map fun k=>qAu (qU l) f k))+1=qAu (qU l) (f+1) x:=by
   rw [qAu]
   have:∀q:List Int,0≤qJI q:=by
    intro q
    induction q with
    |nil=>exact Int.le_refl 0
    |cons a r ih=>simp only [qJI];omega
   have:=this ((qU l x).map fun k=>qAu (qU l) f k)
   omega
  rw [List.drop_zero] at h
  simp only [Int.natCast_zero] at h
  have hw:IntKind.i64.wrap (max 0 (qJI ((qU l x).map fun k=>qAu (qU l) f k))+1)=qAu (qU l) (f+1) x:=by rw [e,qa (by omega)]
  simp only [qAn,qGu,qC,qE,qG,qH,qJ,qK,Option.bind_some,qF,qM,qN,h,hw]
def inB (l:List Nd) (i:Int):Bool:=(qU l i).all fun k=>decide (0≤k∧k≤i-1)&&!(qBY l k&&!qB3 l i)
theorem qQp {l:List Nd} {i:Int}:inB l i=true↔qGE (qBY l) (qB3 l) (qU l) i:=by
 unfold inB qGE
 rw [List.all_eq_true]
 refine forall_congr' fun k=>forall_congr' fun hk=>?_
 cases qBY l k<;>cases qB3 l i<;>simp
theorem qPY (l:List Nd) (x1:Int) (n:Nat) (hx:0≤x1∧x1<l.length) (hl:l.length≤60) (hk:(kd (ndi l x1)).length≤140737488351232):
  ∀(m i M:Nat),(kd (ndi l x1)).length=i+m→m+1≤M→
   zC (qAg (n+1)) M (l.map qb,x1,(i:Int))=some (if ((qU l x1).drop i).all (fun k=>decide (0≤k∧k≤x1-1)&&!(qBY l k&&!qB3 l x1))=true then .inr (l.map qb,x1) else .inl false)
 |m,i,0,h1,h2=>by omega
 |0,i,M+1,h1,h2=>by
  have hc:=qCf hx
  have hi:¬i<(ndi l x1).2.2.2.2.2.2.2.2.2.2.2.2.2.length:=by unfold kd at h1;omega
  rw [qP (r:= .inr (l.map qb,x1)) (by simp [-getElem?_pos,qAg,qC,qE,qG,qH,qJ,qK,Option.bind_some,qF,qM,qN,hc,hx,qBU,qA9,qAk,qAR,qAS,qAT,qAU,qAV,qAW,qAX,qAY,qAZ,qAa,qt,qu,qv,qw,hi])]
  rw [List.drop_eq_nil_of_le (by unfold qU;omega)]
  rfl
 |m+1,i,M+1,h1,h2=>by
  have hc:=qCf hx
  have hj:i<(kd (ndi l x1)).length:=by omega
  have hg:(qU l x1)[i]?=some (qU l x1)[i]:=List.getElem?_eq_getElem hj
  rw [qEm hg]
  generalize (qU l x1)[i]=k at hg
  have hg':(ndi l x1).2.2.2.2.2.2.2.2.2.2.2.2.2[i]?=some k:=hg
  have hj':i<(ndi l x1).2.2.2.2.2.2.2.2.2.2.2.2.2.length:=hj
  have hw:IntKind.i64.wrap ((i:Int)+1)=((i+1:Nat):Int):=by rw [qa (by omega)];omega
  have hw2:IntKind.i64.wrap (x1-1)=x1-1:=qa (by omega)
  have hin:qAb (n+1) k 0 (x1-1)=some (decide (0≤k∧k≤x1-1)):=by
   simp only [qAb,qGQ,qC,qE,qG,qH,qJ,qK,Option.bind_some,qF,qM,qN]
   by_cases h:k≥0<;>simp [h]
  rw [List.all_cons]
  by_cases hr:0≤k∧k≤x1-1
  ·have hck:=qCf (l:=l) (i:=k) ⟨hr.1,by omega⟩
   have hkl:k<(l.length:Int):=by omega
   by_cases ha:(ndi l k).1=3
   ·by_cases hcl:(ndi l x1).1=6
    ·rw [qX (v':=(l.map qb,x1,((i+1:Nat):Int))) (by simp [-getElem?_pos,qAg,qC,qE,qG,qH,qJ,qK,Option.bind_some,qF,qM,qN,hc,hx,qBU,qA9,qAk,qAR,qAS,qAT,qAU,qAV,qAW,qAX,qAY,qAZ,qAa,qt,qu,qv,qw,hg',hj',hw,hw2,hin,hr,hck,hkl,ha,hcl])]
     rw [qPY l x1 n hx hl hk m (i+1) M (by omega) (by omega)]
     simp [hr,qBY,qB3,ha,hcl]
    ·rw [qP (r:= .inl false) (by simp [-getElem?_pos,qAg,qC,qE,qG,qH,qJ,qK,Option.bind_some,qF,qM,qN,hc,hx,qBU,qA9,qAk,qAR,qAS,qAT,qAU,qAV,qAW,qAX,qAY,qAZ,qAa,qt,qu,qv,qw,hg',hj',hw,hw2,hin,hr,hck,hkl,ha,hcl])]
     simp [hr,qBY,qB3,ha,hcl]
   ·rw [qX (v':=(l.map qb,x1,((i+1:Nat):Int))) (by simp [-getElem?_pos,qAg,qC,qE,qG,qH,qJ,qK,Option.bind_some,qF,qM,qN,hc,hx,qBU,qA9,qAk,qAR,qAS,qAT,qAU,qAV,qAW,qAX,qAY,qAZ,qAa,qt,qu,qv,qw,hg',hj',hw,hw2,hin,hr,hck,hkl,ha])]
    rw [qPY l x1 n hx hl hk m (i+1) M (by omega) (by omega)]
    simp [hr,qBY,qB3,ha]
  ·rw [qP (r:= .inl false) (by simp [-getElem?_pos,qAg,qC,qE,qG,qH,qJ,qK,Option.bind_some,qF,qM,qN,hc,hx,qBU,qA9,qAk,qAR,qAS,qAT,qAU,qAV,qAW,qAX,qAY,qAZ,qAa,qt,qu,qv,qw,hg',hj',hw2,hin,hr])]
   simp [hr]
def qEy (l:List Nd) (i m:Nat):Bool:=(List.range' i m).all fun (i:Nat)=>qFW l (i:Int)&&inB l (i:Int)
theorem qE7 {l:List Nd}:qEy l 0 l.length=true↔∀i:Int,0≤i→i<l.length→qFW l i=true∧qGE (qBY l) (qB3 l) (qU l) i:=by
 unfold qEy
 rw [List.all_eq_true]
 constructor
 ·intro h i h0 h1
  have:=h i.toNat (by rw [List.mem_range'];exact ⟨i.toNat,by omega,by omega⟩)
  rw [show ((i.toNat:Nat):Int)=i by omega,Bool.and_eq_true,qQp] at this
  exact this
 ·intro h i hi
  rw [List.mem_range'] at hi
  obtain ⟨j,hj,rfl⟩:=hi
  rw [Bool.and_eq_true,qQp]
  exact h _ (by omega) (by omega)
theorem qQq (l:List Nd) (n:Nat) (hl:l.length≤60) (hk:∀c∈l,(kd c).length≤140737488351232) (hn:∀c∈l,(kd c).length+2≤n)
  (hok:∀c∈l,qBs n c.1 c.2.1 c.2.2.1 c.2.2.2.1 c.2.2.2.2.1 c.2.2.2.2.2.1 c.2.2.2.2.2.2.1 c.2.2.2.2.2.2.2.1 c.2.2.2.2.2.2.2.2.1 c.2.2.2.2.2.2.2.2.2.1 c.2.2.2.2.2.2.2.2.2.2.1 c.2.2.2.2.2.2.2.2.2.2.2.1 c.2.2.2.2.2.2.2.2.2.2.2.2.1 ((c.2.2.2.2.2.2.2.2.2.2.2.2.2).map qA3)=some (qEX c)):
  ∀(m i M:Nat),l.length=i+m→m+1≤M→
   zC (qA4 n) M (l.map qb,(i:Int))=some (if qEy l i m=true then .inr (l.map qb) else .inl false)
 |m,i,0,h1,h2=>by omega
 |0,i,M+1,h1,h2=>by
  have hi:¬(i:Int)<(l.length:Int):=by omega
  rw [qP (r:= .inr (l.map qb)) (by simp [-getElem?_pos,qA4,qC,qE,qG,qH,qJ,qK,Option.bind_some,qF,qM,qN,hi])]
  rfl
 |m+1,i,M+1,h1,h2=>by
  have hi:(i:Int)<(l.length:Int):=by omega
  have hx:0≤(i:Int)∧(i:Int)<l.length:=⟨by omega,hi⟩
  have hc:=qCf hx
  have hm:=qH0 hx
  have ho:=hok _ hm
  have hw:IntKind.i64.wrap ((i:Int)+1)=((i+1:Nat):Int):=by rw [qa (by omega)];omega
  have hnn:=hn _ hm
  obtain ⟨q,rfl⟩:∃q,n=q+1:=⟨n-1,by omega⟩
  have hlp:=qPY l i q hx hl (hk _ hm) (kd (ndi l i)).length 0 (q+1) (by omega) (by omega)
  rw [List.drop_zero,show ((qU l (i:Int)).all fun k=>decide (0≤k∧k≤(i:Int)-1)&&!(qBY l k&&!qB3 l (i:Int)))=inB l i from rfl] at hlp
  simp only [Int.natCast_zero] at hlp
  have e:qEy l i (m+1)=(qFW l i&&inB l i&&qEy l (i+1) m):=by unfold qEy;rw [List.range'_succ,List.all_cons]
  rw [e]
  rw [Int.toNat_natCast] at hc
  cases hnb:qEX (ndi l i) with
  |false=>
   rw [hnb] at ho
   rw [qP (r:= .inl false) (by simp [-getElem?_pos,qA4,qC,qE,qG,qH,qJ,qK,Option.bind_some,qF,qM,qN,hi,hc,qBU,qA9,qAk,qAR,qAS,qAT,qAU,qAV,qAW,qAX,qAY,qAZ,qAa,qt,qu,qv,qw,ho])]
   simp [qFW,hnb]
  |true=>
   rw [hnb] at ho
   cases hib:inB l i with
   |false=>
    rw [hib] at hlp
    rw [qP (r:= .inl false) (by simp [-getElem?_pos,qA4,qC,qE,qG,qH,qJ,qK,Option.bind_some,qF,qM,qN,hi,hc,qBU,qA9,qAk,qAR,qAS,qAT,qAU,qAV,qAW,qAX,qAY,qAZ,qAa,qt,qu,qv,qw,ho,hlp])]
    simp
   |true=>
    rw [hib] at hlp
    rw [qX (v':=(l.map qb,((i+1:Nat):Int))) (by simp [-getElem?_pos,qA4,qC,qE,qG,qH,qJ,qK,Option.bind_some,qF,qM,qN,hi,hc,qBU,qA9,qAk,qAR,qAS,qAT,qAU,qAV,qAW,qAX,qAY,qAZ,qAa,qt,qu,qv,qw,ho,hlp,hw])]
    rw [qQq l (q+1) hl hk hn hok m (i+1) M (by omega) (by omega)]
    simp [qFW,hnb]
def qE8 (l:List Nd):Bool:=decide (1≤l.length∧l.length≤60)&&(qEy l 0 l.length&&(decide (qCc (qU l) l.length ((l.length:Int)-1)=0)&&(!qBY l ((l.length:Int)-1)&&decide (qAu (qU l) l.length ((l.length:Int)-1)≤12))))
theorem qGg (l:List Nd) (hk:∀c∈l,(kd c).length≤140737488351232∧c.2.2.2.2.1.size≤140737488351232):Ev (qBb · (l.map qb)) (qE8 l):=by
 by_cases h1:1≤l.length
 ·by_cases h60:l.length≤60
  ·have hk1:∀c∈l,(kd c).length≤140737488351232:=fun c hc=>(hk c hc).1
   obtain ⟨n1,g1⟩:=qBI (F:=fun (c:Nd) n=>qBs n c.1 c.2.1 c.2.2.1 c.2.2.2.1 c.2.2.2.2.1 c.2.2.2.2.2.1 c.2.2.2.2.2.2.1 c.2.2.2.2.2.2.2.1 c.2.2.2.2.2.2.2.2.1 c.2.2.2.2.2.2.2.2.2.1 c.2.2.2.2.2.2.2.2.2.2.1 c.2.2.2.2.2.2.2.2.2.2.2.1 c.2.2.2.2.2.2.2.2.2.2.2.2.1 ((c.2.2.2.2.2.2.2.2.2.2.2.2.2).map qA3)) (f:=qEX) l (fun c hc=>qHb c (hk c hc).2)
   obtain ⟨n2,g2⟩:=qBI (F:=fun (c:Nd) n=>if (kd c).length+2≤n then some () else none) (f:=fun _=>()) l (fun c hc=>⟨(kd c).length+2,fun n hn=>if_pos hn⟩)
   obtain ⟨n3,g3⟩:=qJJ l (by omega) hk1 l.length ((l.length:Int)-1) (by omega) (by omega) (by omega)
   obtain ⟨n4,g4⟩:∃n0,qEy l 0 l.length=true→∀n,n0≤n→qAn n (l.map qb) ((l.length:Int)-1)=some (qAu (qU l) l.length ((l.length:Int)-1)):=by
    by_cases ho:qEy l 0 l.length=true
    ·obtain ⟨n4,g4⟩:=qJK l h60 hk1 (fun (i:Int) h0 h1=>(qE7.1 ho i h0 h1).2) l.length ((l.length:Int)-1) (by omega) (by omega) (by omega) (by omega)
     exact ⟨n4,fun _=>g4⟩
    ·exact ⟨0,fun h=>absurd h ho⟩
   refine ⟨n1+n2+n3+n4+l.length+5,fun n hn=>?_⟩
   obtain ⟨m,rfl,hm⟩:=up1 hn
   have hlp:=qQq l m h60 hk1 (fun c hc=>by
    have:=g2 m (by omega) c hc
    split at this
    ·assumption
    ·cases this) (g1 m (by omega)) l.length 0 m (by omega) (by omega)
   have g3:=g3 m (by omega)
   dsimp only at g3
   simp only [Int.natCast_zero] at hlp
   have hw:IntKind.i64.wrap ((l.length:Int)-1)=(l.length:Int)-1:=qa (by omega)
   have hx:0≤(l.length:Int)-1∧(l.length:Int)-1<l.length:=by omega
   have hc:=qCf hx
   have a1:¬(l.length:Int)<1:=by omega
   have a2:¬(l.length:Int)>60:=by omega
   generalize hxe:(l.length:Int)-1=x at hw hx hc g3 g4⊢
   simp only [qBb,qCn,qC,qE,qG,qH,qJ,qK,Option.bind_some,qF,qM,qN,List.length_map,decide_eq_true_eq,a1,a2,if_false,hlp]
   unfold qE8
   rw [hxe]
   cases ho:qEy l 0 l.length with
   |false=>simp [qC,qE,qG,qH,qJ,qK,Option.bind_some,qF,qM,qN]
   |true=>
    have g4:=g4 ho m (by omega)
    simp only [if_true,qC,qE,qG,qH,qJ,qK,Option.bind_some,qF,qM,qN,List.length_map,hxe,hw,g3]
    by_cases ht:qCc (qU l) l.length x=0
    ·by_cases ha:(ndi l x).1=3
     ·simp [-getElem?_pos,qC,qE,qG,qH,qJ,qK,Option.bind_some,qF,qM,qN,ht,hx,hc,qBU,qA9,qAk,qAR,qAS,qAT,qAU,qAV,qAW,qAX,qAY,qAZ,qAa,qt,qu,qv,qw,ha,qBY]
     ·simp [-getElem?_pos,qC,qE,qG,qH,qJ,qK,Option.bind_some,qF,qM,qN,ht,hx,hc,qBU,qA9,qAk,qAR,qAS,qAT,qAU,qAV,qAW,qAX,qAY,qAZ,qAa,qt,qu,qv,qw,ha,qBY,g4,h1,h60]
    ·simp [-getElem?_pos,qC,qE,qG,qH,qJ,qK,Option.bind_some,qF,qM,qN,ht]
  ·refine ⟨1,fun n hn=>?_⟩
   obtain ⟨m,rfl,hm⟩:=up1 (n0:=0) hn
   have a1:¬(l.length:Int)<1:=by omega
   have a2:(l.length:Int)>60:=by omega
   simp [-getElem?_pos,qBb,qCn,qC,qE,qG,qH,qJ,qK,Option.bind_some,qF,qM,qN,a1,a2,qE8,h60]
 ·refine ⟨1,fun n hn=>?_⟩
  obtain ⟨m,rfl,hm⟩:=up1 (n0:=0) hn
  have a1:(l.length:Int)<1:=by omega
  simp [-getElem?_pos,qBb,qCn,qC,qE,qG,qH,qJ,qK,Option.bind_some,qF,qM,qN,a1,qE8,h1]
theorem qOy (l:List Nd) (x1 d:Int) (f n:Nat) (hx:0≤x1∧x1<l.length) (hl:l.length≤140737488351232) (hd:0≤d∧d≤1000) (hk:(kd (ndi l x1)).length≤140737488351232)
  (hrec:∀y:Int,0≤y→y<x1→qAh n (l.map qb) y (d+1)=some (qCU (qFW l) (qBY l) (qB3 l) (qU l) f y)):
  ∀(j M:Nat) (s:Int),j≤(kd (ndi l x1)).length→j+1≤M→0≤s→s≤x1→
   zC (qAP (qAh n) n) M (l.map qb,x1,d,s,(j:Int)-1)=some (.inr (goF (qBY l) (qB3 l) (qCU (qFW l) (qBY l) (qB3 l) (qU l) f) x1 ((qU l x1).take j).reverse s))∨
   (zC (qAP (qAh n) n) M (l.map qb,x1,d,s,(j:Int)-1)=some (.inl (-1))∧goF (qBY l) (qB3 l) (qCU (qFW l) (qBY l) (qB3 l) (qU l) f) x1 ((qU l x1).take j).reverse s= -1)
 |0,0,s,h1,h2,h3,h4=>by omega
 |0,M+1,s,h1,h2,h3,h4=>by
  refine .inl ?_
  rw [qP (r:= .inr s) (by simp [-getElem?_pos,qAP,qC,qE,qG,qH,qJ,qK,Option.bind_some,qF,qM,qN])]
  simp [goF]
 |j+1,0,s,h1,h2,h3,h4=>by omega
 |j+1,M+1,s,h1,h2,h3,h4=>by
  have hc:=qCf hx
  have hj:j<(kd (ndi l x1)).length:=by omega
  have hg:(qU l x1)[j]?=some (qU l x1)[j]:=List.getElem?_eq_getElem hj
  have ih:=qOy l x1 d f n hx hl hd hk hrec j M
  rw [qPw hg]
  generalize (qU l x1)[j]=k at hg
  have hi:(((j+1:Nat):Int)-1)=(j:Int):=by omega
  rw [hi,goF]
  have hg':(ndi l x1).2.2.2.2.2.2.2.2.2.2.2.2.2[j]?=some k:=hg
  have hj':j<(ndi l x1).2.2.2.2.2.2.2.2.2.2.2.2.2.length:=hj
  have hws:IntKind.i64.wrap (s-1)=s-1:=qa (by omega)
  by_cases hks:k=s-1
  ·by_cases hk0:k<0
   ·refine .inr ⟨?_,by rw [if_pos (.inr (.inl hk0))]⟩
    rw [qP (r:= .inl (-1)) (by simp [-getElem?_pos,qAP,qC,qE,qG,qH,qJ,qK,Option.bind_some,qF,qM,qN,hc,hx,qBU,qA9,qAk,qAR,qAS,qAT,qAU,qAV,qAW,qAX,qAY,qAZ,qAa,qt,qu,qv,qw,hg',hj',hks,hws,show s-1<0 by omega])]
   ·have hws':IntKind.i64.wrap (s-1)=k:=by rw [hws,hks]
    have hkx:0≤k∧k<l.length:=by omega
    have hck:=qCf hkx
    by_cases hac:qBY l k=true∧qB3 l x1=false
    ·have ha:(ndi l k).1=3:=by simpa [qBY] using hac.1
     have hb:¬(ndi l x1).1=6:=by simpa [qB3] using hac.2
     refine .inr ⟨?_,by rw [if_pos (.inr (.inr hac))]⟩
     rw [qP (r:= .inl (-1)) (by simp [-getElem?_pos,qAP,qC,qE,qG,qH,qJ,qK,Option.bind_some,qF,qM,qN,hc,hx,qBU,qA9,qAk,qAR,qAS,qAT,qAU,qAV,qAW,qAX,qAY,qAZ,qAa,qt,qu,qv,qw,hg',hj',hws',hk0,hck,hkx,ha,hb])]
    ·have hr:=hrec k (by omega) (by omega)
     have hwd:IntKind.i64.wrap (d+1)=d+1:=qa (by omega)
     have hw2:IntKind.i64.wrap ((j:Int)-1)=(j:Int)-1:=qa (by omega)
     have hno:¬(k≠s-1∨k<0∨(qBY l k=true∧qB3 l x1=false)):=fun h=>by
      rcases h with h|h|h
      ·exact h hks
      ·exact hk0 h
      ·exact hac h
     have hcase:¬(ndi l k).1=3∨((ndi l k).1=3∧(ndi l x1).1=6):=by
      by_cases ha:(ndi l k).1=3
      ·refine .inr ⟨ha,?_⟩
       refine Decidable.byContradiction fun hb=>hac ⟨by simp [qBY,ha],by simp [qB3,hb]⟩
      ·exact .inl ha
     rw [if_neg hno]
     by_cases ht:qCU (qFW l) (qBY l) (qB3 l) (qU l) f k<0
     ·refine .inr ⟨?_,by rw [if_pos ht]⟩
      rcases hcase with ha|⟨ha,hb⟩
      ·rw [qP (r:= .inl (-1)) (by simp [-getElem?_pos,qAP,qC,qE,qG,qH,qJ,qK,Option.bind_some,qF,qM,qN,hc,hx,qBU,qA9,qAk,qAR,qAS,qAT,qAU,qAV,qAW,qAX,qAY,qAZ,qAa,qt,qu,qv,qw,hg',hj',hws',hk0,hck,hkx,ha,hwd,hr,ht])]
      ·rw [qP (r:= .inl (-1)) (by simp [-getElem?_pos,qAP,qC,qE,qG,qH,qJ,qK,Option.bind_some,qF,qM,qN,hc,hx,qBU,qA9,qAk,qAR,qAS,qAT,qAU,qAV,qAW,qAX,qAY,qAZ,qAa,qt,qu,qv,qw,hg',hj',hws',hk0,hck,hkx,ha,hb,hwd,hr,ht])]
     ·rw [if_neg ht]
      have hb1:=(qPX (qFW l) (qBY l) (qB3 l) (qU l) f (k.toNat+1) k (by omega) (by omega) (by omega)).1
      have hstep:zC (qAP (qAh n) n) (M+1) (l.map qb,x1,d,s,(j:Int))=zC (qAP (qAh n) n) M (l.map qb,x1,d,qCU (qFW l) (qBY l) (qB3 l) (qU l) f k,(j:Int)-1):=by
       rcases hcase with ha|⟨ha,hb⟩
       ·rw [qX (v':=(l.map qb,x1,d,qCU (qFW l) (qBY l) (qB3 l) (qU l) f k,(j:Int)-1)) (by simp [-getElem?_pos,qAP,qC,qE,qG,qH,qJ,qK,Option.bind_some,qF,qM,qN,hc,hx,qBU,qA9,qAk,qAR,qAS,qAT,qAU,qAV,qAW,qAX,qAY,qAZ,qAa,qt,qu,qv,qw,hg',hj',hws',hk0,hck,hkx,ha,hwd,hr,ht,hw2])]
       ·rw [qX (v':=(l.map qb,x1,d,qCU (qFW l) (qBY l) (qB3 l) (qU l) f k,(j:Int)-1)) (by simp [-getElem?_pos,qAP,qC,qE,qG,qH,qJ,qK,Option.bind_some,qF,qM,qN,hc,hx,qBU,qA9,qAk,qAR,qAS,qAT,qAU,qAV,qAW,qAX,qAY,qAZ,qAa,qt,qu,qv,qw,hg',hj',hws',hk0,hck,hkx,ha,hb,hwd,hr,ht,hw2])]
      rw [hstep]
      exact ih _ (by omega) (by omega) (by omega) (by omega)
  ·refine .inr ⟨?_,by rw [if_pos (.inl hks)]⟩
   rw [qP (r:= .inl (-1)) (by simp [-getElem?_pos,qAP,qC,qE,qG,qH,qJ,qK,Option.bind_some,qF,qM,qN,hc,hx,qBU,qA9,qAk,qAR,qAS,qAT,qAU,qAV,qAW,qAX,qAY,qAZ,qAa,qt,qu,qv,qw,hg',hj',hws,hks])]
theorem qLI (l:List Nd) (hl:l.length≤140737488351232) (hk:∀c∈l,(kd c).length≤140737488351232∧c.2.2.2.2.1.size≤140737488351232):∀(f:Nat) (x d:Int),x<l.length→d=12-f→0≤d→Ev (qAh · (l.map qb) x d) (qCU (qFW l) (qBY l) (qB3 l) (qU l) f x)
 |0,x,d,h1,h2,h3=>by
  refine ⟨1,fun n hn=>?_⟩
  obtain ⟨m,rfl,hm⟩:=up1 (n0:=0) hn
  have a:d≥12:=by omega
  by_cases h:x<0<;>simp [-getElem?_pos,qAh,qE3,qC,qE,qG,qH,qJ,qK,Option.bind_some,qF,qM,qN,h,a,qCU]
 |f+1,x,d,h1,h2,h3=>by
  by_cases h0:x<0
  ·refine ⟨1,fun n hn=>?_⟩
   obtain ⟨m,rfl,hm⟩:=up1 (n0:=0) hn
   simp [-getElem?_pos,qAh,qE3,qC,qE,qG,qH,qJ,qK,Option.bind_some,qF,qM,qN,h0,qCU]
  ·have hx:0≤x∧x<l.length:=by omega
   have hc:=qCf hx
   have hm':=qH0 hx
   obtain ⟨n0,hn0⟩:=qPx (F:=fun y n=>qAh n (l.map qb) y (d+1)) (f:=fun y=>qCU (qFW l) (qBY l) (qB3 l) (qU l) f y) x (fun y h3 h4=>qLI l hl hk f y (d+1) (by omega) (by omega) (by omega))
   obtain ⟨n1,g1⟩:=qOk (ndi l x) (hk _ hm').2
   refine ⟨n0+n1+(kd (ndi l x)).length+5,fun n hn=>?_⟩
   obtain ⟨m,rfl,hm⟩:=up1 hn
   have g1:=g1 m (by omega)
   have h:=qOy l x d f m hx hl (by omega) (hk _ hm').1 (hn0 m (by omega)) (kd (ndi l x)).length m x (Nat.le_refl _) (by omega) (by omega) (by omega)
   have e:(qU l x).take (kd (ndi l x)).length=qU l x:=List.take_length
   rw [e] at h
   have hw2:IntKind.i64.wrap (((kd (ndi l x)).length:Int)-1)=((kd (ndi l x)).length:Int)-1:=by
    have:=(hk _ hm').1
    exact qa (by omega)
   have a:¬d≥12:=by omega
   unfold kd at h hw2
   dsimp only at g1⊢
   simp only [qAh,qE3,qCU,qC,qE,qG,qH,qJ,qK,Option.bind_some,qF,qM,qN]
   cases hnb:qEX (ndi l x) with
   |false=>
    rw [hnb] at g1
    simp [-getElem?_pos,qC,qE,qG,qH,qJ,qK,Option.bind_some,qF,qM,qN,h0,a,hc,hx,qBU,qA9,qAk,qAR,qAS,qAT,qAU,qAV,qAW,qAX,qAY,qAZ,qAa,qt,qu,qv,qw,g1,qFW,hnb]
   |true=>
    rw [hnb] at g1
    rcases h with h|⟨h,h'⟩
    ·simp [-getElem?_pos,qC,qE,qG,qH,qJ,qK,Option.bind_some,qF,qM,qN,h0,a,hc,hx,qBU,qA9,qAk,qAR,qAS,qAT,qAU,qAV,qAW,qAX,qAY,qAZ,qAa,qt,qu,qv,qw,g1,qFW,hnb,hw2,h]
    ·simp only [h']
     simp [-getElem?_pos,qC,qE,qG,qH,qJ,qK,Option.bind_some,qF,qM,qN,h0,a,hc,hx,qBU,qA9,qAk,qAR,qAS,qAT,qAU,qAV,qAW,qAX,qAY,qAZ,qAa,qt,qu,qv,qw,g1,qFW,hnb,hw2,h]
theorem qRT {l:List Nd}:qE8 l=(decide (1≤l.length∧l.length≤60)&&(!qBY l ((l.length:Int)-1)&&decide (qCU (qFW l) (qBY l) (qB3 l) (qU l) 12 ((l.length:Int)-1)=0))):=by
 rw [Bool.eq_iff_iff]
 unfold qE8
 simp only [Bool.and_eq_true,decide_eq_true_eq]
 constructor
 ·intro ⟨h1,h2,h3,h4,h5⟩
  refine ⟨h1,h4,?_⟩
  rw [qQo (qFW l) (qBY l) (qB3 l) (qU l) 12 l.length l.length ((l.length:Int)-1) (by omega) (by omega) (by omega) (fun i i0 i1=>qE7.1 h2 i i0 (by omega)) (by omega) (by simpa using h5)]
  exact h3
 ·intro ⟨h1,h4,h5⟩
  obtain ⟨b1,b2,b3,b4⟩:=qPX (qFW l) (qBY l) (qB3 l) (qU l) 12 l.length ((l.length:Int)-1) (by omega) (by omega) (by omega)
  rw [h5] at b2 b3
  refine ⟨h1,qE7.2 (fun i i0 i1=>b3 i i0 (by omega)),b2,h4,?_⟩
  have:=b4 l.length (fun i i0 i1=>(b3 i i0 i1).2) (by omega)
  simpa using this
theorem qGh (l:List Nd) (hl:l.length≤140737488351232) (hk:∀c∈l,(kd c).length≤140737488351232∧c.2.2.2.2.1.size≤140737488351232):Ev (qBh · (l.map qb)) (qE8 l):=by
 rw [qRT]
 by_cases h:1≤l.length∧l.length≤60
 ·obtain ⟨n1,g1⟩:=qLI l hl hk 12 ((l.length:Int)-1) 0 (by omega) (by omega) (by omega)
  obtain ⟨n2,g2⟩:=qAF (l.length:Int) 1 60
  refine ⟨n1+n2+1,fun n hn=>?_⟩
  obtain ⟨m,rfl,hm⟩:=up1 hn
  have g1:=g1 m (by omega)
  have g2:=g2 m (by omega)
  dsimp only at g1 g2⊢
  have hw:IntKind.i64.wrap ((l.length:Int)-1)=(l.length:Int)-1:=qa (by omega)
  have hx:0≤(l.length:Int)-1∧(l.length:Int)-1<l.length:=by omega
  have hc:=qCf hx
  have h':(1:Int)≤l.length∧(l.length:Int)≤60:=by omega
  generalize hxe:(l.length:Int)-1=x at hw hx hc g1⊢
  by_cases ha:(ndi l x).1=3
  ·simp [-getElem?_pos,qBh,qCs,qC,qE,qG,qH,qJ,qK,Option.bind_some,qF,qM,qN,hxe,g2,h',hw,hx,hc,qBU,qA9,qAk,qAR,qAS,qAT,qAU,qAV,qAW,qAX,qAY,qAZ,qAa,qt,qu,qv,qw,ha,qBY]
  ·by_cases hf:qCU (qFW l) (qBY l) (qB3 l) (qU l) 12 x=0<;>simp [-getElem?_pos,qBh,qCs,qC,qE,qG,qH,qJ,qK,Option.bind_some,qF,qM,qN,hxe,g1,g2,h,h',hw,hx,hc,qBU,qA9,qAk,qAR,qAS,qAT,qAU,qAV,qAW,qAX,qAY,qAZ,qAa,qt,qu,qv,qw,ha,qBY,hf]
 ·obtain ⟨n2,g2⟩:=qAF (l.length:Int) 1 60
  refine ⟨n2+1,fun n hn=>?_⟩
  obtain ⟨m,rfl,hm⟩:=up1 hn
  have g2:=g2 m (by omega)
  dsimp only at g2⊢
  have h':¬((1:Int)≤l.length∧(l.length:Int)≤60):=by omega
  simp [-getElem?_pos,qBh,qCs,qC,qE,qG,qH,qJ,qK,Option.bind_some,qF,qM,qN,g2,h,h']
def qBZ (l:List UInt8):List UInt8:=l.flatMap fun c=>if c=34 then [34,34] else [c]
def qME (s:ByteArray):ByteArray:=⟨(34::qBZ s.toList++ [34]).toArray⟩
theorem qGF (c:UInt8) (l:List UInt8):qBZ (c::l)=(if c=34 then [34,34] else [c])++qBZ l:=by simp [qBZ]
theorem qOz (l r:List UInt8):qBZ (l++r)=qBZ l++qBZ r:=by simp [qBZ]
theorem qHc:∀l:List UInt8,(qBZ l).length≤2*l.length
 | []=>by simp [qBZ]
 |c::l=>by
  have:=qHc l
  rw [qGF]
  by_cases h:c=34<;>simp [h]<;>omega
theorem qKB:∀s:List UInt8,Lib.replaceK [34] [34,34] (Lib.count s [34]) s=qBZ s
 | []=>by
  rw [Lib.count_miss (by rfl)]
  rfl
 |b::l=>by
  have ih:=qKB l
  by_cases hb:b=34
  ·subst hb
   have h0:Lib.index (34::l) [34]=((0:Nat):Int):=by simp [Lib.index,List.isPrefixOf]
   rw [Lib.count_hit (by simp) h0,Nat.add_comm,Lib.replaceK_hit _ _ _ _ 0 h0]
   simp only [List.take_zero,List.nil_append,Nat.zero_add,List.length_singleton,List.drop_succ_cons,List.drop_zero]
   rw [ih,qGF,if_pos rfl]
  ·have hix:Lib.index (b::l) [34]=if Lib.index l [34]== -1 then-1 else Lib.index l [34]+1:=by
    have:((34:UInt8)==b)=false:=by simpa using fun e=>hb e.symm
    simp [Lib.index,List.isPrefixOf,this]
   rw [qGF,if_neg hb]
   by_cases hm:Lib.index l [34]= -1
   ·rw [hm] at hix
    rw [Lib.count_miss hm] at ih
    rw [Lib.count_miss (by rw [hix];rfl)]
    rw [Lib.replaceK] at ih⊢
    rw [←ih]
    rfl
   ·have hge:=Lib.index_ge l [34]
    obtain ⟨i,hi⟩:∃i:Nat,Lib.index l [34]=i:=⟨(Lib.index l [34]).toNat,by omega⟩
    have hix':Lib.index (b::l) [34]=((i+1:Nat):Int):=by
     rw [hix,if_neg (by simp [hm]),hi]
     omega
    rw [Lib.count_hit (by simp) hi,Nat.add_comm,Lib.replaceK_hit _ _ _ _ i hi] at ih
    rw [Lib.count_hit (by simp) hix',Nat.add_comm,Lib.replaceK_hit _ _ _ _ (i+1) hix']
    rw [←ih]
    simp only [List.length_singleton,List.take_succ_cons,List.drop_succ_cons,List.cons_append,List.singleton_append,List.nil_append]
theorem qMF (s:List UInt8):Lib.replaceAll s [34] [34,34]=qBZ s:=by
 have h1:(([34]:List UInt8)== [34,34])=false:=by decide
 have h2:Lib.replaceNum s [34] (-1)=Lib.count s [34]:=by unfold Lib.replaceNum;rw [if_pos (.inl (by decide))]
 unfold Lib.replaceAll Lib.replace
 rw [h1,h2]
 exact qKB s
theorem qRu {s:ByteArray} {i:Nat} {c:UInt8} (h:s.toList[i]?=some c):s.extract i (i+1)=⟨#[c]⟩:=by
 apply qGc
 rw [Go.Lib.toList_data] at h
 rw [ByteArray.data_extract,Array.toList_extract]
 show (s.data.toList.drop i).take (i+1-i)=_
 rw [qEm h,Nat.add_sub_cancel_left]
 rfl
theorem qQO (n:Nat) (s A:ByteArray) (i:Nat) (c:UInt8) (hg:s.toList[i]?=some c) (hi:i<s.size) (hA:A.size≤10000) (hs:s.size≤1000):
  (qBP n (s,A,(i:Int))).run=some (.inl (s,if c=34 then (A++⟨#[34]⟩)++⟨#[c]⟩ else A++⟨#[c]⟩,((i+1:Nat):Int))):=by
 have hi':(i:Int)<s.size:=by omega
 have w1:IntKind.i64.wrap ((i:Int)+1)=((i+1:Nat):Int):=by rw [qa (by omega)];omega
 have hx:=qRu hg
 have d1:(⟨#[34]⟩:ByteArray).size=1:=rfl
 have d2:(⟨#[c]⟩:ByteArray).size=1:=rfl
 have y1:(0:Int)≤(i:Int)∧(i:Int)≤((i+1:Nat):Int)∧((i+1:Nat):Int)≤s.size:=by omega
 have y0:(0:Int)≤(i:Int):=by omega
 have z1:A.size+(⟨#[34]⟩:ByteArray).size≤9223372036854775807:=by omega
 have z2:(A++(⟨#[34]⟩:ByteArray)).size+(⟨#[c]⟩:ByteArray).size≤9223372036854775807:=by rw [ByteArray.size_append];omega
 have z3:A.size+(⟨#[c]⟩:ByteArray).size≤9223372036854775807:=by omega
 by_cases hc:c=34
 ·have hb:((c.toNat:Int)==(34:Int))=true:=by rw [hc];rfl
  rw [if_pos hc]
  simp only [qBP,qC,qE,qG,qH,qJ,qK,Option.bind_some,qF,qM,qN,decide_eq_true hi',decide_eq_true y0,Int.toNat_natCast,hg,hb,decide_eq_true z1,w1,decide_eq_true y1,hx,decide_eq_true z2,if_true]
 ·have hb:((c.toNat:Int)==(34:Int))=false:=by
   have:c.toNat≠34:=fun e=>hc (UInt8.toNat_inj.1 e)
   simp
   omega
  simp only [qBP,qC,qE,qG,qH,qJ,qK,Option.bind_some,qF,qM,qN,decide_eq_true hi',decide_eq_true y0,Int.toNat_natCast,hg,hb,w1,decide_eq_true y1,hx,decide_eq_true z3,if_true,hc,if_false,Bool.false_eq_true]
theorem qN7 (n:Nat) (s:ByteArray) (hs:s.size≤1000):∀(r pre:List UInt8) (M:Nat),s.toList=pre++r→r.length+1≤M→
  zC (qBP n) M (s,⟨(34::qBZ pre).toArray⟩,(pre.length:Int))=some ⟨(34::qBZ s.toList).toArray⟩
 |r,pre,0,h1,h2=>by omega
 | [],pre,M+1,h1,h2=>by
  have hi:¬(pre.length:Int)<s.size:=by rw [qBp,h1];simp
  rw [h1,List.append_nil]
  generalize (⟨(34::qBZ pre).toArray⟩:ByteArray)=A
  rw [qP (r:=A) (by simp [qBP,qC,qE,qG,qH,qJ,qK,Option.bind_some,qF,qM,qN,hi])]
 |c::r,pre,M+1,h1,h2=>by
  have hl:s.size=pre.length+(r.length+1):=by rw [qBp,h1];simp
  have hg:s.toList[pre.length]?=some c:=by rw [h1];simp
  have hq:=qHc pre
  have hA:(⟨(34::qBZ pre).toArray⟩:ByteArray).size≤10000:=by
   rw [qCe]
   simp
   omega
  rw [qX (qQO n s _ pre.length c hg (by omega) hA hs)]
  have e:(if c=34 then ((⟨(34::qBZ pre).toArray⟩:ByteArray)++⟨#[34]⟩)++⟨#[c]⟩ else (⟨(34::qBZ pre).toArray⟩:ByteArray)++⟨#[c]⟩)=⟨(34::qBZ (pre++ [c])).toArray⟩:=by
   apply qGc
   by_cases hc:c=34
   ·rw [if_pos hc,qC2,qC2,qOz,qGF,if_pos hc,hc]
    simp [qBZ]
   ·rw [if_neg hc,qC2,qOz,qGF,if_neg hc]
    simp [qBZ]
  rw [e]
  have h:=qN7 n s hs r (pre++ [c]) M (by rw [h1];simp) (by simp at h2;omega)
  rw [show ((pre++ [c]).length:Int)=((pre.length+1:Nat):Int) by simp] at h
  exact h
theorem qQP (s:ByteArray):(qME s).size≤2*s.size+2:=by
 have:=qHc s.toList
 rw [qAQ] at this
 rw [qCe]
 simp [qME]
 omega
theorem qNA (s:ByteArray) (hs:s.size≤1000):Ev (qEE · s) (qME s):=by
 refine ⟨s.size+5,fun n hn=>?_⟩
 obtain ⟨m,rfl,hm⟩:=up1 hn
 have h:=qN7 m s hs s.toList [] m rfl (by rw [qAQ];omega)
 simp only [List.length_nil,Int.natCast_zero] at h
 have e0:(⟨(34::qBZ []).toArray⟩:ByteArray)=⟨#[34]⟩:=rfl
 rw [e0] at h
 have hz:(⟨(34::qBZ s.toList).toArray⟩:ByteArray).size+(⟨#[34]⟩:ByteArray).size≤9223372036854775807:=by
  have:=qHc s.toList
  rw [qAQ] at this
  have d1:(⟨#[34]⟩:ByteArray).size=1:=rfl
  rw [qCe,d1]
  simp
  omega
 simp only [qEE,qFn,qC,qE,qG,qH,qJ,qK,Option.bind_some,qF,qM,qN,h,decide_eq_true hz,if_true]
 congr 1
theorem qOl (s:ByteArray) (hs:s.size≤1000):Ev (qDG · s ⟨#[34]⟩ ⟨#[34,34]⟩) ⟨(qBZ s.toList).toArray⟩:=by
 refine ⟨1,fun n hn=>?_⟩
 obtain ⟨m,rfl,hm⟩:=up1 (n0:=0) hn
 show zd s ⟨#[34]⟩ ⟨#[34,34]⟩=_
 have hc:=Lib.countB_mul_le (⟨#[34]⟩:ByteArray) (by decide) s.size s (Nat.le_refl _)
 have d1:(⟨#[34]⟩:ByteArray).size=1:=rfl
 have d2:(⟨#[34,34]⟩:ByteArray).size=2:=rfl
 unfold zd
 rw [d1] at hc
 rw [if_pos (by rw [d1,d2];omega)]
 congr 3
 rw [←Go.Lib.toList_data]
 exact qMF _
def lvl (op:Int):Int:=if op≥6 then 1 else if op=5 then 2 else if op≥3 then 4 else 3
theorem qQQ (op:Int):1≤lvl op∧lvl op≤4:=by
 unfold lvl
 split
 ·omega
 ·split
  ·omega
  ·split<;>omega
theorem qIU (op:Int):Ev (qB8 · op) (lvl op):=by
 refine ⟨1,fun n hn=>?_⟩
 obtain ⟨m,rfl,hm⟩:=up1 hn
 simp only [qB8,qFj,qC,qE,qG,qH,qJ,qK,Option.bind_some,qF,qM,qN]
 unfold lvl
 by_cases h1:op≥6
 ·simp [h1]
 ·by_cases h2:op=5
  ·simp [h2]
  ·by_cases h3:op≥3<;>simp [h1,h2,h3]
theorem qRv {op:Int} (h:1≤op∧op≤11):op=1∨op=2∨op=3∨op=4∨op=5∨op=6∨op=7∨op=8∨op=9∨op=10∨op=11:=by omega
theorem qKC (op:Int) (h:1≤op∧op≤11):Ev (qDQ · op) (lvl op):=by
 refine ⟨1,fun n hn=>?_⟩
 obtain ⟨m,rfl,hm⟩:=up1 hn
 simp only [qDQ,qHr,qC,qE,qG,qH,qJ,qK,Option.bind_some,qF,qM,qN]
 rcases qRv h with rfl|rfl|rfl|rfl|rfl|rfl|rfl|rfl|rfl|rfl|rfl<;>rfl
def qAK (op:Int):ByteArray:=if op=1 then ⟨#[43]⟩ else if op=2 then ⟨#[45]⟩ else if op=3 then ⟨#[42]⟩ else if op=4 then ⟨#[47]⟩ else if op=5 then ⟨#[38]⟩ else if op=6 then ⟨#[61]⟩ else if op=7 then ⟨#[60,62]⟩ else if op=8 then ⟨#[60]⟩ else if op=9 then ⟨#[60,61]⟩ else if op=10 then ⟨#[62]⟩ else ⟨#[62,61]⟩
def fnS (op:Int):ByteArray:=if op=1 then ⟨#[83,85,77]⟩ else if op=2 then ⟨#[77,73,78]⟩ else if op=3 then ⟨#[77,65,88]⟩ else if op=4 then ⟨#[67,79,85,78,84]⟩ else if op=5 then ⟨#[73,70]⟩ else if op=6 then ⟨#[65,78,68]⟩ else if op=7 then ⟨#[79,82]⟩ else if op=8 then ⟨#[78,79,84]⟩ else if op=9 then ⟨#[65,66,83]⟩ else ⟨#[76,69,78]⟩
theorem qKj {op:Int} (h:1≤op∧op≤11):(qAK op).size≤2:=by
 rcases qRv h with rfl|rfl|rfl|rfl|rfl|rfl|rfl|rfl|rfl|rfl|rfl<;>decide
theorem qN8 {op:Int} (h:1≤op∧op≤10):(fnS op).size≤5:=by
 rcases ten h with rfl|rfl|rfl|rfl|rfl|rfl|rfl|rfl|rfl|rfl<;>decide
theorem qJL (op:Int) (h:1≤op∧op≤11):Ev (qCX · op) (qAK op):=by
 refine ⟨1,fun n hn=>?_⟩
 obtain ⟨m,rfl,hm⟩:=up1 hn
 simp only [qCX,qGq,qC,qE,qG,qH,qJ,qK,Option.bind_some,qF,qM,qN]
 rcases qRv h with rfl|rfl|rfl|rfl|rfl|rfl|rfl|rfl|rfl|rfl|rfl<;>rfl
theorem qGG (op:Int) (h:1≤op∧op≤11):Ev (qBL · op) (qAK op):=by
 refine ⟨1,fun n hn=>?_⟩
 obtain ⟨m,rfl,hm⟩:=up1 hn
 simp only [qBL,qG2,qC,qE,qG,qH,qJ,qK,Option.bind_some,qF,qM,qN]
 rcases qRv h with rfl|rfl|rfl|rfl|rfl|rfl|rfl|rfl|rfl|rfl|rfl<;>rfl
theorem qLJ (op:Int) (h:1≤op∧op≤10):Ev (qCK · op) (fnS op):=by
 refine ⟨1,fun n hn=>?_⟩
 obtain ⟨m,rfl,hm⟩:=up1 hn
 simp only [qCK,qIn,qC,qE,qG,qH,qJ,qK,Option.bind_some,qF,qM,qN]
 rcases ten h with rfl|rfl|rfl|rfl|rfl|rfl|rfl|rfl|rfl|rfl<;>rfl
theorem qJM (op:Int) (h:1≤op∧op≤10):Ev (qB2 · op) (fnS op):=by
 refine ⟨1,fun n hn=>?_⟩
 obtain ⟨m,rfl,hm⟩:=up1 hn
 simp only [qB2,qG1,qC,qE,qG,qH,qJ,qK,Option.bind_some,qF,qM,qN]
 rcases ten h with rfl|rfl|rfl|rfl|rfl|rfl|rfl|rfl|rfl|rfl<;>rfl
def qN9 (xs:List ByteArray):ByteArray:=⟨(Lib.join (xs.map (·.data.toList)) [44]).toArray⟩
def par (b:Bool) (s:ByteArray):ByteArray:=if b=true then ((⟨#[40]⟩:ByteArray)++s)++⟨#[41]⟩ else s
def kid (c:Nd) (j:Nat):Int:=(kd c).getD j 0
def qq (l:List Nd):Nat→Int→Int→ByteArray
 |0,_,_=>⟨#[]⟩
 |f+1,i,t=>
  if (ndi l i).1=1 then (if (ndi l i).2.2.1=2 then qME (ndi l i).2.2.2.2.1 else qBx (ndi l i).2.2.1 (ndi l i).2.2.2.1 (ndi l i).2.2.2.2.1)
  else if (ndi l i).1=2 then qA8 (ndi l i).2.2.2.2.2.1 (ndi l i).2.2.2.2.2.2.1 (ndi l i).2.2.2.2.2.2.2.1 (ndi l i).2.2.2.2.2.2.2.2.1
  else if (ndi l i).1=3 then (qA8 (ndi l i).2.2.2.2.2.1 (ndi l i).2.2.2.2.2.2.1 (ndi l i).2.2.2.2.2.2.2.1 (ndi l i).2.2.2.2.2.2.2.2.1++⟨#[58]⟩)++qA8 (ndi l i).2.2.2.2.2.2.2.2.2.1 (ndi l i).2.2.2.2.2.2.2.2.2.2.1 (ndi l i).2.2.2.2.2.2.2.2.2.2.2.1 (ndi l i).2.2.2.2.2.2.2.2.2.2.2.2.1
  else if (ndi l i).1=4 then (⟨#[45]⟩:ByteArray)++qq l f (kid (ndi l i) 0) 5
  else if (ndi l i).1=5 then par (decide (lvl (ndi l i).2.1<t)) ((qq l f (kid (ndi l i) 0) (lvl (ndi l i).2.1)++qAK (ndi l i).2.1)++qq l f (kid (ndi l i) 1) (lvl (ndi l i).2.1+1))
  else ((fnS (ndi l i).2.1++⟨#[40]⟩)++qN9 ((qU l i).map fun k=>qq l f k 1))++⟨#[41]⟩
theorem qQr (l:List Nd) (f:Nat) (i:Int):qq l f i 0=qq l f i 1:=by
 cases f with
 |zero=>rfl
 |succ f=>
  have h:=qQQ (ndi l i).2.1
  have e:decide (lvl (ndi l i).2.1<0)=decide (lvl (ndi l i).2.1<1):=by
   rw [decide_eq_false (by omega),decide_eq_false (by omega)]
  simp only [qq,e]
theorem qJN {c:Nd} (h:qEX c=true):(c.1=1∧okV c.2.2.1 c.2.2.2.1 c.2.2.2.2.1=true)∨c.1=2∨c.1=3∨(c.1=4∧(kd c).length=1)∨(c.1=5∧(1≤c.2.1∧c.2.1≤11)∧(kd c).length=2)∨(c.1=6∧(1≤c.2.1∧c.2.1≤10)∧(1≤(kd c).length∧(kd c).length≤10)):=by
 unfold qEX at h
 by_cases k1:c.1=1
 ·rw [if_pos k1] at h
  simp only [Bool.and_eq_true] at h
  exact .inl ⟨k1,h.2.2.2.2.1⟩
 rw [if_neg k1] at h
 by_cases k2:c.1=2
 ·exact .inr (.inl k2)
 rw [if_neg k2] at h
 by_cases k3:c.1=3
 ·exact .inr (.inr (.inl k3))
 rw [if_neg k3] at h
 by_cases k4:c.1=4
 ·rw [if_pos k4] at h
  simp only [Bool.and_eq_true,decide_eq_true_eq] at h
  exact .inr (.inr (.inr (.inl ⟨k4,h.2.2.2.2⟩)))
 rw [if_neg k4] at h
 by_cases k5:c.1=5
 ·rw [if_pos k5] at h
  simp only [Bool.and_eq_true,decide_eq_true_eq] at h
  exact .inr (.inr (.inr (.inr (.inl ⟨k5,h.1,h.2.2.2.2⟩))))
 rw [if_neg k5] at h
 by_cases k6:c.1=6
 ·rw [if_pos k6] at h
  simp only [Bool.and_eq_true] at h
  have ha:=h.1
  unfold qHa at ha
  refine .inr (.inr (.inr (.inr (.inr ⟨k6,?_⟩))))
  by_cases h5:c.2.1=5
  ·rw [if_pos h5] at ha
   have:=of_decide_eq_true ha
   omega
  ·rw [if_neg h5] at ha
   by_cases h8:8≤c.2.1∧c.2.1≤10
   ·rw [if_pos h8] at ha
    have:=of_decide_eq_true ha
    omega
   ·rw [if_neg h8] at ha
    by_cases h1:1≤c.2.1∧c.2.1≤7
    ·rw [if_pos h1] at ha
     have:=of_decide_eq_true ha
     omega
    ·rw [if_neg h1] at ha
     cases ha
 ·rw [if_neg k6] at h
  cases h
def szB:Nat→Nat
 |0=>37
 |f+1=>11*szB f
theorem qRw:∀f:Fin 13,szB f.val≤120000000000000:=by decide
theorem qRU {f:Nat} (h:f≤12):szB f≤120000000000000:=qRw ⟨f,by omega⟩
theorem qRV:∀f:Nat,37≤szB f
 |0=>Nat.le_refl _
 |f+1=>by have:=qRV f;simp only [szB];omega
theorem qKD (x:List UInt8) (r:List (List UInt8)) (sep:List UInt8):Lib.joinTail sep (x::r)=sep++x++Lib.joinTail sep r:=by simp [Lib.joinTail]
theorem qLK:∀(xs:List ByteArray) (b:Nat),(∀x∈xs,x.size≤b)→(Lib.joinTail [44] (xs.map (·.data.toList))).length≤xs.length*(b+1)
 | [],b,h=>by simp [Lib.joinTail]
 |x::r,b,h=>by
  have ih:=qLK r b fun y hy=>h y (List.mem_cons_of_mem _ hy)
  have hx:=h x (List.mem_cons_self ..)
  rw [qCe] at hx
  rw [List.map_cons,qKD,List.length_append,List.length_append,List.length_singleton,List.length_cons,Nat.add_mul]
  omega
theorem qKk {xs:List ByteArray} {b:Nat} (h:∀x∈xs,x.size≤b):(qN9 xs).size≤xs.length*(b+1):=by
 rw [qCe]
 show (Lib.join (xs.map (·.data.toList)) [44]).length≤_
 cases xs with
 |nil=>simp [Lib.join_nil]
 |cons x r=>
  have h1:=qLK r b fun y hy=>h y (List.mem_cons_of_mem _ hy)
  have hx:=h x (List.mem_cons_self ..)
  rw [qCe] at hx
  rw [List.map_cons,Lib.join_cons,List.length_append,List.length_cons,Nat.add_mul]
  omega
structure Fine (l:List Nd):Prop where
 len:l.length≤60
 own:∀i:Int,0≤i→i<l.length→qFW l i=true∧qGE (qBY l) (qB3 l) (qU l) i
 sz:∀c∈l,(kd c).length≤140737488351232∧c.2.2.2.2.1.size≤140737488351232
theorem Fine.kid {l:List Nd} (h:Fine l) {f:Nat} {i k:Int} (hi:0≤i∧i<l.length) (hd:qAu (qU l) (i.toNat+1) i≤(f+1:Nat)) (hk:k∈qU l i):(0≤k∧k<l.length)∧qAu (qU l) (k.toNat+1) k≤f:=by
 have hin:=(h.own i hi.1 hi.2).2 k hk
 have h1:=(qN5 (qU l) (n:=i) (b:=((f+1:Nat):Int)) (f:=i.toNat) (by omega)).1 hd k hk
 refine ⟨by omega,?_⟩
 rw [qN6 (qBY l) (qB3 l) (qU l) (k.toNat+1) i.toNat k (by omega) (by omega) (fun j j0 j1=>(h.own j j0 (by omega)).2) (by omega)]
 omega
theorem qMG {l:List Nd} (h:Fine l):∀(f:Nat) (i t:Int),f≤12→(0≤i∧i<l.length)→qAu (qU l) (i.toNat+1) i≤f→(qq l f i t).size≤szB f
 |0,i,t,hf,hi,hd=>by show (⟨#[]⟩:ByteArray).size≤_;exact Nat.zero_le _
 |f+1,i,t,hf,hi,hd=>by
  have ih:=fun k hk t'=>qMG h f k t' (by omega) (h.kid hi hd hk).1 (h.kid hi hd hk).2
  have hs:=qRV f
  have hp:∀a b c d,(qA8 a b c d).size≤30:=qDJ
  have hz:=(h.sz _ (qH0 hi)).2
  have d1:(⟨#[58]⟩:ByteArray).size=1:=rfl
  have d2:(⟨#[45]⟩:ByteArray).size=1:=rfl
  have d3:(⟨#[40]⟩:ByteArray).size=1:=rfl
  have d4:(⟨#[41]⟩:ByteArray).size=1:=rfl
  have hk0:∀j,j<(kd (ndi l i)).length→kid (ndi l i) j∈qU l i:=fun j hj=>by
   unfold kid
   rw [List.getD_eq_getElem?_getD,List.getElem?_eq_getElem hj]
   exact List.getElem_mem hj
  rw [szB,qq]
  rcases qJN (h.own i hi.1 hi.2).1 with ⟨k,hv⟩|k|k|⟨k,hk⟩|⟨k,ho,hk⟩|⟨k,ho,hk⟩
  ·rw [if_pos k]
   by_cases k2:(ndi l i).2.2.1=2
   ·rw [if_pos k2]
    rw [k2] at hv
    have:=(qOr hv).2.1
    have:=qQP (ndi l i).2.2.2.2.1
    omega
   ·rw [if_neg k2]
    have:=qQM hv
    omega
  ·rw [if_neg (by omega),if_pos k]
   have:=hp (ndi l i).2.2.2.2.2.1 (ndi l i).2.2.2.2.2.2.1 (ndi l i).2.2.2.2.2.2.2.1 (ndi l i).2.2.2.2.2.2.2.2.1
   omega
  ·rw [if_neg (by omega),if_neg (by omega),if_pos k,ByteArray.size_append,ByteArray.size_append]
   have h1:=hp (ndi l i).2.2.2.2.2.1 (ndi l i).2.2.2.2.2.2.1 (ndi l i).2.2.2.2.2.2.2.1 (ndi l i).2.2.2.2.2.2.2.2.1
   have h2:=hp (ndi l i).2.2.2.2.2.2.2.2.2.1 (ndi l i).2.2.2.2.2.2.2.2.2.2.1 (ndi l i).2.2.2.2.2.2.2.2.2.2.2.1 (ndi l i).2.2.2.2.2.2.2.2.2.2.2.2.1
   omega
  ·rw [if_neg (by omega),if_neg (by omega),if_neg (by omega),if_pos k,ByteArray.size_append]
   have:=ih _ (hk0 0 (by omega)) 5
   omega
  ·rw [if_neg (by omega),if_neg (by omega),if_neg (by omega),if_neg (by omega),if_pos k]
   have h1:=ih _ (hk0 0 (by omega)) (lvl (ndi l i).2.1)
   have h2:=ih _ (hk0 1 (by omega)) (lvl (ndi l i).2.1+1)
   have h3:=qKj ho
   unfold par
   split
   ·rw [ByteArray.size_append,ByteArray.size_append,ByteArray.size_append,ByteArray.size_append]
    omega
   ·rw [ByteArray.size_append,ByteArray.size_append]
    omega
  ·rw [if_neg (by omega),if_neg (by omega),if_neg (by omega),if_neg (by omega),if_neg (by omega)]
   rw [ByteArray.size_append,ByteArray.size_append,ByteArray.size_append]
   have h1:=qN8 ho
   have h2:=qKk (xs:=(qU l i).map fun k=>qq l f k 1) (b:=szB f) (fun x hx=>by
    obtain ⟨k,hk,rfl⟩:=List.mem_map.1 hx
    exact ih k hk 1)
   have h3:(qU l i).length≤10:=hk.2
   have h4:(qU l i).length*(szB f+1)≤10*(szB f+1):=Nat.mul_le_mul_right _ h3
   rw [List.length_map] at h2
   omega
abbrev R14:=Int×Int×Int×Int×ByteArray×Int×Int×Bool×Bool×Int×Int×Bool×Bool×List (List PV)
theorem qOA (rec:List (List PV)→Int→Int→Option ByteArray) (n:Nat) (rows:List (List PV)) (A t:ByteArray) (R:R14) (i:Nat) (k:Int) (hg:R.2.2.2.2.2.2.2.2.2.2.2.2.2[i]?=some (qA3 k)) (hr:rec rows k 0=some t) (hA:A.size≤2000000000000000) (ht:t.size≤120000000000000) (hi:i≤1000):
  (qBQ rec n (rows,A,(i:Int),R)).run=some (.inl (rows,(if i=0 then A++t else (A++(⟨#[44]⟩:ByteArray))++t),((i+1:Nat):Int),R)):=by
 obtain ⟨a0,a1,a2,a3,a4,a5,a6,a7,a8,a9,a10,a11,a12,a13⟩:=R
 have hl:i<a13.length:=(List.getElem?_eq_some_iff.1 hg).1
 have h1:(i:Int)<(a13.length:Int):=by omega
 have h2:0≤(i:Int)∧(i:Int)<(a13.length:Int):=by omega
 have w1:IntKind.i64.wrap ((i:Int)+1)=((i+1:Nat):Int):=by rw [qa (by omega)];omega
 have d1:(⟨#[44]⟩:ByteArray).size=1:=rfl
 have z1:A.size+(⟨#[44]⟩:ByteArray).size≤9223372036854775807:=by omega
 have z2:(A++(⟨#[44]⟩:ByteArray)).size+t.size≤9223372036854775807:=by rw [ByteArray.size_append];omega
 have z3:A.size+t.size≤9223372036854775807:=by omega
 by_cases h0:i=0
 ·subst h0
  simp only [qBQ,qC,qE,qG,qH,qJ,qK,Option.bind_some,qF,qM,qN,decide_eq_true h1,Int.natCast_zero,gt_iff_lt,Int.lt_irrefl,decide_false,Bool.false_eq_true,if_false,if_true] at*
  simp only [decide_eq_true h1,decide_eq_true h2,if_true,Int.toNat_zero,hg,Option.bind_some,qA9,qAk,decide_true,hr,decide_eq_true z3,w1]
 ·have hp:(i:Int)>0:=by omega
  simp only [qBQ,qC,qE,qG,qH,qJ,qK,Option.bind_some,qF,qM,qN,decide_eq_true h1,decide_eq_true hp,if_true,decide_eq_true z1,decide_eq_true h2,Int.toNat_natCast,hg,qA9,qAk,decide_true,hr,decide_eq_true z2,w1,h0,if_false]
theorem qO0 (l:List Nd) (f n:Nat) (R:R14) (b:Nat) (hb:b≤120000000000000) (ks:List Int) (hks:R.2.2.2.2.2.2.2.2.2.2.2.2.2=ks.map qA3) (hk10:ks.length≤10)
  (hr:∀k∈ks,ql n (l.map qb) k 0=some (qq l f k 1)∧(qq l f k 1).size≤b):
  ∀(r pre:List Int) (A:ByteArray) (M:Nat),ks=pre++r→r.length+1≤M→A.size≤100+pre.length*(b+1)→
   zC (qBQ (ql n) n) M (l.map qb,A,(pre.length:Int),R)=some ⟨(A.data.toList++(if pre.length=0 then Lib.join (r.map fun k=>(qq l f k 1).data.toList) [44] else Lib.joinTail [44] (r.map fun k=>(qq l f k 1).data.toList))).toArray⟩
 |r,pre,A,0,h1,h2,h3=>by omega
 | [],pre,A,M+1,h1,h2,h3=>by
  obtain ⟨a0,a1,a2,a3,a4,a5,a6,a7,a8,a9,a10,a11,a12,a13⟩:=R
  simp only at hks
  subst hks
  have hi:¬(pre.length:Int)<((ks.map qA3).length:Int):=by rw [List.length_map,h1];simp
  rw [qP (r:=A) (by simp only [qBQ,qC,qE,qG,qH,qJ,qK,Option.bind_some,qF,qM,qN,decide_eq_false hi,Bool.false_eq_true,if_false])]
  congr 1
  apply qGc
  simp [Lib.joinTail,Lib.join_nil]
 |k::r,pre,A,M+1,h1,h2,h3=>by
  have hm:k∈ks:=by rw [h1];simp
  obtain ⟨g1,g2⟩:=hr k hm
  have hpl:pre.length+(r.length+1)=ks.length:=by rw [h1];simp
  have hmul:pre.length*(b+1)≤10*(b+1):=Nat.mul_le_mul_right _ (by omega)
  have hg:R.2.2.2.2.2.2.2.2.2.2.2.2.2[pre.length]?=some (qA3 k):=by rw [hks,h1,List.getElem?_map];simp
  rw [qX (qOA (ql n) n (l.map qb) A (qq l f k 1) R pre.length k hg g1 (by omega) (by omega) (by omega))]
  have h:=qO0 l f n R b hb ks hks hk10 hr r (pre++ [k]) (if pre.length=0 then A++qq l f k 1 else (A++(⟨#[44]⟩:ByteArray))++qq l f k 1) M (by rw [h1];simp) (by simp at h2;omega) (by
   have d1:(⟨#[44]⟩:ByteArray).size=1:=rfl
   rw [List.length_append,List.length_singleton,Nat.add_mul]
   split
   ·rw [ByteArray.size_append];omega
   ·rw [ByteArray.size_append,ByteArray.size_append];omega)
  rw [show ((pre++ [k]).length:Int)=((pre.length+1:Nat):Int) by simp] at h
  rw [h]
  congr 1
  apply qGc
  have e:(pre++ [k]).length≠0:=by simp
  simp only [if_neg e]
  by_cases h0:pre.length=0
  ·simp only [if_pos h0,qC2,List.map_cons,Lib.join_cons,List.append_assoc]
  ·simp only [if_neg h0,qC2,List.map_cons,qKD,List.append_assoc,List.cons_append,List.nil_append]
set_option maxHeartbeats 4000000 in
theorem qJy {l:List Nd} (h:Fine l) (f:Nat) (i t:Int) (hf:f+1≤12) (hx:0≤i∧i<l.length) (hd:qAu (qU l) (i.toNat+1) i≤(f+1:Nat)) (ih:∀k∈qU l i,∀t',Ev (ql · (l.map qb) k t') (qq l f k t')):Ev (ql · (l.map qb) i t) (qq l (f+1) i t):=by
  have ih:=fun k hk t'=>ih k hk t'
  have isz:=fun k hk t'=>qMG h f k t' (by omega) (h.kid hx hd hk).1 (h.kid hx hd hk).2
  have hs:=qRU (f:=f) (by omega)
  have hcr:(l.map qb)[i.toNat]?=some (qb (ndi l i)):=by rw [List.getElem?_map,qCf hx];rfl
  have hxb:0≤i∧i<((l.map qb).length:Int):=by rw [List.length_map];exact hx
  have hz:=(h.sz _ (qH0 hx)).2
  have hp:∀a b c d,(qA8 a b c d).size≤30:=qDJ
  have d1:(⟨#[58]⟩:ByteArray).size=1:=rfl
  have d2:(⟨#[45]⟩:ByteArray).size=1:=rfl
  have d3:(⟨#[40]⟩:ByteArray).size=1:=rfl
  have d4:(⟨#[41]⟩:ByteArray).size=1:=rfl
  have hk0:∀j,j<(kd (ndi l i)).length→kid (ndi l i) j∈qU l i∧(List.map qA3 (ndi l i).2.2.2.2.2.2.2.2.2.2.2.2.2)[j]?=some (qA3 (kid (ndi l i) j)):=fun j hj=>by
   unfold kid
   rw [List.getD_eq_getElem?_getD,List.getElem?_eq_getElem hj]
   refine ⟨List.getElem_mem hj,?_⟩
   rw [List.getElem?_map]
   show ((kd (ndi l i))[j]?).map qA3=_
   rw [List.getElem?_eq_getElem hj]
   rfl
  have hkl:(List.map qA3 (ndi l i).2.2.2.2.2.2.2.2.2.2.2.2.2).length=(kd (ndi l i)).length:=by rw [List.length_map];rfl
  rcases qJN (h.own i hx.1 hx.2).1 with ⟨k,hv⟩|k|k|⟨k,hk⟩|⟨k,ho,hk⟩|⟨k,ho,hk⟩
  ·by_cases k2:(ndi l i).2.2.1=2
   ·have hv2:okV 2 (ndi l i).2.2.2.1 (ndi l i).2.2.2.2.1=true:=by rw [←k2];exact hv
    obtain ⟨n1,g1⟩:=qNA (ndi l i).2.2.2.2.1 (by have:=(qOr hv2).2.1;omega)
    refine ⟨n1+1,fun n hn=>?_⟩
    obtain ⟨m,rfl,hm⟩:=up1 hn
    have g1:=g1 m (by omega)
    dsimp only at g1⊢
    show (qBk (ql m) m (l.map qb) i t).run=_
    refine qD (decide_eq_true hxb) (qA hcr (qD rfl (qA (qAR _) (qA (qAS _) (qA (qAT _) (qA (qAU _) (qA (qAV _) (qA (qAW _) (qA (qAX _) (qA (qAY _) (qA (qAZ _) (qA (qAa _) (qA (qt _) (qA (qu _) (qA (qv _) (qA (qw _) ?_))))))))))))))))
    refine qD (by rw [k];rfl) (qD (by rw [k2];rfl) (qA g1 ?_))
    rw [qC,qq,if_pos k,if_pos k2]
   ·obtain ⟨n1,g1⟩:=qC9 (ndi l i).2.2.1 (ndi l i).2.2.2.1 (ndi l i).2.2.2.2.1 hz
    have kb:((ndi l i).2.2.1==(2:Int))=false:=by simpa using k2
    refine ⟨n1+1,fun n hn=>?_⟩
    obtain ⟨m,rfl,hm⟩:=up1 hn
    have g1:=g1 m (by omega)
    rw [hv] at g1
    dsimp only at g1⊢
    simp only [if_true] at g1
    show (qBk (ql m) m (l.map qb) i t).run=_
    refine qD (decide_eq_true hxb) (qA hcr (qD rfl (qA (qAR _) (qA (qAS _) (qA (qAT _) (qA (qAU _) (qA (qAV _) (qA (qAW _) (qA (qAX _) (qA (qAY _) (qA (qAZ _) (qA (qAa _) (qA (qt _) (qA (qu _) (qA (qv _) (qA (qw _) ?_))))))))))))))))
    refine qD (by rw [k];rfl) (qO kb (qA g1 ?_))
    rw [qC,qq,if_pos k,if_neg k2]
  ·obtain ⟨n1,g1⟩:=qDA (ndi l i).2.2.2.2.2.1 (ndi l i).2.2.2.2.2.2.1 (ndi l i).2.2.2.2.2.2.2.1 (ndi l i).2.2.2.2.2.2.2.2.1
   refine ⟨n1+1,fun n hn=>?_⟩
   obtain ⟨m,rfl,hm⟩:=up1 hn
   have g1:=g1 m (by omega)
   dsimp only at g1⊢
   show (qBk (ql m) m (l.map qb) i t).run=_
   refine qD (decide_eq_true hxb) (qA hcr (qD rfl (qA (qAR _) (qA (qAS _) (qA (qAT _) (qA (qAU _) (qA (qAV _) (qA (qAW _) (qA (qAX _) (qA (qAY _) (qA (qAZ _) (qA (qAa _) (qA (qt _) (qA (qu _) (qA (qv _) (qA (qw _) ?_))))))))))))))))
   refine qO (by rw [k];rfl) (qD (by rw [k];rfl) (qA g1 ?_))
   rw [qC,qq,if_neg (by omega),if_pos k]
  ·obtain ⟨n1,g1⟩:=qDA (ndi l i).2.2.2.2.2.1 (ndi l i).2.2.2.2.2.2.1 (ndi l i).2.2.2.2.2.2.2.1 (ndi l i).2.2.2.2.2.2.2.2.1
   obtain ⟨n2,g2⟩:=qDA (ndi l i).2.2.2.2.2.2.2.2.2.1 (ndi l i).2.2.2.2.2.2.2.2.2.2.1 (ndi l i).2.2.2.2.2.2.2.2.2.2.2.1 (ndi l i).2.2.2.2.2.2.2.2.2.2.2.2.1
   have h1:=hp (ndi l i).2.2.2.2.2.1 (ndi l i).2.2.2.2.2.2.1 (ndi l i).2.2.2.2.2.2.2.1 (ndi l i).2.2.2.2.2.2.2.2.1
   have h2:=hp (ndi l i).2.2.2.2.2.2.2.2.2.1 (ndi l i).2.2.2.2.2.2.2.2.2.2.1 (ndi l i).2.2.2.2.2.2.2.2.2.2.2.1 (ndi l i).2.2.2.2.2.2.2.2.2.2.2.2.1
   have z1:(qA8 (ndi l i).2.2.2.2.2.1 (ndi l i).2.2.2.2.2.2.1 (ndi l i).2.2.2.2.2.2.2.1 (ndi l i).2.2.2.2.2.2.2.2.1).size+(⟨#[58]⟩:ByteArray).size≤9223372036854775807:=by omega
   have z2:(qA8 (ndi l i).2.2.2.2.2.1 (ndi l i).2.2.2.2.2.2.1 (ndi l i).2.2.2.2.2.2.2.1 (ndi l i).2.2.2.2.2.2.2.2.1++(⟨#[58]⟩:ByteArray)).size+(qA8 (ndi l i).2.2.2.2.2.2.2.2.2.1 (ndi l i).2.2.2.2.2.2.2.2.2.2.1 (ndi l i).2.2.2.2.2.2.2.2.2.2.2.1 (ndi l i).2.2.2.2.2.2.2.2.2.2.2.2.1).size≤9223372036854775807:=by rw [ByteArray.size_append];omega
   refine ⟨n1+n2+1,fun n hn=>?_⟩
   obtain ⟨m,rfl,hm⟩:=up1 hn
   have g1:=g1 m (by omega)
   have g2:=g2 m (by omega)
   dsimp only at g1 g2⊢
   show (qBk (ql m) m (l.map qb) i t).run=_
   refine qD (decide_eq_true hxb) (qA hcr (qD rfl (qA (qAR _) (qA (qAS _) (qA (qAT _) (qA (qAU _) (qA (qAV _) (qA (qAW _) (qA (qAX _) (qA (qAY _) (qA (qAZ _) (qA (qAa _) (qA (qt _) (qA (qu _) (qA (qv _) (qA (qw _) ?_))))))))))))))))
   refine qO (by rw [k];rfl) (qO (by rw [k];rfl) (qD (by rw [k];rfl) (qA g1 (qD (decide_eq_true z1) (qA g2 (qD (decide_eq_true z2) ?_))))))
   rw [qC,qq,if_neg (by omega),if_neg (by omega),if_pos k]
  ·obtain ⟨m0,c0⟩:=hk0 0 (by omega)
   obtain ⟨n1,g1⟩:=ih _ m0 5
   have h1:=isz _ m0 5
   have z1:(⟨#[45]⟩:ByteArray).size+(qq l f (kid (ndi l i) 0) 5).size≤9223372036854775807:=by omega
   have y1:(0:Int)≤(0:Int)∧(0:Int)<((List.map qA3 (ndi l i).2.2.2.2.2.2.2.2.2.2.2.2.2).length:Int):=by rw [hkl];omega
   refine ⟨n1+1,fun n hn=>?_⟩
   obtain ⟨m,rfl,hm⟩:=up1 hn
   have g1:=g1 m (by omega)
   dsimp only at g1⊢
   have e0:((0:Int)).toNat=0:=rfl
   show (qBk (ql m) m (l.map qb) i t).run=_
   refine qD (decide_eq_true hxb) (qA hcr (qD rfl (qA (qAR _) (qA (qAS _) (qA (qAT _) (qA (qAU _) (qA (qAV _) (qA (qAW _) (qA (qAX _) (qA (qAY _) (qA (qAZ _) (qA (qAa _) (qA (qt _) (qA (qu _) (qA (qv _) (qA (qw _) ?_))))))))))))))))
   refine qO (by rw [k];rfl) (qO (by rw [k];rfl) (qO (by rw [k];rfl) (qD (by rw [k];rfl) (qD (decide_eq_true y1) (qA c0 (qD rfl (qA (qAk _) (qA g1 (qD (decide_eq_true z1) ?_)))))))))
   rw [qC,qq,if_neg (by omega),if_neg (by omega),if_neg (by omega),if_pos k]
  ·obtain ⟨m0,c0⟩:=hk0 0 (by omega)
   obtain ⟨m1,c1⟩:=hk0 1 (by omega)
   have hlv:=qQQ (ndi l i).2.1
   obtain ⟨n1,g1⟩:=ih _ m0 (lvl (ndi l i).2.1)
   obtain ⟨n2,g2⟩:=ih _ m1 (lvl (ndi l i).2.1+1)
   obtain ⟨n3,g3⟩:=qIU (ndi l i).2.1
   obtain ⟨n4,g4⟩:=qJL (ndi l i).2.1 ho
   have h1:=isz _ m0 (lvl (ndi l i).2.1)
   have h2:=isz _ m1 (lvl (ndi l i).2.1+1)
   have h3:=qKj ho
   have hw:IntKind.i64.wrap (lvl (ndi l i).2.1+1)=lvl (ndi l i).2.1+1:=qa (by omega)
   have y1:(0:Int)≤(0:Int)∧(0:Int)<((List.map qA3 (ndi l i).2.2.2.2.2.2.2.2.2.2.2.2.2).length:Int):=by rw [hkl];omega
   have y2:(0:Int)≤(1:Int)∧(1:Int)<((List.map qA3 (ndi l i).2.2.2.2.2.2.2.2.2.2.2.2.2).length:Int):=by rw [hkl];omega
   refine ⟨n1+n2+n3+n4+1,fun n hn=>?_⟩
   obtain ⟨m,rfl,hm⟩:=up1 hn
   have g1:=g1 m (by omega)
   have g2:=g2 m (by omega)
   have g3:=g3 m (by omega)
   have g4:=g4 m (by omega)
   dsimp only at g1 g2 g3 g4⊢
   have e0:((0:Int)).toNat=0:=rfl
   have e1:((1:Int)).toNat=1:=rfl
   show (qBk (ql m) m (l.map qb) i t).run=_
   refine qD (decide_eq_true hxb) (qA hcr (qD rfl (qA (qAR _) (qA (qAS _) (qA (qAT _) (qA (qAU _) (qA (qAV _) (qA (qAW _) (qA (qAX _) (qA (qAY _) (qA (qAZ _) (qA (qAa _) (qA (qt _) (qA (qu _) (qA (qv _) (qA (qw _) ?_))))))))))))))))
   have z1:(qq l f (kid (ndi l i) 0) (lvl (ndi l i).2.1)).size+(qAK (ndi l i).2.1).size≤9223372036854775807:=by omega
   have z2:(qq l f (kid (ndi l i) 0) (lvl (ndi l i).2.1)++qAK (ndi l i).2.1).size+(qq l f (kid (ndi l i) 1) (lvl (ndi l i).2.1+1)).size≤9223372036854775807:=by rw [ByteArray.size_append];omega
   have z3:(⟨#[40]⟩:ByteArray).size+((qq l f (kid (ndi l i) 0) (lvl (ndi l i).2.1)++qAK (ndi l i).2.1)++qq l f (kid (ndi l i) 1) (lvl (ndi l i).2.1+1)).size≤9223372036854775807:=by rw [ByteArray.size_append,ByteArray.size_append];omega
   have z4:((⟨#[40]⟩:ByteArray)++((qq l f (kid (ndi l i) 0) (lvl (ndi l i).2.1)++qAK (ndi l i).2.1)++qq l f (kid (ndi l i) 1) (lvl (ndi l i).2.1+1))).size+(⟨#[41]⟩:ByteArray).size≤9223372036854775807:=by rw [ByteArray.size_append,ByteArray.size_append,ByteArray.size_append];omega
   have g2:ql m (l.map qb) (kid (ndi l i) 1) (IntKind.i64.wrap (lvl (ndi l i).2.1+1))=some (qq l f (kid (ndi l i) 1) (lvl (ndi l i).2.1+1)):=by rw [hw];exact g2
   refine qO (by rw [k];rfl) (qO (by rw [k];rfl) (qO (by rw [k];rfl) (qO (by rw [k];rfl) (qD (by rw [k];rfl) (qA g3 (qD (decide_eq_true y1) (qA c0 (qD rfl (qA (qAk _) (qD (decide_eq_true y2) (qA c1 (qD rfl (qA (qAk _) (qA g1 (qA g4 (qD (decide_eq_true z1) (qA g2 (qD (decide_eq_true z2) ?_))))))))))))))))))
   rw [qq,if_neg (by omega),if_neg (by omega),if_neg (by omega),if_neg (by omega),if_pos k]
   unfold par
   by_cases ht:lvl (ndi l i).2.1<t
   ·refine qD (decide_eq_true ht) (qD (decide_eq_true z3) (qD (decide_eq_true z4) ?_))
    rw [qC,if_pos (decide_eq_true ht)]
   ·refine qO (decide_eq_false ht) ?_
    rw [qC,if_neg (by simpa using ht)]
  ·obtain ⟨n0,g0⟩:=qBI (F:=fun k n=>ql n (l.map qb) k 0) (f:=fun k=>qq l f k 1) (qU l i) (fun k hk=>by
    have:=ih k hk 0
    rw [qQr] at this
    exact this)
   obtain ⟨n1,g1⟩:=qLJ (ndi l i).2.1 ho
   have h1:=qN8 ho
   refine ⟨n0+n1+20,fun n hn=>?_⟩
   obtain ⟨m,rfl,hm⟩:=up1 hn
   have g0:=g0 m (by omega)
   have g1:=g1 m (by omega)
   have hj:=qO0 l f m ((ndi l i).1,(ndi l i).2.1,(ndi l i).2.2.1,(ndi l i).2.2.2.1,(ndi l i).2.2.2.2.1,(ndi l i).2.2.2.2.2.1,(ndi l i).2.2.2.2.2.2.1,(ndi l i).2.2.2.2.2.2.2.1,(ndi l i).2.2.2.2.2.2.2.2.1,(ndi l i).2.2.2.2.2.2.2.2.2.1,(ndi l i).2.2.2.2.2.2.2.2.2.2.1,(ndi l i).2.2.2.2.2.2.2.2.2.2.2.1,(ndi l i).2.2.2.2.2.2.2.2.2.2.2.2.1,(kd (ndi l i)).map qA3) (szB f) hs (kd (ndi l i)) rfl hk.2 (fun k hk=>⟨g0 k hk,isz k hk 1⟩) (kd (ndi l i)) [] (fnS (ndi l i).2.1++(⟨#[40]⟩:ByteArray)) m rfl (by omega) (by rw [ByteArray.size_append];omega)
   simp only [List.length_nil,Int.natCast_zero,if_true] at hj
   have hjs:=qKk (xs:=(qU l i).map fun k=>qq l f k 1) (b:=szB f) (fun x hx=>by
    obtain ⟨k,hk,rfl⟩:=List.mem_map.1 hx
    exact isz k hk 1)
   have h3:(qU l i).length≤10:=hk.2
   have h4:(qU l i).length*(szB f+1)≤10*(szB f+1):=Nat.mul_le_mul_right _ h3
   rw [List.length_map] at hjs
   have ej:(⟨((fnS (ndi l i).2.1++(⟨#[40]⟩:ByteArray)).data.toList++Lib.join ((kd (ndi l i)).map fun k=>(qq l f k 1).data.toList) [44]).toArray⟩:ByteArray)=(fnS (ndi l i).2.1++(⟨#[40]⟩:ByteArray))++qN9 ((qU l i).map fun k=>qq l f k 1):=by
    apply qGc
    rw [qC2]
    simp [qN9,qU,Function.comp_def]
   rw [ej] at hj
   obtain ⟨J,hJ⟩:∃J,qN9 ((qU l i).map fun k=>qq l f k 1)=J:=⟨_,rfl⟩
   rw [hJ] at hj hjs
   have z1:(fnS (ndi l i).2.1).size+(⟨#[40]⟩:ByteArray).size≤9223372036854775807:=by omega
   have z2:((fnS (ndi l i).2.1++(⟨#[40]⟩:ByteArray))++J).size+(⟨#[41]⟩:ByteArray).size≤9223372036854775807:=by rw [ByteArray.size_append,ByteArray.size_append];omega
   unfold kd at hj
   dsimp only at g1⊢
   show (qBk (ql m) m (l.map qb) i t).run=_
   refine qD (decide_eq_true hxb) (qA hcr (qD rfl (qA (qAR _) (qA (qAS _) (qA (qAT _) (qA (qAU _) (qA (qAV _) (qA (qAW _) (qA (qAX _) (qA (qAY _) (qA (qAZ _) (qA (qAa _) (qA (qt _) (qA (qu _) (qA (qv _) (qA (qw _) ?_))))))))))))))))
   refine qO (by rw [k];rfl) (qO (by rw [k];rfl) (qO (by rw [k];rfl) (qO (by rw [k];rfl) (qO (by rw [k];rfl) (qA g1 (qD (decide_eq_true z1) (qA hj (qD (decide_eq_true z2) ?_))))))))
   rw [qC,qq,if_neg (by omega),if_neg (by omega),if_neg (by omega),if_neg (by omega),if_neg (by omega),hJ]
theorem qJO {l:List Nd} (h:Fine l):∀(f:Nat) (i t:Int),f≤12→(0≤i∧i<l.length)→qAu (qU l) (i.toNat+1) i≤f→Ev (ql · (l.map qb) i t) (qq l f i t)
 |0,i,t,hf,hx,hd=>by
  have:=qMC (qU l) (i.toNat+1) i hx.1 (by omega)
  omega
 |f+1,i,t,hf,hx,hd=>qJy h f i t hf hx hd fun k hk t'=>qJO h f k t' (by omega) (h.kid hx hd hk).1 (h.kid hx hd hk).2
theorem qQ9:∀f:Fin 12,szB f.val≤12000000000000:=by decide
theorem qRW {f:Nat} (h:f≤11):szB f≤12000000000000:=qQ9 ⟨f,by omega⟩
theorem qPy:∀xs:List ByteArray,zBj (xs.map fun x=> [PV.s x])=some xs
 | []=>rfl
 |x::r=>by simp only [List.map_cons,zBj,qPy r,Option.map_some]
theorem qO1 (rec:List (List PV)→Int→Int→Option ByteArray) (n:Nat) (rows:List (List PV)) (T:Int→ByteArray) (a0 a1 a2 a3:Int) (a4:ByteArray) (a5 a6:Int) (a7 a8:Bool) (a9 a10:Int) (a11 a12:Bool) (a13:List (List PV)) (ks:List Int) (hk10:ks.length≤10)
  (hr:∀k∈ks,rec rows k 1=some (T k)):
  ∀(r pre:List Int) (M:Nat),ks=pre++r→r.length+1≤M→
   zC (qBT rec n) M (rows,pre.length,ks.map qA3,((ks.map qA3).length:Int),(pre.length:Int),a0,a1,a2,a3,a4,a5,a6,a7,a8,a9,a10,a11,a12,a13,pre.map fun k=> [PV.s (T k)])=some (ks.length,a0,a1,a2,a3,a4,a5,a6,a7,a8,a9,a10,a11,a12,a13,ks.map fun k=> [PV.s (T k)])
 |r,pre,0,h1,h2=>by omega
 | [],pre,M+1,h1,h2=>by
  have hi:¬(pre.length:Int)<((ks.map qA3).length:Int):=by rw [List.length_map,h1];simp
  have e:pre=ks:=by rw [h1];simp
  rw [qP (r:=(pre.length,a0,a1,a2,a3,a4,a5,a6,a7,a8,a9,a10,a11,a12,a13,pre.map fun k=> [PV.s (T k)])) (by simp only [qBT,qC,qE,qG,qH,qJ,qK,Option.bind_some,qF,qM,qN,decide_eq_false hi,Bool.false_eq_true,if_false])]
  rw [e]
 |k::r,pre,M+1,h1,h2=>by
  have hm:k∈ks:=by rw [h1];simp
  have g1:=hr k hm
  have hpl:pre.length+(r.length+1)=ks.length:=by rw [h1];simp
  have hg:(ks.map qA3)[pre.length]?=some (qA3 k):=by rw [h1,List.getElem?_map];simp
  have hi:(pre.length:Int)<((ks.map qA3).length:Int):=by rw [List.length_map];omega
  have h3:0≤(pre.length:Int)∧(pre.length:Int)<((ks.map qA3).length:Int):=by omega
  have w1:IntKind.i64.wrap ((pre.length:Int)+1)=((pre.length+1:Nat):Int):=by rw [qa (by omega)];omega
  have hc:pre.length=(pre.map fun k=> [PV.s (T k)]).length∧0<1∧0<16∧(pre.length+([[PV.s (T k)]]:List (List PV)).length)*16≤140737488355328∧([[PV.s (T k)]]:List (List PV)).all (fun e=>e.length==1)=true:=by
   refine ⟨by simp,by decide,by decide,?_,rfl⟩
   rw [List.length_singleton]
   omega
  have h1l:decide (1=([[PV.s (T k)]]:List (List PV)).length)=true:=rfl
  rw [qX (v':=(rows,pre.length+1,ks.map qA3,((ks.map qA3).length:Int),((pre.length+1:Nat):Int),a0,a1,a2,a3,a4,a5,a6,a7,a8,a9,a10,a11,a12,a13,(pre.map fun k=> [PV.s (T k)])++ [[PV.s (T k)]])) (by
   simp only [qBT,qC,qE,qG,qH,qJ,qK,Option.bind_some,qF,qM,qN,decide_eq_true hi,if_true,decide_eq_true h3,Int.toNat_natCast,hg,qA9,qAk,decide_true,g1,h1l,decide_eq_true hc,w1])]
  have h:=qO1 rec n rows T a0 a1 a2 a3 a4 a5 a6 a7 a8 a9 a10 a11 a12 a13 ks hk10 hr r (pre++ [k]) M (by rw [h1];simp) (by simp at h2;omega)
  simp only [List.map_append,List.map_cons,List.map_nil,List.length_append,List.length_singleton] at h⊢
  exact h
set_option maxHeartbeats 4000000 in
theorem qG8 {l:List Nd} (h:Fine l) (f:Nat) (i t:Int) (hf:f+1≤12) (hx:0≤i∧i<l.length) (hd:qAu (qU l) (i.toNat+1) i≤(f+1:Nat)) (ih:∀k∈qU l i,∀t',Ev (qZ · (l.map qb) k t') (qq l f k t')):Ev (qZ · (l.map qb) i t) (qq l (f+1) i t):=by
  have ih:=fun k hk t'=>ih k hk t'
  have isz:=fun k hk t'=>qMG h f k t' (by omega) (h.kid hx hd hk).1 (h.kid hx hd hk).2
  have hs:=qRU (f:=f) (by omega)
  have hcr:(l.map qb)[i.toNat]?=some (qb (ndi l i)):=by rw [List.getElem?_map,qCf hx];rfl
  have hxb:0≤i∧i<((l.map qb).length:Int):=by rw [List.length_map];exact hx
  have hz:=(h.sz _ (qH0 hx)).2
  have hp:∀a b c d,(qA8 a b c d).size≤30:=qDJ
  have d1:(⟨#[58]⟩:ByteArray).size=1:=rfl
  have d2:(⟨#[45]⟩:ByteArray).size=1:=rfl
  have d3:(⟨#[40]⟩:ByteArray).size=1:=rfl
  have d4:(⟨#[41]⟩:ByteArray).size=1:=rfl
  have hk0:∀j,j<(kd (ndi l i)).length→kid (ndi l i) j∈qU l i∧(List.map qA3 (ndi l i).2.2.2.2.2.2.2.2.2.2.2.2.2)[j]?=some (qA3 (kid (ndi l i) j)):=fun j hj=>by
   unfold kid
   rw [List.getD_eq_getElem?_getD,List.getElem?_eq_getElem hj]
   refine ⟨List.getElem_mem hj,?_⟩
   rw [List.getElem?_map]
   show ((kd (ndi l i))[j]?).map qA3=_
   rw [List.getElem?_eq_getElem hj]
   rfl
  have hkl:(List.map qA3 (ndi l i).2.2.2.2.2.2.2.2.2.2.2.2.2).length=(kd (ndi l i)).length:=by rw [List.length_map];rfl
  rcases qJN (h.own i hx.1 hx.2).1 with ⟨k,hv⟩|k|k|⟨k,hk⟩|⟨k,ho,hk⟩|⟨k,ho,hk⟩
  ·by_cases k2:(ndi l i).2.2.1=2
   ·have hv2:okV 2 (ndi l i).2.2.2.1 (ndi l i).2.2.2.2.1=true:=by rw [←k2];exact hv
    have hq:=(qOr hv2).2.1
    obtain ⟨n1,g1⟩:=qOl (ndi l i).2.2.2.2.1 (by omega)
    have h1:=qHc (ndi l i).2.2.2.2.1.toList
    rw [qAQ] at h1
    have h2:(⟨(qBZ (ndi l i).2.2.2.2.1.toList).toArray⟩:ByteArray).size=(qBZ (ndi l i).2.2.2.2.1.toList).length:=by rw [qCe]
    have e:((⟨#[34]⟩:ByteArray)++⟨(qBZ (ndi l i).2.2.2.2.1.toList).toArray⟩)++(⟨#[34]⟩:ByteArray)=qME (ndi l i).2.2.2.2.1:=by
     apply qGc
     rw [qC2,qC2]
     simp [qME]
    have d5:(⟨#[34]⟩:ByteArray).size=1:=rfl
    refine ⟨n1+1,fun n hn=>?_⟩
    obtain ⟨m,rfl,hm⟩:=up1 hn
    have g1:=g1 m (by omega)
    dsimp only at g1⊢
    obtain ⟨q,hqe⟩:∃q,(⟨(qBZ (ndi l i).2.2.2.2.1.toList).toArray⟩:ByteArray)=q:=⟨_,rfl⟩
    rw [hqe] at g1 h2 e
    have z1:(⟨#[34]⟩:ByteArray).size+q.size≤9223372036854775807:=by omega
    have z2:((⟨#[34]⟩:ByteArray)++q).size+(⟨#[34]⟩:ByteArray).size≤9223372036854775807:=by rw [ByteArray.size_append];omega
    show (qAj (qZ m) m (l.map qb) i t).run=_
    refine qD (decide_eq_true hxb) (qA hcr (qD rfl (qA (qAR _) (qA (qAS _) (qA (qAT _) (qA (qAU _) (qA (qAV _) (qA (qAW _) (qA (qAX _) (qA (qAY _) (qA (qAZ _) (qA (qAa _) (qA (qt _) (qA (qu _) (qA (qv _) (qA (qw _) ?_))))))))))))))))
    refine qD (by rw [k];rfl) (qD (by rw [k2];rfl) (qA g1 (qD (decide_eq_true z1) (qD (decide_eq_true z2) ?_))))
    rw [qC,qq,if_pos k,if_pos k2,e]
   ·obtain ⟨n1,g1⟩:=qGd (ndi l i).2.2.1 (ndi l i).2.2.2.1 (ndi l i).2.2.2.2.1 hv
    have kb:((ndi l i).2.2.1==(2:Int))=false:=by simpa using k2
    refine ⟨n1+1,fun n hn=>?_⟩
    obtain ⟨m,rfl,hm⟩:=up1 hn
    have g1:=g1 m (by omega)
    dsimp only at g1⊢
    show (qAj (qZ m) m (l.map qb) i t).run=_
    refine qD (decide_eq_true hxb) (qA hcr (qD rfl (qA (qAR _) (qA (qAS _) (qA (qAT _) (qA (qAU _) (qA (qAV _) (qA (qAW _) (qA (qAX _) (qA (qAY _) (qA (qAZ _) (qA (qAa _) (qA (qt _) (qA (qu _) (qA (qv _) (qA (qw _) ?_))))))))))))))))
    refine qD (by rw [k];rfl) (qO kb (qA g1 ?_))
    rw [qC,qq,if_pos k,if_neg k2]
  ·obtain ⟨n1,g1⟩:=qCT (ndi l i).2.2.2.2.2.1 (ndi l i).2.2.2.2.2.2.1 (ndi l i).2.2.2.2.2.2.2.1 (ndi l i).2.2.2.2.2.2.2.2.1
   refine ⟨n1+1,fun n hn=>?_⟩
   obtain ⟨m,rfl,hm⟩:=up1 hn
   have g1:=g1 m (by omega)
   dsimp only at g1⊢
   show (qAj (qZ m) m (l.map qb) i t).run=_
   refine qD (decide_eq_true hxb) (qA hcr (qD rfl (qA (qAR _) (qA (qAS _) (qA (qAT _) (qA (qAU _) (qA (qAV _) (qA (qAW _) (qA (qAX _) (qA (qAY _) (qA (qAZ _) (qA (qAa _) (qA (qt _) (qA (qu _) (qA (qv _) (qA (qw _) ?_))))))))))))))))
   refine qO (by rw [k];rfl) (qD (by rw [k];rfl) (qA g1 ?_))
   rw [qC,qq,if_neg (by omega),if_pos k]
  ·obtain ⟨n1,g1⟩:=qCT (ndi l i).2.2.2.2.2.1 (ndi l i).2.2.2.2.2.2.1 (ndi l i).2.2.2.2.2.2.2.1 (ndi l i).2.2.2.2.2.2.2.2.1
   obtain ⟨n2,g2⟩:=qCT (ndi l i).2.2.2.2.2.2.2.2.2.1 (ndi l i).2.2.2.2.2.2.2.2.2.2.1 (ndi l i).2.2.2.2.2.2.2.2.2.2.2.1 (ndi l i).2.2.2.2.2.2.2.2.2.2.2.2.1
   have h1:=hp (ndi l i).2.2.2.2.2.1 (ndi l i).2.2.2.2.2.2.1 (ndi l i).2.2.2.2.2.2.2.1 (ndi l i).2.2.2.2.2.2.2.2.1
   have h2:=hp (ndi l i).2.2.2.2.2.2.2.2.2.1 (ndi l i).2.2.2.2.2.2.2.2.2.2.1 (ndi l i).2.2.2.2.2.2.2.2.2.2.2.1 (ndi l i).2.2.2.2.2.2.2.2.2.2.2.2.1
   have z1:(qA8 (ndi l i).2.2.2.2.2.1 (ndi l i).2.2.2.2.2.2.1 (ndi l i).2.2.2.2.2.2.2.1 (ndi l i).2.2.2.2.2.2.2.2.1).size+(⟨#[58]⟩:ByteArray).size≤9223372036854775807:=by omega
   have z2:(qA8 (ndi l i).2.2.2.2.2.1 (ndi l i).2.2.2.2.2.2.1 (ndi l i).2.2.2.2.2.2.2.1 (ndi l i).2.2.2.2.2.2.2.2.1++(⟨#[58]⟩:ByteArray)).size+(qA8 (ndi l i).2.2.2.2.2.2.2.2.2.1 (ndi l i).2.2.2.2.2.2.2.2.2.2.1 (ndi l i).2.2.2.2.2.2.2.2.2.2.2.1 (ndi l i).2.2.2.2.2.2.2.2.2.2.2.2.1).size≤9223372036854775807:=by rw [ByteArray.size_append];omega
   refine ⟨n1+n2+1,fun n hn=>?_⟩
   obtain ⟨m,rfl,hm⟩:=up1 hn
   have g1:=g1 m (by omega)
   have g2:=g2 m (by omega)
   dsimp only at g1 g2⊢
   show (qAj (qZ m) m (l.map qb) i t).run=_
   refine qD (decide_eq_true hxb) (qA hcr (qD rfl (qA (qAR _) (qA (qAS _) (qA (qAT _) (qA (qAU _) (qA (qAV _) (qA (qAW _) (qA (qAX _) (qA (qAY _) (qA (qAZ _) (qA (qAa _) (qA (qt _) (qA (qu _) (qA (qv _) (qA (qw _) ?_))))))))))))))))
   refine qO (by rw [k];rfl) (qO (by rw [k];rfl) (qD (by rw [k];rfl) (qA g1 (qD (decide_eq_true z1) (qA g2 (qD (decide_eq_true z2) ?_))))))
   rw [qC,qq,if_neg (by omega),if_neg (by omega),if_pos k]
  ·obtain ⟨m0,c0⟩:=hk0 0 (by omega)
   obtain ⟨n1,g1⟩:=ih _ m0 5
   have h1:=isz _ m0 5
   have z1:(⟨#[45]⟩:ByteArray).size+(qq l f (kid (ndi l i) 0) 5).size≤9223372036854775807:=by omega
   have y1:(0:Int)≤(0:Int)∧(0:Int)<((List.map qA3 (ndi l i).2.2.2.2.2.2.2.2.2.2.2.2.2).length:Int):=by rw [hkl];omega
   refine ⟨n1+1,fun n hn=>?_⟩
   obtain ⟨m,rfl,hm⟩:=up1 hn
   have g1:=g1 m (by omega)
   dsimp only at g1⊢
   have e0:((0:Int)).toNat=0:=rfl
   show (qAj (qZ m) m (l.map qb) i t).run=_
   refine qD (decide_eq_true hxb) (qA hcr (qD rfl (qA (qAR _) (qA (qAS _) (qA (qAT _) (qA (qAU _) (qA (qAV _) (qA (qAW _) (qA (qAX _) (qA (qAY _) (qA (qAZ _) (qA (qAa _) (qA (qt _) (qA (qu _) (qA (qv _) (qA (qw _) ?_))))))))))))))))
   refine qO (by rw [k];rfl) (qO (by rw [k];rfl) (qO (by rw [k];rfl) (qD (by rw [k];rfl) (qD (decide_eq_true y1) (qA c0 (qD rfl (qA (qAk _) (qA g1 (qD (decide_eq_true z1) ?_)))))))))
   rw [qC,qq,if_neg (by omega),if_neg (by omega),if_neg (by omega),if_pos k]
  ·obtain ⟨m0,c0⟩:=hk0 0 (by omega)
   obtain ⟨m1,c1⟩:=hk0 1 (by omega)
   have hlv:=qQQ (ndi l i).2.1
   obtain ⟨n1,g1⟩:=ih _ m0 (lvl (ndi l i).2.1)
   obtain ⟨n2,g2⟩:=ih _ m1 (lvl (ndi l i).2.1+1)
   obtain ⟨n3,g3⟩:=qKC (ndi l i).2.1 ho
   obtain ⟨n4,g4⟩:=qGG (ndi l i).2.1 ho
   have h1:=isz _ m0 (lvl (ndi l i).2.1)
   have h2:=isz _ m1 (lvl (ndi l i).2.1+1)
   have h3:=qKj ho
   have hw:IntKind.i64.wrap (lvl (ndi l i).2.1+1)=lvl (ndi l i).2.1+1:=qa (by omega)
   have y1:(0:Int)≤(0:Int)∧(0:Int)<((List.map qA3 (ndi l i).2.2.2.2.2.2.2.2.2.2.2.2.2).length:Int):=by rw [hkl];omega
   have y2:(0:Int)≤(1:Int)∧(1:Int)<((List.map qA3 (ndi l i).2.2.2.2.2.2.2.2.2.2.2.2.2).length:Int):=by rw [hkl];omega
   refine ⟨n1+n2+n3+n4+1,fun n hn=>?_⟩
   obtain ⟨m,rfl,hm⟩:=up1 hn
   have g1:=g1 m (by omega)
   have g2:=g2 m (by omega)
   have g3:=g3 m (by omega)
   have g4:=g4 m (by omega)
   dsimp only at g1 g2 g3 g4⊢
   have e0:((0:Int)).toNat=0:=rfl
   have e1:((1:Int)).toNat=1:=rfl
   show (qAj (qZ m) m (l.map qb) i t).run=_
   refine qD (decide_eq_true hxb) (qA hcr (qD rfl (qA (qAR _) (qA (qAS _) (qA (qAT _) (qA (qAU _) (qA (qAV _) (qA (qAW _) (qA (qAX _) (qA (qAY _) (qA (qAZ _) (qA (qAa _) (qA (qt _) (qA (qu _) (qA (qv _) (qA (qw _) ?_))))))))))))))))
   have z1:(qq l f (kid (ndi l i) 0) (lvl (ndi l i).2.1)).size+(qAK (ndi l i).2.1).size≤9223372036854775807:=by omega
   have z2:(qq l f (kid (ndi l i) 0) (lvl (ndi l i).2.1)++qAK (ndi l i).2.1).size+(qq l f (kid (ndi l i) 1) (lvl (ndi l i).2.1+1)).size≤9223372036854775807:=by rw [ByteArray.size_append];omega
   have z3:(⟨#[40]⟩:ByteArray).size+((qq l f (kid (ndi l i) 0) (lvl (ndi l i).2.1)++qAK (ndi l i).2.1)++qq l f (kid (ndi l i) 1) (lvl (ndi l i).2.1+1)).size≤9223372036854775807:=by rw [ByteArray.size_append,ByteArray.size_append];omega
   have z4:((⟨#[40]⟩:ByteArray)++((qq l f (kid (ndi l i) 0) (lvl (ndi l i).2.1)++qAK (ndi l i).2.1)++qq l f (kid (ndi l i) 1) (lvl (ndi l i).2.1+1))).size+(⟨#[41]⟩:ByteArray).size≤9223372036854775807:=by rw [ByteArray.size_append,ByteArray.size_append,ByteArray.size_append];omega
   have g2:qZ m (l.map qb) (kid (ndi l i) 1) (IntKind.i64.wrap (lvl (ndi l i).2.1+1))=some (qq l f (kid (ndi l i) 1) (lvl (ndi l i).2.1+1)):=by rw [hw];exact g2
   refine qO (by rw [k];rfl) (qO (by rw [k];rfl) (qO (by rw [k];rfl) (qO (by rw [k];rfl) (qD (by rw [k];rfl) (qA g3 (qD (decide_eq_true y1) (qA c0 (qD rfl (qA (qAk _) (qD (decide_eq_true y2) (qA c1 (qD rfl (qA (qAk _) (qA g1 (qA g4 (qD (decide_eq_true z1) (qA g2 (qD (decide_eq_true z2) ?_))))))))))))))))))
   rw [qq,if_neg (by omega),if_neg (by omega),if_neg (by omega),if_neg (by omega),if_pos k]
   unfold par
   by_cases ht:lvl (ndi l i).2.1<t
   ·refine qD (decide_eq_true ht) (qD (decide_eq_true z3) (qD (decide_eq_true z4) ?_))
    rw [qC,if_pos (decide_eq_true ht)]
   ·refine qO (decide_eq_false ht) ?_
    rw [qC,if_neg (by simpa using ht)]
  ·obtain ⟨n0,g0⟩:=qBI (F:=fun k n=>qZ n (l.map qb) k 1) (f:=fun k=>qq l f k 1) (qU l i) (fun k hk=>ih k hk 1)
   obtain ⟨n1,g1⟩:=qJM (ndi l i).2.1 ho
   have h1:=qN8 ho
   have hs11:=qRW (f:=f) (by omega)
   have h3:(qU l i).length≤10:=hk.2
   have hjs:=qKk (xs:=(qU l i).map fun k=>qq l f k 1) (b:=szB f) (fun x hx=>by
    obtain ⟨k,hk,rfl⟩:=List.mem_map.1 hx
    exact isz k hk 1)
   have h4:(qU l i).length*(szB f+1)≤10*(szB f+1):=Nat.mul_le_mul_right _ h3
   rw [List.length_map] at hjs
   have gj:∀n,1≤n→qF5 n (((qU l i).map fun k=>qq l f k 1).map fun x=> [PV.s x]) ⟨#[44]⟩=some (qN9 ((qU l i).map fun k=>qq l f k 1)):=fun n hn=>by
    obtain ⟨m,rfl,_⟩:=up1 (n0:=0) hn
    show zAp _ _=_
    unfold zAp
    rw [qPy,Option.bind_some,if_pos]
    ·rfl
    ·rw [qCe] at hjs
     refine ⟨by rw [List.length_map];omega,?_⟩
     have:(Lib.join (((qU l i).map fun k=>qq l f k 1).map (·.data.toList)) [44]).length≤(qU l i).length*(szB f+1):=hjs
     show (Lib.join (((qU l i).map fun k=>qq l f k 1).map (·.data.toList)) [44]).length≤_
     omega
   refine ⟨n0+n1+20,fun n hn=>?_⟩
   obtain ⟨m,rfl,hm⟩:=up1 hn
   have g0:=g0 m (by omega)
   have g1:=g1 m (by omega)
   have gj:=gj m (by omega)
   have hj:=qO1 (qZ m) m (l.map qb) (fun k=>qq l f k 1) (ndi l i).1 (ndi l i).2.1 (ndi l i).2.2.1 (ndi l i).2.2.2.1 (ndi l i).2.2.2.2.1 (ndi l i).2.2.2.2.2.1 (ndi l i).2.2.2.2.2.2.1 (ndi l i).2.2.2.2.2.2.2.1 (ndi l i).2.2.2.2.2.2.2.2.1 (ndi l i).2.2.2.2.2.2.2.2.2.1 (ndi l i).2.2.2.2.2.2.2.2.2.2.1 (ndi l i).2.2.2.2.2.2.2.2.2.2.2.1 (ndi l i).2.2.2.2.2.2.2.2.2.2.2.2.1 ((kd (ndi l i)).map qA3) (kd (ndi l i)) hk.2 g0 (kd (ndi l i)) [] m rfl (by omega)
   simp only [List.length_nil,Int.natCast_zero,List.map_nil,List.length_map] at hj
   obtain ⟨J,hJ⟩:∃J,qN9 ((qU l i).map fun k=>qq l f k 1)=J:=⟨_,rfl⟩
   rw [hJ] at gj hjs
   have z1:(fnS (ndi l i).2.1).size+(⟨#[40]⟩:ByteArray).size≤9223372036854775807:=by omega
   have z2:(fnS (ndi l i).2.1++(⟨#[40]⟩:ByteArray)).size+J.size≤9223372036854775807:=by rw [ByteArray.size_append];omega
   have z3:((fnS (ndi l i).2.1++(⟨#[40]⟩:ByteArray))++J).size+(⟨#[41]⟩:ByteArray).size≤9223372036854775807:=by rw [ByteArray.size_append,ByteArray.size_append];omega
   unfold qU at gj
   unfold kd at hj gj
   dsimp only at g1⊢
   rw [List.map_map] at gj
   have hkl':(((ndi l i).2.2.2.2.2.2.2.2.2.2.2.2.2.map qA3).length:Int)=((ndi l i).2.2.2.2.2.2.2.2.2.2.2.2.2.length:Int):=by rw [List.length_map]
   have hll:decide ((ndi l i).2.2.2.2.2.2.2.2.2.2.2.2.2.length=(List.map ((fun x=> [PV.s x])∘fun k=>qq l f k 1) (ndi l i).2.2.2.2.2.2.2.2.2.2.2.2.2).length)=true:=by simp
   have hmm:(List.map (fun k=> [PV.s (qq l f k 1)]) (ndi l i).2.2.2.2.2.2.2.2.2.2.2.2.2)=List.map ((fun x=> [PV.s x])∘fun k=>qq l f k 1) (ndi l i).2.2.2.2.2.2.2.2.2.2.2.2.2:=rfl
   rw [hmm] at hj
   rw [←hkl'] at hj
   show (qAj (qZ m) m (l.map qb) i t).run=_
   refine qD (decide_eq_true hxb) (qA hcr (qD rfl (qA (qAR _) (qA (qAS _) (qA (qAT _) (qA (qAU _) (qA (qAV _) (qA (qAW _) (qA (qAX _) (qA (qAY _) (qA (qAZ _) (qA (qAa _) (qA (qt _) (qA (qu _) (qA (qv _) (qA (qw _) ?_))))))))))))))))
   refine qO (by rw [k];rfl) (qO (by rw [k];rfl) (qO (by rw [k];rfl) (qO (by rw [k];rfl) (qO (by rw [k];rfl) (qA hj (qA g1 (qD (decide_eq_true z1) (qD hll (qA gj (qD rfl (qD (decide_eq_true z2) (qD (decide_eq_true z3) ?_))))))))))))
   rw [qC,qq,if_neg (by omega),if_neg (by omega),if_neg (by omega),if_neg (by omega),if_neg (by omega),hJ]
theorem qFS {l:List Nd} (h:Fine l):∀(f:Nat) (i t:Int),f≤12→(0≤i∧i<l.length)→qAu (qU l) (i.toNat+1) i≤f→Ev (qZ · (l.map qb) i t) (qq l f i t)
 |0,i,t,hf,hx,hd=>by
  have:=qMC (qU l) (i.toNat+1) i hx.1 (by omega)
  omega
 |f+1,i,t,hf,hx,hd=>qG8 h f i t hf hx hd fun k hk t'=>qFS h f k t' (by omega) (h.kid hx hd hk).1 (h.kid hx hd hk).2
def qCv (l:List Nd):ByteArray:=if qE8 l=true then (if ((qq l 12 ((l.length:Int)-1) 1).size:Int)>200 then ⟨#[]⟩ else qq l 12 ((l.length:Int)-1) 1) else ⟨#[]⟩
theorem qQs {l:List Nd} (h:qE8 l=true) (hk:∀c∈l,(kd c).length≤140737488351232∧c.2.2.2.2.1.size≤140737488351232):Fine l∧(0≤(l.length:Int)-1∧(l.length:Int)-1<l.length)∧qAu (qU l) (((l.length:Int)-1).toNat+1) ((l.length:Int)-1)≤(12:Nat):=by
 unfold qE8 at h
 simp only [Bool.and_eq_true,decide_eq_true_eq] at h
 obtain ⟨h1,h2,h3,h4,h5⟩:=h
 have e:((l.length:Int)-1).toNat+1=l.length:=by omega
 rw [e]
 exact ⟨⟨h1.2,qE7.1 h2,hk⟩,by omega,h5⟩
theorem qJz (l:List Nd) (hl:l.length≤140737488351232) (hk:∀c∈l,(kd c).length≤140737488351232∧c.2.2.2.2.1.size≤140737488351232):Ev (qBc · (l.map qb)) (qCv l):=by
 obtain ⟨n1,g1⟩:=qGg l hk
 unfold qCv
 cases hf:qE8 l with
 |false=>
  rw [hf] at g1
  refine ⟨n1+1,fun n hn=>?_⟩
  obtain ⟨m,rfl,hm⟩:=up1 hn
  have g1:=g1 m (by omega)
  dsimp only at g1⊢
  simp [qBc,qCx,qC,qE,qG,qH,qJ,qK,Option.bind_some,qF,qM,qN,g1]
 |true=>
  rw [hf] at g1
  obtain ⟨q1,q2,q3⟩:=qQs hf hk
  obtain ⟨n2,g2⟩:=qJO q1 12 ((l.length:Int)-1) 0 (by decide) q2 q3
  rw [qQr] at g2
  have hw:IntKind.i64.wrap ((l.length:Int)-1)=(l.length:Int)-1:=qa (by omega)
  refine ⟨n1+n2+1,fun n hn=>?_⟩
  obtain ⟨m,rfl,hm⟩:=up1 hn
  have g1:=g1 m (by omega)
  have g2:=g2 m (by omega)
  dsimp only at g1 g2⊢
  generalize qq l 12 ((l.length:Int)-1) 1=t at*
  simp only [qBc,qCx,qC,qE,qG,qH,qJ,qK,Option.bind_some,qF,qM,qN,g1,List.length_map,hw,g2]
  by_cases h2:(t.size:Int)>200<;>simp [h2]
theorem qJ0 (l:List Nd) (hl:l.length≤140737488351232) (hk:∀c∈l,(kd c).length≤140737488351232∧c.2.2.2.2.1.size≤140737488351232):Ev (qBi · (l.map qb)) (qCv l):=by
 obtain ⟨n1,g1⟩:=qGh l hl hk
 unfold qCv
 cases hf:qE8 l with
 |false=>
  rw [hf] at g1
  refine ⟨n1+1,fun n hn=>?_⟩
  obtain ⟨m,rfl,hm⟩:=up1 hn
  have g1:=g1 m (by omega)
  dsimp only at g1⊢
  simp [qBi,qC0,qC,qE,qG,qH,qJ,qK,Option.bind_some,qF,qM,qN,g1]
 |true=>
  rw [hf] at g1
  obtain ⟨q1,q2,q3⟩:=qQs hf hk
  obtain ⟨n2,g2⟩:=qFS q1 12 ((l.length:Int)-1) 1 (by decide) q2 q3
  have hw:IntKind.i64.wrap ((l.length:Int)-1)=(l.length:Int)-1:=qa (by omega)
  refine ⟨n1+n2+1,fun n hn=>?_⟩
  obtain ⟨m,rfl,hm⟩:=up1 hn
  have g1:=g1 m (by omega)
  have g2:=g2 m (by omega)
  dsimp only at g1 g2⊢
  generalize qq l 12 ((l.length:Int)-1) 1=t at*
  simp only [qBi,qC0,qC,qE,qG,qH,qJ,qK,Option.bind_some,qF,qM,qN,g1,List.length_map,hw,g2]
  by_cases h2:(t.size:Int)>200<;>simp [h2]
abbrev PS:=List UInt8×Bool×List Nd
def tb (r:List UInt8):List UInt8:=r.dropWhile (· ==32)
def wch (c:UInt8):Bool:=(decide (65≤c.toNat)&&decide (c.toNat≤90))||((decide (48≤c.toNat)&&decide (c.toNat≤57))||c==36)
def wd (r:List UInt8):List UInt8:=r.takeWhile wch
def wr (r:List UInt8):List UInt8:=r.dropWhile wch
def BR (r:List UInt8):ByteArray:=⟨r.toArray⟩
def qD1:List (List UInt8):= [[60,62],[60,61],[62,61],[60],[62],[61],[38],[43],[45],[42],[47],[40],[41],[44],[58]]
def sgn (r:List UInt8):List UInt8:=match qD1.find? (fun w=>w.isPrefixOf r) with|some w=>w|none=> []
def nd1 (v:V3):Nd:=(1,0,v.1,v.2.1,v.2.2,0,0,false,false,0,0,false,false,[])
def ndK (k op:Int) (kids:List Int):Nd:=(k,op,0,0,em,0,0,false,false,0,0,false,false,kids)
def ndC (p:Int×Int×Bool×Bool×Bool):Nd:=(2,0,0,0,em,p.1,p.2.1,p.2.2.1,p.2.2.2.1,0,0,false,false,[])
def ndA (p q:Int×Int×Bool×Bool×Bool):Nd:=(3,0,0,0,em,p.1,p.2.1,p.2.2.1,p.2.2.2.1,q.1,q.2.1,q.2.2.1,q.2.2.2.1,[])
def qBy:List UInt8→List UInt8→Option (List UInt8×List UInt8)
 |_,[]=>none
 |acc,c::t=>if c=34 then (match t with
   |d::t'=>if d=34 then qBy (acc++ [34]) t' else some (acc,t)
   | []=>some (acc,[])) else qBy (acc++ [c]) t
def qIV (r:List UInt8):Int→Nat→Option Int
 |_,0=>none
 |n,k+1=>if (qf n).toList.isPrefixOf r=true then some n else qIV r (n+1) k
def qFX (w:List UInt8):Int→Nat→Option Int
 |_,0=>none
 |n,k+1=>if (fnS n).toList=w then some n else qFX w (n+1) k
def qAq (r:List UInt8):Int:=
 if sgn r= [43] then 1 else if sgn r= [45] then 2 else if sgn r= [42] then 3 else if sgn r= [47] then 4 else if sgn r= [38] then 5 else if sgn r= [61] then 6 else
 if sgn r= [60,62] then 7 else if sgn r= [60] then 8 else if sgn r= [60,61] then 9 else if sgn r= [62] then 10 else if sgn r= [62,61] then 11 else 0
def qW (w:List UInt8) (p:PS):Bool×PS:=if sgn (tb p.1)=w then (true,(tb p.1).drop w.length,p.2) else (false,tb p.1,p.2)
def qC7 (x:Nd) (p:PS):Int×PS:=if p.2.1=true∨60≤p.2.2.length then ((p.2.2.length:Int)-1,p.1,true,p.2.2) else ((p.2.2.length:Int),p.1,false,p.2.2++ [x])
def qQR (p:PS):PS:=(p.1,true,p.2.2)
def qCB (w:List UInt8) (p:PS):PS:=if p.2.1=true then p else if (qW w p).1=true then (qW w p).2 else qQR (qW w p).2
def qBA (p:PS):Option Nd×PS:=
 let w:=wd (tb p.1)
 let p1:PS:=(wr (tb p.1),p.2)
 if (qAw (BR w)).2.2.2.2=true∧(qW [58] p1).1=true then
  let p2:=(qW [58] p1).2
  let w2:=wd (tb p2.1)
  (some (ndA (qAw (BR w)) (qAw (BR w2))),wr (tb p2.1),p2.2.1||!(qAw (BR w2)).2.2.2.2,p2.2.2)
 else (none,p)
def qD4 (o:Option Nd×PS) (g:PS→Int×PS):Int×PS:=match o.1 with
 |some x=>qC7 x o.2
 |none=>g o.2
inductive PJ where
 |bin (least deep:Int)
 |loop (least deep a:Int)
 |un (deep:Int)
 |at (deep:Int)
 |call (op deep:Int)
 |args (op deep:Int) (kids:List Int)
def pP:Nat→PJ→PS→Int×PS
 |0,_,p=>(0,p)
 |f+1,.bin least deep,p=>pP f (.loop least deep (pP f (.un deep) p).1) (pP f (.un deep) p).2
 |f+1,.loop least deep a,p=>
  if p.2.1=true then (a,p) else
  if qAq (tb p.1)=0∨lvl (qAq (tb p.1))<least then (a,tb p.1,p.2) else
  let p1:PS:=((tb p.1).drop (sgn (tb p.1)).length,p.2)
  let q:=pP f (.bin (lvl (qAq (tb p.1))+1) deep) p1
  let c:=qC7 (ndK 5 (qAq (tb p.1)) [a,q.1]) q.2
  pP f (.loop least deep c.1) c.2
 |f+1,.un deep,p=>
  if deep>400∨p.2.1=true then (-1,qQR p) else
  if (qW [45] p).1=true then
   let q:=pP f (.un (deep+1)) (qW [45] p).2
   qC7 (ndK 4 0 [q.1]) q.2
  else pP f (.at deep) (qW [45] p).2
 |f+1,.at deep,p=>
  let r:=tb p.1
  if r.head?=some 34 then (match qBy [] r.tail with
   |none=>(-1,r,true,p.2.2)
   |some (s,t)=>qC7 (nd1 (2,0,BR s)) (t,p.2))
  else match (if r.head?=some 35 then qIV r 1 5 else none) with
  |some n=>qC7 (nd1 (4,n,em)) (r.drop (qf n).size,p.2)
  |none=>
   if r.head?≠some 35∧(qW [40] p).1=true then
    let q:=pP f (.bin 1 (deep+1)) (qW [40] p).2
    (q.1,qCB [41] q.2)
   else
    let w:=wd r
    let p2:PS:=(wr r,p.2)
    if (qh (BR w)).2.2.2=true∧((qh (BR w)).1=1∨(qh (BR w)).1=3) then qC7 (nd1 ((qh (BR w)).1,(qh (BR w)).2.1,(qh (BR w)).2.2.1)) p2
    else if (qAw (BR w)).2.2.2.2=true then qC7 (ndC (qAw (BR w))) p2
    else match qFX w 1 10 with
    |some op=>pP f (.call op deep) p2
    |none=>(-1,qQR p2)
 |f+1,.call op deep,p=>pP f (.args op deep []) (qCB [40] p)
 |f+1,.args op deep kids,p=>
  if p.2.1=true then qC7 (ndK 6 op kids) p else
  let q:=qD4 (qBA p) (fun p=>pP f (.bin 1 (deep+1)) p)
  if (qW [44] q.2).1=true then pP f (.args op deep (kids++ [q.1])) (qW [44] q.2).2
  else qC7 (ndK 6 op (kids++ [q.1])) (qCB [41] (qW [44] q.2).2)
def sIs (w:List UInt8) (q:PS):Bool×PS:=if q.2.1=true then (false,tb q.1,q.2) else if w.isPrefixOf (tb q.1)=true then (true,(tb q.1).drop w.length,q.2) else (false,tb q.1,q.2)
def qDk (x:Nd) (q:PS):Int×PS:=((q.2.2.length:Int),q.1,(if 60<q.2.2.length+1∨qEX x=false then true else q.2.1),q.2.2++ [x])
def qKl (q:PS):PS:=(q.1,true,q.2.2)
def qB1:List Int:= [7,9,11,6,8,10,1,2,3,4,5]
def qDS (level:Int) (r:List UInt8):List Int→Int
 | []=>0
 |o::l=>if lvl o=level∧(qAK o).toList.isPrefixOf r=true then o else qDS level r l
def sOp (level:Int) (q:PS):Int×PS:=
 if q.2.1=true then (0,tb q.1,q.2) else
 (qDS level (tb q.1) qB1,(if qDS level (tb q.1) qB1=0 then tb q.1 else (tb q.1).drop (qAK (qDS level (tb q.1) qB1)).size),q.2)
def qPz (r:List UInt8):Int→Nat→Option Int
 |_,0=>none
 |n,k+1=>if (qf n).toList.tail.isPrefixOf r=true then some n else qPz r (n+1) k
inductive SJ where
 |row (level:Int)
 |rl (level a:Int)
 |one
 |call (op:Int) (kids:List Int)
 |arg
def sP:Nat→SJ→PS→Int×PS
 |0,_,q=>(0,q)
 |f+1,.row level,q=>
  if q.2.1=true then (0,q) else
  if level=5 then sP f .one q else
  sP f (.rl level (sP f (.row (level+1)) q).1) (sP f (.row (level+1)) q).2
 |f+1,.rl level a,q=>
  if q.2.1=true then (a,q) else
  let o:=sOp level q
  if o.1=0 then (a,o.2) else
  let b:=sP f (.row (level+1)) o.2
  let c:=qDk (ndK 5 o.1 [a,b.1]) b.2
  sP f (.rl level c.1) c.2
 |f+1,.one,q=>
  if (sIs [45] q).1=true then
   let b:=sP f (.row 5) (sIs [45] q).2
   qDk (ndK 4 0 [b.1]) b.2
  else if (sIs [40] (sIs [45] q).2).1=true then
   let b:=sP f (.row 1) (sIs [40] (sIs [45] q).2).2
   (b.1,if (sIs [41] b.2).1=true then (sIs [41] b.2).2 else qKl (sIs [41] b.2).2)
  else
   let q2:PS:=(tb q.1,q.2)
   if (sIs [34] q2).1=true then (match qBy [] (sIs [34] q2).2.1 with
    |none=>(0,[],true,q.2.2)
    |some (s,t)=>qDk (nd1 (2,0,BR s)) (t,q.2))
   else if (sIs [35] q2).1=true then (match qPz (sIs [35] q2).2.1 1 5 with
    |some n=>qDk (nd1 (4,n,em)) ((sIs [35] q2).2.1.drop ((qf n).size-1),q.2)
    |none=>(0,(sIs [35] q2).2.1,true,q.2.2))
   else
    let w:=wd (tb q.1)
    let q3:PS:=(wr (tb q.1),q.2)
    match qFX w 1 10 with
    |some op=>if (sIs [40] q3).1=true then sP f (.call op []) (sIs [40] q3).2 else (0,qKl (sIs [40] q3).2)
    |none=>
     if (qh (BR w)).2.2.2=true∧w≠ [] then qDk (nd1 ((qh (BR w)).1,(qh (BR w)).2.1,(qh (BR w)).2.2.1)) q3
     else if (qAw (BR w)).2.2.2.2=true then qDk (ndC (qAw (BR w))) q3
     else (0,qKl q3)
 |f+1,.call op kids,q=>
  if q.2.1=true then (0,q) else
  let a:=sP f .arg q
  if (sIs [41] a.2).1=true then qDk (ndK 6 op (kids++ [a.1])) (sIs [41] a.2).2
  else sP f (.call op (kids++ [a.1])) (if (sIs [44] (sIs [41] a.2).2).1=true then (sIs [44] (sIs [41] a.2).2).2 else qKl (sIs [44] (sIs [41] a.2).2).2)
 |f+1,.arg,q=>
  let w:=wd (tb q.1)
  let q1:PS:=(wr (tb q.1),q.2)
  if (qAw (BR w)).2.2.2.2=true∧(sIs [58] q1).1=true then
   let q2:=(sIs [58] q1).2
   let w2:=wd (tb q2.1)
   if (qAw (BR w2)).2.2.2.2=true then qDk (ndA (qAw (BR w)) (qAw (BR w2))) (wr (tb q2.1),q2.2) else (0,wr (tb q2.1),true,q2.2.2)
  else sP f (.row 1) (tb q.1,q.2)
theorem qCH:∀r:List UInt8,tb (tb r)=tb r
 | []=>rfl
 |c::r=>by
  unfold tb
  by_cases h:(c==32)=true
  ·simp only [List.dropWhile_cons,h,if_true];exact qCH r
  ·simp [List.dropWhile_cons,h]
theorem qx:∀r:List UInt8,(tb r).length≤r.length
 | []=>Nat.le_refl _
 |c::r=>by
  unfold tb
  by_cases h:(c==32)=true
  ·simp only [List.dropWhile_cons,h,if_true];exact Nat.le_succ_of_le (qx r)
  ·simp [List.dropWhile_cons,h]
theorem qO2 {p:UInt8→Bool}:∀r:List UInt8,(r.dropWhile p).length≤r.length
 | []=>Nat.le_refl _
 |c::r=>by
  by_cases h:p c=true
  ·simp only [List.dropWhile_cons,h,if_true];exact Nat.le_succ_of_le (qO2 r)
  ·simp [List.dropWhile_cons,h]
theorem qGH (r:List UInt8):(wr r).length≤r.length:=qO2 r
theorem wdr (r:List UInt8):wd r++wr r=r:=List.takeWhile_append_dropWhile
theorem qPZ (c:UInt8) (t:List UInt8) (h1:c≠60) (h2:c≠62):sgn (c::t)=if c∈([61,38,43,45,42,47,40,41,44,58]:List UInt8) then [c] else []:=by
 have e1:(60==c)=false:=by simpa using fun e=>h1 e.symm
 have e2:(62==c)=false:=by simpa using fun e=>h2 e.symm
 by_cases h:c∈([61,38,43,45,42,47,40,41,44,58]:List UInt8)
 ·rw [if_pos h]
  simp only [List.mem_cons,List.not_mem_nil,or_false] at h
  rcases h with rfl|rfl|rfl|rfl|rfl|rfl|rfl|rfl|rfl|rfl<;>rfl
 ·rw [if_neg h]
  simp only [List.mem_cons,List.not_mem_nil,or_false,not_or] at h
  obtain ⟨a1,a2,a3,a4,a5,a6,a7,a8,a9,a10⟩:=h
  have f:∀d:UInt8,c≠d→(d==c)=false:=fun d hd=>by simpa using fun e=>hd e.symm
  simp [sgn,qD1,List.find?,List.isPrefixOf,e1,e2,f _ a1,f _ a2,f _ a3,f _ a4,f _ a5,f _ a6,f _ a7,f _ a8,f _ a9,f _ a10]
theorem qOB (t:List UInt8):sgn (60::t)=if t.head?=some 62 then [60,62] else if t.head?=some 61 then [60,61] else [60]:=by
 cases t with
 |nil=>rfl
 |cons d t=>
  by_cases h:d=62
  ·subst h;rfl
  ·by_cases h2:d=61
   ·subst h2;rfl
   ·have e1:(62==d)=false:=by simpa using fun e=>h e.symm
    have e2:(61==d)=false:=by simpa using fun e=>h2 e.symm
    simp [sgn,qD1,List.find?,List.isPrefixOf,e1,e2,h,h2]
theorem qPa (t:List UInt8):sgn (62::t)=if t.head?=some 61 then [62,61] else [62]:=by
 cases t with
 |nil=>rfl
 |cons d t=>
  by_cases h2:d=61
  ·subst h2;rfl
  ·have e2:(61==d)=false:=by simpa using fun e=>h2 e.symm
   simp [sgn,qD1,List.find?,List.isPrefixOf,e2,h2]
theorem qSn {c:UInt8} (hc:c∈([45,40,41,44,58]:List UInt8)) (r:List UInt8):(sgn r= [c])↔([c].isPrefixOf r=true):=by
 cases r with
 |nil=>
  have:sgn []= []:=rfl
  rw [this]
  simp [List.isPrefixOf]
 |cons d t=>
  have hcc:c≠60∧c≠62∧c∈([61,38,43,45,42,47,40,41,44,58]:List UInt8):=by
   simp only [List.mem_cons,List.not_mem_nil,or_false] at hc
   rcases hc with rfl|rfl|rfl|rfl|rfl<;>decide
  have e:([c].isPrefixOf (d::t)=true)↔c=d:=by simp [List.isPrefixOf]
  rw [e]
  by_cases h1:d=60
  ·subst h1
   rw [qOB]
   constructor
   ·intro h;split at h
    ·cases h
    ·split at h
     ·cases h
     ·simp only [List.cons.injEq,and_true] at h;exact absurd h.symm hcc.1
   ·intro h;exact absurd h hcc.1
  ·by_cases h2:d=62
   ·subst h2
    rw [qPa]
    constructor
    ·intro h;split at h
     ·cases h
     ·simp only [List.cons.injEq,and_true] at h;exact absurd h.symm hcc.2.1
    ·intro h;exact absurd h hcc.2.1
   ·rw [qPZ d t h1 h2]
    constructor
    ·intro h;split at h
     ·simp only [List.cons.injEq,and_true] at h;exact h.symm
     ·cases h
    ·intro h;subst h;rw [if_pos hcc.2.2]
theorem qRx {c:UInt8} (hc:c∈([45,40,41,44,58]:List UInt8)) {p q:PS} (hb:q.2.1=false) (ht:tb p.1=tb q.1):(qW [c] p).1=(sIs [c] q).1∧(qW [c] p).2.1=(sIs [c] q).2.1∧(qW [c] p).2.2=p.2∧(sIs [c] q).2.2=q.2:=by
 have h:=qSn hc (tb q.1)
 unfold qW sIs
 rw [ht,hb]
 by_cases hs:sgn (tb q.1)= [c]
 ·rw [if_pos hs,if_neg (by simp),if_pos (h.1 hs)]
  exact ⟨rfl,rfl,rfl,rfl⟩
 ·rw [if_neg hs,if_neg (by simp),if_neg (fun e=>hs (h.2 e))]
  exact ⟨rfl,rfl,rfl,rfl⟩
theorem qDK {w:List UInt8} (hw:w≠ []) {p:PS} (h:(qW w p).1=true):(qW w p).2.1.length<(tb p.1).length:=by
 unfold qW at h⊢
 by_cases hs:sgn (tb p.1)=w
 ·rw [if_pos hs]
  have hp:w.isPrefixOf (tb p.1)=true:=by
   unfold sgn at hs
   split at hs
   ·rename_i x hx
    subst hs
    have:=List.find?_some hx
    simpa using this
   ·exact absurd hs.symm hw
  obtain ⟨t,ht⟩:=List.isPrefixOf_iff_prefix.1 hp
  have h0:0<w.length:=List.length_pos_iff.2 hw
  have h1:=congrArg List.length ht
  simp only [List.length_append] at h1
  simp only [List.length_drop]
  omega
 ·rw [if_neg hs] at h;cases h
theorem qH1 (w:List UInt8) (p:PS):(qW w p).2.1.length≤(tb p.1).length:=by
 unfold qW
 split
 ·simp
 ·exact Nat.le_refl _
theorem qQt (r:List UInt8):(qAq r=0)∨(1≤qAq r∧qAq r≤11∧sgn r=(qAK (qAq r)).toList):=by
 unfold qAq
 repeat' (split; · rename_i h;right;rw [h];exact ⟨by decide,by decide,by decide+kernel⟩)
 left;rfl
theorem sg1:(qAK 1).toList= [43]:=by decide+kernel
theorem sg2:(qAK 2).toList= [45]:=by decide+kernel
theorem sg3:(qAK 3).toList= [42]:=by decide+kernel
theorem sg4:(qAK 4).toList= [47]:=by decide+kernel
theorem sg5:(qAK 5).toList= [38]:=by decide+kernel
theorem sg6:(qAK 6).toList= [61]:=by decide+kernel
theorem sg7:(qAK 7).toList= [60,62]:=by decide+kernel
theorem sg8:(qAK 8).toList= [60]:=by decide+kernel
theorem sg9:(qAK 9).toList= [60,61]:=by decide+kernel
theorem qRX:(qAK 10).toList= [62]:=by decide+kernel
theorem qRY:(qAK 11).toList= [62,61]:=by decide+kernel
theorem qG9 (r:List UInt8):qDS 1 r qB1=if [60,62].isPrefixOf r=true then 7 else if [60,61].isPrefixOf r=true then 9 else if [62,61].isPrefixOf r=true then 11 else if [61].isPrefixOf r=true then 6 else if [60].isPrefixOf r=true then 8 else if [62].isPrefixOf r=true then 10 else 0:=by
 simp [qDS,qB1,lvl,sg1,sg2,sg3,sg4,sg5,sg6,sg7,sg8,sg9,qRX,qRY]
theorem qHA (r:List UInt8):qDS 2 r qB1=if [38].isPrefixOf r=true then 5 else 0:=by
 simp [qDS,qB1,lvl,sg1,sg2,sg3,sg4,sg5,sg6,sg7,sg8,sg9,qRX,qRY]
theorem qHB (r:List UInt8):qDS 3 r qB1=if [43].isPrefixOf r=true then 1 else if [45].isPrefixOf r=true then 2 else 0:=by
 simp [qDS,qB1,lvl,sg1,sg2,sg3,sg4,sg5,sg6,sg7,sg8,sg9,qRX,qRY]
theorem qHC (r:List UInt8):qDS 4 r qB1=if [42].isPrefixOf r=true then 3 else if [47].isPrefixOf r=true then 4 else 0:=by
 simp [qDS,qB1,lvl,sg1,sg2,sg3,sg4,sg5,sg6,sg7,sg8,sg9,qRX,qRY]
theorem qRy {m:Int} (hm:1≤m∧m≤4) (r:List UInt8):qDS m r qB1=if qAq r≠0∧lvl (qAq r)=m then qAq r else 0:=by
 have hm:m=1∨m=2∨m=3∨m=4:=by omega
 cases r with
 |nil=>rcases hm with rfl|rfl|rfl|rfl<;>simp [qG9,qHA,qHB,qHC,qAq,sgn,qD1,List.find?,List.isPrefixOf]
 |cons c t=>
  have f:∀d:UInt8,c≠d→(d==c)=false:=fun d hd=>by simpa using fun e=>hd e.symm
  by_cases h1:c=60
  ·subst h1
   cases t with
   |nil=>rcases hm with rfl|rfl|rfl|rfl<;>simp [qG9,qHA,qHB,qHC,qAq,qOB,List.isPrefixOf,lvl]
   |cons d t=>
    have g:∀e:UInt8,d≠e→(e==d)=false:=fun e hd=>by simpa using fun x=>hd x.symm
    by_cases hd:d=62
    ·subst hd;rcases hm with rfl|rfl|rfl|rfl<;>simp [qG9,qHA,qHB,qHC,qAq,qOB,List.isPrefixOf,lvl]
    ·by_cases hd2:d=61
     ·subst hd2;rcases hm with rfl|rfl|rfl|rfl<;>simp [qG9,qHA,qHB,qHC,qAq,qOB,List.isPrefixOf,lvl]
     ·rcases hm with rfl|rfl|rfl|rfl<;>simp [qG9,qHA,qHB,qHC,qAq,qOB,List.isPrefixOf,lvl,hd,hd2,g _ hd,g _ hd2]
  ·by_cases h2:c=62
   ·subst h2
    cases t with
    |nil=>rcases hm with rfl|rfl|rfl|rfl<;>simp [qG9,qHA,qHB,qHC,qAq,qPa,List.isPrefixOf,lvl]
    |cons d t=>
     have g:∀e:UInt8,d≠e→(e==d)=false:=fun e hd=>by simpa using fun x=>hd x.symm
     by_cases hd2:d=61
     ·subst hd2;rcases hm with rfl|rfl|rfl|rfl<;>simp [qG9,qHA,qHB,qHC,qAq,qPa,List.isPrefixOf,lvl]
     ·rcases hm with rfl|rfl|rfl|rfl<;>simp [qG9,qHA,qHB,qHC,qAq,qPa,List.isPrefixOf,lvl,hd2,g _ hd2]
   ·by_cases h:c∈([61,38,43,45,42,47,40,41,44,58]:List UInt8)
    ·have hs:sgn (c::t)= [c]:=by rw [qPZ c t h1 h2,if_pos h]
     simp only [List.mem_cons,List.not_mem_nil,or_false] at h
     rcases h with rfl|rfl|rfl|rfl|rfl|rfl|rfl|rfl|rfl|rfl<;>rcases hm with rfl|rfl|rfl|rfl<;>
      simp [qG9,qHA,qHB,qHC,qAq,hs,List.isPrefixOf,lvl]
    ·have hs:sgn (c::t)= []:=by rw [qPZ c t h1 h2,if_neg h]
     simp only [List.mem_cons,List.not_mem_nil,or_false,not_or] at h
     obtain ⟨a1,a2,a3,a4,a5,a6,a7,a8,a9,a10⟩:=h
     rcases hm with rfl|rfl|rfl|rfl<;>
      simp [qG9,qHA,qHB,qHC,qAq,hs,List.isPrefixOf,f _ h1,f _ h2,f _ a1,f _ a2,f _ a3,f _ a4,f _ a5,f _ a6]
theorem qQS {op:Int}:1≤lvl op∧lvl op≤4:=by unfold lvl;split<;>(try split)<;>(try split)<;>omega
def qLL (p:PS):Prop:=p.2.1=true∨∃x∈p.2.2,qEX x=false
theorem qCV {x:Nd} {p:PS} (h:qLL p):qLL (qC7 x p).2:=by
 unfold qC7
 split
 ·exact .inl rfl
 ·rename_i hn
  rcases h with h|⟨y,hy,hb⟩
  ·exact absurd (.inl h) hn
  ·exact .inr ⟨y,List.mem_append_left _ hy,hb⟩
theorem qD5 {w:List UInt8} {p:PS} (h:qLL p):qLL (qW w p).2:=by unfold qW;split<;>exact h
theorem qE9 (p:PS):qLL (qQR p):= .inl rfl
theorem qHd {w:List UInt8} {p:PS} (h:qLL p):qLL (qCB w p):=by
 unfold qCB
 split
 ·exact h
 ·split
  ·exact qD5 h
  ·exact qE9 _
theorem qO3 {p:PS} (h:qLL p):qLL (qBA p).2:=by
 unfold qBA
 simp only
 split
 ·rcases h with h|h
  ·left
   simp only [Bool.or_eq_true]
   left
   have:(qW [58] (wr (tb p.1),p.2)).2.2=p.2:=by unfold qW;split<;>rfl
   rw [this];exact h
  ·right
   have:(qW [58] (wr (tb p.1),p.2)).2.2=p.2:=by unfold qW;split<;>rfl
   simp only [this]
   exact h
 ·exact h
theorem qCg:∀(f:Nat) (j:PJ) (p:PS),qLL p→qLL (pP f j p).2
 |0,j,p,h=>h
 |f+1,.bin least deep,p,h=>by
  simp only [pP]
  exact qCg f _ _ (qCg f _ _ h)
 |f+1,.loop least deep a,p,h=>by
  simp only [pP]
  split
  ·exact h
  ·split
   ·exact h
   ·exact qCg f _ _ (qCV (qCg f _ _ h))
 |f+1,.un deep,p,h=>by
  simp only [pP]
  split
  ·exact qE9 _
  ·split
   ·exact qCV (qCg f _ _ (qD5 h))
   ·exact qCg f _ _ (qD5 h)
 |f+1,.at deep,p,h=>by
  simp only [pP]
  split
  ·split
   ·exact .inl rfl
   ·exact qCV h
  ·split
   ·exact qCV h
   ·split
    ·exact qHd (qCg f _ _ (qD5 h))
    ·split
     ·exact qCV h
     ·split
      ·exact qCV h
      ·split
       ·exact qCg f _ _ h
       ·exact qE9 _
 |f+1,.call op deep,p,h=>by
  simp only [pP]
  exact qCg f _ _ (qHd h)
 |f+1,.args op deep kids,p,h=>by
  simp only [pP]
  have hq:qLL (qD4 (qBA p) (fun p=>pP f (.bin 1 (deep+1)) p)).2:=by
   unfold qD4
   split
   ·exact qCV (qO3 h)
   ·exact qCg f _ _ (qO3 h)
  revert hq
  generalize qD4 (qBA p) (fun p=>pP f (.bin 1 (deep+1)) p)=q
  intro hq
  split
  ·exact qCV h
  ·split
   ·exact qCg f _ _ (qD5 hq)
   ·exact qCV (qHd (qD5 hq))
theorem qAv (x:Nd) (p:PS):(qC7 x p).2.1=p.1:=by unfold qC7;split<;>rfl
theorem qDT (w:List UInt8) (p:PS):(tb (qW w p).2.1).length≤(tb p.1).length:=by
 unfold qW
 split
 ·refine Nat.le_trans (qx _) ?_
  simp
 ·simp only;rw [qCH];exact Nat.le_refl _
theorem qJW (w:List UInt8) (p:PS):(tb (qCB w p).1).length≤(tb p.1).length:=by
 unfold qCB
 split
 ·exact Nat.le_refl _
 ·split
  ·exact qDT w p
  ·exact qDT w p
theorem qHe (p:PS):(tb (qBA p).2.1).length≤(tb p.1).length:=by
 unfold qBA
 simp only
 split
 ·simp only
  refine Nat.le_trans (qx _) (Nat.le_trans (qGH _) (Nat.le_trans (qDT [58] _) ?_))
  exact Nat.le_trans (qx _) (qGH _)
 ·exact Nat.le_refl _
theorem qJX:∀(acc r:List UInt8) {s t:List UInt8},qBy acc r=some (s,t)→t.length<r.length
 |acc,[],s,t,h=>by simp [qBy] at h
 |acc,c::r,s,t,h=>by
  unfold qBy at h
  by_cases hc:c=34
  ·rw [if_pos hc] at h
   match r,h with
   | [],h=>simp only [Option.some.injEq,Prod.mk.injEq] at h;rw [←h.2];simp
   |d::t',h=>
    simp only at h
    by_cases hd:d=34
    ·rw [if_pos hd] at h
     have:=qJX _ t' h
     simp only [List.length_cons];omega
    ·rw [if_neg hd] at h
     simp only [Option.some.injEq,Prod.mk.injEq] at h
     rw [←h.2];simp
  ·rw [if_neg hc] at h
   have:=qJX _ r h
   simp only [List.length_cons];omega
theorem qDL:∀(f:Nat) (j:PJ) (p:PS),(tb (pP f j p).2.1).length≤(tb p.1).length
 |0,j,p=>Nat.le_refl _
 |f+1,.bin least deep,p=>by
  simp only [pP]
  exact Nat.le_trans (qDL f _ _) (qDL f _ _)
 |f+1,.loop least deep a,p=>by
  simp only [pP]
  split
  ·exact Nat.le_refl _
  ·split
   ·simp only;rw [qCH];exact Nat.le_refl _
   ·refine Nat.le_trans (qDL f _ _) ?_
    rw [qAv]
    refine Nat.le_trans (qDL f _ _) (Nat.le_trans (qx _) ?_)
    simp
 |f+1,.un deep,p=>by
  simp only [pP]
  split
  ·exact Nat.le_refl _
  ·split
   ·rw [qAv]
    exact Nat.le_trans (qDL f _ _) (qDT _ _)
   ·exact Nat.le_trans (qDL f _ _) (qDT _ _)
 |f+1,.at deep,p=>by
  simp only [pP]
  split
  ·split
   ·simp only;rw [qCH];exact Nat.le_refl _
   ·rename_i s t hq
    rw [qAv]
    have:=qJX _ _ hq
    refine Nat.le_trans (qx _) ?_
    have h2:((tb p.1).tail).length≤(tb p.1).length:=by simp
    simp only;omega
  ·split
   ·rw [qAv]
    refine Nat.le_trans (qx _) ?_
    simp
   ·split
    ·exact Nat.le_trans (qJW _ _) (Nat.le_trans (qDL f _ _) (qDT _ _))
    ·have hw:(tb (wr (tb p.1))).length≤(tb p.1).length:=Nat.le_trans (qx _) (qGH _)
     split
     ·rw [qAv];exact hw
     ·split
      ·rw [qAv];exact hw
      ·split
       ·exact Nat.le_trans (qDL f _ _) hw
       ·exact hw
 |f+1,.call op deep,p=>by
  simp only [pP]
  exact Nat.le_trans (qDL f _ _) (qJW _ _)
 |f+1,.args op deep kids,p=>by
  simp only [pP]
  have hq:(tb (qD4 (qBA p) (fun p=>pP f (.bin 1 (deep+1)) p)).2.1).length≤(tb p.1).length:=by
   unfold qD4
   split
   ·rw [qAv];exact qHe p
   ·exact Nat.le_trans (qDL f _ _) (qHe p)
  revert hq
  generalize qD4 (qBA p) (fun p=>pP f (.bin 1 (deep+1)) p)=q
  intro hq
  split
  ·rw [qAv];exact Nat.le_refl _
  ·split
   ·exact Nat.le_trans (qDL f _ _) (Nat.le_trans (qDT _ _) hq)
   ·rw [qAv]
    exact Nat.le_trans (qJW _ _) (Nat.le_trans (qDT _ _) hq)
structure RdOK:Prop where
 v:∀w:List UInt8,w.all wch=true→w≠ []→(qh (BR w)).2.2.2=true→(qh (BR w)).1=1∨(qh (BR w)).1=3
 v0:¬((qh (BR [])).1=1∨(qh (BR [])).1=3)
 p0:(qAw (BR [])).2.2.2.2=false
 f:∀w op,qFX w 1 10=some op→(qh (BR w)).2.2.2=false∧(qAw (BR w)).2.2.2.2=false
 f0:qFX [] 1 10=none
 n:∀n:Int,1≤n∧n≤5→∃t,(qf n).toList=35::t
def Lk (p q:PS):Prop:=p.2.1=false∧q.2.1=false∧p.2.2=q.2.2∧tb p.1=tb q.1
def Sim (a b:Int×PS):Prop:=(a.1=b.1∧Lk a.2 b.2)∨(b.2.2.1=true∧qLL a.2)
def qSo (least:Int) (p:PS):Prop:=qAq (tb p.1)=0∨lvl (qAq (tb p.1))<least
def SimP (least:Int) (a b:Int×PS):Prop:=(a.1=b.1∧Lk a.2 b.2∧qSo least a.2)∨(b.2.2.1=true∧qLL a.2)
theorem SimP.sim {least:Int} {a b:Int×PS} (h:SimP least a b):Sim a b:=h.elim (fun h=> .inl ⟨h.1,h.2.1⟩) .inr
theorem qLM {x:Nd} {q:PS} (h:q.2.1=true):(qDk x q).2.2.1=true:=by
 unfold qDk;simp only;split
 ·rfl
 ·exact h
theorem qH2 {w:List UInt8} {q:PS} (h:q.2.1=true):sIs w q=(false,tb q.1,q.2):=by unfold sIs;rw [if_pos h]
theorem qMH:∀(g:Nat) (j:SJ) (q:PS),q.2.1=true→(sP g j q).2.2.1=true
 |0,j,q,h=>h
 |g+1,.row level,q,h=>by simp only [sP];rw [if_pos h];exact h
 |g+1,.rl level a,q,h=>by simp only [sP];rw [if_pos h];exact h
 |g+1,.one,q,h=>by
  simp only [sP]
  rw [qH2 (w:= [45]) h]
  simp only [Bool.false_eq_true,if_false]
  rw [qH2 (w:= [40]) (q:=(tb q.1,q.2)) h]
  simp only [Bool.false_eq_true,if_false]
  rw [qH2 (w:= [34]) (q:=(tb q.1,q.2)) h]
  simp only [Bool.false_eq_true,if_false]
  rw [qH2 (w:= [35]) (q:=(tb q.1,q.2)) h]
  simp only [Bool.false_eq_true,if_false]
  split
  ·rw [qH2 (w:= [40]) (q:=(wr (tb q.1),q.2)) h]
   simp [qKl]
  ·split
   ·exact qLM h
   ·split
    ·exact qLM h
    ·rfl
 |g+1,.call op kids,q,h=>by simp only [sP];rw [if_pos h];exact h
 |g+1,.arg,q,h=>by
  simp only [sP]
  rw [qH2 (w:= [58]) (q:=(wr (tb q.1),q.2)) h]
  simp only [Bool.false_eq_true,and_false,if_false]
  exact qMH g _ _ h
theorem qH3 {x:Nd} {p q:PS} (h:Lk p q):Sim (qC7 x p) (qDk x q):=by
 obtain ⟨h1,h2,h3,h4⟩:=h
 unfold qC7 qDk
 rw [h1,h2,h3]
 by_cases hl:60≤q.2.2.length
 ·refine .inr ⟨?_,.inl ?_⟩
  ·simp only;rw [if_pos (.inl (by omega))]
  ·rw [if_pos (.inr hl)]
 ·rw [if_neg (by simp;omega)]
  by_cases hn:qEX x=false
  ·exact .inr ⟨by simp only;rw [if_pos (.inr hn)],.inr ⟨x,by simp,hn⟩⟩
  ·refine .inl ⟨rfl,rfl,?_,rfl,h4⟩
   simp only
   rw [if_neg]
   intro e
   rcases e with e|e
   ·omega
   ·exact hn e
theorem qP0 {a b:Int×PS} (f:Int→Nd) (h:Sim a b):Sim (qC7 (f a.1) a.2) (qDk (f b.1) b.2):=by
 rcases h with ⟨h1,h2⟩|⟨h1,h2⟩
 ·rw [h1];exact qH3 h2
 ·exact .inr ⟨qLM h1,qCV h2⟩
theorem qJY {c:UInt8} (hc:c∈([45,40,41,44,58]:List UInt8)) {p q:PS} (h:Lk p q):(qW [c] p).1=(sIs [c] q).1∧Lk (qW [c] p).2 (sIs [c] q).2:=by
 obtain ⟨h1,h2,h3,h4⟩:=h
 obtain ⟨e1,e2,e3,e4⟩:=qRx hc h2 h4
 refine ⟨e1,?_,?_,?_,?_⟩
 ·rw [e3];exact h1
 ·rw [e4];exact h2
 ·rw [e3,e4];exact h3
 ·rw [e2]
theorem qP1 {c:UInt8} (hc:c∈([45,40,41,44,58]:List UInt8)) {a b:Int×PS} (h:Sim a b):Sim (a.1,qCB [c] a.2) (b.1,if (sIs [c] b.2).1=true then (sIs [c] b.2).2 else qKl (sIs [c] b.2).2):=by
 rcases h with ⟨h1,h2⟩|⟨h1,h2⟩
 ·obtain ⟨e1,e2⟩:=qJY hc h2
  unfold qCB
  rw [if_neg (by rw [h2.1];simp),e1]
  by_cases ht:(sIs [c] b.2).1=true
  ·rw [if_pos ht,if_pos ht]
   exact .inl ⟨h1,e2⟩
  ·rw [if_neg ht,if_neg ht]
   exact .inr ⟨rfl,qE9 _⟩
 ·refine .inr ⟨?_,qHd h2⟩
  rw [qH2 h1]
  simp [qKl]
def qIh (G:Nat) (least:Int):Nat→Int×PS→Int×PS→Prop
 |0,x,res=>res=x
 |m+1,x,res=>if ((m:Int)+1)<least then res=x else ∃g,G≤g∧qIh G least m (sP g (.rl ((m:Int)+1) x.1) x.2) res
theorem qMI {G G':Nat} (h:G'≤G) {least:Int}:∀(m:Nat) {x res:Int×PS},qIh G least m x res→qIh G' least m x res
 |0,x,res,ht=>ht
 |m+1,x,res,ht=>by
  unfold qIh at ht⊢
  split
  ·rename_i hc;rw [if_pos hc] at ht;exact ht
  ·rename_i hc
   rw [if_neg hc] at ht
   obtain ⟨g,h1,h2⟩:=ht
   exact ⟨g,Nat.le_trans h h1,qMI h m h2⟩
theorem qLN {G:Nat} {least:Int}:∀(m:Nat) {x res:Int×PS},x.2.2.1=true→qIh G least m x res→res.2.2.1=true
 |0,x,res,hb,ht=>by unfold qIh at ht;rw [ht];exact hb
 |m+1,x,res,hb,ht=>by
  unfold qIh at ht
  split at ht
  ·rw [ht];exact hb
  ·obtain ⟨g,_,h2⟩:=ht
   exact qLN m (qMH g _ _ hb) h2
end Go.Proofs.YtkkkfjgagjdcoaaGreatDoor.KFnExactMacroText

