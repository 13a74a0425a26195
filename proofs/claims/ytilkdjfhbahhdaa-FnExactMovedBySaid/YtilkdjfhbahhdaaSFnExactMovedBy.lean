import Derived.Test.YtilkdjfhbahhdaaTFnExactMovedBy
import Derived.Test.YtilkdjfhbahhdaaE32
import Derived.Lib.Strings
namespace Go.Proofs.Ytilkdjfhbahhdaa.KFnExactMovedBy
open Go.Eng
set_option linter.unusedVariables false
set_option linter.unusedSimpArgs false
def Ev {R:Type} (F:Nat→Option R) (r:R):Prop:=∃n0,∀n,n0≤n→F n=some r
theorem qGY (s:BA):s.toList.length=s.size:=by rw [Go.Lib.toList_data];rfl
theorem qDd:(ByteArray.mk #[]).toList= []:=by decide+kernel
theorem qk {x:Int} (h: -9223372036854775808≤x∧x≤9223372036854775807):IntKind.i64.wrap x=x:=by
 unfold IntKind.wrap
 have e1:(2:Int)^(64-1)=9223372036854775808:=by decide
 have e2:(2:Int)^64=18446744073709551616:=by decide
 simp only [IntKind.signed,IntKind.bits,Bool.true_and,decide_eq_true_eq,e1,e2]
 split<;>omega
theorem qFv {s:BA} {i:Nat} (h:i<s.size):∃c,s.toList[i]?=some c:=⟨_,zb (by rw [qGY];exact h)⟩
theorem qDF {α:Type} {s:List α} {i:Nat} {c:α} (h:s[i]?=some c):s.drop i=c::s.drop (i+1):=by
 obtain ⟨h1,rfl⟩:=List.getElem?_eq_some_iff.1 h
 exact List.drop_eq_getElem_cons h1
theorem qo {V R:Type} {B:V→Tr (V⊕R)} {m:Nat} {v v':V} (h:(B v).run=some (.inl v')):zN B (m+1) v=zN B m v':=by simp only [zN,h]
theorem qQ {V R:Type} {B:V→Tr (V⊕R)} {m:Nat} {v:V} {r:R} (h:(B v).run=some (.inr r)):zN B (m+1) v=some r:=by simp only [zN,h]
theorem up1 {n n0:Nat} (h:n0+1≤n):∃m,n=m+1∧n0≤m:=⟨n-1,by omega,by omega⟩
theorem qA {α:Type} (x:α):(Tr.done x).run=some x:=rfl
theorem qC {α:Type}:(Tr.fail:Tr α).run=none:=rfl
theorem qF {α:Type} (b:Bool) (t f:Tr α):(Tr.ask b t f).run=if b=true then t.run else f.run:=by cases b<;>rfl
theorem qG {α β:Type} (o:Option β) (k:β→Tr α):(Tr.opt o k).run=o.bind fun x=>(k x).run:=by cases o<;>rfl
theorem qH {α β γ:Type} (x:β) (k:β→Tr α) (l:γ→Tr α):(Tr.alt (.inl x) k l).run=(k x).run:=rfl
theorem qJ {α β γ:Type} (x:γ) (k:β→Tr α) (l:γ→Tr α):(Tr.alt (.inr x) k l).run=(l x).run:=rfl
theorem qAp {α R:Type} {F:α→Nat→Option R} {f:α→R}:∀(l:List α),(∀c∈l,Ev (F c) (f c))→∃n0,∀n,n0≤n→∀c∈l,F c n=some (f c)
 | [],_=>⟨0,fun n _ c hc=>by cases hc⟩
 |a::l,h=>by
  obtain ⟨n1,h1⟩:=h a (List.mem_cons_self ..)
  obtain ⟨n2,h2⟩:=qAp l fun c hc=>h c (List.mem_cons_of_mem _ hc)
  exact ⟨n1+n2,fun n hn c hc=>by
   rcases List.mem_cons.1 hc with rfl|hc
   ·exact h1 n (by omega)
   ·exact h2 n (by omega) c hc⟩
theorem qFw {R:Type} {B:List (List PV)×Nat×Int×List (List PV)→Tr ((List (List PV)×Nat×Int×List (List PV))⊕R)} {rows:List (List PV)} {z:List PV} {r:List (List PV)→R}
  (hs:∀(i:Nat) (acc:List (List PV)) (e:List PV),rows[i]?=some e→acc.length=rows.length→acc[i]?=some z→(B (rows,rows.length,(i:Int),acc)).run=some (.inl (rows,rows.length,((i+1:Nat):Int),acc.set i e)))
  (he:∀acc:List (List PV),acc.length=rows.length→(B (rows,rows.length,(rows.length:Int),acc)).run=some (.inr (r acc))):
  ∀(m i M:Nat),rows.length=i+m→m+1≤M→zN B M (rows,rows.length,(i:Int),rows.take i++zAQ z m)=some (r rows)
 |m,i,0,h1,h2=>by omega
 |0,i,M+1,h1,h2=>by
  have hi:i=rows.length:=by omega
  subst hi
  have e:rows.take rows.length++zAQ z 0=rows:=by simp [zAQ]
  rw [e,qQ (he rows rfl)]
 |m+1,i,M+1,h1,h2=>by
  have hl:i<rows.length:=by omega
  have hg:=zb hl
  have hlen:(rows.take i++zAQ z (m+1)).length=rows.length:=by simp [zAQ];omega
  have hz:(rows.take i++zAQ z (m+1))[i]?=some z:=by
   rw [List.getElem?_append_right (by simp;omega)]
   simp [zAQ,Nat.min_eq_left (Nat.le_of_lt hl)]
  rw [qo (hs i _ _ hg hlen hz)]
  have e:(rows.take i++zAQ z (m+1)).set i rows[i]=rows.take (i+1)++zAQ z m:=by
   have hx:zAQ z (m+1)=z::zAQ z m:=by simp [zAQ,List.replicate_succ]
   rw [hx,List.set_append_right (h:=by simp;omega)]
   have:i-(rows.take i).length=0:=by simp;omega
   rw [this,List.set_cons_zero,show rows.take (i+1)=rows.take i++ [rows[i]] from by rw [List.take_add_one,hg];rfl,List.append_assoc]
   rfl
  rw [e]
  exact qFw hs he m (i+1) M (by omega) (by omega)
theorem qGE {R:Type} {B:List (List PV)×Nat×Int×List (List PV)→Tr ((List (List PV)×Nat×Int×List (List PV))⊕R)} {rows:List (List PV)} {z:List PV} {r:List (List PV)→R} {M:Nat}
  (hs:∀(i:Nat) (acc:List (List PV)) (e:List PV),rows[i]?=some e→acc.length=rows.length→acc[i]?=some z→(B (rows,rows.length,(i:Int),acc)).run=some (.inl (rows,rows.length,((i+1:Nat):Int),acc.set i e)))
  (he:∀acc:List (List PV),acc.length=rows.length→(B (rows,rows.length,(rows.length:Int),acc)).run=some (.inr (r acc))) (hM:rows.length+1≤M):
  zN B M (rows,rows.length,0,zAQ z rows.length)=some (r rows):=by
 have:=qFw (B:=B) hs he rows.length 0 M (by omega) hM
 simpa using this
theorem qF8 {R:Type} {B:List (List PV)×List (List PV)×Int→Tr ((List (List PV)×List (List PV)×Int)⊕R)} {rows:List (List PV)} {r:R}
  (hs:∀(i:Nat) (e:List PV),rows[i]?=some e→(B (rows,rows,(i:Int))).run=some (.inl (rows,rows,((i+1:Nat):Int)))) (he:(B (rows,rows,(rows.length:Int))).run=some (.inr r)):
  ∀(m i M:Nat),rows.length=i+m→m+1≤M→zN B M (rows,rows,(i:Int))=some r
 |m,i,0,h1,h2=>by omega
 |0,i,M+1,h1,h2=>by
  have hi:i=rows.length:=by omega
  subst hi
  rw [qQ he]
 |m+1,i,M+1,h1,h2=>by
  have hg:=zb (l:=rows) (i:=i) (by omega)
  rw [qo (hs i _ hg)]
  exact qF8 hs he m (i+1) M (by omega) (by omega)
theorem qFW {α:Type} {enc:α→List PV} {P:α→Prop} {sh:List Sh} (hd:∀e,okR sh e→∃a,e=enc a∧P a):∀{rows:List (List PV)},(∀e∈rows,okR sh e)→∃l:List α,rows=l.map enc∧∀a∈l,P a
 | [],_=>⟨[],rfl,fun a h=>by cases h⟩
 |e::rows,h=>by
  obtain ⟨a,rfl,ha⟩:=hd e (h e (List.mem_cons_self ..))
  obtain ⟨l,rfl,hl⟩:=qFW hd fun e he=>h e (List.mem_cons_of_mem _ he)
  exact ⟨a::l,rfl,fun b hb=>by
   rcases List.mem_cons.1 hb with rfl|hb
   ·exact ha
   ·exact hl b hb⟩
theorem qM {α β:Type} {o:Option β} {x:β} {k:β→Tr α} {y:Option α} (h:o=some x) (h2:(k x).run=y):(Tr.opt o k).run=y:=by rw [h];exact h2
theorem qP {α:Type} {b:Bool} {t f:Tr α} {y:Option α} (h:b=true) (h2:t.run=y):(Tr.ask b t f).run=y:=by rw [h];exact h2
theorem qa {α:Type} {b:Bool} {t f:Tr α} {y:Option α} (h:b=false) (h2:f.run=y):(Tr.ask b t f).run=y:=by rw [h];exact h2
theorem qD (b:Bool):z0 (⟨(.c (.p (.b b))),[],[]⟩:Res)=true:=rfl
theorem qE (x:Int):z0 (⟨(.c (.p (.i .i64 x))),[],[]⟩:Res)=true:=rfl
theorem qK (x:BA):z0 (⟨(.c (.p (.s x))),[],[]⟩:Res)=true:=rfl
theorem qAd (x lo hi:Int):Ev (qm · x lo hi) (decide (lo≤x∧x≤hi)):=by
 refine ⟨1,fun n hn=>?_⟩
 obtain ⟨m,rfl,hm⟩:=up1 hn
 simp only [qm,qCD,qA,qC,qF,qG,qH,qJ,zG,qD,qE,qK]
 by_cases h:x≥lo<;>simp [h]
theorem qZ (x lo hi:Int):Ev (qX · x lo hi) (decide (lo≤x∧x≤hi)):=by
 refine ⟨1,fun n hn=>?_⟩
 obtain ⟨m,rfl,hm⟩:=up1 hn
 simp only [qX,qCT,qA,qC,qF,qG,qH,qJ,zG,qD,qE,qK]
 by_cases h:x≥lo<;>simp [h]
def okc (c:UInt8):Bool:=decide (32≤c.toNat∧c.toNat≤126)
def qDe (s:BA) (most:Int):Bool:=s.toList.all okc&&decide ((s.size:Int)≤most)
def okV (k n:Int) (s:BA):Bool:=
 if k=2 then decide (n=0)&&qDe s 200 else (s.toList== [])&&(if k=0 then decide (n=0) else if k=1 then decide (-1000000000000000≤n∧n≤1000000000000000) else if k=3 then decide (0≤n∧n≤1) else if k=4 then decide (1≤n∧n≤5) else false)
theorem qDr (n:Nat) (s:BA) (hb:s.size≤140737488355328):∀(m i M:Nat),s.size=i+m→m+1≤M→
  zN (qr n) M (s,(i:Int))=some (if (s.toList.drop i).all okc then .inr s else .inl false)
 |m,i,0,h1,h2=>by omega
 |0,i,M+1,h1,h2=>by
  rw [qQ (r:= .inr s) (by simp [qr,qA,qC,qF,qG,qH,qJ,zG,qD,qE,qK,show ¬((i:Int)<s.size) by omega])]
  rw [List.drop_eq_nil_of_le (by rw [qGY];omega)]
  rfl
 |m+1,i,M+1,h1,h2=>by
  obtain ⟨c,hc⟩:=qFv (s:=s) (i:=i) (by omega)
  have hi:(i:Int)<s.size:=by omega
  rw [qDF hc]
  by_cases c1:(c.toNat:Int)<32
  ·rw [qQ (r:= .inl false) (by simp [qr,qA,qC,qF,qG,qH,qJ,zG,qD,qE,qK,hi,hc,c1])]
   have:okc c=false:=by simp [okc];omega
   simp [this]
  ·by_cases c2:(c.toNat:Int)>126
   ·rw [qQ (r:= .inl false) (by simp [qr,qA,qC,qF,qG,qH,qJ,zG,qD,qE,qK,hi,hc,c1,c2])]
    have:okc c=false:=by simp [okc];omega
    simp [this]
   ·have hw:IntKind.i64.wrap ((i:Int)+1)=((i+1:Nat):Int):=by rw [qk (by omega)];omega
    rw [qo (v':=(s,((i+1:Nat):Int))) (by simp [qr,qA,qC,qF,qG,qH,qJ,zG,qD,qE,qK,hi,hc,c1,c2,hw])]
    rw [qDr n s hb m (i+1) M (by omega) (by omega)]
    have:okc c=true:=by simp [okc];omega
    simp [this]
theorem qEH (s:BA) (hb:s.size≤140737488355328):Ev (qAs · s) (qDe s 200):=by
 refine ⟨s.size+2,fun n hn=>?_⟩
 obtain ⟨m,rfl,hm⟩:=up1 hn
 have h:=qDr m s hb s.size 0 m (by omega) (by omega)
 simp only [qAs,qBu,qA,qC,qF,qG,qH,qJ,zG,qD,qE,qK]
 simp only [Int.natCast_zero,List.drop_zero] at h
 rw [h]
 cases hc:s.toList.all okc<;>simp [qA,qC,qF,qG,qH,qJ,zG,qD,qE,qK,qDe,hc]
theorem qEs (s:BA) (hb:s.size≤140737488351232):Ev (qAs · s) (qDe s 200):=qEH s (by omega)
theorem qER (n:Nat) (s:BA) (y:Int) (hb:s.size≤140737488355328):∀(m i M:Nat),s.size=i+m→m+1≤M→
  zN (qAJ n) M (s,y,(s.size:Int),(i:Int))=some (if (s.toList.drop i).all okc then .inr (s,y) else .inl false)
 |m,i,0,h1,h2=>by omega
 |0,i,M+1,h1,h2=>by
  rw [qQ (r:= .inr (s,y)) (by simp [qAJ,qA,qC,qF,qG,qH,qJ,zG,qD,qE,qK,show ¬((i:Int)<s.size) by omega])]
  rw [List.drop_eq_nil_of_le (by rw [qGY];omega)]
  rfl
 |m+1,i,M+1,h1,h2=>by
  obtain ⟨c,hc⟩:=qFv (s:=s) (i:=i) (by omega)
  have hi:(i:Int)<s.size:=by omega
  rw [qDF hc]
  by_cases c1:(c.toNat:Int)<32
  ·rw [qQ (r:= .inl false) (by simp [qAJ,qA,qC,qF,qG,qH,qJ,zG,qD,qE,qK,hi,hc,c1])]
   have:okc c=false:=by simp [okc];omega
   simp [this]
  ·by_cases c2:(c.toNat:Int)>126
   ·rw [qQ (r:= .inl false) (by simp [qAJ,qA,qC,qF,qG,qH,qJ,zG,qD,qE,qK,hi,hc,c1,c2])]
    have:okc c=false:=by simp [okc];omega
    simp [this]
   ·have hw:IntKind.i64.wrap ((i:Int)+1)=((i+1:Nat):Int):=by rw [qk (by omega)];omega
    rw [qo (v':=(s,y,(s.size:Int),((i+1:Nat):Int))) (by simp [qAJ,qA,qC,qF,qG,qH,qJ,zG,qD,qE,qK,hi,hc,c1,c2,hw])]
    rw [qER n s y hb m (i+1) M (by omega) (by omega)]
    have:okc c=true:=by simp [okc];omega
    simp [this]
theorem qEt (s:BA) (y:Int) (hb:s.size≤140737488355328):Ev (qA2 · s y) (qDe s y):=by
 refine ⟨s.size+2,fun n hn=>?_⟩
 obtain ⟨m,rfl,hm⟩:=up1 hn
 have h:=qER m s y hb s.size 0 m (by omega) (by omega)
 simp only [qA2,qCU,qA,qC,qF,qG,qH,qJ,zG,qD,qE,qK]
 simp only [Int.natCast_zero,List.drop_zero] at h
 rw [h]
 cases hc:s.toList.all okc<;>simp [qA,qC,qF,qG,qH,qJ,zG,qD,qE,qK,qDe,hc]
theorem qFX (s:BA) (y:Int) (hb:s.size≤140737488351232):Ev (qA2 · s y) (qDe s y):=qEt s y (by omega)
theorem qEu (k x:Int) (s:BA) (hb:s.size≤140737488351232):Ev (qBH · k x s) (okV k x s):=by
 obtain ⟨n1,h1⟩:=qAd x (-1000000000000000) 1000000000000000
 obtain ⟨n2,h2⟩:=qAd x 0 1
 obtain ⟨n3,h3⟩:=qAd x 1 5
 obtain ⟨n4,h4⟩:=qEs s hb
 refine ⟨n1+n2+n3+n4+1,fun n hn=>?_⟩
 obtain ⟨m,rfl,hm⟩:=up1 hn
 have h1:=h1 m (by omega)
 dsimp only at h1
 have h2:=h2 m (by omega)
 dsimp only at h2
 have h3:=h3 m (by omega)
 dsimp only at h3
 have h4:=h4 m (by omega)
 dsimp only at h4
 simp only [qBH,qBv,qA,qC,qF,qG,qH,qJ,zG,qD,qE,qK,h1,h2,h3,h4]
 simp only [okV,qDd]
 by_cases k2:k=2
 ·subst k2
  by_cases x0:x=0<;>simp [x0]
 ·by_cases k0:k=0
  ·subst k0
   by_cases x0:x=0<;>simp [x0]
  ·by_cases k1:k=1
   ·subst k1
    by_cases hx: -1000000000000000≤x∧x≤1000000000000000<;>simp [hx]
   ·by_cases k3:k=3
    ·subst k3
     by_cases hx:0≤x∧x≤1<;>simp [hx]
    ·by_cases k4:k=4
     ·subst k4
      by_cases hx:1≤x∧x≤5<;>simp [hx]
     ·simp [k0,k1,k2,k3,k4]
theorem qEv (k x:Int) (s:BA) (hb:s.size≤140737488351232):Ev (qBJ · k x s) (okV k x s):=by
 obtain ⟨n1,h1⟩:=qZ x (-1000000000000000) 1000000000000000
 obtain ⟨n2,h2⟩:=qZ x 0 1
 obtain ⟨n3,h3⟩:=qZ x 1 5
 obtain ⟨n4,h4⟩:=qFX s 200 hb
 refine ⟨n1+n2+n3+n4+1,fun n hn=>?_⟩
 obtain ⟨m,rfl,hm⟩:=up1 hn
 have h1:=h1 m (by omega)
 dsimp only at h1
 have h2:=h2 m (by omega)
 dsimp only at h2
 have h3:=h3 m (by omega)
 dsimp only at h3
 have h4:=h4 m (by omega)
 dsimp only at h4
 simp only [qBJ,qB2,qA,qC,qF,qG,qH,qJ,zG,qD,qE,qK,h1,h2,h3,h4]
 simp only [okV,qDd]
 by_cases k2:k=2
 ·subst k2
  by_cases x0:x=0<;>simp [x0]
 ·by_cases he:s.toList= []
  ·by_cases k0:k=0
   ·subst k0
    by_cases x0:x=0<;>simp [x0,he]
   ·by_cases k1:k=1
    ·subst k1;simp [he]
    ·by_cases k3:k=3
     ·subst k3;simp [he]
     ·by_cases k4:k=4
      ·subst k4;simp [he]
      ·simp [k0,k1,k2,k3,k4,he]
  ·simp [k2,he]
def em:BA:=⟨#[]⟩
theorem qEw (x:Int):Ev (qBI · x) (4,x,em):=by
 refine ⟨1,fun n hn=>?_⟩
 obtain ⟨m,rfl,hm⟩:=up1 hn
 simp only [qBI,qBz,qA,qC,qF,qG,qH,qJ,zG,qD,qE,qK]
 rfl
theorem qFr (x:Int):Ev (qBM · x) (4,x,em):=by
 refine ⟨1,fun n hn=>?_⟩
 obtain ⟨m,rfl,hm⟩:=up1 hn
 simp only [qBM,qCh,qA,qC,qF,qG,qH,qJ,zG,qD,qE,qK]
 rfl
def qBA (c r:Int):Bool:=decide (1≤c∧c≤52)&&decide (1≤r∧r≤99)
def qA9 (a b c d:Int):Bool:=qBA a b&&qBA c d&&decide (a≤c)&&decide (b≤d)
theorem qCW (c r:Int):Ev (qA0 · c r) (qBA c r):=by
 obtain ⟨n1,h1⟩:=qAd c 1 52
 obtain ⟨n2,h2⟩:=qAd r 1 99
 refine ⟨n1+n2+1,fun n hn=>?_⟩
 obtain ⟨m,rfl,hm⟩:=up1 hn
 have h1:=h1 m (by omega)
 dsimp only at h1
 have h2:=h2 m (by omega)
 dsimp only at h2
 simp only [qA0,qCe,qA,qC,qF,qG,qH,qJ,zG,qD,qE,qK,h1,h2]
 unfold qBA
 cases decide (1≤c∧c≤52)<;>simp
theorem qDO (c r:Int):Ev (qBK · c r) (qBA c r):=by
 obtain ⟨n1,h1⟩:=qZ c 1 52
 obtain ⟨n2,h2⟩:=qZ r 1 99
 refine ⟨n1+n2+1,fun n hn=>?_⟩
 obtain ⟨m,rfl,hm⟩:=up1 hn
 have h1:=h1 m (by omega)
 dsimp only at h1
 have h2:=h2 m (by omega)
 dsimp only at h2
 simp only [qBK,qCf,qA,qC,qF,qG,qH,qJ,zG,qD,qE,qK,h1,h2]
 unfold qBA
 cases decide (1≤c∧c≤52)<;>simp
theorem qFY (a b c d:Int):Ev (qBZ · a b c d) (qA9 a b c d):=by
 obtain ⟨n1,h1⟩:=qCW a b
 obtain ⟨n2,h2⟩:=qCW c d
 refine ⟨n1+n2+1,fun n hn=>?_⟩
 obtain ⟨m,rfl,hm⟩:=up1 hn
 have h1:=h1 m (by omega)
 dsimp only at h1
 have h2:=h2 m (by omega)
 dsimp only at h2
 simp only [qBZ,qCM,qA,qC,qF,qG,qH,qJ,zG,qD,qE,qK,h1,h2]
 unfold qA9
 cases qBA a b<;>cases qBA c d<;>by_cases h:a≤c<;>simp [h]
theorem qBR (a b c d:Int):Ev (qA3 · a b c d) (qA9 a b c d):=by
 obtain ⟨n1,h1⟩:=qDO a b
 obtain ⟨n2,h2⟩:=qDO c d
 refine ⟨n1+n2+1,fun n hn=>?_⟩
 obtain ⟨m,rfl,hm⟩:=up1 hn
 have h1:=h1 m (by omega)
 dsimp only at h1
 have h2:=h2 m (by omega)
 dsimp only at h2
 simp only [qA3,qCV,qA,qC,qF,qG,qH,qJ,zG,qD,qE,qK,h1,h2]
 unfold qA9
 cases qBA a b<;>cases qBA c d<;>by_cases h:a≤c<;>simp [h]
def qGz (x y:Int):Int:=if x<y then-1 else if x>y then 1 else 0
def qG8 (x y:BA):Int:=if Op.bytesLess x.toList y.toList=true then-1 else if x.toList=y.toList then 0 else 1
def qGb:List Int→Int
 | []=>0
 |x::r=>if x≠0 then x else qGb r
def qG9 (k x:Int) (s:BA) (k' x':Int) (s':BA):Int:=qGb [qGz k k',qGz x x',qG8 s s']
def qG0 (op o:Int):Bool:=if op=6 then o==0 else if op=7 then o !=0 else if op=8 then decide (o<0) else if op=9 then decide (o≤0) else if op=10 then decide (o>0) else decide (o≥0)
def qG7 (op k x:Int) (s:BA) (k' x':Int) (s':BA):Int×Int×BA:=
 if okV k x s=true∧okV k' x' s'=true∧6≤op∧op≤11 then
  (if k=4 then (k,x,s) else if k'=4 then (k',x',s') else (3,if qG0 op (qG9 (if k=0 then k' else k) x s (if k'=0 then k else k') x' s')=true then 1 else 0,em))
 else (4,2,em)
theorem qDP (n:Nat):∀(f:Nat) (v:Int×BA),v.1<10^f→v.1≤9223372036854775807→v.2.size+f≤1000→∃t:BA,t.size≤v.2.size+f∧∀M,f+1≤M→zN (qAK n) M v=some t
 |f,v,h1,h1',h2=>by
  by_cases h0:v.1>0
  ·cases f with
   |zero=>simp at h1;omega
   |succ f=>
    have e1:Int.tdiv v.1 10=v.1/10:=Int.tdiv_eq_ediv_of_nonneg (by omega)
    have hw:IntKind.i64.wrap (Int.tdiv v.1 10)=v.1/10:=by rw [e1];exact qk (by omega)
    have h3:v.1/10<10^f:=by
     have:(10:Int)^(f+1)=10^f*10:=Int.pow_succ 10 f
     omega
    let d:BA:=⟨#[UInt8.ofNat (IntKind.u8.wrap (IntKind.i64.wrap ((48:Int)+(Int.tmod v.1 (10:Int))))).toNat]⟩
    have hs:(d++v.2).size=v.2.size+1:=by rw [zLR];show 1+v.2.size=_;omega
    obtain ⟨t,h4,h5⟩:=qDP n f (v.1/10,d++v.2) h3 (by show v.1/10≤_;omega) (by show (d++v.2).size+f≤1000;omega)
    refine ⟨t,by have:t.size≤(d++v.2).size+f:=h4;omega,fun M hM=>?_⟩
    obtain ⟨M,rfl⟩:∃q,M=q+1:=⟨M-1,by omega⟩
    rw [qo (v':=(v.1/10,d++v.2)) (by
     have hd:d.size=1:=rfl
     have hc:d.size+v.2.size≤9223372036854775807:=by omega
     simp only [qAK,qA,qC,qF,qG,qH,qJ,zG,qD,qE,qK,bytesOf,Option.map_some,hw]
     rw [if_pos (by simpa using h0),if_pos (by simp),if_pos (by simpa using hc)])]
    exact h5 M (by omega)
  ·refine ⟨v.2,by omega,fun M hM=>?_⟩
   obtain ⟨M,rfl⟩:∃q,M=q+1:=⟨M-1,by omega⟩
   rw [qQ (r:=v.2) (by
    simp only [qAK,qA,qC,qF,qG,qH,qJ,zG,qD,qE,qK]
    rw [if_neg (by simpa using h0)])]
theorem qES (k:Int) (h:1≤k∧k≤9223372036854775807):∃t:BA,∀n,25≤n→qAH n k=some t:=by
 have p19:(10:Int)^19=10000000000000000000:=by decide
 obtain ⟨t,h1,h2⟩:=qDP 0 19 (k,⟨#[]⟩) (by show k<10^19;omega) h.2 (by show (0:Nat)+19≤1000;decide)
 refine ⟨⟨#[109]⟩++t,fun n hn=>?_⟩
 obtain ⟨m,rfl,hm⟩:=up1 hn
 have h3:zN (qAK m) m (k,⟨#[]⟩)=some t:=h2 m (by omega)
 simp only [qAH,qBl,qA,qC,qF,qG,qH,qJ,zG,qD,qE,qK,h3]
 have h1:t.size≤19:=h1
 have hd:(⟨#[109]⟩:BA).size=1:=rfl
 rw [if_neg (by simp;omega),if_pos (by simp only [decide_eq_true_eq,hd];omega)]
noncomputable def mtx (k:Int):BA:=if h:1≤k∧k≤9223372036854775807 then Classical.choose (qES k h) else ⟨#[]⟩
theorem qGl {k:Int} (h:1≤k∧k≤9223372036854775807) {n:Nat} (hn:25≤n):qAH n k=some (mtx k):=by
 unfold mtx
 rw [dif_pos h]
 exact Classical.choose_spec (qES k h) n hn
abbrev Nd:=Int×Int×Int×Int×BA×Int×Int×Bool×Bool×Int×Int×Bool×Bool×List Int
def qV (x:Int):List PV:= [.i .i64 x]
def qN (c:Nd):List PV:= [.i .i64 c.1,.i .i64 c.2.1,.i .i64 c.2.2.1,.i .i64 c.2.2.2.1,.s c.2.2.2.2.1,.i .i64 c.2.2.2.2.2.1,.i .i64 c.2.2.2.2.2.2.1,.b c.2.2.2.2.2.2.2.1,.b c.2.2.2.2.2.2.2.2.1,.i .i64 c.2.2.2.2.2.2.2.2.2.1,.i .i64 c.2.2.2.2.2.2.2.2.2.2.1,.b c.2.2.2.2.2.2.2.2.2.2.2.1,.b c.2.2.2.2.2.2.2.2.2.2.2.2.1,.ls ((c.2.2.2.2.2.2.2.2.2.2.2.2.2).map qV)]
def kd (c:Nd):List Int:=c.2.2.2.2.2.2.2.2.2.2.2.2.2
theorem qGF {l:List Int} {i:Nat} {e:List PV} (h:(l.map qV)[i]?=some e):∃c,l[i]?=some c∧e=qV c:=by
 rw [List.getElem?_map] at h
 obtain ⟨c,h1,h2⟩:=Option.map_eq_some_iff.1 h
 exact ⟨c,h1,h2.symm⟩
theorem qGG {l:List Nd} {i:Nat} {e:List PV} (h:(l.map qN)[i]?=some e):∃c,l[i]?=some c∧e=qN c:=by
 rw [List.getElem?_map] at h
 obtain ⟨c,h1,h2⟩:=Option.map_eq_some_iff.1 h
 exact ⟨c,h1,h2.symm⟩
theorem qGp {rows:List (List PV)} (h:∀e∈rows,okR [.i .i64,.i .i64,.i .i64,.i .i64,.s,.i .i64,.i .i64,.b,.b,.i .i64,.i .i64,.b,.b,.sl 8 [.i .i64]] e):∃l:List Nd,rows=l.map qN∧∀c∈l,c.2.2.2.2.1.size≤140737488351232∧(kd c).length*8≤140737488351232:=by
 refine qFW (fun e h=>?_) h
 obtain ⟨c0,t0,rfl,p0,h0⟩:=zg h
 obtain ⟨c1,t1,rfl,p1,h1⟩:=zg h0
 obtain ⟨c2,t2,rfl,p2,h2⟩:=zg h1
 obtain ⟨c3,t3,rfl,p3,h3⟩:=zg h2
 obtain ⟨c4,t4,rfl,p4,h4⟩:=zg h3
 obtain ⟨c5,t5,rfl,p5,h5⟩:=zg h4
 obtain ⟨c6,t6,rfl,p6,h6⟩:=zg h5
 obtain ⟨c7,t7,rfl,p7,h7⟩:=zg h6
 obtain ⟨c8,t8,rfl,p8,h8⟩:=zg h7
 obtain ⟨c9,t9,rfl,p9,h9⟩:=zg h8
 obtain ⟨c10,t10,rfl,p10,h10⟩:=zg h9
 obtain ⟨c11,t11,rfl,p11,h11⟩:=zg h10
 obtain ⟨c12,t12,rfl,p12,h12⟩:=zg h11
 obtain ⟨c13,t13,rfl,p13,h13⟩:=zg h12
 obtain rfl:=zCl h13
 obtain ⟨x0,rfl,w0⟩:=zBk p0
 obtain ⟨x1,rfl,w1⟩:=zBk p1
 obtain ⟨x2,rfl,w2⟩:=zBk p2
 obtain ⟨x3,rfl,w3⟩:=zBk p3
 obtain ⟨x4,rfl,w4⟩:=zLQ p4
 obtain ⟨x5,rfl,w5⟩:=zBk p5
 obtain ⟨x6,rfl,w6⟩:=zBk p6
 obtain ⟨x7,rfl⟩:=zHo p7
 obtain ⟨x8,rfl⟩:=zHo p8
 obtain ⟨x9,rfl,w9⟩:=zBk p9
 obtain ⟨x10,rfl,w10⟩:=zBk p10
 obtain ⟨x11,rfl⟩:=zHo p11
 obtain ⟨x12,rfl⟩:=zHo p12
 obtain ⟨x13,rfl,w13⟩:=zJx p13
 obtain ⟨ks,rfl,_⟩:=qFW (enc:=qV) (P:=fun _=>True) (fun e h=>by
  obtain ⟨a,t,rfl,p,h⟩:=zg h
  obtain rfl:=zCl h
  obtain ⟨y,rfl,_⟩:=zBk p
  exact ⟨y,rfl,trivial⟩) w13.2
 exact ⟨(x0,x1,x2,x3,x4,x5,x6,x7,x8,x9,x10,x11,x12,ks),rfl,w4,by simpa [kd] using w13.1⟩
theorem qEI (l:List Int) (hb:l.length*8≤140737488351232):∀n,l.length+5≤n→qA6 n (l.map qV)=some (l.length,l.map qV):=by
 intro n hn
 obtain ⟨m,rfl,hm⟩:=up1 hn
 simp only [qA6,qBg,qA,qC,qF,qG,qH,qJ,zG,qD,qE,qK]
 have h:=qGE (B:=qAQ m) (rows:=l.map qV) (z:= [.i .i64 0]) (r:=fun acc=>((l.map qV).length,acc)) (M:=m)
  (fun i acc e he ha hz=>by
   obtain ⟨c,hc,rfl⟩:=qGF he
   have hi:i<l.length:=(List.getElem?_eq_some_iff.1 hc).1
   have hi':(i:Int)<l.length:=by omega
   have hw:IntKind.i64.wrap ((i:Int)+1)=(i:Int)+1:=qk (by omega)
   have ha':acc.length=l.length:=by simpa using ha
   simp [qAQ,qA,qC,qF,qG,qH,qJ,zG,qD,qE,qK,hi',hc,qV,zE,hz,ha',hw,zA])
  (fun acc ha=>by
   have ha':acc.length=l.length:=by simpa using ha
   simp [qAQ,qA,qC,qF,qG,qH,qJ,zG,qD,qE,qK])
  (by simp;omega)
 simp only [List.length_map,Int.toNat_natCast] at h⊢
 rw [h]
 have h1:(8:Int)*(l.length:Int)≤140737488355328:=by omega
 have h2:(l.length:Int)≤9223372036854775807:=by omega
 simp [qA,qC,qF,qG,qH,qJ,zG,qD,qE,qK,h1,h2]
theorem qEJ (l:List Int) (hb:l.length≤140737488351232):∀n,l.length+5≤n→qA7 n (l.map qV) (l.map qV)=some true:=by
 intro n hn
 obtain ⟨m,rfl,hm⟩:=up1 hn
 simp only [qA7,qBj,qA,qC,qF,qG,qH,qJ,zG,qD,qE,qK]
 have h:=qF8 (B:=qAT m) (rows:=l.map qV) (r:= .inr ())
  (fun i e he=>by
   obtain ⟨c,hc,rfl⟩:=qGF he
   have hi:i<l.length:=(List.getElem?_eq_some_iff.1 hc).1
   have hi':(i:Int)<l.length:=by omega
   have hw:IntKind.i64.wrap ((i:Int)+1)=(i:Int)+1:=qk (by omega)
   simp [qAT,qA,qC,qF,qG,qH,qJ,zG,qD,qE,qK,hi',hc,qV,zE,hw])
  (by simp [qAT,qA,qC,qF,qG,qH,qJ,zG,qD,qE,qK]) l.length 0 m (by simp) (by omega)
 simp only [Int.natCast_zero] at h
 simp [h,qA,qC,qF,qG,qH,qJ,zG,qD,qE,qK]
theorem qEx (c:Nd) (hb:(kd c).length≤140737488351232):∀n,(kd c).length+10≤n→qAw n c.1 c.2.1 c.2.2.1 c.2.2.2.1 c.2.2.2.2.1 c.2.2.2.2.2.1 c.2.2.2.2.2.2.1 c.2.2.2.2.2.2.2.1 c.2.2.2.2.2.2.2.2.1 c.2.2.2.2.2.2.2.2.2.1 c.2.2.2.2.2.2.2.2.2.2.1 c.2.2.2.2.2.2.2.2.2.2.2.1 c.2.2.2.2.2.2.2.2.2.2.2.2.1 ((c.2.2.2.2.2.2.2.2.2.2.2.2.2).map qV) c.1 c.2.1 c.2.2.1 c.2.2.2.1 c.2.2.2.2.1 c.2.2.2.2.2.1 c.2.2.2.2.2.2.1 c.2.2.2.2.2.2.2.1 c.2.2.2.2.2.2.2.2.1 c.2.2.2.2.2.2.2.2.2.1 c.2.2.2.2.2.2.2.2.2.2.1 c.2.2.2.2.2.2.2.2.2.2.2.1 c.2.2.2.2.2.2.2.2.2.2.2.2.1 ((c.2.2.2.2.2.2.2.2.2.2.2.2.2).map qV)=some true:=by
 intro n hn
 obtain ⟨m,rfl,hm⟩:=up1 hn
 have h:=qEJ (kd c) hb m (by omega)
 unfold kd at h
 obtain ⟨q,rfl⟩:∃q,m=q+3:=⟨m-3,by omega⟩
 have p1:∀a b f g,qAv (q+3) a b f g a b f g=some true:=fun a b f g=>by
  simp [qAv,qB8,qCj,qCi,qA,qC,qF,qG,qH,qJ,zG,qD,qE,qK]
 have p2:∀a b s,qBP (q+3) a b s a b s=some true:=fun a b s=>by
  simp [qBP,qB7,qA,qC,qF,qG,qH,qJ,zG,qD,qE,qK]
 simp only [qAw,qB9,qA,qC,qF,qG,qH,qJ,zG,qD,qE,qK,h,p1,p2]
 simp
theorem qCZ (l:List Nd) (hb:l.length≤140737488351232) (hk:∀c∈l,(kd c).length≤140737488351232):Ev (qAM · (l.map qN) (l.map qN)) true:=by
 obtain ⟨n0,h0⟩:=qAp (F:=fun (c:Nd) n=>qAw n c.1 c.2.1 c.2.2.1 c.2.2.2.1 c.2.2.2.2.1 c.2.2.2.2.2.1 c.2.2.2.2.2.2.1 c.2.2.2.2.2.2.2.1 c.2.2.2.2.2.2.2.2.1 c.2.2.2.2.2.2.2.2.2.1 c.2.2.2.2.2.2.2.2.2.2.1 c.2.2.2.2.2.2.2.2.2.2.2.1 c.2.2.2.2.2.2.2.2.2.2.2.2.1 ((c.2.2.2.2.2.2.2.2.2.2.2.2.2).map qV) c.1 c.2.1 c.2.2.1 c.2.2.2.1 c.2.2.2.2.1 c.2.2.2.2.2.1 c.2.2.2.2.2.2.1 c.2.2.2.2.2.2.2.1 c.2.2.2.2.2.2.2.2.1 c.2.2.2.2.2.2.2.2.2.1 c.2.2.2.2.2.2.2.2.2.2.1 c.2.2.2.2.2.2.2.2.2.2.2.1 c.2.2.2.2.2.2.2.2.2.2.2.2.1 ((c.2.2.2.2.2.2.2.2.2.2.2.2.2).map qV)) (f:=fun _=>true) l (fun c hc=>⟨_,qEx c (hk c hc)⟩)
 refine ⟨n0+l.length+5,fun n hn=>?_⟩
 obtain ⟨m,rfl,hm⟩:=up1 hn
 simp only [qAM,qBk,qA,qC,qF,qG,qH,qJ,zG,qD,qE,qK]
 have h:=qF8 (B:=qAU m) (rows:=l.map qN) (r:= .inr ())
  (fun i e he=>by
   obtain ⟨c,hc,rfl⟩:=qGG he
   have hi:i<l.length:=(List.getElem?_eq_some_iff.1 hc).1
   have hi':(i:Int)<l.length:=by omega
   have hw:IntKind.i64.wrap ((i:Int)+1)=(i:Int)+1:=qk (by omega)
   have hf:=h0 m (by omega) c (zl hc)
   simp [qAU,qA,qC,qF,qG,qH,qJ,zG,qD,qE,qK,hi',hc,qN,zE,zAk,zW,zy,hf,hw])
  (by simp [qAU,qA,qC,qF,qG,qH,qJ,zG,qD,qE,qK]) l.length 0 m (by simp) (by omega)
 simp only [Int.natCast_zero] at h
 simp [h,qA,qC,qF,qG,qH,qJ,zG,qD,qE,qK]
def qCa (op n:Int):Bool:=if op=5 then decide (n=2∨n=3) else if 8≤op∧op≤10 then decide (n=1) else if 1≤op∧op≤7 then decide (1≤n∧n≤10) else false
theorem ten {op:Int} (h:1≤op∧op≤10):op=1∨op=2∨op=3∨op=4∨op=5∨op=6∨op=7∨op=8∨op=9∨op=10:=by omega
theorem qFZ (op n:Int):Ev (qBa · op n) (qCa op n):=by
 refine ⟨1,fun n hn=>?_⟩
 obtain ⟨m,rfl,hm⟩:=up1 hn
 simp only [qBa,qCN,qA,qC,qF,qG,qH,qJ,zG,qD,qE,qK]
 by_cases h:1≤op∧op≤10
 ·rcases ten h with rfl|rfl|rfl|rfl|rfl|rfl|rfl|rfl|rfl|rfl
  all_goals
   first
   |(by_cases h2:n=2<;>simp [qCa,h2];done)
   |(by_cases h1:n≥1<;>simp [qCa,h1];done)
   |(by_cases h1:n=1<;>simp [qCa,h1];done)
   |(by_cases h2:n=2<;>by_cases h3:n=3<;>simp [qCa,h2,h3];done)
   |(simp [qCa];done)
 ·have e1:¬op=1:=by omega
  have e2:¬op=2:=by omega
  have e3:¬op=3:=by omega
  have e4:¬op=4:=by omega
  have e5:¬op=5:=by omega
  have e6:¬op=6:=by omega
  have e7:¬op=7:=by omega
  have e8:¬op=8:=by omega
  have e9:¬op=9:=by omega
  have e10:¬op=10:=by omega
  have g1:¬(8≤op∧op≤10):=by omega
  have g2:¬(1≤op∧op≤7):=by omega
  simp [qCa,e1,e2,e3,e4,e5,e6,e7,e8,e9,e10,g1,g2]
def zV (k x:Int) (s:BA):Bool:=decide (k=0)&&(decide (x=0)&&(s.toList== []))
def zP (a b:Int) (f g:Bool):Bool:=decide (a=0)&&(decide (b=0)&&(!f&&!g))
def qAz (c:Nd):Bool:=
 if c.1=1 then decide (c.2.1=0)&&(zP c.2.2.2.2.2.1 c.2.2.2.2.2.2.1 c.2.2.2.2.2.2.2.1 c.2.2.2.2.2.2.2.2.1&&(zP c.2.2.2.2.2.2.2.2.2.1 c.2.2.2.2.2.2.2.2.2.2.1 c.2.2.2.2.2.2.2.2.2.2.2.1 c.2.2.2.2.2.2.2.2.2.2.2.2.1&&(decide ((kd c).length=0)&&(okV c.2.2.1 c.2.2.2.1 c.2.2.2.2.1&&(!decide (c.2.2.1=0)&&(!decide (c.2.2.1=1)||decide (c.2.2.2.1≥0))))))) else
 if c.1=2 then decide (c.2.1=0)&&(zV c.2.2.1 c.2.2.2.1 c.2.2.2.2.1&&(zP c.2.2.2.2.2.2.2.2.2.1 c.2.2.2.2.2.2.2.2.2.2.1 c.2.2.2.2.2.2.2.2.2.2.2.1 c.2.2.2.2.2.2.2.2.2.2.2.2.1&&(decide ((kd c).length=0)&&qBA c.2.2.2.2.2.1 c.2.2.2.2.2.2.1))) else
 if c.1=3 then decide (c.2.1=0)&&(zV c.2.2.1 c.2.2.2.1 c.2.2.2.2.1&&(decide ((kd c).length=0)&&qA9 c.2.2.2.2.2.1 c.2.2.2.2.2.2.1 c.2.2.2.2.2.2.2.2.2.1 c.2.2.2.2.2.2.2.2.2.2.1)) else
 if c.1=4 then decide (c.2.1=0)&&(zV c.2.2.1 c.2.2.2.1 c.2.2.2.2.1&&(zP c.2.2.2.2.2.1 c.2.2.2.2.2.2.1 c.2.2.2.2.2.2.2.1 c.2.2.2.2.2.2.2.2.1&&(zP c.2.2.2.2.2.2.2.2.2.1 c.2.2.2.2.2.2.2.2.2.2.1 c.2.2.2.2.2.2.2.2.2.2.2.1 c.2.2.2.2.2.2.2.2.2.2.2.2.1&&decide ((kd c).length=1)))) else
 if c.1=5 then decide (1≤c.2.1∧c.2.1≤11)&&(zV c.2.2.1 c.2.2.2.1 c.2.2.2.2.1&&(zP c.2.2.2.2.2.1 c.2.2.2.2.2.2.1 c.2.2.2.2.2.2.2.1 c.2.2.2.2.2.2.2.2.1&&(zP c.2.2.2.2.2.2.2.2.2.1 c.2.2.2.2.2.2.2.2.2.2.1 c.2.2.2.2.2.2.2.2.2.2.2.1 c.2.2.2.2.2.2.2.2.2.2.2.2.1&&decide ((kd c).length=2)))) else
 if c.1=6 then qCa c.2.1 ((kd c).length:Int)&&(zV c.2.2.1 c.2.2.2.1 c.2.2.2.2.1&&(zP c.2.2.2.2.2.1 c.2.2.2.2.2.2.1 c.2.2.2.2.2.2.2.1 c.2.2.2.2.2.2.2.2.1&&zP c.2.2.2.2.2.2.2.2.2.1 c.2.2.2.2.2.2.2.2.2.2.1 c.2.2.2.2.2.2.2.2.2.2.2.1 c.2.2.2.2.2.2.2.2.2.2.2.2.1)) else false
theorem qG1 (k x:Int) (s:BA):((k==(0:Int))&&((x==(0:Int))&&((s.toList==(⟨#[]⟩:BA).toList)&&true)))=zV k x s:=by
 rw [qDd]
 unfold zV
 by_cases h:k=0<;>by_cases h2:x=0<;>simp [h,h2]
theorem qG2 (k x:Int) (s:BA):(((0:Int)==k)&&(((0:Int)==x)&&(((⟨#[]⟩:BA).toList==s.toList)&&true)))=zV k x s:=by
 rw [←qG1]
 congr 1
 ·exact Bool.beq_comm
 ·congr 1
  ·exact Bool.beq_comm
  ·congr 1
   exact Bool.beq_comm
theorem qG3 (a b:Int) (f g:Bool):((a==(0:Int))&&((b==(0:Int))&&((f==false)&&((g==false)&&true))))=zP a b f g:=by
 unfold zP
 by_cases h:a=0<;>by_cases h2:b=0<;>cases f<;>cases g<;>simp [h,h2]
theorem qG4 (a b:Int) (f g:Bool):(((0:Int)==a)&&(((0:Int)==b)&&((false==f)&&((false==g)&&true))))=zP a b f g:=by
 rw [←qG3]
 congr 1
 ·exact Bool.beq_comm
 ·congr 1
  ·exact Bool.beq_comm
  ·cases f<;>cases g<;>rfl
theorem qBW (c:Nd) (hb:c.2.2.2.2.1.size≤140737488351232):Ev (qY · c.1 c.2.1 c.2.2.1 c.2.2.2.1 c.2.2.2.2.1 c.2.2.2.2.2.1 c.2.2.2.2.2.2.1 c.2.2.2.2.2.2.2.1 c.2.2.2.2.2.2.2.2.1 c.2.2.2.2.2.2.2.2.2.1 c.2.2.2.2.2.2.2.2.2.2.1 c.2.2.2.2.2.2.2.2.2.2.2.1 c.2.2.2.2.2.2.2.2.2.2.2.2.1 ((c.2.2.2.2.2.2.2.2.2.2.2.2.2).map qV)) (qAz c):=by
 obtain ⟨n1,h1⟩:=qEu c.2.2.1 c.2.2.2.1 c.2.2.2.2.1 hb
 obtain ⟨n2,h2⟩:=qCW c.2.2.2.2.2.1 c.2.2.2.2.2.2.1
 obtain ⟨n3,h3⟩:=qFY c.2.2.2.2.2.1 c.2.2.2.2.2.2.1 c.2.2.2.2.2.2.2.2.2.1 c.2.2.2.2.2.2.2.2.2.2.1
 obtain ⟨n4,h4⟩:=qAd c.2.1 1 11
 obtain ⟨n5,h5⟩:=qFZ c.2.1 (((c.2.2.2.2.2.2.2.2.2.2.2.2.2).map qV).length:Int)
 refine ⟨n1+n2+n3+n4+n5+1,fun n hn=>?_⟩
 obtain ⟨m,rfl,hm⟩:=up1 hn
 have h1:=h1 m (by omega)
 dsimp only at h1
 have h2:=h2 m (by omega)
 dsimp only at h2
 have h3:=h3 m (by omega)
 dsimp only at h3
 have h4:=h4 m (by omega)
 dsimp only at h4
 have h5:=h5 m (by omega)
 dsimp only at h5
 simp only [qY,qBi,qA,qC,qF,qG,qH,qJ,zG,qD,qE,qK,h1,h2,h3,h4,h5]
 have hk:((c.2.2.2.2.2.2.2.2.2.2.2.2.2).map qV).length=(kd c).length:=by rw [List.length_map];rfl
 simp only [qG1,qG3,hk]
 unfold qAz
 by_cases k1:c.1=1
 ·simp only [k1,if_true,beq_self_eq_true]
  cases zP c.2.2.2.2.2.1 c.2.2.2.2.2.2.1 c.2.2.2.2.2.2.2.1 c.2.2.2.2.2.2.2.2.1<;>cases zP c.2.2.2.2.2.2.2.2.2.1 c.2.2.2.2.2.2.2.2.2.2.1 c.2.2.2.2.2.2.2.2.2.2.2.1 c.2.2.2.2.2.2.2.2.2.2.2.2.1<;>cases okV c.2.2.1 c.2.2.2.1 c.2.2.2.2.1<;>by_cases h0:c.2.1=0<;>by_cases h1:(kd c).length=0<;>by_cases h2:c.2.2.1=0<;>by_cases h3:c.2.2.1=1<;>simp [h0,h1,h2,h3]
 by_cases k2:c.1=2
 ·simp only [k2]
  cases zV c.2.2.1 c.2.2.2.1 c.2.2.2.2.1<;>cases zP c.2.2.2.2.2.2.2.2.2.1 c.2.2.2.2.2.2.2.2.2.2.1 c.2.2.2.2.2.2.2.2.2.2.2.1 c.2.2.2.2.2.2.2.2.2.2.2.2.1<;>cases qBA c.2.2.2.2.2.1 c.2.2.2.2.2.2.1<;>by_cases h0:c.2.1=0<;>by_cases h1:(kd c).length=0<;>simp [h0,h1]
 by_cases k3:c.1=3
 ·simp only [k3]
  cases zV c.2.2.1 c.2.2.2.1 c.2.2.2.2.1<;>cases qA9 c.2.2.2.2.2.1 c.2.2.2.2.2.2.1 c.2.2.2.2.2.2.2.2.2.1 c.2.2.2.2.2.2.2.2.2.2.1<;>by_cases h0:c.2.1=0<;>by_cases h1:(kd c).length=0<;>simp [h0,h1]
 by_cases k4:c.1=4
 ·simp only [k4]
  cases zV c.2.2.1 c.2.2.2.1 c.2.2.2.2.1<;>cases zP c.2.2.2.2.2.1 c.2.2.2.2.2.2.1 c.2.2.2.2.2.2.2.1 c.2.2.2.2.2.2.2.2.1<;>cases zP c.2.2.2.2.2.2.2.2.2.1 c.2.2.2.2.2.2.2.2.2.2.1 c.2.2.2.2.2.2.2.2.2.2.2.1 c.2.2.2.2.2.2.2.2.2.2.2.2.1<;>by_cases h0:c.2.1=0<;>by_cases h1:(kd c).length=1<;>simp [h0,h1]<;>omega
 by_cases k5:c.1=5
 ·simp only [k5]
  cases zV c.2.2.1 c.2.2.2.1 c.2.2.2.2.1<;>cases zP c.2.2.2.2.2.1 c.2.2.2.2.2.2.1 c.2.2.2.2.2.2.2.1 c.2.2.2.2.2.2.2.2.1<;>cases zP c.2.2.2.2.2.2.2.2.2.1 c.2.2.2.2.2.2.2.2.2.2.1 c.2.2.2.2.2.2.2.2.2.2.2.1 c.2.2.2.2.2.2.2.2.2.2.2.2.1<;>by_cases h0:1≤c.2.1∧c.2.1≤11<;>by_cases h1:(kd c).length=2<;>simp [h0,h1]<;>omega
 by_cases k6:c.1=6
 ·simp only [k6]
  cases zV c.2.2.1 c.2.2.2.1 c.2.2.2.2.1<;>cases zP c.2.2.2.2.2.1 c.2.2.2.2.2.2.1 c.2.2.2.2.2.2.2.1 c.2.2.2.2.2.2.2.2.1<;>cases zP c.2.2.2.2.2.2.2.2.2.1 c.2.2.2.2.2.2.2.2.2.2.1 c.2.2.2.2.2.2.2.2.2.2.2.1 c.2.2.2.2.2.2.2.2.2.2.2.2.1<;>cases qCa c.2.1 ((kd c).length:Int)<;>simp
 simp [k1,k2,k3,k4,k5,k6]
theorem qFa (c:Nd):Ev (qU · c.1 c.2.1 c.2.2.1 c.2.2.2.1 c.2.2.2.2.1 c.2.2.2.2.2.1 c.2.2.2.2.2.2.1 c.2.2.2.2.2.2.2.1 c.2.2.2.2.2.2.2.2.1 c.2.2.2.2.2.2.2.2.2.1 c.2.2.2.2.2.2.2.2.2.2.1 c.2.2.2.2.2.2.2.2.2.2.2.1 c.2.2.2.2.2.2.2.2.2.2.2.2.1 ((c.2.2.2.2.2.2.2.2.2.2.2.2.2).map qV)) (if c.1=4 then decide (c.2.1=0)&&decide ((kd c).length=1) else if c.1=5 then decide (1≤c.2.1∧c.2.1≤11)&&decide ((kd c).length=2) else if c.1=6 then qCa c.2.1 ((kd c).length:Int) else decide (c.2.1=0)&&decide ((kd c).length=0)):=by
 obtain ⟨n1,h1⟩:=qZ c.2.1 1 11
 obtain ⟨n2,h2⟩:=qZ c.2.1 1 10
 obtain ⟨n3,h3⟩:=qZ (((c.2.2.2.2.2.2.2.2.2.2.2.2.2).map qV).length:Int) 2 3
 obtain ⟨n4,h4⟩:=qZ (((c.2.2.2.2.2.2.2.2.2.2.2.2.2).map qV).length:Int) 1 10
 refine ⟨n1+n2+n3+n4+1,fun n hn=>?_⟩
 obtain ⟨m,rfl,hm⟩:=up1 hn
 have h1:=h1 m (by omega)
 dsimp only at h1
 have h2:=h2 m (by omega)
 dsimp only at h2
 have h3:=h3 m (by omega)
 dsimp only at h3
 have h4:=h4 m (by omega)
 dsimp only at h4
 simp only [qU,qA1,qA,qC,qF,qG,qH,qJ,zG,qD,qE,qK,h1,h2,h3,h4]
 have hk:((c.2.2.2.2.2.2.2.2.2.2.2.2.2).map qV).length=(kd c).length:=by rw [List.length_map];rfl
 simp only [hk]
 by_cases k4:c.1=4
 ·simp only [k4]
  by_cases h0:c.2.1=0<;>by_cases h1:(kd c).length=1<;>simp [h0,h1]<;>omega
 by_cases k5:c.1=5
 ·simp only [k5]
  by_cases h0:1≤c.2.1∧c.2.1≤11<;>by_cases h1:(kd c).length=2<;>simp [h0,h1]<;>omega
 by_cases k6:c.1=6
 ·simp only [k6]
  unfold qCa
  by_cases h:1≤c.2.1∧c.2.1≤10
  ·by_cases h5:c.2.1=5
   ·have:(2≤((kd c).length:Int)∧((kd c).length:Int)≤3)↔(((kd c).length:Int)=2∨((kd c).length:Int)=3):=by omega
    simp [h5,this]
   ·by_cases h8:c.2.1≥8
    ·have g:8≤c.2.1∧c.2.1≤10:=by omega
     by_cases h1:((kd c).length:Int)=1<;>simp [h,h5,h8,g,h1]
    ·have g:¬(8≤c.2.1∧c.2.1≤10):=by omega
     have g':1≤c.2.1∧c.2.1≤7:=by omega
     simp [h,h5,h8,g,g']
  ·have h5:¬c.2.1=5:=by omega
   have g:¬(8≤c.2.1∧c.2.1≤10):=by omega
   have g':¬(1≤c.2.1∧c.2.1≤7):=by omega
   simp [h,h5,g,g']
 by_cases h0:c.2.1=0<;>by_cases h1:(kd c).length=0<;>simp [k4,k5,k6,h0,h1]<;>omega
theorem qEK (c:Nd):Ev (qO · c.1 c.2.1 c.2.2.1 c.2.2.2.1 c.2.2.2.2.1 c.2.2.2.2.2.1 c.2.2.2.2.2.2.1 c.2.2.2.2.2.2.2.1 c.2.2.2.2.2.2.2.2.1 c.2.2.2.2.2.2.2.2.2.1 c.2.2.2.2.2.2.2.2.2.2.1 c.2.2.2.2.2.2.2.2.2.2.2.1 c.2.2.2.2.2.2.2.2.2.2.2.2.1 ((c.2.2.2.2.2.2.2.2.2.2.2.2.2).map qV)) (if c.1=2 then qA9 c.2.2.2.2.2.1 c.2.2.2.2.2.2.1 c.2.2.2.2.2.1 c.2.2.2.2.2.2.1 else if c.1=3 then qA9 c.2.2.2.2.2.1 c.2.2.2.2.2.2.1 c.2.2.2.2.2.2.2.2.2.1 c.2.2.2.2.2.2.2.2.2.2.1 else true):=by
 have g:Ev (qu · c.1 c.2.1 c.2.2.1 c.2.2.2.1 c.2.2.2.2.1 c.2.2.2.2.2.1 c.2.2.2.2.2.2.1 c.2.2.2.2.2.2.2.1 c.2.2.2.2.2.2.2.2.1 c.2.2.2.2.2.2.2.2.2.1 c.2.2.2.2.2.2.2.2.2.2.1 c.2.2.2.2.2.2.2.2.2.2.2.1 c.2.2.2.2.2.2.2.2.2.2.2.2.1 ((c.2.2.2.2.2.2.2.2.2.2.2.2.2).map qV)) (if c.1=2 then (c.2.2.2.2.2.1,c.2.2.2.2.2.2.1,c.2.2.2.2.2.1,c.2.2.2.2.2.2.1) else (c.2.2.2.2.2.1,c.2.2.2.2.2.2.1,c.2.2.2.2.2.2.2.2.2.1,c.2.2.2.2.2.2.2.2.2.2.1)):=by
  refine ⟨1,fun n hn=>?_⟩
  obtain ⟨m,rfl,hm⟩:=up1 hn
  simp only [qu,qAX,qA,qC,qF,qG,qH,qJ,zG,qD,qE,qK]
  by_cases k2:c.1=2<;>simp [k2]
 obtain ⟨n1,h1⟩:=g
 obtain ⟨n2,h2⟩:=qBR c.2.2.2.2.2.1 c.2.2.2.2.2.2.1 c.2.2.2.2.2.1 c.2.2.2.2.2.2.1
 obtain ⟨n3,h3⟩:=qBR c.2.2.2.2.2.1 c.2.2.2.2.2.2.1 c.2.2.2.2.2.2.2.2.2.1 c.2.2.2.2.2.2.2.2.2.2.1
 refine ⟨n1+n2+n3+1,fun n hn=>?_⟩
 obtain ⟨m,rfl,hm⟩:=up1 hn
 have h1:=h1 m (by omega)
 dsimp only at h1
 have h2:=h2 m (by omega)
 dsimp only at h2
 have h3:=h3 m (by omega)
 dsimp only at h3
 simp only [qO,qAW,qA,qC,qF,qG,qH,qJ,zG,qD,qE,qK,h1,h2,h3]
 by_cases k2:c.1=2
 ·simp [k2,h2]
 ·by_cases k3:c.1=3
  ·simp [k3,h3]
  ·simp [k2,k3]
theorem qGm (a b:Int):qA9 a b a b=qBA a b:=by
 unfold qA9
 cases qBA a b<;>simp
theorem qFs (c:Nd) (hb:c.2.2.2.2.1.size≤140737488351232):Ev (qAk · c.1 c.2.1 c.2.2.1 c.2.2.2.1 c.2.2.2.2.1 c.2.2.2.2.2.1 c.2.2.2.2.2.2.1 c.2.2.2.2.2.2.2.1 c.2.2.2.2.2.2.2.2.1 c.2.2.2.2.2.2.2.2.2.1 c.2.2.2.2.2.2.2.2.2.2.1 c.2.2.2.2.2.2.2.2.2.2.2.1 c.2.2.2.2.2.2.2.2.2.2.2.2.1 ((c.2.2.2.2.2.2.2.2.2.2.2.2.2).map qV)) (qAz c):=by
 obtain ⟨n1,g1⟩:=qEv c.2.2.1 c.2.2.2.1 c.2.2.2.2.1 hb
 obtain ⟨n2,g2⟩:=qEK c
 obtain ⟨n3,g3⟩:=qFa c
 refine ⟨n1+n2+n3+1,fun n hn=>?_⟩
 obtain ⟨m,rfl,hm⟩:=up1 hn
 have g1:=g1 m (by omega)
 have g2:=g2 m (by omega)
 have g3:=g3 m (by omega)
 dsimp only at g1 g2 g3
 rw [qGm] at g2
 simp only [qAk,qA8,qA,qC,qF,qG,qH,qJ,zG,qD,qE,qK,g1,g2,g3,qG2,qG4]
 simp only [beq_self_eq_true,Bool.and_true,Bool.true_and]
 unfold qAz
 by_cases k1:c.1=1
 ·have h5:(c.2.2.2.1≥0)=¬(c.2.2.2.1<0):=propext Int.not_lt.symm
  simp only [k1,h5]
  cases zP c.2.2.2.2.2.1 c.2.2.2.2.2.2.1 c.2.2.2.2.2.2.2.1 c.2.2.2.2.2.2.2.2.1<;>cases zP c.2.2.2.2.2.2.2.2.2.1 c.2.2.2.2.2.2.2.2.2.2.1 c.2.2.2.2.2.2.2.2.2.2.2.1 c.2.2.2.2.2.2.2.2.2.2.2.2.1<;>cases okV c.2.2.1 c.2.2.2.1 c.2.2.2.2.1<;>by_cases h0:c.2.1=0<;>by_cases h1:(kd c).length=0<;>by_cases h2:c.2.2.1=0<;>by_cases h3:c.2.2.1=1<;>by_cases h4:c.2.2.2.1<0<;>simp [h0,h1,h2,h3,h4]<;>(try omega)
 by_cases k2:c.1=2
 ·simp only [k2]
  cases zV c.2.2.1 c.2.2.2.1 c.2.2.2.2.1<;>cases zP c.2.2.2.2.2.2.2.2.2.1 c.2.2.2.2.2.2.2.2.2.2.1 c.2.2.2.2.2.2.2.2.2.2.2.1 c.2.2.2.2.2.2.2.2.2.2.2.2.1<;>cases qBA c.2.2.2.2.2.1 c.2.2.2.2.2.2.1<;>by_cases h0:c.2.1=0<;>by_cases h1:(kd c).length=0<;>simp [h0,h1]
 by_cases k3:c.1=3
 ·simp only [k3]
  cases zV c.2.2.1 c.2.2.2.1 c.2.2.2.2.1<;>cases qA9 c.2.2.2.2.2.1 c.2.2.2.2.2.2.1 c.2.2.2.2.2.2.2.2.2.1 c.2.2.2.2.2.2.2.2.2.2.1<;>by_cases h0:c.2.1=0<;>by_cases h1:(kd c).length=0<;>simp [h0,h1]
 by_cases k4:c.1=4
 ·simp only [k4]
  cases zV c.2.2.1 c.2.2.2.1 c.2.2.2.2.1<;>cases zP c.2.2.2.2.2.1 c.2.2.2.2.2.2.1 c.2.2.2.2.2.2.2.1 c.2.2.2.2.2.2.2.2.1<;>cases zP c.2.2.2.2.2.2.2.2.2.1 c.2.2.2.2.2.2.2.2.2.2.1 c.2.2.2.2.2.2.2.2.2.2.2.1 c.2.2.2.2.2.2.2.2.2.2.2.2.1<;>by_cases h0:c.2.1=0<;>by_cases h1:(kd c).length=1<;>simp [h0,h1]
 by_cases k5:c.1=5
 ·simp only [k5]
  cases zV c.2.2.1 c.2.2.2.1 c.2.2.2.2.1<;>cases zP c.2.2.2.2.2.1 c.2.2.2.2.2.2.1 c.2.2.2.2.2.2.2.1 c.2.2.2.2.2.2.2.2.1<;>cases zP c.2.2.2.2.2.2.2.2.2.1 c.2.2.2.2.2.2.2.2.2.2.1 c.2.2.2.2.2.2.2.2.2.2.2.1 c.2.2.2.2.2.2.2.2.2.2.2.2.1<;>by_cases h0:1≤c.2.1∧c.2.1≤11<;>by_cases h1:(kd c).length=2<;>simp [h0,h1]
 by_cases k6:c.1=6
 ·simp only [k6]
  cases zV c.2.2.1 c.2.2.2.1 c.2.2.2.2.1<;>cases zP c.2.2.2.2.2.1 c.2.2.2.2.2.2.1 c.2.2.2.2.2.2.2.1 c.2.2.2.2.2.2.2.2.1<;>cases zP c.2.2.2.2.2.2.2.2.2.1 c.2.2.2.2.2.2.2.2.2.2.1 c.2.2.2.2.2.2.2.2.2.2.2.1 c.2.2.2.2.2.2.2.2.2.2.2.2.1<;>cases qCa c.2.1 ((kd c).length:Int)<;>simp
 simp [k1,k2,k3,k4,k5,k6]
section
variable (own area call:Int→Bool) (kids:Int→List Int)
def goF (F:Int→Int) (n:Int):List Int→Int→Int
 | [],start=>start
 |k::r,start=>if k≠start-1∨k<0∨(area k=true∧call n=false) then-1 else if F k<0 then-1 else goF F n r (F k)
def qAe:Nat→Int→Int
 |0,_=> -1
 |f+1,n=>if n<0∨own n=false then-1 else goF area call (qAe f) n (kids n).reverse n
def goT (F:Int→Int):List Int→Int→Int
 | [],x=>x+1
 |k::r,x=>if x<0∨k≠x then-1 else if F x<0 then-1 else goT F r (F x-1)
def qAf:Nat→Int→Int
 |0,_=> -1
 |f+1,n=>goT (qAf f) (kids n).reverse (n-1)
def qDB:List Int→Int
 | []=>0
 |x::r=>max x (qDB r)
def qw:Nat→Int→Int
 |0,_=>0
 |f+1,n=>qDB ((kids n).map fun k=>qw f k)+1
def qCA (i:Int):Prop:=∀k∈kids i,0≤k∧k≤i-1∧¬(area k=true∧call i=false)
theorem qFb:∀(f:Nat) (n:Int),0≤n→qAf kids f n≤n
 |0,n,h=>by rw [qAf];omega
 |f+1,n,h=>by
  have go:∀(l:List Int) (x:Int),x+1≤n→-1≤x→goT (qAf kids f) l x≤n:=by
   intro l
   induction l with
   |nil=>intro x h1 h2;rw [goT];omega
   |cons k r ih=>
    intro x h1 h2
    rw [goT]
    split
    ·omega
    ·split
     ·omega
     ·have:=qFb f x (by omega)
      exact ih _ (by omega) (by omega)
  rw [qAf]
  exact go _ _ (by omega) (by omega)
theorem qGc {l:List Int} {b:Int} (h0:0≤b):qDB l≤b↔∀x∈l,x≤b:=by
 induction l with
 |nil=>simp [qDB,h0]
 |cons a r ih=>simp only [qDB,List.mem_cons,forall_eq_or_imp];rw [Int.max_le,ih]
theorem qGH {n b:Int} {f:Nat} (h0:1≤b):qw kids (f+1) n≤b↔∀k∈kids n,qw kids f k≤b-1:=by
 rw [qw]
 constructor
 ·intro h k hk
  exact (qGc (l:=(kids n).map fun k=>qw kids f k) (by omega)).1 (by omega) _ (List.mem_map_of_mem (f:=fun k=>qw kids f k) hk)
 ·intro h
  have:=(qGc (l:=(kids n).map fun k=>qw kids f k) (b:=b-1) (by omega)).2 (by
   intro x hx
   obtain ⟨k,hk,rfl⟩:=List.mem_map.1 hx
   exact h k hk)
  omega
theorem qGI:∀(f g:Nat) (n:Int),n<f→n<g→(∀i,0≤i→i≤n→qCA area call kids i)→0≤n→qw kids f n=qw kids g n
 |0,g,n,h1,h2,_,h3=>by omega
 |f+1,0,n,h1,h2,_,h3=>by omega
 |f+1,g+1,n,h1,h2,hk,h3=>by
  rw [qw,qw]
  congr 2
  apply List.map_congr_left
  intro k hm
  have:=hk n h3 (by omega) k hm
  exact qGI f g k (by omega) (by omega) (fun i h0 h1=>hk i h0 (by omega)) (by omega)
theorem qGi:∀(f:Nat) (n:Int),0≤n→n<f→1≤qw kids f n
 |0,n,h,h'=>by omega
 |f+1,n,h,h'=>by
  rw [qw]
  have:∀l:List Int,0≤qDB l:=by
   intro l
   induction l with
   |nil=>exact Int.le_refl 0
   |cons a r ih=>simp only [qDB];omega
  have:=this ((kids n).map fun k=>qw kids f k)
  omega
theorem qF9:∀(f g:Nat) (n:Int),0≤n→n<g→0≤qAe own area call kids f n→
  qAe own area call kids f n≤n∧qAf kids g n=qAe own area call kids f n∧(∀i,qAe own area call kids f n≤i→i≤n→own i=true∧qCA area call kids i)∧(∀h:Nat,(∀i,0≤i→i≤n→qCA area call kids i)→n<h→qw kids h n≤f)
 |0,g,n,h0,h1,h2=>by rw [qAe] at h2;omega
 |f+1,0,n,h0,h1,h2=>by omega
 |f+1,g+1,n,h0,h1,h2=>by
  rw [qAe] at h2⊢
  split at h2
  ·omega
  ·rename_i hc
   rw [if_neg hc]
   have go:∀(l:List Int) (s:Int),0≤s→s≤n→0≤goF area call (qAe own area call kids f) n l s→
     goF area call (qAe own area call kids f) n l s≤s∧goT (qAf kids g) l (s-1)=goF area call (qAe own area call kids f) n l s∧(∀i,goF area call (qAe own area call kids f) n l s≤i→i≤s-1→own i=true∧qCA area call kids i)∧(∀k∈l,0≤k∧k≤n-1∧¬(area k=true∧call n=false))∧(∀h:Nat,(∀i,0≤i→i≤n→qCA area call kids i)→n<h→∀k∈l,qw kids h k≤f):=by
    intro l
    induction l with
    |nil=>
     intro s h3 h4 h5
     rw [goF] at h5⊢
     rw [goT]
     refine ⟨by omega,by omega,fun i _ _=>by omega,fun k hk=>(by cases hk),fun h _ _ k hk=>(by cases hk)⟩
    |cons k r ih=>
     intro s h3 h4 h5
     rw [goF] at h5⊢
     split at h5
     ·omega
     ·rename_i hd
      rw [if_neg hd]
      split at h5
      ·omega
      ·rename_i he
       rw [if_neg he]
       have hk:k=s-1:=by omega
       subst hk
       obtain ⟨a1,a2,a3,a4⟩:=qF9 f g (s-1) (by omega) (by omega) (by omega)
       obtain ⟨b1,b2,b3,b4,b5⟩:=ih _ (by omega) (by omega) h5
       refine ⟨by omega,?_,?_,?_,?_⟩
       ·rw [goT,if_neg (by omega),a2,if_neg he,b2]
       ·intro i i1 i2
        by_cases hi:qAe own area call kids f (s-1)≤i
        ·exact a3 i hi i2
        ·exact b3 i i1 (by omega)
       ·intro k hk
        rcases List.mem_cons.1 hk with rfl|hk
        ·exact ⟨by omega,by omega,fun h=>hd (.inr (.inr h))⟩
        ·exact b4 k hk
       ·intro h hx hy k hk
        rcases List.mem_cons.1 hk with rfl|hk
        ·exact a4 h (fun i i1 i2=>hx i i1 (by omega)) (by omega)
        ·exact b5 h hx hy k hk
   obtain ⟨c1,c2,c3,c4,c5⟩:=go _ n h0 (Int.le_refl n) h2
   have hown:own n=true:=by cases ho:own n with
    |true=>rfl
    |false=>exact absurd (.inr ho) hc
   refine ⟨c1,by rw [qAf];exact c2,?_,?_⟩
   ·intro i i1 i2
    by_cases hi:i=n
    ·subst hi
     exact ⟨hown,fun k hk=>c4 k (List.mem_reverse.2 hk)⟩
    ·exact c3 i i1 (by omega)
   ·intro h hx hy
    cases h with
    |zero=>omega
    |succ h=>
     refine (qGH kids (by omega)).2 fun k hk=>?_
     have hin:=hx n h0 (Int.le_refl n) k hk
     have e:qw kids h k=qw kids (n.toNat+1) k:=qGI area call kids _ _ _ (by omega) (by omega) (fun i i1 i2=>hx i i1 (by omega)) (by omega)
     rw [e]
     have:=c5 (n.toNat+1) hx (by omega) k (List.mem_reverse.2 hk)
     omega
theorem qGd:∀(f g h:Nat) (n:Int),0≤n→n<g→n<h→(∀i,0≤i→i≤n→own i=true∧qCA area call kids i)→0≤qAf kids g n→qw kids h n≤f→qAe own area call kids f n=qAf kids g n
 |0,g,h,n,h0,h1,h1',h2,h3,h4=>by have:=qGi kids h n h0 h1';omega
 |f+1,0,h,n,h0,h1,_,h2,h3,h4=>by omega
 |f+1,g+1,0,n,h0,h1,_,h2,h3,h4=>by omega
 |f+1,g+1,h+1,n,h0,h1,h1',h2,h3,h4=>by
  have hd:=(qGH kids (b:=((f+1:Nat):Int)) (by omega)).1 h4
  have go:∀(l:List Int) (s:Int),(∀k∈l,k∈kids n)→0≤s→s≤n→0≤goT (qAf kids g) l (s-1)→goF area call (qAe own area call kids f) n l s=goT (qAf kids g) l (s-1):=by
   intro l
   induction l with
   |nil=>intro s _ _ _ _;rw [goF,goT];omega
   |cons k r ih=>
    intro s hm h3 h4 h5
    rw [goT] at h5⊢
    rw [goF]
    split at h5
    ·omega
    ·rename_i hc
     rw [if_neg hc]
     split at h5
     ·omega
     ·rename_i he
      rw [if_neg he]
      have hk:k=s-1:=by omega
      have hin:=(h2 n h0 (Int.le_refl n)).2 k (hm k (List.mem_cons_self ..))
      have hdk:=hd k (hm k (List.mem_cons_self ..))
      subst hk
      have e:=qGd f g h (s-1) (by omega) (by omega) (by omega) (fun i i1 i2=>h2 i i1 (by omega)) (by omega) (by omega)
      have hb:¬(s-1≠s-1∨s-1<0∨(area (s-1)=true∧call n=false)):=fun hx=>by
       rcases hx with hx|hx|hx
       ·exact hx rfl
       ·omega
       ·exact hin.2.2 hx
      rw [if_neg hb,e,if_neg he]
      have hle:=qFb kids g (s-1) (by omega)
      exact ih _ (fun k hk=>hm k (List.mem_cons_of_mem _ hk)) (by omega) (by omega) h5
  rw [qAf] at h3
  have hn:¬(n<0∨own n=false):=fun hx=>by
   rcases hx with hx|hx
   ·omega
   ·rw [(h2 n h0 (Int.le_refl n)).1] at hx;cases hx
  rw [qAe,qAf,if_neg hn]
  exact go _ n (fun k hk=>List.mem_reverse.1 hk) h0 (Int.le_refl n) h3
end
theorem qx (c:Nd):(qN c).length=14:=rfl
theorem qy (k:Int):(qV k).length=1:=rfl
theorem qz (k:Int):zE .i64 (qV k) 0=some k:=rfl
theorem q7 (c:Nd):zE .i64 (qN c) 0=some c.1:=rfl
theorem q8 (c:Nd):zE .i64 (qN c) 1=some c.2.1:=rfl
theorem q9 (c:Nd):zE .i64 (qN c) 2=some c.2.2.1:=rfl
theorem qAA (c:Nd):zE .i64 (qN c) 3=some c.2.2.2.1:=rfl
theorem qAB (c:Nd):zAk (qN c) 4=some c.2.2.2.2.1:=rfl
theorem qAC (c:Nd):zE .i64 (qN c) 5=some c.2.2.2.2.2.1:=rfl
theorem qAD (c:Nd):zE .i64 (qN c) 6=some c.2.2.2.2.2.2.1:=rfl
theorem qAE (c:Nd):zW (qN c) 7=some c.2.2.2.2.2.2.2.1:=rfl
theorem qAF (c:Nd):zW (qN c) 8=some c.2.2.2.2.2.2.2.2.1:=rfl
theorem qAG (c:Nd):zE .i64 (qN c) 9=some c.2.2.2.2.2.2.2.2.2.1:=rfl
theorem qf (c:Nd):zE .i64 (qN c) 10=some c.2.2.2.2.2.2.2.2.2.2.1:=rfl
theorem qg (c:Nd):zW (qN c) 11=some c.2.2.2.2.2.2.2.2.2.2.2.1:=rfl
theorem qh (c:Nd):zW (qN c) 12=some c.2.2.2.2.2.2.2.2.2.2.2.2.1:=rfl
theorem qi (c:Nd):zy (qN c) 13=some ((c.2.2.2.2.2.2.2.2.2.2.2.2.2).map qV):=rfl
def nd0:Nd:=(0,0,0,0,⟨#[]⟩,0,0,false,false,0,0,false,false,[])
def ndi (l:List Nd) (i:Int):Nd:=l.getD i.toNat nd0
def qR (l:List Nd) (i:Int):List Int:=kd (ndi l i)
def qBp (l:List Nd) (i:Int):Bool:=qAz (ndi l i)
def qAI (l:List Nd) (i:Int):Bool:=decide ((ndi l i).1=3)
def qAV (l:List Nd) (i:Int):Bool:=decide ((ndi l i).1=6)
theorem qAq {l:List Nd} {i:Int} (h:0≤i∧i<l.length):l[i.toNat]?=some (ndi l i):=by
 have:i.toNat<l.length:=by omega
 unfold ndi
 rw [zb this,List.getD_eq_getElem?_getD,zb this]
 rfl
theorem qEz {l:List Nd} {i:Int} (h:0≤i∧i<l.length):ndi l i∈l:=zl (qAq h)
theorem qGJ {α:Type} {l:List α} {j:Nat} {k:α} (h:l[j]?=some k):(l.take (j+1)).reverse=k::(l.take j).reverse:=by
 rw [List.take_add_one,h]
 simp
theorem qGK {R:Type} {F:Int→Nat→Option R} {f:Int→R} (x:Int) (h:∀y,0≤y→y<x→Ev (F y) (f y)):∃n0,∀n,n0≤n→∀y,0≤y→y<x→F y n=some (f y):=by
 obtain ⟨n0,h0⟩:=qAp (F:=F) (f:=f) ((List.range x.toNat).map fun (i:Nat)=>(i:Int)) (fun c hc=>by
  obtain ⟨i,hi,rfl⟩:=List.mem_map.1 hc
  have:=List.mem_range.1 hi
  exact h _ (Int.natCast_nonneg i) (by omega))
 refine ⟨n0,fun n hn y h1 h2=>h0 n hn y (List.mem_map.2 ⟨y.toNat,List.mem_range.2 (by omega),by omega⟩)⟩
theorem qFx (l:List Nd) (x1:Int) (f n:Nat) (hx:0≤x1∧x1<l.length) (hl:l.length≤140737488351232) (hk:(kd (ndi l x1)).length≤140737488351232)
  (hrec:∀y:Int,0≤y→y<x1→qd n (l.map qN) y=some (qAf (qR l) f y)):
  ∀(j M:Nat) (s:Int),j≤(kd (ndi l x1)).length→j+1≤M→-1≤s→s<x1→
   (∃x,zN (qj (qd n) n) M (l.map qN,x1,s,(j:Int)-1)=some (.inr x)∧goT (qAf (qR l) f) ((qR l x1).take j).reverse s=x+1∧-1≤x∧x<x1)∨
   (zN (qj (qd n) n) M (l.map qN,x1,s,(j:Int)-1)=some (.inl (-1))∧goT (qAf (qR l) f) ((qR l x1).take j).reverse s= -1)
 |0,0,s,h1,h2,h3,h4=>by omega
 |0,M+1,s,h1,h2,h3,h4=>by
  refine .inl ⟨s,?_,by simp [goT],h3,h4⟩
  rw [qQ (r:= .inr s) (by simp [-getElem?_pos,qj,qA,qC,qF,qG,qH,qJ,zG,qD,qE,qK])]
 |j+1,0,s,h1,h2,h3,h4=>by omega
 |j+1,M+1,s,h1,h2,h3,h4=>by
  have hc:=qAq hx
  have hj:j<(kd (ndi l x1)).length:=by omega
  have hg:(qR l x1)[j]?=some (qR l x1)[j]:=zb hj
  have ih:=qFx l x1 f n hx hl hk hrec j M
  rw [qGJ hg]
  generalize (qR l x1)[j]=k at hg
  have hi:(((j+1:Nat):Int)-1)=(j:Int):=by omega
  rw [hi,goT]
  have hg':(ndi l x1).2.2.2.2.2.2.2.2.2.2.2.2.2[j]?=some k:=hg
  have hj':j<(ndi l x1).2.2.2.2.2.2.2.2.2.2.2.2.2.length:=hj
  by_cases hs:s<0
  ·refine .inr ⟨?_,by rw [if_pos (.inl hs)]⟩
   rw [qQ (r:= .inl (-1)) (by simp [-getElem?_pos,qj,qA,qC,qF,qG,qH,qJ,zG,qD,qE,qK,hs])]
  ·by_cases hks:k=s
   ·subst hks
    have hr:=hrec k (by omega) h4
    by_cases ht:qAf (qR l) f k<0
    ·refine .inr ⟨?_,by rw [if_neg (by omega),if_pos ht]⟩
     rw [qQ (r:= .inl (-1)) (by simp [-getElem?_pos,qj,qA,qC,qF,qG,qH,qJ,zG,qD,qE,qK,hs,hc,hx,qx,qy,qz,q7,q8,q9,qAA,qAB,qAC,qAD,qAE,qAF,qAG,qf,qg,qh,qi,hg',hj',hr,ht])]
    ·have hle:=qFb (qR l) f k (by omega)
     have hw:IntKind.i64.wrap (qAf (qR l) f k-1)=qAf (qR l) f k-1:=qk (by omega)
     have hw2:IntKind.i64.wrap ((j:Int)-1)=(j:Int)-1:=qk (by omega)
     rw [if_neg (by omega),if_neg ht]
     rw [qo (v':=(l.map qN,x1,qAf (qR l) f k-1,(j:Int)-1)) (by simp [-getElem?_pos,qj,qA,qC,qF,qG,qH,qJ,zG,qD,qE,qK,hs,hc,hx,qx,qy,qz,q7,q8,q9,qAA,qAB,qAC,qAD,qAE,qAF,qAG,qf,qg,qh,qi,hg',hj',hr,ht,hw,hw2])]
     exact ih _ (by omega) (by omega) (by omega) (by omega)
   ·refine .inr ⟨?_,by rw [if_pos (.inr hks)]⟩
    rw [qQ (r:= .inl (-1)) (by simp [-getElem?_pos,qj,qA,qC,qF,qG,qH,qJ,zG,qD,qE,qK,hs,hc,hx,qx,qy,qz,q7,q8,q9,qAA,qAB,qAC,qAD,qAE,qAF,qAG,qf,qg,qh,qi,hg',hj',hks])]
theorem qDC (l:List Nd) (hl:l.length≤140737488351232) (hk:∀c∈l,(kd c).length≤140737488351232):∀(f:Nat) (x:Int),0≤x→x<l.length→x<f→Ev (qd · (l.map qN) x) (qAf (qR l) f x)
 |0,x,h0,h1,h2=>by omega
 |f+1,x,h0,h1,h2=>by
  obtain ⟨n0,hn0⟩:=qGK (F:=fun y n=>qd n (l.map qN) y) (f:=fun y=>qAf (qR l) f y) x (fun y h3 h4=>qDC l hl hk f y h3 (by omega) (by omega))
  refine ⟨n0+(kd (ndi l x)).length+5,fun n hn=>?_⟩
  obtain ⟨m,rfl,hm⟩:=up1 hn
  have hc:=qAq (l:=l) (i:=x) ⟨h0,h1⟩
  have hkx:=hk _ (qEz (l:=l) ⟨h0,h1⟩)
  have hw:IntKind.i64.wrap (x-1)=x-1:=qk (by omega)
  have hw2:IntKind.i64.wrap (((kd (ndi l x)).length:Int)-1)=((kd (ndi l x)).length:Int)-1:=qk (by omega)
  have h:=qFx l x f m ⟨h0,h1⟩ hl hkx (hn0 m (by omega)) (kd (ndi l x)).length m (x-1) (Nat.le_refl _) (by omega) (by omega) (by omega)
  have e:(qR l x).take (kd (ndi l x)).length=qR l x:=List.take_length
  rw [e] at h
  rw [show qAf (qR l) (f+1) x=goT (qAf (qR l) f) (qR l x).reverse (x-1) from rfl]
  unfold kd at h hw2
  dsimp only
  simp only [qd,qCP,qA,qC,qF,qG,qH,qJ,zG,qD,qE,qK]
  rcases h with ⟨y,g1,g2,g3,g4⟩|⟨g1,g2⟩
  ·have hw3:IntKind.i64.wrap (y+1)=y+1:=qk (by omega)
   rw [g2]
   simp [-getElem?_pos,qA,qC,qF,qG,qH,qJ,zG,qD,qE,qK,hc,h0,h1,qx,qy,qz,q7,q8,q9,qAA,qAB,qAC,qAD,qAE,qAF,qAG,qf,qg,qh,qi,hw,hw2,g1,hw3]
  ·rw [g2]
   simp [-getElem?_pos,qA,qC,qF,qG,qH,qJ,zG,qD,qE,qK,hc,h0,h1,qx,qy,qz,q7,q8,q9,qAA,qAB,qAC,qAD,qAE,qAF,qAG,qf,qg,qh,qi,hw,hw2,g1]
theorem qEL (kids:Int→List Int):∀(f:Nat) (n:Int),0≤qw kids f n∧qw kids f n≤f
 |0,n=>by rw [qw];omega
 |f+1,n=>by
  have:∀l:List Int,0≤qDB (l.map fun k=>qw kids f k)∧qDB (l.map fun k=>qw kids f k)≤f:=by
   intro l
   induction l with
   |nil=>exact ⟨Int.le_refl 0,Int.natCast_nonneg f⟩
   |cons a r ih=>have:=qEL kids f a;simp only [List.map_cons,qDB];omega
  have:=this (kids n)
  rw [qw]
  omega
theorem qFy (l:List Nd) (x1:Int) (f n:Nat) (hx:0≤x1∧x1<l.length) (hf:f≤1000) (hk:(kd (ndi l x1)).length≤140737488351232)
  (hrec:∀k∈qR l x1,qe n (l.map qN) k=some (qw (qR l) f k)):
  ∀(m i M:Nat) (a:Int),(kd (ndi l x1)).length=i+m→m+1≤M→0≤a→
   zN (qAg (qe n) n) M (l.map qN,x1,a,(i:Int))=some (max a (qDB (((qR l x1).drop i).map fun k=>qw (qR l) f k)))
 |m,i,0,a,h1,h2,h3=>by omega
 |0,i,M+1,a,h1,h2,h3=>by
  have hc:=qAq hx
  have hi:¬i<(ndi l x1).2.2.2.2.2.2.2.2.2.2.2.2.2.length:=by unfold kd at h1;omega
  rw [qQ (r:=a) (by simp [-getElem?_pos,qAg,qA,qC,qF,qG,qH,qJ,zG,qD,qE,qK,hc,hx,qx,qy,qz,q7,q8,q9,qAA,qAB,qAC,qAD,qAE,qAF,qAG,qf,qg,qh,qi,hi])]
  rw [List.drop_eq_nil_of_le (by unfold qR;omega)]
  simp only [List.map_nil,qDB]
  congr 1
  omega
 |m+1,i,M+1,a,h1,h2,h3=>by
  have hc:=qAq hx
  have hj:i<(kd (ndi l x1)).length:=by omega
  have hg:(qR l x1)[i]?=some (qR l x1)[i]:=zb hj
  rw [qDF hg]
  have hr:=hrec _ (zl hg)
  generalize (qR l x1)[i]=k at hg hr
  have hg':(ndi l x1).2.2.2.2.2.2.2.2.2.2.2.2.2[i]?=some k:=hg
  have hj':i<(ndi l x1).2.2.2.2.2.2.2.2.2.2.2.2.2.length:=hj
  have hj'':(i:Int)<((ndi l x1).2.2.2.2.2.2.2.2.2.2.2.2.2.length:Int):=by omega
  have hw:IntKind.i64.wrap ((i:Int)+1)=((i+1:Nat):Int):=by rw [qk (by omega)];omega
  have hd:=qEL (qR l) f k
  rw [qo (v':=(l.map qN,x1,(if qw (qR l) f k>a then qw (qR l) f k else a),((i+1:Nat):Int))) (by simp [-getElem?_pos,qAg,qA,qC,qF,qG,qH,qJ,zG,qD,qE,qK,hc,hx,qx,qy,qz,q7,q8,q9,qAA,qAB,qAC,qAD,qAE,qAF,qAG,qf,qg,qh,qi,hg',hj',hr,hw])]
  rw [qFy l x1 f n hx hf hk hrec m (i+1) M _ (by omega) (by omega) (by split<;>omega)]
  simp only [List.map_cons,qDB]
  congr 1
  split<;>omega
theorem qDD (l:List Nd) (hl:l.length≤60) (hk:∀c∈l,(kd c).length≤140737488351232) (hin:∀i:Int,0≤i→i<l.length→qCA (qAI l) (qAV l) (qR l) i):∀(f:Nat) (x:Int),f≤1000→0≤x→x<l.length→x<f→Ev (qe · (l.map qN) x) (qw (qR l) f x)
 |0,x,hf,h0,h1,h2=>by omega
 |f+1,x,hf,h0,h1,h2=>by
  obtain ⟨n0,hn0⟩:=qAp (F:=fun y n=>qe n (l.map qN) y) (f:=fun y=>qw (qR l) f y) (qR l x) (fun y hy=>by
   have:=hin x h0 h1 y hy
   exact qDD l hl hk hin f y (by omega) (by omega) (by omega) (by omega))
  refine ⟨n0+(kd (ndi l x)).length+5,fun n hn=>?_⟩
  obtain ⟨m,rfl,hm⟩:=up1 hn
  have h:=qFy l x f m ⟨h0,h1⟩ (by omega) (hk _ (qEz (l:=l) ⟨h0,h1⟩)) (hn0 m (by omega)) (kd (ndi l x)).length 0 m 0 (by omega) (by omega) (by omega)
  have hd:=qEL (qR l) (f+1) x
  have e:max 0 (qDB ((qR l x).map fun k=>qw (qR l) f k))+1=qw (qR l) (f+1) x:=by
   rw [qw]
   have:∀q:List Int,0≤qDB q:=by
    intro q
    induction q with
    |nil=>exact Int.le_refl 0
    |cons a r ih=>simp only [qDB];omega
   have:=this ((qR l x).map fun k=>qw (qR l) f k)
   omega
  rw [List.drop_zero] at h
  simp only [Int.natCast_zero] at h
  have hw:IntKind.i64.wrap (max 0 (qDB ((qR l x).map fun k=>qw (qR l) f k))+1)=qw (qR l) (f+1) x:=by rw [e,qk (by omega)]
  simp only [qe,qCR,qA,qC,qF,qG,qH,qJ,zG,qD,qE,qK,h,hw]
def inB (l:List Nd) (i:Int):Bool:=(qR l i).all fun k=>decide (0≤k∧k≤i-1)&&!(qAI l k&&!qAV l i)
theorem qGe {l:List Nd} {i:Int}:inB l i=true↔qCA (qAI l) (qAV l) (qR l) i:=by
 unfold inB qCA
 rw [List.all_eq_true]
 refine forall_congr' fun k=>forall_congr' fun hk=>?_
 cases qAI l k<;>cases qAV l i<;>simp
theorem qGA (l:List Nd) (x1:Int) (n:Nat) (hx:0≤x1∧x1<l.length) (hl:l.length≤60) (hk:(kd (ndi l x1)).length≤140737488351232):
  ∀(m i M:Nat),(kd (ndi l x1)).length=i+m→m+1≤M→
   zN (qb (n+1)) M (l.map qN,x1,(i:Int))=some (if ((qR l x1).drop i).all (fun k=>decide (0≤k∧k≤x1-1)&&!(qAI l k&&!qAV l x1))=true then .inr (l.map qN,x1) else .inl false)
 |m,i,0,h1,h2=>by omega
 |0,i,M+1,h1,h2=>by
  have hc:=qAq hx
  have hi:¬i<(ndi l x1).2.2.2.2.2.2.2.2.2.2.2.2.2.length:=by unfold kd at h1;omega
  rw [qQ (r:= .inr (l.map qN,x1)) (by simp [-getElem?_pos,qb,qA,qC,qF,qG,qH,qJ,zG,qD,qE,qK,hc,hx,qx,qy,qz,q7,q8,q9,qAA,qAB,qAC,qAD,qAE,qAF,qAG,qf,qg,qh,qi,hi])]
  rw [List.drop_eq_nil_of_le (by unfold qR;omega)]
  rfl
 |m+1,i,M+1,h1,h2=>by
  have hc:=qAq hx
  have hj:i<(kd (ndi l x1)).length:=by omega
  have hg:(qR l x1)[i]?=some (qR l x1)[i]:=zb hj
  rw [qDF hg]
  generalize (qR l x1)[i]=k at hg
  have hg':(ndi l x1).2.2.2.2.2.2.2.2.2.2.2.2.2[i]?=some k:=hg
  have hj':i<(ndi l x1).2.2.2.2.2.2.2.2.2.2.2.2.2.length:=hj
  have hw:IntKind.i64.wrap ((i:Int)+1)=((i+1:Nat):Int):=by rw [qk (by omega)];omega
  have hw2:IntKind.i64.wrap (x1-1)=x1-1:=qk (by omega)
  have hin:qm (n+1) k 0 (x1-1)=some (decide (0≤k∧k≤x1-1)):=by
   simp only [qm,qCD,qA,qC,qF,qG,qH,qJ,zG,qD,qE,qK]
   by_cases h:k≥0<;>simp [h]
  rw [List.all_cons]
  by_cases hr:0≤k∧k≤x1-1
  ·have hck:=qAq (l:=l) (i:=k) ⟨hr.1,by omega⟩
   have hkl:k<(l.length:Int):=by omega
   by_cases ha:(ndi l k).1=3
   ·by_cases hcl:(ndi l x1).1=6
    ·rw [qo (v':=(l.map qN,x1,((i+1:Nat):Int))) (by simp [-getElem?_pos,qb,qA,qC,qF,qG,qH,qJ,zG,qD,qE,qK,hc,hx,qx,qy,qz,q7,q8,q9,qAA,qAB,qAC,qAD,qAE,qAF,qAG,qf,qg,qh,qi,hg',hj',hw,hw2,hin,hr,hck,hkl,ha,hcl])]
     rw [qGA l x1 n hx hl hk m (i+1) M (by omega) (by omega)]
     simp [hr,qAI,qAV,ha,hcl]
    ·rw [qQ (r:= .inl false) (by simp [-getElem?_pos,qb,qA,qC,qF,qG,qH,qJ,zG,qD,qE,qK,hc,hx,qx,qy,qz,q7,q8,q9,qAA,qAB,qAC,qAD,qAE,qAF,qAG,qf,qg,qh,qi,hg',hj',hw,hw2,hin,hr,hck,hkl,ha,hcl])]
     simp [hr,qAI,qAV,ha,hcl]
   ·rw [qo (v':=(l.map qN,x1,((i+1:Nat):Int))) (by simp [-getElem?_pos,qb,qA,qC,qF,qG,qH,qJ,zG,qD,qE,qK,hc,hx,qx,qy,qz,q7,q8,q9,qAA,qAB,qAC,qAD,qAE,qAF,qAG,qf,qg,qh,qi,hg',hj',hw,hw2,hin,hr,hck,hkl,ha])]
    rw [qGA l x1 n hx hl hk m (i+1) M (by omega) (by omega)]
    simp [hr,qAI,qAV,ha]
  ·rw [qQ (r:= .inl false) (by simp [-getElem?_pos,qb,qA,qC,qF,qG,qH,qJ,zG,qD,qE,qK,hc,hx,qx,qy,qz,q7,q8,q9,qAA,qAB,qAC,qAD,qAE,qAF,qAG,qf,qg,qh,qi,hg',hj',hw2,hin,hr])]
   simp [hr]
def qBb (l:List Nd) (i m:Nat):Bool:=(List.range' i m).all fun (i:Nat)=>qBp l (i:Int)&&inB l (i:Int)
theorem qCK {l:List Nd}:qBb l 0 l.length=true↔∀i:Int,0≤i→i<l.length→qBp l i=true∧qCA (qAI l) (qAV l) (qR l) i:=by
 unfold qBb
 rw [List.all_eq_true]
 constructor
 ·intro h i h0 h1
  have:=h i.toNat (by rw [List.mem_range'];exact ⟨i.toNat,by omega,by omega⟩)
  rw [show ((i.toNat:Nat):Int)=i by omega,Bool.and_eq_true,qGe] at this
  exact this
 ·intro h i hi
  rw [List.mem_range'] at hi
  obtain ⟨j,hj,rfl⟩:=hi
  rw [Bool.and_eq_true,qGe]
  exact h _ (by omega) (by omega)
theorem qGf (l:List Nd) (n:Nat) (hl:l.length≤60) (hk:∀c∈l,(kd c).length≤140737488351232) (hn:∀c∈l,(kd c).length+2≤n)
  (hok:∀c∈l,qY n c.1 c.2.1 c.2.2.1 c.2.2.2.1 c.2.2.2.2.1 c.2.2.2.2.2.1 c.2.2.2.2.2.2.1 c.2.2.2.2.2.2.2.1 c.2.2.2.2.2.2.2.2.1 c.2.2.2.2.2.2.2.2.2.1 c.2.2.2.2.2.2.2.2.2.2.1 c.2.2.2.2.2.2.2.2.2.2.2.1 c.2.2.2.2.2.2.2.2.2.2.2.2.1 ((c.2.2.2.2.2.2.2.2.2.2.2.2.2).map qV)=some (qAz c)):
  ∀(m i M:Nat),l.length=i+m→m+1≤M→
   zN (ql n) M (l.map qN,(i:Int))=some (if qBb l i m=true then .inr (l.map qN) else .inl false)
 |m,i,0,h1,h2=>by omega
 |0,i,M+1,h1,h2=>by
  have hi:¬(i:Int)<(l.length:Int):=by omega
  rw [qQ (r:= .inr (l.map qN)) (by simp [-getElem?_pos,ql,qA,qC,qF,qG,qH,qJ,zG,qD,qE,qK,hi])]
  rfl
 |m+1,i,M+1,h1,h2=>by
  have hi:(i:Int)<(l.length:Int):=by omega
  have hx:0≤(i:Int)∧(i:Int)<l.length:=⟨by omega,hi⟩
  have hc:=qAq hx
  have hm:=qEz hx
  have ho:=hok _ hm
  have hw:IntKind.i64.wrap ((i:Int)+1)=((i+1:Nat):Int):=by rw [qk (by omega)];omega
  have hnn:=hn _ hm
  obtain ⟨q,rfl⟩:∃q,n=q+1:=⟨n-1,by omega⟩
  have hlp:=qGA l i q hx hl (hk _ hm) (kd (ndi l i)).length 0 (q+1) (by omega) (by omega)
  rw [List.drop_zero,show ((qR l (i:Int)).all fun k=>decide (0≤k∧k≤(i:Int)-1)&&!(qAI l k&&!qAV l (i:Int)))=inB l i from rfl] at hlp
  simp only [Int.natCast_zero] at hlp
  have e:qBb l i (m+1)=(qBp l i&&inB l i&&qBb l (i+1) m):=by unfold qBb;rw [List.range'_succ,List.all_cons]
  rw [e]
  rw [Int.toNat_natCast] at hc
  cases hnb:qAz (ndi l i) with
  |false=>
   rw [hnb] at ho
   rw [qQ (r:= .inl false) (by simp [-getElem?_pos,ql,qA,qC,qF,qG,qH,qJ,zG,qD,qE,qK,hi,hc,qx,qy,qz,q7,q8,q9,qAA,qAB,qAC,qAD,qAE,qAF,qAG,qf,qg,qh,qi,ho])]
   simp [qBp,hnb]
  |true=>
   rw [hnb] at ho
   cases hib:inB l i with
   |false=>
    rw [hib] at hlp
    rw [qQ (r:= .inl false) (by simp [-getElem?_pos,ql,qA,qC,qF,qG,qH,qJ,zG,qD,qE,qK,hi,hc,qx,qy,qz,q7,q8,q9,qAA,qAB,qAC,qAD,qAE,qAF,qAG,qf,qg,qh,qi,ho,hlp])]
    simp
   |true=>
    rw [hib] at hlp
    rw [qo (v':=(l.map qN,((i+1:Nat):Int))) (by simp [-getElem?_pos,ql,qA,qC,qF,qG,qH,qJ,zG,qD,qE,qK,hi,hc,qx,qy,qz,q7,q8,q9,qAA,qAB,qAC,qAD,qAE,qAF,qAG,qf,qg,qh,qi,ho,hlp,hw])]
    rw [qGf l (q+1) hl hk hn hok m (i+1) M (by omega) (by omega)]
    simp [qBp,hnb]
def qCt (l:List Nd):Bool:=decide (1≤l.length∧l.length≤60)&&(qBb l 0 l.length&&(decide (qAf (qR l) l.length ((l.length:Int)-1)=0)&&(!qAI l ((l.length:Int)-1)&&decide (qw (qR l) l.length ((l.length:Int)-1)≤12))))
theorem qDs (l:List Nd) (hk:∀c∈l,(kd c).length≤140737488351232∧c.2.2.2.2.1.size≤140737488351232):Ev (qAN · (l.map qN)) (qCt l):=by
 by_cases h1:1≤l.length
 ·by_cases h60:l.length≤60
  ·have hk1:∀c∈l,(kd c).length≤140737488351232:=fun c hc=>(hk c hc).1
   obtain ⟨n1,g1⟩:=qAp (F:=fun (c:Nd) n=>qY n c.1 c.2.1 c.2.2.1 c.2.2.2.1 c.2.2.2.2.1 c.2.2.2.2.2.1 c.2.2.2.2.2.2.1 c.2.2.2.2.2.2.2.1 c.2.2.2.2.2.2.2.2.1 c.2.2.2.2.2.2.2.2.2.1 c.2.2.2.2.2.2.2.2.2.2.1 c.2.2.2.2.2.2.2.2.2.2.2.1 c.2.2.2.2.2.2.2.2.2.2.2.2.1 ((c.2.2.2.2.2.2.2.2.2.2.2.2.2).map qV)) (f:=qAz) l (fun c hc=>qBW c (hk c hc).2)
   obtain ⟨n2,g2⟩:=qAp (F:=fun (c:Nd) n=>if (kd c).length+2≤n then some () else none) (f:=fun _=>()) l (fun c hc=>⟨(kd c).length+2,fun n hn=>if_pos hn⟩)
   obtain ⟨n3,g3⟩:=qDC l (by omega) hk1 l.length ((l.length:Int)-1) (by omega) (by omega) (by omega)
   obtain ⟨n4,g4⟩:∃n0,qBb l 0 l.length=true→∀n,n0≤n→qe n (l.map qN) ((l.length:Int)-1)=some (qw (qR l) l.length ((l.length:Int)-1)):=by
    by_cases ho:qBb l 0 l.length=true
    ·obtain ⟨n4,g4⟩:=qDD l h60 hk1 (fun (i:Int) h0 h1=>(qCK.1 ho i h0 h1).2) l.length ((l.length:Int)-1) (by omega) (by omega) (by omega) (by omega)
     exact ⟨n4,fun _=>g4⟩
    ·exact ⟨0,fun h=>absurd h ho⟩
   refine ⟨n1+n2+n3+n4+l.length+5,fun n hn=>?_⟩
   obtain ⟨m,rfl,hm⟩:=up1 hn
   have hlp:=qGf l m h60 hk1 (fun c hc=>by
    have:=g2 m (by omega) c hc
    split at this
    ·assumption
    ·cases this) (g1 m (by omega)) l.length 0 m (by omega) (by omega)
   have g3:=g3 m (by omega)
   dsimp only at g3
   simp only [Int.natCast_zero] at hlp
   have hw:IntKind.i64.wrap ((l.length:Int)-1)=(l.length:Int)-1:=qk (by omega)
   have hx:0≤(l.length:Int)-1∧(l.length:Int)-1<l.length:=by omega
   have hc:=qAq hx
   have a1:¬(l.length:Int)<1:=by omega
   have a2:¬(l.length:Int)>60:=by omega
   generalize hxe:(l.length:Int)-1=x at hw hx hc g3 g4⊢
   simp only [qAN,qAh,qA,qC,qF,qG,qH,qJ,zG,qD,qE,qK,List.length_map,decide_eq_true_eq,a1,a2,if_false,hlp]
   unfold qCt
   rw [hxe]
   cases ho:qBb l 0 l.length with
   |false=>simp [qA,qC,qF,qG,qH,qJ,zG,qD,qE,qK]
   |true=>
    have g4:=g4 ho m (by omega)
    simp only [if_true,qA,qC,qF,qG,qH,qJ,zG,qD,qE,qK,List.length_map,hxe,hw,g3]
    by_cases ht:qAf (qR l) l.length x=0
    ·by_cases ha:(ndi l x).1=3
     ·simp [-getElem?_pos,qA,qC,qF,qG,qH,qJ,zG,qD,qE,qK,ht,hx,hc,qx,qy,qz,q7,q8,q9,qAA,qAB,qAC,qAD,qAE,qAF,qAG,qf,qg,qh,qi,ha,qAI]
     ·simp [-getElem?_pos,qA,qC,qF,qG,qH,qJ,zG,qD,qE,qK,ht,hx,hc,qx,qy,qz,q7,q8,q9,qAA,qAB,qAC,qAD,qAE,qAF,qAG,qf,qg,qh,qi,ha,qAI,g4,h1,h60]
    ·simp [-getElem?_pos,qA,qC,qF,qG,qH,qJ,zG,qD,qE,qK,ht]
  ·refine ⟨1,fun n hn=>?_⟩
   obtain ⟨m,rfl,hm⟩:=up1 (n0:=0) hn
   have a1:¬(l.length:Int)<1:=by omega
   have a2:(l.length:Int)>60:=by omega
   simp [-getElem?_pos,qAN,qAh,qA,qC,qF,qG,qH,qJ,zG,qD,qE,qK,a1,a2,qCt,h60]
 ·refine ⟨1,fun n hn=>?_⟩
  obtain ⟨m,rfl,hm⟩:=up1 (n0:=0) hn
  have a1:(l.length:Int)<1:=by omega
  simp [-getElem?_pos,qAN,qAh,qA,qC,qF,qG,qH,qJ,zG,qD,qE,qK,a1,qCt,h1]
theorem qFz (l:List Nd) (x1 d:Int) (f n:Nat) (hx:0≤x1∧x1<l.length) (hl:l.length≤140737488351232) (hd:0≤d∧d≤1000) (hk:(kd (ndi l x1)).length≤140737488351232)
  (hrec:∀y:Int,0≤y→y<x1→qc n (l.map qN) y (d+1)=some (qAe (qBp l) (qAI l) (qAV l) (qR l) f y)):
  ∀(j M:Nat) (s:Int),j≤(kd (ndi l x1)).length→j+1≤M→0≤s→s≤x1→
   zN (qW (qc n) n) M (l.map qN,x1,d,s,(j:Int)-1)=some (.inr (goF (qAI l) (qAV l) (qAe (qBp l) (qAI l) (qAV l) (qR l) f) x1 ((qR l x1).take j).reverse s))∨
   (zN (qW (qc n) n) M (l.map qN,x1,d,s,(j:Int)-1)=some (.inl (-1))∧goF (qAI l) (qAV l) (qAe (qBp l) (qAI l) (qAV l) (qR l) f) x1 ((qR l x1).take j).reverse s= -1)
 |0,0,s,h1,h2,h3,h4=>by omega
 |0,M+1,s,h1,h2,h3,h4=>by
  refine .inl ?_
  rw [qQ (r:= .inr s) (by simp [-getElem?_pos,qW,qA,qC,qF,qG,qH,qJ,zG,qD,qE,qK])]
  simp [goF]
 |j+1,0,s,h1,h2,h3,h4=>by omega
 |j+1,M+1,s,h1,h2,h3,h4=>by
  have hc:=qAq hx
  have hj:j<(kd (ndi l x1)).length:=by omega
  have hg:(qR l x1)[j]?=some (qR l x1)[j]:=zb hj
  have ih:=qFz l x1 d f n hx hl hd hk hrec j M
  rw [qGJ hg]
  generalize (qR l x1)[j]=k at hg
  have hi:(((j+1:Nat):Int)-1)=(j:Int):=by omega
  rw [hi,goF]
  have hg':(ndi l x1).2.2.2.2.2.2.2.2.2.2.2.2.2[j]?=some k:=hg
  have hj':j<(ndi l x1).2.2.2.2.2.2.2.2.2.2.2.2.2.length:=hj
  have hws:IntKind.i64.wrap (s-1)=s-1:=qk (by omega)
  by_cases hks:k=s-1
  ·by_cases hk0:k<0
   ·refine .inr ⟨?_,by rw [if_pos (.inr (.inl hk0))]⟩
    rw [qQ (r:= .inl (-1)) (by simp [-getElem?_pos,qW,qA,qC,qF,qG,qH,qJ,zG,qD,qE,qK,hc,hx,qx,qy,qz,q7,q8,q9,qAA,qAB,qAC,qAD,qAE,qAF,qAG,qf,qg,qh,qi,hg',hj',hks,hws,show s-1<0 by omega])]
   ·have hws':IntKind.i64.wrap (s-1)=k:=by rw [hws,hks]
    have hkx:0≤k∧k<l.length:=by omega
    have hck:=qAq hkx
    by_cases hac:qAI l k=true∧qAV l x1=false
    ·have ha:(ndi l k).1=3:=by simpa [qAI] using hac.1
     have hb:¬(ndi l x1).1=6:=by simpa [qAV] using hac.2
     refine .inr ⟨?_,by rw [if_pos (.inr (.inr hac))]⟩
     rw [qQ (r:= .inl (-1)) (by simp [-getElem?_pos,qW,qA,qC,qF,qG,qH,qJ,zG,qD,qE,qK,hc,hx,qx,qy,qz,q7,q8,q9,qAA,qAB,qAC,qAD,qAE,qAF,qAG,qf,qg,qh,qi,hg',hj',hws',hk0,hck,hkx,ha,hb])]
    ·have hr:=hrec k (by omega) (by omega)
     have hwd:IntKind.i64.wrap (d+1)=d+1:=qk (by omega)
     have hw2:IntKind.i64.wrap ((j:Int)-1)=(j:Int)-1:=qk (by omega)
     have hno:¬(k≠s-1∨k<0∨(qAI l k=true∧qAV l x1=false)):=fun h=>by
      rcases h with h|h|h
      ·exact h hks
      ·exact hk0 h
      ·exact hac h
     have hcase:¬(ndi l k).1=3∨((ndi l k).1=3∧(ndi l x1).1=6):=by
      by_cases ha:(ndi l k).1=3
      ·refine .inr ⟨ha,?_⟩
       refine Decidable.byContradiction fun hb=>hac ⟨by simp [qAI,ha],by simp [qAV,hb]⟩
      ·exact .inl ha
     rw [if_neg hno]
     by_cases ht:qAe (qBp l) (qAI l) (qAV l) (qR l) f k<0
     ·refine .inr ⟨?_,by rw [if_pos ht]⟩
      rcases hcase with ha|⟨ha,hb⟩
      ·rw [qQ (r:= .inl (-1)) (by simp [-getElem?_pos,qW,qA,qC,qF,qG,qH,qJ,zG,qD,qE,qK,hc,hx,qx,qy,qz,q7,q8,q9,qAA,qAB,qAC,qAD,qAE,qAF,qAG,qf,qg,qh,qi,hg',hj',hws',hk0,hck,hkx,ha,hwd,hr,ht])]
      ·rw [qQ (r:= .inl (-1)) (by simp [-getElem?_pos,qW,qA,qC,qF,qG,qH,qJ,zG,qD,qE,qK,hc,hx,qx,qy,qz,q7,q8,q9,qAA,qAB,qAC,qAD,qAE,qAF,qAG,qf,qg,qh,qi,hg',hj',hws',hk0,hck,hkx,ha,hb,hwd,hr,ht])]
     ·rw [if_neg ht]
      have hb1:=(qF9 (qBp l) (qAI l) (qAV l) (qR l) f (k.toNat+1) k (by omega) (by omega) (by omega)).1
      have hstep:zN (qW (qc n) n) (M+1) (l.map qN,x1,d,s,(j:Int))=zN (qW (qc n) n) M (l.map qN,x1,d,qAe (qBp l) (qAI l) (qAV l) (qR l) f k,(j:Int)-1):=by
       rcases hcase with ha|⟨ha,hb⟩
       ·rw [qo (v':=(l.map qN,x1,d,qAe (qBp l) (qAI l) (qAV l) (qR l) f k,(j:Int)-1)) (by simp [-getElem?_pos,qW,qA,qC,qF,qG,qH,qJ,zG,qD,qE,qK,hc,hx,qx,qy,qz,q7,q8,q9,qAA,qAB,qAC,qAD,qAE,qAF,qAG,qf,qg,qh,qi,hg',hj',hws',hk0,hck,hkx,ha,hwd,hr,ht,hw2])]
       ·rw [qo (v':=(l.map qN,x1,d,qAe (qBp l) (qAI l) (qAV l) (qR l) f k,(j:Int)-1)) (by simp [-getElem?_pos,qW,qA,qC,qF,qG,qH,qJ,zG,qD,qE,qK,hc,hx,qx,qy,qz,q7,q8,q9,qAA,qAB,qAC,qAD,qAE,qAF,qAG,qf,qg,qh,qi,hg',hj',hws',hk0,hck,hkx,ha,hb,hwd,hr,ht,hw2])]
      rw [hstep]
      exact ih _ (by omega) (by omega) (by omega) (by omega)
  ·refine .inr ⟨?_,by rw [if_pos (.inl hks)]⟩
   rw [qQ (r:= .inl (-1)) (by simp [-getElem?_pos,qW,qA,qC,qF,qG,qH,qJ,zG,qD,qE,qK,hc,hx,qx,qy,qz,q7,q8,q9,qAA,qAB,qAC,qAD,qAE,qAF,qAG,qf,qg,qh,qi,hg',hj',hws,hks])]
theorem qDt (l:List Nd) (hl:l.length≤140737488351232) (hk:∀c∈l,(kd c).length≤140737488351232∧c.2.2.2.2.1.size≤140737488351232):∀(f:Nat) (x d:Int),x<l.length→d=12-f→0≤d→Ev (qc · (l.map qN) x d) (qAe (qBp l) (qAI l) (qAV l) (qR l) f x)
 |0,x,d,h1,h2,h3=>by
  refine ⟨1,fun n hn=>?_⟩
  obtain ⟨m,rfl,hm⟩:=up1 (n0:=0) hn
  have a:d≥12:=by omega
  by_cases h:x<0<;>simp [-getElem?_pos,qc,qBc,qA,qC,qF,qG,qH,qJ,zG,qD,qE,qK,h,a,qAe]
 |f+1,x,d,h1,h2,h3=>by
  by_cases h0:x<0
  ·refine ⟨1,fun n hn=>?_⟩
   obtain ⟨m,rfl,hm⟩:=up1 (n0:=0) hn
   simp [-getElem?_pos,qc,qBc,qA,qC,qF,qG,qH,qJ,zG,qD,qE,qK,h0,qAe]
  ·have hx:0≤x∧x<l.length:=by omega
   have hc:=qAq hx
   have hm':=qEz hx
   obtain ⟨n0,hn0⟩:=qGK (F:=fun y n=>qc n (l.map qN) y (d+1)) (f:=fun y=>qAe (qBp l) (qAI l) (qAV l) (qR l) f y) x (fun y h3 h4=>qDt l hl hk f y (d+1) (by omega) (by omega) (by omega))
   obtain ⟨n1,g1⟩:=qFs (ndi l x) (hk _ hm').2
   refine ⟨n0+n1+(kd (ndi l x)).length+5,fun n hn=>?_⟩
   obtain ⟨m,rfl,hm⟩:=up1 hn
   have g1:=g1 m (by omega)
   have h:=qFz l x d f m hx hl (by omega) (hk _ hm').1 (hn0 m (by omega)) (kd (ndi l x)).length m x (Nat.le_refl _) (by omega) (by omega) (by omega)
   have e:(qR l x).take (kd (ndi l x)).length=qR l x:=List.take_length
   rw [e] at h
   have hw2:IntKind.i64.wrap (((kd (ndi l x)).length:Int)-1)=((kd (ndi l x)).length:Int)-1:=by
    have:=(hk _ hm').1
    exact qk (by omega)
   have a:¬d≥12:=by omega
   unfold kd at h hw2
   dsimp only at g1⊢
   simp only [qc,qBc,qAe,qA,qC,qF,qG,qH,qJ,zG,qD,qE,qK]
   cases hnb:qAz (ndi l x) with
   |false=>
    rw [hnb] at g1
    simp [-getElem?_pos,qA,qC,qF,qG,qH,qJ,zG,qD,qE,qK,h0,a,hc,hx,qx,qy,qz,q7,q8,q9,qAA,qAB,qAC,qAD,qAE,qAF,qAG,qf,qg,qh,qi,g1,qBp,hnb]
   |true=>
    rw [hnb] at g1
    rcases h with h|⟨h,h'⟩
    ·simp [-getElem?_pos,qA,qC,qF,qG,qH,qJ,zG,qD,qE,qK,h0,a,hc,hx,qx,qy,qz,q7,q8,q9,qAA,qAB,qAC,qAD,qAE,qAF,qAG,qf,qg,qh,qi,g1,qBp,hnb,hw2,h]
    ·simp only [h']
     simp [-getElem?_pos,qA,qC,qF,qG,qH,qJ,zG,qD,qE,qK,h0,a,hc,hx,qx,qy,qz,q7,q8,q9,qAA,qAB,qAC,qAD,qAE,qAF,qAG,qf,qg,qh,qi,g1,qBp,hnb,hw2,h]
theorem qGn {l:List Nd}:qCt l=(decide (1≤l.length∧l.length≤60)&&(!qAI l ((l.length:Int)-1)&&decide (qAe (qBp l) (qAI l) (qAV l) (qR l) 12 ((l.length:Int)-1)=0))):=by
 rw [Bool.eq_iff_iff]
 unfold qCt
 simp only [Bool.and_eq_true,decide_eq_true_eq]
 constructor
 ·intro ⟨h1,h2,h3,h4,h5⟩
  refine ⟨h1,h4,?_⟩
  rw [qGd (qBp l) (qAI l) (qAV l) (qR l) 12 l.length l.length ((l.length:Int)-1) (by omega) (by omega) (by omega) (fun i i0 i1=>qCK.1 h2 i i0 (by omega)) (by omega) (by simpa using h5)]
  exact h3
 ·intro ⟨h1,h4,h5⟩
  obtain ⟨b1,b2,b3,b4⟩:=qF9 (qBp l) (qAI l) (qAV l) (qR l) 12 l.length ((l.length:Int)-1) (by omega) (by omega) (by omega)
  rw [h5] at b2 b3
  refine ⟨h1,qCK.2 (fun i i0 i1=>b3 i i0 (by omega)),b2,h4,?_⟩
  have:=b4 l.length (fun i i0 i1=>(b3 i i0 i1).2) (by omega)
  simpa using this
theorem qDu (l:List Nd) (hl:l.length≤140737488351232) (hk:∀c∈l,(kd c).length≤140737488351232∧c.2.2.2.2.1.size≤140737488351232):Ev (qAO · (l.map qN)) (qCt l):=by
 rw [qGn]
 by_cases h:1≤l.length∧l.length≤60
 ·obtain ⟨n1,g1⟩:=qDt l hl hk 12 ((l.length:Int)-1) 0 (by omega) (by omega) (by omega)
  obtain ⟨n2,g2⟩:=qZ (l.length:Int) 1 60
  refine ⟨n1+n2+1,fun n hn=>?_⟩
  obtain ⟨m,rfl,hm⟩:=up1 hn
  have g1:=g1 m (by omega)
  have g2:=g2 m (by omega)
  dsimp only at g1 g2⊢
  have hw:IntKind.i64.wrap ((l.length:Int)-1)=(l.length:Int)-1:=qk (by omega)
  have hx:0≤(l.length:Int)-1∧(l.length:Int)-1<l.length:=by omega
  have hc:=qAq hx
  have h':(1:Int)≤l.length∧(l.length:Int)≤60:=by omega
  generalize hxe:(l.length:Int)-1=x at hw hx hc g1⊢
  by_cases ha:(ndi l x).1=3
  ·simp [-getElem?_pos,qAO,qAi,qA,qC,qF,qG,qH,qJ,zG,qD,qE,qK,hxe,g2,h',hw,hx,hc,qx,qy,qz,q7,q8,q9,qAA,qAB,qAC,qAD,qAE,qAF,qAG,qf,qg,qh,qi,ha,qAI]
  ·by_cases hf:qAe (qBp l) (qAI l) (qAV l) (qR l) 12 x=0<;>simp [-getElem?_pos,qAO,qAi,qA,qC,qF,qG,qH,qJ,zG,qD,qE,qK,hxe,g1,g2,h,h',hw,hx,hc,qx,qy,qz,q7,q8,q9,qAA,qAB,qAC,qAD,qAE,qAF,qAG,qf,qg,qh,qi,ha,qAI,hf]
 ·obtain ⟨n2,g2⟩:=qZ (l.length:Int) 1 60
  refine ⟨n2+1,fun n hn=>?_⟩
  obtain ⟨m,rfl,hm⟩:=up1 hn
  have g2:=g2 m (by omega)
  dsimp only at g2⊢
  have h':¬((1:Int)≤l.length∧(l.length:Int)≤60):=by omega
  simp [-getElem?_pos,qAO,qAi,qA,qC,qF,qG,qH,qJ,zG,qD,qE,qK,g2,h,h']
structure Fine (l:List Nd):Prop where
 len:l.length≤60
 own:∀i:Int,0≤i→i<l.length→qBp l i=true∧qCA (qAI l) (qAV l) (qR l) i
 sz:∀c∈l,(kd c).length≤140737488351232∧c.2.2.2.2.1.size≤140737488351232
abbrev PS:=List UInt8×Bool×List Nd
inductive PJ where
 |bin (least deep:Int)
 |loop (least deep a:Int)
 |un (deep:Int)
 |at (deep:Int)
 |call (op deep:Int)
 |args (op deep:Int) (kids:List Int)
inductive SJ where
 |row (level:Int)
 |rl (level a:Int)
 |one
 |call (op:Int) (kids:List Int)
 |arg
def qGv (c:Nd):Prop:=(kd c).length≤2000∧c.2.2.2.2.1.size≤2000
structure Gd (p:PS):Prop where
 r:p.1.length≤1000
 n:p.2.2.length≤60
 s:∀x∈p.2.2,qGv x
structure Go (k:Nat) (q q':PS):Prop where
 suf:q'.1<:+q.1
 sum:q'.2.2.length+q'.1.length+k≤q.2.2.length+q.1.length
 sm:(∀x∈q.2.2,qGv x)→∀x∈q'.2.2,qGv x
theorem Go.trans {a b:Nat} {p q r:PS} (h:Go a p q) (h':Go b q r):Go (a+b) p r:=⟨h'.suf.trans h.suf,by have:=h.sum;have:=h'.sum;omega,fun e=>h'.sm (h.sm e)⟩
theorem Go.of (q:PS) {r:List UInt8} (b:Bool) {k:Nat} (h:r<:+q.1) (hk:r.length+k≤q.1.length):Go k q (r,b,q.2.2):=⟨h,by simp only;omega,id⟩
def Iv (s:List UInt8) (q:PS):Prop:=q.1<:+s∧q.2.2.length+q.1.length≤2000
theorem Iv.go {s:List UInt8} {k:Nat} {q q':PS} (h:Iv s q) (g:Go k q q'):Iv s q':=⟨g.suf.trans h.1,by have:=g.sum;have:=h.2;omega⟩
abbrev Cl:=Int×Int×BA
def lo (l:List Nd) (i:Int):Int:=qAf (qR l) (i.toNat+1) i
def Dwx {β:Type} (Q:β→Prop) (R:Nat→Tr β):Prop:=∃x,Q x∧Ev (fun n=>(R n).run) x
theorem qBm {α β:Type} {Q:β→Prop} {F:Nat→Option α} {r:α} {K:Nat→α→Tr β} (h:Ev F r) (hk:Dwx Q fun n=>K n r):Dwx Q fun n=> .opt (F n) (K n):=by
 obtain ⟨x,q,n1,h1⟩:=hk
 obtain ⟨n0,h0⟩:=h
 exact ⟨x,q,n0+n1,fun n hn=>qM (h0 n (by omega)) (h1 n (by omega))⟩
theorem qCb {β:Type} {Q:β→Prop} {b:Bool} {t e:Nat→Tr β} (h:b=true) (hk:Dwx Q t):Dwx Q fun n=> .ask b (t n) (e n):=by
 obtain ⟨x,q,n1,h1⟩:=hk
 exact ⟨x,q,n1,fun n hn=>qP h (h1 n hn)⟩
theorem qCz {β:Type} {Q:β→Prop} {b:Bool} {t e:Nat→Tr β} (h:b=false) (hk:Dwx Q e):Dwx Q fun n=> .ask b (t n) (e n):=by
 obtain ⟨x,q,n1,h1⟩:=hk
 exact ⟨x,q,n1,fun n hn=>qa h (h1 n hn)⟩
theorem qE0 {α β:Type} {Q:β→Prop} {o:Option α} {r:α} {K:Nat→α→Tr β} (h:o=some r) (hk:Dwx Q fun n=>K n r):Dwx Q fun n=> .opt o (K n):=by
 obtain ⟨x,q,n1,h1⟩:=hk
 exact ⟨x,q,n1,fun n hn=>qM h (h1 n hn)⟩
theorem qn {β:Type} {Q:β→Prop} {x:β} (h:Q x):Dwx Q fun _=> .done x:=⟨x,h,0,fun _ _=>rfl⟩
theorem qCB {β:Type} {Q:β→Prop} {F:Nat→Option β} {R:Nat→Tr β} (h:Dwx Q R) (hF:∀n,F (n+1)=(R n).run):∃x,Q x∧Ev F x:=by
 obtain ⟨x,q,n1,h1⟩:=h
 refine ⟨x,q,n1+1,fun n hn=>?_⟩
 obtain ⟨m,rfl,hm⟩:=up1 hn
 rw [hF]
 exact h1 m hm
theorem qDE {β:Type} {F:Nat→Option β} {x:β} (h:∃y,y=x∧Ev F y):Ev F x:=by
 obtain ⟨y,rfl,h⟩:=h
 exact h
def qGL {α R:Type} (f:Nat→α→Option R):Nat→List α→Option R
 |_,[]=>none
 |i,a::r=>match f i a with
  |some x=>some x
  |none=>qGL f (i+1) r
theorem qG5 {V R α:Type} {B:V→Tr (V⊕R)} (st:Nat→V) (l:List α) (f:Nat→α→Option R) (z:R) (hs:∀i a,l[i]?=some a→(B (st i)).run=some (match f i a with|some r=> .inr r|none=> .inl (st (i+1))))
  (he:(B (st l.length)).run=some (.inr z)):∀(M:Nat),l.length+1≤M→zN B M (st 0)=some ((qGL f 0 l).getD z):=by
 have key:∀(r:List α) (i M:Nat),l.drop i=r→i+r.length=l.length→r.length+1≤M→zN B M (st i)=some ((qGL f i r).getD z):=by
  intro r
  induction r with
  |nil=>
   intro i M h1 h2 h3
   obtain ⟨M,rfl⟩:∃q,M=q+1:=⟨M-1,by omega⟩
   have e:i=l.length:=by simpa using h2
   subst e
   rw [qQ he]
   rfl
  |cons a r ih=>
   intro i M h1 h2 h3
   obtain ⟨M,rfl⟩:∃q,M=q+1:=⟨M-1,by omega⟩
   have hg:l[i]?=some a:=by rw [←List.head?_drop,h1];rfl
   have hd:l.drop (i+1)=r:=by rw [←List.tail_drop,h1];rfl
   have h4:=hs i a hg
   simp only [List.length_cons] at h2 h3
   unfold qGL
   cases hf:f i a with
   |some x=>rw [hf] at h4;rw [qQ h4];rfl
   |none=>rw [hf] at h4;rw [qo h4];exact ih (i+1) M hd (by omega) (by omega)
 exact fun M h=>key l 0 M rfl (by omega) h
theorem qGZ {i:Nat} {k:Int} {l:List (List PV)} {e:List PV} (hk:k=(i:Int)) (h:l[i]?=some e):decide (0≤k∧k<l.length)=true∧l[k.toNat]?=some e:=by
 subst hk
 have:=(List.getElem?_eq_some_iff.1 h).1
 exact ⟨z8 (by omega),by rw [Int.toNat_natCast];exact h⟩
abbrev Sm:=Int×Int×Int×BA×Int
theorem qGM {α β:Type} {g:α→β} {l:List α} {i:Nat} {a:α} (h:l[i]?=some a):(l.take (i+1)).map g=(l.take i).map g++ [g a]:=by
 rw [List.take_add_one,h,List.map_append]
 rfl
theorem qEM {α R:Type}:∀(l:List α) (i:Nat),qGL (fun (_:Nat) (_:α)=>(none:Option R)) i l=none
 | [],i=>rfl
 |a::l,i=>qEM l (i+1)
def qG6:Nd:=(1,0,4,3,em,0,0,false,false,0,0,false,false,[])
def plB (c:Nd):Bool:=if c.1=2 then qBA c.2.2.2.2.2.1 c.2.2.2.2.2.2.1 else if c.1=3 then qA9 c.2.2.2.2.2.1 c.2.2.2.2.2.2.1 c.2.2.2.2.2.2.2.2.2.1 c.2.2.2.2.2.2.2.2.2.2.1 else true
def qGw (c:Nd):Int×Int×Int×Int×BA×Int×Int×Bool×Bool×Int×Int×Bool×Bool×List (List PV):=(c.1,c.2.1,c.2.2.1,c.2.2.2.1,c.2.2.2.2.1,c.2.2.2.2.2.1,c.2.2.2.2.2.2.1,c.2.2.2.2.2.2.2.1,c.2.2.2.2.2.2.2.2.1,c.2.2.2.2.2.2.2.2.2.1,c.2.2.2.2.2.2.2.2.2.2.1,c.2.2.2.2.2.2.2.2.2.2.2.1,c.2.2.2.2.2.2.2.2.2.2.2.2.1,(kd c).map qV)
def chN (f:Nd→Nd) (c:Nd):Nd:=if c.1=2∨c.1=3 then (if plB (f c)=true then f c else qG6) else c
theorem qGN (a b:Int):qA9 a b a b=qBA a b:=by
 unfold qA9
 rw [z8 (Int.le_refl a),z8 (Int.le_refl b)]
 cases qBA a b<;>rfl
theorem qFc (c:Nd):Ev (qO · c.1 c.2.1 c.2.2.1 c.2.2.2.1 c.2.2.2.2.1 c.2.2.2.2.2.1 c.2.2.2.2.2.2.1 c.2.2.2.2.2.2.2.1 c.2.2.2.2.2.2.2.2.1 c.2.2.2.2.2.2.2.2.2.1 c.2.2.2.2.2.2.2.2.2.2.1 c.2.2.2.2.2.2.2.2.2.2.2.1 c.2.2.2.2.2.2.2.2.2.2.2.2.1 ((kd c).map qV)) (plB c):=by
 obtain ⟨k,op,ck,cn,cs,ac,ar,af,ag,bc,br,bf,bg,ks⟩:=c
 have ar2:k=2→Ev (qu · k op ck cn cs ac ar af ag bc br bf bg (ks.map qV)) (ac,ar,ac,ar):=fun h=>qDE (qCB (R:=fun n=>qAX n k op ck cn cs ac ar af ag bc br bf bg (ks.map qV)) (qCb (beq_iff_eq.2 h) (qn rfl)) fun n=>rfl)
 have ar3:k≠2→Ev (qu · k op ck cn cs ac ar af ag bc br bf bg (ks.map qV)) (ac,ar,bc,br):=fun h=>qDE (qCB (R:=fun n=>qAX n k op ck cn cs ac ar af ag bc br bf bg (ks.map qV)) (qCz (beq_eq_false_iff_ne.2 h) (qn rfl)) fun n=>rfl)
 refine qDE (qCB (R:=fun n=>qAW n k op ck cn cs ac ar af ag bc br bf bg (ks.map qV)) ?_ fun n=>rfl)
 unfold plB
 dsimp only
 by_cases h2:k=2
 ·rw [if_pos h2,←qGN]
  exact qCz (by subst h2;rfl) (qBm (ar2 h2) (qBm (qBR ac ar ac ar) (qn rfl)))
 ·rw [if_neg h2]
  refine qCb (bne_iff_ne.2 h2) ?_
  by_cases h3:k=3
  ·rw [if_pos h3]
   exact qCz (by subst h3;rfl) (qBm (ar3 h2) (qBm (qBR ac ar bc br) (qn rfl)))
  ·rw [if_neg h3]
   exact qCb (bne_iff_ne.2 h3) (qn rfl)
def shI (fix:Bool) (x d:Int):Int:=if fix=true then x else IntKind.i64.wrap (x+d)
def mvA (p q:Int) (c:Nd):Nd:=(c.1,c.2.1,c.2.2.1,c.2.2.2.1,c.2.2.2.2.1,shI c.2.2.2.2.2.2.2.1 c.2.2.2.2.2.1 p,shI c.2.2.2.2.2.2.2.2.1 c.2.2.2.2.2.2.1 q,c.2.2.2.2.2.2.2.1,c.2.2.2.2.2.2.2.2.1,(if c.1=3 then shI c.2.2.2.2.2.2.2.2.2.2.2.1 c.2.2.2.2.2.2.2.2.2.1 p else c.2.2.2.2.2.2.2.2.2.1),(if c.1=3 then shI c.2.2.2.2.2.2.2.2.2.2.2.2.1 c.2.2.2.2.2.2.2.2.2.2.1 q else c.2.2.2.2.2.2.2.2.2.2.1),c.2.2.2.2.2.2.2.2.2.2.2.1,c.2.2.2.2.2.2.2.2.2.2.2.2.1,kd c)
theorem qDv (x y:Int) (f g:Bool) (p q:Int):Ev (qAY · x y f g p q) (shI f x p,shI g y q,f,g):=by
 refine qDE (qCB (R:=fun n=>qAu n x y f g p q) ?_ fun n=>rfl)
 cases f<;>cases g
 ·exact qCb rfl (qCb rfl (qn rfl))
 ·exact qCb rfl (qCz rfl (qn rfl))
 ·exact qCz rfl (qCb rfl (qn rfl))
 ·exact qCz rfl (qCz rfl (qn rfl))
theorem qGB (p q:Int) (c:Nd):Ev (qAj · c.1 c.2.1 c.2.2.1 c.2.2.2.1 c.2.2.2.2.1 c.2.2.2.2.2.1 c.2.2.2.2.2.2.1 c.2.2.2.2.2.2.2.1 c.2.2.2.2.2.2.2.2.1 c.2.2.2.2.2.2.2.2.2.1 c.2.2.2.2.2.2.2.2.2.2.1 c.2.2.2.2.2.2.2.2.2.2.2.1 c.2.2.2.2.2.2.2.2.2.2.2.2.1 ((kd c).map qV) p q) (qGw (mvA p q c)):=by
 obtain ⟨k,op,ck,cn,cs,ac,ar,af,ag,bc,br,bf,bg,ks⟩:=c
 refine qDE (qCB (R:=fun n=>qBV n k op ck cn cs ac ar af ag bc br bf bg (ks.map qV) p q) ?_ fun n=>rfl)
 refine qE0 rfl (qE0 rfl (qBm (qDv ac ar af ag p q) ?_))
 unfold qGw mvA
 dsimp only
 by_cases h3:k=3
 ·rw [if_pos h3,if_pos h3]
  exact qCb (beq_iff_eq.2 h3) (qE0 rfl (qE0 rfl (qBm (qDv bc br bf bg p q) (qn rfl))))
 ·rw [if_neg h3,if_neg h3]
  exact qCz (beq_eq_false_iff_ne.2 h3) (qn rfl)
theorem qDw (x y:Int) (f g:Bool) (p q:Int):Ev (qt · x y f g p q) (shI f x p,shI g y q,f,g):=by
 refine qDE (qCB (R:=fun n=>qBy n x y f g p q) ?_ fun n=>rfl)
 cases f<;>cases g
 ·exact qCb rfl (qCb rfl (qn rfl))
 ·exact qCb rfl (qCz rfl (qn rfl))
 ·exact qCz rfl (qCb rfl (qn rfl))
 ·exact qCz rfl (qCz rfl (qn rfl))
theorem qGt {p q:Int} {c:Nd} (h:c.1≠3):mvA p q c=(c.1,c.2.1,c.2.2.1,c.2.2.2.1,c.2.2.2.2.1,shI c.2.2.2.2.2.2.2.1 c.2.2.2.2.2.1 p,shI c.2.2.2.2.2.2.2.2.1 c.2.2.2.2.2.2.1 q,c.2.2.2.2.2.2.2.1,c.2.2.2.2.2.2.2.2.1,c.2.2.2.2.2.2.2.2.2.1,c.2.2.2.2.2.2.2.2.2.2.1,c.2.2.2.2.2.2.2.2.2.2.2.1,c.2.2.2.2.2.2.2.2.2.2.2.2.1,kd c):=by
 unfold mvA
 rw [if_neg h,if_neg h]
theorem qGu {p q:Int} {c:Nd} (h:c.1=3):mvA p q c=(c.1,c.2.1,c.2.2.1,c.2.2.2.1,c.2.2.2.2.1,shI c.2.2.2.2.2.2.2.1 c.2.2.2.2.2.1 p,shI c.2.2.2.2.2.2.2.2.1 c.2.2.2.2.2.2.1 q,c.2.2.2.2.2.2.2.1,c.2.2.2.2.2.2.2.2.1,shI c.2.2.2.2.2.2.2.2.2.2.2.1 c.2.2.2.2.2.2.2.2.2.1 p,shI c.2.2.2.2.2.2.2.2.2.2.2.2.1 c.2.2.2.2.2.2.2.2.2.2.1 q,c.2.2.2.2.2.2.2.2.2.2.2.1,c.2.2.2.2.2.2.2.2.2.2.2.2.1,kd c):=by
 unfold mvA
 rw [if_pos h,if_pos h]
theorem qGq {op ck cn ac ar bc br:Int} {cs:BA} {af ag bf bg:Bool} {ks:List Int}:qAz (2,op,ck,cn,cs,ac,ar,af,ag,bc,br,bf,bg,ks)=(decide (op=0)&&(zV ck cn cs&&(zP bc br bf bg&&(decide (ks.length=0)&&qBA ac ar)))):=by
 unfold qAz
 dsimp only
 rw [if_neg (by decide),if_pos rfl]
 rfl
theorem qGr {op ck cn ac ar bc br:Int} {cs:BA} {af ag bf bg:Bool} {ks:List Int}:qAz (3,op,ck,cn,cs,ac,ar,af,ag,bc,br,bf,bg,ks)=(decide (op=0)&&(zV ck cn cs&&(decide (ks.length=0)&&qA9 ac ar bc br))):=by
 unfold qAz
 dsimp only
 rw [if_neg (by decide),if_neg (by decide),if_pos rfl]
 rfl
theorem qGO {p q:Int} {c:Nd} (h:qAz c=true) (hk:c.1=2∨c.1=3):qAz (mvA p q c)=plB (mvA p q c)∧plB c=true∧kd c= []:=by
 obtain ⟨k,op,ck,cn,cs,ac,ar,af,ag,bc,br,bf,bg,ks⟩:=c
 dsimp only at hk
 rcases hk with rfl|rfl
 ·rw [qGt (by show ¬(2:Int)=3;decide)]
  dsimp only
  rw [qGq] at h⊢
  simp only [Bool.and_eq_true,decide_eq_true_eq] at h
  obtain ⟨h1,h2,h3,h4,h5⟩:=h
  refine ⟨?_,h5,zAO h4⟩
  have hk0:(kd ((2,op,ck,cn,cs,ac,ar,af,ag,bc,br,bf,bg,ks):Nd)).length=0:=h4
  rw [z8 h1,h2,h3,z8 hk0]
  rfl
 ·rw [qGu rfl]
  dsimp only
  rw [qGr] at h⊢
  simp only [Bool.and_eq_true,decide_eq_true_eq] at h
  obtain ⟨h1,h2,h3,h4⟩:=h
  refine ⟨?_,h4,zAO h3⟩
  have hk0:(kd ((3,op,ck,cn,cs,ac,ar,af,ag,bc,br,bf,bg,ks):Nd)).length=0:=h3
  rw [z8 h1,h2,z8 hk0]
  rfl
theorem qBB {l:List Nd} (h:qCt l=true):(1≤l.length∧l.length≤60)∧∀c∈l,qAz c=true:=by
 unfold qCt at h
 simp only [Bool.and_eq_true,decide_eq_true_eq] at h
 refine ⟨h.1,fun c hc=>?_⟩
 obtain ⟨i,hi⟩:=List.mem_iff_getElem?.1 hc
 have hil:=(List.getElem?_eq_some_iff.1 hi).1
 have:=(qCK.1 h.2.1 (i:Int) (by omega) (by omega)).1
 unfold qBp at this
 have e:ndi l (i:Int)=c:=by unfold ndi;simp [hi]
 rw [e] at this
 exact this
def mvR (p q:Int) (l:List Nd):List Nd×Bool:=if qCt l=true∧(-52≤p∧p≤52)∧(-99≤q∧q≤99) then (l.map (chN (mvA p q)),true) else ([],false)
structure PlaceCh (f:Nd→Nd):Prop where
 k:∀c,(f c).1=c.1
 n:∀c,qAz c=true→c.1=2∨c.1=3→qAz (f c)=plB (f c)
 kd:∀c,kd (f c)=kd c
abbrev Vs:=Int×List Int×List Cl
abbrev Br:=BA×Int
inductive Rch (sc:Nat→List Nat) (a:Nat):Nat→Prop
 |one {j:Nat}:j∈sc a→Rch sc a j
 |more {i j:Nat}:Rch sc a i→j∈sc i→Rch sc a j
def qCl (Q:List Nat):List Nat→List Nat
 | []=>Q
 |x::M=>qCl (if Q.contains x=true then Q else Q++ [x]) M
theorem qBX {x:Nat}:∀(M Q:List Nat),x∈qCl Q M↔x∈Q∨x∈M
 | [],Q=>by simp [qCl]
 |y::M,Q=>by
  unfold qCl
  rw [qBX M]
  by_cases h:Q.contains y=true
  ·rw [if_pos h]
   have hy:y∈Q:=by simpa using h
   rw [List.mem_cons]
   constructor
   ·rintro (h|h)
    ·exact .inl h
    ·exact .inr (.inr h)
   ·rintro (h|rfl|h)
    ·exact .inl h
    ·exact .inl hy
    ·exact .inr h
  ·rw [if_neg h,List.mem_append,List.mem_singleton,List.mem_cons,or_assoc]
theorem qDx:∀(M Q:List Nat),Q.Nodup→(qCl Q M).Nodup
 | [],Q,h=>h
 |y::M,Q,h=>by
  unfold qCl
  refine qDx M _ ?_
  by_cases hy:Q.contains y=true
  ·rw [if_pos hy];exact h
  ·rw [if_neg hy]
   have hy':y∉Q:=by simpa using hy
   rw [List.nodup_append]
   refine ⟨h,by simp,fun a ha b hb=>?_⟩
   rw [List.mem_singleton] at hb
   subst hb
   rintro rfl
   exact hy' ha
theorem qDf:∀(M Q:List Nat) (k:Nat),k<Q.length→(qCl Q M)[k]?=Q[k]?
 | [],Q,k,h=>rfl
 |y::M,Q,k,h=>by
  unfold qCl
  by_cases hy:Q.contains y=true
  ·rw [if_pos hy];exact qDf M Q k h
  ·rw [if_neg hy,qDf M _ k (by simp;omega),List.getElem?_append_left h]
theorem qGa:∀(n:Nat) (l:List Nat),l.Nodup→(∀x∈l,x<n)→l.length≤n
 |0,l,_,h=>by
  cases l with
  |nil=>simp
  |cons a l=>exact absurd (h a (List.mem_cons_self ..)) (Nat.not_lt_zero a)
 |n+1,l,hd,h=>by
  by_cases hn:n∈l
  ·have h1:=qGa n (l.erase n) (hd.erase n) fun x hx=>by
    have h2:=(hd.mem_erase_iff).1 hx
    have:=h x h2.2
    omega
   rw [List.length_erase_of_mem hn] at h1
   omega
  ·have:=qGa n l hd fun x hx=>by
    have h2:=h x hx
    have h3:x≠n:=fun e=>hn (e▸hx)
    omega
   omega
structure QI (sc:Nat→List Nat) (a n:Nat) (Q:List Nat) (k:Nat):Prop where
 nd:Q.Nodup
 lt:∀x∈Q,x<n
 rc:∀x∈Q,Rch sc a x
 st:∀j∈sc a,j∈Q
 dn:∀i q,i<k→Q[i]?=some q→q≠a∧∀j∈sc q,j∈Q
theorem QI.len {sc:Nat→List Nat} {a n:Nat} {Q:List Nat} {k:Nat} (h:QI sc a n Q k):Q.length≤n:=qGa n Q h.nd h.lt
theorem QI.all {sc:Nat→List Nat} {a n:Nat} {Q:List Nat} (h:QI sc a n Q Q.length):¬Rch sc a a:=by
 have key:∀x,Rch sc a x→x∈Q:=fun x hx=>by
  induction hx with
  |one h1=>exact h.st _ h1
  |more h1 h2 ih=>
   obtain ⟨i,hi,e⟩:=List.mem_iff_getElem.1 ih
   exact (h.dn i _ hi (by rw [zb hi,e])).2 _ h2
 intro hr
 obtain ⟨i,hi,e⟩:=List.mem_iff_getElem.1 (key a hr)
 exact (h.dn i _ hi (by rw [zb hi,e])).1 rfl
theorem QI.next {sc:Nat→List Nat} {a n:Nat} {Q:List Nat} {k q:Nat} (h:QI sc a n Q k) (hq:Q[k]?=some q) (hne:q≠a) (hs:∀j∈sc q,j<n):QI sc a n (qCl Q (sc q)) (k+1):=by
 have hk:=(List.getElem?_eq_some_iff.1 hq).1
 have hm:=zl hq
 refine ⟨qDx _ _ h.nd,fun x hx=>?_,fun x hx=>?_,fun j hj=>(qBX _ _).2 (.inl (h.st j hj)),fun i r hi hr=>?_⟩
 ·rcases (qBX _ _).1 hx with hx|hx
  ·exact h.lt x hx
  ·exact hs x hx
 ·rcases (qBX _ _).1 hx with hx|hx
  ·exact h.rc x hx
  ·exact .more (h.rc q hm) hx
 ·rw [qDf _ _ i (by omega)] at hr
  by_cases e:i=k
  ·subst e
   rw [hq] at hr
   cases hr
   exact ⟨hne,fun j hj=>(qBX _ _).2 (.inr hj)⟩
  ·obtain ⟨h1,h2⟩:=h.dn i r (by omega) hr
   exact ⟨h1,fun j hj=>(qBX _ _).2 (.inl (h2 j hj))⟩
theorem QI.start {sc:Nat→List Nat} {a n:Nat} (hd:(sc a).Nodup) (hs:∀j∈sc a,j<n):QI sc a n (sc a) 0:=⟨hd,hs,fun x hx=> .one hx,fun j hj=>hj,fun i q hi=>absurd hi (Nat.not_lt_zero i)⟩
structure MI (sc:Nat→List Nat) (a n:Nat) (met:List Bool) (Q:List Nat) (k:Nat):Prop where
 ln:met.length=n
 kl:k≤Q.length
 lt:∀x∈Q,x<n
 rc:∀x∈Q,Rch sc a x
 st:∀j∈sc a,j∈Q
 mt:∀i,met[i]?=some true→∀j∈sc i,j∈Q
 dn:∀i q,i<k→Q[i]?=some q→q≠a∧met[q]?=some true
theorem MI.all {sc:Nat→List Nat} {a n:Nat} {met:List Bool} {Q:List Nat} (h:MI sc a n met Q Q.length):¬Rch sc a a:=by
 have key:∀x,Rch sc a x→x∈Q:=fun x hx=>by
  induction hx with
  |one h1=>exact h.st _ h1
  |more h1 h2 ih=>
   obtain ⟨i,hi,e⟩:=List.mem_iff_getElem.1 ih
   exact h.mt _ (h.dn i _ hi (by rw [zb hi,e])).2 _ h2
 intro hr
 obtain ⟨i,hi,e⟩:=List.mem_iff_getElem.1 (key a hr)
 exact (h.dn i _ hi (by rw [zb hi,e])).1 rfl
theorem MI.start {sc:Nat→List Nat} {a n:Nat} (hs:∀j∈sc a,j<n):MI sc a n (List.replicate n false) (sc a) 0:=⟨by simp,Nat.zero_le _,hs,fun x hx=> .one hx,fun j hj=>hj,fun i hi=>by
 obtain ⟨h1,h2⟩:=List.getElem?_eq_some_iff.1 hi
 simp at h2,fun i q hi=>absurd hi (Nat.not_lt_zero i)⟩
inductive Tch (bs:Nat→Prop) (sc:Nat→List Nat):Nat→Prop
 |zero {i:Nat}:bs i→Tch bs sc i
 |lean {i k:Nat}:k∈sc i→Tch bs sc k→Tch bs sc i
structure TI (bs:Nat→Prop) (sc:Nat→List Nat) (n:Nat) (o:List Bool):Prop where
 ln:o.length=n
 ok:∀i,o[i]?=some true→Tch bs sc i
 st:∀i,i<n→bs i→o[i]?=some true
theorem TI.set {bs:Nat→Prop} {sc:Nat→List Nat} {n:Nat} {o:List Bool} (h:TI bs sc n o) {i k:Nat} (hk:k∈sc i) (ho:o[k]?=some true):TI bs sc n (o.set i true):=by
 refine ⟨by rw [List.length_set];exact h.ln,fun j hj=>?_,fun j hj hb=>?_⟩
 ·by_cases e:i=j
  ·subst e;exact .lean hk (h.ok k ho)
  ·rw [List.getElem?_set_ne e] at hj;exact h.ok j hj
 ·by_cases e:i=j
  ·subst e;exact List.getElem?_set_self (by rw [h.ln];exact hj)
  ·rw [List.getElem?_set_ne e];exact h.st j hj hb
theorem TI.all {bs:Nat→Prop} {sc:Nat→List Nat} {n:Nat} {o:List Bool} (h:TI bs sc n o) (hn:∀i,∀k∈sc i,k<n) (hc:∀i,i<n→∀k∈sc i,o[k]?=some true→o[i]?=some true) {i:Nat} (hi:i<n):o[i]?=some true↔Tch bs sc i:=by
 refine ⟨h.ok i,fun ht=>?_⟩
 induction ht with
 |zero hb=>exact h.st _ hi hb
 |lean hk _ ih=>exact hc _ hi _ hk (ih (hn _ _ hk))
structure SI (hr b2:Nat→Bool) (sc:Nat→List Nat) (n:Nat) (A:List Nat):Prop where
 nd:A.Nodup
 lt:∀a∈A,a<n
 ok:∀a∈A,Tch (fun i=>hr i=true∨b2 i=true) sc a
theorem SI.all {hr b2:Nat→Bool} {sc:Nat→List Nat} {n:Nat} {A:List Nat} (h:SI hr b2 sc n A) (hn:∀i,∀k∈sc i,k<n) (hb:∀i,∀k∈sc i,hr k=true→b2 i=true)
  (hc:∀i,i<n→(b2 i||A.any fun k=>(sc i).contains k)=true→(hr i||A.contains i)=true) {i:Nat} (hi:i<n):(hr i||A.contains i)=true↔Tch (fun i=>hr i=true∨b2 i=true) sc i:=by
 constructor
 ·intro h1
  rcases Bool.or_eq_true_iff.1 h1 with h1|h1
  ·exact .zero (.inl h1)
  ·exact h.ok i (by simpa using h1)
 ·intro ht
  induction ht with
  |zero hq=>
   rcases hq with hq|hq
   ·rw [hq];rfl
   ·exact hc _ hi (by rw [hq];rfl)
  | @lean i k hk _ ih=>
   refine hc i hi ?_
   rw [Bool.or_eq_true]
   rcases Bool.or_eq_true_iff.1 (ih (hn _ _ hk)) with h1|h1
   ·exact .inl (hb i k hk h1)
   ·exact .inr (List.any_eq_true.2 ⟨k,by simpa using h1,by simpa using hk⟩)
structure StOk (n:Nat) (c:Sm):Prop where
 k:c.1=1∨c.1=2∨c.1=3∨c.1=4∨c.1=5
 s:c.2.2.2.1.size≤200
 m:c.1=3∨c.1=4→1≤c.2.2.2.2∧c.2.2.2.2≤n
def Sml (x:Int):Prop:=1≤x∧x≤1000000000
structure VerT (v:Vs):Prop where
 id:Sml v.1
 up:∀u∈v.2.1,Sml u
 un:v.2.1.length≤2
 cn:v.2.2.length≤120
 cs:∀c∈v.2.2,c.2.2.size≤200
structure BrT (b:Br):Prop where
 id:Sml b.2
 nm:b.1.size≤12
theorem qGC (c:Nd) (hb:(kd c).length*8≤140737488351232):∀n,(kd c).length+10≤n→qBF n c.1 c.2.1 c.2.2.1 c.2.2.2.1 c.2.2.2.2.1 c.2.2.2.2.2.1 c.2.2.2.2.2.2.1 c.2.2.2.2.2.2.2.1 c.2.2.2.2.2.2.2.2.1 c.2.2.2.2.2.2.2.2.2.1 c.2.2.2.2.2.2.2.2.2.2.1 c.2.2.2.2.2.2.2.2.2.2.2.1 c.2.2.2.2.2.2.2.2.2.2.2.2.1 ((c.2.2.2.2.2.2.2.2.2.2.2.2.2).map qV)=some (c.1,c.2.1,c.2.2.1,c.2.2.2.1,c.2.2.2.2.1,c.2.2.2.2.2.1,c.2.2.2.2.2.2.1,c.2.2.2.2.2.2.2.1,c.2.2.2.2.2.2.2.2.1,c.2.2.2.2.2.2.2.2.2.1,c.2.2.2.2.2.2.2.2.2.2.1,c.2.2.2.2.2.2.2.2.2.2.2.1,c.2.2.2.2.2.2.2.2.2.2.2.2.1,(kd c).length,(c.2.2.2.2.2.2.2.2.2.2.2.2.2).map qV):=by
 intro n hn
 obtain ⟨m,rfl,hm⟩:=up1 hn
 have h:=qEI (kd c) hb m (by omega)
 obtain ⟨q,rfl⟩:∃q,m=q+3:=⟨m-3,by omega⟩
 have p1:∀a b f g,qAr (q+3) a b f g=some (a,b,f,g):=fun a b f g=>by
  simp only [qAr,qBt,qCd,qCc,qA,qC,qF,qG,qH,qJ,zG,qD,qE,qK]
 have p2:∀a b s,qBE (q+3) a b s=some (a,b,s):=fun a b s=>by
  simp only [qBE,qBs,qA,qC,qF,qG,qH,qJ,zG,qD,qE,qK]
 refine qM (p2 _ _ _) (qM (p1 _ _ _ _) (qM (p1 _ _ _ _) (qM h rfl)))
theorem qFt (l:List Nd) (hb:l.length*120≤140737488351232) (hk:∀c∈l,(kd c).length*8≤140737488351232):Ev (qAL · (l.map qN)) (l.length,l.map qN):=by
 obtain ⟨n0,h0⟩:=qAp (F:=fun (c:Nd) n=>qBF n c.1 c.2.1 c.2.2.1 c.2.2.2.1 c.2.2.2.2.1 c.2.2.2.2.2.1 c.2.2.2.2.2.2.1 c.2.2.2.2.2.2.2.1 c.2.2.2.2.2.2.2.2.1 c.2.2.2.2.2.2.2.2.2.1 c.2.2.2.2.2.2.2.2.2.2.1 c.2.2.2.2.2.2.2.2.2.2.2.1 c.2.2.2.2.2.2.2.2.2.2.2.2.1 ((c.2.2.2.2.2.2.2.2.2.2.2.2.2).map qV)) (f:=fun c=>(c.1,c.2.1,c.2.2.1,c.2.2.2.1,c.2.2.2.2.1,c.2.2.2.2.2.1,c.2.2.2.2.2.2.1,c.2.2.2.2.2.2.2.1,c.2.2.2.2.2.2.2.2.1,c.2.2.2.2.2.2.2.2.2.1,c.2.2.2.2.2.2.2.2.2.2.1,c.2.2.2.2.2.2.2.2.2.2.2.1,c.2.2.2.2.2.2.2.2.2.2.2.2.1,(kd c).length,(c.2.2.2.2.2.2.2.2.2.2.2.2.2).map qV)) l (fun c hc=>⟨_,qGC c (hk c hc)⟩)
 refine ⟨n0+l.length+5,fun n hn=>?_⟩
 obtain ⟨m,rfl,hm⟩:=up1 hn
 simp only [qAL,qBh,qA,qC,qF,qG,qH,qJ,zG,qD,qE,qK]
 have h:=qGE (B:=qAR m) (rows:=l.map qN) (z:= [.i .i64 0,.i .i64 0,.i .i64 0,.i .i64 0,.s ⟨#[]⟩,.i .i64 0,.i .i64 0,.b false,.b false,.i .i64 0,.i .i64 0,.b false,.b false,.nl]) (r:=fun acc=>((l.map qN).length,acc)) (M:=m)
  (fun i acc e he ha hz=>by
   obtain ⟨c,hc,rfl⟩:=qGG he
   have hi:i<l.length:=(List.getElem?_eq_some_iff.1 hc).1
   have hi':(i:Int)<l.length:=by omega
   have hw:IntKind.i64.wrap ((i:Int)+1)=(i:Int)+1:=qk (by omega)
   have ha':acc.length=l.length:=by simpa using ha
   have hf:=h0 m (by omega) c (zl hc)
   simp [qAR,qA,qC,qF,qG,qH,qJ,zG,qD,qE,qK,hi',hc,qN,zE,zAk,zW,zy,hf,hz,ha',hw,zA,nlB,kd])
  (fun acc ha=>by
   have ha':acc.length=l.length:=by simpa using ha
   simp [qAR,qA,qC,qF,qG,qH,qJ,zG,qD,qE,qK])
  (by simp;omega)
 simp only [List.length_map,Int.toNat_natCast] at h⊢
 rw [h]
 have h1:(120:Int)*(l.length:Int)≤140737488355328:=by omega
 have h2:(l.length:Int)≤9223372036854775807:=by omega
 simp [qA,qC,qF,qG,qH,qJ,zG,qD,qE,qK,h1,h2]
def Wmk:Nat→Int→Int
 |0,k=>k
 |j+1,k=>IntKind.i64.wrap (Wmk j k+1)
theorem qCm:∀(j:Nat) (k:Int),0≤k→k+j≤1000000000000000000→Wmk j k=k+j
 |0,k,_,_=>by simp [Wmk]
 |j+1,k,h1,h2=>by
  unfold Wmk
  rw [qCm j k h1 (by omega),qk (by omega)]
  omega
structure MA (A:List (List PV)) (e:List PV) (len i:Nat) (ks D:List (List PV)):Prop where
 maL:A.length=len
 maG:A[i]?=some e
 maN:e.length=14
 maK:e[13]?=some (.ls ks)
 maD:A.drop (i+1)=D
 maT:i<len
theorem MA.next {A:List (List PV)} {e:List PV} {len i:Nat} {ks D:List (List PV)} (h:MA A e len i ks D) {o:Nat} {x:PV} (ho:o<13):MA (A.set ((i:Nat):Int).toNat (zA e o [x])) (zA e o [x]) len i ks D:=by
 have hl:i<A.length:=by rw [h.maL];exact h.maT
 have hs:o+ [x].length≤e.length:=by rw [h.maN];simp;omega
 rw [Int.toNat_natCast]
 refine ⟨by rw [List.length_set];exact h.maL,List.getElem?_set_self hl,by rw [ze _ _ _ hs];exact h.maN,?_,?_,h.maT⟩
 ·rw [zh _ _ _ hs,if_neg (by simp;omega)]
  exact h.maK
 ·rw [List.drop_set_of_lt (by omega)]
  exact h.maD
def qCC (r:List Nd):Nat:=(r.map fun c=>13+(kd c).length).sum
def qBn (r:List Nd):Nat:=(r.map fun c=>(kd c).length).sum
theorem qGP:∀r:List Nd,qCC r=13*r.length+qBn r
 | []=>rfl
 |c::r=>by
  have h:=qGP r
  unfold qCC qBn at h⊢
  simp only [List.map_cons,List.sum_cons,List.length_cons]
  omega
theorem szn (n:Nat) (c:Nd) (x:Int) (hx:0≤x∧x≤1048576) (hs:c.2.2.2.2.1.size≤140737488351232) (hk:(kd c).length≤140737488351232):
  ∃r,qBr (n+2) c.1 c.2.1 c.2.2.1 c.2.2.2.1 c.2.2.2.2.1 c.2.2.2.2.2.1 c.2.2.2.2.2.2.1 c.2.2.2.2.2.2.2.1 c.2.2.2.2.2.2.2.2.1 c.2.2.2.2.2.2.2.2.2.1 c.2.2.2.2.2.2.2.2.2.2.1 c.2.2.2.2.2.2.2.2.2.2.2.1 c.2.2.2.2.2.2.2.2.2.2.2.2.1 ((c.2.2.2.2.2.2.2.2.2.2.2.2.2).map qV) x=some r∧(0≤r→r+(kd c).length≤x):=by
 have w1:IntKind.i64.wrap (x-(c.2.2.2.2.1.size:Int))=x-c.2.2.2.2.1.size:=qk (by omega)
 have e1:qBq (n+1) c.2.2.1 c.2.2.2.1 c.2.2.2.2.1 x=some (if x-c.2.2.2.2.1.size<0 then-1 else x-c.2.2.2.2.1.size):=by
  show (qBD n c.2.2.1 c.2.2.2.1 c.2.2.2.2.1 x).run=_
  unfold qBD
  rw [w1]
  by_cases h:x-(c.2.2.2.2.1.size:Int)<0
  ·rw [if_pos h];exact qP (z8 h) rfl
  ·rw [if_neg h];exact qa (zAl h) rfl
 by_cases h:x-(c.2.2.2.2.1.size:Int)<0
 ·rw [if_pos h] at e1
  exact ⟨-1,qM e1 (qP rfl rfl),fun h=>by omega⟩
 ·rw [if_neg h] at e1
  have hkl:((c.2.2.2.2.2.2.2.2.2.2.2.2.2).map qV).length=(kd c).length:=by rw [List.length_map];rfl
  have w2:IntKind.i64.wrap (x-c.2.2.2.2.1.size-(((c.2.2.2.2.2.2.2.2.2.2.2.2.2).map qV).length:Int))=x-c.2.2.2.2.1.size-(kd c).length:=by rw [hkl];exact qk (by omega)
  have e2:qBe (n+1) ((c.2.2.2.2.2.2.2.2.2.2.2.2.2).map qV) (x-c.2.2.2.2.1.size)=some (if x-c.2.2.2.2.1.size-(kd c).length<0 then-1 else x-c.2.2.2.2.1.size-(kd c).length):=by
   show (qA5 n ((c.2.2.2.2.2.2.2.2.2.2.2.2.2).map qV) (x-c.2.2.2.2.1.size)).run=_
   unfold qA5
   rw [w2]
   by_cases h:x-(c.2.2.2.2.1.size:Int)-(kd c).length<0
   ·rw [if_pos h];exact qP (z8 h) rfl
   ·rw [if_neg h];exact qa (zAl h) rfl
  by_cases h2:x-(c.2.2.2.2.1.size:Int)-(kd c).length<0
  ·rw [if_pos h2] at e2
   exact ⟨-1,qM e1 (qa (zAl h) (qM e2 (qP rfl rfl))),fun h=>by omega⟩
  ·rw [if_neg h2] at e2
   exact ⟨_,qM e1 (qa (zAl h) (qM e2 (qa (zAl h2) rfl))),fun _=>by omega⟩
theorem qGQ (q:Nat) (l:List Nd) (hb:l.length≤140737488351232) (hk:∀c∈l,(kd c).length≤140737488351232∧c.2.2.2.2.1.size≤140737488351232):∀(r:List Nd) (i:Nat) (x:Int) (M:Nat),i+r.length=l.length→l.drop i=r→0≤x∧x≤1048576→r.length+1≤M→
  (∃y,y<0∧zN (qAP (q+2)) M (l.map qN,x,(i:Int))=some (.inl y))∨∃y,qBn r≤x∧zN (qAP (q+2)) M (l.map qN,x,(i:Int))=some (.inr y)
 | [],i,x,M,h1,hd,hx,h4=>by
  obtain ⟨M,rfl⟩:∃q,M=q+1:=⟨M-1,by omega⟩
  refine .inr ⟨x,by simp [qBn];omega,qQ (qa (zAl (by simp at h1⊢;omega)) rfl)⟩
 |c::r,i,x,M,h1,hd,hx,h4=>by
  obtain ⟨M,rfl⟩:∃q,M=q+1:=⟨M-1,by omega⟩
  simp only [List.length_cons] at h1 h4
  have hlt:i<l.length:=by omega
  rw [List.drop_eq_getElem_cons hlt,List.cons.injEq] at hd
  have he:l[i]?=some c:=by rw [zb hlt,hd.1]
  have hmem:=zl he
  obtain ⟨a1,a2⟩:=qGZ (k:=(i:Int)) rfl (show (l.map qN)[i]?=some (qN c) by rw [List.getElem?_map,he];rfl)
  have w:IntKind.i64.wrap ((i:Int)+1)=((i+1:Nat):Int):=by rw [qk (by omega)];omega
  obtain ⟨y,g1,g2⟩:=szn q c x hx (hk c hmem).2 (hk c hmem).1
  have hkt:qBn (c::r)=(kd c).length+qBn r:=by simp [qBn]
  have go:∀{z},(Tr.ask (decide (y<0)) (.done (.inr (.inl (-1:Int)))) (.done (.inl (l.map qN,y,IntKind.i64.wrap ((i:Int)+1)))):Tr ((List (List PV)×Int×Int)⊕(Int⊕Int))).run=z→(qAP (q+2) (l.map qN,x,(i:Int))).run=z:=fun {z} h=>
   qP (z8 (by simpa using hlt)) (qP a1 (qM a2 (qP rfl (qM rfl (qM rfl (qM rfl (qM rfl (qM rfl (qM rfl (qM rfl (qM rfl (qM rfl (qM rfl (qM rfl (qM rfl (qM rfl (qM rfl (qM g1 h))))))))))))))))))
  by_cases h0:y<0
  ·exact .inl ⟨-1,by decide,qQ (go (qP (z8 h0) rfl))⟩
  ·have:=g2 (by omega)
   rw [qo (go (qa (zAl h0) rfl)),w]
   rcases qGQ q l hb hk r (i+1) y M (by omega) hd.2 (by omega) (by omega) with h|⟨z,h5,h6⟩
   ·exact .inl h
   ·exact .inr ⟨z,by rw [hkt];omega,h6⟩
theorem qFu (l:List Nd) (hb:l.length≤140737488351232) (hk:∀c∈l,(kd c).length≤140737488351232∧c.2.2.2.2.1.size≤140737488351232):∀n,l.length+5≤n→∃r,qBf n (l.map qN) 1048576=some r∧(0≤r→l.length≤1048576∧qBn l≤1048576):=by
 intro n hn
 obtain ⟨m,rfl,hm⟩:=up1 hn
 obtain ⟨q,rfl⟩:∃q,m=q+2:=⟨m-2,by omega⟩
 have w:IntKind.i64.wrap ((1048576:Int)-((l.map qN).length:Int))=1048576-l.length:=by rw [List.length_map];exact qk (by omega)
 by_cases h0:(1048576:Int)-l.length<0
 ·exact ⟨-1,qP (z8 (by rw [w];exact h0)) rfl,fun h=>by omega⟩
 ·rcases qGQ q l hb hk l 0 (1048576-l.length) (q+2) (by omega) rfl (by omega) (by omega) with ⟨y,h1,h2⟩|⟨y,h1,h2⟩
  ·exact ⟨y,qa (zAl (by rw [w];exact h0)) (qM (by rw [w];exact h2) rfl),fun h=>by omega⟩
  ·exact ⟨y,qa (zAl (by rw [w];exact h0)) (qM (by rw [w];exact h2) rfl),fun _=>by omega⟩
theorem qGg {r:List Nd} {c:Nd} (h:c∈r):(kd c).length≤qBn r:=by
 induction r with
 |nil=>cases h
 |cons a r ih=>
  have e:qBn (a::r)=(kd a).length+qBn r:=by simp [qBn]
  rcases List.mem_cons.1 h with rfl|h
  ·omega
  ·have:=ih h;omega
structure RtS (c:Sm):Prop where
 k:c.1=1∨c.1=2∨c.1=3∨c.1=4∨c.1=5
 s:(10:UInt8)∉c.2.2.2.1.toList
 p:c.1=1∨c.1=2→qBA c.2.1 c.2.2.1=true∧c.2.2.2.2=0
 z:¬(c.1=1∨c.1=2)→c.2.1=0∧c.2.2.1=0
 m:c.1=3∨c.1=4→1≤c.2.2.2.2∧c.2.2.2.2≤30
 q:c.1=5→c.2.2.2.2=0
theorem qCn {c:Nd} (h:qAz c=true):(kd c).length≤2000:=by
 unfold qAz at h
 split at h
 ·simp only [Bool.and_eq_true,decide_eq_true_eq] at h;omega
 ·split at h
  ·simp only [Bool.and_eq_true,decide_eq_true_eq] at h;omega
  ·split at h
   ·simp only [Bool.and_eq_true,decide_eq_true_eq] at h;omega
   ·split at h
    ·simp only [Bool.and_eq_true,decide_eq_true_eq] at h;omega
    ·split at h
     ·simp only [Bool.and_eq_true,decide_eq_true_eq] at h;omega
     ·split at h
      ·rw [Bool.and_eq_true] at h
       have h1:=h.1
       unfold qCa at h1
       split at h1
       ·simp only [decide_eq_true_eq] at h1;omega
       ·split at h1
        ·simp only [decide_eq_true_eq] at h1;omega
        ·split at h1
         ·simp only [decide_eq_true_eq] at h1;omega
         ·cases h1
      ·cases h
theorem qDy (a:Nat):∀(b:Nat) (k:Int),Wmk a (Wmk b k)=Wmk (b+a) k:=by
 induction a with
 |zero=>intro b k;rfl
 |succ a ih=>intro b k;show IntKind.i64.wrap (Wmk a (Wmk b k)+1)=_;rw [ih];rfl
theorem qGR (j:Nat) (k:Int):Wmk j (IntKind.i64.wrap (k+1))=Wmk (j+1) k:=by
 have:=qDy j 1 k
 rw [Nat.add_comm] at this
 exact this
def qBd:Int→Nat→List Int
 |_,0=> []
 |k,n+1=>k::qBd (IntKind.i64.wrap (k+1)) n
theorem qDG:∀(n:Nat) (k:Int),(qBd k n).length=n
 |0,_=>rfl
 |n+1,k=>by simp [qBd,qDG n]
theorem qGS (n len:Nat) (hb:len≤140737488351232):∀(r pre:List Int) (k:Int) (M:Nat),pre.length+r.length=len→r.length+1≤M→
  zN (qAx n) M (len,k,(pre.length:Int),(pre++r).map qV)=some (Wmk r.length k,(pre++qBd k r.length).map qV)
 | [],pre,k,M,h1,h4=>by
  obtain ⟨M,rfl⟩:∃q,M=q+1:=⟨M-1,by simp at h4;omega⟩
  have h1:pre.length=len:=by simpa using h1
  rw [qQ (r:=(k,(pre++ []).map qV)) (qa (zAl (by dsimp only;omega)) rfl)]
  rfl
 |c::r,pre,k,M,h1,h4=>by
  obtain ⟨M,rfl⟩:∃q,M=q+1:=⟨M-1,by simp at h4;omega⟩
  simp only [List.length_cons] at h1 h4
  have hl:((pre++c::r).map qV).length=len:=by simp;omega
  have hg:((pre++c::r).map qV)[pre.length]?=some (qV c):=by simp
  have wi:IntKind.i64.wrap ((pre.length:Int)+1)=((pre++ [k]).length:Int):=by rw [qk (by omega)];simp
  have e1:((pre++c::r).map qV).set pre.length (zA (qV c) 0 [.i .i64 k])=((pre++ [k])++r).map qV:=by
   rw [List.map_append,List.map_cons,List.set_append_right (h:=by simp)]
   simp [zA,qV]
  rw [qo (v':=(len,IntKind.i64.wrap (k+1),((pre++ [k]).length:Int),((pre++ [k])++r).map qV)) (by
   refine qP (z8 (by dsimp only;omega)) (qP (z8 (by dsimp only;rw [hl];omega)) (qM (by dsimp only;rw [Int.toNat_natCast];exact hg) ?_))
   refine qP (z8 (Nat.le_refl 1)) ?_
   dsimp only
   rw [wi,Int.toNat_natCast,e1]
   rfl)]
  rw [qGS n len hb r (pre++ [k]) (IntKind.i64.wrap (k+1)) M (by simp;omega) (by omega),qGR]
  simp [qBd]
theorem qGT (ks:List Int) (hb:ks.length≤140737488351232) (k:Int) (n:Nat) (hn:ks.length+5≤n):qAb n ks.length k (ks.map qV)=some (Wmk ks.length k,(qBd k ks.length).map qV):=by
 obtain ⟨m,rfl,hm⟩:=up1 hn
 have h:=qGS m ks.length hb ks [] k m (by simp) (by omega)
 exact qM h rfl
theorem qGU (n:Nat):∀(r:Nat) (pre all:List Int) (k:Int) (M:Nat),all=pre++qBd k r→all.length≤140737488351232→r+1≤M→
  zN (qAy n) M (all.map qV,k,(pre.length:Int))=some (.inr (Wmk r k))
 |0,pre,all,k,M,h1,hb,h4=>by
  obtain ⟨M,rfl⟩:∃q,M=q+1:=⟨M-1,by omega⟩
  have hp:all.length=pre.length:=by rw [h1];simp [qBd]
  exact qQ (qa (zAl (by simp;omega)) rfl)
 |r+1,pre,all,k,M,h1,hb,h4=>by
  obtain ⟨M,rfl⟩:∃q,M=q+1:=⟨M-1,by omega⟩
  have hlen:all.length=pre.length+(r+1):=by rw [h1];simp [qBd,qDG]
  have hg:(all.map qV)[pre.length]?=some (qV k):=by rw [h1];simp [qBd]
  have wi:IntKind.i64.wrap ((pre.length:Int)+1)=((pre++ [k]).length:Int):=by rw [qk (by omega)];simp
  rw [qo (v':=(all.map qV,IntKind.i64.wrap (k+1),((pre++ [k]).length:Int))) (by
   refine qP (z8 (by simp;omega)) (qP (z8 (by simp;omega)) (qM (by dsimp only;rw [Int.toNat_natCast];exact hg) ?_))
   refine qP rfl (qM (x:=k) rfl (qa (bne_self_eq_false' _) ?_))
   rw [←wi]
   rfl)]
  rw [qGU n r (pre++ [k]) all (IntKind.i64.wrap (k+1)) M (by rw [h1];simp [qBd]) hb (by omega),qGR]
theorem qGV (m:Nat) (hb:m≤140737488351232) (k:Int) (n:Nat) (hn:m+5≤n):qBQ n ((qBd k m).map qV) k=some (Wmk m k):=by
 obtain ⟨q,rfl,hm⟩:=up1 hn
 have h:=qGU q m [] (qBd k m) k q rfl (by rw [qDG];exact hb) (by omega)
 exact qM h rfl
def b3 (x:Int):Bool:=Int.tmod x 3==0
noncomputable def qCo (k:Int) (c:Nd):Nd:=(Wmk 0 k,Wmk 1 k,Wmk 2 k,Wmk 3 k,mtx (Wmk 4 k),Wmk 5 k,Wmk 6 k,b3 (Wmk 7 k),b3 (Wmk 8 k),Wmk 9 k,Wmk 10 k,b3 (Wmk 11 k),b3 (Wmk 12 k),qBd (Wmk 13 k) (kd c).length)
noncomputable def qDg:Int→List Nd→List Nd
 |_,[]=> []
 |k,c::r=>qCo k c::qDg (Wmk (kd c).length (Wmk 13 k)) r
theorem qDz:∀(l:List Nd) (k:Int),(qDg k l).length=l.length
 | [],_=>rfl
 |c::r,k=>by simp [qDg,qDz r]
structure MB (A:List (List PV)) (e:List PV) (i:Nat) (P D:List (List PV)):Prop where
 mbA:A=P++e::D
 mbP:P.length=i
theorem MB.next {A:List (List PV)} {e e':List PV} {i:Nat} {P D:List (List PV)} (h:MB A e i P D):MB (A.set ((i:Nat):Int).toNat e') e' i P D:=by
 rw [Int.toNat_natCast]
 refine ⟨?_,h.mbP⟩
 rw [h.mbA,List.set_append_right (h:=by have:=h.mbP;omega),h.mbP,Nat.sub_self]
 rfl
theorem MB.nx {A:List (List PV)} {e:List PV} {i:Nat} {P D:List (List PV)} (h:MB A e i P D) {o:Nat} {x:PV} {e':List PV} (he:zA e o [x]=e'):MB (A.set ((i:Nat):Int).toNat (zA e o [x])) e' i P D:=by
 have:=h.next (e':=zA e o [x])
 rw [he] at this⊢
 exact this
noncomputable def eP (k:Int) (c:Nd) (j:Nat):List PV:=(qN (qCo k c)).take j++(qN c).drop j
theorem qGx (k:Int) (c:Nd) {j:Nat} (hj:j≤14):(eP k c j).length=14:=by
 have h1:(qN (qCo k c)).length=14:=rfl
 have h2:(qN c).length=14:=rfl
 unfold eP
 rw [List.length_append,List.length_take,List.length_drop,h1,h2]
 omega
theorem qBY (k:Int) (c:Nd) {j:Nat} (hj:j<14) {x:PV} (hx:(qN (qCo k c))[j]?=some x):zA (eP k c j) j [x]=eP k c (j+1):=by
 have h1:(qN (qCo k c)).length=14:=rfl
 have ht:((qN (qCo k c)).take j).length=j:=by rw [List.length_take,h1];omega
 unfold eP zA
 have e1:((qN (qCo k c)).take j++(qN c).drop j).take j=(qN (qCo k c)).take j:=List.take_left' ht
 have e2:((qN (qCo k c)).take j++(qN c).drop j).drop (j+ [x].length)=(qN c).drop (j+1):=by
  rw [List.drop_append,ht,List.drop_eq_nil_of_le (by rw [ht];simp),List.nil_append,List.drop_drop]
  congr 1
  simp
  try omega
 rw [e1,e2,List.take_add_one,hx]
 rfl
theorem qGs (k:Int) (c:Nd):(eP k c 13).set 13 (.ls ((qBd (Wmk 13 k) (kd c).length).map qV))=qN (qCo k c):=rfl
theorem MB.get {A:List (List PV)} {e:List PV} {i:Nat} {P D:List (List PV)} (h:MB A e i P D):A[((i:Nat):Int).toNat]?=some e:=by
 rw [Int.toNat_natCast,h.mbA,List.getElem?_append_right (by have:=h.mbP;omega),h.mbP,Nat.sub_self]
 rfl
theorem qEN {X:Type} {A:List (List PV)} {e:List PV} {i len:Nat} {P D:List (List PV)} (h:MB A e i P D) (hl:P.length+(D.length+1)=len) {o:Nat} (ho:o+1≤e.length) {K:List PV→Tr X} {y:Option X} (hk:(K e).run=y):
  (Tr.ask (decide (len=A.length∧0≤((i:Nat):Int)∧((i:Nat):Int)<((len:Nat):Int))) (.opt (A[((i:Nat):Int).toNat]?) fun e'=> .ask (decide (o+1≤e'.length)) (K e') .fail) .fail).run=y:=
 qP (z8 ⟨by rw [h.mbA];simp;omega,by omega,by have:=h.mbP;omega⟩) (qM h.get (qP (z8 ho) hk))
theorem qHA {X:Type} {A:List (List PV)} {e:List PV} {i len:Nat} {P D:List (List PV)} (h:MB A e i P D) (hl:P.length+(D.length+1)=len) {ks:List (List PV)} (hks:zy e 13=some ks) {Fm:List (List PV)→List (List PV)→Option (Int×List (List PV))} {k':Int} {ks':List (List PV)} (hF:Fm ks ks=some (k',ks')) (hlk:ks'.length=ks.length) {K:Int×List (List PV)→List PV→Tr X} {y:Option X} (hk:(K (k',ks') e).run=y):
  (Tr.ask (decide (len=A.length∧0≤((i:Nat):Int)∧((i:Nat):Int)<((len:Nat):Int))) (.opt (A[((i:Nat):Int).toNat]?) fun e1=> .opt (zy e1 13) fun y1=> .opt (A[((i:Nat):Int).toNat]?) fun e2=> .opt (zy e2 13) fun y2=> .ask (decide (y1.length=y2.length)) (.opt (Fm y1 y2) fun r=> .opt (A[((i:Nat):Int).toNat]?) fun e3=> .ask (decide (r.2.length=y2.length)) (K r e3) .fail) .fail) .fail).run=y:=
 qP (z8 ⟨by rw [h.mbA];simp;omega,by omega,by have:=h.mbP;omega⟩) (qM h.get (qM hks (qM h.get (qM hks (qP (z8 rfl) (qM hF (qM h.get (qP (z8 hlk) hk))))))))
set_option maxHeartbeats 2000000 in
theorem qGW (n len:Nat) (hb:len≤140737488351232) (hn:25≤n):∀(r pre:List Nd) (k:Int) (M:Nat),pre.length+r.length=len→1≤k→k+qCC r≤1000000000000000→(∀c∈r,(kd c).length+5≤n∧(kd c).length≤140737488351232)→r.length+1≤M→
  zN (qq n) M (len,k,(pre.length:Int),(pre++r).map qN)=some (Wmk (qCC r) k,(pre++qDg k r).map qN)
 | [],pre,k,M,h1,h2,h5,hc,h4=>by
  obtain ⟨M,rfl⟩:∃q,M=q+1:=⟨M-1,by omega⟩
  have h1:pre.length=len:=by simpa using h1
  rw [qQ (r:=(k,(pre++ []).map qN)) (qa (zAl (by dsimp only;omega)) rfl)]
  rfl
 |c::r,pre,k,M,h1,h2,h5,hc,h4=>by
  obtain ⟨M,rfl⟩:∃q,M=q+1:=⟨M-1,by omega⟩
  simp only [List.length_cons] at h1 h4
  have ht:qCC (c::r)=13+(kd c).length+qCC r:=by simp [qCC]
  rw [ht] at h5
  have hln:(pre.map qN).length+((r.map qN).length+1)=len:=by simp;omega
  have m0:MB ((pre++c::r).map qN) (qN c) pre.length (pre.map qN) (r.map qN):=⟨by simp,by simp⟩
  have wi:IntKind.i64.wrap ((pre.length:Int)+1)=((pre++ [qCo k c]).length:Int):=by rw [qk (by omega)];simp
  have w4:=qCm 4 k (by omega) (by omega)
  have w13:=qCm 13 k (by omega) (by omega)
  have htx:qAH n (Wmk 4 k)=some (mtx (Wmk 4 k)):=qGl (by omega) hn
  obtain ⟨hk1,hk2⟩:=hc c (List.mem_cons_self ..)
  have q2:=qGT (kd c) hk2 (Wmk 13 k) n hk1
  have hkl:((kd c).map qV).length=(kd c).length:=List.length_map ..
  have fnn:∀{A13:List (List PV)},MB A13 (qN (qCo k c)) pre.length (pre.map qN) (r.map qN)→zN (qq n) M (len,Wmk (kd c).length (Wmk 13 k),IntKind.i64.wrap ((pre.length:Int)+1),A13)=some (Wmk (qCC (c::r)) k,(pre++qDg k (c::r)).map qN):=fun {A13} h=>by
   have w14:Wmk (kd c).length (Wmk 13 k)=k+13+(kd c).length:=by rw [qCm _ _ (by omega) (by omega),w13];omega
   have h6:=qGW n len hb hn r (pre++ [qCo k c]) (Wmk (kd c).length (Wmk 13 k)) M (by simp;omega) (by omega) (by omega) (fun c' hc'=>hc c' (List.mem_cons_of_mem _ hc')) (by omega)
   have eA:A13=((pre++ [qCo k c])++r).map qN:=by rw [h.mbA];simp
   rw [wi,eA,h6,qDy,qDy,ht,List.append_assoc,←Nat.add_assoc]
   rfl
  have stp:∃v',(qq n (len,k,(pre.length:Int),(pre++c::r).map qN)).run=some (.inl v')∧zN (qq n) M v'=some (Wmk (qCC (c::r)) k,(pre++qDg k (c::r)).map qN):=by
   have m0:MB ((pre++c::r).map qN) (eP k c 0) pre.length (pre.map qN) (r.map qN):=m0
   have m1:=m0.nx (qBY k c (j:=0) (by decide) (x:= .i .i64 (Wmk 0 k)) rfl)
   have m2:=m1.nx (qBY k c (j:=1) (by decide) (x:= .i .i64 (Wmk 1 k)) rfl)
   have m3:=m2.nx (qBY k c (j:=2) (by decide) (x:= .i .i64 (Wmk 2 k)) rfl)
   have m4:=m3.nx (qBY k c (j:=3) (by decide) (x:= .i .i64 (Wmk 3 k)) rfl)
   have m5:=m4.nx (qBY k c (j:=4) (by decide) (x:= .s (mtx (Wmk 4 k))) rfl)
   have m6:=m5.nx (qBY k c (j:=5) (by decide) (x:= .i .i64 (Wmk 5 k)) rfl)
   have m7:=m6.nx (qBY k c (j:=6) (by decide) (x:= .i .i64 (Wmk 6 k)) rfl)
   have m8:=m7.nx (qBY k c (j:=7) (by decide) (x:= .b (b3 (Wmk 7 k))) rfl)
   have m9:=m8.nx (qBY k c (j:=8) (by decide) (x:= .b (b3 (Wmk 8 k))) rfl)
   have m10:=m9.nx (qBY k c (j:=9) (by decide) (x:= .i .i64 (Wmk 9 k)) rfl)
   have m11:=m10.nx (qBY k c (j:=10) (by decide) (x:= .i .i64 (Wmk 10 k)) rfl)
   have m12:=m11.nx (qBY k c (j:=11) (by decide) (x:= .b (b3 (Wmk 11 k))) rfl)
   have m13:=m12.nx (qBY k c (j:=12) (by decide) (x:= .b (b3 (Wmk 12 k))) rfl)
   have lnj:∀j,j+1≤14→j+1≤(eP k c j).length:=fun j hj=>by rw [qGx k c (by omega)];exact hj
   refine ⟨?v,qP (z8 (by dsimp only;omega)) ?w,?h⟩
   case w=>
    refine qEN (o:=0) m0 hln (lnj 0 (by decide)) ?_
    refine qEN (o:=1) m1 hln (lnj 1 (by decide)) ?_
    refine qEN (o:=2) m2 hln (lnj 2 (by decide)) ?_
    refine qEN (o:=3) m3 hln (lnj 3 (by decide)) ?_
    refine qM htx ?_
    refine qEN (o:=4) m4 hln (lnj 4 (by decide)) ?_
    refine qEN (o:=5) m5 hln (lnj 5 (by decide)) ?_
    refine qEN (o:=6) m6 hln (lnj 6 (by decide)) ?_
    refine qEN (o:=7) m7 hln (lnj 7 (by decide)) ?_
    refine qEN (o:=8) m8 hln (lnj 8 (by decide)) ?_
    refine qEN (o:=9) m9 hln (lnj 9 (by decide)) ?_
    refine qEN (o:=10) m10 hln (lnj 10 (by decide)) ?_
    refine qEN (o:=11) m11 hln (lnj 11 (by decide)) ?_
    refine qEN (o:=12) m12 hln (lnj 12 (by decide)) ?_
    refine qHA m13 hln (ks:=(kd c).map qV) rfl (Fm:=fun a b=>qAb n a.length (Wmk 13 k) b) (by show qAb n ((kd c).map qV).length (Wmk 13 k) ((kd c).map qV)=_;rw [hkl];exact q2) (by rw [List.length_map,qDG,hkl]) ?z
    case z=>exact rfl
   case h=>exact fnn (qGs k c▸m13.next (e':=(eP k c 13).set 13 (.ls ((qBd (Wmk 13 k) (kd c).length).map qV))))
  obtain ⟨v',h6,h7⟩:=stp
  rw [qo h6,h7]
theorem qF0 (l:List Nd) (hl:l.length≤140737488351232) (hk:∀c∈l,(kd c).length≤140737488351232) (ht:qCC l≤100000000000000):∀n,qBn l+l.length+40≤n→qAn n l.length 1 (l.map qN)=some (1+(qCC l:Int),(qDg 1 l).map qN):=by
 intro n hn
 obtain ⟨m,rfl,hm⟩:=up1 hn
 have h:=qGW m l.length hl (by omega) l [] 1 m (by simp) (by decide) (by omega) (fun c hc=>⟨by have:=qGg hc;omega,hk c hc⟩) (by omega)
 rw [qCm _ _ (by decide) (by omega)] at h
 exact qM h rfl
theorem qD0 {X β:Type} {A:List (List PV)} {e:List PV} {i:Nat} (ha:A[i]?=some e) (hn:e.length=14) {f:List PV→Option β} {y:β} (hf:f e=some y) {K:β→Tr X} {z:Option X} (hk:(K y).run=z):
  (Tr.ask (decide (0≤((i:Nat):Int)∧((i:Nat):Int)<A.length)) (.opt (A[((i:Nat):Int).toNat]?) fun e'=> .ask (decide (e'.length=14)) (.opt (f e') K) .fail) .fail).run=z:=by
 have hi:=(List.getElem?_eq_some_iff.1 ha).1
 exact qP (z8 ⟨by omega,by omega⟩) (qM (by rw [Int.toNat_natCast];exact ha) (qP (z8 hn) (qM hf hk)))
theorem bnn (b:Bool):(!(b==b))=false:=by cases b<;>rfl
theorem bns (s:BA):(!(s.toList==s.toList))=false:=by simp
set_option maxHeartbeats 2000000 in
theorem qGX (n:Nat) (hn:25≤n):∀(r pre all:List Nd) (k:Int) (M:Nat),all=pre++qDg k r→all.length≤140737488351232→1≤k→k+qCC r≤1000000000000000→(∀c∈r,(kd c).length+5≤n∧(kd c).length≤140737488351232)→r.length+1≤M→
  zN (qAc n) M (all.map qN,k,(pre.length:Int))=some (.inr (Wmk (qCC r) k))
 | [],pre,all,k,M,h1,hb,h2,h5,hc,h4=>by
  obtain ⟨M,rfl⟩:∃q,M=q+1:=⟨M-1,by simp at h4;omega⟩
  have hp:all.length=pre.length:=by rw [h1];simp [qDg]
  exact qQ (qa (zAl (by simp;omega)) rfl)
 |c::r,pre,all,k,M,h1,hb,h2,h5,hc,h4=>by
  obtain ⟨M,rfl⟩:∃q,M=q+1:=⟨M-1,by simp at h4;omega⟩
  simp only [List.length_cons] at h4
  have ht:qCC (c::r)=13+(kd c).length+qCC r:=by simp [qCC]
  rw [ht] at h5
  have hlen:all.length=pre.length+(r.length+1):=by rw [h1];simp [qDg,qDz]
  have hg:(all.map qN)[pre.length]?=some (qN (qCo k c)):=by rw [h1];simp [qDg]
  have wi:IntKind.i64.wrap ((pre.length:Int)+1)=((pre++ [qCo k c]).length:Int):=by rw [qk (by omega)];simp
  have w4:=qCm 4 k (by omega) (by omega)
  have w13:=qCm 13 k (by omega) (by omega)
  have htx:qAH n (Wmk 4 k)=some (mtx (Wmk 4 k)):=qGl (by omega) hn
  obtain ⟨hk1,hk2⟩:=hc c (List.mem_cons_self ..)
  have q2:=qGV (kd c).length hk2 (Wmk 13 k) n hk1
  have w14:Wmk (kd c).length (Wmk 13 k)=k+13+(kd c).length:=by rw [qCm _ _ (by omega) (by omega),w13];omega
  have hL:(qN (qCo k c)).length=14:=rfl
  have stp:(qAc n (all.map qN,k,(pre.length:Int))).run=some (.inl (all.map qN,Wmk (kd c).length (Wmk 13 k),((pre++ [qCo k c]).length:Int))):=by
   refine qP (z8 (by simp;omega)) (qD0 hg hL (y:=Wmk 0 k) rfl (qa (bne_self_eq_false' _) ?_))
   refine qD0 hg hL (y:=Wmk 1 k) rfl (qa (bne_self_eq_false' _) ?_)
   refine qD0 hg hL (y:=Wmk 2 k) rfl (qa (bne_self_eq_false' _) ?_)
   refine qD0 hg hL (y:=Wmk 3 k) rfl (qa (bne_self_eq_false' _) ?_)
   refine qD0 hg hL (y:=mtx (Wmk 4 k)) rfl (qM htx (qa (bns _) ?_))
   refine qD0 hg hL (y:=Wmk 5 k) rfl (qa (bne_self_eq_false' _) ?_)
   refine qD0 hg hL (y:=Wmk 6 k) rfl (qa (bne_self_eq_false' _) ?_)
   refine qD0 hg hL (y:=b3 (Wmk 7 k)) rfl (qa (bnn _) ?_)
   refine qD0 hg hL (y:=b3 (Wmk 8 k)) rfl (qa (bnn _) ?_)
   refine qD0 hg hL (y:=Wmk 9 k) rfl (qa (bne_self_eq_false' _) ?_)
   refine qD0 hg hL (y:=Wmk 10 k) rfl (qa (bne_self_eq_false' _) ?_)
   refine qD0 hg hL (y:=b3 (Wmk 11 k)) rfl (qa (bnn _) ?_)
   refine qD0 hg hL (y:=b3 (Wmk 12 k)) rfl (qa (bnn _) ?_)
   refine qD0 hg hL (y:=(qBd (Wmk 13 k) (kd c).length).map qV) rfl (qM q2 (qa (zAl (by rw [w14];omega)) ?_))
   rw [←wi]
   rfl
  rw [qo stp,qGX n hn r (pre++ [qCo k c]) all (Wmk (kd c).length (Wmk 13 k)) M (by rw [h1];simp [qDg]) hb (by omega) (by omega) (fun c' hc'=>hc c' (List.mem_cons_of_mem _ hc')) (by omega),qDy,qDy,ht,←Nat.add_assoc]
theorem qGj (l:List Nd) (hl:l.length≤140737488351232) (hk:∀c∈l,(kd c).length≤140737488351232) (ht:qCC l≤100000000000000):∀n,qBn l+l.length+40≤n→qAo n ((qDg 1 l).map qN) 1=some (1+(qCC l:Int)):=by
 intro n hn
 obtain ⟨m,rfl,hm⟩:=up1 hn
 have h:=qGX m (by omega) l [] (qDg 1 l) 1 m rfl (by rw [qDz];exact hl) (by decide) (by omega) (fun c hc=>⟨by have:=qGg hc;omega,hk c hc⟩) (by omega)
 rw [qCm _ _ (by decide) (by omega)] at h
 exact qM h rfl
theorem qFd (l:List Int) (hb:l.length≤1000000):Ev (qT · (l.map qV)) (l.length,l.map qV):=by
 refine qDE (qCB (R:=fun n=>qAS n (l.map qV)) (qCb (z8 ⟨rfl,by decide,by decide,by simp;omega,by simp [qV]⟩) (qCb ?_ (qn (by simp)))) fun n=>rfl)
 cases l with
 |nil=>rfl
 |cons a r=>rfl
theorem qCL {m j:Nat} {acc ks:List (List PV)} (hm:m=acc.length) (hb:m≤1000) (hj:j=ks.length):decide (m=acc.length∧(m+1)*120≤140737488355328∧j=ks.length)=true:=z8 ⟨hm,by omega,hj⟩
theorem qGh {m:Nat} {acc:List (List PV)} (hm:m=acc.length) (hb:m≤1000):decide (m=acc.length∧(m+1)*120≤140737488355328)=true:=z8 ⟨hm,by omega⟩
theorem qEy (p q:Int) (l:List Nd) (hl:l.length≤1000) (hk:∀c∈l,(kd c).length≤1000000):Ev (qv · (l.map qN) p q) (l.length,(l.map (chN (mvA p q))).map qN):=by
 obtain ⟨n1,h1⟩:=qAp (F:=fun c n=>qAj n c.1 c.2.1 c.2.2.1 c.2.2.2.1 c.2.2.2.2.1 c.2.2.2.2.2.1 c.2.2.2.2.2.2.1 c.2.2.2.2.2.2.2.1 c.2.2.2.2.2.2.2.2.1 c.2.2.2.2.2.2.2.2.2.1 c.2.2.2.2.2.2.2.2.2.2.1 c.2.2.2.2.2.2.2.2.2.2.2.1 c.2.2.2.2.2.2.2.2.2.2.2.2.1 ((kd c).map qV) p q) (f:=fun c=>qGw (mvA p q c)) l fun c _=>qGB p q c
 obtain ⟨n2,h2⟩:=qAp (F:=fun c n=>qO n (mvA p q c).1 (mvA p q c).2.1 (mvA p q c).2.2.1 (mvA p q c).2.2.2.1 (mvA p q c).2.2.2.2.1 (mvA p q c).2.2.2.2.2.1 (mvA p q c).2.2.2.2.2.2.1 (mvA p q c).2.2.2.2.2.2.2.1 (mvA p q c).2.2.2.2.2.2.2.2.1 (mvA p q c).2.2.2.2.2.2.2.2.2.1 (mvA p q c).2.2.2.2.2.2.2.2.2.2.1 (mvA p q c).2.2.2.2.2.2.2.2.2.2.2.1 (mvA p q c).2.2.2.2.2.2.2.2.2.2.2.2.1 ((kd (mvA p q c)).map qV)) (f:=fun c=>plB (mvA p q c)) l fun c _=>qFc (mvA p q c)
 obtain ⟨n3,h3⟩:=qAp (F:=fun c n=>qT n ((kd c).map qV)) (f:=fun c=>((kd c).length,(kd c).map qV)) l fun c hc=>qFd (kd c) (hk c hc)
 obtain ⟨n4,h4⟩:=qFd [] (by decide)
 obtain ⟨n5,h5⟩:=qFr 3
 refine ⟨n1+n2+n3+n4+n5+l.length+3,fun n hn=>?_⟩
 obtain ⟨m,rfl,hm⟩:=up1 hn
 have h:=qG5 (B:=qp m) (fun i=>(p,q,i,l.map qN,((l.map qN).length:Int),(i:Int),(l.take i).map fun c=>qN (chN (mvA p q) c))) l (fun _ _=>none) (l.length,l.map fun c=>qN (chN (mvA p q) c))
  (fun i c he=>by
   have hi:=(List.getElem?_eq_some_iff.1 he).1
   have hmem:=zl he
   have hg:(l.map qN)[i]?=some (qN c):=by rw [List.getElem?_map,he];rfl
   obtain ⟨a1,a2⟩:=qGZ rfl hg
   have h1:=h1 m (by omega) c hmem
   have h2:=h2 m (by omega) c hmem
   have h3:=h3 m (by omega) c hmem
   have h4:=h4 m (by omega)
   have h5:=h5 m (by omega)
   have ea:i=((l.take i).map fun c=>qN (chN (mvA p q) c)).length:=by simp;omega
   have e1000:i≤1000:=by omega
   have w:IntKind.i64.wrap ((i:Int)+1)=((i+1:Nat):Int):=by rw [qk (by omega)];omega
   have fin:∀(e:List PV),e=qN (chN (mvA p q) c)→(some (Sum.inl (p,q,i+1,l.map qN,((l.map qN).length:Int),IntKind.i64.wrap ((i:Int)+1),((l.take i).map fun c=>qN (chN (mvA p q) c))++ [e])):Option ((Int×Int×Nat×List (List PV)×Int×Int×List (List PV))⊕(Nat×List (List PV))))=some (.inl (p,q,i+1,l.map qN,((l.map qN).length:Int),((i+1:Nat):Int),(l.take (i+1)).map fun c=>qN (chN (mvA p q) c))):=fun e he2=>by
    rw [w,qGM he,he2]
   refine qP (z8 (by simpa using hi)) (qP a1 (qM a2 (qP rfl ?_)))
   iterate 14 refine qM rfl ?_
   by_cases k2:c.1=2
   ·refine qP (beq_iff_eq.2 k2) (qM h1 (qM h2 ?_))
    cases hp:plB (mvA p q c) with
    |false=>exact qP rfl (qM h5 (qM h4 (qP (qCL ea e1000 rfl) (fin _ (by unfold chN;rw [if_pos (.inl k2),hp];rfl)))))
    |true=>exact qa rfl (qM h3 (qP (qCL ea e1000 (by simp)) (fin _ (by unfold chN;rw [if_pos (.inl k2),hp];rfl))))
   ·refine qa (beq_eq_false_iff_ne.2 k2) ?_
    by_cases k3:c.1=3
    ·refine qP (beq_iff_eq.2 k3) (qM h1 (qM h2 ?_))
     cases hp:plB (mvA p q c) with
     |false=>exact qP rfl (qM h5 (qM h4 (qP (qCL ea e1000 rfl) (fin _ (by unfold chN;rw [if_pos (.inr k3),hp];rfl)))))
     |true=>exact qa rfl (qM h3 (qP (qCL ea e1000 (by simp)) (fin _ (by unfold chN;rw [if_pos (.inr k3),hp];rfl))))
    ·refine qa (beq_eq_false_iff_ne.2 k3) ?_
     exact qM h3 (qP (qCL ea e1000 (by simp)) (fin _ (by unfold chN;rw [if_neg (by omega)];rfl))))
  (qa (zAl (by simp)) (by rw [List.take_length];rfl)) m (by omega)
 rw [qEM] at h
 refine qM h ?_
 simp [Tr.run,List.map_map,Function.comp_def]
theorem qEO:Ev (fun n=>qAl n) (1,0,4,3,em,0,0,false,false,0,0,false,false):=qDE (qCB (R:=fun n=>qCS n) (qBm (qEw 3) (qn rfl)) fun n=>rfl)
theorem qEP (p q:Int) (l:List Nd) (hl:l.length≤1000) (hs:∀c∈l,(kd c).length≤2000∧c.2.2.2.2.1.size≤140737488351232) (hB:∀c∈l,qAz c=true):∃n0,∀n,n0≤n→zN (qAm n) n (l.map qN,p,q,0,0,[])=some (l.length,l.map fun c=>qN (chN (mvA p q) c)):=by
 obtain ⟨n1,h1⟩:=qAp (F:=fun (c:Nd) n=>qt n c.2.2.2.2.2.1 c.2.2.2.2.2.2.1 c.2.2.2.2.2.2.2.1 c.2.2.2.2.2.2.2.2.1 p q) (f:=fun c=>(shI c.2.2.2.2.2.2.2.1 c.2.2.2.2.2.1 p,shI c.2.2.2.2.2.2.2.2.1 c.2.2.2.2.2.2.1 q,c.2.2.2.2.2.2.2.1,c.2.2.2.2.2.2.2.2.1)) l fun c _=>qDw ..
 obtain ⟨n2,h2⟩:=qAp (F:=fun (c:Nd) n=>qt n c.2.2.2.2.2.2.2.2.2.1 c.2.2.2.2.2.2.2.2.2.2.1 c.2.2.2.2.2.2.2.2.2.2.2.1 c.2.2.2.2.2.2.2.2.2.2.2.2.1 p q) (f:=fun c=>(shI c.2.2.2.2.2.2.2.2.2.2.2.1 c.2.2.2.2.2.2.2.2.2.1 p,shI c.2.2.2.2.2.2.2.2.2.2.2.2.1 c.2.2.2.2.2.2.2.2.2.2.1 q,c.2.2.2.2.2.2.2.2.2.2.2.1,c.2.2.2.2.2.2.2.2.2.2.2.2.1)) l fun c _=>qDw ..
 obtain ⟨n3,h3⟩:=qAp (F:=fun (c:Nd) n=>qY n (mvA p q c).1 (mvA p q c).2.1 (mvA p q c).2.2.1 (mvA p q c).2.2.2.1 (mvA p q c).2.2.2.2.1 (mvA p q c).2.2.2.2.2.1 (mvA p q c).2.2.2.2.2.2.1 (mvA p q c).2.2.2.2.2.2.2.1 (mvA p q c).2.2.2.2.2.2.2.2.1 (mvA p q c).2.2.2.2.2.2.2.2.2.1 (mvA p q c).2.2.2.2.2.2.2.2.2.2.1 (mvA p q c).2.2.2.2.2.2.2.2.2.2.2.1 (mvA p q c).2.2.2.2.2.2.2.2.2.2.2.2.1 ((kd (mvA p q c)).map qV)) (f:=fun c=>qAz (mvA p q c)) l fun c hc=>qBW (mvA p q c) (by have:=(hs c hc).2;show c.2.2.2.2.1.size≤_;omega)
 obtain ⟨n4,h4⟩:=qAp (F:=fun (c:Nd) n=>qY n c.1 c.2.1 c.2.2.1 c.2.2.2.1 c.2.2.2.2.1 c.2.2.2.2.2.1 c.2.2.2.2.2.2.1 c.2.2.2.2.2.2.2.1 c.2.2.2.2.2.2.2.2.1 c.2.2.2.2.2.2.2.2.2.1 c.2.2.2.2.2.2.2.2.2.2.1 c.2.2.2.2.2.2.2.2.2.2.2.1 c.2.2.2.2.2.2.2.2.2.2.2.2.1 ((kd c).map qV)) (f:=fun c=>qAz c) l fun c hc=>qBW c (by have:=(hs c hc).2;omega)
 obtain ⟨n5,h5⟩:=qEO
 refine ⟨n1+n2+n3+n4+n5+l.length+3,fun m hm=>?_⟩
 have h:=qG5 (B:=qAm m) (fun i=>(l.map qN,p,q,i,(i:Int),(l.take i).map fun c=>qN (chN (mvA p q) c))) l (fun _ _=>none) (l.length,l.map fun c=>qN (chN (mvA p q) c))
  (fun i c he=>by
   have hi:=(List.getElem?_eq_some_iff.1 he).1
   have hmem:=zl he
   have hg:(l.map qN)[i]?=some (qN c):=by rw [List.getElem?_map,he];rfl
   obtain ⟨a1,a2⟩:=qGZ rfl hg
   have h1:=h1 m (by omega) c hmem
   have h2:=h2 m (by omega) c hmem
   have h3:=h3 m (by omega) c hmem
   have h4:=h4 m (by omega) c hmem
   have h5:=h5 m (by omega)
   have hkl:=(hs c hmem).1
   have ea:i=((l.take i).map fun c=>qN (chN (mvA p q) c)).length:=by simp;omega
   have e1000:i≤1000:=by omega
   have w:IntKind.i64.wrap ((i:Int)+1)=((i+1:Nat):Int):=by rw [qk (by omega)];omega
   have fin:∀(e:List PV),e=qN (chN (mvA p q) c)→(some (Sum.inl (l.map qN,p,q,i+1,IntKind.i64.wrap ((i:Int)+1),((l.take i).map fun c=>qN (chN (mvA p q) c))++ [e])):Option ((List (List PV)×Int×Int×Nat×Int×List (List PV))⊕(Nat×List (List PV))))=some (.inl (l.map qN,p,q,i+1,((i+1:Nat):Int),(l.take (i+1)).map fun c=>qN (chN (mvA p q) c))):=fun e he2=>by
    rw [w,qGM he,he2]
   have kA:decide (0=([]:List (List PV)).length∧0<1∧0<8∧(0+((kd c).map qV).length)*8≤140737488355328∧((kd c).map qV).all (fun e=>e.length==1)=true)=true:=z8 ⟨rfl,by decide,by decide,by simp;omega,by simp [qV]⟩
   have kB:decide ((0+((kd c).map qV).length)=(([]:List (List PV))++((kd c).map qV)).length)=true:=z8 (by simp)
   refine qP (z8 (by simpa using hi)) (qP a1 (qM a2 (qP rfl ?_)))
   iterate 14 refine qM rfl ?_
   refine qP kA ?_
   by_cases k2:c.1=2
   ·have hm2:=qGt (p:=p) (q:=q) (c:=c) (by omega)
    obtain ⟨b1,b2,b3⟩:=qGO (p:=p) (q:=q) (hB c hmem) (.inl k2)
    rw [b1] at h3
    rw [hm2] at h3
    refine qP (beq_iff_eq.2 k2) (qM h1 (qa (beq_eq_false_iff_ne.2 (by omega)) (qP kB (qM h3 (qP rfl ?_)))))
    rw [←hm2]
    cases hp:plB (mvA p q c) with
    |false=>exact qP rfl (qM h5 (qP (qGh ea e1000) (fin _ (by unfold chN;rw [if_pos (.inl k2),hp];rfl))))
    |true=>exact qa rfl (qP (qCL ea e1000 (by simp)) (fin _ (by unfold chN;rw [if_pos (.inl k2),hp,if_pos rfl,hm2];rfl)))
   ·refine qa (beq_eq_false_iff_ne.2 k2) ?_
    by_cases k3:c.1=3
    ·have hm3:=qGu (p:=p) (q:=q) (c:=c) k3
     obtain ⟨b1,b2,b3⟩:=qGO (p:=p) (q:=q) (hB c hmem) (.inr k3)
     rw [b1] at h3
     rw [hm3] at h3
     refine qP (beq_iff_eq.2 k3) (qM h1 (qM h2 (qP kB (qM h3 (qP rfl ?_)))))
     rw [←hm3]
     cases hp:plB (mvA p q c) with
     |false=>exact qP rfl (qM h5 (qP (qGh ea e1000) (fin _ (by unfold chN;rw [if_pos (.inr k3),hp];rfl))))
     |true=>exact qa rfl (qP (qCL ea e1000 (by simp)) (fin _ (by unfold chN;rw [if_pos (.inr k3),hp,if_pos rfl,hm3];rfl)))
    ·rw [hB c hmem] at h4
     exact qa (beq_eq_false_iff_ne.2 k3) (qP kB (qM h4 (qP rfl (qa rfl (qP (qCL ea e1000 (by simp)) (fin _ (by unfold chN;rw [if_neg (by omega)];rfl))))))))
  (qa (zAl (by simp)) (by rw [List.take_length];rfl)) m (by omega)
 rw [qEM] at h
 exact h
theorem qD1 (p q:Int) (l:List Nd) (hl:l.length≤140737488351232) (hs:∀c∈l,(kd c).length≤140737488351232∧c.2.2.2.2.1.size≤140737488351232):Ev (qBO · (l.map qN) p q) ((mvR p q l).1.length,(mvR p q l).2,(mvR p q l).1.map qN):=by
 refine qDE (qCB (R:=fun n=>qB6 n (l.map qN) p q) (qBm (qDu l hl hs) ?_) fun n=>rfl)
 unfold mvR
 cases hf:qCt l with
 |false=>rw [if_neg (by simp)];exact qCb rfl (qn rfl)
 |true=>
  refine qCz rfl (qBm (qZ p (-52) 52) ?_)
  by_cases hp: -52≤p∧p≤52
  ·refine qCz (by rw [z8 hp];rfl) (qBm (qZ q (-99) 99) ?_)
   by_cases hq: -99≤q∧q≤99
   ·rw [if_pos ⟨rfl,hp,hq⟩]
    have h:=qEy p q l (by have:=(qBB hf).1.2;omega) fun c hc=>by have:=qCn ((qBB hf).2 c hc);omega
    exact qCz (by rw [z8 hq];rfl) (qBm (qDE (qCB (F:=fun n=>qB5 n (l.map qN) p q) (R:=fun n=>qB4 n (l.map qN) p q) (qBm h (qn rfl)) fun n=>rfl)) (qn (by simp)))
   ·rw [if_neg (fun h=>hq h.2.2)]
    exact qCb (by rw [zAl hq];rfl) (qn rfl)
  ·rw [if_neg (fun h=>hp h.2.1)]
   exact qCb (by rw [zAl hp];rfl) (qn rfl)
theorem qD2 (p q:Int) (l:List Nd) (hs:∀c∈l,(kd c).length≤140737488351232∧c.2.2.2.2.1.size≤140737488351232):Ev (qB1 · (l.map qN) p q) ((mvR p q l).1.length,(mvR p q l).2,(mvR p q l).1.map qN):=by
 refine qDE (qCB (R:=fun n=>qB0 n (l.map qN) p q) (qBm (qDs l hs) ?_) fun n=>rfl)
 unfold mvR
 cases hf:qCt l with
 |false=>rw [if_neg (by simp)];exact qCb rfl (qn rfl)
 |true=>
  refine qCz rfl (qBm (qAd p (-52) 52) ?_)
  by_cases hp: -52≤p∧p≤52
  ·refine qCz (by rw [z8 hp];rfl) (qBm (qAd q (-99) 99) ?_)
   by_cases hq: -99≤q∧q≤99
   ·rw [if_pos ⟨rfl,hp,hq⟩]
    have h:=qEP p q l (by have:=(qBB hf).1.2;omega) (fun c hc=>⟨qCn ((qBB hf).2 c hc),(hs c hc).2⟩) (qBB hf).2
    exact qCz (by rw [z8 hq];rfl) (qBm h (qn (by simp [List.map_map,Function.comp_def])))
   ·rw [if_neg (fun h=>hq h.2.2)]
    exact qCb (by rw [zAl hq];rfl) (qn rfl)
  ·rw [if_neg (fun h=>hp h.2.1)]
   exact qCb (by rw [zAl hp];rfl) (qn rfl)
theorem qGo (m sz ty:Nat) (b:Bool) (g:List Nd):z0 (⟨(.tup [(false,[(.own 0 0 0 m)]),(false,[(.p (.b b))])]),[],[⟨0,sz,ty,(.deep [(13,1,2)] (g.map qN))⟩]⟩:Res)=true:=by
 have h1:zEW (⟨0,sz,ty,(.deep [(13,1,2)] (g.map qN))⟩:Blk)=true:=by
  unfold zEW
  simp only [List.all_map]
  refine List.all_eq_true.2 fun c _=>?_
  show zDe [(13,1,2)] 0 (qN c)=true
  have hk:((c.2.2.2.2.2.2.2.2.2.2.2.2.2).map qV).all (fun e=>e.all fun y=>(CV.p y).flat)=true:=by
   rw [List.all_map]
   exact List.all_eq_true.2 fun x _=>rfl
  unfold qN
  simp only [zDe,Go.Eng.look]
  simp [CV.flat]
  intro a _ y hy
  simp only [qV,List.mem_singleton] at hy
  subst hy
  rfl
 simp only [z0,AV.cvs,List.flatMap_cons,List.flatMap_nil,List.all_cons,List.all_nil,List.all_append,zHB,CV.flat,h1,Bool.and_true,Bool.true_and]
theorem qGy {g:List Nd} (hl:g.length≤1000) (hk:∀c∈g,(kd c).length≤2000):qCC g≤10000000:=by
 have:∀r:List Nd,(∀c∈r,(kd c).length≤2000)→qCC r≤2013*r.length:=by
  intro r
  induction r with
  |nil=>intro _;exact Nat.le_refl _
  |cons c r ih=>
   intro h
   have h1:=ih fun x hx=>h x (List.mem_cons_of_mem _ hx)
   have h2:=h c (List.mem_cons_self ..)
   unfold qCC at h1⊢
   simp only [List.map_cons,List.sum_cons,List.length_cons]
   omega
 have:=this g hk
 omega
structure Gn (g:List Nd):Prop where
 gnL:g.length≤1000
 gnK:∀c∈g,(kd c).length≤2000
theorem law (rows:List (List PV)) (p q:Int) (w:rows.length*120≤140737488351232∧∀r∈rows,okR [.i .i64,.i .i64,.i .i64,.i .i64,.s,.i .i64,.i .i64,.b,.b,.i .i64,.i .i64,.b,.b,.sl 8 [.i .i64]] r) (w1:(Lit.int .i64 p).wf=true) (w2:(Lit.int .i64 q).wf=true):Ev (qBT · rows p q) true:=by
 obtain ⟨l,rfl,hs⟩:=qGp w.2
 have hl:l.length*120≤140737488351232:=by simpa using w.1
 have hk:∀c∈l,(kd c).length≤140737488351232∧c.2.2.2.2.1.size≤140737488351232:=fun c hc=>⟨by have:=(hs c hc).2;omega,(hs c hc).1⟩
 obtain ⟨n1,t1⟩:=qFt l hl (fun c hc=>(hs c hc).2)
 have eL:decide ((l.length:Nat)=(l.map qN).length)=true:=z8 (by simp)
 have hp:=qD2 p q l hk
 have hi:=qD1 p q l (by omega) hk
 have hG:Gn (mvR p q l).1:=by
  unfold mvR
  split
  ·rename_i hc
   obtain ⟨⟨_,h60⟩,hnode⟩:=qBB hc.1
   refine ⟨by rw [List.length_map];omega,fun c hcm=>?_⟩
   obtain ⟨c0,h0,rfl⟩:=List.mem_map.1 hcm
   have h1:=qCn (hnode c0 h0)
   unfold chN
   split
   ·split
    ·exact h1
    ·exact Nat.zero_le _
   ·exact h1
  ·exact ⟨Nat.zero_le _,fun c hcm=>by cases hcm⟩
 generalize mvR p q l=gb at hp hi hG
 obtain ⟨g,b⟩:=gb
 simp only at hp hi hG
 have hgl:=hG.gnL
 have hgk:∀c∈g,(kd c).length≤140737488351232:=fun c hc=>by have:=hG.gnK c hc;omega
 have htg:=qGy hG.gnL hG.gnK
 have eG:decide ((g.length:Nat)=(g.map qN).length)=true:=z8 (by simp)
 have eM:decide ((g.length:Nat)=((qDg 1 g).map qN).length)=true:=z8 (by rw [List.length_map,qDz])
 obtain ⟨n2,hp⟩:=hp
 obtain ⟨n3,hi⟩:=hi
 obtain ⟨n4,hq⟩:=qCZ g (by omega) hgk
 obtain ⟨n7,hf⟩:=qCZ l (by omega) (fun c hc=>(hk c hc).1)
 have ap:=qGo g.length 14 71 b g
 refine ⟨n1+n2+n3+n4+n7+qBn l+qBn g+l.length+g.length+90,fun n hn=>?_⟩
 obtain ⟨m,rfl,hmm⟩:=up1 hn
 have t1:=t1 m (by omega)
 have hp:=hp m (by omega)
 have hi:=hi m (by omega)
 have hq:=hq m (by omega)
 have hf:=hf m (by omega)
 have hm:=qF0 g (by omega) hgk (by omega) m (by omega)
 have hh:=qGj g (by omega) hgk (by omega) m (by omega)
 obtain ⟨r,hr,hz⟩:=qFu l (by omega) hk m (by omega)
 refine qM hr ?_
 by_cases h0:r<0
 ·exact qP (z8 h0) rfl
 obtain ⟨b1,b2⟩:=hz (by omega)
 have hA:=qF0 l (by omega) (fun c hc=>(hk c hc).1) (by have:=qGP l;omega) m (by omega)
 have hk0:decide ((1:Int)+(qCC l:Int)<0)=false:=zAl (by omega)
 have hlt:decide ((1:Int)+(qCC g:Int)<0)=false:=zAl (by omega)
 refine qa (zAl h0) (qM t1 (qP eL (qM hp (qP ap (qM t1 (qP eL (qM hi (qP ap (qP eG (qP eG (qM hq (qP (qD _) (qa rfl (qa (bnn _) ?_))))))))))))))
 refine qM t1 (qP eL (qP eL (qM hf (qP (qD _) (qa rfl (qP eL (qM hA (qa hk0 ?_))))))))
 refine qP eG (qP eG (qM hq (qP (qD _) (qa rfl (qa (bnn _) (qP eG (qM hm (qP eM (qM hh (qP (qE _) (qa hlt (qa (bne_self_eq_false' _) ?_))))))))))))
 refine qM t1 (qP eL (qM hi (qP ap (qP eG (qP eG (qM hq (qP (qD _) (qa rfl (qa (bnn _) ?_)))))))))
 exact qP eM (qM hh (qP (qE _) (qa hlt (qa (bne_self_eq_false' _) rfl))))
end Go.Proofs.Ytilkdjfhbahhdaa.KFnExactMovedBy

