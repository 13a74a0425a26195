import Derived.Test.YtaannlnlddbgdabTFnExactAreasOf
import Derived.Test.YtaannlnlddbgdabE32
import Derived.Lib.Strings
namespace Go.Proofs.Ytaannlnlddbgdab.KFnExactAreasOf
open Go.Eng
set_option linter.unusedVariables false
set_option linter.unusedSimpArgs false
def Ev {R:Type} (F:Nat→Option R) (r:R):Prop:=∃n0,∀n,n0≤n→F n=some r
theorem qFn (s:ByteArray):s.toList.length=s.size:=by rw [Go.Lib.toList_data];rfl
theorem qC4:(ByteArray.mk #[]).toList= []:=by decide+kernel
theorem qU {x:Int} (h: -9223372036854775808≤x∧x≤9223372036854775807):IntKind.i64.wrap x=x:=by
 unfold IntKind.wrap
 have e1:(2:Int)^(64-1)=9223372036854775808:=by decide
 have e2:(2:Int)^64=18446744073709551616:=by decide
 simp only [IntKind.signed,IntKind.bits,Bool.true_and,decide_eq_true_eq,e1,e2]
 split<;>omega
theorem qFK {s:ByteArray} {i:Nat} (h:i<s.size):∃c,s.toList[i]?=some c:=⟨_,List.getElem?_eq_getElem (by rw [qFn];exact h)⟩
theorem qCh {α:Type} {s:List α} {i:Nat} {c:α} (h:s[i]?=some c):s.drop i=c::s.drop (i+1):=by
 obtain ⟨h1,rfl⟩:=List.getElem?_eq_some_iff.1 h
 exact List.drop_eq_getElem_cons h1
theorem qj {V R:Type} {B:V→Tr (V⊕R)} {m:Nat} {v v':V} (h:(B v).run=some (.inl v')):zK B (m+1) v=zK B m v':=by simp only [zK,h]
theorem qN {V R:Type} {B:V→Tr (V⊕R)} {m:Nat} {v:V} {r:R} (h:(B v).run=some (.inr r)):zK B (m+1) v=some r:=by simp only [zK,h]
theorem up1 {n n0:Nat} (h:n0+1≤n):∃m,n=m+1∧n0≤m:=⟨n-1,by omega,by omega⟩
theorem qA {α:Type} (x:α):(Tr.done x).run=some x:=rfl
theorem qC {α:Type}:(Tr.fail:Tr α).run=none:=rfl
theorem qF {α:Type} (b:Bool) (t f:Tr α):(Tr.ask b t f).run=if b=true then t.run else f.run:=by cases b<;>rfl
theorem qG {α β:Type} (o:Option β) (k:β→Tr α):(Tr.opt o k).run=o.bind fun x=>(k x).run:=by cases o<;>rfl
theorem qH {α β γ:Type} (x:β) (k:β→Tr α) (l:γ→Tr α):(Tr.alt (.inl x) k l).run=(k x).run:=rfl
theorem qJ {α β γ:Type} (x:γ) (k:β→Tr α) (l:γ→Tr α):(Tr.alt (.inr x) k l).run=(l x).run:=rfl
theorem qCC {α R:Type} {F:α→Nat→Option R} {f:α→R}:∀(l:List α),(∀c∈l,Ev (F c) (f c))→∃n0,∀n,n0≤n→∀c∈l,F c n=some (f c)
 | [],_=>⟨0,fun n _ c hc=>by cases hc⟩
 |a::l,h=>by
  obtain ⟨n1,h1⟩:=h a (List.mem_cons_self ..)
  obtain ⟨n2,h2⟩:=qCC l fun c hc=>h c (List.mem_cons_of_mem _ hc)
  exact ⟨n1+n2,fun n hn c hc=>by
   rcases List.mem_cons.1 hc with rfl|hc
   ·exact h1 n (by omega)
   ·exact h2 n (by omega) c hc⟩
theorem qFL {R:Type} {B:List (List PV)×Nat×Int×List (List PV)→Tr ((List (List PV)×Nat×Int×List (List PV))⊕R)} {rows:List (List PV)} {z:List PV} {r:List (List PV)→R}
  (hs:∀(i:Nat) (acc:List (List PV)) (e:List PV),rows[i]?=some e→acc.length=rows.length→acc[i]?=some z→(B (rows,rows.length,(i:Int),acc)).run=some (.inl (rows,rows.length,((i+1:Nat):Int),acc.set i e)))
  (he:∀acc:List (List PV),acc.length=rows.length→(B (rows,rows.length,(rows.length:Int),acc)).run=some (.inr (r acc))):
  ∀(m i M:Nat),rows.length=i+m→m+1≤M→zK B M (rows,rows.length,(i:Int),rows.take i++zAG z m)=some (r rows)
 |m,i,0,h1,h2=>by omega
 |0,i,M+1,h1,h2=>by
  have hi:i=rows.length:=by omega
  subst hi
  have e:rows.take rows.length++zAG z 0=rows:=by simp [zAG]
  rw [e,qN (he rows rfl)]
 |m+1,i,M+1,h1,h2=>by
  have hl:i<rows.length:=by omega
  have hg:=List.getElem?_eq_getElem hl
  have hlen:(rows.take i++zAG z (m+1)).length=rows.length:=by simp [zAG];omega
  have hz:(rows.take i++zAG z (m+1))[i]?=some z:=by
   rw [List.getElem?_append_right (by simp;omega)]
   simp [zAG,Nat.min_eq_left (Nat.le_of_lt hl)]
  rw [qj (hs i _ _ hg hlen hz)]
  have e:(rows.take i++zAG z (m+1)).set i rows[i]=rows.take (i+1)++zAG z m:=by
   have hx:zAG z (m+1)=z::zAG z m:=by simp [zAG,List.replicate_succ]
   rw [hx,List.set_append_right (h:=by simp;omega)]
   have:i-(rows.take i).length=0:=by simp;omega
   rw [this,List.set_cons_zero,show rows.take (i+1)=rows.take i++ [rows[i]] from by rw [List.take_add_one,hg];rfl,List.append_assoc]
   rfl
  rw [e]
  exact qFL hs he m (i+1) M (by omega) (by omega)
theorem qFc {R:Type} {B:List (List PV)×Nat×Int×List (List PV)→Tr ((List (List PV)×Nat×Int×List (List PV))⊕R)} {rows:List (List PV)} {z:List PV} {r:List (List PV)→R} {M:Nat}
  (hs:∀(i:Nat) (acc:List (List PV)) (e:List PV),rows[i]?=some e→acc.length=rows.length→acc[i]?=some z→(B (rows,rows.length,(i:Int),acc)).run=some (.inl (rows,rows.length,((i+1:Nat):Int),acc.set i e)))
  (he:∀acc:List (List PV),acc.length=rows.length→(B (rows,rows.length,(rows.length:Int),acc)).run=some (.inr (r acc))) (hM:rows.length+1≤M):
  zK B M (rows,rows.length,0,zAG z rows.length)=some (r rows):=by
 have:=qFL (B:=B) hs he rows.length 0 M (by omega) hM
 simpa using this
theorem qEQ {R:Type} {B:List (List PV)×List (List PV)×Int→Tr ((List (List PV)×List (List PV)×Int)⊕R)} {rows:List (List PV)} {r:R}
  (hs:∀(i:Nat) (e:List PV),rows[i]?=some e→(B (rows,rows,(i:Int))).run=some (.inl (rows,rows,((i+1:Nat):Int)))) (he:(B (rows,rows,(rows.length:Int))).run=some (.inr r)):
  ∀(m i M:Nat),rows.length=i+m→m+1≤M→zK B M (rows,rows,(i:Int))=some r
 |m,i,0,h1,h2=>by omega
 |0,i,M+1,h1,h2=>by
  have hi:i=rows.length:=by omega
  subst hi
  rw [qN he]
 |m+1,i,M+1,h1,h2=>by
  have hg:=List.getElem?_eq_getElem (l:=rows) (i:=i) (by omega)
  rw [qj (hs i _ hg)]
  exact qEQ hs he m (i+1) M (by omega) (by omega)
theorem qEw {α:Type} {enc:α→List PV} {P:α→Prop} {sh:List Sh} (hd:∀e,okR sh e→∃a,e=enc a∧P a):∀{rows:List (List PV)},(∀e∈rows,okR sh e)→∃l:List α,rows=l.map enc∧∀a∈l,P a
 | [],_=>⟨[],rfl,fun a h=>by cases h⟩
 |e::rows,h=>by
  obtain ⟨a,rfl,ha⟩:=hd e (h e (List.mem_cons_self ..))
  obtain ⟨l,rfl,hl⟩:=qEw hd fun e he=>h e (List.mem_cons_of_mem _ he)
  exact ⟨a::l,rfl,fun b hb=>by
   rcases List.mem_cons.1 hb with rfl|hb
   ·exact ha
   ·exact hl b hb⟩
theorem qM {α β:Type} {o:Option β} {x:β} {k:β→Tr α} {y:Option α} (h:o=some x) (h2:(k x).run=y):(Tr.opt o k).run=y:=by rw [h];exact h2
theorem qP {α:Type} {b:Bool} {t f:Tr α} {y:Option α} (h:b=true) (h2:t.run=y):(Tr.ask b t f).run=y:=by rw [h];exact h2
theorem qAS {α:Type} {b:Bool} {t f:Tr α} {y:Option α} (h:b=false) (h2:f.run=y):(Tr.ask b t f).run=y:=by rw [h];exact h2
theorem qD (b:Bool):zz (⟨(.c (.p (.b b))),[],[]⟩:Res)=true:=rfl
theorem qE (x:Int):zz (⟨(.c (.p (.i .i64 x))),[],[]⟩:Res)=true:=rfl
theorem qK (x:ByteArray):zz (⟨(.c (.p (.s x))),[],[]⟩:Res)=true:=rfl
theorem qAl (x lo hi:Int):Ev (q9 · x lo hi) (decide (lo≤x∧x≤hi)):=by
 refine ⟨1,fun n hn=>?_⟩
 obtain ⟨m,rfl,hm⟩:=up1 hn
 simp only [q9,qBp,qA,qC,qF,qG,qH,qJ,Option.bind_some,qD,qE,qK]
 by_cases h:x≥lo<;>simp [h]
theorem qf (x lo hi:Int):Ev (qa · x lo hi) (decide (lo≤x∧x≤hi)):=by
 refine ⟨1,fun n hn=>?_⟩
 obtain ⟨m,rfl,hm⟩:=up1 hn
 simp only [qa,qBz,qA,qC,qF,qG,qH,qJ,Option.bind_some,qD,qE,qK]
 by_cases h:x≥lo<;>simp [h]
def okc (c:UInt8):Bool:=decide (32≤c.toNat∧c.toNat≤126)
def qC5 (s:ByteArray) (most:Int):Bool:=s.toList.all okc&&decide ((s.size:Int)≤most)
def okV (k n:Int) (s:ByteArray):Bool:=
 if k=2 then decide (n=0)&&qC5 s 200 else (s.toList== [])&&(if k=0 then decide (n=0) else if k=1 then decide (-1000000000000000≤n∧n≤1000000000000000) else if k=3 then decide (0≤n∧n≤1) else if k=4 then decide (1≤n∧n≤5) else false)
theorem qDK (n:Nat) (s:ByteArray) (hb:s.size≤140737488355328):∀(m i M:Nat),s.size=i+m→m+1≤M→
  zK (qm n) M (s,(i:Int))=some (if (s.toList.drop i).all okc then .inr s else .inl false)
 |m,i,0,h1,h2=>by omega
 |0,i,M+1,h1,h2=>by
  rw [qN (r:= .inr s) (by simp [qm,qA,qC,qF,qG,qH,qJ,Option.bind_some,qD,qE,qK,show ¬((i:Int)<s.size) by omega])]
  rw [List.drop_eq_nil_of_le (by rw [qFn];omega)]
  rfl
 |m+1,i,M+1,h1,h2=>by
  obtain ⟨c,hc⟩:=qFK (s:=s) (i:=i) (by omega)
  have hi:(i:Int)<s.size:=by omega
  rw [qCh hc]
  by_cases c1:(c.toNat:Int)<32
  ·rw [qN (r:= .inl false) (by simp [qm,qA,qC,qF,qG,qH,qJ,Option.bind_some,qD,qE,qK,hi,hc,c1])]
   have:okc c=false:=by simp [okc];omega
   simp [this]
  ·by_cases c2:(c.toNat:Int)>126
   ·rw [qN (r:= .inl false) (by simp [qm,qA,qC,qF,qG,qH,qJ,Option.bind_some,qD,qE,qK,hi,hc,c1,c2])]
    have:okc c=false:=by simp [okc];omega
    simp [this]
   ·have hw:IntKind.i64.wrap ((i:Int)+1)=((i+1:Nat):Int):=by rw [qU (by omega)];omega
    rw [qj (v':=(s,((i+1:Nat):Int))) (by simp [qm,qA,qC,qF,qG,qH,qJ,Option.bind_some,qD,qE,qK,hi,hc,c1,c2,hw])]
    rw [qDK n s hb m (i+1) M (by omega) (by omega)]
    have:okc c=true:=by simp [okc];omega
    simp [this]
theorem qDi (s:ByteArray) (hb:s.size≤140737488355328):Ev (qAe · s) (qC5 s 200):=by
 refine ⟨s.size+2,fun n hn=>?_⟩
 obtain ⟨m,rfl,hm⟩:=up1 hn
 have h:=qDK m s hb s.size 0 m (by omega) (by omega)
 simp only [qAe,qBZ,qA,qC,qF,qG,qH,qJ,Option.bind_some,qD,qE,qK]
 simp only [Int.natCast_zero,List.drop_zero] at h
 rw [h]
 cases hc:s.toList.all okc<;>simp [qA,qC,qF,qG,qH,qJ,Option.bind_some,qD,qE,qK,qC5,hc]
theorem qEJ (s:ByteArray) (hb:s.size≤140737488351232):Ev (qAe · s) (qC5 s 200):=qDi s (by omega)
theorem qDr (n:Nat) (s:ByteArray) (y:Int) (hb:s.size≤140737488355328):∀(m i M:Nat),s.size=i+m→m+1≤M→
  zK (qAB n) M (s,y,(s.size:Int),(i:Int))=some (if (s.toList.drop i).all okc then .inr (s,y) else .inl false)
 |m,i,0,h1,h2=>by omega
 |0,i,M+1,h1,h2=>by
  rw [qN (r:= .inr (s,y)) (by simp [qAB,qA,qC,qF,qG,qH,qJ,Option.bind_some,qD,qE,qK,show ¬((i:Int)<s.size) by omega])]
  rw [List.drop_eq_nil_of_le (by rw [qFn];omega)]
  rfl
 |m+1,i,M+1,h1,h2=>by
  obtain ⟨c,hc⟩:=qFK (s:=s) (i:=i) (by omega)
  have hi:(i:Int)<s.size:=by omega
  rw [qCh hc]
  by_cases c1:(c.toNat:Int)<32
  ·rw [qN (r:= .inl false) (by simp [qAB,qA,qC,qF,qG,qH,qJ,Option.bind_some,qD,qE,qK,hi,hc,c1])]
   have:okc c=false:=by simp [okc];omega
   simp [this]
  ·by_cases c2:(c.toNat:Int)>126
   ·rw [qN (r:= .inl false) (by simp [qAB,qA,qC,qF,qG,qH,qJ,Option.bind_some,qD,qE,qK,hi,hc,c1,c2])]
    have:okc c=false:=by simp [okc];omega
    simp [this]
   ·have hw:IntKind.i64.wrap ((i:Int)+1)=((i+1:Nat):Int):=by rw [qU (by omega)];omega
    rw [qj (v':=(s,y,(s.size:Int),((i+1:Nat):Int))) (by simp [qAB,qA,qC,qF,qG,qH,qJ,Option.bind_some,qD,qE,qK,hi,hc,c1,c2,hw])]
    rw [qDr n s y hb m (i+1) M (by omega) (by omega)]
    have:okc c=true:=by simp [okc];omega
    simp [this]
theorem qEK (s:ByteArray) (y:Int) (hb:s.size≤140737488355328):Ev (qAn · s y) (qC5 s y):=by
 refine ⟨s.size+2,fun n hn=>?_⟩
 obtain ⟨m,rfl,hm⟩:=up1 hn
 have h:=qDr m s y hb s.size 0 m (by omega) (by omega)
 simp only [qAn,qB0,qA,qC,qF,qG,qH,qJ,Option.bind_some,qD,qE,qK]
 simp only [Int.natCast_zero,List.drop_zero] at h
 rw [h]
 cases hc:s.toList.all okc<;>simp [qA,qC,qF,qG,qH,qJ,Option.bind_some,qD,qE,qK,qC5,hc]
theorem qEx (s:ByteArray) (y:Int) (hb:s.size≤140737488351232):Ev (qAn · s y) (qC5 s y):=qEK s y (by omega)
theorem qEL (k x:Int) (s:ByteArray) (hb:s.size≤140737488351232):Ev (qAx · k x s) (okV k x s):=by
 obtain ⟨n1,h1⟩:=qAl x (-1000000000000000) 1000000000000000
 obtain ⟨n2,h2⟩:=qAl x 0 1
 obtain ⟨n3,h3⟩:=qAl x 1 5
 obtain ⟨n4,h4⟩:=qEJ s hb
 refine ⟨n1+n2+n3+n4+1,fun n hn=>?_⟩
 obtain ⟨m,rfl,hm⟩:=up1 hn
 have h1:=h1 m (by omega)
 dsimp only at h1
 have h2:=h2 m (by omega)
 dsimp only at h2
 have h3:=h3 m (by omega)
 dsimp only at h3
 have h4:=h4 m (by omega)
 dsimp only at h4
 simp only [qAx,qBa,qA,qC,qF,qG,qH,qJ,Option.bind_some,qD,qE,qK,h1,h2,h3,h4]
 simp only [okV,qC4]
 by_cases k2:k=2
 ·subst k2
  by_cases x0:x=0<;>simp [x0]
 ·by_cases k0:k=0
  ·subst k0
   by_cases x0:x=0<;>simp [x0]
  ·by_cases k1:k=1
   ·subst k1
    by_cases hx: -1000000000000000≤x∧x≤1000000000000000<;>simp [hx]
   ·by_cases k3:k=3
    ·subst k3
     by_cases hx:0≤x∧x≤1<;>simp [hx]
    ·by_cases k4:k=4
     ·subst k4
      by_cases hx:1≤x∧x≤5<;>simp [hx]
     ·simp [k0,k1,k2,k3,k4]
theorem qEM (k x:Int) (s:ByteArray) (hb:s.size≤140737488351232):Ev (qA0 · k x s) (okV k x s):=by
 obtain ⟨n1,h1⟩:=qf x (-1000000000000000) 1000000000000000
 obtain ⟨n2,h2⟩:=qf x 0 1
 obtain ⟨n3,h3⟩:=qf x 1 5
 obtain ⟨n4,h4⟩:=qEx s 200 hb
 refine ⟨n1+n2+n3+n4+1,fun n hn=>?_⟩
 obtain ⟨m,rfl,hm⟩:=up1 hn
 have h1:=h1 m (by omega)
 dsimp only at h1
 have h2:=h2 m (by omega)
 dsimp only at h2
 have h3:=h3 m (by omega)
 dsimp only at h3
 have h4:=h4 m (by omega)
 dsimp only at h4
 simp only [qA0,qBf,qA,qC,qF,qG,qH,qJ,Option.bind_some,qD,qE,qK,h1,h2,h3,h4]
 simp only [okV,qC4]
 by_cases k2:k=2
 ·subst k2
  by_cases x0:x=0<;>simp [x0]
 ·by_cases he:s.toList= []
  ·by_cases k0:k=0
   ·subst k0
    by_cases x0:x=0<;>simp [x0,he]
   ·by_cases k1:k=1
    ·subst k1;simp [he]
    ·by_cases k3:k=3
     ·subst k3;simp [he]
     ·by_cases k4:k=4
      ·subst k4;simp [he]
      ·simp [k0,k1,k2,k3,k4,he]
  ·simp [k2,he]
def em:ByteArray:=⟨#[]⟩
def qBS (c r:Int):Bool:=decide (1≤c∧c≤52)&&decide (1≤r∧r≤99)
def qBR (a b c d:Int):Bool:=qBS a b&&qBS c d&&decide (a≤c)&&decide (b≤d)
theorem qB3 (c r:Int):Ev (qAi · c r) (qBS c r):=by
 obtain ⟨n1,h1⟩:=qAl c 1 52
 obtain ⟨n2,h2⟩:=qAl r 1 99
 refine ⟨n1+n2+1,fun n hn=>?_⟩
 obtain ⟨m,rfl,hm⟩:=up1 hn
 have h1:=h1 m (by omega)
 dsimp only at h1
 have h2:=h2 m (by omega)
 dsimp only at h2
 simp only [qAi,qB7,qA,qC,qF,qG,qH,qJ,Option.bind_some,qD,qE,qK,h1,h2]
 unfold qBS
 cases decide (1≤c∧c≤52)<;>simp
theorem qCs (c r:Int):Ev (qA2 · c r) (qBS c r):=by
 obtain ⟨n1,h1⟩:=qf c 1 52
 obtain ⟨n2,h2⟩:=qf r 1 99
 refine ⟨n1+n2+1,fun n hn=>?_⟩
 obtain ⟨m,rfl,hm⟩:=up1 hn
 have h1:=h1 m (by omega)
 dsimp only at h1
 have h2:=h2 m (by omega)
 dsimp only at h2
 simp only [qA2,qB8,qA,qC,qF,qG,qH,qJ,Option.bind_some,qD,qE,qK,h1,h2]
 unfold qBS
 cases decide (1≤c∧c≤52)<;>simp
theorem qEy (a b c d:Int):Ev (qBE · a b c d) (qBR a b c d):=by
 obtain ⟨n1,h1⟩:=qB3 a b
 obtain ⟨n2,h2⟩:=qB3 c d
 refine ⟨n1+n2+1,fun n hn=>?_⟩
 obtain ⟨m,rfl,hm⟩:=up1 hn
 have h1:=h1 m (by omega)
 dsimp only at h1
 have h2:=h2 m (by omega)
 dsimp only at h2
 simp only [qBE,qBt,qA,qC,qF,qG,qH,qJ,Option.bind_some,qD,qE,qK,h1,h2]
 unfold qBR
 cases qBS a b<;>cases qBS c d<;>by_cases h:a≤c<;>simp [h]
theorem qCb (a b c d:Int):Ev (qAo · a b c d) (qBR a b c d):=by
 obtain ⟨n1,h1⟩:=qCs a b
 obtain ⟨n2,h2⟩:=qCs c d
 refine ⟨n1+n2+1,fun n hn=>?_⟩
 obtain ⟨m,rfl,hm⟩:=up1 hn
 have h1:=h1 m (by omega)
 dsimp only at h1
 have h2:=h2 m (by omega)
 dsimp only at h2
 simp only [qAo,qB1,qA,qC,qF,qG,qH,qJ,Option.bind_some,qD,qE,qK,h1,h2]
 unfold qBR
 cases qBS a b<;>cases qBS c d<;>by_cases h:a≤c<;>simp [h]
def qGC (x y:Int):Int:=if x<y then-1 else if x>y then 1 else 0
def qGN (x y:ByteArray):Int:=if Op.bytesLess x.toList y.toList=true then-1 else if x.toList=y.toList then 0 else 1
def qFs:List Int→Int
 | []=>0
 |x::r=>if x≠0 then x else qFs r
def qGO (k x:Int) (s:ByteArray) (k' x':Int) (s':ByteArray):Int:=qFs [qGC k k',qGC x x',qGN s s']
def qGD (op o:Int):Bool:=if op=6 then o==0 else if op=7 then o !=0 else if op=8 then decide (o<0) else if op=9 then decide (o≤0) else if op=10 then decide (o>0) else decide (o≥0)
def qGM (op k x:Int) (s:ByteArray) (k' x':Int) (s':ByteArray):Int×Int×ByteArray:=
 if okV k x s=true∧okV k' x' s'=true∧6≤op∧op≤11 then
  (if k=4 then (k,x,s) else if k'=4 then (k',x',s') else (3,if qGD op (qGO (if k=0 then k' else k) x s (if k'=0 then k else k') x' s')=true then 1 else 0,em))
 else (4,2,em)
theorem qCt (n:Nat):∀(f:Nat) (v:Int×ByteArray),v.1<10^f→v.1≤9223372036854775807→v.2.size+f≤1000→∃t:ByteArray,t.size≤v.2.size+f∧∀M,f+1≤M→zK (qAC n) M v=some t
 |f,v,h1,h1',h2=>by
  by_cases h0:v.1>0
  ·cases f with
   |zero=>simp at h1;omega
   |succ f=>
    have e1:Int.tdiv v.1 10=v.1/10:=Int.tdiv_eq_ediv_of_nonneg (by omega)
    have hw:IntKind.i64.wrap (Int.tdiv v.1 10)=v.1/10:=by rw [e1];exact qU (by omega)
    have h3:v.1/10<10^f:=by
     have:(10:Int)^(f+1)=10^f*10:=Int.pow_succ 10 f
     omega
    let d:ByteArray:=⟨#[UInt8.ofNat (IntKind.u8.wrap (IntKind.i64.wrap ((48:Int)+(Int.tmod v.1 (10:Int))))).toNat]⟩
    have hs:(d++v.2).size=v.2.size+1:=by rw [ByteArray.size_append];show 1+v.2.size=_;omega
    obtain ⟨t,h4,h5⟩:=qCt n f (v.1/10,d++v.2) h3 (by show v.1/10≤_;omega) (by show (d++v.2).size+f≤1000;omega)
    refine ⟨t,by have:t.size≤(d++v.2).size+f:=h4;omega,fun M hM=>?_⟩
    obtain ⟨M,rfl⟩:∃q,M=q+1:=⟨M-1,by omega⟩
    rw [qj (v':=(v.1/10,d++v.2)) (by
     have hd:d.size=1:=rfl
     have hc:d.size+v.2.size≤9223372036854775807:=by omega
     simp only [qAC,qA,qC,qF,qG,qH,qJ,Option.bind_some,qD,qE,qK,bytesOf,Option.map_some,hw]
     rw [if_pos (by simpa using h0),if_pos (by simp),if_pos (by simpa using hc)])]
    exact h5 M (by omega)
  ·refine ⟨v.2,by omega,fun M hM=>?_⟩
   obtain ⟨M,rfl⟩:∃q,M=q+1:=⟨M-1,by omega⟩
   rw [qN (r:=v.2) (by
    simp only [qAC,qA,qC,qF,qG,qH,qJ,Option.bind_some,qD,qE,qK]
    rw [if_neg (by simpa using h0)])]
theorem qDs (k:Int) (h:1≤k∧k≤9223372036854775807):∃t:ByteArray,∀n,25≤n→qAQ n k=some t:=by
 have p19:(10:Int)^19=10000000000000000000:=by decide
 obtain ⟨t,h1,h2⟩:=qCt 0 19 (k,⟨#[]⟩) (by show k<10^19;omega) h.2 (by show (0:Nat)+19≤1000;decide)
 refine ⟨⟨#[109]⟩++t,fun n hn=>?_⟩
 obtain ⟨m,rfl,hm⟩:=up1 hn
 have h3:zK (qAC m) m (k,⟨#[]⟩)=some t:=h2 m (by omega)
 simp only [qAQ,qBQ,qA,qC,qF,qG,qH,qJ,Option.bind_some,qD,qE,qK,h3]
 have h1:t.size≤19:=h1
 have hd:(⟨#[109]⟩:ByteArray).size=1:=rfl
 rw [if_neg (by simp;omega),if_pos (by simp only [decide_eq_true_eq,hd];omega)]
noncomputable def mtx (k:Int):ByteArray:=if h:1≤k∧k≤9223372036854775807 then Classical.choose (qDs k h) else ⟨#[]⟩
theorem qGA {k:Int} (h:1≤k∧k≤9223372036854775807) {n:Nat} (hn:25≤n):qAQ n k=some (mtx k):=by
 unfold mtx
 rw [dif_pos h]
 exact Classical.choose_spec (qDs k h) n hn
abbrev Nd:=Int×Int×Int×Int×ByteArray×Int×Int×Bool×Bool×Int×Int×Bool×Bool×List Int
def qAO (x:Int):List PV:= [.i .i64 x]
def qV (c:Nd):List PV:= [.i .i64 c.1,.i .i64 c.2.1,.i .i64 c.2.2.1,.i .i64 c.2.2.2.1,.s c.2.2.2.2.1,.i .i64 c.2.2.2.2.2.1,.i .i64 c.2.2.2.2.2.2.1,.b c.2.2.2.2.2.2.2.1,.b c.2.2.2.2.2.2.2.2.1,.i .i64 c.2.2.2.2.2.2.2.2.2.1,.i .i64 c.2.2.2.2.2.2.2.2.2.2.1,.b c.2.2.2.2.2.2.2.2.2.2.2.1,.b c.2.2.2.2.2.2.2.2.2.2.2.2.1,.ls ((c.2.2.2.2.2.2.2.2.2.2.2.2.2).map qAO)]
def kd (c:Nd):List Int:=c.2.2.2.2.2.2.2.2.2.2.2.2.2
theorem qFd {l:List Int} {i:Nat} {e:List PV} (h:(l.map qAO)[i]?=some e):∃c,l[i]?=some c∧e=qAO c:=by
 rw [List.getElem?_map] at h
 obtain ⟨c,h1,h2⟩:=Option.map_eq_some_iff.1 h
 exact ⟨c,h1,h2.symm⟩
theorem qFe {l:List Nd} {i:Nat} {e:List PV} (h:(l.map qV)[i]?=some e):∃c,l[i]?=some c∧e=qV c:=by
 rw [List.getElem?_map] at h
 obtain ⟨c,h1,h2⟩:=Option.map_eq_some_iff.1 h
 exact ⟨c,h1,h2.symm⟩
theorem qF6 {rows:List (List PV)} (h:∀e∈rows,okR [.i .i64,.i .i64,.i .i64,.i .i64,.s,.i .i64,.i .i64,.b,.b,.i .i64,.i .i64,.b,.b,.sl 8 [.i .i64]] e):∃l:List Nd,rows=l.map qV∧∀c∈l,c.2.2.2.2.1.size≤140737488351232∧(kd c).length*8≤140737488351232:=by
 refine qEw (fun e h=>?_) h
 obtain ⟨c0,t0,rfl,p0,h0⟩:=zg h
 obtain ⟨c1,t1,rfl,p1,h1⟩:=zg h0
 obtain ⟨c2,t2,rfl,p2,h2⟩:=zg h1
 obtain ⟨c3,t3,rfl,p3,h3⟩:=zg h2
 obtain ⟨c4,t4,rfl,p4,h4⟩:=zg h3
 obtain ⟨c5,t5,rfl,p5,h5⟩:=zg h4
 obtain ⟨c6,t6,rfl,p6,h6⟩:=zg h5
 obtain ⟨c7,t7,rfl,p7,h7⟩:=zg h6
 obtain ⟨c8,t8,rfl,p8,h8⟩:=zg h7
 obtain ⟨c9,t9,rfl,p9,h9⟩:=zg h8
 obtain ⟨c10,t10,rfl,p10,h10⟩:=zg h9
 obtain ⟨c11,t11,rfl,p11,h11⟩:=zg h10
 obtain ⟨c12,t12,rfl,p12,h12⟩:=zg h11
 obtain ⟨c13,t13,rfl,p13,h13⟩:=zg h12
 obtain rfl:=zFL h13
 obtain ⟨x0,rfl,w0⟩:=zCY p0
 obtain ⟨x1,rfl,w1⟩:=zCY p1
 obtain ⟨x2,rfl,w2⟩:=zCY p2
 obtain ⟨x3,rfl,w3⟩:=zCY p3
 obtain ⟨x4,rfl,w4⟩:=zKx p4
 obtain ⟨x5,rfl,w5⟩:=zCY p5
 obtain ⟨x6,rfl,w6⟩:=zCY p6
 obtain ⟨x7,rfl⟩:=zHP p7
 obtain ⟨x8,rfl⟩:=zHP p8
 obtain ⟨x9,rfl,w9⟩:=zCY p9
 obtain ⟨x10,rfl,w10⟩:=zCY p10
 obtain ⟨x11,rfl⟩:=zHP p11
 obtain ⟨x12,rfl⟩:=zHP p12
 obtain ⟨x13,rfl,w13⟩:=zJX p13
 obtain ⟨ks,rfl,_⟩:=qEw (enc:=qAO) (P:=fun _=>True) (fun e h=>by
  obtain ⟨a,t,rfl,p,h⟩:=zg h
  obtain rfl:=zFL h
  obtain ⟨y,rfl,_⟩:=zCY p
  exact ⟨y,rfl,trivial⟩) w13.2
 exact ⟨(x0,x1,x2,x3,x4,x5,x6,x7,x8,x9,x10,x11,x12,ks),rfl,w4,by simpa [kd] using w13.1⟩
theorem qDj (l:List Int) (hb:l.length*8≤140737488351232):∀n,l.length+5≤n→qAq n (l.map qAO)=some (l.length,l.map qAO):=by
 intro n hn
 obtain ⟨m,rfl,hm⟩:=up1 hn
 simp only [qAq,qBL,qA,qC,qF,qG,qH,qJ,Option.bind_some,qD,qE,qK]
 have h:=qFc (B:=qAJ m) (rows:=l.map qAO) (z:= [.i .i64 0]) (r:=fun acc=>((l.map qAO).length,acc)) (M:=m)
  (fun i acc e he ha hz=>by
   obtain ⟨c,hc,rfl⟩:=qFd he
   have hi:i<l.length:=(List.getElem?_eq_some_iff.1 hc).1
   have hi':(i:Int)<l.length:=by omega
   have hw:IntKind.i64.wrap ((i:Int)+1)=(i:Int)+1:=qU (by omega)
   have ha':acc.length=l.length:=by simpa using ha
   simp [qAJ,qA,qC,qF,qG,qH,qJ,Option.bind_some,qD,qE,qK,hi',hc,qAO,zE,hz,ha',hw,zA])
  (fun acc ha=>by
   have ha':acc.length=l.length:=by simpa using ha
   simp [qAJ,qA,qC,qF,qG,qH,qJ,Option.bind_some,qD,qE,qK])
  (by simp;omega)
 simp only [List.length_map,Int.toNat_natCast] at h⊢
 rw [h]
 have h1:(8:Int)*(l.length:Int)≤140737488355328:=by omega
 have h2:(l.length:Int)≤9223372036854775807:=by omega
 simp [qA,qC,qF,qG,qH,qJ,Option.bind_some,qD,qE,qK,h1,h2]
theorem qDk (l:List Int) (hb:l.length≤140737488351232):∀n,l.length+5≤n→qAr n (l.map qAO) (l.map qAO)=some true:=by
 intro n hn
 obtain ⟨m,rfl,hm⟩:=up1 hn
 simp only [qAr,qBO,qA,qC,qF,qG,qH,qJ,Option.bind_some,qD,qE,qK]
 have h:=qEQ (B:=qAL m) (rows:=l.map qAO) (r:= .inr ())
  (fun i e he=>by
   obtain ⟨c,hc,rfl⟩:=qFd he
   have hi:i<l.length:=(List.getElem?_eq_some_iff.1 hc).1
   have hi':(i:Int)<l.length:=by omega
   have hw:IntKind.i64.wrap ((i:Int)+1)=(i:Int)+1:=qU (by omega)
   simp [qAL,qA,qC,qF,qG,qH,qJ,Option.bind_some,qD,qE,qK,hi',hc,qAO,zE,hw])
  (by simp [qAL,qA,qC,qF,qG,qH,qJ,Option.bind_some,qD,qE,qK]) l.length 0 m (by simp) (by omega)
 simp only [Int.natCast_zero] at h
 simp [h,qA,qC,qF,qG,qH,qJ,Option.bind_some,qD,qE,qK]
theorem qEN (c:Nd) (hb:(kd c).length≤140737488351232):∀n,(kd c).length+10≤n→qAg n c.1 c.2.1 c.2.2.1 c.2.2.2.1 c.2.2.2.2.1 c.2.2.2.2.2.1 c.2.2.2.2.2.2.1 c.2.2.2.2.2.2.2.1 c.2.2.2.2.2.2.2.2.1 c.2.2.2.2.2.2.2.2.2.1 c.2.2.2.2.2.2.2.2.2.2.1 c.2.2.2.2.2.2.2.2.2.2.2.1 c.2.2.2.2.2.2.2.2.2.2.2.2.1 ((c.2.2.2.2.2.2.2.2.2.2.2.2.2).map qAO) c.1 c.2.1 c.2.2.1 c.2.2.2.1 c.2.2.2.2.1 c.2.2.2.2.2.1 c.2.2.2.2.2.2.1 c.2.2.2.2.2.2.2.1 c.2.2.2.2.2.2.2.2.1 c.2.2.2.2.2.2.2.2.2.1 c.2.2.2.2.2.2.2.2.2.2.1 c.2.2.2.2.2.2.2.2.2.2.2.1 c.2.2.2.2.2.2.2.2.2.2.2.2.1 ((c.2.2.2.2.2.2.2.2.2.2.2.2.2).map qAO)=some true:=by
 intro n hn
 obtain ⟨m,rfl,hm⟩:=up1 hn
 have h:=qDk (kd c) hb m (by omega)
 unfold kd at h
 obtain ⟨q,rfl⟩:∃q,m=q+3:=⟨m-3,by omega⟩
 have p1:∀a b f g,qAf (q+3) a b f g a b f g=some true:=fun a b f g=>by
  simp [qAf,qBk,qAj,qBU,qA,qC,qF,qG,qH,qJ,Option.bind_some,qD,qE,qK]
 have p2:∀a b s,qA5 (q+3) a b s a b s=some true:=fun a b s=>by
  simp [qA5,qBj,qA,qC,qF,qG,qH,qJ,Option.bind_some,qD,qE,qK]
 simp only [qAg,qBl,qA,qC,qF,qG,qH,qJ,Option.bind_some,qD,qE,qK,h,p1,p2]
 simp
theorem qDl (l:List Nd) (hb:l.length≤140737488351232) (hk:∀c∈l,(kd c).length≤140737488351232):Ev (qAs · (l.map qV) (l.map qV)) true:=by
 obtain ⟨n0,h0⟩:=qCC (F:=fun (c:Nd) n=>qAg n c.1 c.2.1 c.2.2.1 c.2.2.2.1 c.2.2.2.2.1 c.2.2.2.2.2.1 c.2.2.2.2.2.2.1 c.2.2.2.2.2.2.2.1 c.2.2.2.2.2.2.2.2.1 c.2.2.2.2.2.2.2.2.2.1 c.2.2.2.2.2.2.2.2.2.2.1 c.2.2.2.2.2.2.2.2.2.2.2.1 c.2.2.2.2.2.2.2.2.2.2.2.2.1 ((c.2.2.2.2.2.2.2.2.2.2.2.2.2).map qAO) c.1 c.2.1 c.2.2.1 c.2.2.2.1 c.2.2.2.2.1 c.2.2.2.2.2.1 c.2.2.2.2.2.2.1 c.2.2.2.2.2.2.2.1 c.2.2.2.2.2.2.2.2.1 c.2.2.2.2.2.2.2.2.2.1 c.2.2.2.2.2.2.2.2.2.2.1 c.2.2.2.2.2.2.2.2.2.2.2.1 c.2.2.2.2.2.2.2.2.2.2.2.2.1 ((c.2.2.2.2.2.2.2.2.2.2.2.2.2).map qAO)) (f:=fun _=>true) l (fun c hc=>⟨_,qEN c (hk c hc)⟩)
 refine ⟨n0+l.length+5,fun n hn=>?_⟩
 obtain ⟨m,rfl,hm⟩:=up1 hn
 simp only [qAs,qBP,qA,qC,qF,qG,qH,qJ,Option.bind_some,qD,qE,qK]
 have h:=qEQ (B:=qAM m) (rows:=l.map qV) (r:= .inr ())
  (fun i e he=>by
   obtain ⟨c,hc,rfl⟩:=qFe he
   have hi:i<l.length:=(List.getElem?_eq_some_iff.1 hc).1
   have hi':(i:Int)<l.length:=by omega
   have hw:IntKind.i64.wrap ((i:Int)+1)=(i:Int)+1:=qU (by omega)
   have hf:=h0 m (by omega) c (List.mem_of_getElem? hc)
   simp [qAM,qA,qC,qF,qG,qH,qJ,Option.bind_some,qD,qE,qK,hi',hc,qV,zE,zAt,zZ,zo,hf,hw])
  (by simp [qAM,qA,qC,qF,qG,qH,qJ,Option.bind_some,qD,qE,qK]) l.length 0 m (by simp) (by omega)
 simp only [Int.natCast_zero] at h
 simp [h,qA,qC,qF,qG,qH,qJ,Option.bind_some,qD,qE,qK]
def qCJ (op n:Int):Bool:=if op=5 then decide (n=2∨n=3) else if 8≤op∧op≤10 then decide (n=1) else if 1≤op∧op≤7 then decide (1≤n∧n≤10) else false
theorem ten {op:Int} (h:1≤op∧op≤10):op=1∨op=2∨op=3∨op=4∨op=5∨op=6∨op=7∨op=8∨op=9∨op=10:=by omega
theorem qEz (op n:Int):Ev (qBF · op n) (qCJ op n):=by
 refine ⟨1,fun n hn=>?_⟩
 obtain ⟨m,rfl,hm⟩:=up1 hn
 simp only [qBF,qBu,qA,qC,qF,qG,qH,qJ,Option.bind_some,qD,qE,qK]
 by_cases h:1≤op∧op≤10
 ·rcases ten h with rfl|rfl|rfl|rfl|rfl|rfl|rfl|rfl|rfl|rfl
  all_goals
   first
   |(by_cases h2:n=2<;>simp [qCJ,h2];done)
   |(by_cases h1:n≥1<;>simp [qCJ,h1];done)
   |(by_cases h1:n=1<;>simp [qCJ,h1];done)
   |(by_cases h2:n=2<;>by_cases h3:n=3<;>simp [qCJ,h2,h3];done)
   |(simp [qCJ];done)
 ·have e1:¬op=1:=by omega
  have e2:¬op=2:=by omega
  have e3:¬op=3:=by omega
  have e4:¬op=4:=by omega
  have e5:¬op=5:=by omega
  have e6:¬op=6:=by omega
  have e7:¬op=7:=by omega
  have e8:¬op=8:=by omega
  have e9:¬op=9:=by omega
  have e10:¬op=10:=by omega
  have g1:¬(8≤op∧op≤10):=by omega
  have g2:¬(1≤op∧op≤7):=by omega
  simp [qCJ,e1,e2,e3,e4,e5,e6,e7,e8,e9,e10,g1,g2]
def zV (k x:Int) (s:ByteArray):Bool:=decide (k=0)&&(decide (x=0)&&(s.toList== []))
def zP (a b:Int) (f g:Bool):Bool:=decide (a=0)&&(decide (b=0)&&(!f&&!g))
def qCc (c:Nd):Bool:=
 if c.1=1 then decide (c.2.1=0)&&(zP c.2.2.2.2.2.1 c.2.2.2.2.2.2.1 c.2.2.2.2.2.2.2.1 c.2.2.2.2.2.2.2.2.1&&(zP c.2.2.2.2.2.2.2.2.2.1 c.2.2.2.2.2.2.2.2.2.2.1 c.2.2.2.2.2.2.2.2.2.2.2.1 c.2.2.2.2.2.2.2.2.2.2.2.2.1&&(decide ((kd c).length=0)&&(okV c.2.2.1 c.2.2.2.1 c.2.2.2.2.1&&(!decide (c.2.2.1=0)&&(!decide (c.2.2.1=1)||decide (c.2.2.2.1≥0))))))) else
 if c.1=2 then decide (c.2.1=0)&&(zV c.2.2.1 c.2.2.2.1 c.2.2.2.2.1&&(zP c.2.2.2.2.2.2.2.2.2.1 c.2.2.2.2.2.2.2.2.2.2.1 c.2.2.2.2.2.2.2.2.2.2.2.1 c.2.2.2.2.2.2.2.2.2.2.2.2.1&&(decide ((kd c).length=0)&&qBS c.2.2.2.2.2.1 c.2.2.2.2.2.2.1))) else
 if c.1=3 then decide (c.2.1=0)&&(zV c.2.2.1 c.2.2.2.1 c.2.2.2.2.1&&(decide ((kd c).length=0)&&qBR c.2.2.2.2.2.1 c.2.2.2.2.2.2.1 c.2.2.2.2.2.2.2.2.2.1 c.2.2.2.2.2.2.2.2.2.2.1)) else
 if c.1=4 then decide (c.2.1=0)&&(zV c.2.2.1 c.2.2.2.1 c.2.2.2.2.1&&(zP c.2.2.2.2.2.1 c.2.2.2.2.2.2.1 c.2.2.2.2.2.2.2.1 c.2.2.2.2.2.2.2.2.1&&(zP c.2.2.2.2.2.2.2.2.2.1 c.2.2.2.2.2.2.2.2.2.2.1 c.2.2.2.2.2.2.2.2.2.2.2.1 c.2.2.2.2.2.2.2.2.2.2.2.2.1&&decide ((kd c).length=1)))) else
 if c.1=5 then decide (1≤c.2.1∧c.2.1≤11)&&(zV c.2.2.1 c.2.2.2.1 c.2.2.2.2.1&&(zP c.2.2.2.2.2.1 c.2.2.2.2.2.2.1 c.2.2.2.2.2.2.2.1 c.2.2.2.2.2.2.2.2.1&&(zP c.2.2.2.2.2.2.2.2.2.1 c.2.2.2.2.2.2.2.2.2.2.1 c.2.2.2.2.2.2.2.2.2.2.2.1 c.2.2.2.2.2.2.2.2.2.2.2.2.1&&decide ((kd c).length=2)))) else
 if c.1=6 then qCJ c.2.1 ((kd c).length:Int)&&(zV c.2.2.1 c.2.2.2.1 c.2.2.2.2.1&&(zP c.2.2.2.2.2.1 c.2.2.2.2.2.2.1 c.2.2.2.2.2.2.2.1 c.2.2.2.2.2.2.2.2.1&&zP c.2.2.2.2.2.2.2.2.2.1 c.2.2.2.2.2.2.2.2.2.2.1 c.2.2.2.2.2.2.2.2.2.2.2.1 c.2.2.2.2.2.2.2.2.2.2.2.2.1)) else false
theorem qGE (k x:Int) (s:ByteArray):((k==(0:Int))&&((x==(0:Int))&&((s.toList==(⟨#[]⟩:ByteArray).toList)&&true)))=zV k x s:=by
 rw [qC4]
 unfold zV
 by_cases h:k=0<;>by_cases h2:x=0<;>simp [h,h2]
theorem qGF (k x:Int) (s:ByteArray):(((0:Int)==k)&&(((0:Int)==x)&&(((⟨#[]⟩:ByteArray).toList==s.toList)&&true)))=zV k x s:=by
 rw [←qGE]
 congr 1
 ·exact Bool.beq_comm
 ·congr 1
  ·exact Bool.beq_comm
  ·congr 1
   exact Bool.beq_comm
theorem qGG (a b:Int) (f g:Bool):((a==(0:Int))&&((b==(0:Int))&&((f==false)&&((g==false)&&true))))=zP a b f g:=by
 unfold zP
 by_cases h:a=0<;>by_cases h2:b=0<;>cases f<;>cases g<;>simp [h,h2]
theorem qGH (a b:Int) (f g:Bool):(((0:Int)==a)&&(((0:Int)==b)&&((false==f)&&((false==g)&&true))))=zP a b f g:=by
 rw [←qGG]
 congr 1
 ·exact Bool.beq_comm
 ·congr 1
  ·exact Bool.beq_comm
  ·cases f<;>cases g<;>rfl
theorem qDm (c:Nd) (hb:c.2.2.2.2.1.size≤140737488351232):Ev (qAP · c.1 c.2.1 c.2.2.1 c.2.2.2.1 c.2.2.2.2.1 c.2.2.2.2.2.1 c.2.2.2.2.2.2.1 c.2.2.2.2.2.2.2.1 c.2.2.2.2.2.2.2.2.1 c.2.2.2.2.2.2.2.2.2.1 c.2.2.2.2.2.2.2.2.2.2.1 c.2.2.2.2.2.2.2.2.2.2.2.1 c.2.2.2.2.2.2.2.2.2.2.2.2.1 ((c.2.2.2.2.2.2.2.2.2.2.2.2.2).map qAO)) (qCc c):=by
 obtain ⟨n1,h1⟩:=qEL c.2.2.1 c.2.2.2.1 c.2.2.2.2.1 hb
 obtain ⟨n2,h2⟩:=qB3 c.2.2.2.2.2.1 c.2.2.2.2.2.2.1
 obtain ⟨n3,h3⟩:=qEy c.2.2.2.2.2.1 c.2.2.2.2.2.2.1 c.2.2.2.2.2.2.2.2.2.1 c.2.2.2.2.2.2.2.2.2.2.1
 obtain ⟨n4,h4⟩:=qAl c.2.1 1 11
 obtain ⟨n5,h5⟩:=qEz c.2.1 (((c.2.2.2.2.2.2.2.2.2.2.2.2.2).map qAO).length:Int)
 refine ⟨n1+n2+n3+n4+n5+1,fun n hn=>?_⟩
 obtain ⟨m,rfl,hm⟩:=up1 hn
 have h1:=h1 m (by omega)
 dsimp only at h1
 have h2:=h2 m (by omega)
 dsimp only at h2
 have h3:=h3 m (by omega)
 dsimp only at h3
 have h4:=h4 m (by omega)
 dsimp only at h4
 have h5:=h5 m (by omega)
 dsimp only at h5
 simp only [qAP,qBN,qA,qC,qF,qG,qH,qJ,Option.bind_some,qD,qE,qK,h1,h2,h3,h4,h5]
 have hk:((c.2.2.2.2.2.2.2.2.2.2.2.2.2).map qAO).length=(kd c).length:=by rw [List.length_map];rfl
 simp only [qGE,qGG,hk]
 unfold qCc
 by_cases k1:c.1=1
 ·simp only [k1,if_true,beq_self_eq_true]
  cases zP c.2.2.2.2.2.1 c.2.2.2.2.2.2.1 c.2.2.2.2.2.2.2.1 c.2.2.2.2.2.2.2.2.1<;>cases zP c.2.2.2.2.2.2.2.2.2.1 c.2.2.2.2.2.2.2.2.2.2.1 c.2.2.2.2.2.2.2.2.2.2.2.1 c.2.2.2.2.2.2.2.2.2.2.2.2.1<;>cases okV c.2.2.1 c.2.2.2.1 c.2.2.2.2.1<;>by_cases h0:c.2.1=0<;>by_cases h1:(kd c).length=0<;>by_cases h2:c.2.2.1=0<;>by_cases h3:c.2.2.1=1<;>simp [h0,h1,h2,h3]
 by_cases k2:c.1=2
 ·simp only [k2]
  cases zV c.2.2.1 c.2.2.2.1 c.2.2.2.2.1<;>cases zP c.2.2.2.2.2.2.2.2.2.1 c.2.2.2.2.2.2.2.2.2.2.1 c.2.2.2.2.2.2.2.2.2.2.2.1 c.2.2.2.2.2.2.2.2.2.2.2.2.1<;>cases qBS c.2.2.2.2.2.1 c.2.2.2.2.2.2.1<;>by_cases h0:c.2.1=0<;>by_cases h1:(kd c).length=0<;>simp [h0,h1]
 by_cases k3:c.1=3
 ·simp only [k3]
  cases zV c.2.2.1 c.2.2.2.1 c.2.2.2.2.1<;>cases qBR c.2.2.2.2.2.1 c.2.2.2.2.2.2.1 c.2.2.2.2.2.2.2.2.2.1 c.2.2.2.2.2.2.2.2.2.2.1<;>by_cases h0:c.2.1=0<;>by_cases h1:(kd c).length=0<;>simp [h0,h1]
 by_cases k4:c.1=4
 ·simp only [k4]
  cases zV c.2.2.1 c.2.2.2.1 c.2.2.2.2.1<;>cases zP c.2.2.2.2.2.1 c.2.2.2.2.2.2.1 c.2.2.2.2.2.2.2.1 c.2.2.2.2.2.2.2.2.1<;>cases zP c.2.2.2.2.2.2.2.2.2.1 c.2.2.2.2.2.2.2.2.2.2.1 c.2.2.2.2.2.2.2.2.2.2.2.1 c.2.2.2.2.2.2.2.2.2.2.2.2.1<;>by_cases h0:c.2.1=0<;>by_cases h1:(kd c).length=1<;>simp [h0,h1]<;>omega
 by_cases k5:c.1=5
 ·simp only [k5]
  cases zV c.2.2.1 c.2.2.2.1 c.2.2.2.2.1<;>cases zP c.2.2.2.2.2.1 c.2.2.2.2.2.2.1 c.2.2.2.2.2.2.2.1 c.2.2.2.2.2.2.2.2.1<;>cases zP c.2.2.2.2.2.2.2.2.2.1 c.2.2.2.2.2.2.2.2.2.2.1 c.2.2.2.2.2.2.2.2.2.2.2.1 c.2.2.2.2.2.2.2.2.2.2.2.2.1<;>by_cases h0:1≤c.2.1∧c.2.1≤11<;>by_cases h1:(kd c).length=2<;>simp [h0,h1]<;>omega
 by_cases k6:c.1=6
 ·simp only [k6]
  cases zV c.2.2.1 c.2.2.2.1 c.2.2.2.2.1<;>cases zP c.2.2.2.2.2.1 c.2.2.2.2.2.2.1 c.2.2.2.2.2.2.2.1 c.2.2.2.2.2.2.2.2.1<;>cases zP c.2.2.2.2.2.2.2.2.2.1 c.2.2.2.2.2.2.2.2.2.2.1 c.2.2.2.2.2.2.2.2.2.2.2.1 c.2.2.2.2.2.2.2.2.2.2.2.2.1<;>cases qCJ c.2.1 ((kd c).length:Int)<;>simp
 simp [k1,k2,k3,k4,k5,k6]
theorem qE0 (c:Nd):Ev (qR · c.1 c.2.1 c.2.2.1 c.2.2.2.1 c.2.2.2.2.1 c.2.2.2.2.2.1 c.2.2.2.2.2.2.1 c.2.2.2.2.2.2.2.1 c.2.2.2.2.2.2.2.2.1 c.2.2.2.2.2.2.2.2.2.1 c.2.2.2.2.2.2.2.2.2.2.1 c.2.2.2.2.2.2.2.2.2.2.2.1 c.2.2.2.2.2.2.2.2.2.2.2.2.1 ((c.2.2.2.2.2.2.2.2.2.2.2.2.2).map qAO)) (if c.1=4 then decide (c.2.1=0)&&decide ((kd c).length=1) else if c.1=5 then decide (1≤c.2.1∧c.2.1≤11)&&decide ((kd c).length=2) else if c.1=6 then qCJ c.2.1 ((kd c).length:Int) else decide (c.2.1=0)&&decide ((kd c).length=0)):=by
 obtain ⟨n1,h1⟩:=qf c.2.1 1 11
 obtain ⟨n2,h2⟩:=qf c.2.1 1 10
 obtain ⟨n3,h3⟩:=qf (((c.2.2.2.2.2.2.2.2.2.2.2.2.2).map qAO).length:Int) 2 3
 obtain ⟨n4,h4⟩:=qf (((c.2.2.2.2.2.2.2.2.2.2.2.2.2).map qAO).length:Int) 1 10
 refine ⟨n1+n2+n3+n4+1,fun n hn=>?_⟩
 obtain ⟨m,rfl,hm⟩:=up1 hn
 have h1:=h1 m (by omega)
 dsimp only at h1
 have h2:=h2 m (by omega)
 dsimp only at h2
 have h3:=h3 m (by omega)
 dsimp only at h3
 have h4:=h4 m (by omega)
 dsimp only at h4
 simp only [qR,qAm,qA,qC,qF,qG,qH,qJ,Option.bind_some,qD,qE,qK,h1,h2,h3,h4]
 have hk:((c.2.2.2.2.2.2.2.2.2.2.2.2.2).map qAO).length=(kd c).length:=by rw [List.length_map];rfl
 simp only [hk]
 by_cases k4:c.1=4
 ·simp only [k4]
  by_cases h0:c.2.1=0<;>by_cases h1:(kd c).length=1<;>simp [h0,h1]<;>omega
 by_cases k5:c.1=5
 ·simp only [k5]
  by_cases h0:1≤c.2.1∧c.2.1≤11<;>by_cases h1:(kd c).length=2<;>simp [h0,h1]<;>omega
 by_cases k6:c.1=6
 ·simp only [k6]
  unfold qCJ
  by_cases h:1≤c.2.1∧c.2.1≤10
  ·by_cases h5:c.2.1=5
   ·have:(2≤((kd c).length:Int)∧((kd c).length:Int)≤3)↔(((kd c).length:Int)=2∨((kd c).length:Int)=3):=by omega
    simp [h5,this]
   ·by_cases h8:c.2.1≥8
    ·have g:8≤c.2.1∧c.2.1≤10:=by omega
     by_cases h1:((kd c).length:Int)=1<;>simp [h,h5,h8,g,h1]
    ·have g:¬(8≤c.2.1∧c.2.1≤10):=by omega
     have g':1≤c.2.1∧c.2.1≤7:=by omega
     simp [h,h5,h8,g,g']
  ·have h5:¬c.2.1=5:=by omega
   have g:¬(8≤c.2.1∧c.2.1≤10):=by omega
   have g':¬(1≤c.2.1∧c.2.1≤7):=by omega
   simp [h,h5,g,g']
 by_cases h0:c.2.1=0<;>by_cases h1:(kd c).length=0<;>simp [k4,k5,k6,h0,h1]<;>omega
theorem qDn (c:Nd):Ev (qQ · c.1 c.2.1 c.2.2.1 c.2.2.2.1 c.2.2.2.2.1 c.2.2.2.2.2.1 c.2.2.2.2.2.2.1 c.2.2.2.2.2.2.2.1 c.2.2.2.2.2.2.2.2.1 c.2.2.2.2.2.2.2.2.2.1 c.2.2.2.2.2.2.2.2.2.2.1 c.2.2.2.2.2.2.2.2.2.2.2.1 c.2.2.2.2.2.2.2.2.2.2.2.2.1 ((c.2.2.2.2.2.2.2.2.2.2.2.2.2).map qAO)) (if c.1=2 then qBR c.2.2.2.2.2.1 c.2.2.2.2.2.2.1 c.2.2.2.2.2.1 c.2.2.2.2.2.2.1 else if c.1=3 then qBR c.2.2.2.2.2.1 c.2.2.2.2.2.2.1 c.2.2.2.2.2.2.2.2.2.1 c.2.2.2.2.2.2.2.2.2.2.1 else true):=by
 have g:Ev (qi · c.1 c.2.1 c.2.2.1 c.2.2.2.1 c.2.2.2.2.1 c.2.2.2.2.2.1 c.2.2.2.2.2.2.1 c.2.2.2.2.2.2.2.1 c.2.2.2.2.2.2.2.2.1 c.2.2.2.2.2.2.2.2.2.1 c.2.2.2.2.2.2.2.2.2.2.1 c.2.2.2.2.2.2.2.2.2.2.2.1 c.2.2.2.2.2.2.2.2.2.2.2.2.1 ((c.2.2.2.2.2.2.2.2.2.2.2.2.2).map qAO)) (if c.1=2 then (c.2.2.2.2.2.1,c.2.2.2.2.2.2.1,c.2.2.2.2.2.1,c.2.2.2.2.2.2.1) else (c.2.2.2.2.2.1,c.2.2.2.2.2.2.1,c.2.2.2.2.2.2.2.2.2.1,c.2.2.2.2.2.2.2.2.2.2.1)):=by
  refine ⟨1,fun n hn=>?_⟩
  obtain ⟨m,rfl,hm⟩:=up1 hn
  simp only [qi,qA1,qA,qC,qF,qG,qH,qJ,Option.bind_some,qD,qE,qK]
  by_cases k2:c.1=2<;>simp [k2]
 obtain ⟨n1,h1⟩:=g
 obtain ⟨n2,h2⟩:=qCb c.2.2.2.2.2.1 c.2.2.2.2.2.2.1 c.2.2.2.2.2.1 c.2.2.2.2.2.2.1
 obtain ⟨n3,h3⟩:=qCb c.2.2.2.2.2.1 c.2.2.2.2.2.2.1 c.2.2.2.2.2.2.2.2.2.1 c.2.2.2.2.2.2.2.2.2.2.1
 refine ⟨n1+n2+n3+1,fun n hn=>?_⟩
 obtain ⟨m,rfl,hm⟩:=up1 hn
 have h1:=h1 m (by omega)
 dsimp only at h1
 have h2:=h2 m (by omega)
 dsimp only at h2
 have h3:=h3 m (by omega)
 dsimp only at h3
 simp only [qQ,qAb,qA,qC,qF,qG,qH,qJ,Option.bind_some,qD,qE,qK,h1,h2,h3]
 by_cases k2:c.1=2
 ·simp [k2,h2]
 ·by_cases k3:c.1=3
  ·simp [k3,h3]
  ·simp [k2,k3]
theorem qF2 (a b:Int):qBR a b a b=qBS a b:=by
 unfold qBR
 cases qBS a b<;>simp
theorem qFG (c:Nd) (hb:c.2.2.2.2.1.size≤140737488351232):Ev (qAa · c.1 c.2.1 c.2.2.1 c.2.2.2.1 c.2.2.2.2.1 c.2.2.2.2.2.1 c.2.2.2.2.2.2.1 c.2.2.2.2.2.2.2.1 c.2.2.2.2.2.2.2.2.1 c.2.2.2.2.2.2.2.2.2.1 c.2.2.2.2.2.2.2.2.2.2.1 c.2.2.2.2.2.2.2.2.2.2.2.1 c.2.2.2.2.2.2.2.2.2.2.2.2.1 ((c.2.2.2.2.2.2.2.2.2.2.2.2.2).map qAO)) (qCc c):=by
 obtain ⟨n1,g1⟩:=qEM c.2.2.1 c.2.2.2.1 c.2.2.2.2.1 hb
 obtain ⟨n2,g2⟩:=qDn c
 obtain ⟨n3,g3⟩:=qE0 c
 refine ⟨n1+n2+n3+1,fun n hn=>?_⟩
 obtain ⟨m,rfl,hm⟩:=up1 hn
 have g1:=g1 m (by omega)
 have g2:=g2 m (by omega)
 have g3:=g3 m (by omega)
 dsimp only at g1 g2 g3
 rw [qF2] at g2
 simp only [qAa,qAt,qA,qC,qF,qG,qH,qJ,Option.bind_some,qD,qE,qK,g1,g2,g3,qGF,qGH]
 simp only [beq_self_eq_true,Bool.and_true,Bool.true_and]
 unfold qCc
 by_cases k1:c.1=1
 ·have h5:(c.2.2.2.1≥0)=¬(c.2.2.2.1<0):=propext Int.not_lt.symm
  simp only [k1,h5]
  cases zP c.2.2.2.2.2.1 c.2.2.2.2.2.2.1 c.2.2.2.2.2.2.2.1 c.2.2.2.2.2.2.2.2.1<;>cases zP c.2.2.2.2.2.2.2.2.2.1 c.2.2.2.2.2.2.2.2.2.2.1 c.2.2.2.2.2.2.2.2.2.2.2.1 c.2.2.2.2.2.2.2.2.2.2.2.2.1<;>cases okV c.2.2.1 c.2.2.2.1 c.2.2.2.2.1<;>by_cases h0:c.2.1=0<;>by_cases h1:(kd c).length=0<;>by_cases h2:c.2.2.1=0<;>by_cases h3:c.2.2.1=1<;>by_cases h4:c.2.2.2.1<0<;>simp [h0,h1,h2,h3,h4]<;>(try omega)
 by_cases k2:c.1=2
 ·simp only [k2]
  cases zV c.2.2.1 c.2.2.2.1 c.2.2.2.2.1<;>cases zP c.2.2.2.2.2.2.2.2.2.1 c.2.2.2.2.2.2.2.2.2.2.1 c.2.2.2.2.2.2.2.2.2.2.2.1 c.2.2.2.2.2.2.2.2.2.2.2.2.1<;>cases qBS c.2.2.2.2.2.1 c.2.2.2.2.2.2.1<;>by_cases h0:c.2.1=0<;>by_cases h1:(kd c).length=0<;>simp [h0,h1]
 by_cases k3:c.1=3
 ·simp only [k3]
  cases zV c.2.2.1 c.2.2.2.1 c.2.2.2.2.1<;>cases qBR c.2.2.2.2.2.1 c.2.2.2.2.2.2.1 c.2.2.2.2.2.2.2.2.2.1 c.2.2.2.2.2.2.2.2.2.2.1<;>by_cases h0:c.2.1=0<;>by_cases h1:(kd c).length=0<;>simp [h0,h1]
 by_cases k4:c.1=4
 ·simp only [k4]
  cases zV c.2.2.1 c.2.2.2.1 c.2.2.2.2.1<;>cases zP c.2.2.2.2.2.1 c.2.2.2.2.2.2.1 c.2.2.2.2.2.2.2.1 c.2.2.2.2.2.2.2.2.1<;>cases zP c.2.2.2.2.2.2.2.2.2.1 c.2.2.2.2.2.2.2.2.2.2.1 c.2.2.2.2.2.2.2.2.2.2.2.1 c.2.2.2.2.2.2.2.2.2.2.2.2.1<;>by_cases h0:c.2.1=0<;>by_cases h1:(kd c).length=1<;>simp [h0,h1]
 by_cases k5:c.1=5
 ·simp only [k5]
  cases zV c.2.2.1 c.2.2.2.1 c.2.2.2.2.1<;>cases zP c.2.2.2.2.2.1 c.2.2.2.2.2.2.1 c.2.2.2.2.2.2.2.1 c.2.2.2.2.2.2.2.2.1<;>cases zP c.2.2.2.2.2.2.2.2.2.1 c.2.2.2.2.2.2.2.2.2.2.1 c.2.2.2.2.2.2.2.2.2.2.2.1 c.2.2.2.2.2.2.2.2.2.2.2.2.1<;>by_cases h0:1≤c.2.1∧c.2.1≤11<;>by_cases h1:(kd c).length=2<;>simp [h0,h1]
 by_cases k6:c.1=6
 ·simp only [k6]
  cases zV c.2.2.1 c.2.2.2.1 c.2.2.2.2.1<;>cases zP c.2.2.2.2.2.1 c.2.2.2.2.2.2.1 c.2.2.2.2.2.2.2.1 c.2.2.2.2.2.2.2.2.1<;>cases zP c.2.2.2.2.2.2.2.2.2.1 c.2.2.2.2.2.2.2.2.2.2.1 c.2.2.2.2.2.2.2.2.2.2.2.1 c.2.2.2.2.2.2.2.2.2.2.2.2.1<;>cases qCJ c.2.1 ((kd c).length:Int)<;>simp
 simp [k1,k2,k3,k4,k5,k6]
section
variable (own area call:Int→Bool) (kids:Int→List Int)
def goF (F:Int→Int) (n:Int):List Int→Int→Int
 | [],start=>start
 |k::r,start=>if k≠start-1∨k<0∨(area k=true∧call n=false) then-1 else if F k<0 then-1 else goF F n r (F k)
def qAT:Nat→Int→Int
 |0,_=> -1
 |f+1,n=>if n<0∨own n=false then-1 else goF area call (qAT f) n (kids n).reverse n
def goT (F:Int→Int):List Int→Int→Int
 | [],x=>x+1
 |k::r,x=>if x<0∨k≠x then-1 else if F x<0 then-1 else goT F r (F x-1)
def qAU:Nat→Int→Int
 |0,_=> -1
 |f+1,n=>goT (qAU f) (kids n).reverse (n-1)
def qCd:List Int→Int
 | []=>0
 |x::r=>max x (qCd r)
def qn:Nat→Int→Int
 |0,_=>0
 |f+1,n=>qCd ((kids n).map fun k=>qn f k)+1
def qBm (i:Int):Prop:=∀k∈kids i,0≤k∧k≤i-1∧¬(area k=true∧call i=false)
theorem qE1:∀(f:Nat) (n:Int),0≤n→qAU kids f n≤n
 |0,n,h=>by rw [qAU];omega
 |f+1,n,h=>by
  have go:∀(l:List Int) (x:Int),x+1≤n→-1≤x→goT (qAU kids f) l x≤n:=by
   intro l
   induction l with
   |nil=>intro x h1 h2;rw [goT];omega
   |cons k r ih=>
    intro x h1 h2
    rw [goT]
    split
    ·omega
    ·split
     ·omega
     ·have:=qE1 f x (by omega)
      exact ih _ (by omega) (by omega)
  rw [qAU]
  exact go _ _ (by omega) (by omega)
theorem qFt {l:List Int} {b:Int} (h0:0≤b):qCd l≤b↔∀x∈l,x≤b:=by
 induction l with
 |nil=>simp [qCd,h0]
 |cons a r ih=>simp only [qCd,List.mem_cons,forall_eq_or_imp];rw [Int.max_le,ih]
theorem qFf {n b:Int} {f:Nat} (h0:1≤b):qn kids (f+1) n≤b↔∀k∈kids n,qn kids f k≤b-1:=by
 rw [qn]
 constructor
 ·intro h k hk
  exact (qFt (l:=(kids n).map fun k=>qn kids f k) (by omega)).1 (by omega) _ (List.mem_map_of_mem (f:=fun k=>qn kids f k) hk)
 ·intro h
  have:=(qFt (l:=(kids n).map fun k=>qn kids f k) (b:=b-1) (by omega)).2 (by
   intro x hx
   obtain ⟨k,hk,rfl⟩:=List.mem_map.1 hx
   exact h k hk)
  omega
theorem qFg:∀(f g:Nat) (n:Int),n<f→n<g→(∀i,0≤i→i≤n→qBm area call kids i)→0≤n→qn kids f n=qn kids g n
 |0,g,n,h1,h2,_,h3=>by omega
 |f+1,0,n,h1,h2,_,h3=>by omega
 |f+1,g+1,n,h1,h2,hk,h3=>by
  rw [qn,qn]
  congr 2
  apply List.map_congr_left
  intro k hm
  have:=hk n h3 (by omega) k hm
  exact qFg f g k (by omega) (by omega) (fun i h0 h1=>hk i h0 (by omega)) (by omega)
theorem qF0:∀(f:Nat) (n:Int),0≤n→n<f→1≤qn kids f n
 |0,n,h,h'=>by omega
 |f+1,n,h,h'=>by
  rw [qn]
  have:∀l:List Int,0≤qCd l:=by
   intro l
   induction l with
   |nil=>exact Int.le_refl 0
   |cons a r ih=>simp only [qCd];omega
  have:=this ((kids n).map fun k=>qn kids f k)
  omega
theorem qFV:∀(f g:Nat) (n:Int),0≤n→n<g→0≤qAT own area call kids f n→
  qAT own area call kids f n≤n∧qAU kids g n=qAT own area call kids f n∧(∀i,qAT own area call kids f n≤i→i≤n→own i=true∧qBm area call kids i)∧(∀h:Nat,(∀i,0≤i→i≤n→qBm area call kids i)→n<h→qn kids h n≤f)
 |0,g,n,h0,h1,h2=>by rw [qAT] at h2;omega
 |f+1,0,n,h0,h1,h2=>by omega
 |f+1,g+1,n,h0,h1,h2=>by
  rw [qAT] at h2⊢
  split at h2
  ·omega
  ·rename_i hc
   rw [if_neg hc]
   have go:∀(l:List Int) (s:Int),0≤s→s≤n→0≤goF area call (qAT own area call kids f) n l s→
     goF area call (qAT own area call kids f) n l s≤s∧goT (qAU kids g) l (s-1)=goF area call (qAT own area call kids f) n l s∧(∀i,goF area call (qAT own area call kids f) n l s≤i→i≤s-1→own i=true∧qBm area call kids i)∧(∀k∈l,0≤k∧k≤n-1∧¬(area k=true∧call n=false))∧(∀h:Nat,(∀i,0≤i→i≤n→qBm area call kids i)→n<h→∀k∈l,qn kids h k≤f):=by
    intro l
    induction l with
    |nil=>
     intro s h3 h4 h5
     rw [goF] at h5⊢
     rw [goT]
     refine ⟨by omega,by omega,fun i _ _=>by omega,fun k hk=>(by cases hk),fun h _ _ k hk=>(by cases hk)⟩
    |cons k r ih=>
     intro s h3 h4 h5
     rw [goF] at h5⊢
     split at h5
     ·omega
     ·rename_i hd
      rw [if_neg hd]
      split at h5
      ·omega
      ·rename_i he
       rw [if_neg he]
       have hk:k=s-1:=by omega
       subst hk
       obtain ⟨a1,a2,a3,a4⟩:=qFV f g (s-1) (by omega) (by omega) (by omega)
       obtain ⟨b1,b2,b3,b4,b5⟩:=ih _ (by omega) (by omega) h5
       refine ⟨by omega,?_,?_,?_,?_⟩
       ·rw [goT,if_neg (by omega),a2,if_neg he,b2]
       ·intro i i1 i2
        by_cases hi:qAT own area call kids f (s-1)≤i
        ·exact a3 i hi i2
        ·exact b3 i i1 (by omega)
       ·intro k hk
        rcases List.mem_cons.1 hk with rfl|hk
        ·exact ⟨by omega,by omega,fun h=>hd (.inr (.inr h))⟩
        ·exact b4 k hk
       ·intro h hx hy k hk
        rcases List.mem_cons.1 hk with rfl|hk
        ·exact a4 h (fun i i1 i2=>hx i i1 (by omega)) (by omega)
        ·exact b5 h hx hy k hk
   obtain ⟨c1,c2,c3,c4,c5⟩:=go _ n h0 (Int.le_refl n) h2
   have hown:own n=true:=by cases ho:own n with
    |true=>rfl
    |false=>exact absurd (.inr ho) hc
   refine ⟨c1,by rw [qAU];exact c2,?_,?_⟩
   ·intro i i1 i2
    by_cases hi:i=n
    ·subst hi
     exact ⟨hown,fun k hk=>c4 k (List.mem_reverse.2 hk)⟩
    ·exact c3 i i1 (by omega)
   ·intro h hx hy
    cases h with
    |zero=>omega
    |succ h=>
     refine (qFf kids (by omega)).2 fun k hk=>?_
     have hin:=hx n h0 (Int.le_refl n) k hk
     have e:qn kids h k=qn kids (n.toNat+1) k:=qFg area call kids _ _ _ (by omega) (by omega) (fun i i1 i2=>hx i i1 (by omega)) (by omega)
     rw [e]
     have:=c5 (n.toNat+1) hx (by omega) k (List.mem_reverse.2 hk)
     omega
theorem qFu:∀(f g h:Nat) (n:Int),0≤n→n<g→n<h→(∀i,0≤i→i≤n→own i=true∧qBm area call kids i)→0≤qAU kids g n→qn kids h n≤f→qAT own area call kids f n=qAU kids g n
 |0,g,h,n,h0,h1,h1',h2,h3,h4=>by have:=qF0 kids h n h0 h1';omega
 |f+1,0,h,n,h0,h1,_,h2,h3,h4=>by omega
 |f+1,g+1,0,n,h0,h1,_,h2,h3,h4=>by omega
 |f+1,g+1,h+1,n,h0,h1,h1',h2,h3,h4=>by
  have hd:=(qFf kids (b:=((f+1:Nat):Int)) (by omega)).1 h4
  have go:∀(l:List Int) (s:Int),(∀k∈l,k∈kids n)→0≤s→s≤n→0≤goT (qAU kids g) l (s-1)→goF area call (qAT own area call kids f) n l s=goT (qAU kids g) l (s-1):=by
   intro l
   induction l with
   |nil=>intro s _ _ _ _;rw [goF,goT];omega
   |cons k r ih=>
    intro s hm h3 h4 h5
    rw [goT] at h5⊢
    rw [goF]
    split at h5
    ·omega
    ·rename_i hc
     rw [if_neg hc]
     split at h5
     ·omega
     ·rename_i he
      rw [if_neg he]
      have hk:k=s-1:=by omega
      have hin:=(h2 n h0 (Int.le_refl n)).2 k (hm k (List.mem_cons_self ..))
      have hdk:=hd k (hm k (List.mem_cons_self ..))
      subst hk
      have e:=qFu f g h (s-1) (by omega) (by omega) (by omega) (fun i i1 i2=>h2 i i1 (by omega)) (by omega) (by omega)
      have hb:¬(s-1≠s-1∨s-1<0∨(area (s-1)=true∧call n=false)):=fun hx=>by
       rcases hx with hx|hx|hx
       ·exact hx rfl
       ·omega
       ·exact hin.2.2 hx
      rw [if_neg hb,e,if_neg he]
      have hle:=qE1 kids g (s-1) (by omega)
      exact ih _ (fun k hk=>hm k (List.mem_cons_of_mem _ hk)) (by omega) (by omega) h5
  rw [qAU] at h3
  have hn:¬(n<0∨own n=false):=fun hx=>by
   rcases hx with hx|hx
   ·omega
   ·rw [(h2 n h0 (Int.le_refl n)).1] at hx;cases hx
  rw [qAT,qAU,if_neg hn]
  exact go _ n (fun k hk=>List.mem_reverse.1 hk) h0 (Int.le_refl n) h3
end
theorem qo (c:Nd):(qV c).length=14:=rfl
theorem qp (k:Int):(qAO k).length=1:=rfl
theorem qq (k:Int):zE .i64 (qAO k) 0=some k:=rfl
theorem qr (c:Nd):zE .i64 (qV c) 0=some c.1:=rfl
theorem qt (c:Nd):zE .i64 (qV c) 1=some c.2.1:=rfl
theorem qu (c:Nd):zE .i64 (qV c) 2=some c.2.2.1:=rfl
theorem qv (c:Nd):zE .i64 (qV c) 3=some c.2.2.2.1:=rfl
theorem qw (c:Nd):zAt (qV c) 4=some c.2.2.2.2.1:=rfl
theorem qx (c:Nd):zE .i64 (qV c) 5=some c.2.2.2.2.2.1:=rfl
theorem qy (c:Nd):zE .i64 (qV c) 6=some c.2.2.2.2.2.2.1:=rfl
theorem qz (c:Nd):zZ (qV c) 7=some c.2.2.2.2.2.2.2.1:=rfl
theorem q7 (c:Nd):zZ (qV c) 8=some c.2.2.2.2.2.2.2.2.1:=rfl
theorem q8 (c:Nd):zE .i64 (qV c) 9=some c.2.2.2.2.2.2.2.2.2.1:=rfl
theorem qb (c:Nd):zE .i64 (qV c) 10=some c.2.2.2.2.2.2.2.2.2.2.1:=rfl
theorem qc (c:Nd):zZ (qV c) 11=some c.2.2.2.2.2.2.2.2.2.2.2.1:=rfl
theorem qd (c:Nd):zZ (qV c) 12=some c.2.2.2.2.2.2.2.2.2.2.2.2.1:=rfl
theorem qe (c:Nd):zo (qV c) 13=some ((c.2.2.2.2.2.2.2.2.2.2.2.2.2).map qAO):=rfl
def nd0:Nd:=(0,0,0,0,⟨#[]⟩,0,0,false,false,0,0,false,false,[])
def ndi (l:List Nd) (i:Int):Nd:=l.getD i.toNat nd0
def qO (l:List Nd) (i:Int):List Int:=kd (ndi l i)
def qBn (l:List Nd) (i:Int):Bool:=qCc (ndi l i)
def qAA (l:List Nd) (i:Int):Bool:=decide ((ndi l i).1=3)
def qAN (l:List Nd) (i:Int):Bool:=decide ((ndi l i).1=6)
theorem qAc {l:List Nd} {i:Int} (h:0≤i∧i<l.length):l[i.toNat]?=some (ndi l i):=by
 have:i.toNat<l.length:=by omega
 unfold ndi
 rw [List.getElem?_eq_getElem this,List.getD_eq_getElem?_getD,List.getElem?_eq_getElem this]
 rfl
theorem qER {l:List Nd} {i:Int} (h:0≤i∧i<l.length):ndi l i∈l:=List.mem_of_getElem? (qAc h)
theorem qFh {α:Type} {l:List α} {j:Nat} {k:α} (h:l[j]?=some k):(l.take (j+1)).reverse=k::(l.take j).reverse:=by
 rw [List.take_add_one,h]
 simp
theorem qFi {R:Type} {F:Int→Nat→Option R} {f:Int→R} (x:Int) (h:∀y,0≤y→y<x→Ev (F y) (f y)):∃n0,∀n,n0≤n→∀y,0≤y→y<x→F y n=some (f y):=by
 obtain ⟨n0,h0⟩:=qCC (F:=F) (f:=f) ((List.range x.toNat).map fun (i:Nat)=>(i:Int)) (fun c hc=>by
  obtain ⟨i,hi,rfl⟩:=List.mem_map.1 hc
  have:=List.mem_range.1 hi
  exact h _ (Int.natCast_nonneg i) (by omega))
 refine ⟨n0,fun n hn y h1 h2=>h0 n hn y (List.mem_map.2 ⟨y.toNat,List.mem_range.2 (by omega),by omega⟩)⟩
theorem qFM (l:List Nd) (x1:Int) (f n:Nat) (hx:0≤x1∧x1<l.length) (hl:l.length≤140737488351232) (hk:(kd (ndi l x1)).length≤140737488351232)
  (hrec:∀y:Int,0≤y→y<x1→qY n (l.map qV) y=some (qAU (qO l) f y)):
  ∀(j M:Nat) (s:Int),j≤(kd (ndi l x1)).length→j+1≤M→-1≤s→s<x1→
   (∃x,zK (qg (qY n) n) M (l.map qV,x1,s,(j:Int)-1)=some (.inr x)∧goT (qAU (qO l) f) ((qO l x1).take j).reverse s=x+1∧-1≤x∧x<x1)∨
   (zK (qg (qY n) n) M (l.map qV,x1,s,(j:Int)-1)=some (.inl (-1))∧goT (qAU (qO l) f) ((qO l x1).take j).reverse s= -1)
 |0,0,s,h1,h2,h3,h4=>by omega
 |0,M+1,s,h1,h2,h3,h4=>by
  refine .inl ⟨s,?_,by simp [goT],h3,h4⟩
  rw [qN (r:= .inr s) (by simp [-getElem?_pos,qg,qA,qC,qF,qG,qH,qJ,Option.bind_some,qD,qE,qK])]
 |j+1,0,s,h1,h2,h3,h4=>by omega
 |j+1,M+1,s,h1,h2,h3,h4=>by
  have hc:=qAc hx
  have hj:j<(kd (ndi l x1)).length:=by omega
  have hg:(qO l x1)[j]?=some (qO l x1)[j]:=List.getElem?_eq_getElem hj
  have ih:=qFM l x1 f n hx hl hk hrec j M
  rw [qFh hg]
  generalize (qO l x1)[j]=k at hg
  have hi:(((j+1:Nat):Int)-1)=(j:Int):=by omega
  rw [hi,goT]
  have hg':(ndi l x1).2.2.2.2.2.2.2.2.2.2.2.2.2[j]?=some k:=hg
  have hj':j<(ndi l x1).2.2.2.2.2.2.2.2.2.2.2.2.2.length:=hj
  by_cases hs:s<0
  ·refine .inr ⟨?_,by rw [if_pos (.inl hs)]⟩
   rw [qN (r:= .inl (-1)) (by simp [-getElem?_pos,qg,qA,qC,qF,qG,qH,qJ,Option.bind_some,qD,qE,qK,hs])]
  ·by_cases hks:k=s
   ·subst hks
    have hr:=hrec k (by omega) h4
    by_cases ht:qAU (qO l) f k<0
    ·refine .inr ⟨?_,by rw [if_neg (by omega),if_pos ht]⟩
     rw [qN (r:= .inl (-1)) (by simp [-getElem?_pos,qg,qA,qC,qF,qG,qH,qJ,Option.bind_some,qD,qE,qK,hs,hc,hx,qo,qp,qq,qr,qt,qu,qv,qw,qx,qy,qz,q7,q8,qb,qc,qd,qe,hg',hj',hr,ht])]
    ·have hle:=qE1 (qO l) f k (by omega)
     have hw:IntKind.i64.wrap (qAU (qO l) f k-1)=qAU (qO l) f k-1:=qU (by omega)
     have hw2:IntKind.i64.wrap ((j:Int)-1)=(j:Int)-1:=qU (by omega)
     rw [if_neg (by omega),if_neg ht]
     rw [qj (v':=(l.map qV,x1,qAU (qO l) f k-1,(j:Int)-1)) (by simp [-getElem?_pos,qg,qA,qC,qF,qG,qH,qJ,Option.bind_some,qD,qE,qK,hs,hc,hx,qo,qp,qq,qr,qt,qu,qv,qw,qx,qy,qz,q7,q8,qb,qc,qd,qe,hg',hj',hr,ht,hw,hw2])]
     exact ih _ (by omega) (by omega) (by omega) (by omega)
   ·refine .inr ⟨?_,by rw [if_pos (.inr hks)]⟩
    rw [qN (r:= .inl (-1)) (by simp [-getElem?_pos,qg,qA,qC,qF,qG,qH,qJ,Option.bind_some,qD,qE,qK,hs,hc,hx,qo,qp,qq,qr,qt,qu,qv,qw,qx,qy,qz,q7,q8,qb,qc,qd,qe,hg',hj',hks])]
theorem qCe (l:List Nd) (hl:l.length≤140737488351232) (hk:∀c∈l,(kd c).length≤140737488351232):∀(f:Nat) (x:Int),0≤x→x<l.length→x<f→Ev (qY · (l.map qV) x) (qAU (qO l) f x)
 |0,x,h0,h1,h2=>by omega
 |f+1,x,h0,h1,h2=>by
  obtain ⟨n0,hn0⟩:=qFi (F:=fun y n=>qY n (l.map qV) y) (f:=fun y=>qAU (qO l) f y) x (fun y h3 h4=>qCe l hl hk f y h3 (by omega) (by omega))
  refine ⟨n0+(kd (ndi l x)).length+5,fun n hn=>?_⟩
  obtain ⟨m,rfl,hm⟩:=up1 hn
  have hc:=qAc (l:=l) (i:=x) ⟨h0,h1⟩
  have hkx:=hk _ (qER (l:=l) ⟨h0,h1⟩)
  have hw:IntKind.i64.wrap (x-1)=x-1:=qU (by omega)
  have hw2:IntKind.i64.wrap (((kd (ndi l x)).length:Int)-1)=((kd (ndi l x)).length:Int)-1:=qU (by omega)
  have h:=qFM l x f m ⟨h0,h1⟩ hl hkx (hn0 m (by omega)) (kd (ndi l x)).length m (x-1) (Nat.le_refl _) (by omega) (by omega) (by omega)
  have e:(qO l x).take (kd (ndi l x)).length=qO l x:=List.take_length
  rw [e] at h
  rw [show qAU (qO l) (f+1) x=goT (qAU (qO l) f) (qO l x).reverse (x-1) from rfl]
  unfold kd at h hw2
  dsimp only
  simp only [qY,qBw,qA,qC,qF,qG,qH,qJ,Option.bind_some,qD,qE,qK]
  rcases h with ⟨y,g1,g2,g3,g4⟩|⟨g1,g2⟩
  ·have hw3:IntKind.i64.wrap (y+1)=y+1:=qU (by omega)
   rw [g2]
   simp [-getElem?_pos,qA,qC,qF,qG,qH,qJ,Option.bind_some,qD,qE,qK,hc,h0,h1,qo,qp,qq,qr,qt,qu,qv,qw,qx,qy,qz,q7,q8,qb,qc,qd,qe,hw,hw2,g1,hw3]
  ·rw [g2]
   simp [-getElem?_pos,qA,qC,qF,qG,qH,qJ,Option.bind_some,qD,qE,qK,hc,h0,h1,qo,qp,qq,qr,qt,qu,qv,qw,qx,qy,qz,q7,q8,qb,qc,qd,qe,hw,hw2,g1]
theorem qDo (kids:Int→List Int):∀(f:Nat) (n:Int),0≤qn kids f n∧qn kids f n≤f
 |0,n=>by rw [qn];omega
 |f+1,n=>by
  have:∀l:List Int,0≤qCd (l.map fun k=>qn kids f k)∧qCd (l.map fun k=>qn kids f k)≤f:=by
   intro l
   induction l with
   |nil=>exact ⟨Int.le_refl 0,Int.natCast_nonneg f⟩
   |cons a r ih=>have:=qDo kids f a;simp only [List.map_cons,qCd];omega
  have:=this (kids n)
  rw [qn]
  omega
theorem qFN (l:List Nd) (x1:Int) (f n:Nat) (hx:0≤x1∧x1<l.length) (hf:f≤1000) (hk:(kd (ndi l x1)).length≤140737488351232)
  (hrec:∀k∈qO l x1,qZ n (l.map qV) k=some (qn (qO l) f k)):
  ∀(m i M:Nat) (a:Int),(kd (ndi l x1)).length=i+m→m+1≤M→0≤a→
   zK (qAV (qZ n) n) M (l.map qV,x1,a,(i:Int))=some (max a (qCd (((qO l x1).drop i).map fun k=>qn (qO l) f k)))
 |m,i,0,a,h1,h2,h3=>by omega
 |0,i,M+1,a,h1,h2,h3=>by
  have hc:=qAc hx
  have hi:¬i<(ndi l x1).2.2.2.2.2.2.2.2.2.2.2.2.2.length:=by unfold kd at h1;omega
  rw [qN (r:=a) (by simp [-getElem?_pos,qAV,qA,qC,qF,qG,qH,qJ,Option.bind_some,qD,qE,qK,hc,hx,qo,qp,qq,qr,qt,qu,qv,qw,qx,qy,qz,q7,q8,qb,qc,qd,qe,hi])]
  rw [List.drop_eq_nil_of_le (by unfold qO;omega)]
  simp only [List.map_nil,qCd]
  congr 1
  omega
 |m+1,i,M+1,a,h1,h2,h3=>by
  have hc:=qAc hx
  have hj:i<(kd (ndi l x1)).length:=by omega
  have hg:(qO l x1)[i]?=some (qO l x1)[i]:=List.getElem?_eq_getElem hj
  rw [qCh hg]
  have hr:=hrec _ (List.mem_of_getElem? hg)
  generalize (qO l x1)[i]=k at hg hr
  have hg':(ndi l x1).2.2.2.2.2.2.2.2.2.2.2.2.2[i]?=some k:=hg
  have hj':i<(ndi l x1).2.2.2.2.2.2.2.2.2.2.2.2.2.length:=hj
  have hj'':(i:Int)<((ndi l x1).2.2.2.2.2.2.2.2.2.2.2.2.2.length:Int):=by omega
  have hw:IntKind.i64.wrap ((i:Int)+1)=((i+1:Nat):Int):=by rw [qU (by omega)];omega
  have hd:=qDo (qO l) f k
  rw [qj (v':=(l.map qV,x1,(if qn (qO l) f k>a then qn (qO l) f k else a),((i+1:Nat):Int))) (by simp [-getElem?_pos,qAV,qA,qC,qF,qG,qH,qJ,Option.bind_some,qD,qE,qK,hc,hx,qo,qp,qq,qr,qt,qu,qv,qw,qx,qy,qz,q7,q8,qb,qc,qd,qe,hg',hj',hr,hw])]
  rw [qFN l x1 f n hx hf hk hrec m (i+1) M _ (by omega) (by omega) (by split<;>omega)]
  simp only [List.map_cons,qCd]
  congr 1
  split<;>omega
theorem qCf (l:List Nd) (hl:l.length≤60) (hk:∀c∈l,(kd c).length≤140737488351232) (hin:∀i:Int,0≤i→i<l.length→qBm (qAA l) (qAN l) (qO l) i):∀(f:Nat) (x:Int),f≤1000→0≤x→x<l.length→x<f→Ev (qZ · (l.map qV) x) (qn (qO l) f x)
 |0,x,hf,h0,h1,h2=>by omega
 |f+1,x,hf,h0,h1,h2=>by
  obtain ⟨n0,hn0⟩:=qCC (F:=fun y n=>qZ n (l.map qV) y) (f:=fun y=>qn (qO l) f y) (qO l x) (fun y hy=>by
   have:=hin x h0 h1 y hy
   exact qCf l hl hk hin f y (by omega) (by omega) (by omega) (by omega))
  refine ⟨n0+(kd (ndi l x)).length+5,fun n hn=>?_⟩
  obtain ⟨m,rfl,hm⟩:=up1 hn
  have h:=qFN l x f m ⟨h0,h1⟩ (by omega) (hk _ (qER (l:=l) ⟨h0,h1⟩)) (hn0 m (by omega)) (kd (ndi l x)).length 0 m 0 (by omega) (by omega) (by omega)
  have hd:=qDo (qO l) (f+1) x
  have e:max 0 (qCd ((qO l x).map fun k=>qn (qO l) f k))+1=qn (qO l) (f+1) x:=by
   rw [qn]
   have:∀q:List Int,0≤qCd q:=by
    intro q
    induction q with
    |nil=>exact Int.le_refl 0
    |cons a r ih=>simp only [qCd];omega
   have:=this ((qO l x).map fun k=>qn (qO l) f k)
   omega
  rw [List.drop_zero] at h
  simp only [Int.natCast_zero] at h
  have hw:IntKind.i64.wrap (max 0 (qCd ((qO l x).map fun k=>qn (qO l) f k))+1)=qn (qO l) (f+1) x:=by rw [e,qU (by omega)]
  simp only [qZ,qBy,qA,qC,qF,qG,qH,qJ,Option.bind_some,qD,qE,qK,h,hw]
def inB (l:List Nd) (i:Int):Bool:=(qO l i).all fun k=>decide (0≤k∧k≤i-1)&&!(qAA l k&&!qAN l i)
theorem qFv {l:List Nd} {i:Int}:inB l i=true↔qBm (qAA l) (qAN l) (qO l) i:=by
 unfold inB qBm
 rw [List.all_eq_true]
 refine forall_congr' fun k=>forall_congr' fun hk=>?_
 cases qAA l k<;>cases qAN l i<;>simp
theorem qFW (l:List Nd) (x1:Int) (n:Nat) (hx:0≤x1∧x1<l.length) (hl:l.length≤60) (hk:(kd (ndi l x1)).length≤140737488351232):
  ∀(m i M:Nat),(kd (ndi l x1)).length=i+m→m+1≤M→
   zK (qW (n+1)) M (l.map qV,x1,(i:Int))=some (if ((qO l x1).drop i).all (fun k=>decide (0≤k∧k≤x1-1)&&!(qAA l k&&!qAN l x1))=true then .inr (l.map qV,x1) else .inl false)
 |m,i,0,h1,h2=>by omega
 |0,i,M+1,h1,h2=>by
  have hc:=qAc hx
  have hi:¬i<(ndi l x1).2.2.2.2.2.2.2.2.2.2.2.2.2.length:=by unfold kd at h1;omega
  rw [qN (r:= .inr (l.map qV,x1)) (by simp [-getElem?_pos,qW,qA,qC,qF,qG,qH,qJ,Option.bind_some,qD,qE,qK,hc,hx,qo,qp,qq,qr,qt,qu,qv,qw,qx,qy,qz,q7,q8,qb,qc,qd,qe,hi])]
  rw [List.drop_eq_nil_of_le (by unfold qO;omega)]
  rfl
 |m+1,i,M+1,h1,h2=>by
  have hc:=qAc hx
  have hj:i<(kd (ndi l x1)).length:=by omega
  have hg:(qO l x1)[i]?=some (qO l x1)[i]:=List.getElem?_eq_getElem hj
  rw [qCh hg]
  generalize (qO l x1)[i]=k at hg
  have hg':(ndi l x1).2.2.2.2.2.2.2.2.2.2.2.2.2[i]?=some k:=hg
  have hj':i<(ndi l x1).2.2.2.2.2.2.2.2.2.2.2.2.2.length:=hj
  have hw:IntKind.i64.wrap ((i:Int)+1)=((i+1:Nat):Int):=by rw [qU (by omega)];omega
  have hw2:IntKind.i64.wrap (x1-1)=x1-1:=qU (by omega)
  have hin:q9 (n+1) k 0 (x1-1)=some (decide (0≤k∧k≤x1-1)):=by
   simp only [q9,qBp,qA,qC,qF,qG,qH,qJ,Option.bind_some,qD,qE,qK]
   by_cases h:k≥0<;>simp [h]
  rw [List.all_cons]
  by_cases hr:0≤k∧k≤x1-1
  ·have hck:=qAc (l:=l) (i:=k) ⟨hr.1,by omega⟩
   have hkl:k<(l.length:Int):=by omega
   by_cases ha:(ndi l k).1=3
   ·by_cases hcl:(ndi l x1).1=6
    ·rw [qj (v':=(l.map qV,x1,((i+1:Nat):Int))) (by simp [-getElem?_pos,qW,qA,qC,qF,qG,qH,qJ,Option.bind_some,qD,qE,qK,hc,hx,qo,qp,qq,qr,qt,qu,qv,qw,qx,qy,qz,q7,q8,qb,qc,qd,qe,hg',hj',hw,hw2,hin,hr,hck,hkl,ha,hcl])]
     rw [qFW l x1 n hx hl hk m (i+1) M (by omega) (by omega)]
     simp [hr,qAA,qAN,ha,hcl]
    ·rw [qN (r:= .inl false) (by simp [-getElem?_pos,qW,qA,qC,qF,qG,qH,qJ,Option.bind_some,qD,qE,qK,hc,hx,qo,qp,qq,qr,qt,qu,qv,qw,qx,qy,qz,q7,q8,qb,qc,qd,qe,hg',hj',hw,hw2,hin,hr,hck,hkl,ha,hcl])]
     simp [hr,qAA,qAN,ha,hcl]
   ·rw [qj (v':=(l.map qV,x1,((i+1:Nat):Int))) (by simp [-getElem?_pos,qW,qA,qC,qF,qG,qH,qJ,Option.bind_some,qD,qE,qK,hc,hx,qo,qp,qq,qr,qt,qu,qv,qw,qx,qy,qz,q7,q8,qb,qc,qd,qe,hg',hj',hw,hw2,hin,hr,hck,hkl,ha])]
    rw [qFW l x1 n hx hl hk m (i+1) M (by omega) (by omega)]
    simp [hr,qAA,qAN,ha]
  ·rw [qN (r:= .inl false) (by simp [-getElem?_pos,qW,qA,qC,qF,qG,qH,qJ,Option.bind_some,qD,qE,qK,hc,hx,qo,qp,qq,qr,qt,qu,qv,qw,qx,qy,qz,q7,q8,qb,qc,qd,qe,hg',hj',hw2,hin,hr])]
   simp [hr]
def qBH (l:List Nd) (i m:Nat):Bool:=(List.range' i m).all fun (i:Nat)=>qBn l (i:Int)&&inB l (i:Int)
theorem qCg {l:List Nd}:qBH l 0 l.length=true↔∀i:Int,0≤i→i<l.length→qBn l i=true∧qBm (qAA l) (qAN l) (qO l) i:=by
 unfold qBH
 rw [List.all_eq_true]
 constructor
 ·intro h i h0 h1
  have:=h i.toNat (by rw [List.mem_range'];exact ⟨i.toNat,by omega,by omega⟩)
  rw [show ((i.toNat:Nat):Int)=i by omega,Bool.and_eq_true,qFv] at this
  exact this
 ·intro h i hi
  rw [List.mem_range'] at hi
  obtain ⟨j,hj,rfl⟩:=hi
  rw [Bool.and_eq_true,qFv]
  exact h _ (by omega) (by omega)
theorem qFw (l:List Nd) (n:Nat) (hl:l.length≤60) (hk:∀c∈l,(kd c).length≤140737488351232) (hn:∀c∈l,(kd c).length+2≤n)
  (hok:∀c∈l,qAP n c.1 c.2.1 c.2.2.1 c.2.2.2.1 c.2.2.2.2.1 c.2.2.2.2.2.1 c.2.2.2.2.2.2.1 c.2.2.2.2.2.2.2.1 c.2.2.2.2.2.2.2.2.1 c.2.2.2.2.2.2.2.2.2.1 c.2.2.2.2.2.2.2.2.2.2.1 c.2.2.2.2.2.2.2.2.2.2.2.1 c.2.2.2.2.2.2.2.2.2.2.2.2.1 ((c.2.2.2.2.2.2.2.2.2.2.2.2.2).map qAO)=some (qCc c)):
  ∀(m i M:Nat),l.length=i+m→m+1≤M→
   zK (qh n) M (l.map qV,(i:Int))=some (if qBH l i m=true then .inr (l.map qV) else .inl false)
 |m,i,0,h1,h2=>by omega
 |0,i,M+1,h1,h2=>by
  have hi:¬(i:Int)<(l.length:Int):=by omega
  rw [qN (r:= .inr (l.map qV)) (by simp [-getElem?_pos,qh,qA,qC,qF,qG,qH,qJ,Option.bind_some,qD,qE,qK,hi])]
  rfl
 |m+1,i,M+1,h1,h2=>by
  have hi:(i:Int)<(l.length:Int):=by omega
  have hx:0≤(i:Int)∧(i:Int)<l.length:=⟨by omega,hi⟩
  have hc:=qAc hx
  have hm:=qER hx
  have ho:=hok _ hm
  have hw:IntKind.i64.wrap ((i:Int)+1)=((i+1:Nat):Int):=by rw [qU (by omega)];omega
  have hnn:=hn _ hm
  obtain ⟨q,rfl⟩:∃q,n=q+1:=⟨n-1,by omega⟩
  have hlp:=qFW l i q hx hl (hk _ hm) (kd (ndi l i)).length 0 (q+1) (by omega) (by omega)
  rw [List.drop_zero,show ((qO l (i:Int)).all fun k=>decide (0≤k∧k≤(i:Int)-1)&&!(qAA l k&&!qAN l (i:Int)))=inB l i from rfl] at hlp
  simp only [Int.natCast_zero] at hlp
  have e:qBH l i (m+1)=(qBn l i&&inB l i&&qBH l (i+1) m):=by unfold qBH;rw [List.range'_succ,List.all_cons]
  rw [e]
  rw [Int.toNat_natCast] at hc
  cases hnb:qCc (ndi l i) with
  |false=>
   rw [hnb] at ho
   rw [qN (r:= .inl false) (by simp [-getElem?_pos,qh,qA,qC,qF,qG,qH,qJ,Option.bind_some,qD,qE,qK,hi,hc,qo,qp,qq,qr,qt,qu,qv,qw,qx,qy,qz,q7,q8,qb,qc,qd,qe,ho])]
   simp [qBn,hnb]
  |true=>
   rw [hnb] at ho
   cases hib:inB l i with
   |false=>
    rw [hib] at hlp
    rw [qN (r:= .inl false) (by simp [-getElem?_pos,qh,qA,qC,qF,qG,qH,qJ,Option.bind_some,qD,qE,qK,hi,hc,qo,qp,qq,qr,qt,qu,qv,qw,qx,qy,qz,q7,q8,qb,qc,qd,qe,ho,hlp])]
    simp
   |true=>
    rw [hib] at hlp
    rw [qj (v':=(l.map qV,((i+1:Nat):Int))) (by simp [-getElem?_pos,qh,qA,qC,qF,qG,qH,qJ,Option.bind_some,qD,qE,qK,hi,hc,qo,qp,qq,qr,qt,qu,qv,qw,qx,qy,qz,q7,q8,qb,qc,qd,qe,ho,hlp,hw])]
    rw [qFw l (q+1) hl hk hn hok m (i+1) M (by omega) (by omega)]
    simp [qBn,hnb]
def qCK (l:List Nd):Bool:=decide (1≤l.length∧l.length≤60)&&(qBH l 0 l.length&&(decide (qAU (qO l) l.length ((l.length:Int)-1)=0)&&(!qAA l ((l.length:Int)-1)&&decide (qn (qO l) l.length ((l.length:Int)-1)≤12))))
theorem qDL (l:List Nd) (hk:∀c∈l,(kd c).length≤140737488351232∧c.2.2.2.2.1.size≤140737488351232):Ev (qAG · (l.map qV)) (qCK l):=by
 by_cases h1:1≤l.length
 ·by_cases h60:l.length≤60
  ·have hk1:∀c∈l,(kd c).length≤140737488351232:=fun c hc=>(hk c hc).1
   obtain ⟨n1,g1⟩:=qCC (F:=fun (c:Nd) n=>qAP n c.1 c.2.1 c.2.2.1 c.2.2.2.1 c.2.2.2.2.1 c.2.2.2.2.2.1 c.2.2.2.2.2.2.1 c.2.2.2.2.2.2.2.1 c.2.2.2.2.2.2.2.2.1 c.2.2.2.2.2.2.2.2.2.1 c.2.2.2.2.2.2.2.2.2.2.1 c.2.2.2.2.2.2.2.2.2.2.2.1 c.2.2.2.2.2.2.2.2.2.2.2.2.1 ((c.2.2.2.2.2.2.2.2.2.2.2.2.2).map qAO)) (f:=qCc) l (fun c hc=>qDm c (hk c hc).2)
   obtain ⟨n2,g2⟩:=qCC (F:=fun (c:Nd) n=>if (kd c).length+2≤n then some () else none) (f:=fun _=>()) l (fun c hc=>⟨(kd c).length+2,fun n hn=>if_pos hn⟩)
   obtain ⟨n3,g3⟩:=qCe l (by omega) hk1 l.length ((l.length:Int)-1) (by omega) (by omega) (by omega)
   obtain ⟨n4,g4⟩:∃n0,qBH l 0 l.length=true→∀n,n0≤n→qZ n (l.map qV) ((l.length:Int)-1)=some (qn (qO l) l.length ((l.length:Int)-1)):=by
    by_cases ho:qBH l 0 l.length=true
    ·obtain ⟨n4,g4⟩:=qCf l h60 hk1 (fun (i:Int) h0 h1=>(qCg.1 ho i h0 h1).2) l.length ((l.length:Int)-1) (by omega) (by omega) (by omega) (by omega)
     exact ⟨n4,fun _=>g4⟩
    ·exact ⟨0,fun h=>absurd h ho⟩
   refine ⟨n1+n2+n3+n4+l.length+5,fun n hn=>?_⟩
   obtain ⟨m,rfl,hm⟩:=up1 hn
   have hlp:=qFw l m h60 hk1 (fun c hc=>by
    have:=g2 m (by omega) c hc
    split at this
    ·assumption
    ·cases this) (g1 m (by omega)) l.length 0 m (by omega) (by omega)
   have g3:=g3 m (by omega)
   dsimp only at g3
   simp only [Int.natCast_zero] at hlp
   have hw:IntKind.i64.wrap ((l.length:Int)-1)=(l.length:Int)-1:=qU (by omega)
   have hx:0≤(l.length:Int)-1∧(l.length:Int)-1<l.length:=by omega
   have hc:=qAc hx
   have a1:¬(l.length:Int)<1:=by omega
   have a2:¬(l.length:Int)>60:=by omega
   generalize hxe:(l.length:Int)-1=x at hw hx hc g3 g4⊢
   simp only [qAG,qAW,qA,qC,qF,qG,qH,qJ,Option.bind_some,qD,qE,qK,List.length_map,decide_eq_true_eq,a1,a2,if_false,hlp]
   unfold qCK
   rw [hxe]
   cases ho:qBH l 0 l.length with
   |false=>simp [qA,qC,qF,qG,qH,qJ,Option.bind_some,qD,qE,qK]
   |true=>
    have g4:=g4 ho m (by omega)
    simp only [if_true,qA,qC,qF,qG,qH,qJ,Option.bind_some,qD,qE,qK,List.length_map,hxe,hw,g3]
    by_cases ht:qAU (qO l) l.length x=0
    ·by_cases ha:(ndi l x).1=3
     ·simp [-getElem?_pos,qA,qC,qF,qG,qH,qJ,Option.bind_some,qD,qE,qK,ht,hx,hc,qo,qp,qq,qr,qt,qu,qv,qw,qx,qy,qz,q7,q8,qb,qc,qd,qe,ha,qAA]
     ·simp [-getElem?_pos,qA,qC,qF,qG,qH,qJ,Option.bind_some,qD,qE,qK,ht,hx,hc,qo,qp,qq,qr,qt,qu,qv,qw,qx,qy,qz,q7,q8,qb,qc,qd,qe,ha,qAA,g4,h1,h60]
    ·simp [-getElem?_pos,qA,qC,qF,qG,qH,qJ,Option.bind_some,qD,qE,qK,ht]
  ·refine ⟨1,fun n hn=>?_⟩
   obtain ⟨m,rfl,hm⟩:=up1 (n0:=0) hn
   have a1:¬(l.length:Int)<1:=by omega
   have a2:(l.length:Int)>60:=by omega
   simp [-getElem?_pos,qAG,qAW,qA,qC,qF,qG,qH,qJ,Option.bind_some,qD,qE,qK,a1,a2,qCK,h60]
 ·refine ⟨1,fun n hn=>?_⟩
  obtain ⟨m,rfl,hm⟩:=up1 (n0:=0) hn
  have a1:(l.length:Int)<1:=by omega
  simp [-getElem?_pos,qAG,qAW,qA,qC,qF,qG,qH,qJ,Option.bind_some,qD,qE,qK,a1,qCK,h1]
theorem qFO (l:List Nd) (x1 d:Int) (f n:Nat) (hx:0≤x1∧x1<l.length) (hl:l.length≤140737488351232) (hd:0≤d∧d≤1000) (hk:(kd (ndi l x1)).length≤140737488351232)
  (hrec:∀y:Int,0≤y→y<x1→qX n (l.map qV) y (d+1)=some (qAT (qBn l) (qAA l) (qAN l) (qO l) f y)):
  ∀(j M:Nat) (s:Int),j≤(kd (ndi l x1)).length→j+1≤M→0≤s→s≤x1→
   zK (qT (qX n) n) M (l.map qV,x1,d,s,(j:Int)-1)=some (.inr (goF (qAA l) (qAN l) (qAT (qBn l) (qAA l) (qAN l) (qO l) f) x1 ((qO l x1).take j).reverse s))∨
   (zK (qT (qX n) n) M (l.map qV,x1,d,s,(j:Int)-1)=some (.inl (-1))∧goF (qAA l) (qAN l) (qAT (qBn l) (qAA l) (qAN l) (qO l) f) x1 ((qO l x1).take j).reverse s= -1)
 |0,0,s,h1,h2,h3,h4=>by omega
 |0,M+1,s,h1,h2,h3,h4=>by
  refine .inl ?_
  rw [qN (r:= .inr s) (by simp [-getElem?_pos,qT,qA,qC,qF,qG,qH,qJ,Option.bind_some,qD,qE,qK])]
  simp [goF]
 |j+1,0,s,h1,h2,h3,h4=>by omega
 |j+1,M+1,s,h1,h2,h3,h4=>by
  have hc:=qAc hx
  have hj:j<(kd (ndi l x1)).length:=by omega
  have hg:(qO l x1)[j]?=some (qO l x1)[j]:=List.getElem?_eq_getElem hj
  have ih:=qFO l x1 d f n hx hl hd hk hrec j M
  rw [qFh hg]
  generalize (qO l x1)[j]=k at hg
  have hi:(((j+1:Nat):Int)-1)=(j:Int):=by omega
  rw [hi,goF]
  have hg':(ndi l x1).2.2.2.2.2.2.2.2.2.2.2.2.2[j]?=some k:=hg
  have hj':j<(ndi l x1).2.2.2.2.2.2.2.2.2.2.2.2.2.length:=hj
  have hws:IntKind.i64.wrap (s-1)=s-1:=qU (by omega)
  by_cases hks:k=s-1
  ·by_cases hk0:k<0
   ·refine .inr ⟨?_,by rw [if_pos (.inr (.inl hk0))]⟩
    rw [qN (r:= .inl (-1)) (by simp [-getElem?_pos,qT,qA,qC,qF,qG,qH,qJ,Option.bind_some,qD,qE,qK,hc,hx,qo,qp,qq,qr,qt,qu,qv,qw,qx,qy,qz,q7,q8,qb,qc,qd,qe,hg',hj',hks,hws,show s-1<0 by omega])]
   ·have hws':IntKind.i64.wrap (s-1)=k:=by rw [hws,hks]
    have hkx:0≤k∧k<l.length:=by omega
    have hck:=qAc hkx
    by_cases hac:qAA l k=true∧qAN l x1=false
    ·have ha:(ndi l k).1=3:=by simpa [qAA] using hac.1
     have hb:¬(ndi l x1).1=6:=by simpa [qAN] using hac.2
     refine .inr ⟨?_,by rw [if_pos (.inr (.inr hac))]⟩
     rw [qN (r:= .inl (-1)) (by simp [-getElem?_pos,qT,qA,qC,qF,qG,qH,qJ,Option.bind_some,qD,qE,qK,hc,hx,qo,qp,qq,qr,qt,qu,qv,qw,qx,qy,qz,q7,q8,qb,qc,qd,qe,hg',hj',hws',hk0,hck,hkx,ha,hb])]
    ·have hr:=hrec k (by omega) (by omega)
     have hwd:IntKind.i64.wrap (d+1)=d+1:=qU (by omega)
     have hw2:IntKind.i64.wrap ((j:Int)-1)=(j:Int)-1:=qU (by omega)
     have hno:¬(k≠s-1∨k<0∨(qAA l k=true∧qAN l x1=false)):=fun h=>by
      rcases h with h|h|h
      ·exact h hks
      ·exact hk0 h
      ·exact hac h
     have hcase:¬(ndi l k).1=3∨((ndi l k).1=3∧(ndi l x1).1=6):=by
      by_cases ha:(ndi l k).1=3
      ·refine .inr ⟨ha,?_⟩
       refine Decidable.byContradiction fun hb=>hac ⟨by simp [qAA,ha],by simp [qAN,hb]⟩
      ·exact .inl ha
     rw [if_neg hno]
     by_cases ht:qAT (qBn l) (qAA l) (qAN l) (qO l) f k<0
     ·refine .inr ⟨?_,by rw [if_pos ht]⟩
      rcases hcase with ha|⟨ha,hb⟩
      ·rw [qN (r:= .inl (-1)) (by simp [-getElem?_pos,qT,qA,qC,qF,qG,qH,qJ,Option.bind_some,qD,qE,qK,hc,hx,qo,qp,qq,qr,qt,qu,qv,qw,qx,qy,qz,q7,q8,qb,qc,qd,qe,hg',hj',hws',hk0,hck,hkx,ha,hwd,hr,ht])]
      ·rw [qN (r:= .inl (-1)) (by simp [-getElem?_pos,qT,qA,qC,qF,qG,qH,qJ,Option.bind_some,qD,qE,qK,hc,hx,qo,qp,qq,qr,qt,qu,qv,qw,qx,qy,qz,q7,q8,qb,qc,qd,qe,hg',hj',hws',hk0,hck,hkx,ha,hb,hwd,hr,ht])]
     ·rw [if_neg ht]
      have hb1:=(qFV (qBn l) (qAA l) (qAN l) (qO l) f (k.toNat+1) k (by omega) (by omega) (by omega)).1
      have hstep:zK (qT (qX n) n) (M+1) (l.map qV,x1,d,s,(j:Int))=zK (qT (qX n) n) M (l.map qV,x1,d,qAT (qBn l) (qAA l) (qAN l) (qO l) f k,(j:Int)-1):=by
       rcases hcase with ha|⟨ha,hb⟩
       ·rw [qj (v':=(l.map qV,x1,d,qAT (qBn l) (qAA l) (qAN l) (qO l) f k,(j:Int)-1)) (by simp [-getElem?_pos,qT,qA,qC,qF,qG,qH,qJ,Option.bind_some,qD,qE,qK,hc,hx,qo,qp,qq,qr,qt,qu,qv,qw,qx,qy,qz,q7,q8,qb,qc,qd,qe,hg',hj',hws',hk0,hck,hkx,ha,hwd,hr,ht,hw2])]
       ·rw [qj (v':=(l.map qV,x1,d,qAT (qBn l) (qAA l) (qAN l) (qO l) f k,(j:Int)-1)) (by simp [-getElem?_pos,qT,qA,qC,qF,qG,qH,qJ,Option.bind_some,qD,qE,qK,hc,hx,qo,qp,qq,qr,qt,qu,qv,qw,qx,qy,qz,q7,q8,qb,qc,qd,qe,hg',hj',hws',hk0,hck,hkx,ha,hb,hwd,hr,ht,hw2])]
      rw [hstep]
      exact ih _ (by omega) (by omega) (by omega) (by omega)
  ·refine .inr ⟨?_,by rw [if_pos (.inl hks)]⟩
   rw [qN (r:= .inl (-1)) (by simp [-getElem?_pos,qT,qA,qC,qF,qG,qH,qJ,Option.bind_some,qD,qE,qK,hc,hx,qo,qp,qq,qr,qt,qu,qv,qw,qx,qy,qz,q7,q8,qb,qc,qd,qe,hg',hj',hws,hks])]
theorem qDM (l:List Nd) (hl:l.length≤140737488351232) (hk:∀c∈l,(kd c).length≤140737488351232∧c.2.2.2.2.1.size≤140737488351232):∀(f:Nat) (x d:Int),x<l.length→d=12-f→0≤d→Ev (qX · (l.map qV) x d) (qAT (qBn l) (qAA l) (qAN l) (qO l) f x)
 |0,x,d,h1,h2,h3=>by
  refine ⟨1,fun n hn=>?_⟩
  obtain ⟨m,rfl,hm⟩:=up1 (n0:=0) hn
  have a:d≥12:=by omega
  by_cases h:x<0<;>simp [-getElem?_pos,qX,qBI,qA,qC,qF,qG,qH,qJ,Option.bind_some,qD,qE,qK,h,a,qAT]
 |f+1,x,d,h1,h2,h3=>by
  by_cases h0:x<0
  ·refine ⟨1,fun n hn=>?_⟩
   obtain ⟨m,rfl,hm⟩:=up1 (n0:=0) hn
   simp [-getElem?_pos,qX,qBI,qA,qC,qF,qG,qH,qJ,Option.bind_some,qD,qE,qK,h0,qAT]
  ·have hx:0≤x∧x<l.length:=by omega
   have hc:=qAc hx
   have hm':=qER hx
   obtain ⟨n0,hn0⟩:=qFi (F:=fun y n=>qX n (l.map qV) y (d+1)) (f:=fun y=>qAT (qBn l) (qAA l) (qAN l) (qO l) f y) x (fun y h3 h4=>qDM l hl hk f y (d+1) (by omega) (by omega) (by omega))
   obtain ⟨n1,g1⟩:=qFG (ndi l x) (hk _ hm').2
   refine ⟨n0+n1+(kd (ndi l x)).length+5,fun n hn=>?_⟩
   obtain ⟨m,rfl,hm⟩:=up1 hn
   have g1:=g1 m (by omega)
   have h:=qFO l x d f m hx hl (by omega) (hk _ hm').1 (hn0 m (by omega)) (kd (ndi l x)).length m x (Nat.le_refl _) (by omega) (by omega) (by omega)
   have e:(qO l x).take (kd (ndi l x)).length=qO l x:=List.take_length
   rw [e] at h
   have hw2:IntKind.i64.wrap (((kd (ndi l x)).length:Int)-1)=((kd (ndi l x)).length:Int)-1:=by
    have:=(hk _ hm').1
    exact qU (by omega)
   have a:¬d≥12:=by omega
   unfold kd at h hw2
   dsimp only at g1⊢
   simp only [qX,qBI,qAT,qA,qC,qF,qG,qH,qJ,Option.bind_some,qD,qE,qK]
   cases hnb:qCc (ndi l x) with
   |false=>
    rw [hnb] at g1
    simp [-getElem?_pos,qA,qC,qF,qG,qH,qJ,Option.bind_some,qD,qE,qK,h0,a,hc,hx,qo,qp,qq,qr,qt,qu,qv,qw,qx,qy,qz,q7,q8,qb,qc,qd,qe,g1,qBn,hnb]
   |true=>
    rw [hnb] at g1
    rcases h with h|⟨h,h'⟩
    ·simp [-getElem?_pos,qA,qC,qF,qG,qH,qJ,Option.bind_some,qD,qE,qK,h0,a,hc,hx,qo,qp,qq,qr,qt,qu,qv,qw,qx,qy,qz,q7,q8,qb,qc,qd,qe,g1,qBn,hnb,hw2,h]
    ·simp only [h']
     simp [-getElem?_pos,qA,qC,qF,qG,qH,qJ,Option.bind_some,qD,qE,qK,h0,a,hc,hx,qo,qp,qq,qr,qt,qu,qv,qw,qx,qy,qz,q7,q8,qb,qc,qd,qe,g1,qBn,hnb,hw2,h]
theorem qF3 {l:List Nd}:qCK l=(decide (1≤l.length∧l.length≤60)&&(!qAA l ((l.length:Int)-1)&&decide (qAT (qBn l) (qAA l) (qAN l) (qO l) 12 ((l.length:Int)-1)=0))):=by
 rw [Bool.eq_iff_iff]
 unfold qCK
 simp only [Bool.and_eq_true,decide_eq_true_eq]
 constructor
 ·intro ⟨h1,h2,h3,h4,h5⟩
  refine ⟨h1,h4,?_⟩
  rw [qFu (qBn l) (qAA l) (qAN l) (qO l) 12 l.length l.length ((l.length:Int)-1) (by omega) (by omega) (by omega) (fun i i0 i1=>qCg.1 h2 i i0 (by omega)) (by omega) (by simpa using h5)]
  exact h3
 ·intro ⟨h1,h4,h5⟩
  obtain ⟨b1,b2,b3,b4⟩:=qFV (qBn l) (qAA l) (qAN l) (qO l) 12 l.length ((l.length:Int)-1) (by omega) (by omega) (by omega)
  rw [h5] at b2 b3
  refine ⟨h1,qCg.2 (fun i i0 i1=>b3 i i0 (by omega)),b2,h4,?_⟩
  have:=b4 l.length (fun i i0 i1=>(b3 i i0 i1).2) (by omega)
  simpa using this
theorem qDN (l:List Nd) (hl:l.length≤140737488351232) (hk:∀c∈l,(kd c).length≤140737488351232∧c.2.2.2.2.1.size≤140737488351232):Ev (qAH · (l.map qV)) (qCK l):=by
 rw [qF3]
 by_cases h:1≤l.length∧l.length≤60
 ·obtain ⟨n1,g1⟩:=qDM l hl hk 12 ((l.length:Int)-1) 0 (by omega) (by omega) (by omega)
  obtain ⟨n2,g2⟩:=qf (l.length:Int) 1 60
  refine ⟨n1+n2+1,fun n hn=>?_⟩
  obtain ⟨m,rfl,hm⟩:=up1 hn
  have g1:=g1 m (by omega)
  have g2:=g2 m (by omega)
  dsimp only at g1 g2⊢
  have hw:IntKind.i64.wrap ((l.length:Int)-1)=(l.length:Int)-1:=qU (by omega)
  have hx:0≤(l.length:Int)-1∧(l.length:Int)-1<l.length:=by omega
  have hc:=qAc hx
  have h':(1:Int)≤l.length∧(l.length:Int)≤60:=by omega
  generalize hxe:(l.length:Int)-1=x at hw hx hc g1⊢
  by_cases ha:(ndi l x).1=3
  ·simp [-getElem?_pos,qAH,qAX,qA,qC,qF,qG,qH,qJ,Option.bind_some,qD,qE,qK,hxe,g2,h',hw,hx,hc,qo,qp,qq,qr,qt,qu,qv,qw,qx,qy,qz,q7,q8,qb,qc,qd,qe,ha,qAA]
  ·by_cases hf:qAT (qBn l) (qAA l) (qAN l) (qO l) 12 x=0<;>simp [-getElem?_pos,qAH,qAX,qA,qC,qF,qG,qH,qJ,Option.bind_some,qD,qE,qK,hxe,g1,g2,h,h',hw,hx,hc,qo,qp,qq,qr,qt,qu,qv,qw,qx,qy,qz,q7,q8,qb,qc,qd,qe,ha,qAA,hf]
 ·obtain ⟨n2,g2⟩:=qf (l.length:Int) 1 60
  refine ⟨n2+1,fun n hn=>?_⟩
  obtain ⟨m,rfl,hm⟩:=up1 hn
  have g2:=g2 m (by omega)
  dsimp only at g2⊢
  have h':¬((1:Int)≤l.length∧(l.length:Int)≤60):=by omega
  simp [-getElem?_pos,qAH,qAX,qA,qC,qF,qG,qH,qJ,Option.bind_some,qD,qE,qK,g2,h,h']
structure Fine (l:List Nd):Prop where
 len:l.length≤60
 own:∀i:Int,0≤i→i<l.length→qBn l i=true∧qBm (qAA l) (qAN l) (qO l) i
 sz:∀c∈l,(kd c).length≤140737488351232∧c.2.2.2.2.1.size≤140737488351232
abbrev PS:=List UInt8×Bool×List Nd
inductive PJ where
 |bin (least deep:Int)
 |loop (least deep a:Int)
 |un (deep:Int)
 |at (deep:Int)
 |call (op deep:Int)
 |args (op deep:Int) (kids:List Int)
inductive SJ where
 |row (level:Int)
 |rl (level a:Int)
 |one
 |call (op:Int) (kids:List Int)
 |arg
def qGB (c:Nd):Prop:=(kd c).length≤2000∧c.2.2.2.2.1.size≤2000
structure Gd (p:PS):Prop where
 r:p.1.length≤1000
 n:p.2.2.length≤60
 s:∀x∈p.2.2,qGB x
structure Go (k:Nat) (q q':PS):Prop where
 suf:q'.1<:+q.1
 sum:q'.2.2.length+q'.1.length+k≤q.2.2.length+q.1.length
 sm:(∀x∈q.2.2,qGB x)→∀x∈q'.2.2,qGB x
theorem Go.trans {a b:Nat} {p q r:PS} (h:Go a p q) (h':Go b q r):Go (a+b) p r:=⟨h'.suf.trans h.suf,by have:=h.sum;have:=h'.sum;omega,fun e=>h'.sm (h.sm e)⟩
theorem Go.of (q:PS) {r:List UInt8} (b:Bool) {k:Nat} (h:r<:+q.1) (hk:r.length+k≤q.1.length):Go k q (r,b,q.2.2):=⟨h,by simp only;omega,id⟩
def Iv (s:List UInt8) (q:PS):Prop:=q.1<:+s∧q.2.2.length+q.1.length≤2000
theorem Iv.go {s:List UInt8} {k:Nat} {q q':PS} (h:Iv s q) (g:Go k q q'):Iv s q':=⟨g.suf.trans h.1,by have:=g.sum;have:=h.2;omega⟩
abbrev Cl:=Int×Int×ByteArray
def lo (l:List Nd) (i:Int):Int:=qAU (qO l) (i.toNat+1) i
def Dwx {β:Type} (Q:β→Prop) (R:Nat→Tr β):Prop:=∃x,Q x∧Ev (fun n=>(R n).run) x
theorem qFx {α β:Type} {Q:β→Prop} {F:Nat→Option α} {r:α} {K:Nat→α→Tr β} (h:Ev F r) (hk:Dwx Q fun n=>K n r):Dwx Q fun n=> .opt (F n) (K n):=by
 obtain ⟨x,q,n1,h1⟩:=hk
 obtain ⟨n0,h0⟩:=h
 exact ⟨x,q,n0+n1,fun n hn=>qM (h0 n (by omega)) (h1 n (by omega))⟩
theorem qGI {β:Type} {Q:β→Prop} {b:Bool} {t e:Nat→Tr β} (h:b=true) (hk:Dwx Q t):Dwx Q fun n=> .ask b (t n) (e n):=by
 obtain ⟨x,q,n1,h1⟩:=hk
 exact ⟨x,q,n1,fun n hn=>qP h (h1 n hn)⟩
theorem qGJ {β:Type} {Q:β→Prop} {b:Bool} {t e:Nat→Tr β} (h:b=false) (hk:Dwx Q e):Dwx Q fun n=> .ask b (t n) (e n):=by
 obtain ⟨x,q,n1,h1⟩:=hk
 exact ⟨x,q,n1,fun n hn=>qAS h (h1 n hn)⟩
theorem qES {β:Type} {Q:β→Prop} {x:β} (h:Q x):Dwx Q fun _=> .done x:=⟨x,h,0,fun _ _=>rfl⟩
theorem qF4 {β:Type} {Q:β→Prop} {F:Nat→Option β} {R:Nat→Tr β} (h:Dwx Q R) (hF:∀n,F (n+1)=(R n).run):∃x,Q x∧Ev F x:=by
 obtain ⟨x,q,n1,h1⟩:=h
 refine ⟨x,q,n1+1,fun n hn=>?_⟩
 obtain ⟨m,rfl,hm⟩:=up1 hn
 rw [hF]
 exact h1 m hm
theorem qF9 {β:Type} {F:Nat→Option β} {x:β} (h:∃y,y=x∧Ev F y):Ev F x:=by
 obtain ⟨y,rfl,h⟩:=h
 exact h
def qFj {α R:Type} (f:Nat→α→Option R):Nat→List α→Option R
 |_,[]=>none
 |i,a::r=>match f i a with
  |some x=>some x
  |none=>qFj f (i+1) r
theorem qGK {V R α:Type} {B:V→Tr (V⊕R)} (st:Nat→V) (l:List α) (f:Nat→α→Option R) (z:R) (hs:∀i a,l[i]?=some a→(B (st i)).run=some (match f i a with|some r=> .inr r|none=> .inl (st (i+1))))
  (he:(B (st l.length)).run=some (.inr z)):∀(M:Nat),l.length+1≤M→zK B M (st 0)=some ((qFj f 0 l).getD z):=by
 have key:∀(r:List α) (i M:Nat),l.drop i=r→i+r.length=l.length→r.length+1≤M→zK B M (st i)=some ((qFj f i r).getD z):=by
  intro r
  induction r with
  |nil=>
   intro i M h1 h2 h3
   obtain ⟨M,rfl⟩:∃q,M=q+1:=⟨M-1,by omega⟩
   have e:i=l.length:=by simpa using h2
   subst e
   rw [qN he]
   rfl
  |cons a r ih=>
   intro i M h1 h2 h3
   obtain ⟨M,rfl⟩:∃q,M=q+1:=⟨M-1,by omega⟩
   have hg:l[i]?=some a:=by rw [←List.head?_drop,h1];rfl
   have hd:l.drop (i+1)=r:=by rw [←List.tail_drop,h1];rfl
   have h4:=hs i a hg
   simp only [List.length_cons] at h2 h3
   unfold qFj
   cases hf:f i a with
   |some x=>rw [hf] at h4;rw [qN h4];rfl
   |none=>rw [hf] at h4;rw [qj h4];exact ih (i+1) M hd (by omega) (by omega)
 exact fun M h=>key l 0 M rfl (by omega) h
theorem qFo {i:Nat} {k:Int} {l:List (List PV)} {e:List PV} (hk:k=(i:Int)) (h:l[i]?=some e):decide (0≤k∧k<l.length)=true∧l[k.toNat]?=some e:=by
 subst hk
 have:=(List.getElem?_eq_some_iff.1 h).1
 exact ⟨decide_eq_true (by omega),by rw [Int.toNat_natCast];exact h⟩
abbrev Sm:=Int×Int×Int×ByteArray×Int
theorem nb {a b:Int} (h:¬a=b):(a==b)=false:=beq_eq_false_iff_ne.2 h
theorem qDp {α R:Type}:∀(l:List α) (i:Nat),qFj (fun (_:Nat) (_:α)=>(none:Option R)) i l=none
 | [],i=>rfl
 |a::l,i=>qDp l (i+1)
def plB (c:Nd):Bool:=if c.1=2 then qBS c.2.2.2.2.2.1 c.2.2.2.2.2.2.1 else if c.1=3 then qBR c.2.2.2.2.2.1 c.2.2.2.2.2.2.1 c.2.2.2.2.2.2.2.2.2.1 c.2.2.2.2.2.2.2.2.2.2.1 else true
structure PlaceCh (f:Nd→Nd):Prop where
 k:∀c,(f c).1=c.1
 n:∀c,qCc c=true→c.1=2∨c.1=3→qCc (f c)=plB (f c)
 kd:∀c,kd (f c)=kd c
abbrev Vs:=Int×List Int×List Cl
abbrev Br:=ByteArray×Int
inductive Rch (sc:Nat→List Nat) (a:Nat):Nat→Prop
 |one {j:Nat}:j∈sc a→Rch sc a j
 |more {i j:Nat}:Rch sc a i→j∈sc i→Rch sc a j
def qCD (Q:List Nat):List Nat→List Nat
 | []=>Q
 |x::M=>qCD (if Q.contains x=true then Q else Q++ [x]) M
theorem qBD {x:Nat}:∀(M Q:List Nat),x∈qCD Q M↔x∈Q∨x∈M
 | [],Q=>by simp [qCD]
 |y::M,Q=>by
  unfold qCD
  rw [qBD M]
  by_cases h:Q.contains y=true
  ·rw [if_pos h]
   have hy:y∈Q:=by simpa using h
   rw [List.mem_cons]
   constructor
   ·rintro (h|h)
    ·exact .inl h
    ·exact .inr (.inr h)
   ·rintro (h|rfl|h)
    ·exact .inl h
    ·exact .inl hy
    ·exact .inr h
  ·rw [if_neg h,List.mem_append,List.mem_singleton,List.mem_cons,or_assoc]
theorem qDO:∀(M Q:List Nat),Q.Nodup→(qCD Q M).Nodup
 | [],Q,h=>h
 |y::M,Q,h=>by
  unfold qCD
  refine qDO M _ ?_
  by_cases hy:Q.contains y=true
  ·rw [if_pos hy];exact h
  ·rw [if_neg hy]
   have hy':y∉Q:=by simpa using hy
   rw [List.nodup_append]
   refine ⟨h,by simp,fun a ha b hb=>?_⟩
   rw [List.mem_singleton] at hb
   subst hb
   rintro rfl
   exact hy' ha
theorem qC6:∀(M Q:List Nat) (k:Nat),k<Q.length→(qCD Q M)[k]?=Q[k]?
 | [],Q,k,h=>rfl
 |y::M,Q,k,h=>by
  unfold qCD
  by_cases hy:Q.contains y=true
  ·rw [if_pos hy];exact qC6 M Q k h
  ·rw [if_neg hy,qC6 M _ k (by simp;omega),List.getElem?_append_left h]
theorem qFp:∀(n:Nat) (l:List Nat),l.Nodup→(∀x∈l,x<n)→l.length≤n
 |0,l,_,h=>by
  cases l with
  |nil=>simp
  |cons a l=>exact absurd (h a (List.mem_cons_self ..)) (Nat.not_lt_zero a)
 |n+1,l,hd,h=>by
  by_cases hn:n∈l
  ·have h1:=qFp n (l.erase n) (hd.erase n) fun x hx=>by
    have h2:=(hd.mem_erase_iff).1 hx
    have:=h x h2.2
    omega
   rw [List.length_erase_of_mem hn] at h1
   omega
  ·have:=qFp n l hd fun x hx=>by
    have h2:=h x hx
    have h3:x≠n:=fun e=>hn (e▸hx)
    omega
   omega
structure QI (sc:Nat→List Nat) (a n:Nat) (Q:List Nat) (k:Nat):Prop where
 nd:Q.Nodup
 lt:∀x∈Q,x<n
 rc:∀x∈Q,Rch sc a x
 st:∀j∈sc a,j∈Q
 dn:∀i q,i<k→Q[i]?=some q→q≠a∧∀j∈sc q,j∈Q
theorem QI.len {sc:Nat→List Nat} {a n:Nat} {Q:List Nat} {k:Nat} (h:QI sc a n Q k):Q.length≤n:=qFp n Q h.nd h.lt
theorem QI.all {sc:Nat→List Nat} {a n:Nat} {Q:List Nat} (h:QI sc a n Q Q.length):¬Rch sc a a:=by
 have key:∀x,Rch sc a x→x∈Q:=fun x hx=>by
  induction hx with
  |one h1=>exact h.st _ h1
  |more h1 h2 ih=>
   obtain ⟨i,hi,e⟩:=List.mem_iff_getElem.1 ih
   exact (h.dn i _ hi (by rw [List.getElem?_eq_getElem hi,e])).2 _ h2
 intro hr
 obtain ⟨i,hi,e⟩:=List.mem_iff_getElem.1 (key a hr)
 exact (h.dn i _ hi (by rw [List.getElem?_eq_getElem hi,e])).1 rfl
theorem QI.next {sc:Nat→List Nat} {a n:Nat} {Q:List Nat} {k q:Nat} (h:QI sc a n Q k) (hq:Q[k]?=some q) (hne:q≠a) (hs:∀j∈sc q,j<n):QI sc a n (qCD Q (sc q)) (k+1):=by
 have hk:=(List.getElem?_eq_some_iff.1 hq).1
 have hm:=List.mem_of_getElem? hq
 refine ⟨qDO _ _ h.nd,fun x hx=>?_,fun x hx=>?_,fun j hj=>(qBD _ _).2 (.inl (h.st j hj)),fun i r hi hr=>?_⟩
 ·rcases (qBD _ _).1 hx with hx|hx
  ·exact h.lt x hx
  ·exact hs x hx
 ·rcases (qBD _ _).1 hx with hx|hx
  ·exact h.rc x hx
  ·exact .more (h.rc q hm) hx
 ·rw [qC6 _ _ i (by omega)] at hr
  by_cases e:i=k
  ·subst e
   rw [hq] at hr
   cases hr
   exact ⟨hne,fun j hj=>(qBD _ _).2 (.inr hj)⟩
  ·obtain ⟨h1,h2⟩:=h.dn i r (by omega) hr
   exact ⟨h1,fun j hj=>(qBD _ _).2 (.inl (h2 j hj))⟩
theorem QI.start {sc:Nat→List Nat} {a n:Nat} (hd:(sc a).Nodup) (hs:∀j∈sc a,j<n):QI sc a n (sc a) 0:=⟨hd,hs,fun x hx=> .one hx,fun j hj=>hj,fun i q hi=>absurd hi (Nat.not_lt_zero i)⟩
structure MI (sc:Nat→List Nat) (a n:Nat) (met:List Bool) (Q:List Nat) (k:Nat):Prop where
 ln:met.length=n
 kl:k≤Q.length
 lt:∀x∈Q,x<n
 rc:∀x∈Q,Rch sc a x
 st:∀j∈sc a,j∈Q
 mt:∀i,met[i]?=some true→∀j∈sc i,j∈Q
 dn:∀i q,i<k→Q[i]?=some q→q≠a∧met[q]?=some true
theorem MI.all {sc:Nat→List Nat} {a n:Nat} {met:List Bool} {Q:List Nat} (h:MI sc a n met Q Q.length):¬Rch sc a a:=by
 have key:∀x,Rch sc a x→x∈Q:=fun x hx=>by
  induction hx with
  |one h1=>exact h.st _ h1
  |more h1 h2 ih=>
   obtain ⟨i,hi,e⟩:=List.mem_iff_getElem.1 ih
   exact h.mt _ (h.dn i _ hi (by rw [List.getElem?_eq_getElem hi,e])).2 _ h2
 intro hr
 obtain ⟨i,hi,e⟩:=List.mem_iff_getElem.1 (key a hr)
 exact (h.dn i _ hi (by rw [List.getElem?_eq_getElem hi,e])).1 rfl
theorem MI.start {sc:Nat→List Nat} {a n:Nat} (hs:∀j∈sc a,j<n):MI sc a n (List.replicate n false) (sc a) 0:=⟨by simp,Nat.zero_le _,hs,fun x hx=> .one hx,fun j hj=>hj,fun i hi=>by
 obtain ⟨h1,h2⟩:=List.getElem?_eq_some_iff.1 hi
 simp at h2,fun i q hi=>absurd hi (Nat.not_lt_zero i)⟩
inductive Tch (bs:Nat→Prop) (sc:Nat→List Nat):Nat→Prop
 |zero {i:Nat}:bs i→Tch bs sc i
 |lean {i k:Nat}:k∈sc i→Tch bs sc k→Tch bs sc i
structure TI (bs:Nat→Prop) (sc:Nat→List Nat) (n:Nat) (o:List Bool):Prop where
 ln:o.length=n
 ok:∀i,o[i]?=some true→Tch bs sc i
 st:∀i,i<n→bs i→o[i]?=some true
theorem TI.set {bs:Nat→Prop} {sc:Nat→List Nat} {n:Nat} {o:List Bool} (h:TI bs sc n o) {i k:Nat} (hk:k∈sc i) (ho:o[k]?=some true):TI bs sc n (o.set i true):=by
 refine ⟨by rw [List.length_set];exact h.ln,fun j hj=>?_,fun j hj hb=>?_⟩
 ·by_cases e:i=j
  ·subst e;exact .lean hk (h.ok k ho)
  ·rw [List.getElem?_set_ne e] at hj;exact h.ok j hj
 ·by_cases e:i=j
  ·subst e;exact List.getElem?_set_self (by rw [h.ln];exact hj)
  ·rw [List.getElem?_set_ne e];exact h.st j hj hb
theorem TI.all {bs:Nat→Prop} {sc:Nat→List Nat} {n:Nat} {o:List Bool} (h:TI bs sc n o) (hn:∀i,∀k∈sc i,k<n) (hc:∀i,i<n→∀k∈sc i,o[k]?=some true→o[i]?=some true) {i:Nat} (hi:i<n):o[i]?=some true↔Tch bs sc i:=by
 refine ⟨h.ok i,fun ht=>?_⟩
 induction ht with
 |zero hb=>exact h.st _ hi hb
 |lean hk _ ih=>exact hc _ hi _ hk (ih (hn _ _ hk))
structure SI (hr b2:Nat→Bool) (sc:Nat→List Nat) (n:Nat) (A:List Nat):Prop where
 nd:A.Nodup
 lt:∀a∈A,a<n
 ok:∀a∈A,Tch (fun i=>hr i=true∨b2 i=true) sc a
theorem SI.all {hr b2:Nat→Bool} {sc:Nat→List Nat} {n:Nat} {A:List Nat} (h:SI hr b2 sc n A) (hn:∀i,∀k∈sc i,k<n) (hb:∀i,∀k∈sc i,hr k=true→b2 i=true)
  (hc:∀i,i<n→(b2 i||A.any fun k=>(sc i).contains k)=true→(hr i||A.contains i)=true) {i:Nat} (hi:i<n):(hr i||A.contains i)=true↔Tch (fun i=>hr i=true∨b2 i=true) sc i:=by
 constructor
 ·intro h1
  rcases Bool.or_eq_true_iff.1 h1 with h1|h1
  ·exact .zero (.inl h1)
  ·exact h.ok i (by simpa using h1)
 ·intro ht
  induction ht with
  |zero hq=>
   rcases hq with hq|hq
   ·rw [hq];rfl
   ·exact hc _ hi (by rw [hq];rfl)
  | @lean i k hk _ ih=>
   refine hc i hi ?_
   rw [Bool.or_eq_true]
   rcases Bool.or_eq_true_iff.1 (ih (hn _ _ hk)) with h1|h1
   ·exact .inl (hb i k hk h1)
   ·exact .inr (List.any_eq_true.2 ⟨k,by simpa using h1,by simpa using hk⟩)
structure StOk (n:Nat) (c:Sm):Prop where
 k:c.1=1∨c.1=2∨c.1=3∨c.1=4∨c.1=5
 s:c.2.2.2.1.size≤200
 m:c.1=3∨c.1=4→1≤c.2.2.2.2∧c.2.2.2.2≤n
def Sml (x:Int):Prop:=1≤x∧x≤1000000000
structure VerT (v:Vs):Prop where
 id:Sml v.1
 up:∀u∈v.2.1,Sml u
 un:v.2.1.length≤2
 cn:v.2.2.length≤120
 cs:∀c∈v.2.2,c.2.2.size≤200
structure BrT (b:Br):Prop where
 id:Sml b.2
 nm:b.1.size≤12
theorem qFX (c:Nd) (hb:(kd c).length*8≤140737488351232):∀n,(kd c).length+10≤n→qAw n c.1 c.2.1 c.2.2.1 c.2.2.2.1 c.2.2.2.2.1 c.2.2.2.2.2.1 c.2.2.2.2.2.2.1 c.2.2.2.2.2.2.2.1 c.2.2.2.2.2.2.2.2.1 c.2.2.2.2.2.2.2.2.2.1 c.2.2.2.2.2.2.2.2.2.2.1 c.2.2.2.2.2.2.2.2.2.2.2.1 c.2.2.2.2.2.2.2.2.2.2.2.2.1 ((c.2.2.2.2.2.2.2.2.2.2.2.2.2).map qAO)=some (c.1,c.2.1,c.2.2.1,c.2.2.2.1,c.2.2.2.2.1,c.2.2.2.2.2.1,c.2.2.2.2.2.2.1,c.2.2.2.2.2.2.2.1,c.2.2.2.2.2.2.2.2.1,c.2.2.2.2.2.2.2.2.2.1,c.2.2.2.2.2.2.2.2.2.2.1,c.2.2.2.2.2.2.2.2.2.2.2.1,c.2.2.2.2.2.2.2.2.2.2.2.2.1,(kd c).length,(c.2.2.2.2.2.2.2.2.2.2.2.2.2).map qAO):=by
 intro n hn
 obtain ⟨m,rfl,hm⟩:=up1 hn
 have h:=qDj (kd c) hb m (by omega)
 obtain ⟨q,rfl⟩:∃q,m=q+3:=⟨m-3,by omega⟩
 have p1:∀a b f g,qAd (q+3) a b f g=some (a,b,f,g):=fun a b f g=>by
  simp only [qAd,qBY,qB6,qB5,qA,qC,qF,qG,qH,qJ,Option.bind_some,qD,qE,qK]
 have p2:∀a b s,qAv (q+3) a b s=some (a,b,s):=fun a b s=>by
  simp only [qAv,qBX,qA,qC,qF,qG,qH,qJ,Option.bind_some,qD,qE,qK]
 refine qM (p2 _ _ _) (qM (p1 _ _ _ _) (qM (p1 _ _ _ _) (qM h rfl)))
theorem qFH (l:List Nd) (hb:l.length*120≤140737488351232) (hk:∀c∈l,(kd c).length*8≤140737488351232):Ev (qAD · (l.map qV)) (l.length,l.map qV):=by
 obtain ⟨n0,h0⟩:=qCC (F:=fun (c:Nd) n=>qAw n c.1 c.2.1 c.2.2.1 c.2.2.2.1 c.2.2.2.2.1 c.2.2.2.2.2.1 c.2.2.2.2.2.2.1 c.2.2.2.2.2.2.2.1 c.2.2.2.2.2.2.2.2.1 c.2.2.2.2.2.2.2.2.2.1 c.2.2.2.2.2.2.2.2.2.2.1 c.2.2.2.2.2.2.2.2.2.2.2.1 c.2.2.2.2.2.2.2.2.2.2.2.2.1 ((c.2.2.2.2.2.2.2.2.2.2.2.2.2).map qAO)) (f:=fun c=>(c.1,c.2.1,c.2.2.1,c.2.2.2.1,c.2.2.2.2.1,c.2.2.2.2.2.1,c.2.2.2.2.2.2.1,c.2.2.2.2.2.2.2.1,c.2.2.2.2.2.2.2.2.1,c.2.2.2.2.2.2.2.2.2.1,c.2.2.2.2.2.2.2.2.2.2.1,c.2.2.2.2.2.2.2.2.2.2.2.1,c.2.2.2.2.2.2.2.2.2.2.2.2.1,(kd c).length,(c.2.2.2.2.2.2.2.2.2.2.2.2.2).map qAO)) l (fun c hc=>⟨_,qFX c (hk c hc)⟩)
 refine ⟨n0+l.length+5,fun n hn=>?_⟩
 obtain ⟨m,rfl,hm⟩:=up1 hn
 simp only [qAD,qBM,qA,qC,qF,qG,qH,qJ,Option.bind_some,qD,qE,qK]
 have h:=qFc (B:=qAK m) (rows:=l.map qV) (z:= [.i .i64 0,.i .i64 0,.i .i64 0,.i .i64 0,.s ⟨#[]⟩,.i .i64 0,.i .i64 0,.b false,.b false,.i .i64 0,.i .i64 0,.b false,.b false,.nl]) (r:=fun acc=>((l.map qV).length,acc)) (M:=m)
  (fun i acc e he ha hz=>by
   obtain ⟨c,hc,rfl⟩:=qFe he
   have hi:i<l.length:=(List.getElem?_eq_some_iff.1 hc).1
   have hi':(i:Int)<l.length:=by omega
   have hw:IntKind.i64.wrap ((i:Int)+1)=(i:Int)+1:=qU (by omega)
   have ha':acc.length=l.length:=by simpa using ha
   have hf:=h0 m (by omega) c (List.mem_of_getElem? hc)
   simp [qAK,qA,qC,qF,qG,qH,qJ,Option.bind_some,qD,qE,qK,hi',hc,qV,zE,zAt,zZ,zo,hf,hz,ha',hw,zA,nlB,kd])
  (fun acc ha=>by
   have ha':acc.length=l.length:=by simpa using ha
   simp [qAK,qA,qC,qF,qG,qH,qJ,Option.bind_some,qD,qE,qK])
  (by simp;omega)
 simp only [List.length_map,Int.toNat_natCast] at h⊢
 rw [h]
 have h1:(120:Int)*(l.length:Int)≤140737488355328:=by omega
 have h2:(l.length:Int)≤9223372036854775807:=by omega
 simp [qA,qC,qF,qG,qH,qJ,Option.bind_some,qD,qE,qK,h1,h2]
def Wmk:Nat→Int→Int
 |0,k=>k
 |j+1,k=>IntKind.i64.wrap (Wmk j k+1)
theorem qFq:∀(j:Nat) (k:Int),0≤k→k+j≤1000000000000000000→Wmk j k=k+j
 |0,k,_,_=>by simp [Wmk]
 |j+1,k,h1,h2=>by
  unfold Wmk
  rw [qFq j k h1 (by omega),qU (by omega)]
  omega
theorem qFy (n len:Nat) (hb:len≤140737488351232):∀(r i:Nat) (rows:List (List PV)) (k:Int) (M:Nat),i+r=len→rows.length=len→(∀e∈rows,e.length=1)→0≤k→k+r≤1000000000000000→r+1≤M→
  ∃rows':List (List PV),rows'.length=len∧zK (qAh n) M (len,k,(i:Int),rows)=some (k+r,rows')
 |0,i,rows,k,M,h1,hl,h3,h2,h5,h4=>by
  obtain ⟨M,rfl⟩:∃q,M=q+1:=⟨M-1,by omega⟩
  exact ⟨rows,hl,by rw [qN (r:=(k,rows)) (qAS (decide_eq_false (by dsimp only;omega)) rfl)];simp⟩
 |r+1,i,rows,k,M,h1,hl,h3,h2,h5,h4=>by
  obtain ⟨M,rfl⟩:∃q,M=q+1:=⟨M-1,by omega⟩
  have hlt:i<rows.length:=by omega
  have hg:=List.getElem?_eq_getElem hlt
  have he:=h3 _ (List.getElem_mem hlt)
  have w1:IntKind.i64.wrap (k+1)=k+1:=qU (by omega)
  have wi:IntKind.i64.wrap ((i:Int)+1)=((i+1:Nat):Int):=by rw [qU (by omega)];omega
  obtain ⟨rows',g1,g2⟩:=qFy n len hb r (i+1) (rows.set i (zA rows[i] 0 [.i .i64 k])) (k+1) M (by omega) (by simpa using hl) (fun e hm=>by
   rcases List.mem_or_eq_of_mem_set hm with h|rfl
   ·exact h3 e h
   ·rw [zS _ _ _ (by simp [he])];exact he) (by omega) (by omega) (by omega)
  refine ⟨rows',g1,?_⟩
  rw [qj (v':=(len,k+1,((i+1:Nat):Int),rows.set i (zA rows[i] 0 [.i .i64 k]))) (qP (decide_eq_true (by dsimp only;omega)) (qP (decide_eq_true (by dsimp only;omega)) (qM (by dsimp only;rw [Int.toNat_natCast];exact hg) (qP (decide_eq_true (by rw [he];decide)) (by
   dsimp only
   rw [w1,wi,Int.toNat_natCast]
   rfl))))),g2]
  congr 2
  omega
theorem qFI (ks:List (List PV)) (hks:∀e∈ks,e.length=1) (hb:ks.length≤140737488351232) (k:Int) (hk:0≤k∧k+ks.length≤1000000000000000) (n:Nat) (hn:ks.length+5≤n):∃rows':List (List PV),rows'.length=ks.length∧qA6 n ks.length k ks=some (k+ks.length,rows'):=by
 obtain ⟨m,rfl,hm⟩:=up1 hn
 obtain ⟨rows',h1,h2⟩:=qFy m ks.length hb ks.length 0 ks k m (by omega) rfl hks hk.1 hk.2 (by omega)
 exact ⟨rows',h1,qM h2 rfl⟩
structure MA (A:List (List PV)) (e:List PV) (len i:Nat) (ks D:List (List PV)):Prop where
 maL:A.length=len
 maG:A[i]?=some e
 maN:e.length=14
 maK:e[13]?=some (.ls ks)
 maD:A.drop (i+1)=D
 maT:i<len
theorem MA.next {A:List (List PV)} {e:List PV} {len i:Nat} {ks D:List (List PV)} (h:MA A e len i ks D) {o:Nat} {x:PV} (ho:o<13):MA (A.set ((i:Nat):Int).toNat (zA e o [x])) (zA e o [x]) len i ks D:=by
 have hl:i<A.length:=by rw [h.maL];exact h.maT
 have hs:o+ [x].length≤e.length:=by rw [h.maN];simp;omega
 rw [Int.toNat_natCast]
 refine ⟨by rw [List.length_set];exact h.maL,List.getElem?_set_self hl,by rw [zS _ _ _ hs];exact h.maN,?_,?_,h.maT⟩
 ·rw [zb _ _ _ hs,if_neg (by simp;omega)]
  exact h.maK
 ·rw [List.drop_set_of_lt (by omega)]
  exact h.maD
theorem qB4 {X:Type} {A:List (List PV)} {e:List PV} {len i:Nat} {ks D:List (List PV)} (h:MA A e len i ks D) {o:Nat} (ho:o<13) {K:List PV→Tr X} {y:Option X} (hk:(K e).run=y):
  (Tr.ask (decide (len=A.length∧0≤((i:Nat):Int)∧((i:Nat):Int)<((len:Nat):Int))) (.opt (A[((i:Nat):Int).toNat]?) fun e'=> .ask (decide (o+1≤e'.length)) (K e') .fail) .fail).run=y:=
 qP (decide_eq_true ⟨h.maL.symm,by omega,by have:=h.maT;omega⟩) (qM (by rw [Int.toNat_natCast];exact h.maG) (qP (decide_eq_true (by rw [h.maN];omega)) hk))
theorem qGL {X:Type} {A:List (List PV)} {e:List PV} {len i:Nat} {ks D:List (List PV)} (h:MA A e len i ks D) {Fm:List (List PV)→List (List PV)→Option (Int×List (List PV))} {k':Int} {ks':List (List PV)} (hF:Fm ks ks=some (k',ks')) (hl:ks'.length=ks.length) {K:Int×List (List PV)→List PV→Tr X} {y:Option X} (hk:(K (k',ks') e).run=y):
  (Tr.ask (decide (len=A.length∧0≤((i:Nat):Int)∧((i:Nat):Int)<((len:Nat):Int))) (.opt (A[((i:Nat):Int).toNat]?) fun e1=> .opt (zo e1 13) fun y1=> .opt (A[((i:Nat):Int).toNat]?) fun e2=> .opt (zo e2 13) fun y2=> .ask (decide (y1.length=y2.length)) (.opt (Fm y1 y2) fun r=> .opt (A[((i:Nat):Int).toNat]?) fun e3=> .ask (decide (r.2.length=y2.length)) (K r e3) .fail) .fail) .fail).run=y:=by
 have hg:A[((i:Nat):Int).toNat]?=some e:=by rw [Int.toNat_natCast];exact h.maG
 have hc:zo e 13=some ks:=by unfold zo;rw [h.maK]
 exact qP (decide_eq_true ⟨h.maL.symm,by omega,by have:=h.maT;omega⟩) (qM hg (qM hc (qM hg (qM hc (qP (decide_eq_true rfl) (qM hF (qM hg (qP (decide_eq_true hl) hk))))))))
def qEO (r:List Nd):Nat:=(r.map fun c=>13+(kd c).length).sum
theorem qFz (n len:Nat) (hb:len≤140737488351232) (hn:25≤n):∀(r:List Nd) (i:Nat) (A:List (List PV)) (k:Int) (M:Nat),i+r.length=len→A.length=len→A.drop i=r.map qV→1≤k→k+qEO r≤1000000000000000→(∀c∈r,(kd c).length+5≤n∧(kd c).length≤140737488351232)→r.length+1≤M→
  ∃A':List (List PV),zK (qk n) M (len,k,(i:Int),A)=some (k+qEO r,A')
 | [],i,A,k,M,h1,hl,hd,h2,h5,hc,h4=>by
  obtain ⟨M,rfl⟩:∃q,M=q+1:=⟨M-1,by omega⟩
  have h1:i=len:=by simpa using h1
  exact ⟨A,by rw [qN (r:=(k,A)) (qAS (decide_eq_false (by dsimp only;omega)) rfl)];simp [qEO]⟩
 |c::r,i,A,k,M,h1,hl,hd,h2,h5,hc,h4=>by
  obtain ⟨M,rfl⟩:∃q,M=q+1:=⟨M-1,by omega⟩
  simp only [List.length_cons] at h1 h4
  have ht:qEO (c::r)=13+(kd c).length+qEO r:=by simp [qEO]
  rw [ht] at h5
  have hlt:i<A.length:=by omega
  rw [List.drop_eq_getElem_cons hlt,List.map_cons,List.cons.injEq] at hd
  have m0:MA A (qV c) len i ((kd c).map qAO) (r.map qV):=⟨hl,by rw [List.getElem?_eq_getElem hlt,hd.1],rfl,rfl,hd.2,by omega⟩
  have wi:IntKind.i64.wrap ((i:Int)+1)=((i+1:Nat):Int):=by rw [qU (by omega)];omega
  have w4:=qFq 4 k (by omega) (by omega)
  have w13:=qFq 13 k (by omega) (by omega)
  have htx:qAQ n (Wmk 4 k)=some (mtx (Wmk 4 k)):=qGA (by omega) hn
  obtain ⟨hk1,hk2⟩:=hc c (List.mem_cons_self ..)
  obtain ⟨ks',q1,q2⟩:=qFI ((kd c).map qAO) (fun e he=>by obtain ⟨x,_,rfl⟩:=List.mem_map.1 he;rfl) (by simpa using hk2) (Wmk 13 k) (by rw [w13];simp;omega) n (by simpa using hk1)
  have fnn:∀{A13:List (List PV)} {e13:List PV},MA A13 e13 len i ((kd c).map qAO) (r.map qV)→∃A',zK (qk n) M (len,Wmk 13 k+((kd c).map qAO).length,IntKind.i64.wrap ((i:Int)+1),A13.set ((i:Nat):Int).toNat (e13.set 13 (.ls ks')))=some (k+qEO (c::r),A'):=fun {A13 e13} h=>by
   obtain ⟨A',h6⟩:=qFz n len hb hn r (i+1) (A13.set i (e13.set 13 (.ls ks'))) (k+13+(kd c).length) M (by omega) (by rw [List.length_set];exact h.maL) (by rw [List.drop_set_of_lt (by omega)];exact h.maD) (by omega) (by omega) (fun c' hc'=>hc c' (List.mem_cons_of_mem _ hc')) (by omega)
   refine ⟨A',?_⟩
   rw [wi,Int.toNat_natCast,w13,List.length_map,ht]
   refine h6.trans ?_
   congr 2
   omega
  have stp:∃v',(qk n (len,k,(i:Int),A)).run=some (.inl v')∧∃A',zK (qk n) M v'=some (k+qEO (c::r),A'):=by
   refine ⟨?v,qP (decide_eq_true (by dsimp only;omega)) (qB4 m0 (by decide) (qB4 (m0.next (by decide)) (by decide) (qB4 ((m0.next (by decide)).next (by decide)) (by decide) (qB4 (((m0.next (by decide)).next (by decide)).next (by decide)) (by decide) (qM htx (qB4 ((((m0.next (by decide)).next (by decide)).next (by decide)).next (by decide)) (by decide) (qB4 (((((m0.next (by decide)).next (by decide)).next (by decide)).next (by decide)).next (by decide)) (by decide) (qB4 ((((((m0.next (by decide)).next (by decide)).next (by decide)).next (by decide)).next (by decide)).next (by decide)) (by decide) (qB4 (((((((m0.next (by decide)).next (by decide)).next (by decide)).next (by decide)).next (by decide)).next (by decide)).next (by decide)) (by decide) (qB4 ((((((((m0.next (by decide)).next (by decide)).next (by decide)).next (by decide)).next (by decide)).next (by decide)).next (by decide)).next (by decide)) (by decide) (qB4 (((((((((m0.next (by decide)).next (by decide)).next (by decide)).next (by decide)).next (by decide)).next (by decide)).next (by decide)).next (by decide)).next (by decide)) (by decide) (qB4 ((((((((((m0.next (by decide)).next (by decide)).next (by decide)).next (by decide)).next (by decide)).next (by decide)).next (by decide)).next (by decide)).next (by decide)).next (by decide)) (by decide) (qB4 (((((((((((m0.next (by decide)).next (by decide)).next (by decide)).next (by decide)).next (by decide)).next (by decide)).next (by decide)).next (by decide)).next (by decide)).next (by decide)).next (by decide)) (by decide) (qB4 ((((((((((((m0.next (by decide)).next (by decide)).next (by decide)).next (by decide)).next (by decide)).next (by decide)).next (by decide)).next (by decide)).next (by decide)).next (by decide)).next (by decide)).next (by decide)) (by decide) (qGL (((((((((((((m0.next (by decide)).next (by decide)).next (by decide)).next (by decide)).next (by decide)).next (by decide)).next (by decide)).next (by decide)).next (by decide)).next (by decide)).next (by decide)).next (by decide)).next (by decide)) q2 q1 ?w))))))))))))))),?h⟩
   case w=>exact rfl
   case h=>exact fnn (((((((((((((m0.next (by decide)).next (by decide)).next (by decide)).next (by decide)).next (by decide)).next (by decide)).next (by decide)).next (by decide)).next (by decide)).next (by decide)).next (by decide)).next (by decide)).next (by decide))
  obtain ⟨v',h6,A',h7⟩:=stp
  exact ⟨A',by rw [qj h6];exact h7⟩
def qBo (r:List Nd):Nat:=(r.map fun c=>(kd c).length).sum
theorem qFk:∀r:List Nd,qEO r=13*r.length+qBo r
 | []=>rfl
 |c::r=>by
  have h:=qFk r
  unfold qEO qBo at h⊢
  simp only [List.map_cons,List.sum_cons,List.length_cons]
  omega
theorem szn (n:Nat) (c:Nd) (x:Int) (hx:0≤x∧x≤1048576) (hs:c.2.2.2.2.1.size≤140737488351232) (hk:(kd c).length≤140737488351232):
  ∃r,qBW (n+2) c.1 c.2.1 c.2.2.1 c.2.2.2.1 c.2.2.2.2.1 c.2.2.2.2.2.1 c.2.2.2.2.2.2.1 c.2.2.2.2.2.2.2.1 c.2.2.2.2.2.2.2.2.1 c.2.2.2.2.2.2.2.2.2.1 c.2.2.2.2.2.2.2.2.2.2.1 c.2.2.2.2.2.2.2.2.2.2.2.1 c.2.2.2.2.2.2.2.2.2.2.2.2.1 ((c.2.2.2.2.2.2.2.2.2.2.2.2.2).map qAO) x=some r∧(0≤r→r+(kd c).length≤x):=by
 have w1:IntKind.i64.wrap (x-(c.2.2.2.2.1.size:Int))=x-c.2.2.2.2.1.size:=qU (by omega)
 have e1:qBV (n+1) c.2.2.1 c.2.2.2.1 c.2.2.2.2.1 x=some (if x-c.2.2.2.2.1.size<0 then-1 else x-c.2.2.2.2.1.size):=by
  show (qAu n c.2.2.1 c.2.2.2.1 c.2.2.2.2.1 x).run=_
  unfold qAu
  rw [w1]
  by_cases h:x-(c.2.2.2.2.1.size:Int)<0
  ·rw [if_pos h];exact qP (decide_eq_true h) rfl
  ·rw [if_neg h];exact qAS (decide_eq_false h) rfl
 by_cases h:x-(c.2.2.2.2.1.size:Int)<0
 ·rw [if_pos h] at e1
  exact ⟨-1,qM e1 (qP rfl rfl),fun h=>by omega⟩
 ·rw [if_neg h] at e1
  have hkl:((c.2.2.2.2.2.2.2.2.2.2.2.2.2).map qAO).length=(kd c).length:=by rw [List.length_map];rfl
  have w2:IntKind.i64.wrap (x-c.2.2.2.2.1.size-(((c.2.2.2.2.2.2.2.2.2.2.2.2.2).map qAO).length:Int))=x-c.2.2.2.2.1.size-(kd c).length:=by rw [hkl];exact qU (by omega)
  have e2:qBJ (n+1) ((c.2.2.2.2.2.2.2.2.2.2.2.2.2).map qAO) (x-c.2.2.2.2.1.size)=some (if x-c.2.2.2.2.1.size-(kd c).length<0 then-1 else x-c.2.2.2.2.1.size-(kd c).length):=by
   show (qAp n ((c.2.2.2.2.2.2.2.2.2.2.2.2.2).map qAO) (x-c.2.2.2.2.1.size)).run=_
   unfold qAp
   rw [w2]
   by_cases h:x-(c.2.2.2.2.1.size:Int)-(kd c).length<0
   ·rw [if_pos h];exact qP (decide_eq_true h) rfl
   ·rw [if_neg h];exact qAS (decide_eq_false h) rfl
  by_cases h2:x-(c.2.2.2.2.1.size:Int)-(kd c).length<0
  ·rw [if_pos h2] at e2
   exact ⟨-1,qM e1 (qAS (decide_eq_false h) (qM e2 (qP rfl rfl))),fun h=>by omega⟩
  ·rw [if_neg h2] at e2
   exact ⟨_,qM e1 (qAS (decide_eq_false h) (qM e2 (qAS (decide_eq_false h2) rfl))),fun _=>by omega⟩
theorem qFl (q:Nat) (l:List Nd) (hb:l.length≤140737488351232) (hk:∀c∈l,(kd c).length≤140737488351232∧c.2.2.2.2.1.size≤140737488351232):∀(r:List Nd) (i:Nat) (x:Int) (M:Nat),i+r.length=l.length→l.drop i=r→0≤x∧x≤1048576→r.length+1≤M→
  (∃y,y<0∧zK (qAI (q+2)) M (l.map qV,x,(i:Int))=some (.inl y))∨∃y,qBo r≤x∧zK (qAI (q+2)) M (l.map qV,x,(i:Int))=some (.inr y)
 | [],i,x,M,h1,hd,hx,h4=>by
  obtain ⟨M,rfl⟩:∃q,M=q+1:=⟨M-1,by omega⟩
  refine .inr ⟨x,by simp [qBo];omega,qN (qAS (decide_eq_false (by simp at h1⊢;omega)) rfl)⟩
 |c::r,i,x,M,h1,hd,hx,h4=>by
  obtain ⟨M,rfl⟩:∃q,M=q+1:=⟨M-1,by omega⟩
  simp only [List.length_cons] at h1 h4
  have hlt:i<l.length:=by omega
  rw [List.drop_eq_getElem_cons hlt,List.cons.injEq] at hd
  have he:l[i]?=some c:=by rw [List.getElem?_eq_getElem hlt,hd.1]
  have hmem:=List.mem_of_getElem? he
  obtain ⟨a1,a2⟩:=qFo (k:=(i:Int)) rfl (show (l.map qV)[i]?=some (qV c) by rw [List.getElem?_map,he];rfl)
  have w:IntKind.i64.wrap ((i:Int)+1)=((i+1:Nat):Int):=by rw [qU (by omega)];omega
  obtain ⟨y,g1,g2⟩:=szn q c x hx (hk c hmem).2 (hk c hmem).1
  have hkt:qBo (c::r)=(kd c).length+qBo r:=by simp [qBo]
  have go:∀{z},(Tr.ask (decide (y<0)) (.done (.inr (.inl (-1:Int)))) (.done (.inl (l.map qV,y,IntKind.i64.wrap ((i:Int)+1)))):Tr ((List (List PV)×Int×Int)⊕(Int⊕Int))).run=z→(qAI (q+2) (l.map qV,x,(i:Int))).run=z:=fun {z} h=>
   qP (decide_eq_true (by simpa using hlt)) (qP a1 (qM a2 (qP rfl (qM rfl (qM rfl (qM rfl (qM rfl (qM rfl (qM rfl (qM rfl (qM rfl (qM rfl (qM rfl (qM rfl (qM rfl (qM rfl (qM rfl (qM g1 h))))))))))))))))))
  by_cases h0:y<0
  ·exact .inl ⟨-1,by decide,qN (go (qP (decide_eq_true h0) rfl))⟩
  ·have:=g2 (by omega)
   rw [qj (go (qAS (decide_eq_false h0) rfl)),w]
   rcases qFl q l hb hk r (i+1) y M (by omega) hd.2 (by omega) (by omega) with h|⟨z,h5,h6⟩
   ·exact .inl h
   ·exact .inr ⟨z,by rw [hkt];omega,h6⟩
theorem qFJ (l:List Nd) (hb:l.length≤140737488351232) (hk:∀c∈l,(kd c).length≤140737488351232∧c.2.2.2.2.1.size≤140737488351232):∀n,l.length+5≤n→∃r,qBK n (l.map qV) 1048576=some r∧(0≤r→l.length≤1048576∧qBo l≤1048576):=by
 intro n hn
 obtain ⟨m,rfl,hm⟩:=up1 hn
 obtain ⟨q,rfl⟩:∃q,m=q+2:=⟨m-2,by omega⟩
 have w:IntKind.i64.wrap ((1048576:Int)-((l.map qV).length:Int))=1048576-l.length:=by rw [List.length_map];exact qU (by omega)
 by_cases h0:(1048576:Int)-l.length<0
 ·exact ⟨-1,qP (decide_eq_true (by rw [w];exact h0)) rfl,fun h=>by omega⟩
 ·rcases qFl q l hb hk l 0 (1048576-l.length) (q+2) (by omega) rfl (by omega) (by omega) with ⟨y,h1,h2⟩|⟨y,h1,h2⟩
  ·exact ⟨y,qAS (decide_eq_false (by rw [w];exact h0)) (qM (by rw [w];exact h2) rfl),fun h=>by omega⟩
  ·exact ⟨y,qAS (decide_eq_false (by rw [w];exact h0)) (qM (by rw [w];exact h2) rfl),fun _=>by omega⟩
theorem qF7 {r:List Nd} {c:Nd} (h:c∈r):(kd c).length≤qBo r:=by
 induction r with
 |nil=>cases h
 |cons a r ih=>
  have e:qBo (a::r)=(kd a).length+qBo r:=by simp [qBo]
  rcases List.mem_cons.1 h with rfl|h
  ·omega
  ·have:=ih h;omega
theorem qEP (l:List Nd) (hl:l.length≤1048576) (hk:qBo l≤1048576):∀n,qBo l+l.length+30≤n→∃A',qA7 n l.length 1 (l.map qV)=some ((1:Int)+(qEO l:Int),A'):=fun n hn=>by
 have hb:=qFk l
 obtain ⟨m,rfl,hm⟩:=up1 hn
 obtain ⟨A',h⟩:=qFz m l.length (by omega) (by omega) l 0 (l.map qV) 1 m (by omega) (by simp) rfl (by decide) (by omega) (fun c hc=>by have:=qF7 hc;omega) (by omega)
 exact ⟨A',qM h rfl⟩
abbrev Ar4:=Int×Int×Int×Int
def ql (c:Ar4):List PV:= [.i .i64 c.1,.i .i64 c.2.1,.i .i64 c.2.2.1,.i .i64 c.2.2.2]
def qC7 (c:Nd):Option Ar4:=if c.1=2 then some (c.2.2.2.2.2.1,c.2.2.2.2.2.2.1,c.2.2.2.2.2.1,c.2.2.2.2.2.2.1) else if c.1=3 then some (c.2.2.2.2.2.1,c.2.2.2.2.2.2.1,c.2.2.2.2.2.2.2.2.2.1,c.2.2.2.2.2.2.2.2.2.2.1) else none
def ars (l:List Nd):List Ar4:=l.filterMap qC7
def qCE (l:List Nd):List Ar4:=if qCK l=true then ars l else []
theorem qFm {l:List Nd} {i:Nat} {c:Nd} (h:l[i]?=some c):ars (l.take (i+1))=ars (l.take i)++(qC7 c).toList:=by
 unfold ars
 rw [List.take_add_one,h,List.filterMap_append]
 cases hq:qC7 c<;>simp [hq]
theorem qFY (l:List Nd):(ars l).length≤l.length:=List.length_filterMap_le ..
theorem qE2 {l:List Nd} (h:qCK l=true):l.length≤60:=by
 unfold qCK at h
 rw [Bool.and_eq_true,decide_eq_true_eq] at h
 exact h.1.2
theorem qFr (l:List Nd):(qCE l).length≤60:=by
 unfold qCE
 split
 ·rename_i h
  exact Nat.le_trans (qFY l) (qE2 h)
 ·exact Nat.zero_le _
theorem qFZ {acc:List Ar4} {y:Ar4} (h:acc.length≤60):decide (acc.length=(acc.map ql).length∧0<4∧0<32∧(acc.length+([ql y]:List (List PV)).length)*32≤140737488355328∧([ql y]:List (List PV)).all (fun e=>e.length==4)=true)=true:=
 decide_eq_true ⟨by simp,by decide,by decide,by simp;omega,rfl⟩
theorem qDP (l:List Nd) (hk:∀c∈l,(kd c).length≤140737488351232∧c.2.2.2.2.1.size≤140737488351232):Ev (qBe · (l.map qV)) ((qCE l).length,(qCE l).map ql):=by
 refine qF9 (qF4 (R:=fun n=>qBd n (l.map qV)) (qFx (qDL l hk) ?_) fun n=>rfl)
 unfold qCE
 cases hB:qCK l with
 |false=>exact qGI rfl (qES rfl)
 |true=>
  have hl:=qE2 hB
  rw [if_pos rfl]
  refine qGJ rfl (qFx (r:=((ars l).length,(ars l).map ql)) ⟨l.length+3,fun m hm=>?_⟩ (qES rfl))
  have h:=qGK (B:=qAy m) (fun i=>(l.map qV,(ars (l.take i)).length,(i:Int),(ars (l.take i)).map ql)) l (fun _ _=>none) ((ars l).length,(ars l).map ql)
   (fun i c he=>by
    have hi:=(List.getElem?_eq_some_iff.1 he).1
    obtain ⟨a1,a2⟩:=qFo (k:=(i:Int)) rfl (show (l.map qV)[i]?=some (qV c) by rw [List.getElem?_map,he];rfl)
    have w:IntKind.i64.wrap ((i:Int)+1)=((i+1:Nat):Int):=by rw [qU (by omega)];omega
    have e:=qFm he
    have hz:(ars (l.take i)).length≤60:=by
     have h1:=qFY (l.take i)
     rw [List.length_take] at h1
     omega
    generalize ars (l.take i)=acc at*
    refine qP (decide_eq_true (by simpa using hi)) (qP a1 (qM a2 (qP rfl (qM rfl ?_))))
    by_cases k2:c.1=2
    ·have ea:qC7 c=some (c.2.2.2.2.2.1,c.2.2.2.2.2.2.1,c.2.2.2.2.2.1,c.2.2.2.2.2.2.1):=by unfold qC7;rw [if_pos k2]
     rw [ea] at e
     refine qP (beq_iff_eq.2 k2) (qP a1 (qM a2 (qP rfl (qM rfl (qM rfl (qP a1 (qM a2 (qP rfl (qM rfl (qM rfl (qP rfl (qP (qFZ (y:=(c.2.2.2.2.2.1,c.2.2.2.2.2.2.1,c.2.2.2.2.2.1,c.2.2.2.2.2.2.1)) hz) ?_))))))))))))
     dsimp only
     rw [w,e]
     simp [qA,qC,qF,qG,qH,qJ,Option.bind_some,qD,qE,qK,ql]
    ·refine qAS (nb k2) ?_
     by_cases k3:c.1=3
     ·have ea:qC7 c=some (c.2.2.2.2.2.1,c.2.2.2.2.2.2.1,c.2.2.2.2.2.2.2.2.2.1,c.2.2.2.2.2.2.2.2.2.2.1):=by unfold qC7;rw [if_neg k2,if_pos k3]
      rw [ea] at e
      refine qP (beq_iff_eq.2 k3) (qP a1 (qM a2 (qP rfl (qM rfl (qM rfl (qP a1 (qM a2 (qP rfl (qM rfl (qM rfl (qP rfl (qP (qFZ (y:=(c.2.2.2.2.2.1,c.2.2.2.2.2.2.1,c.2.2.2.2.2.2.2.2.2.1,c.2.2.2.2.2.2.2.2.2.2.1)) hz) ?_))))))))))))
      dsimp only
      rw [w,e]
      simp [qA,qC,qF,qG,qH,qJ,Option.bind_some,qD,qE,qK,ql]
     ·have ea:qC7 c=none:=by unfold qC7;rw [if_neg k2,if_neg k3]
      rw [ea] at e
      refine qAS (nb k3) ?_
      dsimp only
      rw [w,e]
      simp [qA,qC,qF,qG,qH,qJ,Option.bind_some,qD,qE,qK])
   (qAS (decide_eq_false (by simp)) (by rw [List.take_length];rfl)) m (by omega)
  rw [qDp] at h
  exact h
theorem qF8 (n:Nat) (c:Nd):qi (n+1) c.1 c.2.1 c.2.2.1 c.2.2.2.1 c.2.2.2.2.1 c.2.2.2.2.2.1 c.2.2.2.2.2.2.1 c.2.2.2.2.2.2.2.1 c.2.2.2.2.2.2.2.2.1 c.2.2.2.2.2.2.2.2.2.1 c.2.2.2.2.2.2.2.2.2.2.1 c.2.2.2.2.2.2.2.2.2.2.2.1 c.2.2.2.2.2.2.2.2.2.2.2.2.1 ((c.2.2.2.2.2.2.2.2.2.2.2.2.2).map qAO)=some (if c.1=2 then (c.2.2.2.2.2.1,c.2.2.2.2.2.2.1,c.2.2.2.2.2.1,c.2.2.2.2.2.2.1) else (c.2.2.2.2.2.1,c.2.2.2.2.2.2.1,c.2.2.2.2.2.2.2.2.2.1,c.2.2.2.2.2.2.2.2.2.2.1)):=by
 by_cases h:c.1=2
 ·rw [if_pos h];exact qP (beq_iff_eq.2 h) rfl
 ·rw [if_neg h];exact qAS (nb h) rfl
theorem qDQ (l:List Nd) (hl:l.length≤140737488351232) (hk:∀c∈l,(kd c).length≤140737488351232∧c.2.2.2.2.1.size≤140737488351232):Ev (qA4 · (l.map qV)) ((qCE l).length,(qCE l).map ql):=by
 refine qF9 (qF4 (R:=fun n=>qBh n (l.map qV)) (qFx (qDN l hl hk) ?_) fun n=>rfl)
 unfold qCE
 cases hB:qCK l with
 |false=>exact qGI rfl (qES rfl)
 |true=>
  have hl:=qE2 hB
  rw [if_pos rfl]
  refine qGJ rfl (qFx (r:=((ars l).length,(ars l).map ql)) ⟨l.length+5,fun m hm=>?_⟩ (qES rfl))
  obtain ⟨m,rfl,hm⟩:=up1 hm
  obtain ⟨q,rfl⟩:∃q,m=q+1:=⟨m-1,by omega⟩
  have h:=qGK (B:=qA3 (q+1)) (fun i=>((ars (l.take i)).length,l.map qV,((l.map qV).length:Int),(i:Int),(ars (l.take i)).map ql)) l (fun _ _=>none) ((ars l).length,(ars l).map ql)
   (fun i c he=>by
    have hi:=(List.getElem?_eq_some_iff.1 he).1
    obtain ⟨a1,a2⟩:=qFo (k:=(i:Int)) rfl (show (l.map qV)[i]?=some (qV c) by rw [List.getElem?_map,he];rfl)
    have w:IntKind.i64.wrap ((i:Int)+1)=((i+1:Nat):Int):=by rw [qU (by omega)];omega
    have e:=qFm he
    have hz:(ars (l.take i)).length≤60:=by
     have h1:=qFY (l.take i)
     rw [List.length_take] at h1
     omega
    have hn:=qF8 q c
    generalize ars (l.take i)=acc at*
    refine qP (decide_eq_true (by simpa using hi)) (qP a1 (qM a2 (qP rfl (qM rfl (qM rfl (qM rfl (qM rfl (qM rfl (qM rfl (qM rfl (qM rfl (qM rfl (qM rfl (qM rfl (qM rfl (qM rfl (qM rfl ?_)))))))))))))))))
    by_cases k2:c.1=2
    ·have ea:qC7 c=some (c.2.2.2.2.2.1,c.2.2.2.2.2.2.1,c.2.2.2.2.2.1,c.2.2.2.2.2.2.1):=by unfold qC7;rw [if_pos k2]
     rw [ea] at e
     rw [if_pos k2] at hn
     refine qP (beq_iff_eq.2 k2) (qM hn (qP rfl (qP (qFZ (y:=(c.2.2.2.2.2.1,c.2.2.2.2.2.2.1,c.2.2.2.2.2.1,c.2.2.2.2.2.2.1)) hz) ?_)))
     dsimp only
     rw [w,e]
     simp [qA,qC,qF,qG,qH,qJ,Option.bind_some,qD,qE,qK,ql]
    ·rw [if_neg k2] at hn
     refine qAS (nb k2) ?_
     by_cases k3:c.1=3
     ·have ea:qC7 c=some (c.2.2.2.2.2.1,c.2.2.2.2.2.2.1,c.2.2.2.2.2.2.2.2.2.1,c.2.2.2.2.2.2.2.2.2.2.1):=by unfold qC7;rw [if_neg k2,if_pos k3]
      rw [ea] at e
      refine qP (beq_iff_eq.2 k3) (qM hn (qP rfl (qP (qFZ (y:=(c.2.2.2.2.2.1,c.2.2.2.2.2.2.1,c.2.2.2.2.2.2.2.2.2.1,c.2.2.2.2.2.2.2.2.2.2.1)) hz) ?_)))
      dsimp only
      rw [w,e]
      simp [qA,qC,qF,qG,qH,qJ,Option.bind_some,qD,qE,qK,ql]
     ·have ea:qC7 c=none:=by unfold qC7;rw [if_neg k2,if_neg k3]
      rw [ea] at e
      refine qAS (nb k3) ?_
      dsimp only
      rw [w,e]
      simp [qA,qC,qF,qG,qH,qJ,Option.bind_some,qD,qE,qK])
   (qAS (decide_eq_false (by simp)) (by rw [List.take_length];rfl)) (q+1) (by omega)
  rw [qDp] at h
  exact qM h rfl
theorem qFa (l:List Ar4) (hb:l.length≤60):Ev (qAY · (l.map ql) (l.map ql)) true:=by
 refine ⟨l.length+8,fun n hn=>?_⟩
 obtain ⟨m,rfl,hm⟩:=up1 hn
 obtain ⟨q,rfl⟩:∃q,m=q+3:=⟨m-3,by omega⟩
 simp only [qAY,qBi,qA,qC,qF,qG,qH,qJ,Option.bind_some,qD,qE,qK]
 have h:=qEQ (B:=qAR (q+3)) (rows:=l.map ql) (r:= .inr ())
  (fun i e he=>by
   rw [List.getElem?_map] at he
   obtain ⟨c,hc,rfl⟩:=Option.map_eq_some_iff.1 he
   have hi:i<l.length:=(List.getElem?_eq_some_iff.1 hc).1
   have hi':(i:Int)<l.length:=by omega
   have hw:IntKind.i64.wrap ((i:Int)+1)=(i:Int)+1:=qU (by omega)
   have hf:∀a b c d,qBG (q+3) a b c d a b c d=some true:=fun a b c d=>by simp [qBG,qB2,qAj,qBU,qA,qC,qF,qG,qH,qJ,Option.bind_some,qD,qE,qK]
   simp [qAR,qA,qC,qF,qG,qH,qJ,Option.bind_some,qD,qE,qK,hi',hc,ql,zE,hf,hw])
  (by simp [qAR,qA,qC,qF,qG,qH,qJ,Option.bind_some,qD,qE,qK]) l.length 0 (q+3) (by simp) (by omega)
 simp only [Int.natCast_zero] at h
 simp [h,qA,qC,qF,qG,qH,qJ,Option.bind_some,qD,qE,qK]
def qC8 (k:Int):List Ar4→List Ar4
 | []=> []
 |_::r=>(k,k+1,k+2,k+3)::qC8 (k+4) r
theorem qDR:∀(l:List Ar4) (k:Int),(qC8 k l).length=l.length
 | [],k=>rfl
 |_::r,k=>by simp [qC8,qDR r]
theorem qDt (n:Nat) (len:Nat) (hb:len≤1000):∀(r pre:List Ar4) (k:Int) (M:Nat),pre.length+r.length=len→1≤k→k+4*r.length≤1000000000000000→r.length+1≤M→
  zK (qAE n) M (len,k,(pre.length:Int),(pre++r).map ql)=some (k+4*r.length,(pre++qC8 k r).map ql)
 | [],pre,k,M,h1,h2,h3,h4=>by
  obtain ⟨M,rfl⟩:∃q,M=q+1:=⟨M-1,by simp at h4;omega⟩
  have hp:pre.length=len:=by simpa using h1
  rw [qN (r:=(k,pre.map ql)) (by simp [qAE,qA,qC,qF,qG,qH,qJ,Option.bind_some,qD,qE,qK,hp])]
  simp [qC8]
 |c::r,pre,k,M,h1,h2,h3,h4=>by
  obtain ⟨M,rfl⟩:∃q,M=q+1:=⟨M-1,by simp at h4;omega⟩
  simp only [List.length_cons] at h1 h3 h4
  have hi:(pre.length:Int)<len:=by omega
  have hl:((pre++c::r).map ql).length=len:=by simp;omega
  have hg:((pre++c::r).map ql)[pre.length]?=some (ql c):=by simp
  have hlt:pre.length<((pre++c::r).map ql).length:=by rw [hl];omega
  have w1:IntKind.i64.wrap (k+1)=k+1:=qU (by omega)
  have w2:IntKind.i64.wrap (k+1+1)=k+2:=by rw [qU (by omega)];omega
  have w3:IntKind.i64.wrap (k+2+1)=k+3:=by rw [qU (by omega)];omega
  have w4:IntKind.i64.wrap (k+3+1)=k+4:=by rw [qU (by omega)];omega
  have wi:IntKind.i64.wrap ((pre.length:Int)+1)=(pre.length:Int)+1:=qU (by omega)
  have e1:((pre++c::r).map ql).set pre.length (ql (k,k+1,k+2,k+3))=((pre++ [(k,k+1,k+2,k+3)])++r).map ql:=by
   rw [List.map_append,List.map_cons,List.set_append_right (h:=by simp)]
   simp
  rw [qj (v':=(len,k+4,((pre++ [(k,k+1,k+2,k+3)]).length:Int),((pre++ [(k,k+1,k+2,k+3)])++r).map ql)) (by
   rw [←e1]
   generalize ((pre++c::r).map ql)=acc at hl hg hlt
   have hset:∀x,(acc.set pre.length x)[pre.length]?=some x:=fun x=>List.getElem?_set_self hlt
   simp [qAE,qA,qC,qF,qG,qH,qJ,Option.bind_some,qD,qE,qK,hi,hl,hg,hset,ql,zA,w1,w2,w3,w4,wi])]
  rw [qDt n len hb r (pre++ [(k,k+1,k+2,k+3)]) (k+4) M (by simp;omega) (by omega) (by omega) (by omega)]
  simp [qC8]
  omega
theorem qE3 (l:List Ar4) (hb:l.length≤60):Ev (qAk · l.length 1 (l.map ql)) (1+4*l.length,(qC8 1 l).map ql):=by
 refine ⟨l.length+30,fun n hn=>?_⟩
 obtain ⟨m,rfl,hm⟩:=up1 hn
 have h:=qDt m l.length (by omega) l [] 1 m (by simp) (by decide) (by omega) (by omega)
 simp only [qAk,qBB,qA,qC,qF,qG,qH,qJ,Option.bind_some,qD,qE,qK]
 simp only [List.length_nil,Int.natCast_zero,List.nil_append] at h
 rw [h]
 simp [qA,qC,qF,qG,qH,qJ,Option.bind_some,qD,qE,qK]
theorem qDu (n:Nat):∀(r pre all:List Ar4) (k:Int) (M:Nat),all=pre++qC8 k r→all.length≤1000→1≤k→k+4*r.length≤1000000000000000→r.length+1≤M→
  zK (qAF n) M (all.map ql,k,(pre.length:Int))=some (.inr (k+4*r.length))
 | [],pre,all,k,M,h1,hb,h2,h3,h4=>by
  obtain ⟨M,rfl⟩:∃q,M=q+1:=⟨M-1,by simp at h4;omega⟩
  have hp:all.length=pre.length:=by rw [h1];simp [qC8]
  rw [qN (r:= .inr k) (by simp [qAF,qA,qC,qF,qG,qH,qJ,Option.bind_some,qD,qE,qK,hp])]
  simp
 |c::r,pre,all,k,M,h1,hb,h2,h3,h4=>by
  obtain ⟨M,rfl⟩:∃q,M=q+1:=⟨M-1,by simp at h4;omega⟩
  simp only [List.length_cons] at h3 h4
  have hlen:all.length=pre.length+(r.length+1):=by rw [h1];simp [qC8,qDR]
  have hg:all[pre.length]?=some (k,k+1,k+2,k+3):=by rw [h1];simp [qC8]
  have hi:(pre.length:Int)<all.length:=by omega
  have w1:IntKind.i64.wrap (k+1)=k+1:=qU (by omega)
  have w2:IntKind.i64.wrap (k+1+1)=k+2:=by rw [qU (by omega)];omega
  have w3:IntKind.i64.wrap (k+2+1)=k+3:=by rw [qU (by omega)];omega
  have w4:IntKind.i64.wrap (k+3+1)=k+4:=by rw [qU (by omega)];omega
  have wi:IntKind.i64.wrap ((pre.length:Int)+1)=(pre.length:Int)+1:=qU (by omega)
  rw [qj (v':=(all.map ql,k+4,((pre++ [(k,k+1,k+2,k+3)]).length:Int))) (by
   simp [qAF,qA,qC,qF,qG,qH,qJ,Option.bind_some,qD,qE,qK,hi,hg,ql,zE,w1,w2,w3,w4,wi])]
  rw [qDu n r (pre++ [(k,k+1,k+2,k+3)]) all (k+4) M (by rw [h1];simp [qC8]) hb (by omega) (by omega) (by omega)]
  simp
  omega
theorem qE4 (l:List Ar4) (hb:l.length≤60):Ev (qAZ · ((qC8 1 l).map ql) 1) (1+4*l.length):=by
 refine ⟨l.length+5,fun n hn=>?_⟩
 obtain ⟨m,rfl,hm⟩:=up1 hn
 have h:=qDu m l [] (qC8 1 l) 1 m (by simp) (by rw [qDR];omega) (by decide) (by omega) (by omega)
 simp only [List.length_nil,Int.natCast_zero] at h
 simp only [qAZ,qBC,qA,qC,qF,qG,qH,qJ,Option.bind_some,qD,qE,qK]
 rw [h]
 simp [qA,qC,qF,qG,qH,qJ,Option.bind_some,qD,qE,qK]
theorem qF5 (m sz ty:Nat) (g:List Ar4):zz (⟨(.c (.own 0 0 0 m)),[],[⟨0,sz,ty,.row (g.map ql)⟩]⟩:Res)=true:=by
 simp only [zz,AV.cvs,List.all_cons,List.all_nil,zGq,zFN,Bool.and_true,Bool.true_and,List.all_map]
 exact List.all_eq_true.2 fun c _=>rfl
theorem law (rows:List (List PV)) (w:rows.length*120≤140737488351232∧∀r∈rows,okR [.i .i64,.i .i64,.i .i64,.i .i64,.s,.i .i64,.i .i64,.b,.b,.i .i64,.i .i64,.b,.b,.sl 8 [.i .i64]] r):Ev (qA9 · rows) true:=by
 obtain ⟨l,rfl,hs⟩:=qF6 w.2
 have hl:l.length*120≤140737488351232:=by simpa using w.1
 have hk:∀c∈l,(kd c).length≤140737488351232∧c.2.2.2.2.1.size≤140737488351232:=fun c hc=>⟨by have:=(hs c hc).2;omega,(hs c hc).1⟩
 obtain ⟨n1,t1⟩:=qFH l hl (fun c hc=>(hs c hc).2)
 have eL:decide ((l.length:Nat)=(l.map qV).length)=true:=decide_eq_true (by simp)
 have hp:=qDP l hk
 have hi:=qDQ l (by omega) hk
 have hg:=qFr l
 generalize qCE l=g at hp hi hg
 have eG:decide ((g.length:Nat)=(g.map ql).length)=true:=decide_eq_true (by simp)
 have eM:decide ((g.length:Nat)=((qC8 1 g).map ql).length)=true:=decide_eq_true (by rw [List.length_map,qDR])
 obtain ⟨n2,hp⟩:=hp
 obtain ⟨n3,hi⟩:=hi
 obtain ⟨n4,hq⟩:=qFa g hg
 obtain ⟨n5,hm⟩:=qE3 g hg
 obtain ⟨n6,hh⟩:=qE4 g hg
 obtain ⟨n7,hf⟩:=qDl l (by omega) (fun c hc=>(hk c hc).1)
 have ap:=qF5 g.length 4 49 g
 refine ⟨n1+n2+n3+n4+n5+n6+n7+qBo l+l.length+50,fun n hn=>?_⟩
 obtain ⟨m,rfl,hmm⟩:=up1 hn
 have t1:=t1 m (by omega)
 have hp:=hp m (by omega)
 have hi:=hi m (by omega)
 have hq:=hq m (by omega)
 have hm:=hm m (by omega)
 have hh:=hh m (by omega)
 have hf:=hf m (by omega)
 obtain ⟨r,hr,hz⟩:=qFJ l (by omega) hk m (by omega)
 refine qM hr ?_
 by_cases h0:r<0
 ·exact qP (decide_eq_true h0) rfl
 obtain ⟨b1,b2⟩:=hz (by omega)
 obtain ⟨A',hA⟩:=qEP l b1 b2 m (by omega)
 have hk0:decide ((1:Int)+(qEO l:Int)<0)=false:=decide_eq_false (by omega)
 have hlt:decide ((1:Int)+4*(g.length:Int)<0)=false:=decide_eq_false (by omega)
 refine qAS (decide_eq_false h0) (qM t1 (qP eL (qM hp (qP ap (qM t1 (qP eL (qM hi (qP ap (qP eG (qP eG (qM hq (qP (qD _) (qAS rfl ?_)))))))))))))
 refine qM t1 (qP eL (qP eL (qM hf (qP (qD _) (qAS rfl (qP eL (qM hA (qAS hk0 ?_))))))))
 refine qP eG (qP eG (qM hq (qP (qD _) (qAS rfl (qP eG (qM hm (qP eM (qM hh (qP (qE _) (qAS hlt (qAS (bne_self_eq_false' _) ?_)))))))))))
 refine qM t1 (qP eL (qM hi (qP ap (qP eG (qP eG (qM hq (qP (qD _) (qAS rfl ?_))))))))
 exact qP eM (qM hh (qP (qE _) (qAS hlt (qAS (bne_self_eq_false' _) rfl))))
end Go.Proofs.Ytaannlnlddbgdab.KFnExactAreasOf

