import Derived.Test.YtilkdjfhbahhdaaTFnExactOpened
import Derived.Test.YtilkdjfhbahhdaaE32
import Derived.Lib.Strings
namespace Go.Proofs.Ytilkdjfhbahhdaa.KFnExactOpened
open Go.Eng
set_option linter.unusedVariables false
set_option linter.unusedSimpArgs false
def Ev {R:Type} (F:Nat→Option R) (r:R):Prop:=∃n0,∀n,n0≤n→F n=some r
theorem qGj (s:BA):s.toList.length=s.size:=by rw [Go.Lib.toList_data];rfl
theorem qDg:(ByteArray.mk #[]).toList= []:=by decide+kernel
theorem qi {x:Int} (h: -9223372036854775808≤x∧x≤9223372036854775807):IntKind.i64.wrap x=x:=by
 unfold IntKind.wrap
 have e1:(2:Int)^(64-1)=9223372036854775808:=by decide
 have e2:(2:Int)^64=18446744073709551616:=by decide
 simp only [IntKind.signed,IntKind.bits,Bool.true_and,decide_eq_true_eq,e1,e2]
 split<;>omega
theorem qF4 {s:BA} {i:Nat} (h:i<s.size):∃c,s.toList[i]?=some c:=⟨_,zb (by rw [qGj];exact h)⟩
theorem qDE {α:Type} {s:List α} {i:Nat} {c:α} (h:s[i]?=some c):s.drop i=c::s.drop (i+1):=by
 obtain ⟨h1,rfl⟩:=List.getElem?_eq_some_iff.1 h
 exact List.drop_eq_getElem_cons h1
theorem qp {V R:Type} {B:V→Tr (V⊕R)} {m:Nat} {v v':V} (h:(B v).run=some (.inl v')):zO B (m+1) v=zO B m v':=by simp only [zO,h]
theorem qR {V R:Type} {B:V→Tr (V⊕R)} {m:Nat} {v:V} {r:R} (h:(B v).run=some (.inr r)):zO B (m+1) v=some r:=by simp only [zO,h]
theorem up1 {n n0:Nat} (h:n0+1≤n):∃m,n=m+1∧n0≤m:=⟨n-1,by omega,by omega⟩
theorem qA {α:Type} (x:α):(Tr.done x).run=some x:=rfl
theorem qC {α:Type}:(Tr.fail:Tr α).run=none:=rfl
theorem qF {α:Type} (b:Bool) (t f:Tr α):(Tr.ask b t f).run=if b=true then t.run else f.run:=by cases b<;>rfl
theorem qG {α β:Type} (o:Option β) (k:β→Tr α):(Tr.opt o k).run=o.bind fun x=>(k x).run:=by cases o<;>rfl
theorem qH {α β γ:Type} (x:β) (k:β→Tr α) (l:γ→Tr α):(Tr.alt (.inl x) k l).run=(k x).run:=rfl
theorem qJ {α β γ:Type} (x:γ) (k:β→Tr α) (l:γ→Tr α):(Tr.alt (.inr x) k l).run=(l x).run:=rfl
theorem qAn {α R:Type} {F:α→Nat→Option R} {f:α→R}:∀(l:List α),(∀c∈l,Ev (F c) (f c))→∃n0,∀n,n0≤n→∀c∈l,F c n=some (f c)
 | [],_=>⟨0,fun n _ c hc=>by cases hc⟩
 |a::l,h=>by
  obtain ⟨n1,h1⟩:=h a (List.mem_cons_self ..)
  obtain ⟨n2,h2⟩:=qAn l fun c hc=>h c (List.mem_cons_of_mem _ hc)
  exact ⟨n1+n2,fun n hn c hc=>by
   rcases List.mem_cons.1 hc with rfl|hc
   ·exact h1 n (by omega)
   ·exact h2 n (by omega) c hc⟩
theorem qF5 {R:Type} {B:List (List PV)×Nat×Int×List (List PV)→Tr ((List (List PV)×Nat×Int×List (List PV))⊕R)} {rows:List (List PV)} {z:List PV} {r:List (List PV)→R}
  (hs:∀(i:Nat) (acc:List (List PV)) (e:List PV),rows[i]?=some e→acc.length=rows.length→acc[i]?=some z→(B (rows,rows.length,(i:Int),acc)).run=some (.inl (rows,rows.length,((i+1:Nat):Int),acc.set i e)))
  (he:∀acc:List (List PV),acc.length=rows.length→(B (rows,rows.length,(rows.length:Int),acc)).run=some (.inr (r acc))):
  ∀(m i M:Nat),rows.length=i+m→m+1≤M→zO B M (rows,rows.length,(i:Int),rows.take i++zAS z m)=some (r rows)
 |m,i,0,h1,h2=>by omega
 |0,i,M+1,h1,h2=>by
  have hi:i=rows.length:=by omega
  subst hi
  have e:rows.take rows.length++zAS z 0=rows:=by simp [zAS]
  rw [e,qR (he rows rfl)]
 |m+1,i,M+1,h1,h2=>by
  have hl:i<rows.length:=by omega
  have hg:=zb hl
  have hlen:(rows.take i++zAS z (m+1)).length=rows.length:=by simp [zAS];omega
  have hz:(rows.take i++zAS z (m+1))[i]?=some z:=by
   rw [List.getElem?_append_right (by simp;omega)]
   simp [zAS,Nat.min_eq_left (Nat.le_of_lt hl)]
  rw [qp (hs i _ _ hg hlen hz)]
  have e:(rows.take i++zAS z (m+1)).set i rows[i]=rows.take (i+1)++zAS z m:=by
   have hx:zAS z (m+1)=z::zAS z m:=by simp [zAS,List.replicate_succ]
   rw [hx,List.set_append_right (h:=by simp;omega)]
   have:i-(rows.take i).length=0:=by simp;omega
   rw [this,List.set_cons_zero,show rows.take (i+1)=rows.take i++ [rows[i]] from by rw [List.take_add_one,hg];rfl,List.append_assoc]
   rfl
  rw [e]
  exact qF5 hs he m (i+1) M (by omega) (by omega)
theorem qGP {R:Type} {B:List (List PV)×Nat×Int×List (List PV)→Tr ((List (List PV)×Nat×Int×List (List PV))⊕R)} {rows:List (List PV)} {z:List PV} {r:List (List PV)→R} {M:Nat}
  (hs:∀(i:Nat) (acc:List (List PV)) (e:List PV),rows[i]?=some e→acc.length=rows.length→acc[i]?=some z→(B (rows,rows.length,(i:Int),acc)).run=some (.inl (rows,rows.length,((i+1:Nat):Int),acc.set i e)))
  (he:∀acc:List (List PV),acc.length=rows.length→(B (rows,rows.length,(rows.length:Int),acc)).run=some (.inr (r acc))) (hM:rows.length+1≤M):
  zO B M (rows,rows.length,0,zAS z rows.length)=some (r rows):=by
 have:=qF5 (B:=B) hs he rows.length 0 M (by omega) hM
 simpa using this
theorem qGK {R:Type} {B:List (List PV)×List (List PV)×Int→Tr ((List (List PV)×List (List PV)×Int)⊕R)} {rows:List (List PV)} {r:R}
  (hs:∀(i:Nat) (e:List PV),rows[i]?=some e→(B (rows,rows,(i:Int))).run=some (.inl (rows,rows,((i+1:Nat):Int)))) (he:(B (rows,rows,(rows.length:Int))).run=some (.inr r)):
  ∀(m i M:Nat),rows.length=i+m→m+1≤M→zO B M (rows,rows,(i:Int))=some r
 |m,i,0,h1,h2=>by omega
 |0,i,M+1,h1,h2=>by
  have hi:i=rows.length:=by omega
  subst hi
  rw [qR he]
 |m+1,i,M+1,h1,h2=>by
  have hg:=zb (l:=rows) (i:=i) (by omega)
  rw [qp (hs i _ hg)]
  exact qGK hs he m (i+1) M (by omega) (by omega)
theorem qFS {α:Type} {enc:α→List PV} {P:α→Prop} {sh:List Sh} (hd:∀e,okR sh e→∃a,e=enc a∧P a):∀{rows:List (List PV)},(∀e∈rows,okR sh e)→∃l:List α,rows=l.map enc∧∀a∈l,P a
 | [],_=>⟨[],rfl,fun a h=>by cases h⟩
 |e::rows,h=>by
  obtain ⟨a,rfl,ha⟩:=hd e (h e (List.mem_cons_self ..))
  obtain ⟨l,rfl,hl⟩:=qFS hd fun e he=>h e (List.mem_cons_of_mem _ he)
  exact ⟨a::l,rfl,fun b hb=>by
   rcases List.mem_cons.1 hb with rfl|hb
   ·exact ha
   ·exact hl b hb⟩
theorem qM {α β:Type} {o:Option β} {x:β} {k:β→Tr α} {y:Option α} (h:o=some x) (h2:(k x).run=y):(Tr.opt o k).run=y:=by rw [h];exact h2
theorem qO {α:Type} {b:Bool} {t f:Tr α} {y:Option α} (h:b=true) (h2:t.run=y):(Tr.ask b t f).run=y:=by rw [h];exact h2
theorem qW {α:Type} {b:Bool} {t f:Tr α} {y:Option α} (h:b=false) (h2:f.run=y):(Tr.ask b t f).run=y:=by rw [h];exact h2
theorem qD (b:Bool):zc (⟨(.c (.p (.b b))),[],[]⟩:Res)=true:=rfl
theorem qE (x:Int):zc (⟨(.c (.p (.i .i64 x))),[],[]⟩:Res)=true:=rfl
theorem qK (x:BA):zc (⟨(.c (.p (.s x))),[],[]⟩:Res)=true:=rfl
theorem qAO (x lo hi:Int):Ev (qc · x lo hi) (decide (lo≤x∧x≤hi)):=by
 refine ⟨1,fun n hn=>?_⟩
 obtain ⟨m,rfl,hm⟩:=up1 hn
 simp only [qc,qB5,qA,qC,qF,qG,qH,qJ,zG,qD,qE,qK]
 by_cases h:x≥lo<;>simp [h]
theorem qf (x lo hi:Int):Ev (qb · x lo hi) (decide (lo≤x∧x≤hi)):=by
 refine ⟨1,fun n hn=>?_⟩
 obtain ⟨m,rfl,hm⟩:=up1 hn
 simp only [qb,qCP,qA,qC,qF,qG,qH,qJ,zG,qD,qE,qK]
 by_cases h:x≥lo<;>simp [h]
def okc (c:UInt8):Bool:=decide (32≤c.toNat∧c.toNat≤126)
def qDh (s:BA) (most:Int):Bool:=s.toList.all okc&&decide ((s.size:Int)≤most)
def okV (k n:Int) (s:BA):Bool:=
 if k=2 then decide (n=0)&&qDh s 200 else (s.toList== [])&&(if k=0 then decide (n=0) else if k=1 then decide (-1000000000000000≤n∧n≤1000000000000000) else if k=3 then decide (0≤n∧n≤1) else if k=4 then decide (1≤n∧n≤5) else false)
theorem qDt (n:Nat) (s:BA) (hb:s.size≤140737488355328):∀(m i M:Nat),s.size=i+m→m+1≤M→
  zO (qt n) M (s,(i:Int))=some (if (s.toList.drop i).all okc then .inr s else .inl false)
 |m,i,0,h1,h2=>by omega
 |0,i,M+1,h1,h2=>by
  rw [qR (r:= .inr s) (by simp [qt,qA,qC,qF,qG,qH,qJ,zG,qD,qE,qK,show ¬((i:Int)<s.size) by omega])]
  rw [List.drop_eq_nil_of_le (by rw [qGj];omega)]
  rfl
 |m+1,i,M+1,h1,h2=>by
  obtain ⟨c,hc⟩:=qF4 (s:=s) (i:=i) (by omega)
  have hi:(i:Int)<s.size:=by omega
  rw [qDE hc]
  by_cases c1:(c.toNat:Int)<32
  ·rw [qR (r:= .inl false) (by simp [qt,qA,qC,qF,qG,qH,qJ,zG,qD,qE,qK,hi,hc,c1])]
   have:okc c=false:=by simp [okc];omega
   simp [this]
  ·by_cases c2:(c.toNat:Int)>126
   ·rw [qR (r:= .inl false) (by simp [qt,qA,qC,qF,qG,qH,qJ,zG,qD,qE,qK,hi,hc,c1,c2])]
    have:okc c=false:=by simp [okc];omega
    simp [this]
   ·have hw:IntKind.i64.wrap ((i:Int)+1)=((i+1:Nat):Int):=by rw [qi (by omega)];omega
    rw [qp (v':=(s,((i+1:Nat):Int))) (by simp [qt,qA,qC,qF,qG,qH,qJ,zG,qD,qE,qK,hi,hc,c1,c2,hw])]
    rw [qDt n s hb m (i+1) M (by omega) (by omega)]
    have:okc c=true:=by simp [okc];omega
    simp [this]
theorem qEF (s:BA) (hb:s.size≤140737488355328):Ev (qAr · s) (qDh s 200):=by
 refine ⟨s.size+2,fun n hn=>?_⟩
 obtain ⟨m,rfl,hm⟩:=up1 hn
 have h:=qDt m s hb s.size 0 m (by omega) (by omega)
 simp only [qAr,qBs,qA,qC,qF,qG,qH,qJ,zG,qD,qE,qK]
 simp only [Int.natCast_zero,List.drop_zero] at h
 rw [h]
 cases hc:s.toList.all okc<;>simp [qA,qC,qF,qG,qH,qJ,zG,qD,qE,qK,qDh,hc]
theorem qEo (s:BA) (hb:s.size≤140737488351232):Ev (qAr · s) (qDh s 200):=qEF s (by omega)
theorem qEQ (n:Nat) (s:BA) (y:Int) (hb:s.size≤140737488355328):∀(m i M:Nat),s.size=i+m→m+1≤M→
  zO (qAK n) M (s,y,(s.size:Int),(i:Int))=some (if (s.toList.drop i).all okc then .inr (s,y) else .inl false)
 |m,i,0,h1,h2=>by omega
 |0,i,M+1,h1,h2=>by
  rw [qR (r:= .inr (s,y)) (by simp [qAK,qA,qC,qF,qG,qH,qJ,zG,qD,qE,qK,show ¬((i:Int)<s.size) by omega])]
  rw [List.drop_eq_nil_of_le (by rw [qGj];omega)]
  rfl
 |m+1,i,M+1,h1,h2=>by
  obtain ⟨c,hc⟩:=qF4 (s:=s) (i:=i) (by omega)
  have hi:(i:Int)<s.size:=by omega
  rw [qDE hc]
  by_cases c1:(c.toNat:Int)<32
  ·rw [qR (r:= .inl false) (by simp [qAK,qA,qC,qF,qG,qH,qJ,zG,qD,qE,qK,hi,hc,c1])]
   have:okc c=false:=by simp [okc];omega
   simp [this]
  ·by_cases c2:(c.toNat:Int)>126
   ·rw [qR (r:= .inl false) (by simp [qAK,qA,qC,qF,qG,qH,qJ,zG,qD,qE,qK,hi,hc,c1,c2])]
    have:okc c=false:=by simp [okc];omega
    simp [this]
   ·have hw:IntKind.i64.wrap ((i:Int)+1)=((i+1:Nat):Int):=by rw [qi (by omega)];omega
    rw [qp (v':=(s,y,(s.size:Int),((i+1:Nat):Int))) (by simp [qAK,qA,qC,qF,qG,qH,qJ,zG,qD,qE,qK,hi,hc,c1,c2,hw])]
    rw [qEQ n s y hb m (i+1) M (by omega) (by omega)]
    have:okc c=true:=by simp [okc];omega
    simp [this]
theorem qEp (s:BA) (y:Int) (hb:s.size≤140737488355328):Ev (qA2 · s y) (qDh s y):=by
 refine ⟨s.size+2,fun n hn=>?_⟩
 obtain ⟨m,rfl,hm⟩:=up1 hn
 have h:=qEQ m s y hb s.size 0 m (by omega) (by omega)
 simp only [qA2,qCQ,qA,qC,qF,qG,qH,qJ,zG,qD,qE,qK]
 simp only [Int.natCast_zero,List.drop_zero] at h
 rw [h]
 cases hc:s.toList.all okc<;>simp [qA,qC,qF,qG,qH,qJ,zG,qD,qE,qK,qDh,hc]
theorem qFT (s:BA) (y:Int) (hb:s.size≤140737488351232):Ev (qA2 · s y) (qDh s y):=qEp s y (by omega)
theorem qEq (k x:Int) (s:BA) (hb:s.size≤140737488351232):Ev (qBD · k x s) (okV k x s):=by
 obtain ⟨n1,h1⟩:=qAO x (-1000000000000000) 1000000000000000
 obtain ⟨n2,h2⟩:=qAO x 0 1
 obtain ⟨n3,h3⟩:=qAO x 1 5
 obtain ⟨n4,h4⟩:=qEo s hb
 refine ⟨n1+n2+n3+n4+1,fun n hn=>?_⟩
 obtain ⟨m,rfl,hm⟩:=up1 hn
 have h1:=h1 m (by omega)
 dsimp only at h1
 have h2:=h2 m (by omega)
 dsimp only at h2
 have h3:=h3 m (by omega)
 dsimp only at h3
 have h4:=h4 m (by omega)
 dsimp only at h4
 simp only [qBD,qBt,qA,qC,qF,qG,qH,qJ,zG,qD,qE,qK,h1,h2,h3,h4]
 simp only [okV,qDg]
 by_cases k2:k=2
 ·subst k2
  by_cases x0:x=0<;>simp [x0]
 ·by_cases k0:k=0
  ·subst k0
   by_cases x0:x=0<;>simp [x0]
  ·by_cases k1:k=1
   ·subst k1
    by_cases hx: -1000000000000000≤x∧x≤1000000000000000<;>simp [hx]
   ·by_cases k3:k=3
    ·subst k3
     by_cases hx:0≤x∧x≤1<;>simp [hx]
    ·by_cases k4:k=4
     ·subst k4
      by_cases hx:1≤x∧x≤5<;>simp [hx]
     ·simp [k0,k1,k2,k3,k4]
theorem qEr (k x:Int) (s:BA) (hb:s.size≤140737488351232):Ev (qBF · k x s) (okV k x s):=by
 obtain ⟨n1,h1⟩:=qf x (-1000000000000000) 1000000000000000
 obtain ⟨n2,h2⟩:=qf x 0 1
 obtain ⟨n3,h3⟩:=qf x 1 5
 obtain ⟨n4,h4⟩:=qFT s 200 hb
 refine ⟨n1+n2+n3+n4+1,fun n hn=>?_⟩
 obtain ⟨m,rfl,hm⟩:=up1 hn
 have h1:=h1 m (by omega)
 dsimp only at h1
 have h2:=h2 m (by omega)
 dsimp only at h2
 have h3:=h3 m (by omega)
 dsimp only at h3
 have h4:=h4 m (by omega)
 dsimp only at h4
 simp only [qBF,qBx,qA,qC,qF,qG,qH,qJ,zG,qD,qE,qK,h1,h2,h3,h4]
 simp only [okV,qDg]
 by_cases k2:k=2
 ·subst k2
  by_cases x0:x=0<;>simp [x0]
 ·by_cases he:s.toList= []
  ·by_cases k0:k=0
   ·subst k0
    by_cases x0:x=0<;>simp [x0,he]
   ·by_cases k1:k=1
    ·subst k1;simp [he]
    ·by_cases k3:k=3
     ·subst k3;simp [he]
     ·by_cases k4:k=4
      ·subst k4;simp [he]
      ·simp [k0,k1,k2,k3,k4,he]
  ·simp [k2,he]
def em:BA:=⟨#[]⟩
theorem qEs (x:Int):Ev (qBE · x) (4,x,em):=by
 refine ⟨1,fun n hn=>?_⟩
 obtain ⟨m,rfl,hm⟩:=up1 hn
 simp only [qBE,qBw,qA,qC,qF,qG,qH,qJ,zG,qD,qE,qK]
 rfl
theorem qF0 (x:Int):Ev (qBI · x) (4,x,em):=by
 refine ⟨1,fun n hn=>?_⟩
 obtain ⟨m,rfl,hm⟩:=up1 hn
 simp only [qBI,qCi,qA,qC,qF,qG,qH,qJ,zG,qD,qE,qK]
 rfl
def qA0 (c r:Int):Bool:=decide (1≤c∧c≤52)&&decide (1≤r∧r≤99)
def qA9 (a b c d:Int):Bool:=qA0 a b&&qA0 c d&&decide (a≤c)&&decide (b≤d)
theorem qCV (c r:Int):Ev (qAz · c r) (qA0 c r):=by
 obtain ⟨n1,h1⟩:=qAO c 1 52
 obtain ⟨n2,h2⟩:=qAO r 1 99
 refine ⟨n1+n2+1,fun n hn=>?_⟩
 obtain ⟨m,rfl,hm⟩:=up1 hn
 have h1:=h1 m (by omega)
 dsimp only at h1
 have h2:=h2 m (by omega)
 dsimp only at h2
 simp only [qAz,qCd,qA,qC,qF,qG,qH,qJ,zG,qD,qE,qK,h1,h2]
 unfold qA0
 cases decide (1≤c∧c≤52)<;>simp
theorem qDP (c r:Int):Ev (qBG · c r) (qA0 c r):=by
 obtain ⟨n1,h1⟩:=qf c 1 52
 obtain ⟨n2,h2⟩:=qf r 1 99
 refine ⟨n1+n2+1,fun n hn=>?_⟩
 obtain ⟨m,rfl,hm⟩:=up1 hn
 have h1:=h1 m (by omega)
 dsimp only at h1
 have h2:=h2 m (by omega)
 dsimp only at h2
 simp only [qBG,qCf,qA,qC,qF,qG,qH,qJ,zG,qD,qE,qK,h1,h2]
 unfold qA0
 cases decide (1≤c∧c≤52)<;>simp
theorem qFU (a b c d:Int):Ev (qBS · a b c d) (qA9 a b c d):=by
 obtain ⟨n1,h1⟩:=qCV a b
 obtain ⟨n2,h2⟩:=qCV c d
 refine ⟨n1+n2+1,fun n hn=>?_⟩
 obtain ⟨m,rfl,hm⟩:=up1 hn
 have h1:=h1 m (by omega)
 dsimp only at h1
 have h2:=h2 m (by omega)
 dsimp only at h2
 simp only [qBS,qCD,qA,qC,qF,qG,qH,qJ,zG,qD,qE,qK,h1,h2]
 unfold qA9
 cases qA0 a b<;>cases qA0 c d<;>by_cases h:a≤c<;>simp [h]
theorem qBM (a b c d:Int):Ev (qA3 · a b c d) (qA9 a b c d):=by
 obtain ⟨n1,h1⟩:=qDP a b
 obtain ⟨n2,h2⟩:=qDP c d
 refine ⟨n1+n2+1,fun n hn=>?_⟩
 obtain ⟨m,rfl,hm⟩:=up1 hn
 have h1:=h1 m (by omega)
 dsimp only at h1
 have h2:=h2 m (by omega)
 dsimp only at h2
 simp only [qA3,qCR,qA,qC,qF,qG,qH,qJ,zG,qD,qE,qK,h1,h2]
 unfold qA9
 cases qA0 a b<;>cases qA0 c d<;>by_cases h:a≤c<;>simp [h]
def qG9 (x y:Int):Int:=if x<y then-1 else if x>y then 1 else 0
def qHK (x y:BA):Int:=if Op.bytesLess x.toList y.toList=true then-1 else if x.toList=y.toList then 0 else 1
def qGm:List Int→Int
 | []=>0
 |x::r=>if x≠0 then x else qGm r
def qHL (k x:Int) (s:BA) (k' x':Int) (s':BA):Int:=qGm [qG9 k k',qG9 x x',qHK s s']
def qHA (op o:Int):Bool:=if op=6 then o==0 else if op=7 then o !=0 else if op=8 then decide (o<0) else if op=9 then decide (o≤0) else if op=10 then decide (o>0) else decide (o≥0)
def qHJ (op k x:Int) (s:BA) (k' x':Int) (s':BA):Int×Int×BA:=
 if okV k x s=true∧okV k' x' s'=true∧6≤op∧op≤11 then
  (if k=4 then (k,x,s) else if k'=4 then (k',x',s') else (3,if qHA op (qHL (if k=0 then k' else k) x s (if k'=0 then k else k') x' s')=true then 1 else 0,em))
 else (4,2,em)
theorem qDQ (n:Nat):∀(f:Nat) (v:Int×BA),v.1<10^f→v.1≤9223372036854775807→v.2.size+f≤1000→∃t:BA,t.size≤v.2.size+f∧∀M,f+1≤M→zO (qAL n) M v=some t
 |f,v,h1,h1',h2=>by
  by_cases h0:v.1>0
  ·cases f with
   |zero=>simp at h1;omega
   |succ f=>
    have e1:Int.tdiv v.1 10=v.1/10:=Int.tdiv_eq_ediv_of_nonneg (by omega)
    have hw:IntKind.i64.wrap (Int.tdiv v.1 10)=v.1/10:=by rw [e1];exact qi (by omega)
    have h3:v.1/10<10^f:=by
     have:(10:Int)^(f+1)=10^f*10:=Int.pow_succ 10 f
     omega
    let d:BA:=⟨#[UInt8.ofNat (IntKind.u8.wrap (IntKind.i64.wrap ((48:Int)+(Int.tmod v.1 (10:Int))))).toNat]⟩
    have hs:(d++v.2).size=v.2.size+1:=by rw [zLT];show 1+v.2.size=_;omega
    obtain ⟨t,h4,h5⟩:=qDQ n f (v.1/10,d++v.2) h3 (by show v.1/10≤_;omega) (by show (d++v.2).size+f≤1000;omega)
    refine ⟨t,by have:t.size≤(d++v.2).size+f:=h4;omega,fun M hM=>?_⟩
    obtain ⟨M,rfl⟩:∃q,M=q+1:=⟨M-1,by omega⟩
    rw [qp (v':=(v.1/10,d++v.2)) (by
     have hd:d.size=1:=rfl
     have hc:d.size+v.2.size≤9223372036854775807:=by omega
     simp only [qAL,qA,qC,qF,qG,qH,qJ,zG,qD,qE,qK,bytesOf,Option.map_some,hw]
     rw [if_pos (by simpa using h0),if_pos (by simp),if_pos (by simpa using hc)])]
    exact h5 M (by omega)
  ·refine ⟨v.2,by omega,fun M hM=>?_⟩
   obtain ⟨M,rfl⟩:∃q,M=q+1:=⟨M-1,by omega⟩
   rw [qR (r:=v.2) (by
    simp only [qAL,qA,qC,qF,qG,qH,qJ,zG,qD,qE,qK]
    rw [if_neg (by simpa using h0)])]
theorem qER (k:Int) (h:1≤k∧k≤9223372036854775807):∃t:BA,∀n,25≤n→qAH n k=some t:=by
 have p19:(10:Int)^19=10000000000000000000:=by decide
 obtain ⟨t,h1,h2⟩:=qDQ 0 19 (k,⟨#[]⟩) (by show k<10^19;omega) h.2 (by show (0:Nat)+19≤1000;decide)
 refine ⟨⟨#[109]⟩++t,fun n hn=>?_⟩
 obtain ⟨m,rfl,hm⟩:=up1 hn
 have h3:zO (qAL m) m (k,⟨#[]⟩)=some t:=h2 m (by omega)
 simp only [qAH,qBh,qA,qC,qF,qG,qH,qJ,zG,qD,qE,qK,h3]
 have h1:t.size≤19:=h1
 have hd:(⟨#[109]⟩:BA).size=1:=rfl
 rw [if_neg (by simp;omega),if_pos (by simp only [decide_eq_true_eq,hd];omega)]
noncomputable def mtx (k:Int):BA:=if h:1≤k∧k≤9223372036854775807 then Classical.choose (qER k h) else ⟨#[]⟩
theorem qGw {k:Int} (h:1≤k∧k≤9223372036854775807) {n:Nat} (hn:25≤n):qAH n k=some (mtx k):=by
 unfold mtx
 rw [dif_pos h]
 exact Classical.choose_spec (qER k h) n hn
abbrev Nd:=Int×Int×Int×Int×BA×Int×Int×Bool×Bool×Int×Int×Bool×Bool×List Int
def qY (x:Int):List PV:= [.i .i64 x]
def qN (c:Nd):List PV:= [.i .i64 c.1,.i .i64 c.2.1,.i .i64 c.2.2.1,.i .i64 c.2.2.2.1,.s c.2.2.2.2.1,.i .i64 c.2.2.2.2.2.1,.i .i64 c.2.2.2.2.2.2.1,.b c.2.2.2.2.2.2.2.1,.b c.2.2.2.2.2.2.2.2.1,.i .i64 c.2.2.2.2.2.2.2.2.2.1,.i .i64 c.2.2.2.2.2.2.2.2.2.2.1,.b c.2.2.2.2.2.2.2.2.2.2.2.1,.b c.2.2.2.2.2.2.2.2.2.2.2.2.1,.ls ((c.2.2.2.2.2.2.2.2.2.2.2.2.2).map qY)]
def kd (c:Nd):List Int:=c.2.2.2.2.2.2.2.2.2.2.2.2.2
theorem qGQ {l:List Int} {i:Nat} {e:List PV} (h:(l.map qY)[i]?=some e):∃c,l[i]?=some c∧e=qY c:=by
 rw [List.getElem?_map] at h
 obtain ⟨c,h1,h2⟩:=Option.map_eq_some_iff.1 h
 exact ⟨c,h1,h2.symm⟩
theorem qGR {l:List Nd} {i:Nat} {e:List PV} (h:(l.map qN)[i]?=some e):∃c,l[i]?=some c∧e=qN c:=by
 rw [List.getElem?_map] at h
 obtain ⟨c,h1,h2⟩:=Option.map_eq_some_iff.1 h
 exact ⟨c,h1,h2.symm⟩
theorem qG1 {rows:List (List PV)} (h:∀e∈rows,okR [.i .i64,.i .i64,.i .i64,.i .i64,.s,.i .i64,.i .i64,.b,.b,.i .i64,.i .i64,.b,.b,.sl 8 [.i .i64]] e):∃l:List Nd,rows=l.map qN∧∀c∈l,c.2.2.2.2.1.size≤140737488351232∧(kd c).length*8≤140737488351232:=by
 refine qFS (fun e h=>?_) h
 obtain ⟨c0,t0,rfl,p0,h0⟩:=zi h
 obtain ⟨c1,t1,rfl,p1,h1⟩:=zi h0
 obtain ⟨c2,t2,rfl,p2,h2⟩:=zi h1
 obtain ⟨c3,t3,rfl,p3,h3⟩:=zi h2
 obtain ⟨c4,t4,rfl,p4,h4⟩:=zi h3
 obtain ⟨c5,t5,rfl,p5,h5⟩:=zi h4
 obtain ⟨c6,t6,rfl,p6,h6⟩:=zi h5
 obtain ⟨c7,t7,rfl,p7,h7⟩:=zi h6
 obtain ⟨c8,t8,rfl,p8,h8⟩:=zi h7
 obtain ⟨c9,t9,rfl,p9,h9⟩:=zi h8
 obtain ⟨c10,t10,rfl,p10,h10⟩:=zi h9
 obtain ⟨c11,t11,rfl,p11,h11⟩:=zi h10
 obtain ⟨c12,t12,rfl,p12,h12⟩:=zi h11
 obtain ⟨c13,t13,rfl,p13,h13⟩:=zi h12
 obtain rfl:=zCp h13
 obtain ⟨x0,rfl,w0⟩:=zBk p0
 obtain ⟨x1,rfl,w1⟩:=zBk p1
 obtain ⟨x2,rfl,w2⟩:=zBk p2
 obtain ⟨x3,rfl,w3⟩:=zBk p3
 obtain ⟨x4,rfl,w4⟩:=zLS p4
 obtain ⟨x5,rfl,w5⟩:=zBk p5
 obtain ⟨x6,rfl,w6⟩:=zBk p6
 obtain ⟨x7,rfl⟩:=zHq p7
 obtain ⟨x8,rfl⟩:=zHq p8
 obtain ⟨x9,rfl,w9⟩:=zBk p9
 obtain ⟨x10,rfl,w10⟩:=zBk p10
 obtain ⟨x11,rfl⟩:=zHq p11
 obtain ⟨x12,rfl⟩:=zHq p12
 obtain ⟨x13,rfl,w13⟩:=zJx p13
 obtain ⟨ks,rfl,_⟩:=qFS (enc:=qY) (P:=fun _=>True) (fun e h=>by
  obtain ⟨a,t,rfl,p,h⟩:=zi h
  obtain rfl:=zCp h
  obtain ⟨y,rfl,_⟩:=zBk p
  exact ⟨y,rfl,trivial⟩) w13.2
 exact ⟨(x0,x1,x2,x3,x4,x5,x6,x7,x8,x9,x10,x11,x12,ks),rfl,w4,by simpa [kd] using w13.1⟩
theorem qEG (l:List Int) (hb:l.length*8≤140737488351232):∀n,l.length+5≤n→qA5 n (l.map qY)=some (l.length,l.map qY):=by
 intro n hn
 obtain ⟨m,rfl,hm⟩:=up1 hn
 simp only [qA5,qBc,qA,qC,qF,qG,qH,qJ,zG,qD,qE,qK]
 have h:=qGP (B:=qAS m) (rows:=l.map qY) (z:= [.i .i64 0]) (r:=fun acc=>((l.map qY).length,acc)) (M:=m)
  (fun i acc e he ha hz=>by
   obtain ⟨c,hc,rfl⟩:=qGQ he
   have hi:i<l.length:=(List.getElem?_eq_some_iff.1 hc).1
   have hi':(i:Int)<l.length:=by omega
   have hw:IntKind.i64.wrap ((i:Int)+1)=(i:Int)+1:=qi (by omega)
   have ha':acc.length=l.length:=by simpa using ha
   simp [qAS,qA,qC,qF,qG,qH,qJ,zG,qD,qE,qK,hi',hc,qY,zE,hz,ha',hw,zA])
  (fun acc ha=>by
   have ha':acc.length=l.length:=by simpa using ha
   simp [qAS,qA,qC,qF,qG,qH,qJ,zG,qD,qE,qK])
  (by simp;omega)
 simp only [List.length_map,Int.toNat_natCast] at h⊢
 rw [h]
 have h1:(8:Int)*(l.length:Int)≤140737488355328:=by omega
 have h2:(l.length:Int)≤9223372036854775807:=by omega
 simp [qA,qC,qF,qG,qH,qJ,zG,qD,qE,qK,h1,h2]
theorem qEH (l:List Int) (hb:l.length≤140737488351232):∀n,l.length+5≤n→qA6 n (l.map qY) (l.map qY)=some true:=by
 intro n hn
 obtain ⟨m,rfl,hm⟩:=up1 hn
 simp only [qA6,qBf,qA,qC,qF,qG,qH,qJ,zG,qD,qE,qK]
 have h:=qGK (B:=qAV m) (rows:=l.map qY) (r:= .inr ())
  (fun i e he=>by
   obtain ⟨c,hc,rfl⟩:=qGQ he
   have hi:i<l.length:=(List.getElem?_eq_some_iff.1 hc).1
   have hi':(i:Int)<l.length:=by omega
   have hw:IntKind.i64.wrap ((i:Int)+1)=(i:Int)+1:=qi (by omega)
   simp [qAV,qA,qC,qF,qG,qH,qJ,zG,qD,qE,qK,hi',hc,qY,zE,hw])
  (by simp [qAV,qA,qC,qF,qG,qH,qJ,zG,qD,qE,qK]) l.length 0 m (by simp) (by omega)
 simp only [Int.natCast_zero] at h
 simp [h,qA,qC,qF,qG,qH,qJ,zG,qD,qE,qK]
theorem qEt (c:Nd) (hb:(kd c).length≤140737488351232):∀n,(kd c).length+10≤n→qAu n c.1 c.2.1 c.2.2.1 c.2.2.2.1 c.2.2.2.2.1 c.2.2.2.2.2.1 c.2.2.2.2.2.2.1 c.2.2.2.2.2.2.2.1 c.2.2.2.2.2.2.2.2.1 c.2.2.2.2.2.2.2.2.2.1 c.2.2.2.2.2.2.2.2.2.2.1 c.2.2.2.2.2.2.2.2.2.2.2.1 c.2.2.2.2.2.2.2.2.2.2.2.2.1 ((c.2.2.2.2.2.2.2.2.2.2.2.2.2).map qY) c.1 c.2.1 c.2.2.1 c.2.2.2.1 c.2.2.2.2.1 c.2.2.2.2.2.1 c.2.2.2.2.2.2.1 c.2.2.2.2.2.2.2.1 c.2.2.2.2.2.2.2.2.1 c.2.2.2.2.2.2.2.2.2.1 c.2.2.2.2.2.2.2.2.2.2.1 c.2.2.2.2.2.2.2.2.2.2.2.1 c.2.2.2.2.2.2.2.2.2.2.2.2.1 ((c.2.2.2.2.2.2.2.2.2.2.2.2.2).map qY)=some true:=by
 intro n hn
 obtain ⟨m,rfl,hm⟩:=up1 hn
 have h:=qEH (kd c) hb m (by omega)
 unfold kd at h
 obtain ⟨q,rfl⟩:∃q,m=q+3:=⟨m-3,by omega⟩
 have p1:∀a b f g,qAt (q+3) a b f g a b f g=some true:=fun a b f g=>by
  simp [qAt,qB0,qCk,qCj,qA,qC,qF,qG,qH,qJ,zG,qD,qE,qK]
 have p2:∀a b s,qBK (q+3) a b s a b s=some true:=fun a b s=>by
  simp [qBK,qBz,qA,qC,qF,qG,qH,qJ,zG,qD,qE,qK]
 simp only [qAu,qB1,qA,qC,qF,qG,qH,qJ,zG,qD,qE,qK,h,p1,p2]
 simp
theorem qCY (l:List Nd) (hb:l.length≤140737488351232) (hk:∀c∈l,(kd c).length≤140737488351232):Ev (qAN · (l.map qN) (l.map qN)) true:=by
 obtain ⟨n0,h0⟩:=qAn (F:=fun (c:Nd) n=>qAu n c.1 c.2.1 c.2.2.1 c.2.2.2.1 c.2.2.2.2.1 c.2.2.2.2.2.1 c.2.2.2.2.2.2.1 c.2.2.2.2.2.2.2.1 c.2.2.2.2.2.2.2.2.1 c.2.2.2.2.2.2.2.2.2.1 c.2.2.2.2.2.2.2.2.2.2.1 c.2.2.2.2.2.2.2.2.2.2.2.1 c.2.2.2.2.2.2.2.2.2.2.2.2.1 ((c.2.2.2.2.2.2.2.2.2.2.2.2.2).map qY) c.1 c.2.1 c.2.2.1 c.2.2.2.1 c.2.2.2.2.1 c.2.2.2.2.2.1 c.2.2.2.2.2.2.1 c.2.2.2.2.2.2.2.1 c.2.2.2.2.2.2.2.2.1 c.2.2.2.2.2.2.2.2.2.1 c.2.2.2.2.2.2.2.2.2.2.1 c.2.2.2.2.2.2.2.2.2.2.2.1 c.2.2.2.2.2.2.2.2.2.2.2.2.1 ((c.2.2.2.2.2.2.2.2.2.2.2.2.2).map qY)) (f:=fun _=>true) l (fun c hc=>⟨_,qEt c (hk c hc)⟩)
 refine ⟨n0+l.length+5,fun n hn=>?_⟩
 obtain ⟨m,rfl,hm⟩:=up1 hn
 simp only [qAN,qBg,qA,qC,qF,qG,qH,qJ,zG,qD,qE,qK]
 have h:=qGK (B:=qAW m) (rows:=l.map qN) (r:= .inr ())
  (fun i e he=>by
   obtain ⟨c,hc,rfl⟩:=qGR he
   have hi:i<l.length:=(List.getElem?_eq_some_iff.1 hc).1
   have hi':(i:Int)<l.length:=by omega
   have hw:IntKind.i64.wrap ((i:Int)+1)=(i:Int)+1:=qi (by omega)
   have hf:=h0 m (by omega) c (zn hc)
   simp [qAW,qA,qC,qF,qG,qH,qJ,zG,qD,qE,qK,hi',hc,qN,zE,zAl,zW,z0,hf,hw])
  (by simp [qAW,qA,qC,qF,qG,qH,qJ,zG,qD,qE,qK]) l.length 0 m (by simp) (by omega)
 simp only [Int.natCast_zero] at h
 simp [h,qA,qC,qF,qG,qH,qJ,zG,qD,qE,qK]
def qCZ (op n:Int):Bool:=if op=5 then decide (n=2∨n=3) else if 8≤op∧op≤10 then decide (n=1) else if 1≤op∧op≤7 then decide (1≤n∧n≤10) else false
theorem ten {op:Int} (h:1≤op∧op≤10):op=1∨op=2∨op=3∨op=4∨op=5∨op=6∨op=7∨op=8∨op=9∨op=10:=by omega
theorem qFV (op n:Int):Ev (qBT · op n) (qCZ op n):=by
 refine ⟨1,fun n hn=>?_⟩
 obtain ⟨m,rfl,hm⟩:=up1 hn
 simp only [qBT,qCE,qA,qC,qF,qG,qH,qJ,zG,qD,qE,qK]
 by_cases h:1≤op∧op≤10
 ·rcases ten h with rfl|rfl|rfl|rfl|rfl|rfl|rfl|rfl|rfl|rfl
  all_goals
   first
   |(by_cases h2:n=2<;>simp [qCZ,h2];done)
   |(by_cases h1:n≥1<;>simp [qCZ,h1];done)
   |(by_cases h1:n=1<;>simp [qCZ,h1];done)
   |(by_cases h2:n=2<;>by_cases h3:n=3<;>simp [qCZ,h2,h3];done)
   |(simp [qCZ];done)
 ·have e1:¬op=1:=by omega
  have e2:¬op=2:=by omega
  have e3:¬op=3:=by omega
  have e4:¬op=4:=by omega
  have e5:¬op=5:=by omega
  have e6:¬op=6:=by omega
  have e7:¬op=7:=by omega
  have e8:¬op=8:=by omega
  have e9:¬op=9:=by omega
  have e10:¬op=10:=by omega
  have g1:¬(8≤op∧op≤10):=by omega
  have g2:¬(1≤op∧op≤7):=by omega
  simp [qCZ,e1,e2,e3,e4,e5,e6,e7,e8,e9,e10,g1,g2]
def zV (k x:Int) (s:BA):Bool:=decide (k=0)&&(decide (x=0)&&(s.toList== []))
def zP (a b:Int) (f g:Bool):Bool:=decide (a=0)&&(decide (b=0)&&(!f&&!g))
def qAo (c:Nd):Bool:=
 if c.1=1 then decide (c.2.1=0)&&(zP c.2.2.2.2.2.1 c.2.2.2.2.2.2.1 c.2.2.2.2.2.2.2.1 c.2.2.2.2.2.2.2.2.1&&(zP c.2.2.2.2.2.2.2.2.2.1 c.2.2.2.2.2.2.2.2.2.2.1 c.2.2.2.2.2.2.2.2.2.2.2.1 c.2.2.2.2.2.2.2.2.2.2.2.2.1&&(decide ((kd c).length=0)&&(okV c.2.2.1 c.2.2.2.1 c.2.2.2.2.1&&(!decide (c.2.2.1=0)&&(!decide (c.2.2.1=1)||decide (c.2.2.2.1≥0))))))) else
 if c.1=2 then decide (c.2.1=0)&&(zV c.2.2.1 c.2.2.2.1 c.2.2.2.2.1&&(zP c.2.2.2.2.2.2.2.2.2.1 c.2.2.2.2.2.2.2.2.2.2.1 c.2.2.2.2.2.2.2.2.2.2.2.1 c.2.2.2.2.2.2.2.2.2.2.2.2.1&&(decide ((kd c).length=0)&&qA0 c.2.2.2.2.2.1 c.2.2.2.2.2.2.1))) else
 if c.1=3 then decide (c.2.1=0)&&(zV c.2.2.1 c.2.2.2.1 c.2.2.2.2.1&&(decide ((kd c).length=0)&&qA9 c.2.2.2.2.2.1 c.2.2.2.2.2.2.1 c.2.2.2.2.2.2.2.2.2.1 c.2.2.2.2.2.2.2.2.2.2.1)) else
 if c.1=4 then decide (c.2.1=0)&&(zV c.2.2.1 c.2.2.2.1 c.2.2.2.2.1&&(zP c.2.2.2.2.2.1 c.2.2.2.2.2.2.1 c.2.2.2.2.2.2.2.1 c.2.2.2.2.2.2.2.2.1&&(zP c.2.2.2.2.2.2.2.2.2.1 c.2.2.2.2.2.2.2.2.2.2.1 c.2.2.2.2.2.2.2.2.2.2.2.1 c.2.2.2.2.2.2.2.2.2.2.2.2.1&&decide ((kd c).length=1)))) else
 if c.1=5 then decide (1≤c.2.1∧c.2.1≤11)&&(zV c.2.2.1 c.2.2.2.1 c.2.2.2.2.1&&(zP c.2.2.2.2.2.1 c.2.2.2.2.2.2.1 c.2.2.2.2.2.2.2.1 c.2.2.2.2.2.2.2.2.1&&(zP c.2.2.2.2.2.2.2.2.2.1 c.2.2.2.2.2.2.2.2.2.2.1 c.2.2.2.2.2.2.2.2.2.2.2.1 c.2.2.2.2.2.2.2.2.2.2.2.2.1&&decide ((kd c).length=2)))) else
 if c.1=6 then qCZ c.2.1 ((kd c).length:Int)&&(zV c.2.2.1 c.2.2.2.1 c.2.2.2.2.1&&(zP c.2.2.2.2.2.1 c.2.2.2.2.2.2.1 c.2.2.2.2.2.2.2.1 c.2.2.2.2.2.2.2.2.1&&zP c.2.2.2.2.2.2.2.2.2.1 c.2.2.2.2.2.2.2.2.2.2.1 c.2.2.2.2.2.2.2.2.2.2.2.1 c.2.2.2.2.2.2.2.2.2.2.2.2.1)) else false
theorem qHB (k x:Int) (s:BA):((k==(0:Int))&&((x==(0:Int))&&((s.toList==(⟨#[]⟩:BA).toList)&&true)))=zV k x s:=by
 rw [qDg]
 unfold zV
 by_cases h:k=0<;>by_cases h2:x=0<;>simp [h,h2]
theorem qHC (k x:Int) (s:BA):(((0:Int)==k)&&(((0:Int)==x)&&(((⟨#[]⟩:BA).toList==s.toList)&&true)))=zV k x s:=by
 rw [←qHB]
 congr 1
 ·exact Bool.beq_comm
 ·congr 1
  ·exact Bool.beq_comm
  ·congr 1
   exact Bool.beq_comm
theorem qHD (a b:Int) (f g:Bool):((a==(0:Int))&&((b==(0:Int))&&((f==false)&&((g==false)&&true))))=zP a b f g:=by
 unfold zP
 by_cases h:a=0<;>by_cases h2:b=0<;>cases f<;>cases g<;>simp [h,h2]
theorem qHE (a b:Int) (f g:Bool):(((0:Int)==a)&&(((0:Int)==b)&&((false==f)&&((false==g)&&true))))=zP a b f g:=by
 rw [←qHD]
 congr 1
 ·exact Bool.beq_comm
 ·congr 1
  ·exact Bool.beq_comm
  ·cases f<;>cases g<;>rfl
theorem qCa (c:Nd) (hb:c.2.2.2.2.1.size≤140737488351232):Ev (qQ · c.1 c.2.1 c.2.2.1 c.2.2.2.1 c.2.2.2.2.1 c.2.2.2.2.2.1 c.2.2.2.2.2.2.1 c.2.2.2.2.2.2.2.1 c.2.2.2.2.2.2.2.2.1 c.2.2.2.2.2.2.2.2.2.1 c.2.2.2.2.2.2.2.2.2.2.1 c.2.2.2.2.2.2.2.2.2.2.2.1 c.2.2.2.2.2.2.2.2.2.2.2.2.1 ((c.2.2.2.2.2.2.2.2.2.2.2.2.2).map qY)) (qAo c):=by
 obtain ⟨n1,h1⟩:=qEq c.2.2.1 c.2.2.2.1 c.2.2.2.2.1 hb
 obtain ⟨n2,h2⟩:=qCV c.2.2.2.2.2.1 c.2.2.2.2.2.2.1
 obtain ⟨n3,h3⟩:=qFU c.2.2.2.2.2.1 c.2.2.2.2.2.2.1 c.2.2.2.2.2.2.2.2.2.1 c.2.2.2.2.2.2.2.2.2.2.1
 obtain ⟨n4,h4⟩:=qAO c.2.1 1 11
 obtain ⟨n5,h5⟩:=qFV c.2.1 (((c.2.2.2.2.2.2.2.2.2.2.2.2.2).map qY).length:Int)
 refine ⟨n1+n2+n3+n4+n5+1,fun n hn=>?_⟩
 obtain ⟨m,rfl,hm⟩:=up1 hn
 have h1:=h1 m (by omega)
 dsimp only at h1
 have h2:=h2 m (by omega)
 dsimp only at h2
 have h3:=h3 m (by omega)
 dsimp only at h3
 have h4:=h4 m (by omega)
 dsimp only at h4
 have h5:=h5 m (by omega)
 dsimp only at h5
 simp only [qQ,qBe,qA,qC,qF,qG,qH,qJ,zG,qD,qE,qK,h1,h2,h3,h4,h5]
 have hk:((c.2.2.2.2.2.2.2.2.2.2.2.2.2).map qY).length=(kd c).length:=by rw [List.length_map];rfl
 simp only [qHB,qHD,hk]
 unfold qAo
 by_cases k1:c.1=1
 ·simp only [k1,if_true,beq_self_eq_true]
  cases zP c.2.2.2.2.2.1 c.2.2.2.2.2.2.1 c.2.2.2.2.2.2.2.1 c.2.2.2.2.2.2.2.2.1<;>cases zP c.2.2.2.2.2.2.2.2.2.1 c.2.2.2.2.2.2.2.2.2.2.1 c.2.2.2.2.2.2.2.2.2.2.2.1 c.2.2.2.2.2.2.2.2.2.2.2.2.1<;>cases okV c.2.2.1 c.2.2.2.1 c.2.2.2.2.1<;>by_cases h0:c.2.1=0<;>by_cases h1:(kd c).length=0<;>by_cases h2:c.2.2.1=0<;>by_cases h3:c.2.2.1=1<;>simp [h0,h1,h2,h3]
 by_cases k2:c.1=2
 ·simp only [k2]
  cases zV c.2.2.1 c.2.2.2.1 c.2.2.2.2.1<;>cases zP c.2.2.2.2.2.2.2.2.2.1 c.2.2.2.2.2.2.2.2.2.2.1 c.2.2.2.2.2.2.2.2.2.2.2.1 c.2.2.2.2.2.2.2.2.2.2.2.2.1<;>cases qA0 c.2.2.2.2.2.1 c.2.2.2.2.2.2.1<;>by_cases h0:c.2.1=0<;>by_cases h1:(kd c).length=0<;>simp [h0,h1]
 by_cases k3:c.1=3
 ·simp only [k3]
  cases zV c.2.2.1 c.2.2.2.1 c.2.2.2.2.1<;>cases qA9 c.2.2.2.2.2.1 c.2.2.2.2.2.2.1 c.2.2.2.2.2.2.2.2.2.1 c.2.2.2.2.2.2.2.2.2.2.1<;>by_cases h0:c.2.1=0<;>by_cases h1:(kd c).length=0<;>simp [h0,h1]
 by_cases k4:c.1=4
 ·simp only [k4]
  cases zV c.2.2.1 c.2.2.2.1 c.2.2.2.2.1<;>cases zP c.2.2.2.2.2.1 c.2.2.2.2.2.2.1 c.2.2.2.2.2.2.2.1 c.2.2.2.2.2.2.2.2.1<;>cases zP c.2.2.2.2.2.2.2.2.2.1 c.2.2.2.2.2.2.2.2.2.2.1 c.2.2.2.2.2.2.2.2.2.2.2.1 c.2.2.2.2.2.2.2.2.2.2.2.2.1<;>by_cases h0:c.2.1=0<;>by_cases h1:(kd c).length=1<;>simp [h0,h1]<;>omega
 by_cases k5:c.1=5
 ·simp only [k5]
  cases zV c.2.2.1 c.2.2.2.1 c.2.2.2.2.1<;>cases zP c.2.2.2.2.2.1 c.2.2.2.2.2.2.1 c.2.2.2.2.2.2.2.1 c.2.2.2.2.2.2.2.2.1<;>cases zP c.2.2.2.2.2.2.2.2.2.1 c.2.2.2.2.2.2.2.2.2.2.1 c.2.2.2.2.2.2.2.2.2.2.2.1 c.2.2.2.2.2.2.2.2.2.2.2.2.1<;>by_cases h0:1≤c.2.1∧c.2.1≤11<;>by_cases h1:(kd c).length=2<;>simp [h0,h1]<;>omega
 by_cases k6:c.1=6
 ·simp only [k6]
  cases zV c.2.2.1 c.2.2.2.1 c.2.2.2.2.1<;>cases zP c.2.2.2.2.2.1 c.2.2.2.2.2.2.1 c.2.2.2.2.2.2.2.1 c.2.2.2.2.2.2.2.2.1<;>cases zP c.2.2.2.2.2.2.2.2.2.1 c.2.2.2.2.2.2.2.2.2.2.1 c.2.2.2.2.2.2.2.2.2.2.2.1 c.2.2.2.2.2.2.2.2.2.2.2.2.1<;>cases qCZ c.2.1 ((kd c).length:Int)<;>simp
 simp [k1,k2,k3,k4,k5,k6]
theorem qFW (c:Nd):Ev (qX · c.1 c.2.1 c.2.2.1 c.2.2.2.1 c.2.2.2.2.1 c.2.2.2.2.2.1 c.2.2.2.2.2.2.1 c.2.2.2.2.2.2.2.1 c.2.2.2.2.2.2.2.2.1 c.2.2.2.2.2.2.2.2.2.1 c.2.2.2.2.2.2.2.2.2.2.1 c.2.2.2.2.2.2.2.2.2.2.2.1 c.2.2.2.2.2.2.2.2.2.2.2.2.1 ((c.2.2.2.2.2.2.2.2.2.2.2.2.2).map qY)) (if c.1=4 then decide (c.2.1=0)&&decide ((kd c).length=1) else if c.1=5 then decide (1≤c.2.1∧c.2.1≤11)&&decide ((kd c).length=2) else if c.1=6 then qCZ c.2.1 ((kd c).length:Int) else decide (c.2.1=0)&&decide ((kd c).length=0)):=by
 obtain ⟨n1,h1⟩:=qf c.2.1 1 11
 obtain ⟨n2,h2⟩:=qf c.2.1 1 10
 obtain ⟨n3,h3⟩:=qf (((c.2.2.2.2.2.2.2.2.2.2.2.2.2).map qY).length:Int) 2 3
 obtain ⟨n4,h4⟩:=qf (((c.2.2.2.2.2.2.2.2.2.2.2.2.2).map qY).length:Int) 1 10
 refine ⟨n1+n2+n3+n4+1,fun n hn=>?_⟩
 obtain ⟨m,rfl,hm⟩:=up1 hn
 have h1:=h1 m (by omega)
 dsimp only at h1
 have h2:=h2 m (by omega)
 dsimp only at h2
 have h3:=h3 m (by omega)
 dsimp only at h3
 have h4:=h4 m (by omega)
 dsimp only at h4
 simp only [qX,qA1,qA,qC,qF,qG,qH,qJ,zG,qD,qE,qK,h1,h2,h3,h4]
 have hk:((c.2.2.2.2.2.2.2.2.2.2.2.2.2).map qY).length=(kd c).length:=by rw [List.length_map];rfl
 simp only [hk]
 by_cases k4:c.1=4
 ·simp only [k4]
  by_cases h0:c.2.1=0<;>by_cases h1:(kd c).length=1<;>simp [h0,h1]<;>omega
 by_cases k5:c.1=5
 ·simp only [k5]
  by_cases h0:1≤c.2.1∧c.2.1≤11<;>by_cases h1:(kd c).length=2<;>simp [h0,h1]<;>omega
 by_cases k6:c.1=6
 ·simp only [k6]
  unfold qCZ
  by_cases h:1≤c.2.1∧c.2.1≤10
  ·by_cases h5:c.2.1=5
   ·have:(2≤((kd c).length:Int)∧((kd c).length:Int)≤3)↔(((kd c).length:Int)=2∨((kd c).length:Int)=3):=by omega
    simp [h5,this]
   ·by_cases h8:c.2.1≥8
    ·have g:8≤c.2.1∧c.2.1≤10:=by omega
     by_cases h1:((kd c).length:Int)=1<;>simp [h,h5,h8,g,h1]
    ·have g:¬(8≤c.2.1∧c.2.1≤10):=by omega
     have g':1≤c.2.1∧c.2.1≤7:=by omega
     simp [h,h5,h8,g,g']
  ·have h5:¬c.2.1=5:=by omega
   have g:¬(8≤c.2.1∧c.2.1≤10):=by omega
   have g':¬(1≤c.2.1∧c.2.1≤7):=by omega
   simp [h,h5,g,g']
 by_cases h0:c.2.1=0<;>by_cases h1:(kd c).length=0<;>simp [k4,k5,k6,h0,h1]<;>omega
theorem qEI (c:Nd):Ev (qP · c.1 c.2.1 c.2.2.1 c.2.2.2.1 c.2.2.2.2.1 c.2.2.2.2.2.1 c.2.2.2.2.2.2.1 c.2.2.2.2.2.2.2.1 c.2.2.2.2.2.2.2.2.1 c.2.2.2.2.2.2.2.2.2.1 c.2.2.2.2.2.2.2.2.2.2.1 c.2.2.2.2.2.2.2.2.2.2.2.1 c.2.2.2.2.2.2.2.2.2.2.2.2.1 ((c.2.2.2.2.2.2.2.2.2.2.2.2.2).map qY)) (if c.1=2 then qA9 c.2.2.2.2.2.1 c.2.2.2.2.2.2.1 c.2.2.2.2.2.1 c.2.2.2.2.2.2.1 else if c.1=3 then qA9 c.2.2.2.2.2.1 c.2.2.2.2.2.2.1 c.2.2.2.2.2.2.2.2.2.1 c.2.2.2.2.2.2.2.2.2.2.1 else true):=by
 have g:Ev (qu · c.1 c.2.1 c.2.2.1 c.2.2.2.1 c.2.2.2.2.1 c.2.2.2.2.2.1 c.2.2.2.2.2.2.1 c.2.2.2.2.2.2.2.1 c.2.2.2.2.2.2.2.2.1 c.2.2.2.2.2.2.2.2.2.1 c.2.2.2.2.2.2.2.2.2.2.1 c.2.2.2.2.2.2.2.2.2.2.2.1 c.2.2.2.2.2.2.2.2.2.2.2.2.1 ((c.2.2.2.2.2.2.2.2.2.2.2.2.2).map qY)) (if c.1=2 then (c.2.2.2.2.2.1,c.2.2.2.2.2.2.1,c.2.2.2.2.2.1,c.2.2.2.2.2.2.1) else (c.2.2.2.2.2.1,c.2.2.2.2.2.2.1,c.2.2.2.2.2.2.2.2.2.1,c.2.2.2.2.2.2.2.2.2.2.1)):=by
  refine ⟨1,fun n hn=>?_⟩
  obtain ⟨m,rfl,hm⟩:=up1 hn
  simp only [qu,qAZ,qA,qC,qF,qG,qH,qJ,zG,qD,qE,qK]
  by_cases k2:c.1=2<;>simp [k2]
 obtain ⟨n1,h1⟩:=g
 obtain ⟨n2,h2⟩:=qBM c.2.2.2.2.2.1 c.2.2.2.2.2.2.1 c.2.2.2.2.2.1 c.2.2.2.2.2.2.1
 obtain ⟨n3,h3⟩:=qBM c.2.2.2.2.2.1 c.2.2.2.2.2.2.1 c.2.2.2.2.2.2.2.2.2.1 c.2.2.2.2.2.2.2.2.2.2.1
 refine ⟨n1+n2+n3+1,fun n hn=>?_⟩
 obtain ⟨m,rfl,hm⟩:=up1 hn
 have h1:=h1 m (by omega)
 dsimp only at h1
 have h2:=h2 m (by omega)
 dsimp only at h2
 have h3:=h3 m (by omega)
 dsimp only at h3
 simp only [qP,qAY,qA,qC,qF,qG,qH,qJ,zG,qD,qE,qK,h1,h2,h3]
 by_cases k2:c.1=2
 ·simp [k2,h2]
 ·by_cases k3:c.1=3
  ·simp [k3,h3]
  ·simp [k2,k3]
theorem qGx (a b:Int):qA9 a b a b=qA0 a b:=by
 unfold qA9
 cases qA0 a b<;>simp
theorem qF1 (c:Nd) (hb:c.2.2.2.2.1.size≤140737488351232):Ev (qAj · c.1 c.2.1 c.2.2.1 c.2.2.2.1 c.2.2.2.2.1 c.2.2.2.2.2.1 c.2.2.2.2.2.2.1 c.2.2.2.2.2.2.2.1 c.2.2.2.2.2.2.2.2.1 c.2.2.2.2.2.2.2.2.2.1 c.2.2.2.2.2.2.2.2.2.2.1 c.2.2.2.2.2.2.2.2.2.2.2.1 c.2.2.2.2.2.2.2.2.2.2.2.2.1 ((c.2.2.2.2.2.2.2.2.2.2.2.2.2).map qY)) (qAo c):=by
 obtain ⟨n1,g1⟩:=qEr c.2.2.1 c.2.2.2.1 c.2.2.2.2.1 hb
 obtain ⟨n2,g2⟩:=qEI c
 obtain ⟨n3,g3⟩:=qFW c
 refine ⟨n1+n2+n3+1,fun n hn=>?_⟩
 obtain ⟨m,rfl,hm⟩:=up1 hn
 have g1:=g1 m (by omega)
 have g2:=g2 m (by omega)
 have g3:=g3 m (by omega)
 dsimp only at g1 g2 g3
 rw [qGx] at g2
 simp only [qAj,qA7,qA,qC,qF,qG,qH,qJ,zG,qD,qE,qK,g1,g2,g3,qHC,qHE]
 simp only [beq_self_eq_true,Bool.and_true,Bool.true_and]
 unfold qAo
 by_cases k1:c.1=1
 ·have h5:(c.2.2.2.1≥0)=¬(c.2.2.2.1<0):=propext Int.not_lt.symm
  simp only [k1,h5]
  cases zP c.2.2.2.2.2.1 c.2.2.2.2.2.2.1 c.2.2.2.2.2.2.2.1 c.2.2.2.2.2.2.2.2.1<;>cases zP c.2.2.2.2.2.2.2.2.2.1 c.2.2.2.2.2.2.2.2.2.2.1 c.2.2.2.2.2.2.2.2.2.2.2.1 c.2.2.2.2.2.2.2.2.2.2.2.2.1<;>cases okV c.2.2.1 c.2.2.2.1 c.2.2.2.2.1<;>by_cases h0:c.2.1=0<;>by_cases h1:(kd c).length=0<;>by_cases h2:c.2.2.1=0<;>by_cases h3:c.2.2.1=1<;>by_cases h4:c.2.2.2.1<0<;>simp [h0,h1,h2,h3,h4]<;>(try omega)
 by_cases k2:c.1=2
 ·simp only [k2]
  cases zV c.2.2.1 c.2.2.2.1 c.2.2.2.2.1<;>cases zP c.2.2.2.2.2.2.2.2.2.1 c.2.2.2.2.2.2.2.2.2.2.1 c.2.2.2.2.2.2.2.2.2.2.2.1 c.2.2.2.2.2.2.2.2.2.2.2.2.1<;>cases qA0 c.2.2.2.2.2.1 c.2.2.2.2.2.2.1<;>by_cases h0:c.2.1=0<;>by_cases h1:(kd c).length=0<;>simp [h0,h1]
 by_cases k3:c.1=3
 ·simp only [k3]
  cases zV c.2.2.1 c.2.2.2.1 c.2.2.2.2.1<;>cases qA9 c.2.2.2.2.2.1 c.2.2.2.2.2.2.1 c.2.2.2.2.2.2.2.2.2.1 c.2.2.2.2.2.2.2.2.2.2.1<;>by_cases h0:c.2.1=0<;>by_cases h1:(kd c).length=0<;>simp [h0,h1]
 by_cases k4:c.1=4
 ·simp only [k4]
  cases zV c.2.2.1 c.2.2.2.1 c.2.2.2.2.1<;>cases zP c.2.2.2.2.2.1 c.2.2.2.2.2.2.1 c.2.2.2.2.2.2.2.1 c.2.2.2.2.2.2.2.2.1<;>cases zP c.2.2.2.2.2.2.2.2.2.1 c.2.2.2.2.2.2.2.2.2.2.1 c.2.2.2.2.2.2.2.2.2.2.2.1 c.2.2.2.2.2.2.2.2.2.2.2.2.1<;>by_cases h0:c.2.1=0<;>by_cases h1:(kd c).length=1<;>simp [h0,h1]
 by_cases k5:c.1=5
 ·simp only [k5]
  cases zV c.2.2.1 c.2.2.2.1 c.2.2.2.2.1<;>cases zP c.2.2.2.2.2.1 c.2.2.2.2.2.2.1 c.2.2.2.2.2.2.2.1 c.2.2.2.2.2.2.2.2.1<;>cases zP c.2.2.2.2.2.2.2.2.2.1 c.2.2.2.2.2.2.2.2.2.2.1 c.2.2.2.2.2.2.2.2.2.2.2.1 c.2.2.2.2.2.2.2.2.2.2.2.2.1<;>by_cases h0:1≤c.2.1∧c.2.1≤11<;>by_cases h1:(kd c).length=2<;>simp [h0,h1]
 by_cases k6:c.1=6
 ·simp only [k6]
  cases zV c.2.2.1 c.2.2.2.1 c.2.2.2.2.1<;>cases zP c.2.2.2.2.2.1 c.2.2.2.2.2.2.1 c.2.2.2.2.2.2.2.1 c.2.2.2.2.2.2.2.2.1<;>cases zP c.2.2.2.2.2.2.2.2.2.1 c.2.2.2.2.2.2.2.2.2.2.1 c.2.2.2.2.2.2.2.2.2.2.2.1 c.2.2.2.2.2.2.2.2.2.2.2.2.1<;>cases qCZ c.2.1 ((kd c).length:Int)<;>simp
 simp [k1,k2,k3,k4,k5,k6]
section
variable (own area call:Int→Bool) (kids:Int→List Int)
def goF (F:Int→Int) (n:Int):List Int→Int→Int
 | [],start=>start
 |k::r,start=>if k≠start-1∨k<0∨(area k=true∧call n=false) then-1 else if F k<0 then-1 else goF F n r (F k)
def qAc:Nat→Int→Int
 |0,_=> -1
 |f+1,n=>if n<0∨own n=false then-1 else goF area call (qAc f) n (kids n).reverse n
def goT (F:Int→Int):List Int→Int→Int
 | [],x=>x+1
 |k::r,x=>if x<0∨k≠x then-1 else if F x<0 then-1 else goT F r (F x-1)
def qAf:Nat→Int→Int
 |0,_=> -1
 |f+1,n=>goT (qAf f) (kids n).reverse (n-1)
def qDA:List Int→Int
 | []=>0
 |x::r=>max x (qDA r)
def qv:Nat→Int→Int
 |0,_=>0
 |f+1,n=>qDA ((kids n).map fun k=>qv f k)+1
def qB2 (i:Int):Prop:=∀k∈kids i,0≤k∧k≤i-1∧¬(area k=true∧call i=false)
theorem qFX:∀(f:Nat) (n:Int),0≤n→qAf kids f n≤n
 |0,n,h=>by rw [qAf];omega
 |f+1,n,h=>by
  have go:∀(l:List Int) (x:Int),x+1≤n→-1≤x→goT (qAf kids f) l x≤n:=by
   intro l
   induction l with
   |nil=>intro x h1 h2;rw [goT];omega
   |cons k r ih=>
    intro x h1 h2
    rw [goT]
    split
    ·omega
    ·split
     ·omega
     ·have:=qFX f x (by omega)
      exact ih _ (by omega) (by omega)
  rw [qAf]
  exact go _ _ (by omega) (by omega)
theorem qGn {l:List Int} {b:Int} (h0:0≤b):qDA l≤b↔∀x∈l,x≤b:=by
 induction l with
 |nil=>simp [qDA,h0]
 |cons a r ih=>simp only [qDA,List.mem_cons,forall_eq_or_imp];rw [Int.max_le,ih]
theorem qGS {n b:Int} {f:Nat} (h0:1≤b):qv kids (f+1) n≤b↔∀k∈kids n,qv kids f k≤b-1:=by
 rw [qv]
 constructor
 ·intro h k hk
  exact (qGn (l:=(kids n).map fun k=>qv kids f k) (by omega)).1 (by omega) _ (List.mem_map_of_mem (f:=fun k=>qv kids f k) hk)
 ·intro h
  have:=(qGn (l:=(kids n).map fun k=>qv kids f k) (b:=b-1) (by omega)).2 (by
   intro x hx
   obtain ⟨k,hk,rfl⟩:=List.mem_map.1 hx
   exact h k hk)
  omega
theorem qGT:∀(f g:Nat) (n:Int),n<f→n<g→(∀i,0≤i→i≤n→qB2 area call kids i)→0≤n→qv kids f n=qv kids g n
 |0,g,n,h1,h2,_,h3=>by omega
 |f+1,0,n,h1,h2,_,h3=>by omega
 |f+1,g+1,n,h1,h2,hk,h3=>by
  rw [qv,qv]
  congr 2
  apply List.map_congr_left
  intro k hm
  have:=hk n h3 (by omega) k hm
  exact qGT f g k (by omega) (by omega) (fun i h0 h1=>hk i h0 (by omega)) (by omega)
theorem qGt:∀(f:Nat) (n:Int),0≤n→n<f→1≤qv kids f n
 |0,n,h,h'=>by omega
 |f+1,n,h,h'=>by
  rw [qv]
  have:∀l:List Int,0≤qDA l:=by
   intro l
   induction l with
   |nil=>exact Int.le_refl 0
   |cons a r ih=>simp only [qDA];omega
  have:=this ((kids n).map fun k=>qv kids f k)
  omega
theorem qGL:∀(f g:Nat) (n:Int),0≤n→n<g→0≤qAc own area call kids f n→
  qAc own area call kids f n≤n∧qAf kids g n=qAc own area call kids f n∧(∀i,qAc own area call kids f n≤i→i≤n→own i=true∧qB2 area call kids i)∧(∀h:Nat,(∀i,0≤i→i≤n→qB2 area call kids i)→n<h→qv kids h n≤f)
 |0,g,n,h0,h1,h2=>by rw [qAc] at h2;omega
 |f+1,0,n,h0,h1,h2=>by omega
 |f+1,g+1,n,h0,h1,h2=>by
  rw [qAc] at h2⊢
  split at h2
  ·omega
  ·rename_i hc
   rw [if_neg hc]
   have go:∀(l:List Int) (s:Int),0≤s→s≤n→0≤goF area call (qAc own area call kids f) n l s→
     goF area call (qAc own area call kids f) n l s≤s∧goT (qAf kids g) l (s-1)=goF area call (qAc own area call kids f) n l s∧(∀i,goF area call (qAc own area call kids f) n l s≤i→i≤s-1→own i=true∧qB2 area call kids i)∧(∀k∈l,0≤k∧k≤n-1∧¬(area k=true∧call n=false))∧(∀h:Nat,(∀i,0≤i→i≤n→qB2 area call kids i)→n<h→∀k∈l,qv kids h k≤f):=by
    intro l
    induction l with
    |nil=>
     intro s h3 h4 h5
     rw [goF] at h5⊢
     rw [goT]
     refine ⟨by omega,by omega,fun i _ _=>by omega,fun k hk=>(by cases hk),fun h _ _ k hk=>(by cases hk)⟩
    |cons k r ih=>
     intro s h3 h4 h5
     rw [goF] at h5⊢
     split at h5
     ·omega
     ·rename_i hd
      rw [if_neg hd]
      split at h5
      ·omega
      ·rename_i he
       rw [if_neg he]
       have hk:k=s-1:=by omega
       subst hk
       obtain ⟨a1,a2,a3,a4⟩:=qGL f g (s-1) (by omega) (by omega) (by omega)
       obtain ⟨b1,b2,b3,b4,b5⟩:=ih _ (by omega) (by omega) h5
       refine ⟨by omega,?_,?_,?_,?_⟩
       ·rw [goT,if_neg (by omega),a2,if_neg he,b2]
       ·intro i i1 i2
        by_cases hi:qAc own area call kids f (s-1)≤i
        ·exact a3 i hi i2
        ·exact b3 i i1 (by omega)
       ·intro k hk
        rcases List.mem_cons.1 hk with rfl|hk
        ·exact ⟨by omega,by omega,fun h=>hd (.inr (.inr h))⟩
        ·exact b4 k hk
       ·intro h hx hy k hk
        rcases List.mem_cons.1 hk with rfl|hk
        ·exact a4 h (fun i i1 i2=>hx i i1 (by omega)) (by omega)
        ·exact b5 h hx hy k hk
   obtain ⟨c1,c2,c3,c4,c5⟩:=go _ n h0 (Int.le_refl n) h2
   have hown:own n=true:=by cases ho:own n with
    |true=>rfl
    |false=>exact absurd (.inr ho) hc
   refine ⟨c1,by rw [qAf];exact c2,?_,?_⟩
   ·intro i i1 i2
    by_cases hi:i=n
    ·subst hi
     exact ⟨hown,fun k hk=>c4 k (List.mem_reverse.2 hk)⟩
    ·exact c3 i i1 (by omega)
   ·intro h hx hy
    cases h with
    |zero=>omega
    |succ h=>
     refine (qGS kids (by omega)).2 fun k hk=>?_
     have hin:=hx n h0 (Int.le_refl n) k hk
     have e:qv kids h k=qv kids (n.toNat+1) k:=qGT area call kids _ _ _ (by omega) (by omega) (fun i i1 i2=>hx i i1 (by omega)) (by omega)
     rw [e]
     have:=c5 (n.toNat+1) hx (by omega) k (List.mem_reverse.2 hk)
     omega
theorem qGo:∀(f g h:Nat) (n:Int),0≤n→n<g→n<h→(∀i,0≤i→i≤n→own i=true∧qB2 area call kids i)→0≤qAf kids g n→qv kids h n≤f→qAc own area call kids f n=qAf kids g n
 |0,g,h,n,h0,h1,h1',h2,h3,h4=>by have:=qGt kids h n h0 h1';omega
 |f+1,0,h,n,h0,h1,_,h2,h3,h4=>by omega
 |f+1,g+1,0,n,h0,h1,_,h2,h3,h4=>by omega
 |f+1,g+1,h+1,n,h0,h1,h1',h2,h3,h4=>by
  have hd:=(qGS kids (b:=((f+1:Nat):Int)) (by omega)).1 h4
  have go:∀(l:List Int) (s:Int),(∀k∈l,k∈kids n)→0≤s→s≤n→0≤goT (qAf kids g) l (s-1)→goF area call (qAc own area call kids f) n l s=goT (qAf kids g) l (s-1):=by
   intro l
   induction l with
   |nil=>intro s _ _ _ _;rw [goF,goT];omega
   |cons k r ih=>
    intro s hm h3 h4 h5
    rw [goT] at h5⊢
    rw [goF]
    split at h5
    ·omega
    ·rename_i hc
     rw [if_neg hc]
     split at h5
     ·omega
     ·rename_i he
      rw [if_neg he]
      have hk:k=s-1:=by omega
      have hin:=(h2 n h0 (Int.le_refl n)).2 k (hm k (List.mem_cons_self ..))
      have hdk:=hd k (hm k (List.mem_cons_self ..))
      subst hk
      have e:=qGo f g h (s-1) (by omega) (by omega) (by omega) (fun i i1 i2=>h2 i i1 (by omega)) (by omega) (by omega)
      have hb:¬(s-1≠s-1∨s-1<0∨(area (s-1)=true∧call n=false)):=fun hx=>by
       rcases hx with hx|hx|hx
       ·exact hx rfl
       ·omega
       ·exact hin.2.2 hx
      rw [if_neg hb,e,if_neg he]
      have hle:=qFX kids g (s-1) (by omega)
      exact ih _ (fun k hk=>hm k (List.mem_cons_of_mem _ hk)) (by omega) (by omega) h5
  rw [qAf] at h3
  have hn:¬(n<0∨own n=false):=fun hx=>by
   rcases hx with hx|hx
   ·omega
   ·rw [(h2 n h0 (Int.le_refl n)).1] at hx;cases hx
  rw [qAc,qAf,if_neg hn]
  exact go _ n (fun k hk=>List.mem_reverse.1 hk) h0 (Int.le_refl n) h3
end
theorem qw (c:Nd):(qN c).length=14:=rfl
theorem qx (k:Int):(qY k).length=1:=rfl
theorem qy (k:Int):zE .i64 (qY k) 0=some k:=rfl
theorem qz (c:Nd):zE .i64 (qN c) 0=some c.1:=rfl
theorem q7 (c:Nd):zE .i64 (qN c) 1=some c.2.1:=rfl
theorem q8 (c:Nd):zE .i64 (qN c) 2=some c.2.2.1:=rfl
theorem q9 (c:Nd):zE .i64 (qN c) 3=some c.2.2.2.1:=rfl
theorem qAA (c:Nd):zAl (qN c) 4=some c.2.2.2.2.1:=rfl
theorem qAB (c:Nd):zE .i64 (qN c) 5=some c.2.2.2.2.2.1:=rfl
theorem qAC (c:Nd):zE .i64 (qN c) 6=some c.2.2.2.2.2.2.1:=rfl
theorem qAD (c:Nd):zW (qN c) 7=some c.2.2.2.2.2.2.2.1:=rfl
theorem qAE (c:Nd):zW (qN c) 8=some c.2.2.2.2.2.2.2.2.1:=rfl
theorem qAF (c:Nd):zE .i64 (qN c) 9=some c.2.2.2.2.2.2.2.2.2.1:=rfl
theorem qj (c:Nd):zE .i64 (qN c) 10=some c.2.2.2.2.2.2.2.2.2.2.1:=rfl
theorem qk (c:Nd):zW (qN c) 11=some c.2.2.2.2.2.2.2.2.2.2.2.1:=rfl
theorem ql (c:Nd):zW (qN c) 12=some c.2.2.2.2.2.2.2.2.2.2.2.2.1:=rfl
theorem qm (c:Nd):z0 (qN c) 13=some ((c.2.2.2.2.2.2.2.2.2.2.2.2.2).map qY):=rfl
def nd0:Nd:=(0,0,0,0,⟨#[]⟩,0,0,false,false,0,0,false,false,[])
def ndi (l:List Nd) (i:Int):Nd:=l.getD i.toNat nd0
def qT (l:List Nd) (i:Int):List Int:=kd (ndi l i)
def qBm (l:List Nd) (i:Int):Bool:=qAo (ndi l i)
def qAJ (l:List Nd) (i:Int):Bool:=decide ((ndi l i).1=3)
def qAX (l:List Nd) (i:Int):Bool:=decide ((ndi l i).1=6)
theorem qAp {l:List Nd} {i:Int} (h:0≤i∧i<l.length):l[i.toNat]?=some (ndi l i):=by
 have:i.toNat<l.length:=by omega
 unfold ndi
 rw [zb this,List.getD_eq_getElem?_getD,zb this]
 rfl
theorem qEw {l:List Nd} {i:Int} (h:0≤i∧i<l.length):ndi l i∈l:=zn (qAp h)
theorem qGU {α:Type} {l:List α} {j:Nat} {k:α} (h:l[j]?=some k):(l.take (j+1)).reverse=k::(l.take j).reverse:=by
 rw [List.take_add_one,h]
 simp
theorem qGV {R:Type} {F:Int→Nat→Option R} {f:Int→R} (x:Int) (h:∀y,0≤y→y<x→Ev (F y) (f y)):∃n0,∀n,n0≤n→∀y,0≤y→y<x→F y n=some (f y):=by
 obtain ⟨n0,h0⟩:=qAn (F:=F) (f:=f) ((List.range x.toNat).map fun (i:Nat)=>(i:Int)) (fun c hc=>by
  obtain ⟨i,hi,rfl⟩:=List.mem_map.1 hc
  have:=List.mem_range.1 hi
  exact h _ (Int.natCast_nonneg i) (by omega))
 refine ⟨n0,fun n hn y h1 h2=>h0 n hn y (List.mem_map.2 ⟨y.toNat,List.mem_range.2 (by omega),by omega⟩)⟩
theorem qF6 (l:List Nd) (x1:Int) (f n:Nat) (hx:0≤x1∧x1<l.length) (hl:l.length≤140737488351232) (hk:(kd (ndi l x1)).length≤140737488351232)
  (hrec:∀y:Int,0≤y→y<x1→qg n (l.map qN) y=some (qAf (qT l) f y)):
  ∀(j M:Nat) (s:Int),j≤(kd (ndi l x1)).length→j+1≤M→-1≤s→s<x1→
   (∃x,zO (qn (qg n) n) M (l.map qN,x1,s,(j:Int)-1)=some (.inr x)∧goT (qAf (qT l) f) ((qT l x1).take j).reverse s=x+1∧-1≤x∧x<x1)∨
   (zO (qn (qg n) n) M (l.map qN,x1,s,(j:Int)-1)=some (.inl (-1))∧goT (qAf (qT l) f) ((qT l x1).take j).reverse s= -1)
 |0,0,s,h1,h2,h3,h4=>by omega
 |0,M+1,s,h1,h2,h3,h4=>by
  refine .inl ⟨s,?_,by simp [goT],h3,h4⟩
  rw [qR (r:= .inr s) (by simp [-getElem?_pos,qn,qA,qC,qF,qG,qH,qJ,zG,qD,qE,qK])]
 |j+1,0,s,h1,h2,h3,h4=>by omega
 |j+1,M+1,s,h1,h2,h3,h4=>by
  have hc:=qAp hx
  have hj:j<(kd (ndi l x1)).length:=by omega
  have hg:(qT l x1)[j]?=some (qT l x1)[j]:=zb hj
  have ih:=qF6 l x1 f n hx hl hk hrec j M
  rw [qGU hg]
  generalize (qT l x1)[j]=k at hg
  have hi:(((j+1:Nat):Int)-1)=(j:Int):=by omega
  rw [hi,goT]
  have hg':(ndi l x1).2.2.2.2.2.2.2.2.2.2.2.2.2[j]?=some k:=hg
  have hj':j<(ndi l x1).2.2.2.2.2.2.2.2.2.2.2.2.2.length:=hj
  by_cases hs:s<0
  ·refine .inr ⟨?_,by rw [if_pos (.inl hs)]⟩
   rw [qR (r:= .inl (-1)) (by simp [-getElem?_pos,qn,qA,qC,qF,qG,qH,qJ,zG,qD,qE,qK,hs])]
  ·by_cases hks:k=s
   ·subst hks
    have hr:=hrec k (by omega) h4
    by_cases ht:qAf (qT l) f k<0
    ·refine .inr ⟨?_,by rw [if_neg (by omega),if_pos ht]⟩
     rw [qR (r:= .inl (-1)) (by simp [-getElem?_pos,qn,qA,qC,qF,qG,qH,qJ,zG,qD,qE,qK,hs,hc,hx,qw,qx,qy,qz,q7,q8,q9,qAA,qAB,qAC,qAD,qAE,qAF,qj,qk,ql,qm,hg',hj',hr,ht])]
    ·have hle:=qFX (qT l) f k (by omega)
     have hw:IntKind.i64.wrap (qAf (qT l) f k-1)=qAf (qT l) f k-1:=qi (by omega)
     have hw2:IntKind.i64.wrap ((j:Int)-1)=(j:Int)-1:=qi (by omega)
     rw [if_neg (by omega),if_neg ht]
     rw [qp (v':=(l.map qN,x1,qAf (qT l) f k-1,(j:Int)-1)) (by simp [-getElem?_pos,qn,qA,qC,qF,qG,qH,qJ,zG,qD,qE,qK,hs,hc,hx,qw,qx,qy,qz,q7,q8,q9,qAA,qAB,qAC,qAD,qAE,qAF,qj,qk,ql,qm,hg',hj',hr,ht,hw,hw2])]
     exact ih _ (by omega) (by omega) (by omega) (by omega)
   ·refine .inr ⟨?_,by rw [if_pos (.inr hks)]⟩
    rw [qR (r:= .inl (-1)) (by simp [-getElem?_pos,qn,qA,qC,qF,qG,qH,qJ,zG,qD,qE,qK,hs,hc,hx,qw,qx,qy,qz,q7,q8,q9,qAA,qAB,qAC,qAD,qAE,qAF,qj,qk,ql,qm,hg',hj',hks])]
theorem qDB (l:List Nd) (hl:l.length≤140737488351232) (hk:∀c∈l,(kd c).length≤140737488351232):∀(f:Nat) (x:Int),0≤x→x<l.length→x<f→Ev (qg · (l.map qN) x) (qAf (qT l) f x)
 |0,x,h0,h1,h2=>by omega
 |f+1,x,h0,h1,h2=>by
  obtain ⟨n0,hn0⟩:=qGV (F:=fun y n=>qg n (l.map qN) y) (f:=fun y=>qAf (qT l) f y) x (fun y h3 h4=>qDB l hl hk f y h3 (by omega) (by omega))
  refine ⟨n0+(kd (ndi l x)).length+5,fun n hn=>?_⟩
  obtain ⟨m,rfl,hm⟩:=up1 hn
  have hc:=qAp (l:=l) (i:=x) ⟨h0,h1⟩
  have hkx:=hk _ (qEw (l:=l) ⟨h0,h1⟩)
  have hw:IntKind.i64.wrap (x-1)=x-1:=qi (by omega)
  have hw2:IntKind.i64.wrap (((kd (ndi l x)).length:Int)-1)=((kd (ndi l x)).length:Int)-1:=qi (by omega)
  have h:=qF6 l x f m ⟨h0,h1⟩ hl hkx (hn0 m (by omega)) (kd (ndi l x)).length m (x-1) (Nat.le_refl _) (by omega) (by omega) (by omega)
  have e:(qT l x).take (kd (ndi l x)).length=qT l x:=List.take_length
  rw [e] at h
  rw [show qAf (qT l) (f+1) x=goT (qAf (qT l) f) (qT l x).reverse (x-1) from rfl]
  unfold kd at h hw2
  dsimp only
  simp only [qg,qCG,qA,qC,qF,qG,qH,qJ,zG,qD,qE,qK]
  rcases h with ⟨y,g1,g2,g3,g4⟩|⟨g1,g2⟩
  ·have hw3:IntKind.i64.wrap (y+1)=y+1:=qi (by omega)
   rw [g2]
   simp [-getElem?_pos,qA,qC,qF,qG,qH,qJ,zG,qD,qE,qK,hc,h0,h1,qw,qx,qy,qz,q7,q8,q9,qAA,qAB,qAC,qAD,qAE,qAF,qj,qk,ql,qm,hw,hw2,g1,hw3]
  ·rw [g2]
   simp [-getElem?_pos,qA,qC,qF,qG,qH,qJ,zG,qD,qE,qK,hc,h0,h1,qw,qx,qy,qz,q7,q8,q9,qAA,qAB,qAC,qAD,qAE,qAF,qj,qk,ql,qm,hw,hw2,g1]
theorem qEJ (kids:Int→List Int):∀(f:Nat) (n:Int),0≤qv kids f n∧qv kids f n≤f
 |0,n=>by rw [qv];omega
 |f+1,n=>by
  have:∀l:List Int,0≤qDA (l.map fun k=>qv kids f k)∧qDA (l.map fun k=>qv kids f k)≤f:=by
   intro l
   induction l with
   |nil=>exact ⟨Int.le_refl 0,Int.natCast_nonneg f⟩
   |cons a r ih=>have:=qEJ kids f a;simp only [List.map_cons,qDA];omega
  have:=this (kids n)
  rw [qv]
  omega
theorem qF7 (l:List Nd) (x1:Int) (f n:Nat) (hx:0≤x1∧x1<l.length) (hf:f≤1000) (hk:(kd (ndi l x1)).length≤140737488351232)
  (hrec:∀k∈qT l x1,qh n (l.map qN) k=some (qv (qT l) f k)):
  ∀(m i M:Nat) (a:Int),(kd (ndi l x1)).length=i+m→m+1≤M→0≤a→
   zO (qAg (qh n) n) M (l.map qN,x1,a,(i:Int))=some (max a (qDA (((qT l x1).drop i).map fun k=>qv (qT l) f k)))
 |m,i,0,a,h1,h2,h3=>by omega
 |0,i,M+1,a,h1,h2,h3=>by
  have hc:=qAp hx
  have hi:¬i<(ndi l x1).2.2.2.2.2.2.2.2.2.2.2.2.2.length:=by unfold kd at h1;omega
  rw [qR (r:=a) (by simp [-getElem?_pos,qAg,qA,qC,qF,qG,qH,qJ,zG,qD,qE,qK,hc,hx,qw,qx,qy,qz,q7,q8,q9,qAA,qAB,qAC,qAD,qAE,qAF,qj,qk,ql,qm,hi])]
  rw [List.drop_eq_nil_of_le (by unfold qT;omega)]
  simp only [List.map_nil,qDA]
  congr 1
  omega
 |m+1,i,M+1,a,h1,h2,h3=>by
  have hc:=qAp hx
  have hj:i<(kd (ndi l x1)).length:=by omega
  have hg:(qT l x1)[i]?=some (qT l x1)[i]:=zb hj
  rw [qDE hg]
  have hr:=hrec _ (zn hg)
  generalize (qT l x1)[i]=k at hg hr
  have hg':(ndi l x1).2.2.2.2.2.2.2.2.2.2.2.2.2[i]?=some k:=hg
  have hj':i<(ndi l x1).2.2.2.2.2.2.2.2.2.2.2.2.2.length:=hj
  have hj'':(i:Int)<((ndi l x1).2.2.2.2.2.2.2.2.2.2.2.2.2.length:Int):=by omega
  have hw:IntKind.i64.wrap ((i:Int)+1)=((i+1:Nat):Int):=by rw [qi (by omega)];omega
  have hd:=qEJ (qT l) f k
  rw [qp (v':=(l.map qN,x1,(if qv (qT l) f k>a then qv (qT l) f k else a),((i+1:Nat):Int))) (by simp [-getElem?_pos,qAg,qA,qC,qF,qG,qH,qJ,zG,qD,qE,qK,hc,hx,qw,qx,qy,qz,q7,q8,q9,qAA,qAB,qAC,qAD,qAE,qAF,qj,qk,ql,qm,hg',hj',hr,hw])]
  rw [qF7 l x1 f n hx hf hk hrec m (i+1) M _ (by omega) (by omega) (by split<;>omega)]
  simp only [List.map_cons,qDA]
  congr 1
  split<;>omega
theorem qDC (l:List Nd) (hl:l.length≤60) (hk:∀c∈l,(kd c).length≤140737488351232) (hin:∀i:Int,0≤i→i<l.length→qB2 (qAJ l) (qAX l) (qT l) i):∀(f:Nat) (x:Int),f≤1000→0≤x→x<l.length→x<f→Ev (qh · (l.map qN) x) (qv (qT l) f x)
 |0,x,hf,h0,h1,h2=>by omega
 |f+1,x,hf,h0,h1,h2=>by
  obtain ⟨n0,hn0⟩:=qAn (F:=fun y n=>qh n (l.map qN) y) (f:=fun y=>qv (qT l) f y) (qT l x) (fun y hy=>by
   have:=hin x h0 h1 y hy
   exact qDC l hl hk hin f y (by omega) (by omega) (by omega) (by omega))
  refine ⟨n0+(kd (ndi l x)).length+5,fun n hn=>?_⟩
  obtain ⟨m,rfl,hm⟩:=up1 hn
  have h:=qF7 l x f m ⟨h0,h1⟩ (by omega) (hk _ (qEw (l:=l) ⟨h0,h1⟩)) (hn0 m (by omega)) (kd (ndi l x)).length 0 m 0 (by omega) (by omega) (by omega)
  have hd:=qEJ (qT l) (f+1) x
  have e:max 0 (qDA ((qT l x).map fun k=>qv (qT l) f k))+1=qv (qT l) (f+1) x:=by
   rw [qv]
   have:∀q:List Int,0≤qDA q:=by
    intro q
    induction q with
    |nil=>exact Int.le_refl 0
    |cons a r ih=>simp only [qDA];omega
   have:=this ((qT l x).map fun k=>qv (qT l) f k)
   omega
  rw [List.drop_zero] at h
  simp only [Int.natCast_zero] at h
  have hw:IntKind.i64.wrap (max 0 (qDA ((qT l x).map fun k=>qv (qT l) f k))+1)=qv (qT l) (f+1) x:=by rw [e,qi (by omega)]
  simp only [qh,qCI,qA,qC,qF,qG,qH,qJ,zG,qD,qE,qK,h,hw]
def inB (l:List Nd) (i:Int):Bool:=(qT l i).all fun k=>decide (0≤k∧k≤i-1)&&!(qAJ l k&&!qAX l i)
theorem qGp {l:List Nd} {i:Int}:inB l i=true↔qB2 (qAJ l) (qAX l) (qT l) i:=by
 unfold inB qB2
 rw [List.all_eq_true]
 refine forall_congr' fun k=>forall_congr' fun hk=>?_
 cases qAJ l k<;>cases qAX l i<;>simp
theorem qGM (l:List Nd) (x1:Int) (n:Nat) (hx:0≤x1∧x1<l.length) (hl:l.length≤60) (hk:(kd (ndi l x1)).length≤140737488351232):
  ∀(m i M:Nat),(kd (ndi l x1)).length=i+m→m+1≤M→
   zO (qd (n+1)) M (l.map qN,x1,(i:Int))=some (if ((qT l x1).drop i).all (fun k=>decide (0≤k∧k≤x1-1)&&!(qAJ l k&&!qAX l x1))=true then .inr (l.map qN,x1) else .inl false)
 |m,i,0,h1,h2=>by omega
 |0,i,M+1,h1,h2=>by
  have hc:=qAp hx
  have hi:¬i<(ndi l x1).2.2.2.2.2.2.2.2.2.2.2.2.2.length:=by unfold kd at h1;omega
  rw [qR (r:= .inr (l.map qN,x1)) (by simp [-getElem?_pos,qd,qA,qC,qF,qG,qH,qJ,zG,qD,qE,qK,hc,hx,qw,qx,qy,qz,q7,q8,q9,qAA,qAB,qAC,qAD,qAE,qAF,qj,qk,ql,qm,hi])]
  rw [List.drop_eq_nil_of_le (by unfold qT;omega)]
  rfl
 |m+1,i,M+1,h1,h2=>by
  have hc:=qAp hx
  have hj:i<(kd (ndi l x1)).length:=by omega
  have hg:(qT l x1)[i]?=some (qT l x1)[i]:=zb hj
  rw [qDE hg]
  generalize (qT l x1)[i]=k at hg
  have hg':(ndi l x1).2.2.2.2.2.2.2.2.2.2.2.2.2[i]?=some k:=hg
  have hj':i<(ndi l x1).2.2.2.2.2.2.2.2.2.2.2.2.2.length:=hj
  have hw:IntKind.i64.wrap ((i:Int)+1)=((i+1:Nat):Int):=by rw [qi (by omega)];omega
  have hw2:IntKind.i64.wrap (x1-1)=x1-1:=qi (by omega)
  have hin:qc (n+1) k 0 (x1-1)=some (decide (0≤k∧k≤x1-1)):=by
   simp only [qc,qB5,qA,qC,qF,qG,qH,qJ,zG,qD,qE,qK]
   by_cases h:k≥0<;>simp [h]
  rw [List.all_cons]
  by_cases hr:0≤k∧k≤x1-1
  ·have hck:=qAp (l:=l) (i:=k) ⟨hr.1,by omega⟩
   have hkl:k<(l.length:Int):=by omega
   by_cases ha:(ndi l k).1=3
   ·by_cases hcl:(ndi l x1).1=6
    ·rw [qp (v':=(l.map qN,x1,((i+1:Nat):Int))) (by simp [-getElem?_pos,qd,qA,qC,qF,qG,qH,qJ,zG,qD,qE,qK,hc,hx,qw,qx,qy,qz,q7,q8,q9,qAA,qAB,qAC,qAD,qAE,qAF,qj,qk,ql,qm,hg',hj',hw,hw2,hin,hr,hck,hkl,ha,hcl])]
     rw [qGM l x1 n hx hl hk m (i+1) M (by omega) (by omega)]
     simp [hr,qAJ,qAX,ha,hcl]
    ·rw [qR (r:= .inl false) (by simp [-getElem?_pos,qd,qA,qC,qF,qG,qH,qJ,zG,qD,qE,qK,hc,hx,qw,qx,qy,qz,q7,q8,q9,qAA,qAB,qAC,qAD,qAE,qAF,qj,qk,ql,qm,hg',hj',hw,hw2,hin,hr,hck,hkl,ha,hcl])]
     simp [hr,qAJ,qAX,ha,hcl]
   ·rw [qp (v':=(l.map qN,x1,((i+1:Nat):Int))) (by simp [-getElem?_pos,qd,qA,qC,qF,qG,qH,qJ,zG,qD,qE,qK,hc,hx,qw,qx,qy,qz,q7,q8,q9,qAA,qAB,qAC,qAD,qAE,qAF,qj,qk,ql,qm,hg',hj',hw,hw2,hin,hr,hck,hkl,ha])]
    rw [qGM l x1 n hx hl hk m (i+1) M (by omega) (by omega)]
    simp [hr,qAJ,qAX,ha]
  ·rw [qR (r:= .inl false) (by simp [-getElem?_pos,qd,qA,qC,qF,qG,qH,qJ,zG,qD,qE,qK,hc,hx,qw,qx,qy,qz,q7,q8,q9,qAA,qAB,qAC,qAD,qAE,qAF,qj,qk,ql,qm,hg',hj',hw2,hin,hr])]
   simp [hr]
def qBV (l:List Nd) (i m:Nat):Bool:=(List.range' i m).all fun (i:Nat)=>qBm l (i:Int)&&inB l (i:Int)
theorem qCC {l:List Nd}:qBV l 0 l.length=true↔∀i:Int,0≤i→i<l.length→qBm l i=true∧qB2 (qAJ l) (qAX l) (qT l) i:=by
 unfold qBV
 rw [List.all_eq_true]
 constructor
 ·intro h i h0 h1
  have:=h i.toNat (by rw [List.mem_range'];exact ⟨i.toNat,by omega,by omega⟩)
  rw [show ((i.toNat:Nat):Int)=i by omega,Bool.and_eq_true,qGp] at this
  exact this
 ·intro h i hi
  rw [List.mem_range'] at hi
  obtain ⟨j,hj,rfl⟩:=hi
  rw [Bool.and_eq_true,qGp]
  exact h _ (by omega) (by omega)
theorem qGq (l:List Nd) (n:Nat) (hl:l.length≤60) (hk:∀c∈l,(kd c).length≤140737488351232) (hn:∀c∈l,(kd c).length+2≤n)
  (hok:∀c∈l,qQ n c.1 c.2.1 c.2.2.1 c.2.2.2.1 c.2.2.2.2.1 c.2.2.2.2.2.1 c.2.2.2.2.2.2.1 c.2.2.2.2.2.2.2.1 c.2.2.2.2.2.2.2.2.1 c.2.2.2.2.2.2.2.2.2.1 c.2.2.2.2.2.2.2.2.2.2.1 c.2.2.2.2.2.2.2.2.2.2.2.1 c.2.2.2.2.2.2.2.2.2.2.2.2.1 ((c.2.2.2.2.2.2.2.2.2.2.2.2.2).map qY)=some (qAo c)):
  ∀(m i M:Nat),l.length=i+m→m+1≤M→
   zO (qo n) M (l.map qN,(i:Int))=some (if qBV l i m=true then .inr (l.map qN) else .inl false)
 |m,i,0,h1,h2=>by omega
 |0,i,M+1,h1,h2=>by
  have hi:¬(i:Int)<(l.length:Int):=by omega
  rw [qR (r:= .inr (l.map qN)) (by simp [-getElem?_pos,qo,qA,qC,qF,qG,qH,qJ,zG,qD,qE,qK,hi])]
  rfl
 |m+1,i,M+1,h1,h2=>by
  have hi:(i:Int)<(l.length:Int):=by omega
  have hx:0≤(i:Int)∧(i:Int)<l.length:=⟨by omega,hi⟩
  have hc:=qAp hx
  have hm:=qEw hx
  have ho:=hok _ hm
  have hw:IntKind.i64.wrap ((i:Int)+1)=((i+1:Nat):Int):=by rw [qi (by omega)];omega
  have hnn:=hn _ hm
  obtain ⟨q,rfl⟩:∃q,n=q+1:=⟨n-1,by omega⟩
  have hlp:=qGM l i q hx hl (hk _ hm) (kd (ndi l i)).length 0 (q+1) (by omega) (by omega)
  rw [List.drop_zero,show ((qT l (i:Int)).all fun k=>decide (0≤k∧k≤(i:Int)-1)&&!(qAJ l k&&!qAX l (i:Int)))=inB l i from rfl] at hlp
  simp only [Int.natCast_zero] at hlp
  have e:qBV l i (m+1)=(qBm l i&&inB l i&&qBV l (i+1) m):=by unfold qBV;rw [List.range'_succ,List.all_cons]
  rw [e]
  rw [Int.toNat_natCast] at hc
  cases hnb:qAo (ndi l i) with
  |false=>
   rw [hnb] at ho
   rw [qR (r:= .inl false) (by simp [-getElem?_pos,qo,qA,qC,qF,qG,qH,qJ,zG,qD,qE,qK,hi,hc,qw,qx,qy,qz,q7,q8,q9,qAA,qAB,qAC,qAD,qAE,qAF,qj,qk,ql,qm,ho])]
   simp [qBm,hnb]
  |true=>
   rw [hnb] at ho
   cases hib:inB l i with
   |false=>
    rw [hib] at hlp
    rw [qR (r:= .inl false) (by simp [-getElem?_pos,qo,qA,qC,qF,qG,qH,qJ,zG,qD,qE,qK,hi,hc,qw,qx,qy,qz,q7,q8,q9,qAA,qAB,qAC,qAD,qAE,qAF,qj,qk,ql,qm,ho,hlp])]
    simp
   |true=>
    rw [hib] at hlp
    rw [qp (v':=(l.map qN,((i+1:Nat):Int))) (by simp [-getElem?_pos,qo,qA,qC,qF,qG,qH,qJ,zG,qD,qE,qK,hi,hc,qw,qx,qy,qz,q7,q8,q9,qAA,qAB,qAC,qAD,qAE,qAF,qj,qk,ql,qm,ho,hlp,hw])]
    rw [qGq l (q+1) hl hk hn hok m (i+1) M (by omega) (by omega)]
    simp [qBm,hnb]
def qCu (l:List Nd):Bool:=decide (1≤l.length∧l.length≤60)&&(qBV l 0 l.length&&(decide (qAf (qT l) l.length ((l.length:Int)-1)=0)&&(!qAJ l ((l.length:Int)-1)&&decide (qv (qT l) l.length ((l.length:Int)-1)≤12))))
theorem qDu (l:List Nd) (hk:∀c∈l,(kd c).length≤140737488351232∧c.2.2.2.2.1.size≤140737488351232):Ev (qAP · (l.map qN)) (qCu l):=by
 by_cases h1:1≤l.length
 ·by_cases h60:l.length≤60
  ·have hk1:∀c∈l,(kd c).length≤140737488351232:=fun c hc=>(hk c hc).1
   obtain ⟨n1,g1⟩:=qAn (F:=fun (c:Nd) n=>qQ n c.1 c.2.1 c.2.2.1 c.2.2.2.1 c.2.2.2.2.1 c.2.2.2.2.2.1 c.2.2.2.2.2.2.1 c.2.2.2.2.2.2.2.1 c.2.2.2.2.2.2.2.2.1 c.2.2.2.2.2.2.2.2.2.1 c.2.2.2.2.2.2.2.2.2.2.1 c.2.2.2.2.2.2.2.2.2.2.2.1 c.2.2.2.2.2.2.2.2.2.2.2.2.1 ((c.2.2.2.2.2.2.2.2.2.2.2.2.2).map qY)) (f:=qAo) l (fun c hc=>qCa c (hk c hc).2)
   obtain ⟨n2,g2⟩:=qAn (F:=fun (c:Nd) n=>if (kd c).length+2≤n then some () else none) (f:=fun _=>()) l (fun c hc=>⟨(kd c).length+2,fun n hn=>if_pos hn⟩)
   obtain ⟨n3,g3⟩:=qDB l (by omega) hk1 l.length ((l.length:Int)-1) (by omega) (by omega) (by omega)
   obtain ⟨n4,g4⟩:∃n0,qBV l 0 l.length=true→∀n,n0≤n→qh n (l.map qN) ((l.length:Int)-1)=some (qv (qT l) l.length ((l.length:Int)-1)):=by
    by_cases ho:qBV l 0 l.length=true
    ·obtain ⟨n4,g4⟩:=qDC l h60 hk1 (fun (i:Int) h0 h1=>(qCC.1 ho i h0 h1).2) l.length ((l.length:Int)-1) (by omega) (by omega) (by omega) (by omega)
     exact ⟨n4,fun _=>g4⟩
    ·exact ⟨0,fun h=>absurd h ho⟩
   refine ⟨n1+n2+n3+n4+l.length+5,fun n hn=>?_⟩
   obtain ⟨m,rfl,hm⟩:=up1 hn
   have hlp:=qGq l m h60 hk1 (fun c hc=>by
    have:=g2 m (by omega) c hc
    split at this
    ·assumption
    ·cases this) (g1 m (by omega)) l.length 0 m (by omega) (by omega)
   have g3:=g3 m (by omega)
   dsimp only at g3
   simp only [Int.natCast_zero] at hlp
   have hw:IntKind.i64.wrap ((l.length:Int)-1)=(l.length:Int)-1:=qi (by omega)
   have hx:0≤(l.length:Int)-1∧(l.length:Int)-1<l.length:=by omega
   have hc:=qAp hx
   have a1:¬(l.length:Int)<1:=by omega
   have a2:¬(l.length:Int)>60:=by omega
   generalize hxe:(l.length:Int)-1=x at hw hx hc g3 g4⊢
   simp only [qAP,qAh,qA,qC,qF,qG,qH,qJ,zG,qD,qE,qK,List.length_map,decide_eq_true_eq,a1,a2,if_false,hlp]
   unfold qCu
   rw [hxe]
   cases ho:qBV l 0 l.length with
   |false=>simp [qA,qC,qF,qG,qH,qJ,zG,qD,qE,qK]
   |true=>
    have g4:=g4 ho m (by omega)
    simp only [if_true,qA,qC,qF,qG,qH,qJ,zG,qD,qE,qK,List.length_map,hxe,hw,g3]
    by_cases ht:qAf (qT l) l.length x=0
    ·by_cases ha:(ndi l x).1=3
     ·simp [-getElem?_pos,qA,qC,qF,qG,qH,qJ,zG,qD,qE,qK,ht,hx,hc,qw,qx,qy,qz,q7,q8,q9,qAA,qAB,qAC,qAD,qAE,qAF,qj,qk,ql,qm,ha,qAJ]
     ·simp [-getElem?_pos,qA,qC,qF,qG,qH,qJ,zG,qD,qE,qK,ht,hx,hc,qw,qx,qy,qz,q7,q8,q9,qAA,qAB,qAC,qAD,qAE,qAF,qj,qk,ql,qm,ha,qAJ,g4,h1,h60]
    ·simp [-getElem?_pos,qA,qC,qF,qG,qH,qJ,zG,qD,qE,qK,ht]
  ·refine ⟨1,fun n hn=>?_⟩
   obtain ⟨m,rfl,hm⟩:=up1 (n0:=0) hn
   have a1:¬(l.length:Int)<1:=by omega
   have a2:(l.length:Int)>60:=by omega
   simp [-getElem?_pos,qAP,qAh,qA,qC,qF,qG,qH,qJ,zG,qD,qE,qK,a1,a2,qCu,h60]
 ·refine ⟨1,fun n hn=>?_⟩
  obtain ⟨m,rfl,hm⟩:=up1 (n0:=0) hn
  have a1:(l.length:Int)<1:=by omega
  simp [-getElem?_pos,qAP,qAh,qA,qC,qF,qG,qH,qJ,zG,qD,qE,qK,a1,qCu,h1]
theorem qF8 (l:List Nd) (x1 d:Int) (f n:Nat) (hx:0≤x1∧x1<l.length) (hl:l.length≤140737488351232) (hd:0≤d∧d≤1000) (hk:(kd (ndi l x1)).length≤140737488351232)
  (hrec:∀y:Int,0≤y→y<x1→qe n (l.map qN) y (d+1)=some (qAc (qBm l) (qAJ l) (qAX l) (qT l) f y)):
  ∀(j M:Nat) (s:Int),j≤(kd (ndi l x1)).length→j+1≤M→0≤s→s≤x1→
   zO (qZ (qe n) n) M (l.map qN,x1,d,s,(j:Int)-1)=some (.inr (goF (qAJ l) (qAX l) (qAc (qBm l) (qAJ l) (qAX l) (qT l) f) x1 ((qT l x1).take j).reverse s))∨
   (zO (qZ (qe n) n) M (l.map qN,x1,d,s,(j:Int)-1)=some (.inl (-1))∧goF (qAJ l) (qAX l) (qAc (qBm l) (qAJ l) (qAX l) (qT l) f) x1 ((qT l x1).take j).reverse s= -1)
 |0,0,s,h1,h2,h3,h4=>by omega
 |0,M+1,s,h1,h2,h3,h4=>by
  refine .inl ?_
  rw [qR (r:= .inr s) (by simp [-getElem?_pos,qZ,qA,qC,qF,qG,qH,qJ,zG,qD,qE,qK])]
  simp [goF]
 |j+1,0,s,h1,h2,h3,h4=>by omega
 |j+1,M+1,s,h1,h2,h3,h4=>by
  have hc:=qAp hx
  have hj:j<(kd (ndi l x1)).length:=by omega
  have hg:(qT l x1)[j]?=some (qT l x1)[j]:=zb hj
  have ih:=qF8 l x1 d f n hx hl hd hk hrec j M
  rw [qGU hg]
  generalize (qT l x1)[j]=k at hg
  have hi:(((j+1:Nat):Int)-1)=(j:Int):=by omega
  rw [hi,goF]
  have hg':(ndi l x1).2.2.2.2.2.2.2.2.2.2.2.2.2[j]?=some k:=hg
  have hj':j<(ndi l x1).2.2.2.2.2.2.2.2.2.2.2.2.2.length:=hj
  have hws:IntKind.i64.wrap (s-1)=s-1:=qi (by omega)
  by_cases hks:k=s-1
  ·by_cases hk0:k<0
   ·refine .inr ⟨?_,by rw [if_pos (.inr (.inl hk0))]⟩
    rw [qR (r:= .inl (-1)) (by simp [-getElem?_pos,qZ,qA,qC,qF,qG,qH,qJ,zG,qD,qE,qK,hc,hx,qw,qx,qy,qz,q7,q8,q9,qAA,qAB,qAC,qAD,qAE,qAF,qj,qk,ql,qm,hg',hj',hks,hws,show s-1<0 by omega])]
   ·have hws':IntKind.i64.wrap (s-1)=k:=by rw [hws,hks]
    have hkx:0≤k∧k<l.length:=by omega
    have hck:=qAp hkx
    by_cases hac:qAJ l k=true∧qAX l x1=false
    ·have ha:(ndi l k).1=3:=by simpa [qAJ] using hac.1
     have hb:¬(ndi l x1).1=6:=by simpa [qAX] using hac.2
     refine .inr ⟨?_,by rw [if_pos (.inr (.inr hac))]⟩
     rw [qR (r:= .inl (-1)) (by simp [-getElem?_pos,qZ,qA,qC,qF,qG,qH,qJ,zG,qD,qE,qK,hc,hx,qw,qx,qy,qz,q7,q8,q9,qAA,qAB,qAC,qAD,qAE,qAF,qj,qk,ql,qm,hg',hj',hws',hk0,hck,hkx,ha,hb])]
    ·have hr:=hrec k (by omega) (by omega)
     have hwd:IntKind.i64.wrap (d+1)=d+1:=qi (by omega)
     have hw2:IntKind.i64.wrap ((j:Int)-1)=(j:Int)-1:=qi (by omega)
     have hno:¬(k≠s-1∨k<0∨(qAJ l k=true∧qAX l x1=false)):=fun h=>by
      rcases h with h|h|h
      ·exact h hks
      ·exact hk0 h
      ·exact hac h
     have hcase:¬(ndi l k).1=3∨((ndi l k).1=3∧(ndi l x1).1=6):=by
      by_cases ha:(ndi l k).1=3
      ·refine .inr ⟨ha,?_⟩
       refine Decidable.byContradiction fun hb=>hac ⟨by simp [qAJ,ha],by simp [qAX,hb]⟩
      ·exact .inl ha
     rw [if_neg hno]
     by_cases ht:qAc (qBm l) (qAJ l) (qAX l) (qT l) f k<0
     ·refine .inr ⟨?_,by rw [if_pos ht]⟩
      rcases hcase with ha|⟨ha,hb⟩
      ·rw [qR (r:= .inl (-1)) (by simp [-getElem?_pos,qZ,qA,qC,qF,qG,qH,qJ,zG,qD,qE,qK,hc,hx,qw,qx,qy,qz,q7,q8,q9,qAA,qAB,qAC,qAD,qAE,qAF,qj,qk,ql,qm,hg',hj',hws',hk0,hck,hkx,ha,hwd,hr,ht])]
      ·rw [qR (r:= .inl (-1)) (by simp [-getElem?_pos,qZ,qA,qC,qF,qG,qH,qJ,zG,qD,qE,qK,hc,hx,qw,qx,qy,qz,q7,q8,q9,qAA,qAB,qAC,qAD,qAE,qAF,qj,qk,ql,qm,hg',hj',hws',hk0,hck,hkx,ha,hb,hwd,hr,ht])]
     ·rw [if_neg ht]
      have hb1:=(qGL (qBm l) (qAJ l) (qAX l) (qT l) f (k.toNat+1) k (by omega) (by omega) (by omega)).1
      have hstep:zO (qZ (qe n) n) (M+1) (l.map qN,x1,d,s,(j:Int))=zO (qZ (qe n) n) M (l.map qN,x1,d,qAc (qBm l) (qAJ l) (qAX l) (qT l) f k,(j:Int)-1):=by
       rcases hcase with ha|⟨ha,hb⟩
       ·rw [qp (v':=(l.map qN,x1,d,qAc (qBm l) (qAJ l) (qAX l) (qT l) f k,(j:Int)-1)) (by simp [-getElem?_pos,qZ,qA,qC,qF,qG,qH,qJ,zG,qD,qE,qK,hc,hx,qw,qx,qy,qz,q7,q8,q9,qAA,qAB,qAC,qAD,qAE,qAF,qj,qk,ql,qm,hg',hj',hws',hk0,hck,hkx,ha,hwd,hr,ht,hw2])]
       ·rw [qp (v':=(l.map qN,x1,d,qAc (qBm l) (qAJ l) (qAX l) (qT l) f k,(j:Int)-1)) (by simp [-getElem?_pos,qZ,qA,qC,qF,qG,qH,qJ,zG,qD,qE,qK,hc,hx,qw,qx,qy,qz,q7,q8,q9,qAA,qAB,qAC,qAD,qAE,qAF,qj,qk,ql,qm,hg',hj',hws',hk0,hck,hkx,ha,hb,hwd,hr,ht,hw2])]
      rw [hstep]
      exact ih _ (by omega) (by omega) (by omega) (by omega)
  ·refine .inr ⟨?_,by rw [if_pos (.inl hks)]⟩
   rw [qR (r:= .inl (-1)) (by simp [-getElem?_pos,qZ,qA,qC,qF,qG,qH,qJ,zG,qD,qE,qK,hc,hx,qw,qx,qy,qz,q7,q8,q9,qAA,qAB,qAC,qAD,qAE,qAF,qj,qk,ql,qm,hg',hj',hws,hks])]
theorem qDv (l:List Nd) (hl:l.length≤140737488351232) (hk:∀c∈l,(kd c).length≤140737488351232∧c.2.2.2.2.1.size≤140737488351232):∀(f:Nat) (x d:Int),x<l.length→d=12-f→0≤d→Ev (qe · (l.map qN) x d) (qAc (qBm l) (qAJ l) (qAX l) (qT l) f x)
 |0,x,d,h1,h2,h3=>by
  refine ⟨1,fun n hn=>?_⟩
  obtain ⟨m,rfl,hm⟩:=up1 (n0:=0) hn
  have a:d≥12:=by omega
  by_cases h:x<0<;>simp [-getElem?_pos,qe,qBW,qA,qC,qF,qG,qH,qJ,zG,qD,qE,qK,h,a,qAc]
 |f+1,x,d,h1,h2,h3=>by
  by_cases h0:x<0
  ·refine ⟨1,fun n hn=>?_⟩
   obtain ⟨m,rfl,hm⟩:=up1 (n0:=0) hn
   simp [-getElem?_pos,qe,qBW,qA,qC,qF,qG,qH,qJ,zG,qD,qE,qK,h0,qAc]
  ·have hx:0≤x∧x<l.length:=by omega
   have hc:=qAp hx
   have hm':=qEw hx
   obtain ⟨n0,hn0⟩:=qGV (F:=fun y n=>qe n (l.map qN) y (d+1)) (f:=fun y=>qAc (qBm l) (qAJ l) (qAX l) (qT l) f y) x (fun y h3 h4=>qDv l hl hk f y (d+1) (by omega) (by omega) (by omega))
   obtain ⟨n1,g1⟩:=qF1 (ndi l x) (hk _ hm').2
   refine ⟨n0+n1+(kd (ndi l x)).length+5,fun n hn=>?_⟩
   obtain ⟨m,rfl,hm⟩:=up1 hn
   have g1:=g1 m (by omega)
   have h:=qF8 l x d f m hx hl (by omega) (hk _ hm').1 (hn0 m (by omega)) (kd (ndi l x)).length m x (Nat.le_refl _) (by omega) (by omega) (by omega)
   have e:(qT l x).take (kd (ndi l x)).length=qT l x:=List.take_length
   rw [e] at h
   have hw2:IntKind.i64.wrap (((kd (ndi l x)).length:Int)-1)=((kd (ndi l x)).length:Int)-1:=by
    have:=(hk _ hm').1
    exact qi (by omega)
   have a:¬d≥12:=by omega
   unfold kd at h hw2
   dsimp only at g1⊢
   simp only [qe,qBW,qAc,qA,qC,qF,qG,qH,qJ,zG,qD,qE,qK]
   cases hnb:qAo (ndi l x) with
   |false=>
    rw [hnb] at g1
    simp [-getElem?_pos,qA,qC,qF,qG,qH,qJ,zG,qD,qE,qK,h0,a,hc,hx,qw,qx,qy,qz,q7,q8,q9,qAA,qAB,qAC,qAD,qAE,qAF,qj,qk,ql,qm,g1,qBm,hnb]
   |true=>
    rw [hnb] at g1
    rcases h with h|⟨h,h'⟩
    ·simp [-getElem?_pos,qA,qC,qF,qG,qH,qJ,zG,qD,qE,qK,h0,a,hc,hx,qw,qx,qy,qz,q7,q8,q9,qAA,qAB,qAC,qAD,qAE,qAF,qj,qk,ql,qm,g1,qBm,hnb,hw2,h]
    ·simp only [h']
     simp [-getElem?_pos,qA,qC,qF,qG,qH,qJ,zG,qD,qE,qK,h0,a,hc,hx,qw,qx,qy,qz,q7,q8,q9,qAA,qAB,qAC,qAD,qAE,qAF,qj,qk,ql,qm,g1,qBm,hnb,hw2,h]
theorem qGy {l:List Nd}:qCu l=(decide (1≤l.length∧l.length≤60)&&(!qAJ l ((l.length:Int)-1)&&decide (qAc (qBm l) (qAJ l) (qAX l) (qT l) 12 ((l.length:Int)-1)=0))):=by
 rw [Bool.eq_iff_iff]
 unfold qCu
 simp only [Bool.and_eq_true,decide_eq_true_eq]
 constructor
 ·intro ⟨h1,h2,h3,h4,h5⟩
  refine ⟨h1,h4,?_⟩
  rw [qGo (qBm l) (qAJ l) (qAX l) (qT l) 12 l.length l.length ((l.length:Int)-1) (by omega) (by omega) (by omega) (fun i i0 i1=>qCC.1 h2 i i0 (by omega)) (by omega) (by simpa using h5)]
  exact h3
 ·intro ⟨h1,h4,h5⟩
  obtain ⟨b1,b2,b3,b4⟩:=qGL (qBm l) (qAJ l) (qAX l) (qT l) 12 l.length ((l.length:Int)-1) (by omega) (by omega) (by omega)
  rw [h5] at b2 b3
  refine ⟨h1,qCC.2 (fun i i0 i1=>b3 i i0 (by omega)),b2,h4,?_⟩
  have:=b4 l.length (fun i i0 i1=>(b3 i i0 i1).2) (by omega)
  simpa using this
theorem qDw (l:List Nd) (hl:l.length≤140737488351232) (hk:∀c∈l,(kd c).length≤140737488351232∧c.2.2.2.2.1.size≤140737488351232):Ev (qAQ · (l.map qN)) (qCu l):=by
 rw [qGy]
 by_cases h:1≤l.length∧l.length≤60
 ·obtain ⟨n1,g1⟩:=qDv l hl hk 12 ((l.length:Int)-1) 0 (by omega) (by omega) (by omega)
  obtain ⟨n2,g2⟩:=qf (l.length:Int) 1 60
  refine ⟨n1+n2+1,fun n hn=>?_⟩
  obtain ⟨m,rfl,hm⟩:=up1 hn
  have g1:=g1 m (by omega)
  have g2:=g2 m (by omega)
  dsimp only at g1 g2⊢
  have hw:IntKind.i64.wrap ((l.length:Int)-1)=(l.length:Int)-1:=qi (by omega)
  have hx:0≤(l.length:Int)-1∧(l.length:Int)-1<l.length:=by omega
  have hc:=qAp hx
  have h':(1:Int)≤l.length∧(l.length:Int)≤60:=by omega
  generalize hxe:(l.length:Int)-1=x at hw hx hc g1⊢
  by_cases ha:(ndi l x).1=3
  ·simp [-getElem?_pos,qAQ,qAi,qA,qC,qF,qG,qH,qJ,zG,qD,qE,qK,hxe,g2,h',hw,hx,hc,qw,qx,qy,qz,q7,q8,q9,qAA,qAB,qAC,qAD,qAE,qAF,qj,qk,ql,qm,ha,qAJ]
  ·by_cases hf:qAc (qBm l) (qAJ l) (qAX l) (qT l) 12 x=0<;>simp [-getElem?_pos,qAQ,qAi,qA,qC,qF,qG,qH,qJ,zG,qD,qE,qK,hxe,g1,g2,h,h',hw,hx,hc,qw,qx,qy,qz,q7,q8,q9,qAA,qAB,qAC,qAD,qAE,qAF,qj,qk,ql,qm,ha,qAJ,hf]
 ·obtain ⟨n2,g2⟩:=qf (l.length:Int) 1 60
  refine ⟨n2+1,fun n hn=>?_⟩
  obtain ⟨m,rfl,hm⟩:=up1 hn
  have g2:=g2 m (by omega)
  dsimp only at g2⊢
  have h':¬((1:Int)≤l.length∧(l.length:Int)≤60):=by omega
  simp [-getElem?_pos,qAQ,qAi,qA,qC,qF,qG,qH,qJ,zG,qD,qE,qK,g2,h,h']
structure Fine (l:List Nd):Prop where
 len:l.length≤60
 own:∀i:Int,0≤i→i<l.length→qBm l i=true∧qB2 (qAJ l) (qAX l) (qT l) i
 sz:∀c∈l,(kd c).length≤140737488351232∧c.2.2.2.2.1.size≤140737488351232
abbrev PS:=List UInt8×Bool×List Nd
def wch (c:UInt8):Bool:=(decide (65≤c.toNat)&&decide (c.toNat≤90))||((decide (48≤c.toNat)&&decide (c.toNat≤57))||c==36)
def wr (r:List UInt8):List UInt8:=r.dropWhile wch
inductive PJ where
 |bin (least deep:Int)
 |loop (least deep a:Int)
 |un (deep:Int)
 |at (deep:Int)
 |call (op deep:Int)
 |args (op deep:Int) (kids:List Int)
inductive SJ where
 |row (level:Int)
 |rl (level a:Int)
 |one
 |call (op:Int) (kids:List Int)
 |arg
def qG6 (c:Nd):Prop:=(kd c).length≤2000∧c.2.2.2.2.1.size≤2000
structure Gd (p:PS):Prop where
 r:p.1.length≤1000
 n:p.2.2.length≤60
 s:∀x∈p.2.2,qG6 x
structure Go (k:Nat) (q q':PS):Prop where
 suf:q'.1<:+q.1
 sum:q'.2.2.length+q'.1.length+k≤q.2.2.length+q.1.length
 sm:(∀x∈q.2.2,qG6 x)→∀x∈q'.2.2,qG6 x
theorem Go.trans {a b:Nat} {p q r:PS} (h:Go a p q) (h':Go b q r):Go (a+b) p r:=⟨h'.suf.trans h.suf,by have:=h.sum;have:=h'.sum;omega,fun e=>h'.sm (h.sm e)⟩
theorem Go.of (q:PS) {r:List UInt8} (b:Bool) {k:Nat} (h:r<:+q.1) (hk:r.length+k≤q.1.length):Go k q (r,b,q.2.2):=⟨h,by simp only;omega,id⟩
def Iv (s:List UInt8) (q:PS):Prop:=q.1<:+s∧q.2.2.length+q.1.length≤2000
theorem Iv.go {s:List UInt8} {k:Nat} {q q':PS} (h:Iv s q) (g:Go k q q'):Iv s q':=⟨g.suf.trans h.1,by have:=g.sum;have:=h.2;omega⟩
abbrev Cl:=Int×Int×BA
def lo (l:List Nd) (i:Int):Int:=qAf (qT l) (i.toNat+1) i
def Dwx {β:Type} (Q:β→Prop) (R:Nat→Tr β):Prop:=∃x,Q x∧Ev (fun n=>(R n).run) x
theorem qBi {α β:Type} {Q:β→Prop} {F:Nat→Option α} {r:α} {K:Nat→α→Tr β} (h:Ev F r) (hk:Dwx Q fun n=>K n r):Dwx Q fun n=> .opt (F n) (K n):=by
 obtain ⟨x,q,n1,h1⟩:=hk
 obtain ⟨n0,h0⟩:=h
 exact ⟨x,q,n0+n1,fun n hn=>qM (h0 n (by omega)) (h1 n (by omega))⟩
theorem qDi {β:Type} {Q:β→Prop} {b:Bool} {t e:Nat→Tr β} (h:b=true) (hk:Dwx Q t):Dwx Q fun n=> .ask b (t n) (e n):=by
 obtain ⟨x,q,n1,h1⟩:=hk
 exact ⟨x,q,n1,fun n hn=>qO h (h1 n hn)⟩
theorem qEu {β:Type} {Q:β→Prop} {b:Bool} {t e:Nat→Tr β} (h:b=false) (hk:Dwx Q e):Dwx Q fun n=> .ask b (t n) (e n):=by
 obtain ⟨x,q,n1,h1⟩:=hk
 exact ⟨x,q,n1,fun n hn=>qW h (h1 n hn)⟩
theorem qAG {β:Type} {Q:β→Prop} {x:β} (h:Q x):Dwx Q fun _=> .done x:=⟨x,h,0,fun _ _=>rfl⟩
theorem qB3 {β:Type} {Q:β→Prop} {F:Nat→Option β} {R:Nat→Tr β} (h:Dwx Q R) (hF:∀n,F (n+1)=(R n).run):∃x,Q x∧Ev F x:=by
 obtain ⟨x,q,n1,h1⟩:=h
 refine ⟨x,q,n1+1,fun n hn=>?_⟩
 obtain ⟨m,rfl,hm⟩:=up1 hn
 rw [hF]
 exact h1 m hm
theorem qDD {β:Type} {F:Nat→Option β} {x:β} (h:∃y,y=x∧Ev F y):Ev F x:=by
 obtain ⟨y,rfl,h⟩:=h
 exact h
def qGW {α R:Type} (f:Nat→α→Option R):Nat→List α→Option R
 |_,[]=>none
 |i,a::r=>match f i a with
  |some x=>some x
  |none=>qGW f (i+1) r
theorem qHF {V R α:Type} {B:V→Tr (V⊕R)} (st:Nat→V) (l:List α) (f:Nat→α→Option R) (z:R) (hs:∀i a,l[i]?=some a→(B (st i)).run=some (match f i a with|some r=> .inr r|none=> .inl (st (i+1))))
  (he:(B (st l.length)).run=some (.inr z)):∀(M:Nat),l.length+1≤M→zO B M (st 0)=some ((qGW f 0 l).getD z):=by
 have key:∀(r:List α) (i M:Nat),l.drop i=r→i+r.length=l.length→r.length+1≤M→zO B M (st i)=some ((qGW f i r).getD z):=by
  intro r
  induction r with
  |nil=>
   intro i M h1 h2 h3
   obtain ⟨M,rfl⟩:∃q,M=q+1:=⟨M-1,by omega⟩
   have e:i=l.length:=by simpa using h2
   subst e
   rw [qR he]
   rfl
  |cons a r ih=>
   intro i M h1 h2 h3
   obtain ⟨M,rfl⟩:∃q,M=q+1:=⟨M-1,by omega⟩
   have hg:l[i]?=some a:=by rw [←List.head?_drop,h1];rfl
   have hd:l.drop (i+1)=r:=by rw [←List.tail_drop,h1];rfl
   have h4:=hs i a hg
   simp only [List.length_cons] at h2 h3
   unfold qGW
   cases hf:f i a with
   |some x=>rw [hf] at h4;rw [qR h4];rfl
   |none=>rw [hf] at h4;rw [qp h4];exact ih (i+1) M hd (by omega) (by omega)
 exact fun M h=>key l 0 M rfl (by omega) h
theorem qGk {i:Nat} {k:Int} {l:List (List PV)} {e:List PV} (hk:k=(i:Int)) (h:l[i]?=some e):decide (0≤k∧k<l.length)=true∧l[k.toNat]?=some e:=by
 subst hk
 have:=(List.getElem?_eq_some_iff.1 h).1
 exact ⟨zo (by omega),by rw [Int.toNat_natCast];exact h⟩
abbrev Sm:=Int×Int×Int×BA×Int
theorem qGX {α β:Type} {g:α→β} {l:List α} {i:Nat} {a:α} (h:l[i]?=some a):(l.take (i+1)).map g=(l.take i).map g++ [g a]:=by
 rw [List.take_add_one,h,List.map_append]
 rfl
theorem qEK {α R:Type}:∀(l:List α) (i:Nat),qGW (fun (_:Nat) (_:α)=>(none:Option R)) i l=none
 | [],i=>rfl
 |a::l,i=>qEK l (i+1)
def qHG:Nd:=(1,0,4,3,em,0,0,false,false,0,0,false,false,[])
def plB (c:Nd):Bool:=if c.1=2 then qA0 c.2.2.2.2.2.1 c.2.2.2.2.2.2.1 else if c.1=3 then qA9 c.2.2.2.2.2.1 c.2.2.2.2.2.2.1 c.2.2.2.2.2.2.2.2.2.1 c.2.2.2.2.2.2.2.2.2.2.1 else true
def qG2 (c:Nd):Int×Int×Int×Int×BA×Int×Int×Bool×Bool×Int×Int×Bool×Bool×List (List PV):=(c.1,c.2.1,c.2.2.1,c.2.2.2.1,c.2.2.2.2.1,c.2.2.2.2.2.1,c.2.2.2.2.2.2.1,c.2.2.2.2.2.2.2.1,c.2.2.2.2.2.2.2.2.1,c.2.2.2.2.2.2.2.2.2.1,c.2.2.2.2.2.2.2.2.2.2.1,c.2.2.2.2.2.2.2.2.2.2.2.1,c.2.2.2.2.2.2.2.2.2.2.2.2.1,(kd c).map qY)
def chN (f:Nd→Nd) (c:Nd):Nd:=if c.1=2∨c.1=3 then (if plB (f c)=true then f c else qHG) else c
theorem qGY (a b:Int):qA9 a b a b=qA0 a b:=by
 unfold qA9
 rw [zo (Int.le_refl a),zo (Int.le_refl b)]
 cases qA0 a b<;>rfl
theorem qFY (c:Nd):Ev (qP · c.1 c.2.1 c.2.2.1 c.2.2.2.1 c.2.2.2.2.1 c.2.2.2.2.2.1 c.2.2.2.2.2.2.1 c.2.2.2.2.2.2.2.1 c.2.2.2.2.2.2.2.2.1 c.2.2.2.2.2.2.2.2.2.1 c.2.2.2.2.2.2.2.2.2.2.1 c.2.2.2.2.2.2.2.2.2.2.2.1 c.2.2.2.2.2.2.2.2.2.2.2.2.1 ((kd c).map qY)) (plB c):=by
 obtain ⟨k,op,ck,cn,cs,ac,ar,af,ag,bc,br,bf,bg,ks⟩:=c
 have ar2:k=2→Ev (qu · k op ck cn cs ac ar af ag bc br bf bg (ks.map qY)) (ac,ar,ac,ar):=fun h=>qDD (qB3 (R:=fun n=>qAZ n k op ck cn cs ac ar af ag bc br bf bg (ks.map qY)) (qDi (beq_iff_eq.2 h) (qAG rfl)) fun n=>rfl)
 have ar3:k≠2→Ev (qu · k op ck cn cs ac ar af ag bc br bf bg (ks.map qY)) (ac,ar,bc,br):=fun h=>qDD (qB3 (R:=fun n=>qAZ n k op ck cn cs ac ar af ag bc br bf bg (ks.map qY)) (qEu (beq_eq_false_iff_ne.2 h) (qAG rfl)) fun n=>rfl)
 refine qDD (qB3 (R:=fun n=>qAY n k op ck cn cs ac ar af ag bc br bf bg (ks.map qY)) ?_ fun n=>rfl)
 unfold plB
 dsimp only
 by_cases h2:k=2
 ·rw [if_pos h2,←qGY]
  exact qEu (by subst h2;rfl) (qBi (ar2 h2) (qBi (qBM ac ar ac ar) (qAG rfl)))
 ·rw [if_neg h2]
  refine qDi (bne_iff_ne.2 h2) ?_
  by_cases h3:k=3
  ·rw [if_pos h3]
   exact qEu (by subst h3;rfl) (qBi (ar3 h2) (qBi (qBM ac ar bc br) (qAG rfl)))
  ·rw [if_neg h3]
   exact qDi (bne_iff_ne.2 h3) (qAG rfl)
theorem qGr {op ck cn ac ar bc br:Int} {cs:BA} {af ag bf bg:Bool} {ks:List Int}:qAo (2,op,ck,cn,cs,ac,ar,af,ag,bc,br,bf,bg,ks)=(decide (op=0)&&(zV ck cn cs&&(zP bc br bf bg&&(decide (ks.length=0)&&qA0 ac ar)))):=by
 unfold qAo
 dsimp only
 rw [if_neg (by decide),if_pos rfl]
 rfl
theorem qG3 {op ck cn ac ar bc br:Int} {cs:BA} {af ag bf bg:Bool} {ks:List Int}:qAo (3,op,ck,cn,cs,ac,ar,af,ag,bc,br,bf,bg,ks)=(decide (op=0)&&(zV ck cn cs&&(decide (ks.length=0)&&qA9 ac ar bc br))):=by
 unfold qAo
 dsimp only
 rw [if_neg (by decide),if_neg (by decide),if_pos rfl]
 rfl
theorem qAx {l:List Nd} (h:qCu l=true):(1≤l.length∧l.length≤60)∧∀c∈l,qAo c=true:=by
 unfold qCu at h
 simp only [Bool.and_eq_true,decide_eq_true_eq] at h
 refine ⟨h.1,fun c hc=>?_⟩
 obtain ⟨i,hi⟩:=List.mem_iff_getElem?.1 hc
 have hil:=(List.getElem?_eq_some_iff.1 hi).1
 have:=(qCC.1 h.2.1 (i:Int) (by omega) (by omega)).1
 unfold qBm at this
 have e:ndi l (i:Int)=c:=by unfold ndi;simp [hi]
 rw [e] at this
 exact this
structure PlaceCh (f:Nd→Nd):Prop where
 k:∀c,(f c).1=c.1
 n:∀c,qAo c=true→c.1=2∨c.1=3→qAo (f c)=plB (f c)
 kd:∀c,kd (f c)=kd c
abbrev Vs:=Int×List Int×List Cl
abbrev Br:=BA×Int
inductive Rch (sc:Nat→List Nat) (a:Nat):Nat→Prop
 |one {j:Nat}:j∈sc a→Rch sc a j
 |more {i j:Nat}:Rch sc a i→j∈sc i→Rch sc a j
def qCl (Q:List Nat):List Nat→List Nat
 | []=>Q
 |x::M=>qCl (if Q.contains x=true then Q else Q++ [x]) M
theorem qBQ {x:Nat}:∀(M Q:List Nat),x∈qCl Q M↔x∈Q∨x∈M
 | [],Q=>by simp [qCl]
 |y::M,Q=>by
  unfold qCl
  rw [qBQ M]
  by_cases h:Q.contains y=true
  ·rw [if_pos h]
   have hy:y∈Q:=by simpa using h
   rw [List.mem_cons]
   constructor
   ·rintro (h|h)
    ·exact .inl h
    ·exact .inr (.inr h)
   ·rintro (h|rfl|h)
    ·exact .inl h
    ·exact .inl hy
    ·exact .inr h
  ·rw [if_neg h,List.mem_append,List.mem_singleton,List.mem_cons,or_assoc]
theorem qDx:∀(M Q:List Nat),Q.Nodup→(qCl Q M).Nodup
 | [],Q,h=>h
 |y::M,Q,h=>by
  unfold qCl
  refine qDx M _ ?_
  by_cases hy:Q.contains y=true
  ·rw [if_pos hy];exact h
  ·rw [if_neg hy]
   have hy':y∉Q:=by simpa using hy
   rw [List.nodup_append]
   refine ⟨h,by simp,fun a ha b hb=>?_⟩
   rw [List.mem_singleton] at hb
   subst hb
   rintro rfl
   exact hy' ha
theorem qDj:∀(M Q:List Nat) (k:Nat),k<Q.length→(qCl Q M)[k]?=Q[k]?
 | [],Q,k,h=>rfl
 |y::M,Q,k,h=>by
  unfold qCl
  by_cases hy:Q.contains y=true
  ·rw [if_pos hy];exact qDj M Q k h
  ·rw [if_neg hy,qDj M _ k (by simp;omega),List.getElem?_append_left h]
theorem qGl:∀(n:Nat) (l:List Nat),l.Nodup→(∀x∈l,x<n)→l.length≤n
 |0,l,_,h=>by
  cases l with
  |nil=>simp
  |cons a l=>exact absurd (h a (List.mem_cons_self ..)) (Nat.not_lt_zero a)
 |n+1,l,hd,h=>by
  by_cases hn:n∈l
  ·have h1:=qGl n (l.erase n) (hd.erase n) fun x hx=>by
    have h2:=(hd.mem_erase_iff).1 hx
    have:=h x h2.2
    omega
   rw [List.length_erase_of_mem hn] at h1
   omega
  ·have:=qGl n l hd fun x hx=>by
    have h2:=h x hx
    have h3:x≠n:=fun e=>hn (e▸hx)
    omega
   omega
structure QI (sc:Nat→List Nat) (a n:Nat) (Q:List Nat) (k:Nat):Prop where
 nd:Q.Nodup
 lt:∀x∈Q,x<n
 rc:∀x∈Q,Rch sc a x
 st:∀j∈sc a,j∈Q
 dn:∀i q,i<k→Q[i]?=some q→q≠a∧∀j∈sc q,j∈Q
theorem QI.len {sc:Nat→List Nat} {a n:Nat} {Q:List Nat} {k:Nat} (h:QI sc a n Q k):Q.length≤n:=qGl n Q h.nd h.lt
theorem QI.all {sc:Nat→List Nat} {a n:Nat} {Q:List Nat} (h:QI sc a n Q Q.length):¬Rch sc a a:=by
 have key:∀x,Rch sc a x→x∈Q:=fun x hx=>by
  induction hx with
  |one h1=>exact h.st _ h1
  |more h1 h2 ih=>
   obtain ⟨i,hi,e⟩:=List.mem_iff_getElem.1 ih
   exact (h.dn i _ hi (by rw [zb hi,e])).2 _ h2
 intro hr
 obtain ⟨i,hi,e⟩:=List.mem_iff_getElem.1 (key a hr)
 exact (h.dn i _ hi (by rw [zb hi,e])).1 rfl
theorem QI.next {sc:Nat→List Nat} {a n:Nat} {Q:List Nat} {k q:Nat} (h:QI sc a n Q k) (hq:Q[k]?=some q) (hne:q≠a) (hs:∀j∈sc q,j<n):QI sc a n (qCl Q (sc q)) (k+1):=by
 have hk:=(List.getElem?_eq_some_iff.1 hq).1
 have hm:=zn hq
 refine ⟨qDx _ _ h.nd,fun x hx=>?_,fun x hx=>?_,fun j hj=>(qBQ _ _).2 (.inl (h.st j hj)),fun i r hi hr=>?_⟩
 ·rcases (qBQ _ _).1 hx with hx|hx
  ·exact h.lt x hx
  ·exact hs x hx
 ·rcases (qBQ _ _).1 hx with hx|hx
  ·exact h.rc x hx
  ·exact .more (h.rc q hm) hx
 ·rw [qDj _ _ i (by omega)] at hr
  by_cases e:i=k
  ·subst e
   rw [hq] at hr
   cases hr
   exact ⟨hne,fun j hj=>(qBQ _ _).2 (.inr hj)⟩
  ·obtain ⟨h1,h2⟩:=h.dn i r (by omega) hr
   exact ⟨h1,fun j hj=>(qBQ _ _).2 (.inl (h2 j hj))⟩
theorem QI.start {sc:Nat→List Nat} {a n:Nat} (hd:(sc a).Nodup) (hs:∀j∈sc a,j<n):QI sc a n (sc a) 0:=⟨hd,hs,fun x hx=> .one hx,fun j hj=>hj,fun i q hi=>absurd hi (Nat.not_lt_zero i)⟩
structure MI (sc:Nat→List Nat) (a n:Nat) (met:List Bool) (Q:List Nat) (k:Nat):Prop where
 ln:met.length=n
 kl:k≤Q.length
 lt:∀x∈Q,x<n
 rc:∀x∈Q,Rch sc a x
 st:∀j∈sc a,j∈Q
 mt:∀i,met[i]?=some true→∀j∈sc i,j∈Q
 dn:∀i q,i<k→Q[i]?=some q→q≠a∧met[q]?=some true
theorem MI.all {sc:Nat→List Nat} {a n:Nat} {met:List Bool} {Q:List Nat} (h:MI sc a n met Q Q.length):¬Rch sc a a:=by
 have key:∀x,Rch sc a x→x∈Q:=fun x hx=>by
  induction hx with
  |one h1=>exact h.st _ h1
  |more h1 h2 ih=>
   obtain ⟨i,hi,e⟩:=List.mem_iff_getElem.1 ih
   exact h.mt _ (h.dn i _ hi (by rw [zb hi,e])).2 _ h2
 intro hr
 obtain ⟨i,hi,e⟩:=List.mem_iff_getElem.1 (key a hr)
 exact (h.dn i _ hi (by rw [zb hi,e])).1 rfl
theorem MI.start {sc:Nat→List Nat} {a n:Nat} (hs:∀j∈sc a,j<n):MI sc a n (List.replicate n false) (sc a) 0:=⟨by simp,Nat.zero_le _,hs,fun x hx=> .one hx,fun j hj=>hj,fun i hi=>by
 obtain ⟨h1,h2⟩:=List.getElem?_eq_some_iff.1 hi
 simp at h2,fun i q hi=>absurd hi (Nat.not_lt_zero i)⟩
inductive Tch (bs:Nat→Prop) (sc:Nat→List Nat):Nat→Prop
 |zero {i:Nat}:bs i→Tch bs sc i
 |lean {i k:Nat}:k∈sc i→Tch bs sc k→Tch bs sc i
structure TI (bs:Nat→Prop) (sc:Nat→List Nat) (n:Nat) (o:List Bool):Prop where
 ln:o.length=n
 ok:∀i,o[i]?=some true→Tch bs sc i
 st:∀i,i<n→bs i→o[i]?=some true
theorem TI.set {bs:Nat→Prop} {sc:Nat→List Nat} {n:Nat} {o:List Bool} (h:TI bs sc n o) {i k:Nat} (hk:k∈sc i) (ho:o[k]?=some true):TI bs sc n (o.set i true):=by
 refine ⟨by rw [List.length_set];exact h.ln,fun j hj=>?_,fun j hj hb=>?_⟩
 ·by_cases e:i=j
  ·subst e;exact .lean hk (h.ok k ho)
  ·rw [List.getElem?_set_ne e] at hj;exact h.ok j hj
 ·by_cases e:i=j
  ·subst e;exact List.getElem?_set_self (by rw [h.ln];exact hj)
  ·rw [List.getElem?_set_ne e];exact h.st j hj hb
theorem TI.all {bs:Nat→Prop} {sc:Nat→List Nat} {n:Nat} {o:List Bool} (h:TI bs sc n o) (hn:∀i,∀k∈sc i,k<n) (hc:∀i,i<n→∀k∈sc i,o[k]?=some true→o[i]?=some true) {i:Nat} (hi:i<n):o[i]?=some true↔Tch bs sc i:=by
 refine ⟨h.ok i,fun ht=>?_⟩
 induction ht with
 |zero hb=>exact h.st _ hi hb
 |lean hk _ ih=>exact hc _ hi _ hk (ih (hn _ _ hk))
structure SI (hr b2:Nat→Bool) (sc:Nat→List Nat) (n:Nat) (A:List Nat):Prop where
 nd:A.Nodup
 lt:∀a∈A,a<n
 ok:∀a∈A,Tch (fun i=>hr i=true∨b2 i=true) sc a
theorem SI.all {hr b2:Nat→Bool} {sc:Nat→List Nat} {n:Nat} {A:List Nat} (h:SI hr b2 sc n A) (hn:∀i,∀k∈sc i,k<n) (hb:∀i,∀k∈sc i,hr k=true→b2 i=true)
  (hc:∀i,i<n→(b2 i||A.any fun k=>(sc i).contains k)=true→(hr i||A.contains i)=true) {i:Nat} (hi:i<n):(hr i||A.contains i)=true↔Tch (fun i=>hr i=true∨b2 i=true) sc i:=by
 constructor
 ·intro h1
  rcases Bool.or_eq_true_iff.1 h1 with h1|h1
  ·exact .zero (.inl h1)
  ·exact h.ok i (by simpa using h1)
 ·intro ht
  induction ht with
  |zero hq=>
   rcases hq with hq|hq
   ·rw [hq];rfl
   ·exact hc _ hi (by rw [hq];rfl)
  | @lean i k hk _ ih=>
   refine hc i hi ?_
   rw [Bool.or_eq_true]
   rcases Bool.or_eq_true_iff.1 (ih (hn _ _ hk)) with h1|h1
   ·exact .inl (hb i k hk h1)
   ·exact .inr (List.any_eq_true.2 ⟨k,by simpa using h1,by simpa using hk⟩)
structure StOk (n:Nat) (c:Sm):Prop where
 k:c.1=1∨c.1=2∨c.1=3∨c.1=4∨c.1=5
 s:c.2.2.2.1.size≤200
 m:c.1=3∨c.1=4→1≤c.2.2.2.2∧c.2.2.2.2≤n
def Sml (x:Int):Prop:=1≤x∧x≤1000000000
structure VerT (v:Vs):Prop where
 id:Sml v.1
 up:∀u∈v.2.1,Sml u
 un:v.2.1.length≤2
 cn:v.2.2.length≤120
 cs:∀c∈v.2.2,c.2.2.size≤200
structure BrT (b:Br):Prop where
 id:Sml b.2
 nm:b.1.size≤12
theorem qGN (c:Nd) (hb:(kd c).length*8≤140737488351232):∀n,(kd c).length+10≤n→qBC n c.1 c.2.1 c.2.2.1 c.2.2.2.1 c.2.2.2.2.1 c.2.2.2.2.2.1 c.2.2.2.2.2.2.1 c.2.2.2.2.2.2.2.1 c.2.2.2.2.2.2.2.2.1 c.2.2.2.2.2.2.2.2.2.1 c.2.2.2.2.2.2.2.2.2.2.1 c.2.2.2.2.2.2.2.2.2.2.2.1 c.2.2.2.2.2.2.2.2.2.2.2.2.1 ((c.2.2.2.2.2.2.2.2.2.2.2.2.2).map qY)=some (c.1,c.2.1,c.2.2.1,c.2.2.2.1,c.2.2.2.2.1,c.2.2.2.2.2.1,c.2.2.2.2.2.2.1,c.2.2.2.2.2.2.2.1,c.2.2.2.2.2.2.2.2.1,c.2.2.2.2.2.2.2.2.2.1,c.2.2.2.2.2.2.2.2.2.2.1,c.2.2.2.2.2.2.2.2.2.2.2.1,c.2.2.2.2.2.2.2.2.2.2.2.2.1,(kd c).length,(c.2.2.2.2.2.2.2.2.2.2.2.2.2).map qY):=by
 intro n hn
 obtain ⟨m,rfl,hm⟩:=up1 hn
 have h:=qEG (kd c) hb m (by omega)
 obtain ⟨q,rfl⟩:∃q,m=q+3:=⟨m-3,by omega⟩
 have p1:∀a b f g,qAq (q+3) a b f g=some (a,b,f,g):=fun a b f g=>by
  simp only [qAq,qBr,qCc,qCb,qA,qC,qF,qG,qH,qJ,zG,qD,qE,qK]
 have p2:∀a b s,qBB (q+3) a b s=some (a,b,s):=fun a b s=>by
  simp only [qBB,qBq,qA,qC,qF,qG,qH,qJ,zG,qD,qE,qK]
 refine qM (p2 _ _ _) (qM (p1 _ _ _ _) (qM (p1 _ _ _ _) (qM h rfl)))
theorem qF2 (l:List Nd) (hb:l.length*120≤140737488351232) (hk:∀c∈l,(kd c).length*8≤140737488351232):Ev (qAM · (l.map qN)) (l.length,l.map qN):=by
 obtain ⟨n0,h0⟩:=qAn (F:=fun (c:Nd) n=>qBC n c.1 c.2.1 c.2.2.1 c.2.2.2.1 c.2.2.2.2.1 c.2.2.2.2.2.1 c.2.2.2.2.2.2.1 c.2.2.2.2.2.2.2.1 c.2.2.2.2.2.2.2.2.1 c.2.2.2.2.2.2.2.2.2.1 c.2.2.2.2.2.2.2.2.2.2.1 c.2.2.2.2.2.2.2.2.2.2.2.1 c.2.2.2.2.2.2.2.2.2.2.2.2.1 ((c.2.2.2.2.2.2.2.2.2.2.2.2.2).map qY)) (f:=fun c=>(c.1,c.2.1,c.2.2.1,c.2.2.2.1,c.2.2.2.2.1,c.2.2.2.2.2.1,c.2.2.2.2.2.2.1,c.2.2.2.2.2.2.2.1,c.2.2.2.2.2.2.2.2.1,c.2.2.2.2.2.2.2.2.2.1,c.2.2.2.2.2.2.2.2.2.2.1,c.2.2.2.2.2.2.2.2.2.2.2.1,c.2.2.2.2.2.2.2.2.2.2.2.2.1,(kd c).length,(c.2.2.2.2.2.2.2.2.2.2.2.2.2).map qY)) l (fun c hc=>⟨_,qGN c (hk c hc)⟩)
 refine ⟨n0+l.length+5,fun n hn=>?_⟩
 obtain ⟨m,rfl,hm⟩:=up1 hn
 simp only [qAM,qBd,qA,qC,qF,qG,qH,qJ,zG,qD,qE,qK]
 have h:=qGP (B:=qAT m) (rows:=l.map qN) (z:= [.i .i64 0,.i .i64 0,.i .i64 0,.i .i64 0,.s ⟨#[]⟩,.i .i64 0,.i .i64 0,.b false,.b false,.i .i64 0,.i .i64 0,.b false,.b false,.nl]) (r:=fun acc=>((l.map qN).length,acc)) (M:=m)
  (fun i acc e he ha hz=>by
   obtain ⟨c,hc,rfl⟩:=qGR he
   have hi:i<l.length:=(List.getElem?_eq_some_iff.1 hc).1
   have hi':(i:Int)<l.length:=by omega
   have hw:IntKind.i64.wrap ((i:Int)+1)=(i:Int)+1:=qi (by omega)
   have ha':acc.length=l.length:=by simpa using ha
   have hf:=h0 m (by omega) c (zn hc)
   simp [qAT,qA,qC,qF,qG,qH,qJ,zG,qD,qE,qK,hi',hc,qN,zE,zAl,zW,z0,hf,hz,ha',hw,zA,nlB,kd])
  (fun acc ha=>by
   have ha':acc.length=l.length:=by simpa using ha
   simp [qAT,qA,qC,qF,qG,qH,qJ,zG,qD,qE,qK])
  (by simp;omega)
 simp only [List.length_map,Int.toNat_natCast] at h⊢
 rw [h]
 have h1:(120:Int)*(l.length:Int)≤140737488355328:=by omega
 have h2:(l.length:Int)≤9223372036854775807:=by omega
 simp [qA,qC,qF,qG,qH,qJ,zG,qD,qE,qK,h1,h2]
def Wmk:Nat→Int→Int
 |0,k=>k
 |j+1,k=>IntKind.i64.wrap (Wmk j k+1)
theorem qCm:∀(j:Nat) (k:Int),0≤k→k+j≤1000000000000000000→Wmk j k=k+j
 |0,k,_,_=>by simp [Wmk]
 |j+1,k,h1,h2=>by
  unfold Wmk
  rw [qCm j k h1 (by omega),qi (by omega)]
  omega
structure MA (A:List (List PV)) (e:List PV) (len i:Nat) (ks D:List (List PV)):Prop where
 maL:A.length=len
 maG:A[i]?=some e
 maN:e.length=14
 maK:e[13]?=some (.ls ks)
 maD:A.drop (i+1)=D
 maT:i<len
theorem MA.next {A:List (List PV)} {e:List PV} {len i:Nat} {ks D:List (List PV)} (h:MA A e len i ks D) {o:Nat} {x:PV} (ho:o<13):MA (A.set ((i:Nat):Int).toNat (zA e o [x])) (zA e o [x]) len i ks D:=by
 have hl:i<A.length:=by rw [h.maL];exact h.maT
 have hs:o+ [x].length≤e.length:=by rw [h.maN];simp;omega
 rw [Int.toNat_natCast]
 refine ⟨by rw [List.length_set];exact h.maL,List.getElem?_set_self hl,by rw [zf _ _ _ hs];exact h.maN,?_,?_,h.maT⟩
 ·rw [zj _ _ _ hs,if_neg (by simp;omega)]
  exact h.maK
 ·rw [List.drop_set_of_lt (by omega)]
  exact h.maD
def qB4 (r:List Nd):Nat:=(r.map fun c=>13+(kd c).length).sum
def qBj (r:List Nd):Nat:=(r.map fun c=>(kd c).length).sum
theorem qGZ:∀r:List Nd,qB4 r=13*r.length+qBj r
 | []=>rfl
 |c::r=>by
  have h:=qGZ r
  unfold qB4 qBj at h⊢
  simp only [List.map_cons,List.sum_cons,List.length_cons]
  omega
theorem szn (n:Nat) (c:Nd) (x:Int) (hx:0≤x∧x≤1048576) (hs:c.2.2.2.2.1.size≤140737488351232) (hk:(kd c).length≤140737488351232):
  ∃r,qBp (n+2) c.1 c.2.1 c.2.2.1 c.2.2.2.1 c.2.2.2.2.1 c.2.2.2.2.2.1 c.2.2.2.2.2.2.1 c.2.2.2.2.2.2.2.1 c.2.2.2.2.2.2.2.2.1 c.2.2.2.2.2.2.2.2.2.1 c.2.2.2.2.2.2.2.2.2.2.1 c.2.2.2.2.2.2.2.2.2.2.2.1 c.2.2.2.2.2.2.2.2.2.2.2.2.1 ((c.2.2.2.2.2.2.2.2.2.2.2.2.2).map qY) x=some r∧(0≤r→r+(kd c).length≤x):=by
 have w1:IntKind.i64.wrap (x-(c.2.2.2.2.1.size:Int))=x-c.2.2.2.2.1.size:=qi (by omega)
 have e1:qBo (n+1) c.2.2.1 c.2.2.2.1 c.2.2.2.2.1 x=some (if x-c.2.2.2.2.1.size<0 then-1 else x-c.2.2.2.2.1.size):=by
  show (qBA n c.2.2.1 c.2.2.2.1 c.2.2.2.2.1 x).run=_
  unfold qBA
  rw [w1]
  by_cases h:x-(c.2.2.2.2.1.size:Int)<0
  ·rw [if_pos h];exact qO (zo h) rfl
  ·rw [if_neg h];exact qW (zAJ h) rfl
 by_cases h:x-(c.2.2.2.2.1.size:Int)<0
 ·rw [if_pos h] at e1
  exact ⟨-1,qM e1 (qO rfl rfl),fun h=>by omega⟩
 ·rw [if_neg h] at e1
  have hkl:((c.2.2.2.2.2.2.2.2.2.2.2.2.2).map qY).length=(kd c).length:=by rw [List.length_map];rfl
  have w2:IntKind.i64.wrap (x-c.2.2.2.2.1.size-(((c.2.2.2.2.2.2.2.2.2.2.2.2.2).map qY).length:Int))=x-c.2.2.2.2.1.size-(kd c).length:=by rw [hkl];exact qi (by omega)
  have e2:qBa (n+1) ((c.2.2.2.2.2.2.2.2.2.2.2.2.2).map qY) (x-c.2.2.2.2.1.size)=some (if x-c.2.2.2.2.1.size-(kd c).length<0 then-1 else x-c.2.2.2.2.1.size-(kd c).length):=by
   show (qA4 n ((c.2.2.2.2.2.2.2.2.2.2.2.2.2).map qY) (x-c.2.2.2.2.1.size)).run=_
   unfold qA4
   rw [w2]
   by_cases h:x-(c.2.2.2.2.1.size:Int)-(kd c).length<0
   ·rw [if_pos h];exact qO (zo h) rfl
   ·rw [if_neg h];exact qW (zAJ h) rfl
  by_cases h2:x-(c.2.2.2.2.1.size:Int)-(kd c).length<0
  ·rw [if_pos h2] at e2
   exact ⟨-1,qM e1 (qW (zAJ h) (qM e2 (qO rfl rfl))),fun h=>by omega⟩
  ·rw [if_neg h2] at e2
   exact ⟨_,qM e1 (qW (zAJ h) (qM e2 (qW (zAJ h2) rfl))),fun _=>by omega⟩
theorem qGa (q:Nat) (l:List Nd) (hb:l.length≤140737488351232) (hk:∀c∈l,(kd c).length≤140737488351232∧c.2.2.2.2.1.size≤140737488351232):∀(r:List Nd) (i:Nat) (x:Int) (M:Nat),i+r.length=l.length→l.drop i=r→0≤x∧x≤1048576→r.length+1≤M→
  (∃y,y<0∧zO (qAR (q+2)) M (l.map qN,x,(i:Int))=some (.inl y))∨∃y,qBj r≤x∧zO (qAR (q+2)) M (l.map qN,x,(i:Int))=some (.inr y)
 | [],i,x,M,h1,hd,hx,h4=>by
  obtain ⟨M,rfl⟩:∃q,M=q+1:=⟨M-1,by omega⟩
  refine .inr ⟨x,by simp [qBj];omega,qR (qW (zAJ (by simp at h1⊢;omega)) rfl)⟩
 |c::r,i,x,M,h1,hd,hx,h4=>by
  obtain ⟨M,rfl⟩:∃q,M=q+1:=⟨M-1,by omega⟩
  simp only [List.length_cons] at h1 h4
  have hlt:i<l.length:=by omega
  rw [List.drop_eq_getElem_cons hlt,List.cons.injEq] at hd
  have he:l[i]?=some c:=by rw [zb hlt,hd.1]
  have hmem:=zn he
  obtain ⟨a1,a2⟩:=qGk (k:=(i:Int)) rfl (show (l.map qN)[i]?=some (qN c) by rw [List.getElem?_map,he];rfl)
  have w:IntKind.i64.wrap ((i:Int)+1)=((i+1:Nat):Int):=by rw [qi (by omega)];omega
  obtain ⟨y,g1,g2⟩:=szn q c x hx (hk c hmem).2 (hk c hmem).1
  have hkt:qBj (c::r)=(kd c).length+qBj r:=by simp [qBj]
  have go:∀{z},(Tr.ask (decide (y<0)) (.done (.inr (.inl (-1:Int)))) (.done (.inl (l.map qN,y,IntKind.i64.wrap ((i:Int)+1)))):Tr ((List (List PV)×Int×Int)⊕(Int⊕Int))).run=z→(qAR (q+2) (l.map qN,x,(i:Int))).run=z:=fun {z} h=>
   qO (zo (by simpa using hlt)) (qO a1 (qM a2 (qO rfl (qM rfl (qM rfl (qM rfl (qM rfl (qM rfl (qM rfl (qM rfl (qM rfl (qM rfl (qM rfl (qM rfl (qM rfl (qM rfl (qM rfl (qM g1 h))))))))))))))))))
  by_cases h0:y<0
  ·exact .inl ⟨-1,by decide,qR (go (qO (zo h0) rfl))⟩
  ·have:=g2 (by omega)
   rw [qp (go (qW (zAJ h0) rfl)),w]
   rcases qGa q l hb hk r (i+1) y M (by omega) hd.2 (by omega) (by omega) with h|⟨z,h5,h6⟩
   ·exact .inl h
   ·exact .inr ⟨z,by rw [hkt];omega,h6⟩
theorem qF3 (l:List Nd) (hb:l.length≤140737488351232) (hk:∀c∈l,(kd c).length≤140737488351232∧c.2.2.2.2.1.size≤140737488351232):∀n,l.length+5≤n→∃r,qBb n (l.map qN) 1048576=some r∧(0≤r→l.length≤1048576∧qBj l≤1048576):=by
 intro n hn
 obtain ⟨m,rfl,hm⟩:=up1 hn
 obtain ⟨q,rfl⟩:∃q,m=q+2:=⟨m-2,by omega⟩
 have w:IntKind.i64.wrap ((1048576:Int)-((l.map qN).length:Int))=1048576-l.length:=by rw [List.length_map];exact qi (by omega)
 by_cases h0:(1048576:Int)-l.length<0
 ·exact ⟨-1,qO (zo (by rw [w];exact h0)) rfl,fun h=>by omega⟩
 ·rcases qGa q l hb hk l 0 (1048576-l.length) (q+2) (by omega) rfl (by omega) (by omega) with ⟨y,h1,h2⟩|⟨y,h1,h2⟩
  ·exact ⟨y,qW (zAJ (by rw [w];exact h0)) (qM (by rw [w];exact h2) rfl),fun h=>by omega⟩
  ·exact ⟨y,qW (zAJ (by rw [w];exact h0)) (qM (by rw [w];exact h2) rfl),fun _=>by omega⟩
theorem qGs {r:List Nd} {c:Nd} (h:c∈r):(kd c).length≤qBj r:=by
 induction r with
 |nil=>cases h
 |cons a r ih=>
  have e:qBj (a::r)=(kd a).length+qBj r:=by simp [qBj]
  rcases List.mem_cons.1 h with rfl|h
  ·omega
  ·have:=ih h;omega
structure RtS (c:Sm):Prop where
 k:c.1=1∨c.1=2∨c.1=3∨c.1=4∨c.1=5
 s:(10:UInt8)∉c.2.2.2.1.toList
 p:c.1=1∨c.1=2→qA0 c.2.1 c.2.2.1=true∧c.2.2.2.2=0
 z:¬(c.1=1∨c.1=2)→c.2.1=0∧c.2.2.1=0
 m:c.1=3∨c.1=4→1≤c.2.2.2.2∧c.2.2.2.2≤30
 q:c.1=5→c.2.2.2.2=0
theorem qCn {c:Nd} (h:qAo c=true):(kd c).length≤2000:=by
 unfold qAo at h
 split at h
 ·simp only [Bool.and_eq_true,decide_eq_true_eq] at h;omega
 ·split at h
  ·simp only [Bool.and_eq_true,decide_eq_true_eq] at h;omega
  ·split at h
   ·simp only [Bool.and_eq_true,decide_eq_true_eq] at h;omega
   ·split at h
    ·simp only [Bool.and_eq_true,decide_eq_true_eq] at h;omega
    ·split at h
     ·simp only [Bool.and_eq_true,decide_eq_true_eq] at h;omega
     ·split at h
      ·rw [Bool.and_eq_true] at h
       have h1:=h.1
       unfold qCZ at h1
       split at h1
       ·simp only [decide_eq_true_eq] at h1;omega
       ·split at h1
        ·simp only [decide_eq_true_eq] at h1;omega
        ·split at h1
         ·simp only [decide_eq_true_eq] at h1;omega
         ·cases h1
      ·cases h
theorem qDy (a:Nat):∀(b:Nat) (k:Int),Wmk a (Wmk b k)=Wmk (b+a) k:=by
 induction a with
 |zero=>intro b k;rfl
 |succ a ih=>intro b k;show IntKind.i64.wrap (Wmk a (Wmk b k)+1)=_;rw [ih];rfl
theorem qGb (j:Nat) (k:Int):Wmk j (IntKind.i64.wrap (k+1))=Wmk (j+1) k:=by
 have:=qDy j 1 k
 rw [Nat.add_comm] at this
 exact this
def qBZ:Int→Nat→List Int
 |_,0=> []
 |k,n+1=>k::qBZ (IntKind.i64.wrap (k+1)) n
theorem qDF:∀(n:Nat) (k:Int),(qBZ k n).length=n
 |0,_=>rfl
 |n+1,k=>by simp [qBZ,qDF n]
theorem qGc (n len:Nat) (hb:len≤140737488351232):∀(r pre:List Int) (k:Int) (M:Nat),pre.length+r.length=len→r.length+1≤M→
  zO (qAv n) M (len,k,(pre.length:Int),(pre++r).map qY)=some (Wmk r.length k,(pre++qBZ k r.length).map qY)
 | [],pre,k,M,h1,h4=>by
  obtain ⟨M,rfl⟩:∃q,M=q+1:=⟨M-1,by simp at h4;omega⟩
  have h1:pre.length=len:=by simpa using h1
  rw [qR (r:=(k,(pre++ []).map qY)) (qW (zAJ (by dsimp only;omega)) rfl)]
  rfl
 |c::r,pre,k,M,h1,h4=>by
  obtain ⟨M,rfl⟩:∃q,M=q+1:=⟨M-1,by simp at h4;omega⟩
  simp only [List.length_cons] at h1 h4
  have hl:((pre++c::r).map qY).length=len:=by simp;omega
  have hg:((pre++c::r).map qY)[pre.length]?=some (qY c):=by simp
  have wi:IntKind.i64.wrap ((pre.length:Int)+1)=((pre++ [k]).length:Int):=by rw [qi (by omega)];simp
  have e1:((pre++c::r).map qY).set pre.length (zA (qY c) 0 [.i .i64 k])=((pre++ [k])++r).map qY:=by
   rw [List.map_append,List.map_cons,List.set_append_right (h:=by simp)]
   simp [zA,qY]
  rw [qp (v':=(len,IntKind.i64.wrap (k+1),((pre++ [k]).length:Int),((pre++ [k])++r).map qY)) (by
   refine qO (zo (by dsimp only;omega)) (qO (zo (by dsimp only;rw [hl];omega)) (qM (by dsimp only;rw [Int.toNat_natCast];exact hg) ?_))
   refine qO (zo (Nat.le_refl 1)) ?_
   dsimp only
   rw [wi,Int.toNat_natCast,e1]
   rfl)]
  rw [qGc n len hb r (pre++ [k]) (IntKind.i64.wrap (k+1)) M (by simp;omega) (by omega),qGb]
  simp [qBZ]
theorem qGd (ks:List Int) (hb:ks.length≤140737488351232) (k:Int) (n:Nat) (hn:ks.length+5≤n):qAa n ks.length k (ks.map qY)=some (Wmk ks.length k,(qBZ k ks.length).map qY):=by
 obtain ⟨m,rfl,hm⟩:=up1 hn
 have h:=qGc m ks.length hb ks [] k m (by simp) (by omega)
 exact qM h rfl
theorem qGe (n:Nat):∀(r:Nat) (pre all:List Int) (k:Int) (M:Nat),all=pre++qBZ k r→all.length≤140737488351232→r+1≤M→
  zO (qAw n) M (all.map qY,k,(pre.length:Int))=some (.inr (Wmk r k))
 |0,pre,all,k,M,h1,hb,h4=>by
  obtain ⟨M,rfl⟩:∃q,M=q+1:=⟨M-1,by omega⟩
  have hp:all.length=pre.length:=by rw [h1];simp [qBZ]
  exact qR (qW (zAJ (by simp;omega)) rfl)
 |r+1,pre,all,k,M,h1,hb,h4=>by
  obtain ⟨M,rfl⟩:∃q,M=q+1:=⟨M-1,by omega⟩
  have hlen:all.length=pre.length+(r+1):=by rw [h1];simp [qBZ,qDF]
  have hg:(all.map qY)[pre.length]?=some (qY k):=by rw [h1];simp [qBZ]
  have wi:IntKind.i64.wrap ((pre.length:Int)+1)=((pre++ [k]).length:Int):=by rw [qi (by omega)];simp
  rw [qp (v':=(all.map qY,IntKind.i64.wrap (k+1),((pre++ [k]).length:Int))) (by
   refine qO (zo (by simp;omega)) (qO (zo (by simp;omega)) (qM (by dsimp only;rw [Int.toNat_natCast];exact hg) ?_))
   refine qO rfl (qM (x:=k) rfl (qW (bne_self_eq_false' _) ?_))
   rw [←wi]
   rfl)]
  rw [qGe n r (pre++ [k]) all (IntKind.i64.wrap (k+1)) M (by rw [h1];simp [qBZ]) hb (by omega),qGb]
theorem qGf (m:Nat) (hb:m≤140737488351232) (k:Int) (n:Nat) (hn:m+5≤n):qBL n ((qBZ k m).map qY) k=some (Wmk m k):=by
 obtain ⟨q,rfl,hm⟩:=up1 hn
 have h:=qGe q m [] (qBZ k m) k q rfl (by rw [qDF];exact hb) (by omega)
 exact qM h rfl
def b3 (x:Int):Bool:=Int.tmod x 3==0
noncomputable def qCo (k:Int) (c:Nd):Nd:=(Wmk 0 k,Wmk 1 k,Wmk 2 k,Wmk 3 k,mtx (Wmk 4 k),Wmk 5 k,Wmk 6 k,b3 (Wmk 7 k),b3 (Wmk 8 k),Wmk 9 k,Wmk 10 k,b3 (Wmk 11 k),b3 (Wmk 12 k),qBZ (Wmk 13 k) (kd c).length)
noncomputable def qDk:Int→List Nd→List Nd
 |_,[]=> []
 |k,c::r=>qCo k c::qDk (Wmk (kd c).length (Wmk 13 k)) r
theorem qDz:∀(l:List Nd) (k:Int),(qDk k l).length=l.length
 | [],_=>rfl
 |c::r,k=>by simp [qDk,qDz r]
structure MB (A:List (List PV)) (e:List PV) (i:Nat) (P D:List (List PV)):Prop where
 mbA:A=P++e::D
 mbP:P.length=i
theorem MB.next {A:List (List PV)} {e e':List PV} {i:Nat} {P D:List (List PV)} (h:MB A e i P D):MB (A.set ((i:Nat):Int).toNat e') e' i P D:=by
 rw [Int.toNat_natCast]
 refine ⟨?_,h.mbP⟩
 rw [h.mbA,List.set_append_right (h:=by have:=h.mbP;omega),h.mbP,Nat.sub_self]
 rfl
theorem MB.nx {A:List (List PV)} {e:List PV} {i:Nat} {P D:List (List PV)} (h:MB A e i P D) {o:Nat} {x:PV} {e':List PV} (he:zA e o [x]=e'):MB (A.set ((i:Nat):Int).toNat (zA e o [x])) e' i P D:=by
 have:=h.next (e':=zA e o [x])
 rw [he] at this⊢
 exact this
noncomputable def eP (k:Int) (c:Nd) (j:Nat):List PV:=(qN (qCo k c)).take j++(qN c).drop j
theorem qG7 (k:Int) (c:Nd) {j:Nat} (hj:j≤14):(eP k c j).length=14:=by
 have h1:(qN (qCo k c)).length=14:=rfl
 have h2:(qN c).length=14:=rfl
 unfold eP
 rw [List.length_append,List.length_take,List.length_drop,h1,h2]
 omega
theorem qBR (k:Int) (c:Nd) {j:Nat} (hj:j<14) {x:PV} (hx:(qN (qCo k c))[j]?=some x):zA (eP k c j) j [x]=eP k c (j+1):=by
 have h1:(qN (qCo k c)).length=14:=rfl
 have ht:((qN (qCo k c)).take j).length=j:=by rw [List.length_take,h1];omega
 unfold eP zA
 have e1:((qN (qCo k c)).take j++(qN c).drop j).take j=(qN (qCo k c)).take j:=List.take_left' ht
 have e2:((qN (qCo k c)).take j++(qN c).drop j).drop (j+ [x].length)=(qN c).drop (j+1):=by
  rw [List.drop_append,ht,List.drop_eq_nil_of_le (by rw [ht];simp),List.nil_append,List.drop_drop]
  congr 1
  simp
  try omega
 rw [e1,e2,List.take_add_one,hx]
 rfl
theorem qG4 (k:Int) (c:Nd):(eP k c 13).set 13 (.ls ((qBZ (Wmk 13 k) (kd c).length).map qY))=qN (qCo k c):=rfl
theorem MB.get {A:List (List PV)} {e:List PV} {i:Nat} {P D:List (List PV)} (h:MB A e i P D):A[((i:Nat):Int).toNat]?=some e:=by
 rw [Int.toNat_natCast,h.mbA,List.getElem?_append_right (by have:=h.mbP;omega),h.mbP,Nat.sub_self]
 rfl
theorem qEL {X:Type} {A:List (List PV)} {e:List PV} {i len:Nat} {P D:List (List PV)} (h:MB A e i P D) (hl:P.length+(D.length+1)=len) {o:Nat} (ho:o+1≤e.length) {K:List PV→Tr X} {y:Option X} (hk:(K e).run=y):
  (Tr.ask (decide (len=A.length∧0≤((i:Nat):Int)∧((i:Nat):Int)<((len:Nat):Int))) (.opt (A[((i:Nat):Int).toNat]?) fun e'=> .ask (decide (o+1≤e'.length)) (K e') .fail) .fail).run=y:=
 qO (zo ⟨by rw [h.mbA];simp;omega,by omega,by have:=h.mbP;omega⟩) (qM h.get (qO (zo ho) hk))
theorem qHM {X:Type} {A:List (List PV)} {e:List PV} {i len:Nat} {P D:List (List PV)} (h:MB A e i P D) (hl:P.length+(D.length+1)=len) {ks:List (List PV)} (hks:z0 e 13=some ks) {Fm:List (List PV)→List (List PV)→Option (Int×List (List PV))} {k':Int} {ks':List (List PV)} (hF:Fm ks ks=some (k',ks')) (hlk:ks'.length=ks.length) {K:Int×List (List PV)→List PV→Tr X} {y:Option X} (hk:(K (k',ks') e).run=y):
  (Tr.ask (decide (len=A.length∧0≤((i:Nat):Int)∧((i:Nat):Int)<((len:Nat):Int))) (.opt (A[((i:Nat):Int).toNat]?) fun e1=> .opt (z0 e1 13) fun y1=> .opt (A[((i:Nat):Int).toNat]?) fun e2=> .opt (z0 e2 13) fun y2=> .ask (decide (y1.length=y2.length)) (.opt (Fm y1 y2) fun r=> .opt (A[((i:Nat):Int).toNat]?) fun e3=> .ask (decide (r.2.length=y2.length)) (K r e3) .fail) .fail) .fail).run=y:=
 qO (zo ⟨by rw [h.mbA];simp;omega,by omega,by have:=h.mbP;omega⟩) (qM h.get (qM hks (qM h.get (qM hks (qO (zo rfl) (qM hF (qM h.get (qO (zo hlk) hk))))))))
set_option maxHeartbeats 2000000 in
theorem qGg (n len:Nat) (hb:len≤140737488351232) (hn:25≤n):∀(r pre:List Nd) (k:Int) (M:Nat),pre.length+r.length=len→1≤k→k+qB4 r≤1000000000000000→(∀c∈r,(kd c).length+5≤n∧(kd c).length≤140737488351232)→r.length+1≤M→
  zO (qr n) M (len,k,(pre.length:Int),(pre++r).map qN)=some (Wmk (qB4 r) k,(pre++qDk k r).map qN)
 | [],pre,k,M,h1,h2,h5,hc,h4=>by
  obtain ⟨M,rfl⟩:∃q,M=q+1:=⟨M-1,by omega⟩
  have h1:pre.length=len:=by simpa using h1
  rw [qR (r:=(k,(pre++ []).map qN)) (qW (zAJ (by dsimp only;omega)) rfl)]
  rfl
 |c::r,pre,k,M,h1,h2,h5,hc,h4=>by
  obtain ⟨M,rfl⟩:∃q,M=q+1:=⟨M-1,by omega⟩
  simp only [List.length_cons] at h1 h4
  have ht:qB4 (c::r)=13+(kd c).length+qB4 r:=by simp [qB4]
  rw [ht] at h5
  have hln:(pre.map qN).length+((r.map qN).length+1)=len:=by simp;omega
  have m0:MB ((pre++c::r).map qN) (qN c) pre.length (pre.map qN) (r.map qN):=⟨by simp,by simp⟩
  have wi:IntKind.i64.wrap ((pre.length:Int)+1)=((pre++ [qCo k c]).length:Int):=by rw [qi (by omega)];simp
  have w4:=qCm 4 k (by omega) (by omega)
  have w13:=qCm 13 k (by omega) (by omega)
  have htx:qAH n (Wmk 4 k)=some (mtx (Wmk 4 k)):=qGw (by omega) hn
  obtain ⟨hk1,hk2⟩:=hc c (List.mem_cons_self ..)
  have q2:=qGd (kd c) hk2 (Wmk 13 k) n hk1
  have hkl:((kd c).map qY).length=(kd c).length:=List.length_map ..
  have fnn:∀{A13:List (List PV)},MB A13 (qN (qCo k c)) pre.length (pre.map qN) (r.map qN)→zO (qr n) M (len,Wmk (kd c).length (Wmk 13 k),IntKind.i64.wrap ((pre.length:Int)+1),A13)=some (Wmk (qB4 (c::r)) k,(pre++qDk k (c::r)).map qN):=fun {A13} h=>by
   have w14:Wmk (kd c).length (Wmk 13 k)=k+13+(kd c).length:=by rw [qCm _ _ (by omega) (by omega),w13];omega
   have h6:=qGg n len hb hn r (pre++ [qCo k c]) (Wmk (kd c).length (Wmk 13 k)) M (by simp;omega) (by omega) (by omega) (fun c' hc'=>hc c' (List.mem_cons_of_mem _ hc')) (by omega)
   have eA:A13=((pre++ [qCo k c])++r).map qN:=by rw [h.mbA];simp
   rw [wi,eA,h6,qDy,qDy,ht,List.append_assoc,←Nat.add_assoc]
   rfl
  have stp:∃v',(qr n (len,k,(pre.length:Int),(pre++c::r).map qN)).run=some (.inl v')∧zO (qr n) M v'=some (Wmk (qB4 (c::r)) k,(pre++qDk k (c::r)).map qN):=by
   have m0:MB ((pre++c::r).map qN) (eP k c 0) pre.length (pre.map qN) (r.map qN):=m0
   have m1:=m0.nx (qBR k c (j:=0) (by decide) (x:= .i .i64 (Wmk 0 k)) rfl)
   have m2:=m1.nx (qBR k c (j:=1) (by decide) (x:= .i .i64 (Wmk 1 k)) rfl)
   have m3:=m2.nx (qBR k c (j:=2) (by decide) (x:= .i .i64 (Wmk 2 k)) rfl)
   have m4:=m3.nx (qBR k c (j:=3) (by decide) (x:= .i .i64 (Wmk 3 k)) rfl)
   have m5:=m4.nx (qBR k c (j:=4) (by decide) (x:= .s (mtx (Wmk 4 k))) rfl)
   have m6:=m5.nx (qBR k c (j:=5) (by decide) (x:= .i .i64 (Wmk 5 k)) rfl)
   have m7:=m6.nx (qBR k c (j:=6) (by decide) (x:= .i .i64 (Wmk 6 k)) rfl)
   have m8:=m7.nx (qBR k c (j:=7) (by decide) (x:= .b (b3 (Wmk 7 k))) rfl)
   have m9:=m8.nx (qBR k c (j:=8) (by decide) (x:= .b (b3 (Wmk 8 k))) rfl)
   have m10:=m9.nx (qBR k c (j:=9) (by decide) (x:= .i .i64 (Wmk 9 k)) rfl)
   have m11:=m10.nx (qBR k c (j:=10) (by decide) (x:= .i .i64 (Wmk 10 k)) rfl)
   have m12:=m11.nx (qBR k c (j:=11) (by decide) (x:= .b (b3 (Wmk 11 k))) rfl)
   have m13:=m12.nx (qBR k c (j:=12) (by decide) (x:= .b (b3 (Wmk 12 k))) rfl)
   have lnj:∀j,j+1≤14→j+1≤(eP k c j).length:=fun j hj=>by rw [qG7 k c (by omega)];exact hj
   refine ⟨?v,qO (zo (by dsimp only;omega)) ?w,?h⟩
   case w=>
    refine qEL (o:=0) m0 hln (lnj 0 (by decide)) ?_
    refine qEL (o:=1) m1 hln (lnj 1 (by decide)) ?_
    refine qEL (o:=2) m2 hln (lnj 2 (by decide)) ?_
    refine qEL (o:=3) m3 hln (lnj 3 (by decide)) ?_
    refine qM htx ?_
    refine qEL (o:=4) m4 hln (lnj 4 (by decide)) ?_
    refine qEL (o:=5) m5 hln (lnj 5 (by decide)) ?_
    refine qEL (o:=6) m6 hln (lnj 6 (by decide)) ?_
    refine qEL (o:=7) m7 hln (lnj 7 (by decide)) ?_
    refine qEL (o:=8) m8 hln (lnj 8 (by decide)) ?_
    refine qEL (o:=9) m9 hln (lnj 9 (by decide)) ?_
    refine qEL (o:=10) m10 hln (lnj 10 (by decide)) ?_
    refine qEL (o:=11) m11 hln (lnj 11 (by decide)) ?_
    refine qEL (o:=12) m12 hln (lnj 12 (by decide)) ?_
    refine qHM m13 hln (ks:=(kd c).map qY) rfl (Fm:=fun a b=>qAa n a.length (Wmk 13 k) b) (by show qAa n ((kd c).map qY).length (Wmk 13 k) ((kd c).map qY)=_;rw [hkl];exact q2) (by rw [List.length_map,qDF,hkl]) ?z
    case z=>exact rfl
   case h=>exact fnn (qG4 k c▸m13.next (e':=(eP k c 13).set 13 (.ls ((qBZ (Wmk 13 k) (kd c).length).map qY))))
  obtain ⟨v',h6,h7⟩:=stp
  rw [qp h6,h7]
theorem qF9 (l:List Nd) (hl:l.length≤140737488351232) (hk:∀c∈l,(kd c).length≤140737488351232) (ht:qB4 l≤100000000000000):∀n,qBj l+l.length+40≤n→qAl n l.length 1 (l.map qN)=some (1+(qB4 l:Int),(qDk 1 l).map qN):=by
 intro n hn
 obtain ⟨m,rfl,hm⟩:=up1 hn
 have h:=qGg m l.length hl (by omega) l [] 1 m (by simp) (by decide) (by omega) (fun c hc=>⟨by have:=qGs hc;omega,hk c hc⟩) (by omega)
 rw [qCm _ _ (by decide) (by omega)] at h
 exact qM h rfl
theorem qD0 {X β:Type} {A:List (List PV)} {e:List PV} {i:Nat} (ha:A[i]?=some e) (hn:e.length=14) {f:List PV→Option β} {y:β} (hf:f e=some y) {K:β→Tr X} {z:Option X} (hk:(K y).run=z):
  (Tr.ask (decide (0≤((i:Nat):Int)∧((i:Nat):Int)<A.length)) (.opt (A[((i:Nat):Int).toNat]?) fun e'=> .ask (decide (e'.length=14)) (.opt (f e') K) .fail) .fail).run=z:=by
 have hi:=(List.getElem?_eq_some_iff.1 ha).1
 exact qO (zo ⟨by omega,by omega⟩) (qM (by rw [Int.toNat_natCast];exact ha) (qO (zo hn) (qM hf hk)))
theorem bnn (b:Bool):(!(b==b))=false:=by cases b<;>rfl
theorem bns (s:BA):(!(s.toList==s.toList))=false:=by simp
set_option maxHeartbeats 2000000 in
theorem qGh (n:Nat) (hn:25≤n):∀(r pre all:List Nd) (k:Int) (M:Nat),all=pre++qDk k r→all.length≤140737488351232→1≤k→k+qB4 r≤1000000000000000→(∀c∈r,(kd c).length+5≤n∧(kd c).length≤140737488351232)→r.length+1≤M→
  zO (qAb n) M (all.map qN,k,(pre.length:Int))=some (.inr (Wmk (qB4 r) k))
 | [],pre,all,k,M,h1,hb,h2,h5,hc,h4=>by
  obtain ⟨M,rfl⟩:∃q,M=q+1:=⟨M-1,by simp at h4;omega⟩
  have hp:all.length=pre.length:=by rw [h1];simp [qDk]
  exact qR (qW (zAJ (by simp;omega)) rfl)
 |c::r,pre,all,k,M,h1,hb,h2,h5,hc,h4=>by
  obtain ⟨M,rfl⟩:∃q,M=q+1:=⟨M-1,by simp at h4;omega⟩
  simp only [List.length_cons] at h4
  have ht:qB4 (c::r)=13+(kd c).length+qB4 r:=by simp [qB4]
  rw [ht] at h5
  have hlen:all.length=pre.length+(r.length+1):=by rw [h1];simp [qDk,qDz]
  have hg:(all.map qN)[pre.length]?=some (qN (qCo k c)):=by rw [h1];simp [qDk]
  have wi:IntKind.i64.wrap ((pre.length:Int)+1)=((pre++ [qCo k c]).length:Int):=by rw [qi (by omega)];simp
  have w4:=qCm 4 k (by omega) (by omega)
  have w13:=qCm 13 k (by omega) (by omega)
  have htx:qAH n (Wmk 4 k)=some (mtx (Wmk 4 k)):=qGw (by omega) hn
  obtain ⟨hk1,hk2⟩:=hc c (List.mem_cons_self ..)
  have q2:=qGf (kd c).length hk2 (Wmk 13 k) n hk1
  have w14:Wmk (kd c).length (Wmk 13 k)=k+13+(kd c).length:=by rw [qCm _ _ (by omega) (by omega),w13];omega
  have hL:(qN (qCo k c)).length=14:=rfl
  have stp:(qAb n (all.map qN,k,(pre.length:Int))).run=some (.inl (all.map qN,Wmk (kd c).length (Wmk 13 k),((pre++ [qCo k c]).length:Int))):=by
   refine qO (zo (by simp;omega)) (qD0 hg hL (y:=Wmk 0 k) rfl (qW (bne_self_eq_false' _) ?_))
   refine qD0 hg hL (y:=Wmk 1 k) rfl (qW (bne_self_eq_false' _) ?_)
   refine qD0 hg hL (y:=Wmk 2 k) rfl (qW (bne_self_eq_false' _) ?_)
   refine qD0 hg hL (y:=Wmk 3 k) rfl (qW (bne_self_eq_false' _) ?_)
   refine qD0 hg hL (y:=mtx (Wmk 4 k)) rfl (qM htx (qW (bns _) ?_))
   refine qD0 hg hL (y:=Wmk 5 k) rfl (qW (bne_self_eq_false' _) ?_)
   refine qD0 hg hL (y:=Wmk 6 k) rfl (qW (bne_self_eq_false' _) ?_)
   refine qD0 hg hL (y:=b3 (Wmk 7 k)) rfl (qW (bnn _) ?_)
   refine qD0 hg hL (y:=b3 (Wmk 8 k)) rfl (qW (bnn _) ?_)
   refine qD0 hg hL (y:=Wmk 9 k) rfl (qW (bne_self_eq_false' _) ?_)
   refine qD0 hg hL (y:=Wmk 10 k) rfl (qW (bne_self_eq_false' _) ?_)
   refine qD0 hg hL (y:=b3 (Wmk 11 k)) rfl (qW (bnn _) ?_)
   refine qD0 hg hL (y:=b3 (Wmk 12 k)) rfl (qW (bnn _) ?_)
   refine qD0 hg hL (y:=(qBZ (Wmk 13 k) (kd c).length).map qY) rfl (qM q2 (qW (zAJ (by rw [w14];omega)) ?_))
   rw [←wi]
   rfl
  rw [qp stp,qGh n hn r (pre++ [qCo k c]) all (Wmk (kd c).length (Wmk 13 k)) M (by rw [h1];simp [qDk]) hb (by omega) (by omega) (fun c' hc'=>hc c' (List.mem_cons_of_mem _ hc')) (by omega),qDy,qDy,ht,←Nat.add_assoc]
theorem qGu (l:List Nd) (hl:l.length≤140737488351232) (hk:∀c∈l,(kd c).length≤140737488351232) (ht:qB4 l≤100000000000000):∀n,qBj l+l.length+40≤n→qAm n ((qDk 1 l).map qN) 1=some (1+(qB4 l:Int)):=by
 intro n hn
 obtain ⟨m,rfl,hm⟩:=up1 hn
 have h:=qGh m (by omega) l [] (qDk 1 l) 1 m rfl (by rw [qDz];exact hl) (by decide) (by omega) (fun c hc=>⟨by have:=qGs hc;omega,hk c hc⟩) (by omega)
 rw [qCm _ _ (by decide) (by omega)] at h
 exact qM h rfl
theorem qFZ (l:List Int) (hb:l.length≤1000000):Ev (qU · (l.map qY)) (l.length,l.map qY):=by
 refine qDD (qB3 (R:=fun n=>qAU n (l.map qY)) (qDi (zo ⟨rfl,by decide,by decide,by simp;omega,by simp [qY]⟩) (qDi ?_ (qAG (by simp)))) fun n=>rfl)
 cases l with
 |nil=>rfl
 |cons a r=>rfl
theorem qBn {m j:Nat} {acc ks:List (List PV)} (hm:m=acc.length) (hb:m≤1000) (hj:j=ks.length):decide (m=acc.length∧(m+1)*120≤140737488355328∧j=ks.length)=true:=zo ⟨hm,by omega,hj⟩
theorem qEx {m:Nat} {acc:List (List PV)} (hm:m=acc.length) (hb:m≤1000):decide (m=acc.length∧(m+1)*120≤140737488355328)=true:=zo ⟨hm,by omega⟩
theorem qEM:Ev (fun n=>qV n) (1,0,4,3,em,0,0,false,false,0,0,false,false):=qDD (qB3 (R:=fun n=>qCL n) (qBi (qEs 3) (qAG rfl)) fun n=>rfl)
theorem qGz (m sz ty:Nat) (b:Bool) (g:List Nd):zc (⟨(.tup [(false,[(.own 0 0 0 m)]),(false,[(.p (.b b))])]),[],[⟨0,sz,ty,(.deep [(13,1,2)] (g.map qN))⟩]⟩:Res)=true:=by
 have h1:zEZ (⟨0,sz,ty,(.deep [(13,1,2)] (g.map qN))⟩:Blk)=true:=by
  unfold zEZ
  simp only [List.all_map]
  refine List.all_eq_true.2 fun c _=>?_
  show zDj [(13,1,2)] 0 (qN c)=true
  have hk:((c.2.2.2.2.2.2.2.2.2.2.2.2.2).map qY).all (fun e=>e.all fun y=>(CV.p y).flat)=true:=by
   rw [List.all_map]
   exact List.all_eq_true.2 fun x _=>rfl
  unfold qN
  simp only [zDj,Go.Eng.look]
  simp [CV.flat]
  intro a _ y hy
  simp only [qY,List.mem_singleton] at hy
  subst hy
  rfl
 simp only [zc,AV.cvs,List.flatMap_cons,List.flatMap_nil,List.all_cons,List.all_nil,List.all_append,zHD,CV.flat,h1,Bool.and_true,Bool.true_and]
theorem qG8 {g:List Nd} (hl:g.length≤1000) (hk:∀c∈g,(kd c).length≤2000):qB4 g≤10000000:=by
 have:∀r:List Nd,(∀c∈r,(kd c).length≤2000)→qB4 r≤2013*r.length:=by
  intro r
  induction r with
  |nil=>intro _;exact Nat.le_refl _
  |cons c r ih=>
   intro h
   have h1:=ih fun x hx=>h x (List.mem_cons_of_mem _ hx)
   have h2:=h c (List.mem_cons_self ..)
   unfold qB4 at h1⊢
   simp only [List.map_cons,List.sum_cons,List.length_cons]
   omega
 have:=this g hk
 omega
structure Gn (g:List Nd):Prop where
 gnL:g.length≤1000
 gnK:∀c∈g,(kd c).length≤2000
def qCy (cl:Bool) (row many o n:Int):Int:=if n<row then n else if cl=false then IntKind.i64.wrap (n+many) else if n<IntKind.i64.wrap (row+many) then o else IntKind.i64.wrap (n-many)
def evN (cl:Bool) (row many:Int) (c:Nd):Nd:=(c.1,c.2.1,c.2.2.1,c.2.2.2.1,c.2.2.2.2.1,c.2.2.2.2.2.1,qCy cl row many (if c.1=3 then row else 0) c.2.2.2.2.2.2.1,c.2.2.2.2.2.2.2.1,c.2.2.2.2.2.2.2.2.1,c.2.2.2.2.2.2.2.2.2.1,(if c.1=3 then qCy cl row many (row-1) c.2.2.2.2.2.2.2.2.2.2.1 else c.2.2.2.2.2.2.2.2.2.2.1),c.2.2.2.2.2.2.2.2.2.2.2.1,c.2.2.2.2.2.2.2.2.2.2.2.2.1,kd c)
def ocR (cl:Bool) (row many:Int) (l:List Nd):List Nd×Bool:=if qCu l=true∧(1≤row∧row≤99)∧(1≤many∧many≤99) then (l.map (chN (evN cl row many)),true) else ([],false)
theorem qG5 (a:Int):qA0 a 0=false:=by
 unfold qA0
 rw [zAJ (p:=(1:Int)≤0∧(0:Int)≤99) (by omega),Bool.and_false]
theorem qG0 {cl:Bool} {row many:Int} {c:Nd} (h:qAo c=true) (hk:c.1=2∨c.1=3):qAo (evN cl row many c)=plB (evN cl row many c)∧plB c=true∧kd c= []:=by
 obtain ⟨k,op,ck,cn,cs,ac,ar,af,ag,bc,br,bf,bg,ks⟩:=c
 dsimp only at hk
 rcases hk with rfl|rfl
 ·unfold evN
  dsimp only
  rw [if_neg (by decide),if_neg (by decide)]
  rw [qGr] at h⊢
  simp only [Bool.and_eq_true,decide_eq_true_eq] at h
  obtain ⟨h1,h2,h3,h4,h5⟩:=h
  refine ⟨?_,h5,zAQ h4⟩
  have hk0:(kd ((2,op,ck,cn,cs,ac,ar,af,ag,bc,br,bf,bg,ks):Nd)).length=0:=h4
  rw [zo h1,h2,h3,zo hk0]
  rfl
 ·unfold evN
  dsimp only
  rw [if_pos rfl,if_pos rfl]
  rw [qG3] at h⊢
  simp only [Bool.and_eq_true,decide_eq_true_eq] at h
  obtain ⟨h1,h2,h3,h4⟩:=h
  refine ⟨?_,h4,zAQ h3⟩
  have hk0:(kd ((3,op,ck,cn,cs,ac,ar,af,ag,bc,br,bf,bg,ks):Nd)).length=0:=h3
  rw [zo h1,h2,zo hk0]
  rfl
theorem qGi (row many:Int) (h1:1≤row) (c:Nd) (hB:qAo c=true) (hk:c.1=2∨c.1=3):Ev (qAk · c.1 c.2.1 c.2.2.1 c.2.2.2.1 c.2.2.2.2.1 c.2.2.2.2.2.1 c.2.2.2.2.2.2.1 c.2.2.2.2.2.2.2.1 c.2.2.2.2.2.2.2.2.1 c.2.2.2.2.2.2.2.2.2.1 c.2.2.2.2.2.2.2.2.2.2.1 c.2.2.2.2.2.2.2.2.2.2.2.1 c.2.2.2.2.2.2.2.2.2.2.2.2.1 ((kd c).map qY) row many) (qG2 (evN false row many c)):=by
 obtain ⟨k,op,ck,cn,cs,ac,ar,af,ag,bc,br,bf,bg,ks⟩:=c
 have hb:k=2→br=0:=fun h=>by
  subst h
  rw [qGr] at hB
  simp only [Bool.and_eq_true,decide_eq_true_eq] at hB
  have:=hB.2.2.1
  simp only [zP,Bool.and_eq_true,decide_eq_true_eq,Bool.not_eq_true'] at this
  omega
 have hv:qG2 (evN false row many (k,op,ck,cn,cs,ac,ar,af,ag,bc,br,bf,bg,ks))=(k,op,ck,cn,cs,ac,(if ar≥row then IntKind.i64.wrap (ar+many) else ar),af,ag,bc,(if br≥row then IntKind.i64.wrap (br+many) else br),bf,bg,ks.map qY):=by
  have r1:∀o n,qCy false row many o n=if n≥row then IntKind.i64.wrap (n+many) else n:=fun o n=>by
   unfold qCy
   by_cases h:n<row
   ·rw [if_pos h,if_neg (by omega)]
   ·rw [if_neg h,if_pos rfl,if_pos (by omega)]
  unfold qG2 evN
  dsimp only
  rw [r1,r1]
  rcases hk with h|h
  ·dsimp only at h
   rw [if_neg (by omega:¬k=3),hb h,if_neg (by omega:¬(0:Int)≥row)]
   rfl
  ·dsimp only at h
   rw [if_pos h]
   rfl
 rw [hv]
 refine ⟨4,fun n hn=>?_⟩
 obtain ⟨m,rfl,hm⟩:=up1 hn
 refine qO (zo (by omega)) (qO rfl (qM rfl ?_))
 by_cases ha:ar≥row
 ·rw [if_pos ha]
  refine qO (zo ha) (qM rfl (qO rfl (qM rfl ?_)))
  by_cases hc:br≥row
  ·rw [if_pos hc]
   exact qO (zo hc) (qM rfl (qW rfl rfl))
  ·rw [if_neg hc]
   exact qW (zAJ hc) (qW rfl rfl)
 ·rw [if_neg ha]
  refine qW (zAJ ha) (qO rfl (qM rfl ?_))
  by_cases hc:br≥row
  ·rw [if_pos hc]
   exact qO (zo hc) (qM rfl (qW rfl rfl))
  ·rw [if_neg hc]
   exact qW (zAJ hc) (qW rfl rfl)
theorem qEv (row many:Int) (hr:1≤row∧row≤99) (hm:1≤many∧many≤99) (l:List Nd) (hl:l.length≤1000) (hk:∀c∈l,(kd c).length≤1000000) (hB:∀c∈l,qAo c=true):Ev (qAI · (l.map qN) row many) (l.length,(l.map (chN (evN false row many))).map qN):=by
 obtain ⟨n1,h1⟩:=qAn (F:=fun c n=>qAk n c.1 c.2.1 c.2.2.1 c.2.2.2.1 c.2.2.2.2.1 c.2.2.2.2.2.1 c.2.2.2.2.2.2.1 c.2.2.2.2.2.2.2.1 c.2.2.2.2.2.2.2.2.1 c.2.2.2.2.2.2.2.2.2.1 c.2.2.2.2.2.2.2.2.2.2.1 c.2.2.2.2.2.2.2.2.2.2.2.1 c.2.2.2.2.2.2.2.2.2.2.2.2.1 ((kd c).map qY) row many) (f:=fun c=>qG2 (evN false row many c)) (l.filter fun c=>decide (c.1=2∨c.1=3)) fun c hc=>qGi row many hr.1 c (hB c (List.mem_filter.1 hc).1) (by simpa using (List.mem_filter.1 hc).2)
 obtain ⟨n2,h2⟩:=qAn (F:=fun c n=>qP n (evN false row many c).1 (evN false row many c).2.1 (evN false row many c).2.2.1 (evN false row many c).2.2.2.1 (evN false row many c).2.2.2.2.1 (evN false row many c).2.2.2.2.2.1 (evN false row many c).2.2.2.2.2.2.1 (evN false row many c).2.2.2.2.2.2.2.1 (evN false row many c).2.2.2.2.2.2.2.2.1 (evN false row many c).2.2.2.2.2.2.2.2.2.1 (evN false row many c).2.2.2.2.2.2.2.2.2.2.1 (evN false row many c).2.2.2.2.2.2.2.2.2.2.2.1 (evN false row many c).2.2.2.2.2.2.2.2.2.2.2.2.1 ((kd (evN false row many c)).map qY)) (f:=fun c=>plB (evN false row many c)) l fun c _=>qFY (evN false row many c)
 obtain ⟨n3,h3⟩:=qAn (F:=fun c n=>qU n ((kd c).map qY)) (f:=fun c=>((kd c).length,(kd c).map qY)) l fun c hc=>qFZ (kd c) (hk c hc)
 obtain ⟨n4,h4⟩:=qFZ [] (by decide)
 obtain ⟨n5,h5⟩:=qF0 3
 refine ⟨n1+n2+n3+n4+n5+l.length+3,fun n hn=>?_⟩
 obtain ⟨m,rfl,hm⟩:=up1 hn
 have h:=qHF (B:=qq m) (fun i=>(row,many,i,l.map qN,((l.map qN).length:Int),(i:Int),(l.take i).map fun c=>qN (chN (evN false row many) c))) l (fun _ _=>none) (l.length,l.map fun c=>qN (chN (evN false row many) c))
  (fun i c he=>by
   have hi:=(List.getElem?_eq_some_iff.1 he).1
   have hmem:=zn he
   have hg:(l.map qN)[i]?=some (qN c):=by rw [List.getElem?_map,he];rfl
   obtain ⟨a1,a2⟩:=qGk rfl hg
   have h1:=fun hk=>h1 m (by omega) c (List.mem_filter.2 ⟨hmem,zo hk⟩)
   have h2:=h2 m (by omega) c hmem
   have h3:=h3 m (by omega) c hmem
   have h4:=h4 m (by omega)
   have h5:=h5 m (by omega)
   have ea:i=((l.take i).map fun c=>qN (chN (evN false row many) c)).length:=by simp;omega
   have e1000:i≤1000:=by omega
   have w:IntKind.i64.wrap ((i:Int)+1)=((i+1:Nat):Int):=by rw [qi (by omega)];omega
   have fin:∀(e:List PV),e=qN (chN (evN false row many) c)→(some (Sum.inl (row,many,i+1,l.map qN,((l.map qN).length:Int),IntKind.i64.wrap ((i:Int)+1),((l.take i).map fun c=>qN (chN (evN false row many) c))++ [e])):Option ((Int×Int×Nat×List (List PV)×Int×Int×List (List PV))⊕(Nat×List (List PV))))=some (.inl (row,many,i+1,l.map qN,((l.map qN).length:Int),((i+1:Nat):Int),(l.take (i+1)).map fun c=>qN (chN (evN false row many) c))):=fun e he2=>by
    rw [w,qGX he,he2]
   refine qO (zo (by simpa using hi)) (qO a1 (qM a2 (qO rfl ?_)))
   iterate 14 refine qM rfl ?_
   by_cases k2:c.1=2
   ·refine qO (beq_iff_eq.2 k2) (qM (h1 (.inl k2)) (qM h2 ?_))
    cases hp:plB (evN false row many c) with
    |false=>exact qO rfl (qM h5 (qM h4 (qO (qBn ea e1000 rfl) (fin _ (by unfold chN;rw [if_pos (.inl k2),hp];rfl)))))
    |true=>exact qW rfl (qM h3 (qO (qBn ea e1000 (by simp)) (fin _ (by unfold chN;rw [if_pos (.inl k2),hp];rfl))))
   ·refine qW (beq_eq_false_iff_ne.2 k2) ?_
    by_cases k3:c.1=3
    ·refine qO (beq_iff_eq.2 k3) (qM (h1 (.inr k3)) (qM h2 ?_))
     cases hp:plB (evN false row many c) with
     |false=>exact qO rfl (qM h5 (qM h4 (qO (qBn ea e1000 rfl) (fin _ (by unfold chN;rw [if_pos (.inr k3),hp];rfl)))))
     |true=>exact qW rfl (qM h3 (qO (qBn ea e1000 (by simp)) (fin _ (by unfold chN;rw [if_pos (.inr k3),hp];rfl))))
    ·refine qW (beq_eq_false_iff_ne.2 k3) ?_
     exact qM h3 (qO (qBn ea e1000 (by simp)) (fin _ (by unfold chN;rw [if_neg (by omega)];rfl))))
  (qW (zAJ (by simp)) (by rw [List.take_length];rfl)) m (by omega)
 rw [qEK] at h
 refine qM h ?_
 simp [Tr.run,List.map_map,Function.comp_def]
theorem qDR (n row many:Int) (cl:Bool) (o:Int):Ev (qa · n row many cl o) (qCy cl row many o n):=by
 refine qDD (qB3 (R:=fun m=>qCe m n row many cl o) ?_ fun n=>rfl)
 unfold qCy
 by_cases h:n<row
 ·rw [if_pos h];exact qDi (zo h) (qAG rfl)
 ·rw [if_neg h]
  refine qEu (zAJ h) ?_
  cases cl with
  |false=>rw [if_pos rfl];exact qDi rfl (qAG rfl)
  |true=>
   rw [if_neg (by decide)]
   refine qEu rfl ?_
   by_cases h2:n<IntKind.i64.wrap (row+many)
   ·rw [if_pos h2];exact qDi (zo h2) (qAG rfl)
   ·rw [if_neg h2];exact qEu (zAJ h2) (qAG rfl)
theorem qFa (row many:Int):Ev (qCK · row many) (decide (1≤row∧row≤99)&&decide (1≤many∧many≤99)):=by
 refine qDD (qB3 (R:=fun m=>qCJ m row many) (qBi (qAO row 1 99) ?_) fun n=>rfl)
 by_cases h:1≤row∧row≤99
 ·rw [zo h];exact qDi rfl (qBi (qAO many 1 99) (qAG rfl))
 ·rw [zAJ h];exact qEu rfl (qAG rfl)
theorem qDS (n:Int):Ev (qBk · n) (decide (1≤n∧n≤99)):=qDD (qB3 (R:=fun m=>qCh m n) (qBi (qf n 1 99) (qAG rfl)) fun n=>rfl)
theorem qHH {cl:Bool} {row many:Int} {c:Nd} (h:c.1=3):evN cl row many c=(c.1,c.2.1,c.2.2.1,c.2.2.2.1,c.2.2.2.2.1,c.2.2.2.2.2.1,qCy cl row many row c.2.2.2.2.2.2.1,c.2.2.2.2.2.2.2.1,c.2.2.2.2.2.2.2.2.1,c.2.2.2.2.2.2.2.2.2.1,qCy cl row many (row-1) c.2.2.2.2.2.2.2.2.2.2.1,c.2.2.2.2.2.2.2.2.2.2.2.1,c.2.2.2.2.2.2.2.2.2.2.2.2.1,kd c):=by
 unfold evN
 rw [if_pos h,if_pos h]
theorem qHI {cl:Bool} {row many:Int} {c:Nd} (h:c.1=2) (hg:qCy cl row many row c.2.2.2.2.2.2.1=qCy cl row many 0 c.2.2.2.2.2.2.1):evN cl row many c=(c.1,c.2.1,c.2.2.1,c.2.2.2.1,c.2.2.2.2.1,c.2.2.2.2.2.1,qCy cl row many row c.2.2.2.2.2.2.1,c.2.2.2.2.2.2.2.1,c.2.2.2.2.2.2.2.2.1,c.2.2.2.2.2.2.2.2.2.1,c.2.2.2.2.2.2.2.2.2.2.1,c.2.2.2.2.2.2.2.2.2.2.2.1,c.2.2.2.2.2.2.2.2.2.2.2.2.1,kd c):=by
 unfold evN
 rw [if_neg (by omega),if_neg (by omega),hg]
theorem qFb (cl:Bool) (row many:Int) (hr:1≤row∧row≤99) (hmy:1≤many∧many≤99) (l:List Nd) (hl:l.length≤1000) (hs:∀c∈l,(kd c).length≤2000∧c.2.2.2.2.1.size≤140737488351232) (hB:∀c∈l,qAo c=true):Ev (qCM · (l.map qN) row many cl) (l.length,(l.map (chN (evN cl row many))).map qN):=by
 have wr:IntKind.i64.wrap (row-1)=row-1:=qi (by omega)
 have wq:IntKind.i64.wrap (row+many)=row+many:=qi (by omega)
 have wq1:IntKind.i64.wrap (row+many-1)=row+many-1:=qi (by omega)
 obtain ⟨n1,h1⟩:=qAn (F:=fun (c:Nd) n=>qa n c.2.2.2.2.2.2.1 row many cl row) (f:=fun c=>qCy cl row many row c.2.2.2.2.2.2.1) l fun c _=>qDR ..
 obtain ⟨n2,h2⟩:=qAn (F:=fun (c:Nd) n=>qa n c.2.2.2.2.2.2.2.2.2.2.1 row many cl (IntKind.i64.wrap (row-1))) (f:=fun c=>qCy cl row many (row-1) c.2.2.2.2.2.2.2.2.2.2.1) l fun c _=>by rw [wr];exact qDR ..
 obtain ⟨n3,h3⟩:=qAn (F:=fun (c:Nd) n=>qQ n (evN cl row many c).1 (evN cl row many c).2.1 (evN cl row many c).2.2.1 (evN cl row many c).2.2.2.1 (evN cl row many c).2.2.2.2.1 (evN cl row many c).2.2.2.2.2.1 (evN cl row many c).2.2.2.2.2.2.1 (evN cl row many c).2.2.2.2.2.2.2.1 (evN cl row many c).2.2.2.2.2.2.2.2.1 (evN cl row many c).2.2.2.2.2.2.2.2.2.1 (evN cl row many c).2.2.2.2.2.2.2.2.2.2.1 (evN cl row many c).2.2.2.2.2.2.2.2.2.2.2.1 (evN cl row many c).2.2.2.2.2.2.2.2.2.2.2.2.1 ((kd (evN cl row many c)).map qY)) (f:=fun c=>qAo (evN cl row many c)) l fun c hc=>qCa (evN cl row many c) (by have:=(hs c hc).2;show c.2.2.2.2.1.size≤_;omega)
 obtain ⟨n4,h4⟩:=qAn (F:=fun (c:Nd) n=>qc n c.2.2.2.2.2.2.1 row (IntKind.i64.wrap (IntKind.i64.wrap (row+many)-1))) (f:=fun c=>decide (row≤c.2.2.2.2.2.2.1∧c.2.2.2.2.2.2.1≤row+many-1)) l fun c _=>by rw [wq,wq1];exact qAO ..
 obtain ⟨n5,h5⟩:=qEM
 refine ⟨n1+n2+n3+n4+n5+l.length+3,fun n hn=>?_⟩
 obtain ⟨m,rfl,hm⟩:=up1 hn
 have h:=qHF (B:=qBP m) (fun i=>(l.map qN,row,many,cl,i,(i:Int),(l.take i).map fun c=>qN (chN (evN cl row many) c))) l (fun _ _=>none) (l.length,l.map fun c=>qN (chN (evN cl row many) c))
  (fun i c he=>by
   have hi:=(List.getElem?_eq_some_iff.1 he).1
   have hmem:=zn he
   have hg:(l.map qN)[i]?=some (qN c):=by rw [List.getElem?_map,he];rfl
   obtain ⟨a1,a2⟩:=qGk rfl hg
   have h1:=h1 m (by omega) c hmem
   have h2:=h2 m (by omega) c hmem
   have h3:=h3 m (by omega) c hmem
   have h4:=h4 m (by omega) c hmem
   have h5:=h5 m (by omega)
   have hkl:=(hs c hmem).1
   have ea:i=((l.take i).map fun c=>qN (chN (evN cl row many) c)).length:=by simp;omega
   have e1000:i≤1000:=by omega
   have w:IntKind.i64.wrap ((i:Int)+1)=((i+1:Nat):Int):=by rw [qi (by omega)];omega
   have fin:∀(e:List PV),e=qN (chN (evN cl row many) c)→(some (Sum.inl (l.map qN,row,many,cl,i+1,IntKind.i64.wrap ((i:Int)+1),((l.take i).map fun c=>qN (chN (evN cl row many) c))++ [e])):Option ((List (List PV)×Int×Int×Bool×Nat×Int×List (List PV))⊕(Nat×List (List PV))))=some (.inl (l.map qN,row,many,cl,i+1,((i+1:Nat):Int),(l.take (i+1)).map fun c=>qN (chN (evN cl row many) c))):=fun e he2=>by
    rw [w,qGX he,he2]
   have kA:decide (0=([]:List (List PV)).length∧0<1∧0<8∧(0+((kd c).map qY).length)*8≤140737488355328∧((kd c).map qY).all (fun e=>e.length==1)=true)=true:=zo ⟨rfl,by decide,by decide,by simp;omega,by simp [qY]⟩
   have kB:decide ((0+((kd c).map qY).length)=(([]:List (List PV))++((kd c).map qY)).length)=true:=zo (by simp)
   refine qO (zo (by simpa using hi)) (qO a1 (qM a2 (qO rfl ?_)))
   iterate 14 refine qM rfl ?_
   refine qO kA ?_
   by_cases k2:c.1=2
   ·refine qO (beq_iff_eq.2 k2) (qO (beq_iff_eq.2 k2) ?_)
    obtain ⟨b1,b2,b3⟩:=qG0 (cl:=cl) (row:=row) (many:=many) (hB c hmem) (.inl k2)
    rw [b1] at h3
    by_cases hgone:cl=true∧row≤c.2.2.2.2.2.2.1∧c.2.2.2.2.2.2.1≤row+many-1
    ·have hp:plB (evN cl row many c)=false:=by
      unfold plB evN
      dsimp only
      rw [if_pos k2,if_neg (by omega)]
      have:qCy cl row many 0 c.2.2.2.2.2.2.1=0:=by
       unfold qCy
       rw [if_neg (by omega),if_neg (by rw [hgone.1];decide),wq,if_pos (by omega)]
      rw [this,qG5]
     rw [zo hgone.2] at h4
     exact qO hgone.1 (qM h4 (qM h1 (qW (beq_eq_false_iff_ne.2 (by omega)) (qO rfl (qM h5 (qO (qEx ea e1000) (fin _ (by unfold chN;rw [if_pos (.inl k2),hp];rfl))))))))
    ·have hg0:qCy cl row many row c.2.2.2.2.2.2.1=qCy cl row many 0 c.2.2.2.2.2.2.1:=by
      unfold qCy
      by_cases q1:c.2.2.2.2.2.2.1<row
      ·rw [if_pos q1,if_pos q1]
      ·rw [if_neg q1,if_neg q1]
       by_cases q2:cl=false
       ·rw [if_pos q2,if_pos q2]
       ·rw [if_neg q2,if_neg q2,wq,if_neg (fun q3=>hgone ⟨by simpa using q2,by omega,by omega⟩),if_neg (fun q3=>hgone ⟨by simpa using q2,by omega,by omega⟩)]
     have hm2:=qHI (cl:=cl) (row:=row) (many:=many) k2 hg0
     rw [hm2] at h3
     cases cl with
     |false=>
      refine qW rfl (qM h1 (qW (beq_eq_false_iff_ne.2 (by omega)) (qO kB (qM h3 (qO rfl ?_)))))
      rw [←hm2]
      cases hp:plB (evN false row many c) with
      |false=>exact qO rfl (qM h5 (qO (qEx ea e1000) (fin _ (by unfold chN;rw [if_pos (.inl k2),hp];rfl))))
      |true=>exact qW rfl (qO (qBn ea e1000 (by simp)) (fin _ (by unfold chN;rw [if_pos (.inl k2),hp,if_pos rfl,hm2];rfl)))
     |true=>
      rw [zAJ (fun q=>hgone ⟨rfl,q⟩)] at h4
      refine qO rfl (qM h4 (qM h1 (qW (beq_eq_false_iff_ne.2 (by omega)) (qW rfl (qO kB (qM h3 (qO rfl ?_)))))))
      rw [←hm2]
      cases hp:plB (evN true row many c) with
      |false=>exact qO rfl (qM h5 (qO (qEx ea e1000) (fin _ (by unfold chN;rw [if_pos (.inl k2),hp];rfl))))
      |true=>exact qW rfl (qO (qBn ea e1000 (by simp)) (fin _ (by unfold chN;rw [if_pos (.inl k2),hp,if_pos rfl,hm2];rfl)))
   ·refine qW (beq_eq_false_iff_ne.2 k2) ?_
    by_cases k3:c.1=3
    ·have hm3:=qHH (cl:=cl) (row:=row) (many:=many) (c:=c) k3
     obtain ⟨b1,b2,b3⟩:=qG0 (cl:=cl) (row:=row) (many:=many) (hB c hmem) (.inr k3)
     rw [b1] at h3
     rw [hm3] at h3
     refine qO (beq_iff_eq.2 k3) (qW (beq_eq_false_iff_ne.2 k2) (qM h1 (qO (beq_iff_eq.2 k3) (qM h2 (qO kB (qM h3 (qO rfl ?_)))))))
     rw [←hm3]
     cases hp:plB (evN cl row many c) with
     |false=>exact qO rfl (qM h5 (qO (qEx ea e1000) (fin _ (by unfold chN;rw [if_pos (.inr k3),hp];rfl))))
     |true=>exact qW rfl (qO (qBn ea e1000 (by simp)) (fin _ (by unfold chN;rw [if_pos (.inr k3),hp,if_pos rfl,hm3];rfl)))
    ·exact qW (beq_eq_false_iff_ne.2 k3) (qO (qBn ea e1000 (by simp)) (fin _ (by unfold chN;rw [if_neg (by omega)];rfl))))
  (qW (zAJ (by simp)) (by rw [List.take_length];rfl)) m (by omega)
 rw [qEK] at h
 refine qM h ?_
 simp [Tr.run,List.map_map,Function.comp_def]
theorem qEN (row many:Int) (l:List Nd) (hl:l.length≤140737488351232) (hs:∀c∈l,(kd c).length≤140737488351232∧c.2.2.2.2.1.size≤140737488351232):Ev (qBU · (l.map qN) row many) ((ocR false row many l).1.length,(ocR false row many l).2,(ocR false row many l).1.map qN):=by
 refine qDD (qB3 (R:=fun n=>qCU n (l.map qN) row many) (qBi (qDw l hl hs) ?_) fun n=>rfl)
 unfold ocR
 cases hf:qCu l with
 |false=>rw [if_neg (by simp)];exact qDi rfl (qAG rfl)
 |true=>
  refine qEu rfl (qBi (qDS row) ?_)
  by_cases hp:1≤row∧row≤99
  ·refine qEu (by rw [zo hp];rfl) (qBi (qDS many) ?_)
   by_cases hq:1≤many∧many≤99
   ·rw [if_pos ⟨rfl,hp,hq⟩]
    have h:=qEv row many hp hq l (by have:=(qAx hf).1.2;omega) (fun c hc=>by have:=qCn ((qAx hf).2 c hc);omega) (qAx hf).2
    exact qEu (by rw [zo hq];rfl) (qBi (qDD (qB3 (F:=fun n=>qCT n (l.map qN) row many) (R:=fun n=>qCS n (l.map qN) row many) (qBi h (qAG rfl)) fun n=>rfl)) (qAG (by simp)))
   ·rw [if_neg (fun h=>hq h.2.2)]
    exact qDi (by rw [zAJ hq];rfl) (qAG rfl)
  ·rw [if_neg (fun h=>hp h.2.1)]
   exact qDi (by rw [zAJ hp];rfl) (qAG rfl)
theorem qEO (row many:Int) (l:List Nd) (hs:∀c∈l,(kd c).length≤140737488351232∧c.2.2.2.2.1.size≤140737488351232):Ev (qCO · (l.map qN) row many) ((ocR false row many l).1.length,(ocR false row many l).2,(ocR false row many l).1.map qN):=by
 refine qDD (qB3 (R:=fun n=>qCN n (l.map qN) row many) (qBi (qDu l hs) ?_) fun n=>rfl)
 unfold ocR
 cases hf:qCu l with
 |false=>rw [if_neg (by simp)];exact qDi rfl (qAG rfl)
 |true=>
  refine qEu rfl (qBi (qFa row many) ?_)
  by_cases hp:1≤row∧row≤99
  ·rw [zo hp]
   by_cases hq:1≤many∧many≤99
   ·rw [if_pos ⟨rfl,hp,hq⟩,zo hq]
    have h:=qFb false row many hp hq l (by have:=(qAx hf).1.2;omega) (fun c hc=>⟨qCn ((qAx hf).2 c hc),(hs c hc).2⟩) (qAx hf).2
    exact qEu rfl (qBi h (qAG (by simp)))
   ·rw [if_neg (fun h=>hq h.2.2),zAJ hq]
    exact qDi rfl (qAG rfl)
  ·rw [if_neg (fun h=>hp h.2.1),zAJ hp]
   exact qDi rfl (qAG rfl)
theorem law (rows:List (List PV)) (p q:Int) (w:rows.length*120≤140737488351232∧∀r∈rows,okR [.i .i64,.i .i64,.i .i64,.i .i64,.s,.i .i64,.i .i64,.b,.b,.i .i64,.i .i64,.b,.b,.sl 8 [.i .i64]] r) (w1:(Lit.int .i64 p).wf=true) (w2:(Lit.int .i64 q).wf=true):Ev (qBY · rows p q) true:=by
 obtain ⟨l,rfl,hs⟩:=qG1 w.2
 have hl:l.length*120≤140737488351232:=by simpa using w.1
 have hk:∀c∈l,(kd c).length≤140737488351232∧c.2.2.2.2.1.size≤140737488351232:=fun c hc=>⟨by have:=(hs c hc).2;omega,(hs c hc).1⟩
 obtain ⟨n1,t1⟩:=qF2 l hl (fun c hc=>(hs c hc).2)
 have eL:decide ((l.length:Nat)=(l.map qN).length)=true:=zo (by simp)
 have hp:=qEO p q l hk
 have hi:=qEN p q l (by omega) hk
 have hG:Gn (ocR false p q l).1:=by
  unfold ocR
  split
  ·rename_i hc
   obtain ⟨⟨_,h60⟩,hnode⟩:=qAx hc.1
   refine ⟨by rw [List.length_map];omega,fun c hcm=>?_⟩
   obtain ⟨c0,h0,rfl⟩:=List.mem_map.1 hcm
   have h1:=qCn (hnode c0 h0)
   unfold chN
   split
   ·split
    ·exact h1
    ·exact Nat.zero_le _
   ·exact h1
  ·exact ⟨Nat.zero_le _,fun c hcm=>by cases hcm⟩
 generalize ocR false p q l=gb at hp hi hG
 obtain ⟨g,b⟩:=gb
 simp only at hp hi hG
 have hgl:=hG.gnL
 have hgk:∀c∈g,(kd c).length≤140737488351232:=fun c hc=>by have:=hG.gnK c hc;omega
 have htg:=qG8 hG.gnL hG.gnK
 have eG:decide ((g.length:Nat)=(g.map qN).length)=true:=zo (by simp)
 have eM:decide ((g.length:Nat)=((qDk 1 g).map qN).length)=true:=zo (by rw [List.length_map,qDz])
 obtain ⟨n2,hp⟩:=hp
 obtain ⟨n3,hi⟩:=hi
 obtain ⟨n4,hq⟩:=qCY g (by omega) hgk
 obtain ⟨n7,hf⟩:=qCY l (by omega) (fun c hc=>(hk c hc).1)
 have ap:=qGz g.length 14 71 b g
 refine ⟨n1+n2+n3+n4+n7+qBj l+qBj g+l.length+g.length+90,fun n hn=>?_⟩
 obtain ⟨m,rfl,hmm⟩:=up1 hn
 have t1:=t1 m (by omega)
 have hp:=hp m (by omega)
 have hi:=hi m (by omega)
 have hq:=hq m (by omega)
 have hf:=hf m (by omega)
 have hm:=qF9 g (by omega) hgk (by omega) m (by omega)
 have hh:=qGu g (by omega) hgk (by omega) m (by omega)
 obtain ⟨r,hr,hz⟩:=qF3 l (by omega) hk m (by omega)
 refine qM hr ?_
 by_cases h0:r<0
 ·exact qO (zo h0) rfl
 obtain ⟨b1,b2⟩:=hz (by omega)
 have hA:=qF9 l (by omega) (fun c hc=>(hk c hc).1) (by have:=qGZ l;omega) m (by omega)
 have hk0:decide ((1:Int)+(qB4 l:Int)<0)=false:=zAJ (by omega)
 have hlt:decide ((1:Int)+(qB4 g:Int)<0)=false:=zAJ (by omega)
 refine qW (zAJ h0) (qM t1 (qO eL (qM hp (qO ap (qM t1 (qO eL (qM hi (qO ap (qO eG (qO eG (qM hq (qO (qD _) (qW rfl (qW (bnn _) ?_))))))))))))))
 refine qM t1 (qO eL (qO eL (qM hf (qO (qD _) (qW rfl (qO eL (qM hA (qW hk0 ?_))))))))
 refine qO eG (qO eG (qM hq (qO (qD _) (qW rfl (qW (bnn _) (qO eG (qM hm (qO eM (qM hh (qO (qE _) (qW hlt (qW (bne_self_eq_false' _) ?_))))))))))))
 refine qM t1 (qO eL (qM hi (qO ap (qO eG (qO eG (qM hq (qO (qD _) (qW rfl (qW (bnn _) ?_)))))))))
 exact qO eM (qM hh (qO (qE _) (qW hlt (qW (bne_self_eq_false' _) rfl))))
end Go.Proofs.Ytilkdjfhbahhdaa.KFnExactOpened

