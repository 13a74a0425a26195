import Derived.Test.YthhngmnbcmkhpaaGreatDoorTFnReadFormula
import Derived.Test.YthhngmnbcmkhpaaGreatDoorE32
import Derived.Lib.Strings
namespace Go.Proofs.YthhngmnbcmkhpaaGreatDoor.KFnReadFormula
open Go.Eng
set_option linter.unusedVariables false
set_option linter.unusedSimpArgs false
def Ev {R:Type} (F:Nat→Option R) (r:R):Prop:=∃n0,∀n,n0≤n→F n=some r
theorem qAg (s:ByteArray):s.toList.length=s.size:=by rw [Go.Lib.toList_data];rfl
theorem qx:(ByteArray.mk #[]).toList= []:=by decide+kernel
theorem qZ {x:Int} (h: -9223372036854775808≤x∧x≤9223372036854775807):IntKind.i64.wrap x=x:=by
 unfold IntKind.wrap
 have e1:(2:Int)^(64-1)=9223372036854775808:=by decide
 have e2:(2:Int)^64=18446744073709551616:=by decide
 simp only [IntKind.signed,IntKind.bits,Bool.true_and,decide_eq_true_eq,e1,e2]
 split<;>omega
theorem qK2 (x:Int): -9223372036854775808≤IntKind.i64.wrap x∧IntKind.i64.wrap x≤9223372036854775807:=by
 unfold IntKind.wrap
 have e1:(2:Int)^(64-1)=9223372036854775808:=by decide
 have e2:(2:Int)^64=18446744073709551616:=by decide
 simp only [IntKind.signed,IntKind.bits,Bool.true_and,decide_eq_true_eq,e1,e2]
 split<;>omega
theorem qM2 {s:ByteArray} {i:Nat} (h:i<s.size):∃c,s.toList[i]?=some c:=⟨_,List.getElem?_eq_getElem (by rw [qAg];exact h)⟩
theorem qFC {α:Type} {s:List α} {i:Nat} {c:α} (h:s[i]?=some c):s.drop i=c::s.drop (i+1):=by
 obtain ⟨h1,rfl⟩:=List.getElem?_eq_some_iff.1 h
 exact List.drop_eq_getElem_cons h1
theorem qa {V R:Type} {B:V→Tr (V⊕R)} {m:Nat} {v v':V} (h:(B v).run=some (.inl v')):zD B (m+1) v=zD B m v':=by simp only [zD,h]
theorem qO {V R:Type} {B:V→Tr (V⊕R)} {m:Nat} {v:V} {r:R} (h:(B v).run=some (.inr r)):zD B (m+1) v=some r:=by simp only [zD,h]
theorem up1 {n n0:Nat} (h:n0+1≤n):∃m,n=m+1∧n0≤m:=⟨n-1,by omega,by omega⟩
theorem qC {α:Type} (x:α):(Tr.done x).run=some x:=rfl
theorem qD {α:Type}:(Tr.fail:Tr α).run=none:=rfl
theorem qF {α:Type} (b:Bool) (t f:Tr α):(Tr.ask b t f).run=if b=true then t.run else f.run:=by cases b<;>rfl
theorem qG {α β:Type} (o:Option β) (k:β→Tr α):(Tr.opt o k).run=o.bind fun x=>(k x).run:=by cases o<;>rfl
theorem qH {α β γ:Type} (x:β) (k:β→Tr α) (l:γ→Tr α):(Tr.alt (.inl x) k l).run=(k x).run:=rfl
theorem qJ {α β γ:Type} (x:γ) (k:β→Tr α) (l:γ→Tr α):(Tr.alt (.inr x) k l).run=(l x).run:=rfl
theorem qCN {α R:Type} {F:α→Nat→Option R} {f:α→R}:∀(l:List α),(∀c∈l,Ev (F c) (f c))→∃n0,∀n,n0≤n→∀c∈l,F c n=some (f c)
 | [],_=>⟨0,fun n _ c hc=>by cases hc⟩
 |a::l,h=>by
  obtain ⟨n1,h1⟩:=h a (List.mem_cons_self ..)
  obtain ⟨n2,h2⟩:=qCN l fun c hc=>h c (List.mem_cons_of_mem _ hc)
  exact ⟨n1+n2,fun n hn c hc=>by
   rcases List.mem_cons.1 hc with rfl|hc
   ·exact h1 n (by omega)
   ·exact h2 n (by omega) c hc⟩
theorem qNj {R:Type} {B:List (List PV)×List (List PV)×Int→Tr ((List (List PV)×List (List PV)×Int)⊕R)} {rows:List (List PV)} {r:R}
  (hs:∀(i:Nat) (e:List PV),rows[i]?=some e→(B (rows,rows,(i:Int))).run=some (.inl (rows,rows,((i+1:Nat):Int)))) (he:(B (rows,rows,(rows.length:Int))).run=some (.inr r)):
  ∀(m i M:Nat),rows.length=i+m→m+1≤M→zD B M (rows,rows,(i:Int))=some r
 |m,i,0,h1,h2=>by omega
 |0,i,M+1,h1,h2=>by
  have hi:i=rows.length:=by omega
  subst hi
  rw [qO he]
 |m+1,i,M+1,h1,h2=>by
  have hg:=List.getElem?_eq_getElem (l:=rows) (i:=i) (by omega)
  rw [qa (hs i _ hg)]
  exact qNj hs he m (i+1) M (by omega) (by omega)
theorem qA {α β:Type} {o:Option β} {x:β} {k:β→Tr α} {y:Option α} (h:o=some x) (h2:(k x).run=y):(Tr.opt o k).run=y:=by rw [h];exact h2
theorem qN {α:Type} {b:Bool} {t f:Tr α} {y:Option α} (h:b=true) (h2:t.run=y):(Tr.ask b t f).run=y:=by rw [h];exact h2
theorem qR {α:Type} {b:Bool} {t f:Tr α} {y:Option α} (h:b=false) (h2:f.run=y):(Tr.ask b t f).run=y:=by rw [h];exact h2
theorem qE (b:Bool):zAx (⟨(.c (.p (.b b))),[],[]⟩:Res)=true:=rfl
theorem qK (x:Int):zAx (⟨(.c (.p (.i .i64 x))),[],[]⟩:Res)=true:=rfl
theorem qM (x:ByteArray):zAx (⟨(.c (.p (.s x))),[],[]⟩:Res)=true:=rfl
theorem qCO (x lo hi:Int):Ev (qBD · x lo hi) (decide (lo≤x∧x≤hi)):=by
 refine ⟨1,fun n hn=>?_⟩
 obtain ⟨m,rfl,hm⟩:=up1 hn
 simp only [qBD,qFo,qC,qD,qF,qG,qH,qJ,Option.bind_some,qE,qK,qM]
 by_cases h:x≥lo<;>simp [h]
theorem qAG (x lo hi:Int):Ev (qAP · x lo hi) (decide (lo≤x∧x≤hi)):=by
 refine ⟨1,fun n hn=>?_⟩
 obtain ⟨m,rfl,hm⟩:=up1 hn
 simp only [qAP,qF7,qC,qD,qF,qG,qH,qJ,Option.bind_some,qE,qK,qM]
 by_cases h:x≥lo<;>simp [h]
def okc (c:UInt8):Bool:=decide (32≤c.toNat∧c.toNat≤126)
def qD9 (s:ByteArray) (most:Int):Bool:=s.toList.all okc&&decide ((s.size:Int)≤most)
def okV (k n:Int) (s:ByteArray):Bool:=
 if k=2 then decide (n=0)&&qD9 s 200 else (s.toList== [])&&(if k=0 then decide (n=0) else if k=1 then decide (-1000000000000000≤n∧n≤1000000000000000) else if k=3 then decide (0≤n∧n≤1) else if k=4 then decide (1≤n∧n≤5) else false)
theorem qJz (n:Nat) (s:ByteArray) (hb:s.size≤140737488351232):∀(m i M:Nat),s.size=i+m→m+1≤M→
  zD (qBK n) M (s,(i:Int))=some (if (s.toList.drop i).all okc then .inr s else .inl false)
 |m,i,0,h1,h2=>by omega
 |0,i,M+1,h1,h2=>by
  rw [qO (r:= .inr s) (by simp [qBK,qC,qD,qF,qG,qH,qJ,Option.bind_some,qE,qK,qM,show ¬((i:Int)<s.size) by omega])]
  rw [List.drop_eq_nil_of_le (by rw [qAg];omega)]
  rfl
 |m+1,i,M+1,h1,h2=>by
  obtain ⟨c,hc⟩:=qM2 (s:=s) (i:=i) (by omega)
  have hi:(i:Int)<s.size:=by omega
  rw [qFC hc]
  by_cases c1:(c.toNat:Int)<32
  ·rw [qO (r:= .inl false) (by simp [qBK,qC,qD,qF,qG,qH,qJ,Option.bind_some,qE,qK,qM,hi,hc,c1])]
   have:okc c=false:=by simp [okc];omega
   simp [this]
  ·by_cases c2:(c.toNat:Int)>126
   ·rw [qO (r:= .inl false) (by simp [qBK,qC,qD,qF,qG,qH,qJ,Option.bind_some,qE,qK,qM,hi,hc,c1,c2])]
    have:okc c=false:=by simp [okc];omega
    simp [this]
   ·have hw:IntKind.i64.wrap ((i:Int)+1)=((i+1:Nat):Int):=by rw [qZ (by omega)];omega
    rw [qa (v':=(s,((i+1:Nat):Int))) (by simp [qBK,qC,qD,qF,qG,qH,qJ,Option.bind_some,qE,qK,qM,hi,hc,c1,c2,hw])]
    rw [qJz n s hb m (i+1) M (by omega) (by omega)]
    have:okc c=true:=by simp [okc];omega
    simp [this]
theorem qHU (s:ByteArray) (hb:s.size≤140737488351232):Ev (qC9 · s) (qD9 s 200):=by
 refine ⟨s.size+2,fun n hn=>?_⟩
 obtain ⟨m,rfl,hm⟩:=up1 hn
 have h:=qJz m s hb s.size 0 m (by omega) (by omega)
 simp only [qC9,qFS,qC,qD,qF,qG,qH,qJ,Option.bind_some,qE,qK,qM]
 simp only [Int.natCast_zero,List.drop_zero] at h
 rw [h]
 cases hc:s.toList.all okc<;>simp [qC,qD,qF,qG,qH,qJ,Option.bind_some,qE,qK,qM,qD9,hc]
theorem qLL (n:Nat) (s:ByteArray) (y:Int) (hb:s.size≤140737488351232):∀(m i M:Nat),s.size=i+m→m+1≤M→
  zD (qBT n) M (s,y,(s.size:Int),(i:Int))=some (if (s.toList.drop i).all okc then .inr (s,y) else .inl false)
 |m,i,0,h1,h2=>by omega
 |0,i,M+1,h1,h2=>by
  rw [qO (r:= .inr (s,y)) (by simp [qBT,qC,qD,qF,qG,qH,qJ,Option.bind_some,qE,qK,qM,show ¬((i:Int)<s.size) by omega])]
  rw [List.drop_eq_nil_of_le (by rw [qAg];omega)]
  rfl
 |m+1,i,M+1,h1,h2=>by
  obtain ⟨c,hc⟩:=qM2 (s:=s) (i:=i) (by omega)
  have hi:(i:Int)<s.size:=by omega
  rw [qFC hc]
  by_cases c1:(c.toNat:Int)<32
  ·rw [qO (r:= .inl false) (by simp [qBT,qC,qD,qF,qG,qH,qJ,Option.bind_some,qE,qK,qM,hi,hc,c1])]
   have:okc c=false:=by simp [okc];omega
   simp [this]
  ·by_cases c2:(c.toNat:Int)>126
   ·rw [qO (r:= .inl false) (by simp [qBT,qC,qD,qF,qG,qH,qJ,Option.bind_some,qE,qK,qM,hi,hc,c1,c2])]
    have:okc c=false:=by simp [okc];omega
    simp [this]
   ·have hw:IntKind.i64.wrap ((i:Int)+1)=((i+1:Nat):Int):=by rw [qZ (by omega)];omega
    rw [qa (v':=(s,y,(s.size:Int),((i+1:Nat):Int))) (by simp [qBT,qC,qD,qF,qG,qH,qJ,Option.bind_some,qE,qK,qM,hi,hc,c1,c2,hw])]
    rw [qLL n s y hb m (i+1) M (by omega) (by omega)]
    have:okc c=true:=by simp [okc];omega
    simp [this]
theorem qH9 (s:ByteArray) (y:Int) (hb:s.size≤140737488351232):Ev (qDZ · s y) (qD9 s y):=by
 refine ⟨s.size+2,fun n hn=>?_⟩
 obtain ⟨m,rfl,hm⟩:=up1 hn
 have h:=qLL m s y hb s.size 0 m (by omega) (by omega)
 simp only [qDZ,qF5,qC,qD,qF,qG,qH,qJ,Option.bind_some,qE,qK,qM]
 simp only [Int.natCast_zero,List.drop_zero] at h
 rw [h]
 cases hc:s.toList.all okc<;>simp [qC,qD,qF,qG,qH,qJ,Option.bind_some,qE,qK,qM,qD9,hc]
theorem qBo (k x:Int) (s:ByteArray) (hb:s.size≤140737488351232):Ev (qq · k x s) (okV k x s):=by
 obtain ⟨n1,h1⟩:=qCO x (-1000000000000000) 1000000000000000
 obtain ⟨n2,h2⟩:=qCO x 0 1
 obtain ⟨n3,h3⟩:=qCO x 1 5
 obtain ⟨n4,h4⟩:=qHU s hb
 refine ⟨n1+n2+n3+n4+1,fun n hn=>?_⟩
 obtain ⟨m,rfl,hm⟩:=up1 hn
 have h1:=h1 m (by omega)
 dsimp only at h1
 have h2:=h2 m (by omega)
 dsimp only at h2
 have h3:=h3 m (by omega)
 dsimp only at h3
 have h4:=h4 m (by omega)
 dsimp only at h4
 simp only [qq,qFU,qC,qD,qF,qG,qH,qJ,Option.bind_some,qE,qK,qM,h1,h2,h3,h4]
 simp only [okV,qx]
 by_cases k2:k=2
 ·subst k2
  by_cases x0:x=0<;>simp [x0]
 ·by_cases k0:k=0
  ·subst k0
   by_cases x0:x=0<;>simp [x0]
  ·by_cases k1:k=1
   ·subst k1
    by_cases hx: -1000000000000000≤x∧x≤1000000000000000<;>simp [hx]
   ·by_cases k3:k=3
    ·subst k3
     by_cases hx:0≤x∧x≤1<;>simp [hx]
    ·by_cases k4:k=4
     ·subst k4
      by_cases hx:1≤x∧x≤5<;>simp [hx]
     ·simp [k0,k1,k2,k3,k4]
theorem qHV (k x:Int) (s:ByteArray) (hb:s.size≤140737488351232):Ev (qAV · k x s) (okV k x s):=by
 obtain ⟨n1,h1⟩:=qAG x (-1000000000000000) 1000000000000000
 obtain ⟨n2,h2⟩:=qAG x 0 1
 obtain ⟨n3,h3⟩:=qAG x 1 5
 obtain ⟨n4,h4⟩:=qH9 s 200 hb
 refine ⟨n1+n2+n3+n4+1,fun n hn=>?_⟩
 obtain ⟨m,rfl,hm⟩:=up1 hn
 have h1:=h1 m (by omega)
 dsimp only at h1
 have h2:=h2 m (by omega)
 dsimp only at h2
 have h3:=h3 m (by omega)
 dsimp only at h3
 have h4:=h4 m (by omega)
 dsimp only at h4
 simp only [qAV,qFK,qC,qD,qF,qG,qH,qJ,Option.bind_some,qE,qK,qM,h1,h2,h3,h4]
 simp only [okV,qx]
 by_cases k2:k=2
 ·subst k2
  by_cases x0:x=0<;>simp [x0]
 ·by_cases he:s.toList= []
  ·by_cases k0:k=0
   ·subst k0
    by_cases x0:x=0<;>simp [x0,he]
   ·by_cases k1:k=1
    ·subst k1;simp [he]
    ·by_cases k3:k=3
     ·subst k3;simp [he]
     ·by_cases k4:k=4
      ·subst k4;simp [he]
      ·simp [k0,k1,k2,k3,k4,he]
  ·simp [k2,he]
abbrev V3:=Int×Int×ByteArray
def em:ByteArray:=⟨#[]⟩
theorem qLp (x:Int):Ev (qCf · x) (4,x,em):=by
 refine ⟨1,fun n hn=>?_⟩
 obtain ⟨m,rfl,hm⟩:=up1 hn
 simp only [qCf,qFV,qC,qD,qF,qG,qH,qJ,Option.bind_some,qE,qK,qM]
 rfl
theorem qI0 (x:Int):Ev (qBe · x) (4,x,em):=by
 refine ⟨1,fun n hn=>?_⟩
 obtain ⟨m,rfl,hm⟩:=up1 hn
 simp only [qBe,qGx,qC,qD,qF,qG,qH,qJ,Option.bind_some,qE,qK,qM]
 rfl
theorem qML (x:Int):Ev (qDa · x) (1,x,em):=by
 refine ⟨1,fun n hn=>?_⟩
 obtain ⟨m,rfl,hm⟩:=up1 hn
 simp only [qDa,qF8,qC,qD,qF,qG,qH,qJ,Option.bind_some,qE,qK,qM]
 rfl
def qAd (c r:Int):Bool:=decide (1≤c∧c≤52)&&decide (1≤r∧r≤99)
def qEA (a b c d:Int):Bool:=qAd a b&&qAd c d&&decide (a≤c)&&decide (b≤d)
theorem qCz (c r:Int):Ev (qAJ · c r) (qAd c r):=by
 obtain ⟨n1,h1⟩:=qCO c 1 52
 obtain ⟨n2,h2⟩:=qCO r 1 99
 refine ⟨n1+n2+1,fun n hn=>?_⟩
 obtain ⟨m,rfl,hm⟩:=up1 hn
 have h1:=h1 m (by omega)
 dsimp only at h1
 have h2:=h2 m (by omega)
 dsimp only at h2
 simp only [qAJ,qGr,qC,qD,qF,qG,qH,qJ,Option.bind_some,qE,qK,qM,h1,h2]
 unfold qAd
 cases decide (1≤c∧c≤52)<;>simp
theorem qDc (c r:Int):Ev (qCI · c r) (qAd c r):=by
 obtain ⟨n1,h1⟩:=qAG c 1 52
 obtain ⟨n2,h2⟩:=qAG r 1 99
 refine ⟨n1+n2+1,fun n hn=>?_⟩
 obtain ⟨m,rfl,hm⟩:=up1 hn
 have h1:=h1 m (by omega)
 dsimp only at h1
 have h2:=h2 m (by omega)
 dsimp only at h2
 simp only [qCI,qGz,qC,qD,qF,qG,qH,qJ,Option.bind_some,qE,qK,qM,h1,h2]
 unfold qAd
 cases decide (1≤c∧c≤52)<;>simp
theorem qMM (a b c d:Int):Ev (qEa · a b c d) (qEA a b c d):=by
 obtain ⟨n1,h1⟩:=qCz a b
 obtain ⟨n2,h2⟩:=qCz c d
 refine ⟨n1+n2+1,fun n hn=>?_⟩
 obtain ⟨m,rfl,hm⟩:=up1 hn
 have h1:=h1 m (by omega)
 dsimp only at h1
 have h2:=h2 m (by omega)
 dsimp only at h2
 simp only [qEa,qGE,qC,qD,qF,qG,qH,qJ,Option.bind_some,qE,qK,qM,h1,h2]
 unfold qEA
 cases qAd a b<;>cases qAd c d<;>by_cases h:a≤c<;>simp [h]
theorem qIA (a b c d:Int):Ev (qDb · a b c d) (qEA a b c d):=by
 obtain ⟨n1,h1⟩:=qDc a b
 obtain ⟨n2,h2⟩:=qDc c d
 refine ⟨n1+n2+1,fun n hn=>?_⟩
 obtain ⟨m,rfl,hm⟩:=up1 hn
 have h1:=h1 m (by omega)
 dsimp only at h1
 have h2:=h2 m (by omega)
 dsimp only at h2
 simp only [qDb,qGD,qC,qD,qF,qG,qH,qJ,Option.bind_some,qE,qK,qM,h1,h2]
 unfold qEA
 cases qAd a b<;>cases qAd c d<;>by_cases h:a≤c<;>simp [h]
def qRM (x y:Int):Int:=if x<y then-1 else if x>y then 1 else 0
def qRm (x y:ByteArray):Int:=if Op.bytesLess x.toList y.toList=true then-1 else if x.toList=y.toList then 0 else 1
def qO5:List Int→Int
 | []=>0
 |x::r=>if x≠0 then x else qO5 r
def qRn (k x:Int) (s:ByteArray) (k' x':Int) (s':ByteArray):Int:=qO5 [qRM k k',qRM x x',qRm s s']
theorem qI1 (b:Bool):Ev (qD1 · b) (3,if b=true then 1 else 0,em):=by
 refine ⟨1,fun n hn=>?_⟩
 obtain ⟨m,rfl,hm⟩:=up1 hn
 simp only [qD1,qGy,qC,qD,qF,qG,qH,qJ,Option.bind_some,qE,qK,qM]
 cases b<;>rfl
def qRN (op o:Int):Bool:=if op=6 then o==0 else if op=7 then o !=0 else if op=8 then decide (o<0) else if op=9 then decide (o≤0) else if op=10 then decide (o>0) else decide (o≥0)
def qRl (op k x:Int) (s:ByteArray) (k' x':Int) (s':ByteArray):Int×Int×ByteArray:=
 if okV k x s=true∧okV k' x' s'=true∧6≤op∧op≤11 then
  (if k=4 then (k,x,s) else if k'=4 then (k',x',s') else (3,if qRN op (qRn (if k=0 then k' else k) x s (if k'=0 then k else k') x' s')=true then 1 else 0,em))
 else (4,2,em)
theorem qEK {R:Type} {F:Nat→Option R} {r:R} {k:Nat} (h:∀n,k≤n→F n=some r):Ev F r:=⟨k,h⟩
theorem wf8 {x:Int} (h:(Lit.int .u8 x).wf=true):0≤x∧x≤255:=by
 simp only [Lit.wf,Bool.and_eq_true,decide_eq_true_eq] at h
 have h1:IntKind.u8.min=0:=by decide
 have h2:IntKind.u8.max=255:=by decide
 omega
theorem qRO {x:Int} (h:0≤x∧x≤18446744073709551615):IntKind.u64.wrap x=x:=by
 unfold IntKind.wrap
 have e2:(2:Int)^64=18446744073709551616:=by decide
 simp only [IntKind.signed,IntKind.bits,Bool.false_and,Bool.false_eq_true,if_false,e2]
 omega
def qHi (l:List (List PV)):Prop:=l.length≤1048576∧∀e∈l,∃b:Int,e= [.i .u8 b]∧0≤b∧b≤255
theorem qQO {l:List (List PV)} (w:∀r∈l,okR [.i .u8] r) (h:¬(l.length:Int)>1048576):qHi l:=by
 refine ⟨by omega,fun e he=>?_⟩
 obtain ⟨x,r,rfl,h1,h2⟩:=zFM (w e he)
 obtain ⟨n,rfl,h3⟩:=zJZ h1
 obtain rfl:=zGM h2
 exact ⟨n,rfl,wf8 h3⟩
theorem qOC (l:List (List PV)):Ev (qGq · l) (decide ((l.length:Int)>1048576)):=by
 refine ⟨1,fun n hn=>?_⟩
 obtain ⟨m,rfl,hm⟩:=up1 hn
 simp only [qGq,qI7,qC,qD,qF,qG,qH,qJ,Option.bind_some,qE,qK,qM]
theorem qQP (l:List (List PV)):∀n,1≤n→qEX n l=some (l,0):=fun n hn=>by
 obtain ⟨m,rfl,_⟩:=up1 hn
 simp [qEX,qF3,qC,qD,qF,qG,qH,qJ,Option.bind_some,qE,qK,qM]
theorem qNk {l:List (List PV)} {p:Int} (hl:qHi l) (hp:0≤p∧p≤l.length):∃(a p':Int),(0≤p'∧p'≤l.length)∧(0≤a∧a≤255)∧∀n,1≤n→qBC n l p=some (a,l,p'):=by
 have h1:=hl.1
 by_cases h:p≥l.length
 ·refine ⟨0,p,hp,by decide,fun n hn=>?_⟩
  obtain ⟨m,rfl,_⟩:=up1 hn
  simp [qBC,qDI,qC,qD,qF,qG,qH,qJ,Option.bind_some,qE,qK,qM,h]
 ·have hlt:p.toNat<l.length:=by omega
  obtain ⟨b,hb,b0,b1⟩:=hl.2 _ (List.getElem_mem hlt)
  have hg:l[p.toNat]?=some [.i .u8 b]:=by rw [List.getElem?_eq_getElem hlt,hb]
  refine ⟨b,p+1,by omega,⟨b0,b1⟩,fun n hn=>?_⟩
  obtain ⟨m,rfl,_⟩:=up1 hn
  have w1:IntKind.i64.wrap (p+1)=p+1:=qZ (by omega)
  have w2:IntKind.i64.wrap p=p:=qZ (by omega)
  have w3:IntKind.i64.wrap b=b:=qZ (by omega)
  have hp2:p<l.length:=by omega
  simp [qBC,qDI,qC,qD,qF,qG,qH,qJ,Option.bind_some,qE,qK,qM,h,w1,w2,w3,hp.1,hp2,hg,hb,zF]
theorem qBN {l:List (List PV)} {p:Int} (k:Int) (hk:1<k∧k≤1000000) (hl:qHi l) (hp:0≤p∧p≤l.length):∃(a p':Int),(0≤p'∧p'≤l.length)∧(0≤a∧a<k)∧∀n,2≤n→qP n k l p=some (a,l,p'):=by
 obtain ⟨a,p',h1,h2,h3⟩:=qNk hl hp
 have k1:¬k≤1:=by omega
 have k3:¬k=0:=by omega
 by_cases k2:k≤256
 ·have e:Int.tmod a k=a%k:=Int.tmod_eq_emod_of_nonneg h2.1
  refine ⟨a%k,p',h1,⟨Int.emod_nonneg a (by omega),Int.emod_lt_of_pos a (by omega)⟩,fun n hn=>?_⟩
  obtain ⟨m,rfl,hm⟩:=up1 hn
  have h3:=h3 m (by omega)
  simp [qP,qCD,qC,qD,qF,qG,qH,qJ,Option.bind_some,qE,qK,qM,h3,k1,k2,k3,e]
 ·obtain ⟨b,p2,g1,g2,g3⟩:=qNk hl h1
  have w1:IntKind.i64.wrap (a*256)=a*256:=qZ (by omega)
  have w2:IntKind.i64.wrap (a*256+b)=a*256+b:=qZ (by omega)
  have e:Int.tmod (a*256+b) k=(a*256+b)%k:=Int.tmod_eq_emod_of_nonneg (by omega)
  refine ⟨(a*256+b)%k,p2,g1,⟨Int.emod_nonneg _ (by omega),Int.emod_lt_of_pos _ (by omega)⟩,fun n hn=>?_⟩
  obtain ⟨m,rfl,hm⟩:=up1 hn
  have h3:=h3 m (by omega)
  have g3:=g3 m (by omega)
  simp [qP,qCD,qC,qD,qF,qG,qH,qJ,Option.bind_some,qE,qK,qM,h3,g3,k1,k2,k3,e,w1,w2]
theorem qJ0 {l:List (List PV)} {p:Int} (k:Int) (hk:1<k∧k≤1000000) (hl:qHi l) (hp:0≤p∧p≤l.length):∃(b:Bool) (p':Int),(0≤p'∧p'≤l.length)∧∀n,3≤n→qc n k l p=some (b,l,p'):=by
 obtain ⟨a,p',h1,h2,h3⟩:=qBN k hk hl hp
 refine ⟨a==IntKind.i64.wrap (k-1),p',h1,fun n hn=>?_⟩
 obtain ⟨m,rfl,hm⟩:=up1 hn
 have h3:=h3 m (by omega)
 simp [qc,qEN,qC,qD,qF,qG,qH,qJ,Option.bind_some,qE,qK,qM,h3]
theorem qM3 {l:List (List PV)} (hl:qHi l):∀(m:Nat) (i:Nat) (v p:Int),i+m=8→(0≤p∧p≤l.length)→∃(r p':Int),(0≤p'∧p'≤l.length)∧∀n M,1≤n→m+1≤M→zD (qBp n) M (v,(i:Int),l,p)=some (r,l,p')
 |0,i,v,p,h,hp=>by
  refine ⟨v,p,hp,fun n M hn hM=>?_⟩
  obtain ⟨M,rfl⟩:∃q,M=q+1:=⟨M-1,by omega⟩
  have hi:¬(i:Int)<8:=by omega
  rw [qO (r:=(v,l,p)) (by simp [qBp,qC,qD,qF,qG,qH,qJ,Option.bind_some,qE,qK,qM,hi])]
 |m+1,i,v,p,h,hp=>by
  obtain ⟨a,p1,h1,h2,h3⟩:=qNk hl hp
  obtain ⟨r,p2,h4,h5⟩:=qM3 hl m (i+1) (IntKind.u64.wrap ((BitVec.ofInt IntKind.u64.bits (IntKind.u64.wrap (v*(2:Int)^(8:Nat)))|||BitVec.ofInt IntKind.u64.bits (IntKind.u64.wrap a)).toNat:Int)) p1 (by omega) h1
  refine ⟨r,p2,h4,fun n M hn hM=>?_⟩
  obtain ⟨M,rfl⟩:∃q,M=q+1:=⟨M-1,by omega⟩
  have hi:(i:Int)<8:=by omega
  have w1:IntKind.i64.wrap ((i:Int)+1)=((i+1:Nat):Int):=by rw [qZ (by omega)];omega
  have h3:=h3 n hn
  rw [qa (v':=(IntKind.u64.wrap ((BitVec.ofInt IntKind.u64.bits (IntKind.u64.wrap (v*(2:Int)^(8:Nat)))|||BitVec.ofInt IntKind.u64.bits (IntKind.u64.wrap a)).toNat:Int),((i+1:Nat):Int),l,p1)) (by
   simp only [qBp,qC,qD,qF,qG,qH,qJ,Option.bind_some,qE,qK,qM,h3,w1]
   rw [if_pos (by simpa using hi)])]
  exact h5 n M hn (by omega)
theorem qQQ {l:List (List PV)} {p:Int} (hl:qHi l) (hp:0≤p∧p≤l.length):∃(r p':Int),(0≤p'∧p'≤l.length)∧∀n,10≤n→qDK n l p=some (r,l,p'):=by
 obtain ⟨r,p',h1,h2⟩:=qM3 hl 8 0 0 p rfl hp
 refine ⟨r,p',h1,fun n hn=>?_⟩
 obtain ⟨m,rfl,hm⟩:=up1 hn
 have h2:=h2 m m (by omega) (by omega)
 simp only [Int.natCast_zero] at h2
 simp only [qDK,qEO,qC,qD,qF,qG,qH,qJ,Option.bind_some,qE,qK,qM,h2]
theorem qQR {l:List (List PV)} {p:Int} (lo hi:Int) (hk: -1000≤lo∧lo≤hi∧hi≤1000) (hl:qHi l) (hp:0≤p∧p≤l.length):∃(x p':Int),(0≤p'∧p'≤l.length)∧(-9223372036854775808≤x∧x≤9223372036854775807)∧∀n,11≤n→qBz n lo hi l p=some (x,l,p'):=by
 obtain ⟨a,p1,h1,h2,h3⟩:=qBN 8 (by decide) hl hp
 by_cases a0:a=0
 ·refine ⟨lo,p1,h1,by omega,fun n hn=>?_⟩
  obtain ⟨m,rfl,hm⟩:=up1 hn
  have h3:=h3 m (by omega)
  simp [qBz,qCa,qC,qD,qF,qG,qH,qJ,Option.bind_some,qE,qK,qM,h3,a0]
 ·by_cases a1:a=1
  ·refine ⟨hi,p1,h1,by omega,fun n hn=>?_⟩
   obtain ⟨m,rfl,hm⟩:=up1 hn
   have h3:=h3 m (by omega)
   simp [qBz,qCa,qC,qD,qF,qG,qH,qJ,Option.bind_some,qE,qK,qM,h3,a1]
  ·obtain ⟨r,p2,h4,h5⟩:=qQQ hl h1
   refine ⟨_,p2,h4,qK2 (lo+IntKind.i64.wrap (Int.tmod (Int.fdiv r ((2:Int)^(1:Nat))) (IntKind.u64.wrap (IntKind.i64.wrap (IntKind.i64.wrap (hi-lo)+1))))),fun n hn=>?_⟩
   obtain ⟨m,rfl,hm⟩:=up1 hn
   have h3:=h3 m (by omega)
   have h5:=h5 m (by omega)
   have c1:¬hi<lo:=by omega
   have w1:IntKind.i64.wrap (hi-lo)=hi-lo:=qZ (by omega)
   have w2:IntKind.i64.wrap (hi-lo+1)=hi-lo+1:=qZ (by omega)
   have w3:IntKind.u64.wrap (hi-lo+1)=hi-lo+1:=qRO (by omega)
   have w4:¬hi-lo+1=0:=by omega
   simp only [qBz,qCa,qC,qD,qF,qG,qH,qJ,Option.bind_some,qE,qK,qM,h3,h5,w1,w2,w3]
   simp [a0,a1,c1,w4]
theorem qQ1 {l:List (List PV)} {p:Int} (lo hi:Int) (hk: -1000≤lo∧lo≤hi∧hi≤1000) (hl:qHi l) (hp:0≤p∧p≤l.length):∃(x p':Int),(0≤p'∧p'≤l.length)∧(-9223372036854775808≤x∧x≤9223372036854775807)∧∀n,12≤n→qBP n lo hi l p=some (x,l,p'):=by
 obtain ⟨b,p1,h1,h2⟩:=qJ0 24 (by decide) hl hp
 cases b with
 |true=>
  obtain ⟨a,p2,h3,h4,h5⟩:=qBN 4 (by decide) hl h1
  have c:a=0∨a=1∨a=2∨a=3:=by omega
  rcases c with rfl|rfl|rfl|rfl
  ·refine ⟨IntKind.i64.wrap (lo-1),p2,h3,qK2 _,fun n hn=>?_⟩
   obtain ⟨m,rfl,hm⟩:=up1 hn
   have h2:=h2 m (by omega)
   have h5:=h5 m (by omega)
   simp [qBP,qBm,qC,qD,qF,qG,qH,qJ,Option.bind_some,qE,qK,qM,h2,h5,zF]
  ·refine ⟨IntKind.i64.wrap (hi+1),p2,h3,qK2 _,fun n hn=>?_⟩
   obtain ⟨m,rfl,hm⟩:=up1 hn
   have h2:=h2 m (by omega)
   have h5:=h5 m (by omega)
   simp [qBP,qBm,qC,qD,qF,qG,qH,qJ,Option.bind_some,qE,qK,qM,h2,h5,zF]
  ·refine ⟨-9223372036854775808,p2,h3,by decide,fun n hn=>?_⟩
   obtain ⟨m,rfl,hm⟩:=up1 hn
   have h2:=h2 m (by omega)
   have h5:=h5 m (by omega)
   simp [qBP,qBm,qC,qD,qF,qG,qH,qJ,Option.bind_some,qE,qK,qM,h2,h5,zF]
  ·refine ⟨9223372036854775807,p2,h3,by decide,fun n hn=>?_⟩
   obtain ⟨m,rfl,hm⟩:=up1 hn
   have h2:=h2 m (by omega)
   have h5:=h5 m (by omega)
   simp [qBP,qBm,qC,qD,qF,qG,qH,qJ,Option.bind_some,qE,qK,qM,h2,h5,zF]
 |false=>
  obtain ⟨x,p2,h3,h4,h5⟩:=qQR lo hi hk hl h1
  refine ⟨x,p2,h3,h4,fun n hn=>?_⟩
  obtain ⟨m,rfl,hm⟩:=up1 hn
  have h2:=h2 m (by omega)
  have h5:=h5 m (by omega)
  simp [qBP,qBm,qC,qD,qF,qG,qH,qJ,Option.bind_some,qE,qK,qM,h2,h5]
theorem qM4 {a b c d:Int} (h:qEA a b c d=true):(1≤a∧a≤52)∧(1≤b∧b≤99)∧(1≤c∧c≤52)∧(1≤d∧d≤99)∧a≤c∧b≤d:=by
 simp only [qEA,qAd,Bool.and_eq_true,decide_eq_true_eq] at h
 obtain ⟨⟨⟨⟨h1,h2⟩,h3,h4⟩,h5⟩,h6⟩:=h
 exact ⟨h1,h2,h3,h4,h5,h6⟩
theorem qOo {l:List (List PV)} {p:Int} (hl:qHi l) (hp:0≤p∧p≤l.length):∃(a b p':Int),(0≤p'∧p'≤l.length)∧∀n,3≤n→qAM n l p=some (a,b,l,p'):=by
 obtain ⟨a,p1,h1,h2,h3⟩:=qBN 3 (by decide) hl hp
 obtain ⟨b,p2,h4,h5,h6⟩:=qBN 4 (by decide) hl h1
 refine ⟨IntKind.i64.wrap (1+a),IntKind.i64.wrap (1+b),p2,h4,fun n hn=>?_⟩
 obtain ⟨m,rfl,hm⟩:=up1 hn
 have h3:=h3 m (by omega)
 have h6:=h6 m (by omega)
 simp [qAM,qEs,qC,qD,qF,qG,qH,qJ,Option.bind_some,qE,qK,qM,h3,h6]
theorem qQS {l:List (List PV)} {p:Int} (hl:qHi l) (hp:0≤p∧p≤l.length):∃(a b c d p':Int),(0≤p'∧p'≤l.length)∧∀n,13≤n→qB0 n l p=some (a,b,c,d,l,p'):=by
 obtain ⟨a,b,p1,h1,h2⟩:=qOo hl hp
 obtain ⟨c,d,p2,h3,h4⟩:=qOo hl h1
 obtain ⟨o,p3,h5,h6⟩:=qJ0 20 (by decide) hl h3
 cases o with
 |true=>
  obtain ⟨x,p4,h7,_,h8⟩:=qQ1 1 99 (by decide) hl h5
  refine ⟨(if c<a then c else a),(if d<b then d else b),(if c>a then c else a),x,p4,h7,fun n hn=>?_⟩
  obtain ⟨m,rfl,hm⟩:=up1 hn
  have h2:=h2 m (by omega)
  have h4:=h4 m (by omega)
  have h6:=h6 m (by omega)
  have h8:=h8 m (by omega)
  simp [qB0,qDL,qC,qD,qF,qG,qH,qJ,Option.bind_some,qE,qK,qM,h2,h4,h6,h8]
 |false=>
  refine ⟨(if c<a then c else a),(if d<b then d else b),(if c>a then c else a),(if d>b then d else b),p3,h5,fun n hn=>?_⟩
  obtain ⟨m,rfl,hm⟩:=up1 hn
  have h2:=h2 m (by omega)
  have h4:=h4 m (by omega)
  have h6:=h6 m (by omega)
  simp [qB0,qDL,qC,qD,qF,qG,qH,qJ,Option.bind_some,qE,qK,qM,h2,h4,h6]
def qEJ (x:Int):ByteArray:=⟨(Lib.itoa x).toArray⟩
theorem qET (a b:ByteArray):(a++b).data.toList=a.data.toList++b.data.toList:=by
 rw [ByteArray.data_append,Array.toList_append]
theorem qJ1 {a b:ByteArray} (h:a.data.toList=b.data.toList):a=b:=by
 cases a;cases b
 congr 1
 exact Array.toList_inj.1 h
theorem qDE {a b:ByteArray} (h:a.toList=b.toList):a=b:=qJ1 (by rw [←Go.Lib.toList_data,←Go.Lib.toList_data];exact h)
theorem qC1 (a:ByteArray):a.size=a.data.toList.length:=by rw [Array.length_toList];rfl
theorem u8w {q:Nat} (h:q<10):IntKind.u8.wrap (IntKind.i64.wrap (48+(q:Int)))=((48+q:Nat):Int):=by
 rw [qZ (by omega)]
 unfold IntKind.wrap
 have e2:(2:Int)^8=256:=by decide
 simp only [IntKind.signed,IntKind.bits,Bool.false_and,Bool.false_eq_true,if_false,e2]
 omega
theorem qQx:∀(k v:Nat),1≤v→v<10^k→Lib.nDigits v≤k:=by
 intro k
 induction k with
 |zero=>intro v hv hv';simp at hv';omega
 |succ k ih=>
  intro v hv hv'
  by_cases h10:v<10
  ·rw [Lib.nDigits_small h10];omega
  ·rw [Lib.nDigits_big h10]
   have:=ih (v/10) (by omega) (by rw [Nat.pow_succ] at hv';omega)
   omega
theorem qIQ (u:Nat) (h:u≤1000000000000000000):(Lib.decDigits u).length≤19:=by
 have p:(10:Nat)^19=10000000000000000000:=by decide
 rw [Lib.decDigits_length]
 rcases Nat.lt_or_ge u 1 with h6|h6
 ·have:u=0:=by omega
  subst this
  rw [Lib.nDigits_small (by decide)]
  decide
 ·exact qQx 19 u h6 (by omega)
def qX (x:Int):ByteArray:=if x=1 then ⟨#[35,68,73,86,33]⟩ else if x=2 then ⟨#[35,84,89,80,69,33]⟩ else if x=3 then ⟨#[35,82,69,70,33]⟩ else if x=4 then ⟨#[35,79,86,69,82,33]⟩ else if x=5 then ⟨#[35,67,89,67,76,69,33]⟩ else ⟨#[]⟩
theorem lt6 {x:Int} (h:0≤x∧x≤5):x=0∨x=1∨x=2∨x=3∨x=4∨x=5:=by omega
def qPo (x:Int):ByteArray:=if x=1 then ⟨#[84,82,85,69]⟩ else ⟨#[70,65,76,83,69]⟩
theorem qPp {x:Int} {s:ByteArray} (h:okV 1 x s=true): -1000000000000000≤x∧x≤1000000000000000:=by
 simp [okV] at h;exact h.2
theorem qMN {x:Int} {s:ByteArray} (h:okV 2 x s=true):x=0∧(s.size:Int)≤200∧s.toList.all okc=true:=by
 simp only [okV,qD9,if_true,Bool.and_eq_true,decide_eq_true_eq] at h
 exact ⟨h.1,h.2.2,h.2.1⟩
theorem qM5 {x:Int} {s:ByteArray} (h:okV 3 x s=true):0≤x∧x≤1:=by
 simp [okV] at h;exact h.2
theorem qOD {x:Int} {s:ByteArray} (h:okV 4 x s=true):1≤x∧x≤5:=by
 simp [okV] at h;exact h.2
def qAH (k x:Int) (s:ByteArray):ByteArray:=if k=1 then qEJ x else if k=2 then ⟨#[39]⟩++s else if k=3 then qPo x else if k=4 then qX x else ⟨#[]⟩
theorem qM6 {x:Int} (h: -1000000000000000000≤x∧x≤1000000000000000000):(qEJ x).size≤20:=by
 rw [qC1]
 show (Lib.itoa x).length≤20
 unfold Lib.itoa
 split
 ·have:=qIQ x.natAbs (by omega);simp;omega
 ·have:=qIQ x.toNat (by omega);omega
theorem qOp {k x:Int} {s:ByteArray} (h:okV k x s=true):(qAH k x s).size≤300:=by
 unfold qAH
 split
 ·rename_i k1;subst k1;have:=qPp h;have:=qM6 (x:=x) (by omega);omega
 ·split
  ·rename_i k2;subst k2
   have:=qMN h
   rw [ByteArray.size_append]
   show 1+s.size≤300
   omega
  ·split
   ·unfold qPo;split<;>decide
   ·split
    ·unfold qX
     repeat' split
     all_goals decide
    ·decide
def qBR (x:Int):ByteArray:=if x<1∨x>52 then ⟨#[]⟩ else if x≤26 then ⟨#[UInt8.ofNat (64+x.toNat)]⟩ else ⟨#[65,UInt8.ofNat (65+(x.toNat-1)%26)]⟩
theorem qK3 (x:Int):(qBR x).size≤2:=by
 unfold qBR
 split
 ·decide
 ·split
  ·exact (show (1:Nat)≤2 by decide)
  ·exact (show (2:Nat)≤2 by decide)
theorem qNl {q:Int} (h:0≤q∧q<256):IntKind.u8.wrap q=q:=by
 unfold IntKind.wrap
 have e2:(2:Int)^8=256:=by decide
 simp only [IntKind.signed,IntKind.bits,Bool.false_and,Bool.false_eq_true,if_false,e2]
 omega
def qAU (c r:Int) (fc fr:Bool):ByteArray:=if qAd c r=true then ⟨((if fc=true then [36] else [])++(qBR c).data.toList++(if fr=true then [36] else [])++(qEJ r).data.toList).toArray⟩ else ⟨#[]⟩
theorem qJU {x:Int} (h:1≤x∧x≤99):(qEJ x).size≤20:=by
 rw [qC1]
 show (Lib.itoa x).length≤20
 unfold Lib.itoa
 rw [if_neg (by omega)]
 have:=qIQ x.toNat (by omega)
 omega
theorem qEB {c r:Int} (h:qAd c r=true):(1≤c∧c≤52)∧(1≤r∧r≤99):=by
 simpa [qAd] using h
def qBx (c:UInt8):Bool:=decide (48≤c.toNat)&&decide (c.toNat≤57)
def qCn (acc:Nat) (l:List UInt8):Nat:=l.foldl (fun a c=>a*10+(c.toNat-48)) acc
theorem qGj (acc:Nat):qCn acc []=acc:=rfl
theorem qGk (acc:Nat) (c:UInt8) (r:List UInt8):qCn acc (c::r)=qCn (acc*10+(c.toNat-48)) r:=by simp only [qCn,List.foldl_cons]
theorem qOE (l:List UInt8) (acc:Nat) (c:UInt8):qCn acc (l++ [c])=qCn acc l*10+(c.toNat-48):=by
 simp only [qCn,List.foldl_append,List.foldl_cons,List.foldl_nil]
theorem qO6:∀(l:List UInt8) (acc:Nat),acc≤qCn acc l
 | [],acc=>by rw [qGj];exact Nat.le_refl _
 |c::r,acc=>by
  have h:=qO6 r (acc*10+(c.toNat-48))
  have h2:acc≤acc*10+(c.toNat-48):=by omega
  rw [qGk]
  exact Nat.le_trans h2 h
theorem qNm {d:Nat} (h:d<10):(UInt8.ofNat (48+d)).toNat=48+d:=by
 rw [UInt8.toNat_ofNat'];omega
theorem qOF {d:Nat} (h:d<10):qBx (UInt8.ofNat (48+d))=true:=by
 unfold qBx
 rw [qNm h]
 simp
 omega
theorem qDp:∀u:Nat,(Lib.decDigits u).all qBx=true∧qCn 0 (Lib.decDigits u)=u∧Lib.decDigits u≠ []∧(10≤u→(Lib.decDigits u).head?≠some 48)∧(1≤u→(Lib.decDigits u).head?≠some 48):=by
 intro u
 induction u using Nat.strongRecOn with
 |_ u ih=>
  by_cases h:u<10
  ·rw [Lib.decDigits,dif_pos h]
   have h1:∀k,1≤k→k<10→UInt8.ofNat (48+k)≠48:=fun k hk hk' e=>by
    have:=congrArg UInt8.toNat e
    rw [qNm hk'] at this
    have h2:(48:UInt8).toNat=48:=rfl
    omega
   refine ⟨by simp only [List.all_cons,List.all_nil,qOF h,Bool.and_true],by rw [qGk,qGj,qNm h];omega,by simp,fun _=>by omega,fun hu=>?_⟩
   simp only [List.head?_cons,ne_eq,Option.some.injEq]
   exact h1 u hu h
  ·obtain ⟨i1,i2,i3,i4,i5⟩:=ih (u/10) (by omega)
   rw [Lib.decDigits,dif_neg h]
   have hd:u%10<10:=by omega
   have hh:(Lib.decDigits (u/10)++ [UInt8.ofNat (48+u%10)]).head?=(Lib.decDigits (u/10)).head?:=by
    cases hq:Lib.decDigits (u/10) with
    |nil=>exact absurd hq i3
    |cons a b=>rfl
   refine ⟨by simp only [List.all_append,i1,List.all_cons,List.all_nil,qOF hd,Bool.and_true],by rw [qOE,i2,qNm hd];omega,by simp,fun _=>?_,fun _=>?_⟩
   ·rw [hh];exact i5 (by omega)
   ·rw [hh];exact i5 (by omega)
def qFx (l:List UInt8):Bool:=!(l== [])&&l.all qBx&&(!(l.head?==some 48)||l.length==1)
theorem qM7 (u:Nat):qFx (Lib.decDigits u)=true:=by
 obtain ⟨h1,h2,h3,h4,h5⟩:=qDp u
 simp only [qFx,h1,Bool.and_true,Bool.and_eq_true,Bool.not_eq_true',beq_eq_false_iff_ne,Bool.or_eq_true]
 refine ⟨h3,?_⟩
 by_cases hu:u<10
 ·right;rw [Lib.decDigits,dif_pos hu];rfl
 ·left;exact h4 (by omega)
theorem qK4:∀(n:Nat) (l:List UInt8),l.length=n→qFx l=true→Lib.decDigits (qCn 0 l)=l
 |0,l,hn,h=>by
  have:=List.eq_nil_of_length_eq_zero hn
  subst this
  simp [qFx] at h
 |n+1,l,hn,h=>by
  simp only [qFx,Bool.and_eq_true,Bool.not_eq_true',beq_eq_false_iff_ne,Bool.or_eq_true,beq_iff_eq] at h
  obtain ⟨⟨h1,h2⟩,h3⟩:=h
  obtain ⟨ini,c,rfl⟩:∃ini c,l=ini++ [c]:=⟨l.dropLast,l.getLast h1,(List.dropLast_concat_getLast h1).symm⟩
  simp only [List.all_append,Bool.and_eq_true,List.all_cons,List.all_nil,Bool.and_true] at h2
  obtain ⟨h2,hc⟩:=h2
  simp only [qBx,Bool.and_eq_true,decide_eq_true_eq] at hc
  have ec:UInt8.ofNat (48+(c.toNat-48))=c:=by
   have:48+(c.toNat-48)=c.toNat:=by omega
   rw [this];simp
  rw [qOE]
  cases ini with
  |nil=>
   rw [qGj,Nat.zero_mul,Nat.zero_add,List.nil_append,Lib.decDigits,dif_pos (by omega),ec]
  |cons a b=>
   have hl:(a::b).length=n:=by simp at hn⊢;omega
   have h48:¬a=48:=by
    rcases h3 with h3|h3
    ·simpa using h3
    ·simp at h3
   have hcn:qFx (a::b)=true:=by
    simp only [qFx,h2,Bool.and_true,Bool.and_eq_true,Bool.not_eq_true',beq_eq_false_iff_ne,Bool.or_eq_true]
    exact ⟨by simp,.inl (by simpa using h48)⟩
   have ih:=qK4 n (a::b) hl hcn
   have hp:1≤qCn 0 (a::b):=by
    rcases Nat.eq_zero_or_pos (qCn 0 (a::b)) with h0|h0
    ·rw [h0,Lib.decDigits,dif_pos (by decide)] at ih
     have:a=48:=by
      have:=congrArg List.head? ih
      simpa using this.symm
     exact absurd this h48
    ·exact h0
   rw [Lib.decDigits,dif_neg (by omega)]
   have e1:(qCn 0 (a::b)*10+(c.toNat-48))/10=qCn 0 (a::b):=by omega
   have e2:(qCn 0 (a::b)*10+(c.toNat-48))%10=c.toNat-48:=by omega
   rw [e1,e2,ih,ec]
def l1I (l:List UInt8) (most:Int):Int×Bool:=if (l.length:Int)≤most∧qFx l=true then ((qCn 0 l:Int),true) else (0,false)
theorem qO7:∀(l:List UInt8) (acc k:Nat),l.all qBx=true→acc<10^k→qCn acc l<10^(k+l.length)
 | [],acc,k,_,h=>by rw [qGj];simpa using h
 |c::r,acc,k,hd,h=>by
  simp only [List.all_cons,Bool.and_eq_true] at hd
  have hc:=hd.1
  simp only [qBx,Bool.and_eq_true,decide_eq_true_eq] at hc
  have:=qO7 r (acc*10+(c.toNat-48)) (k+1) hd.2 (by rw [Nat.pow_succ];omega)
  rw [qGk,List.length_cons,show k+(r.length+1)=k+1+r.length by omega]
  exact this
theorem qM8:∀(l:List UInt8) (acc:Nat),l.all qBx=true→qCn acc l≤1000000000000000000→Lib.parseUintM (2^64-1) acc l= .ok (qCn acc l)
 | [],acc,_,_=>by simp only [Lib.parseUintM,qGj]
 |c::r,acc,hd,h=>by
  simp only [List.all_cons,Bool.and_eq_true] at hd
  have hc:=hd.1
  simp only [qBx,Bool.and_eq_true,decide_eq_true_eq] at hc
  rw [qGk] at h⊢
  have g1:=qO6 r (acc*10+(c.toNat-48))
  have p:(2:Nat)^64-1=18446744073709551615:=by decide
  simp only [Lib.parseUintM]
  rw [if_pos hc,if_neg (by omega),if_neg (by rw [p];omega)]
  exact qM8 r _ hd.2 h
theorem qM9 {u:Nat} (h:u≤1000000000000000000):Lib.parseUintB 64 (Lib.decDigits u)= .ok u:=by
 obtain ⟨h1,h2,h3,_,_⟩:=qDp u
 unfold Lib.parseUintB
 rw [if_neg h3,qM8 _ 0 h1 (by rw [h2];exact h),h2]
theorem qJ2 (u:Nat):∃c r,Lib.decDigits u=c::r∧qBx c=true:=by
 obtain ⟨h1,_,h3,_,_⟩:=qDp u
 cases hq:Lib.decDigits u with
 |nil=>exact absurd hq h3
 |cons c r=>
  rw [hq] at h1
  simp only [List.all_cons,Bool.and_eq_true] at h1
  exact ⟨c,r,rfl,h1.1⟩
theorem qOq {x:Int} (h: -1000000000000000≤x∧x≤1000000000000000):Lib.parseIntB 64 (Lib.itoa x)= .ok x:=by
 have p:(2:Nat)^(64-1)=9223372036854775808:=by decide
 by_cases hx:x<0
 ·have e:Lib.itoa x=45::Lib.decDigits x.natAbs:=by unfold Lib.itoa;rw [if_pos hx]
  have c45:(45:UInt8).toNat=45:=rfl
  rw [e]
  simp only [Lib.parseIntB,c45,or_true,if_true,qM9 (u:=x.natAbs) (by omega),p]
  rw [if_neg (by simp),if_neg (by omega)]
  congr 1
  omega
 ·have e:Lib.itoa x=Lib.decDigits x.toNat:=by unfold Lib.itoa;rw [if_neg hx]
  obtain ⟨c,r,hcr,hd⟩:=qJ2 x.toNat
  simp only [qBx,Bool.and_eq_true,decide_eq_true_eq] at hd
  rw [e,hcr]
  simp only [Lib.parseIntB]
  rw [if_neg (by omega),←hcr,qM9 (u:=x.toNat) (by omega)]
  simp only [p]
  rw [if_neg (by omega),if_neg (by omega),if_neg (by omega)]
  congr 1
  omega
def qNn (l:List UInt8):Option Int:=if l.head?=some 45 then (if (l1I (l.drop 1) 16).2=true∧(l1I (l.drop 1) 16).1≠0 then some (-(l1I (l.drop 1) 16).1) else none) else (if (l1I l 16).2=true then some (l1I l 16).1 else none)
theorem qMO {l:List UInt8} (h:(l1I l 16).2=true):l.length≤16∧qFx l=true∧(l1I l 16).1=(qCn 0 l:Int)∧Lib.decDigits (qCn 0 l)=l:=by
 unfold l1I at h⊢
 split at h
 ·rename_i hc
  rw [if_pos hc]
  exact ⟨by omega,hc.2,rfl,qK4 _ l rfl hc.2⟩
 ·cases h
theorem qO8 {u:Nat} (h:u≤1000000000000000):l1I (Lib.decDigits u) 16=((u:Int),true):=by
 obtain ⟨h1,h2,h3,_,_⟩:=qDp u
 have hl:(Lib.decDigits u).length≤16:=by
  rw [Lib.decDigits_length]
  have:Lib.nDigits 1000000000000000=16:=Lib.nDigits_unique 15 _ (by decide) (by decide)
  rcases Nat.lt_or_ge 16 (Lib.nDigits u) with h4|h4
  ·have h5:u<10^16:=by
    have:(10:Nat)^16=10000000000000000:=by decide
    omega
   exfalso
   rcases Nat.lt_or_ge u 1 with h6|h6
   ·have:u=0:=by omega
    subst this
    rw [Lib.nDigits_small (by decide)] at h4
    omega
   ·have key:∀(k v:Nat),1≤v→v<10^k→Lib.nDigits v≤k:=by
     intro k
     induction k with
     |zero=>intro v hv hv';simp at hv';omega
     |succ k ih=>
      intro v hv hv'
      by_cases h10:v<10
      ·rw [Lib.nDigits_small h10];omega
      ·rw [Lib.nDigits_big h10]
       have:=ih (v/10) (by omega) (by rw [Nat.pow_succ] at hv';omega)
       omega
    have:=key 16 u h6 h5
    omega
  ·exact h4
 unfold l1I
 rw [if_pos ⟨by omega,qM7 u⟩,h2]
theorem qPX {l:List UInt8} {x:Int} (h:qNn l=some x):l=Lib.itoa x:=by
 unfold qNn at h
 split at h
 ·rename_i h45
  split at h
  ·rename_i hc
   cases h
   obtain ⟨a1,a2,a3,a4⟩:=qMO hc.1
   have hne:=hc.2
   rw [a3] at hne⊢
   unfold Lib.itoa
   rw [if_pos (by omega)]
   have:(-(qCn 0 (l.drop 1):Int)).natAbs=qCn 0 (l.drop 1):=by omega
   rw [this,a4]
   cases l with
   |nil=>cases h45
   |cons c r=>simp at h45;simp [h45]
  ·cases h
 ·split at h
  ·rename_i hc
   cases h
   obtain ⟨a1,a2,a3,a4⟩:=qMO hc
   rw [a3]
   unfold Lib.itoa
   rw [if_neg (by omega),Int.toNat_natCast,a4]
  ·cases h
theorem qPY {x:Int} (h: -1000000000000000≤x∧x≤1000000000000000):qNn (Lib.itoa x)=some x:=by
 unfold qNn
 by_cases hx:x<0
 ·have e:Lib.itoa x=45::Lib.decDigits x.natAbs:=by unfold Lib.itoa;rw [if_pos hx]
  have e2:=qO8 (u:=x.natAbs) (by omega)
  rw [e,List.head?_cons,if_pos rfl,List.drop_succ_cons,List.drop_zero,e2,if_pos ⟨rfl,by show ((x.natAbs:Nat):Int)≠0;omega⟩]
  congr 1
  show-((x.natAbs:Nat):Int)=x
  omega
 ·have e:Lib.itoa x=Lib.decDigits x.toNat:=by unfold Lib.itoa;rw [if_neg hx]
  have e2:=qO8 (u:=x.toNat) (by omega)
  obtain ⟨c,r,hcr,hd⟩:=qJ2 x.toNat
  have h45:¬(Lib.decDigits x.toNat).head?=some 45:=by
   rw [hcr]
   simp only [List.head?_cons,Option.some.injEq]
   intro hc
   subst hc
   simp [qBx] at hd
  rw [e,if_neg h45,e2,if_pos rfl]
  congr 1
  show ((x.toNat:Nat):Int)=x
  omega
def qBZ (s:ByteArray):Int:=match zQ s 10 64 with
 |some (.inl v)=>v
 |some (.inr v)=>v
 |none=>0
theorem qIB {s:ByteArray} {x:Int} (hs:s.toList=Lib.itoa x) (h: -1000000000000000≤x∧x≤1000000000000000):qBZ s=x:=by
 have hd:s.data.toList=Lib.itoa x:=by rw [←Go.Lib.toList_data];exact hs
 have hsz:s.size≤281474976710656:=by
  rw [←qAg,hs]
  unfold Lib.itoa
  split
  ·have:=qIQ x.natAbs (by omega);simp;omega
  ·have:=qIQ x.toNat (by omega);omega
 unfold qBZ zQ
 rw [if_pos ⟨rfl,rfl,hsz⟩,hd,qOq h]
def qDd (s:ByteArray):Int:=if (qX 5).toList=s.toList then 5 else if (qX 4).toList=s.toList then 4 else if (qX 3).toList=s.toList then 3 else if (qX 2).toList=s.toList then 2 else if (qX 1).toList=s.toList then 1 else 0
theorem qQT (s:ByteArray):0≤qDd s∧qDd s≤5:=by
 unfold qDd
 repeat' split
 all_goals decide
theorem qQU {s:ByteArray} (h:¬qDd s=0):qX (qDd s)=s:=by
 unfold qDd at h⊢
 by_cases h5:(qX 5).toList=s.toList
 ·rw [if_pos h5];exact qDE h5
 rw [if_neg h5] at h⊢
 by_cases h4:(qX 4).toList=s.toList
 ·rw [if_pos h4];exact qDE h4
 rw [if_neg h4] at h⊢
 by_cases h3:(qX 3).toList=s.toList
 ·rw [if_pos h3];exact qDE h3
 rw [if_neg h3] at h⊢
 by_cases h2:(qX 2).toList=s.toList
 ·rw [if_pos h2];exact qDE h2
 rw [if_neg h2] at h⊢
 by_cases h1:(qX 1).toList=s.toList
 ·rw [if_pos h1];exact qDE h1
 rw [if_neg h1] at h
 exact absurd rfl h
theorem qRo {i:Int} (h:1≤i∧i≤5):i=1∨i=2∨i=3∨i=4∨i=5:=by omega
def qAe (s:ByteArray):V3:=
 if s.toList.head?=some 39 then (2,0,⟨s.toList.tail.toArray⟩) else
 if s.toList= [70,65,76,83,69] then (3,0,em) else if s.toList= [84,82,85,69] then (3,1,em) else
 if s.toList.head?=some 35 then (if qDd s=0 then (0,0,em) else (4,qDd s,em)) else
 if s.toList= [] then (0,0,em) else (1,qBZ s,em)
def qf (s:ByteArray):Int×Int×ByteArray×Bool:=if okV (qAe s).1 (qAe s).2.1 (qAe s).2.2=true∧(qAH (qAe s).1 (qAe s).2.1 (qAe s).2.2).toList=s.toList then ((qAe s).1,(qAe s).2.1,(qAe s).2.2,true) else (0,0,⟨#[]⟩,false)
theorem qQV (c:UInt8) (k:Nat) (hk:k<256):((c.toNat:Int)==(k:Int))=(some c==some (UInt8.ofNat k)):=by
 by_cases e:c=UInt8.ofNat k
 ·subst e
  have:(UInt8.ofNat k).toNat=k:=by rw [UInt8.toNat_ofNat'];omega
  simp [this]
 ·have h1:¬(c.toNat:Int)=(k:Int):=fun h=>e (by
   have:c.toNat=k:=by omega
   rw [←this];simp)
  have h2:¬some c=some (UInt8.ofNat k):=fun h=>e (by simpa using h)
  rw [beq_eq_false_iff_ne.2 h1,beq_eq_false_iff_ne.2 h2]
theorem qAZ (l:List UInt8):(⟨l.toArray⟩:ByteArray).toList=l:=by rw [Go.Lib.toList_data]
theorem qMP (n:Nat):∀(f u:Nat) (s:ByteArray),u<10^(f+1)→u≤9223372036854775807→s.size+f≤1000→∃(q:Nat) (t:ByteArray),q<10∧t.size≤s.size+f∧UInt8.ofNat (48+q)::t.data.toList=Lib.decDigits u++s.data.toList∧∀M,f+1≤M→zD (qCw n) M ((u:Int),s)=some ((q:Int),t)
 |f,u,s,h1,h2,h3=>by
  by_cases h:u<10
  ·refine ⟨u,s,h,by omega,by rw [Lib.decDigits,dif_pos h];rfl,fun M hM=>?_⟩
   obtain ⟨M,rfl⟩:∃k,M=k+1:=⟨M-1,by omega⟩
   have hc:¬(u:Int)≥10:=by omega
   rw [qO (r:=((u:Int),s)) (by simp [qCw,qC,qD,qF,qG,qH,qJ,Option.bind_some,qE,qK,qM,hc])]
  ·cases f with
   |zero=>simp at h1;omega
   |succ f=>
    have e1:Int.tmod (u:Int) 10=((u%10:Nat):Int):=by rw [Int.tmod_eq_emod_of_nonneg (by omega)];omega
    have e2:IntKind.i64.wrap (Int.tdiv (u:Int) 10)=((u/10:Nat):Int):=by
     rw [Int.tdiv_eq_ediv_of_nonneg (by omega),qZ (by omega)];omega
    have e3:=u8w (q:=u%10) (by omega)
    have h4:u/10<10^(f+1):=by
     have:10^(f+1+1)=10^(f+1)*10:=Nat.pow_succ 10 (f+1)
     omega
    let d:ByteArray:=⟨#[UInt8.ofNat (48+u%10)]⟩
    have hd:d.size=1:=rfl
    have hs:(d++s).size=s.size+1:=by rw [ByteArray.size_append];omega
    obtain ⟨q,t,g1,g2,g3,g4⟩:=qMP n f (u/10) (d++s) h4 (by omega) (by omega)
    refine ⟨q,t,g1,by omega,?_,fun M hM=>?_⟩
    ·rw [g3,qET,Lib.decDigits.eq_1 u,dif_neg h]
     simp [d]
    ·obtain ⟨M,rfl⟩:∃k,M=k+1:=⟨M-1,by omega⟩
     have hc:(u:Int)≥10:=by omega
     have hz:d.size+s.size≤9223372036854775807:=by omega
     rw [qa (v':=(((u/10:Nat):Int),d++s)) (by
      simp only [qCw,qC,qD,qF,qG,qH,qJ,Option.bind_some,qE,qK,qM,e1,e2,e3,bytesOf,Option.map_some,Int.toNat_natCast]
      rw [if_pos (by simpa using hc),if_pos (by simp),if_pos (decide_eq_true hz)])]
     exact g4 M (by omega)
theorem qJ3 (u:Nat) (h:u≤1000000000000000000):∀n,25≤n→qAK n (u:Int)=some (qEJ u):=by
 intro n hn
 obtain ⟨m,rfl,hm⟩:=up1 hn
 have p:(10:Nat)^(18+1)=10000000000000000000:=by decide
 obtain ⟨q,t,g1,g2,g3,g4⟩:=qMP m 18 u ⟨#[]⟩ (by omega) (by omega) (by show 0+18≤1000;decide)
 have g4:=g4 m (by omega)
 have e3:=u8w g1
 have hc:¬(u:Int)<0:=by omega
 have hz:(⟨#[UInt8.ofNat (48+q)]⟩:ByteArray).size+t.size≤9223372036854775807:=by
  have g2:t.size≤0+18:=g2
  show 1+t.size≤_
  omega
 simp only [qAK,qE8,qC,qD,qF,qG,qH,qJ,Option.bind_some,qE,qK,qM,g4,e3,bytesOf,Option.map_some,Int.toNat_natCast]
 rw [if_neg (by simp),if_pos (by simp),if_pos (decide_eq_true hz)]
 congr 1
 apply qJ1
 rw [qET]
 have e:Lib.itoa (u:Int)=Lib.decDigits u:=by unfold Lib.itoa;rw [if_neg hc];simp
 show UInt8.ofNat (48+q)::t.data.toList=Lib.itoa (u:Int)
 rw [g3,e]
 simp
theorem qI2 (x:Int) (h: -1000000000000000000≤x∧x≤1000000000000000000):Ev (qAK · x) (qEJ x):=by
 by_cases hx:x<0
 ·refine ⟨30,fun n hn=>?_⟩
  obtain ⟨m,rfl,hm⟩:=up1 hn
  have e1:IntKind.i64.wrap (0-x)=((x.natAbs:Nat):Int):=by rw [qZ (by omega)];omega
  have g:=qJ3 x.natAbs (by omega) m (by omega)
  have hl:=qIQ x.natAbs (by omega)
  have e0:Lib.itoa ((x.natAbs:Nat):Int)=Lib.decDigits x.natAbs:=by unfold Lib.itoa;rw [if_neg (by omega)];simp
  have hz:(⟨#[45]⟩:ByteArray).size+(qEJ ((x.natAbs:Nat):Int)).size≤9223372036854775807:=by
   have:(qEJ ((x.natAbs:Nat):Int)).size=(Lib.decDigits x.natAbs).length:=by rw [qC1];simp [qEJ,e0]
   show 1+_≤_
   omega
  simp only [qAK,qE8,qC,qD,qF,qG,qH,qJ,Option.bind_some,qE,qK,qM,e1,g]
  rw [if_pos (by simpa using hx),if_pos (decide_eq_true hz)]
  congr 1
  apply qJ1
  rw [qET]
  have e:Lib.itoa x=45::Lib.decDigits x.natAbs:=by unfold Lib.itoa;rw [if_pos hx]
  show 45::(Lib.itoa ((x.natAbs:Nat):Int))=Lib.itoa x
  rw [e,e0]
 ·obtain ⟨u,rfl⟩:∃u:Nat,x=u:=⟨x.toNat,by omega⟩
  exact ⟨25,qJ3 u (by omega)⟩
theorem qNo (x:Int) (h: -9223372036854775808≤x∧x≤9223372036854775807):Ev (qDR · x 10) (qEJ x):=by
 refine ⟨1,fun n hn=>?_⟩
 obtain ⟨m,rfl,hm⟩:=up1 hn
 show zZ x 10=_
 unfold zZ
 rw [if_pos ⟨rfl,h⟩]
 rfl
theorem qHW (x:Int) (h: -9223372036854775808≤x∧x≤9223372036854775807):Ev (qBi · x) (qEJ x):=by
 obtain ⟨n1,h1⟩:=qNo x h
 refine ⟨n1+1,fun n hn=>?_⟩
 obtain ⟨m,rfl,hm⟩:=up1 hn
 have h1:=h1 m (by omega)
 dsimp only at h1
 simp only [qBi,qFL,qC,qD,qF,qG,qH,qJ,Option.bind_some,qE,qK,qM,h1]
theorem qIC (x:Int) (h:0≤x∧x≤5):Ev (qBf · x) (qX x):=by
 refine ⟨1,fun n hn=>?_⟩
 obtain ⟨m,rfl,hm⟩:=up1 hn
 simp only [qBf,qGG,qC,qD,qF,qG,qH,qJ,Option.bind_some,qE,qK,qM]
 rcases lt6 h with rfl|rfl|rfl|rfl|rfl|rfl<;>simp [zh,qX]
theorem qEC (x:Int) (h:0≤x∧x≤5):Ev (qAN · x) (qX x):=by
 refine ⟨1,fun n hn=>?_⟩
 obtain ⟨m,rfl,hm⟩:=up1 hn
 simp only [qAN,qEP,qC,qD,qF,qG,qH,qJ,Option.bind_some,qE,qK,qM]
 rcases lt6 h with rfl|rfl|rfl|rfl|rfl|rfl<;>simp [zh,qX]
theorem qFy (k x:Int) (s:ByteArray) (ho:okV k x s=true):Ev (qo · k x s) (qAH k x s):=by
 by_cases k1:k=1
 ·subst k1
  have:=qPp ho
  obtain ⟨n1,h1⟩:=qHW x (by omega)
  refine ⟨n1+1,fun n hn=>?_⟩
  obtain ⟨m,rfl,hm⟩:=up1 hn
  have h1:=h1 m (by omega)
  dsimp only at h1
  simp only [qo,qBV,qC,qD,qF,qG,qH,qJ,Option.bind_some,qE,qK,qM,h1]
  simp [qAH]
 ·by_cases k2:k=2
  ·subst k2
   have:=qMN ho
   have hz:(⟨#[39]⟩:ByteArray).size+s.size≤9223372036854775807:=by show 1+s.size≤_;omega
   refine ⟨1,fun n hn=>?_⟩
   obtain ⟨m,rfl,hm⟩:=up1 hn
   simp only [qo,qBV,qC,qD,qF,qG,qH,qJ,Option.bind_some,qE,qK,qM]
   simp [qAH,hz]
  ·by_cases k3:k=3
   ·subst k3
    have:=qM5 ho
    refine ⟨1,fun n hn=>?_⟩
    obtain ⟨m,rfl,hm⟩:=up1 hn
    simp only [qo,qBV,qC,qD,qF,qG,qH,qJ,Option.bind_some,qE,qK,qM]
    have c:x=0∨x=1:=by omega
    rcases c with rfl|rfl<;>simp [zh,qAH,qPo]
   ·by_cases k4:k=4
    ·subst k4
     have:=qOD ho
     obtain ⟨n1,h1⟩:=qEC x (by omega)
     refine ⟨n1+1,fun n hn=>?_⟩
     obtain ⟨m,rfl,hm⟩:=up1 hn
     have h1:=h1 m (by omega)
     dsimp only at h1
     simp only [qo,qBV,qC,qD,qF,qG,qH,qJ,Option.bind_some,qE,qK,qM,h1]
     simp [qAH]
    ·refine ⟨1,fun n hn=>?_⟩
     obtain ⟨m,rfl,hm⟩:=up1 hn
     simp only [qo,qBV,qC,qD,qF,qG,qH,qJ,Option.bind_some,qE,qK,qM]
     simp [qAH,k1,k2,k3,k4]
theorem qHX (x:Int):Ev (qBj · x) (qBR x):=by
 by_cases h:1≤x∧x≤52
 ·by_cases h26:x≤26
  ·have w1:IntKind.i64.wrap (65+x)=65+x:=qZ (by omega)
   have w2:IntKind.i64.wrap (65+x-1)=65+x-1:=qZ (by omega)
   have w3:IntKind.u8.wrap (65+x-1)=65+x-1:=qNl (by omega)
   have e:(65+x-1).toNat=64+x.toNat:=by omega
   obtain ⟨n1,h1⟩:=qAG x 1 52
   refine ⟨n1+1,fun n hn=>?_⟩
   obtain ⟨m,rfl,hm⟩:=up1 hn
   have h1:=h1 m (by omega)
   dsimp only at h1
   simp only [qBj,qC7,qC,qD,qF,qG,qH,qJ,Option.bind_some,qE,qK,qM,h1]
   simp only [w1,w2,w3,bytesOf,Option.map_some,e]
   simp [h,h26,qBR,show ¬x<1 by omega,show ¬52<x by omega]
  ·have w1:IntKind.i64.wrap (x-1)=x-1:=qZ (by omega)
   have e1:Int.tdiv (x-1) 26=1:=by rw [Int.tdiv_eq_ediv_of_nonneg (by omega)];omega
   have e2:Int.tmod (x-1) 26=(((x.toNat-1)%26:Nat):Int):=by rw [Int.tmod_eq_emod_of_nonneg (by omega)];omega
   have w2:IntKind.u8.wrap (IntKind.i64.wrap (IntKind.i64.wrap (65+IntKind.i64.wrap 1)-1))=65:=by decide
   have w3:IntKind.i64.wrap (65+(((x.toNat-1)%26:Nat):Int))=65+(((x.toNat-1)%26:Nat):Int):=qZ (by omega)
   have w4:IntKind.u8.wrap (65+(((x.toNat-1)%26:Nat):Int))=65+(((x.toNat-1)%26:Nat):Int):=qNl (by omega)
   have e3:(65+(((x.toNat-1)%26:Nat):Int)).toNat=65+(x.toNat-1)%26:=by omega
   obtain ⟨n1,h1⟩:=qAG x 1 52
   refine ⟨n1+1,fun n hn=>?_⟩
   obtain ⟨m,rfl,hm⟩:=up1 hn
   have h1:=h1 m (by omega)
   dsimp only at h1
   simp only [qBj,qC7,qC,qD,qF,qG,qH,qJ,Option.bind_some,qE,qK,qM,h1]
   simp only [w1,e1,e2,w2,w3,w4,e3,bytesOf,Option.map_some]
   simp [h,h26,qBR,show ¬x<1 by omega,show ¬52<x by omega]
 ·have hx:x<1∨x>52:=by omega
  obtain ⟨n1,h1⟩:=qAG x 1 52
  refine ⟨n1+1,fun n hn=>?_⟩
  obtain ⟨m,rfl,hm⟩:=up1 hn
  have h1:=h1 m (by omega)
  dsimp only at h1
  simp only [qBj,qC7,qC,qD,qF,qG,qH,qJ,Option.bind_some,qE,qK,qM,h1]
  simp [h,qBR,hx]
theorem qNA (n x:Nat) (s:ByteArray) (h:1≤x∧x≤1000) (hs:s.size≤100):(qBJ n ((x:Int),s)).run=some (.inl ((((x-1)/26:Nat):Int),(⟨#[UInt8.ofNat (65+(x-1)%26)]⟩:ByteArray)++s)):=by
 have w1:IntKind.i64.wrap ((x:Int)-1)=((x-1:Nat):Int):=by rw [qZ (by omega)];omega
 have e1:Int.tdiv ((x-1:Nat):Int) 26=(((x-1)/26:Nat):Int):=by rw [Int.tdiv_eq_ediv_of_nonneg (by omega)];omega
 have e2:Int.tmod ((x-1:Nat):Int) 26=(((x-1)%26:Nat):Int):=by rw [Int.tmod_eq_emod_of_nonneg (by omega)];omega
 have w2:IntKind.i64.wrap (((x-1)/26:Nat):Int)=(((x-1)/26:Nat):Int):=qZ (by omega)
 have w3:IntKind.i64.wrap (65+(((x-1)%26:Nat):Int))=65+(((x-1)%26:Nat):Int):=qZ (by omega)
 have w4:IntKind.u8.wrap (65+(((x-1)%26:Nat):Int))=65+(((x-1)%26:Nat):Int):=qNl (by omega)
 have e3:(65+(((x-1)%26:Nat):Int)).toNat=65+(x-1)%26:=by omega
 have hz:(⟨#[UInt8.ofNat (65+(x-1)%26)]⟩:ByteArray).size+s.size≤9223372036854775807:=by show 1+s.size≤_;omega
 have hc:(x:Int)>0:=by omega
 simp only [qBJ,qC,qD,qF,qG,qH,qJ,Option.bind_some,qE,qK,qM,w1,e1,e2,w2,w3,w4,e3,bytesOf,Option.map_some]
 rw [if_pos (decide_eq_true hc),if_pos (by simp),if_pos (decide_eq_true hz)]
theorem qOG (n:Nat) (s:ByteArray):(qBJ n (((0:Nat):Int),s)).run=some (.inr s):=by
 simp [qBJ,qC,qD,qF,qG,qH,qJ,Option.bind_some,qE,qK,qM]
theorem qHY (x:Int):Ev (qCZ · x) (qBR x):=by
 by_cases h:1≤x∧x≤52
 ·obtain ⟨n1,h1⟩:=qCO x 1 52
  refine ⟨n1+10,fun n hn=>?_⟩
  obtain ⟨m,rfl,hm⟩:=up1 hn
  have h1:=h1 m (by omega)
  dsimp only at h1
  obtain ⟨u,rfl⟩:∃u:Nat,x=u:=⟨x.toNat,by omega⟩
  obtain ⟨M,hM⟩:∃M,m=M+3:=⟨m-3,by omega⟩
  have key:zD (qBJ m) m ((u:Int),(⟨#[]⟩:ByteArray))=some (qBR u):=by
   rw [hM,qa (qNA _ u ⟨#[]⟩ (by omega) (by decide))]
   by_cases h26:u≤26
   ·have e:(u-1)/26=0:=by omega
    have e2:65+(u-1)%26=64+u:=by omega
    rw [e,qO (qOG _ _),e2]
    congr 1
    apply qJ1
    rw [qET]
    simp [qBR,show ¬(u:Int)<1 by omega,show ¬(52:Int)<u by omega,show (u:Int)≤26 by omega]
   ·have e:(u-1)/26=1:=by omega
    have e4:(⟨#[UInt8.ofNat (65+(u-1)%26)]⟩++(⟨#[]⟩:ByteArray)).size≤100:=by rw [ByteArray.size_append];show 1+0≤100;decide
    rw [e,qa (qNA _ 1 _ (by decide) e4)]
    have e3:(1-1)/26=0:=by decide
    rw [e3,qO (qOG _ _)]
    congr 1
    apply qJ1
    rw [qET,qET]
    simp [qBR,show ¬(u:Int)<1 by omega,show ¬(52:Int)<u by omega,show ¬(u:Int)≤26 by omega]
  simp only [qCZ,qDw,qC,qD,qF,qG,qH,qJ,Option.bind_some,qE,qK,qM,h1,key]
  simp [h]
 ·have hx:x<1∨x>52:=by omega
  obtain ⟨n1,h1⟩:=qCO x 1 52
  refine ⟨n1+1,fun n hn=>?_⟩
  obtain ⟨m,rfl,hm⟩:=up1 hn
  have h1:=h1 m (by omega)
  dsimp only at h1
  simp only [qCZ,qDw,qC,qD,qF,qG,qH,qJ,Option.bind_some,qE,qK,qM,h1]
  simp [h,qBR,hx]
theorem qED (c r:Int) (fc fr:Bool):Ev (qi · c r fc fr) (qAU c r fc fr):=by
 cases ho:qAd c r with
 |false=>
  obtain ⟨n1,h1⟩:=qCz c r
  refine ⟨n1+1,fun n hn=>?_⟩
  obtain ⟨m,rfl,hm⟩:=up1 hn
  have h1:=h1 m (by omega)
  dsimp only at h1
  simp only [qi,qDJ,qC,qD,qF,qG,qH,qJ,Option.bind_some,qE,qK,qM,h1]
  simp [ho,qAU]
 |true=>
  have h:=qEB ho
  have s1:=qK3 c
  have s2:=qJU h.2
  have d1:(⟨#[36]⟩:ByteArray).size=1:=rfl
  have z1:(⟨#[36]⟩:ByteArray).size+(qBR c).size≤9223372036854775807:=by omega
  have z2:((⟨#[36]⟩:ByteArray)++qBR c).size+(⟨#[36]⟩:ByteArray).size≤9223372036854775807:=by rw [ByteArray.size_append];omega
  have z3:(((⟨#[36]⟩:ByteArray)++qBR c)++(⟨#[36]⟩:ByteArray)).size+(qEJ r).size≤9223372036854775807:=by rw [ByteArray.size_append,ByteArray.size_append];omega
  have z4:((⟨#[36]⟩:ByteArray)++qBR c).size+(qEJ r).size≤9223372036854775807:=by rw [ByteArray.size_append];omega
  have z5:(qBR c).size+(⟨#[36]⟩:ByteArray).size≤9223372036854775807:=by omega
  have z6:(qBR c++(⟨#[36]⟩:ByteArray)).size+(qEJ r).size≤9223372036854775807:=by rw [ByteArray.size_append];omega
  have z7:(qBR c).size+(qEJ r).size≤9223372036854775807:=by omega
  obtain ⟨n1,h1⟩:=qCz c r
  obtain ⟨n2,h2⟩:=qHY c
  obtain ⟨n3,h3⟩:=qI2 r (by omega)
  refine ⟨n1+n2+n3+1,fun n hn=>?_⟩
  obtain ⟨m,rfl,hm⟩:=up1 hn
  have h1:=h1 m (by omega)
  dsimp only at h1
  have h2:=h2 m (by omega)
  dsimp only at h2
  have h3:=h3 m (by omega)
  dsimp only at h3
  simp only [qi,qDJ,qC,qD,qF,qG,qH,qJ,Option.bind_some,qE,qK,qM,h1,h2,h3]
  simp only [ho,decide_eq_true z1,decide_eq_true z2,decide_eq_true z3,decide_eq_true z4,decide_eq_true z5,decide_eq_true z6,decide_eq_true z7,if_true,Bool.not_true,Bool.false_eq_true,if_false]
  cases fc<;>cases fr<;>simp only [if_true,if_false,Bool.false_eq_true,Option.some.injEq]<;>apply qJ1<;>simp [qAU,ho,qET]
theorem qC2 (c r:Int) (fc fr:Bool):Ev (qAx · c r fc fr) (qAU c r fc fr):=by
 cases ho:qAd c r with
 |false=>
  obtain ⟨n1,h1⟩:=qDc c r
  refine ⟨n1+1,fun n hn=>?_⟩
  obtain ⟨m,rfl,hm⟩:=up1 hn
  have h1:=h1 m (by omega)
  dsimp only at h1
  simp only [qAx,qDM,qC,qD,qF,qG,qH,qJ,Option.bind_some,qE,qK,qM,h1]
  simp [ho,qAU]
 |true=>
  have h:=qEB ho
  have s1:=qK3 c
  have s2:=qJU h.2
  have d1:(⟨#[36]⟩:ByteArray).size=1:=rfl
  have d0:(⟨#[]⟩:ByteArray).size=0:=rfl
  have z1:(⟨#[36]⟩:ByteArray).size+(qBR c).size≤9223372036854775807:=by omega
  have z2:((⟨#[36]⟩:ByteArray)++qBR c).size+(⟨#[36]⟩:ByteArray).size≤9223372036854775807:=by rw [ByteArray.size_append];omega
  have z3:(((⟨#[36]⟩:ByteArray)++qBR c)++(⟨#[36]⟩:ByteArray)).size+(qEJ r).size≤9223372036854775807:=by rw [ByteArray.size_append,ByteArray.size_append];omega
  have z4:((⟨#[36]⟩:ByteArray)++qBR c).size+(qEJ r).size≤9223372036854775807:=by rw [ByteArray.size_append];omega
  have y1:(⟨#[]⟩:ByteArray).size+(qBR c).size≤9223372036854775807:=by omega
  have y2:((⟨#[]⟩:ByteArray)++qBR c).size+(⟨#[36]⟩:ByteArray).size≤9223372036854775807:=by rw [ByteArray.size_append];omega
  have y3:(((⟨#[]⟩:ByteArray)++qBR c)++(⟨#[36]⟩:ByteArray)).size+(qEJ r).size≤9223372036854775807:=by rw [ByteArray.size_append,ByteArray.size_append];omega
  have y4:((⟨#[]⟩:ByteArray)++qBR c).size+(qEJ r).size≤9223372036854775807:=by rw [ByteArray.size_append];omega
  obtain ⟨n1,h1⟩:=qDc c r
  obtain ⟨n2,h2⟩:=qHX c
  obtain ⟨n3,h3⟩:=qHW r (by omega)
  refine ⟨n1+n2+n3+1,fun n hn=>?_⟩
  obtain ⟨m,rfl,hm⟩:=up1 hn
  have h1:=h1 m (by omega)
  dsimp only at h1
  have h2:=h2 m (by omega)
  dsimp only at h2
  have h3:=h3 m (by omega)
  dsimp only at h3
  simp only [qAx,qDM,qC,qD,qF,qG,qH,qJ,Option.bind_some,qE,qK,qM,h1,h2,h3]
  simp only [ho,decide_eq_true z1,decide_eq_true z2,decide_eq_true z3,decide_eq_true z4,decide_eq_true y1,decide_eq_true y2,decide_eq_true y3,decide_eq_true y4,if_true,Bool.not_true,Bool.false_eq_true,if_false]
  cases fc<;>cases fr<;>simp only [if_true,if_false,Bool.false_eq_true,Option.some.injEq]<;>apply qJ1<;>simp [qAU,ho,qET]
theorem qMQ (n:Nat) (s:ByteArray):∀(r pre:List UInt8) (acc M:Nat),s.toList=pre++r→acc<10^pre.length→pre.length+r.length≤17→r.length+1≤M→
  zD (qBQ n) M (s,(acc:Int),(pre.length:Int))=some (if r.all qBx=true then .inr ((qCn acc r:Nat):Int) else .inl (0,false))
 |r,pre,acc,0,h1,h2,h3,h4=>by omega
 | [],pre,acc,M+1,h1,h2,h3,h4=>by
  have hs:s.size=pre.length:=by rw [←qAg,h1];simp
  rw [qO (r:= .inr (acc:Int)) (by simp [qBQ,qC,qD,qF,qG,qH,qJ,Option.bind_some,qE,qK,qM,hs])]
  simp [qGj]
 |c::r,pre,acc,M+1,h1,h2,h3,h4=>by
  have hs:s.size=pre.length+(r.length+1):=by rw [←qAg,h1];simp
  have hi:(pre.length:Int)<s.size:=by omega
  have hg:s.toList[pre.length]?=some c:=by rw [h1];simp
  simp only [List.length_cons] at h3 h4
  by_cases c1:(c.toNat:Int)<48
  ·rw [qO (r:= .inl (0,false)) (by simp [qBQ,qC,qD,qF,qG,qH,qJ,Option.bind_some,qE,qK,qM,hi,hg,c1])]
   have:qBx c=false:=by simp [qBx];omega
   simp [this]
  ·by_cases c2:(c.toNat:Int)>57
   ·rw [qO (r:= .inl (0,false)) (by simp [qBQ,qC,qD,qF,qG,qH,qJ,Option.bind_some,qE,qK,qM,hi,hg,c1,c2])]
    have:qBx c=false:=by simp [qBx];omega
    simp [this]
   ·have hc:qBx c=true:=by simp [qBx];omega
    have hp:10^pre.length≤10^16:=Nat.pow_le_pow_right (by decide) (by omega)
    have p16:(10:Nat)^16=10000000000000000:=by decide
    have w1:IntKind.i64.wrap ((acc:Int)*10)=(acc:Int)*10:=qZ (by omega)
    have w2:IntKind.u8.wrap ((c.toNat:Int)-48)=((c.toNat-48:Nat):Int):=by rw [qNl (by omega)];omega
    have w3:IntKind.i64.wrap ((c.toNat-48:Nat):Int)=((c.toNat-48:Nat):Int):=qZ (by omega)
    have w4:IntKind.i64.wrap ((acc:Int)*10+((c.toNat-48:Nat):Int))=((acc*10+(c.toNat-48):Nat):Int):=by rw [qZ (by omega)];omega
    have w5:IntKind.i64.wrap ((pre.length:Int)+1)=(pre.length:Int)+1:=qZ (by omega)
    have e0:((pre++ [c]).length:Int)=(pre.length:Int)+1:=by simp
    rw [qa (v':=(s,((acc*10+(c.toNat-48):Nat):Int),((pre++ [c]).length:Int))) (by
     rw [e0]
     simp [qBQ,qC,qD,qF,qG,qH,qJ,Option.bind_some,qE,qK,qM,hi,hg,c1,c2,w1,w2,w3,w4,w5])]
    rw [qMQ n s r (pre++ [c]) (acc*10+(c.toNat-48)) M (by rw [h1];simp) (by rw [List.length_append,List.length_singleton,Nat.pow_succ];omega) (by simp;omega) (by omega)]
    simp [hc,qGk]
theorem qEc (s:ByteArray) (most:Int) (hm:most≤16):Ev (qz · s most) (l1I s.toList most):=by
 have hsz:s.size=s.toList.length:=(qAg s).symm
 by_cases h0:s.toList= []
 ·have hz:s.size=0:=by rw [hsz,h0];rfl
  refine ⟨1,fun n hn=>?_⟩
  obtain ⟨m,rfl,hm⟩:=up1 hn
  simp only [qz,qD6,qC,qD,qF,qG,qH,qJ,Option.bind_some,qE,qK,qM]
  simp [hz,h0,l1I,qFx]
 ·obtain ⟨c,r,hcr⟩:∃c r,s.toList=c::r:=by
   cases hq:s.toList with
   |nil=>exact absurd hq h0
   |cons a b=>exact ⟨a,b,rfl⟩
  have hl:s.size=r.length+1:=by rw [hsz,hcr];rfl
  have z1:¬(s.size:Int)<1:=by omega
  by_cases h1:(s.size:Int)>most
  ·refine ⟨1,fun n hn=>?_⟩
   obtain ⟨m,rfl,hm⟩:=up1 hn
   simp only [qz,qD6,qC,qD,qF,qG,qH,qJ,Option.bind_some,qE,qK,qM]
   have:¬((s.toList.length:Int)≤most):=by rw [←hsz];omega
   simp [z1,h1,l1I,this]
  ·have hle:(s.toList.length:Int)≤most:=by rw [←hsz];omega
   refine ⟨30,fun n hn=>?_⟩
   obtain ⟨m,rfl,hm'⟩:=up1 hn
   have hg:s.toList[0]?=some c:=by rw [hcr];rfl
   have lp:=qMQ m s s.toList [] 0 m rfl (by decide) (by simp;omega) (by omega)
   simp only [List.length_nil,Int.natCast_zero] at lp
   have c48:((c.toNat:Int)==48)=(c==48):=by
    by_cases e:c=48
    ·subst e;rfl
    ·have:¬(c.toNat:Int)=48:=fun h=>e (UInt8.toNat_inj.1 (by show c.toNat=48;omega))
     rw [beq_eq_false_iff_ne.2 this,beq_eq_false_iff_ne.2 e]
   simp only [qz,qD6,qC,qD,qF,qG,qH,qJ,Option.bind_some,qE,qK,qM,lp,Int.toNat_zero,hg,c48]
   rw [if_neg (by simpa using z1),if_neg (by simpa using h1),if_pos (by simp)]
   have ne:(s.toList== [])=false:=by simpa using h0
   have hd:s.toList.head?=some c:=by rw [hcr];rfl
   by_cases hc:c=48
   ·subst hc
    by_cases h2:(s.size:Int)>1
    ·have:¬s.toList.length=1:=by omega
     simp [h2,l1I,qFx,hd,this]
    ·have:s.toList.length=1:=by omega
     cases hall:s.toList.all qBx<;>simp [h2,l1I,qFx,hd,this,hall,ne,hle,qC,qD,qF,qG,qH,qJ,Option.bind_some,qE,qK,qM]
     ·omega
   ·have:(some c==some 48)=false:=by simpa using hc
    cases hall:s.toList.all qBx<;>simp [hc,l1I,qFx,hd,this,hall,ne,hle,qC,qD,qF,qG,qH,qJ,Option.bind_some,qE,qK,qM]
theorem qLM (s:ByteArray) (h:s.size≤281474976710656):Ev (qBW · s 10 64) (.inl (qBZ s))∨Ev (qBW · s 10 64) (.inr (qBZ s)):=by
 have key:∃r,zQ s 10 64=some r:=by
  unfold zQ
  rw [if_pos ⟨rfl,rfl,h⟩]
  split<;>exact ⟨_,rfl⟩
 obtain ⟨r,hr⟩:=key
 have e:Ev (qBW · s 10 64) r:=⟨1,fun n hn=>by
  obtain ⟨m,rfl,hm⟩:=up1 hn
  exact hr⟩
 rcases r with v|v
 ·exact .inl (by unfold qBZ;rw [hr];exact e)
 ·exact .inr (by unfold qBZ;rw [hr];exact e)
theorem qG9 (s:ByteArray) (c:UInt8):Ev (qAL · s ⟨#[c]⟩) (if s.toList.head?=some c then (⟨s.toList.tail.toArray⟩,true) else (s,false)):=by
 refine ⟨1,fun n hn=>?_⟩
 obtain ⟨m,rfl,hm⟩:=up1 hn
 show zT s ⟨#[c]⟩=_
 unfold zT Lib.trimPrefix Lib.hasPrefix
 rw [←Go.Lib.toList_data s]
 have es:(⟨s.toList.toArray⟩:ByteArray)=s:=qJ1 (by rw [←Go.Lib.toList_data s])
 generalize s.toList=l at*
 cases l with
 |nil=>simp [es]
 |cons a r=>
  by_cases h:a=c
  ·subst h;simp
  ·have:¬c=a:=fun e=>h e.symm
   simp [h,this,es,List.isPrefixOf]
theorem qNp (s:ByteArray) (c:UInt8):Ev (qn · s ⟨#[c]⟩) (s.toList.head?==some c):=by
 refine ⟨2,fun n hn=>?_⟩
 obtain ⟨m,rfl,hm⟩:=up1 hn
 obtain ⟨m,rfl,hm⟩:=up1 hm
 have z:(⟨#[c]⟩:ByteArray).size=1:=rfl
 have tc:(⟨#[c]⟩:ByteArray).toList= [c]:=by rw [Go.Lib.toList_data]
 have hsz:s.size=s.toList.length:=(qAg s).symm
 simp only [qn,qCV,qAc,qAb,qC,qD,qF,qG,qH,qJ,Option.bind_some,qE,qK,qM,z,tc]
 cases hq:s.toList with
 |nil=>
  have:s.size=0:=by rw [hsz,hq];rfl
  simp [this]
 |cons a r=>
  have h1:(1:Int)≤s.size:=by rw [hsz,hq];simp;omega
  have e:(s.extract 0 1).toList= [a]:=by
   rw [Go.Lib.toList_data,ByteArray.data_extract,Array.toList_extract]
   rw [Go.Lib.toList_data] at hq
   simp [hq]
  have h2:1≤s.size:=by omega
  simp [h1,h2,e]
theorem qNq (n:Nat) (s:ByteArray) (a b:Int) (c:ByteArray) (i:Int) (v:V3) (hi:1≤i∧i≤5) (h1:qAN n i=some (qX i)) (h2:qBe n i=some (4,i,em)):
  (qA6 n (s,i,a,b,c,v.1,v.2.1,v.2.2)).run=some (.inl (s,i+1,a,b,c,if (qX i).toList=s.toList then (4,i,em) else v)):=by
 have w1:IntKind.i64.wrap (i+1)=i+1:=qZ (by omega)
 simp only [qA6,qC,qD,qF,qG,qH,qJ,Option.bind_some,qE,qK,qM,h1,h2,w1]
 rw [if_pos (decide_eq_true hi.2)]
 by_cases h:(qX i).toList=s.toList<;>simp [h]
def qJV (s:ByteArray):Nat→Int→V3→V3
 |0,_,v=>v
 |k+1,i,v=>qJV s k (i+1) (if (qX i).toList=s.toList then (4,i,em) else v)
theorem qPq (s:ByteArray):qJV s 5 1 (0,0,em)=if qDd s=0 then (0,0,em) else (4,qDd s,em):=by
 have a2:(1:Int)+1=2:=by decide
 have a3:(2:Int)+1=3:=by decide
 have a4:(3:Int)+1=4:=by decide
 have a5:(4:Int)+1=5:=by decide
 simp only [qJV,qDd,a2,a3,a4,a5]
 by_cases h5:(qX 5).toList=s.toList
 ·simp [h5]
 by_cases h4:(qX 4).toList=s.toList
 ·simp [h5,h4]
 by_cases h3:(qX 3).toList=s.toList
 ·simp [h5,h4,h3]
 by_cases h2:(qX 2).toList=s.toList
 ·simp [h5,h4,h3,h2]
 by_cases h1:(qX 1).toList=s.toList<;>simp [h5,h4,h3,h2,h1]
theorem qJ4 (n:Nat) (s:ByteArray) (a b:Int) (c:ByteArray) (h1:∀i,0≤i∧i≤5→qAN n i=some (qX i)) (h2:∀i,1≤i∧i≤5→qBe n i=some (4,i,em)):
  ∀(k:Nat) (i:Int) (v:V3) (M:Nat),i+k=6→1≤i→k+1≤M→zD (qA6 n) M (s,i,a,b,c,v.1,v.2.1,v.2.2)=some (s,a,b,c,(qJV s k i v).1,(qJV s k i v).2.1,(qJV s k i v).2.2)
 |k,i,v,0,e,h,hM=>by omega
 |0,i,v,M+1,e,h,hM=>by
  have hi:¬i≤5:=by omega
  rw [qO (r:=(s,a,b,c,v.1,v.2.1,v.2.2)) (by simp [qA6,qC,qD,qF,qG,qH,qJ,Option.bind_some,qE,qK,qM,hi])]
  rfl
 |k+1,i,v,M+1,e,h,hM=>by
  rw [qa (qNq n s a b c i v (by omega) (h1 i (by omega)) (h2 i (by omega)))]
  exact qJ4 n s a b c h1 h2 k (i+1) _ M (by omega) (by omega) (by omega)
theorem qNB:okV 0 0 em=true:=by simp [okV,em,qx]
theorem qLN:qAH 0 0 em=⟨#[]⟩:=rfl
theorem qE9 {R:Type} {F:Nat→Int→Option R} {f:Int→R} {lo:Int} (h0:0≤lo) (h:∀i,lo≤i∧i≤5→Ev (F · i) (f i)):∃n0,∀n,n0≤n→∀i,lo≤i∧i≤5→F n i=some (f i):=by
 obtain ⟨n0,h1⟩:=qCN (F:=fun i n=>if lo≤i∧i≤5 then F n i else some (f i)) (f:=f) [0,1,2,3,4,5] (fun i _=>by
  by_cases hi:lo≤i∧i≤5
  ·obtain ⟨n0,h1⟩:=h i hi
   exact ⟨n0,fun n hn=>by simp only [if_pos hi];exact h1 n hn⟩
  ·exact ⟨0,fun n _=>by simp only [if_neg hi]⟩)
 refine ⟨n0,fun n hn i hi=>?_⟩
 have:=h1 n hn i (by
  have c:i=0∨i=1∨i=2∨i=3∨i=4∨i=5:=by omega
  rcases c with rfl|rfl|rfl|rfl|rfl|rfl<;>simp)
 simp only [if_pos hi] at this
 exact this
theorem qJ5 (s:ByteArray) (hb:s.size≤1048576):Ev (qw · s) (qf s):=by
 have te:(⟨#[]⟩:ByteArray).toList= []:=qx
 have tF:(⟨#[70,65,76,83,69]⟩:ByteArray).toList= [70,65,76,83,69]:=by rw [Go.Lib.toList_data]
 have tT:(⟨#[84,82,85,69]⟩:ByteArray).toList= [84,82,85,69]:=by rw [Go.Lib.toList_data]
 have fin:∀k x (t:ByteArray),qAe s=(k,x,t)→t.size≤140737488351232→∃n0,∀n,n0≤n→qAV n k x t=some (okV k x t)∧(okV k x t=true→qo n k x t=some (qAH k x t)):=fun k x t _ ht=>by
  obtain ⟨n1,h1⟩:=qHV k x t ht
  by_cases ho:okV k x t=true
  ·obtain ⟨n2,h2⟩:=qFy k x t ho
   exact ⟨n1+n2,fun n hn=>⟨h1 n (by omega),fun _=>h2 n (by omega)⟩⟩
  ·exact ⟨n1,fun n hn=>⟨h1 n hn,fun h=>absurd h ho⟩⟩
 have rd:∀k x (t:ByteArray),qAe s=(k,x,t)→qf s=if okV k x t=true∧(qAH k x t).toList=s.toList then (k,x,t,true) else (0,0,⟨#[]⟩,false):=fun k x t h=>by unfold qf;rw [h]
 by_cases h39:s.toList.head?=some 39
 ·have hc:qAe s=(2,0,⟨s.toList.tail.toArray⟩):=by unfold qAe;rw [if_pos h39]
  have hsz:(⟨s.toList.tail.toArray⟩:ByteArray).size≤140737488351232:=by rw [qC1];simp only [List.length_tail];rw [qAg];omega
  obtain ⟨n0,hf⟩:=fin _ _ _ hc hsz
  rw [rd _ _ _ hc]
  obtain ⟨n1,h1⟩:=qG9 s 39
  refine ⟨n0+n1+1,fun n hn=>?_⟩
  obtain ⟨m,rfl,hm⟩:=up1 hn
  have h1:=h1 m (by omega)
  obtain ⟨g1,g2⟩:=hf m (by omega)
  dsimp only at h1
  simp only [qw,qBE,qC,qD,qF,qG,qH,qJ,Option.bind_some,qE,qK,qM,h1,if_pos h39,g1]
  cases ho:okV 2 0 (⟨s.toList.tail.toArray⟩:ByteArray) with
  |false=>simp
  |true=>
   simp only [g2 ho]
   by_cases e:(qAH 2 0 (⟨s.toList.tail.toArray⟩:ByteArray)).toList=s.toList<;>simp [e]
 ·have cut:=qG9 s 39
  rw [if_neg h39] at cut
  by_cases hF:s.toList= [70,65,76,83,69]
  ·have hc:qAe s=(3,0,em):=by unfold qAe;rw [if_neg h39,if_pos hF]
   have hT:¬s.toList= [84,82,85,69]:=by rw [hF];decide
   obtain ⟨n0,hf⟩:=fin _ _ _ hc (by decide)
   rw [rd _ _ _ hc]
   obtain ⟨n1,h1⟩:=cut
   obtain ⟨n2,h2⟩:=qI1 false
   refine ⟨n0+n1+n2+1,fun n hn=>?_⟩
   obtain ⟨m,rfl,hm⟩:=up1 hn
   have h1:=h1 m (by omega)
   have h2:=h2 m (by omega)
   obtain ⟨g1,g2⟩:=hf m (by omega)
   dsimp only at h1 h2
   simp only [Bool.false_eq_true,if_false] at h2
   have bT:(s.toList== [84,82,85,69])=false:=by simpa using hT
   have bF:(s.toList== [70,65,76,83,69])=true:=by simpa using hF
   simp only [qw,qBE,qC,qD,qF,qG,qH,qJ,Option.bind_some,qE,qK,qM,h1,tF,tT,bT,bF,h2,g1]
   cases ho:okV 3 0 em with
   |false=>simp
   |true=>
    simp only [g2 ho]
    by_cases e:(qAH 3 0 em).toList=s.toList<;>simp [e]
  ·by_cases hT:s.toList= [84,82,85,69]
   ·have hc:qAe s=(3,1,em):=by unfold qAe;rw [if_neg h39,if_neg hF,if_pos hT]
    obtain ⟨n0,hf⟩:=fin _ _ _ hc (by decide)
    rw [rd _ _ _ hc]
    obtain ⟨n1,h1⟩:=cut
    obtain ⟨n2,h2⟩:=qI1 true
    refine ⟨n0+n1+n2+1,fun n hn=>?_⟩
    obtain ⟨m,rfl,hm⟩:=up1 hn
    have h1:=h1 m (by omega)
    have h2:=h2 m (by omega)
    obtain ⟨g1,g2⟩:=hf m (by omega)
    dsimp only at h1 h2
    simp only [if_true] at h2
    have bT:(s.toList== [84,82,85,69])=true:=by simpa using hT
    have bF:(s.toList== [70,65,76,83,69])=false:=by simpa using hF
    simp only [qw,qBE,qC,qD,qF,qG,qH,qJ,Option.bind_some,qE,qK,qM,h1,tF,tT,bT,bF,h2,g1]
    cases ho:okV 3 1 em with
    |false=>simp
    |true=>
     simp only [g2 ho]
     by_cases e:(qAH 3 1 em).toList=s.toList<;>simp [e]
   ·have bT:(s.toList== [84,82,85,69])=false:=by simpa using hT
    have bF:(s.toList== [70,65,76,83,69])=false:=by simpa using hF
    have pre:=qNp s 35
    by_cases h35:s.toList.head?=some 35
    ·have hc:qAe s=(if qDd s=0 then (0,0,em) else (4,qDd s,em)):=by unfold qAe;rw [if_neg h39,if_neg hF,if_neg hT,if_pos h35]
     have main:∀k x (t:ByteArray),qAe s=(k,x,t)→qJV s 5 1 (0,0,em)=(k,x,t)→t.size≤140737488351232→Ev (qw · s) (qf s):=fun k x t hc hu ht=>by
      obtain ⟨n0,hf⟩:=fin _ _ _ hc ht
      rw [rd _ _ _ hc]
      obtain ⟨n1,h1⟩:=cut
      obtain ⟨n2,h2⟩:=pre
      obtain ⟨n3,h3⟩:=qE9 (F:=qAN) (f:=qX) (lo:=0) (by decide) qEC
      obtain ⟨n4,h4⟩:=qE9 (F:=qBe) (f:=fun i=>(4,i,em)) (lo:=1) (by decide) (fun i _=>qI0 i)
      refine ⟨n0+n1+n2+n3+n4+10,fun n hn=>?_⟩
      obtain ⟨m,rfl,hm⟩:=up1 hn
      have h1:=h1 m (by omega)
      have h2:=h2 m (by omega)
      have lp:=qJ4 m s 0 0 ⟨#[]⟩ (h3 m (by omega)) (h4 m (by omega)) 5 1 (0,0,em) m (by decide) (by decide) (by omega)
      rw [hu] at lp
      obtain ⟨g1,g2⟩:=hf m (by omega)
      dsimp only [em] at h1 h2 lp g1 g2
      have b35:(s.toList.head?==some 35)=true:=by simpa using h35
      simp only [qw,qBE,qC,qD,qF,qG,qH,qJ,Option.bind_some,qE,qK,qM,h1,tF,tT,bT,bF,h2,b35,lp,g1]
      cases ho:okV k x t with
      |false=>simp
      |true=>
       simp only [g2 ho]
       by_cases e:(qAH k x t).toList=s.toList<;>simp [e]
     by_cases hz:qDd s=0
     ·rw [if_pos hz] at hc
      exact main _ _ _ hc (by rw [qPq,if_pos hz]) (show (0:Nat)≤140737488351232 by decide)
     ·rw [if_neg hz] at hc
      exact main _ _ _ hc (by rw [qPq,if_neg hz]) (show (0:Nat)≤140737488351232 by decide)
    ·have b35:(s.toList.head?==some 35)=false:=by simpa using h35
     by_cases h0:s.toList= []
     ·have hc:qAe s=(0,0,em):=by unfold qAe;rw [if_neg h39,if_neg hF,if_neg hT,if_neg h35,if_pos h0]
      obtain ⟨n0,hf⟩:=fin _ _ _ hc (by decide)
      rw [rd _ _ _ hc]
      obtain ⟨n1,h1⟩:=cut
      obtain ⟨n2,h2⟩:=pre
      refine ⟨n0+n1+n2+1,fun n hn=>?_⟩
      obtain ⟨m,rfl,hm⟩:=up1 hn
      have h1:=h1 m (by omega)
      have h2:=h2 m (by omega)
      obtain ⟨g1,g2⟩:=hf m (by omega)
      dsimp only [em] at h1 h2 g1 g2
      have b0:(!(s.toList== []))=false:=by simpa using h0
      simp only [qw,qBE,qC,qD,qF,qG,qH,qJ,Option.bind_some,qE,qK,qM,h1,tF,tT,bT,bF,h2,b35,te,b0,g1]
      have ho:=qNB
      dsimp only [em] at ho
      simp only [g2 ho,ho]
      by_cases e:(qAH 0 0 (⟨#[]⟩:ByteArray)).toList=s.toList<;>simp [em,ho,e]
     ·have hc:qAe s=(1,qBZ s,em):=by unfold qAe;rw [if_neg h39,if_neg hF,if_neg hT,if_neg h35,if_neg h0]
      obtain ⟨n0,hf⟩:=fin _ _ _ hc (by decide)
      rw [rd _ _ _ hc]
      obtain ⟨n1,h1⟩:=cut
      obtain ⟨n2,h2⟩:=pre
      obtain ⟨n4,h4⟩:=qML (qBZ s)
      have b0:(!(s.toList== []))=true:=by simpa using h0
      rcases qLM s (by omega) with ⟨n3,h3⟩|⟨n3,h3⟩
      all_goals
       refine ⟨n0+n1+n2+n3+n4+1,fun n hn=>?_⟩
       obtain ⟨m,rfl,hm⟩:=up1 hn
       have h1:=h1 m (by omega)
       have h2:=h2 m (by omega)
       have h3:=h3 m (by omega)
       have h4:=h4 m (by omega)
       obtain ⟨g1,g2⟩:=hf m (by omega)
       dsimp only at h1 h2 h3 h4
       simp only [qw,qBE,qC,qD,qF,qG,qH,qJ,Option.bind_some,qE,qK,qM,h1,tF,tT,bT,bF,h2,b35,te,b0,h3,h4,g1]
       cases ho:okV 1 (qBZ s) em with
       |false=>simp
       |true=>
        simp only [g2 ho]
        by_cases e:(qAH 1 (qBZ s) em).toList=s.toList<;>simp [e]
theorem qJ6 (n:Nat) (s:ByteArray) (a b:Int) (c:ByteArray) (h1:∀i,0≤i∧i≤5→qBf n i=some (qX i)):
  ∀(k:Nat) (i x:Int) (M:Nat),i+k=6→1≤i→k+1≤M→(qJV s k i (4,x,em)).1=4∧(qJV s k i (4,x,em)).2.2=em∧zD (qBL n) M (s,i,a,b,c,4,x,⟨#[]⟩)=some (a,b,c,4,(qJV s k i (4,x,em)).2.1,⟨#[]⟩)
 |k,i,x,0,e,h,hM=>by omega
 |0,i,x,M+1,e,h,hM=>by
  have hi:¬i≤5:=by omega
  refine ⟨rfl,rfl,?_⟩
  rw [qO (r:=(a,b,c,4,x,⟨#[]⟩)) (by simp [qBL,qC,qD,qF,qG,qH,qJ,Option.bind_some,qE,qK,qM,hi])]
  rfl
 |k+1,i,x,M+1,e,h,hM=>by
  have hi:i≤5:=by omega
  have g:=h1 i (by omega)
  have w1:IntKind.i64.wrap (i+1)=i+1:=qZ (by omega)
  have hu:qJV s (k+1) i (4,x,em)=qJV s k (i+1) (4,if (qX i).toList=s.toList then i else x,em):=by
   simp only [qJV]
   split<;>rfl
  rw [hu,qa (v':=(s,i+1,a,b,c,4,(if (qX i).toList=s.toList then i else x),⟨#[]⟩)) (by
   simp only [qBL,qC,qD,qF,qG,qH,qJ,Option.bind_some,qE,qK,qM,g,w1]
   rw [if_pos (decide_eq_true hi)]
   by_cases hq:(qX i).toList=s.toList<;>simp [hq])]
  exact qJ6 n s a b c h1 k (i+1) _ M (by omega) (by omega) (by omega)
theorem qQW (s:ByteArray):qJV s 5 1 (4,0,em)=(4,qDd s,em):=by
 have a2:(1:Int)+1=2:=by decide
 have a3:(2:Int)+1=3:=by decide
 have a4:(3:Int)+1=4:=by decide
 have a5:(4:Int)+1=5:=by decide
 simp only [qJV,qDd,a2,a3,a4,a5]
 by_cases h5:(qX 5).toList=s.toList
 ·simp [h5]
 by_cases h4:(qX 4).toList=s.toList
 ·simp [h5,h4]
 by_cases h3:(qX 3).toList=s.toList
 ·simp [h5,h4,h3]
 by_cases h2:(qX 2).toList=s.toList
 ·simp [h5,h4,h3,h2]
 by_cases h1:(qX 1).toList=s.toList<;>simp [h5,h4,h3,h2,h1]
theorem qRP (s:ByteArray):(s.extract (1:Int).toNat ((s.size:Int)).toNat).toList=s.toList.tail:=by
 have e1:(1:Int).toNat=1:=rfl
 rw [Int.toNat_natCast,e1,Go.Lib.toList_data,ByteArray.data_extract,Array.toList_extract,Go.Lib.toList_data]
 have hl:s.data.toList.length=s.size:=by rw [←qC1]
 show (s.data.toList.drop 1).take (s.size-1)=s.data.toList.tail
 rw [List.take_of_length_le (by rw [List.length_drop,hl];exact Nat.le_refl _),List.drop_one]
theorem qPr {s:ByteArray} {c:UInt8} {r:List UInt8} (h:s.toList=c::r):s.toList[((0:Int)).toNat]?=some c:=by rw [h];rfl
theorem qO9 {x:Int}:okV 1 x em=decide (-1000000000000000≤x∧x≤1000000000000000):=by
 simp [okV,em,qx]
theorem qPZ {s:ByteArray} (h39:¬s.toList.head?=some 39) (hF:¬s.toList= [70,65,76,83,69]) (hT:¬s.toList= [84,82,85,69]) (h35:¬s.toList.head?=some 35) (h0:¬s.toList= []):
  qf s=match qNn s.toList with
   |some x=>if okV 1 x em=true then (1,x,em,true) else (0,0,⟨#[]⟩,false)
   |none=>(0,0,⟨#[]⟩,false):=by
 have hc:qAe s=(1,qBZ s,em):=by unfold qAe;rw [if_neg h39,if_neg hF,if_neg hT,if_neg h35,if_neg h0]
 have rd:qf s=if okV 1 (qBZ s) em=true∧(qAH 1 (qBZ s) em).toList=s.toList then (1,qBZ s,em,true) else (0,0,⟨#[]⟩,false):=by unfold qf;rw [hc]
 have tx:∀x,(qAH 1 x em).toList=Lib.itoa x:=fun x=>by
  rw [Go.Lib.toList_data];simp [qAH,qEJ]
 have back:okV 1 (qBZ s) em=true∧(qAH 1 (qBZ s) em).toList=s.toList→qNn s.toList=some (qBZ s):=fun ⟨a,b⟩=>by
  rw [tx] at b
  rw [qO9] at a
  rw [←b]
  exact qPY (by simpa using a)
 rw [rd]
 cases hn:qNn s.toList with
 |none=>
  rw [if_neg (fun h=>by rw [back h] at hn;cases hn)]
 |some x=>
  by_cases hx:okV 1 x em=true
  ·have hi:=qPX hn
   have hr: -1000000000000000≤x∧x≤1000000000000000:=by rw [qO9] at hx;simpa using hx
   have hp:=qIB hi hr
   dsimp only
   rw [hp,if_pos ⟨hx,by rw [tx,hi]⟩,if_pos hx]
  ·dsimp only
   rw [if_neg hx,if_neg (fun h=>by
    have:=back h
    rw [hn] at this
    cases this
    exact hx h.1)]
theorem qPa (s:ByteArray) {c:UInt8} {r:List UInt8} (hcr:s.toList=c::r):qNn s.toList=if c=45 then (if (l1I s.toList.tail 16).2=true∧(l1I s.toList.tail 16).1≠0 then some (-(l1I s.toList.tail 16).1) else none) else (if (l1I s.toList 16).2=true then some (l1I s.toList 16).1 else none):=by
 unfold qNn
 rw [hcr]
 simp only [List.head?_cons,Option.some.injEq,List.drop_one]
theorem qJ7 (s:ByteArray) (hb:s.size≤1048576):Ev (qAD · s) (qf s):=by
 have te:(⟨#[]⟩:ByteArray).toList= []:=qx
 have tF:(⟨#[70,65,76,83,69]⟩:ByteArray).toList= [70,65,76,83,69]:=by rw [Go.Lib.toList_data]
 have tT:(⟨#[84,82,85,69]⟩:ByteArray).toList= [84,82,85,69]:=by rw [Go.Lib.toList_data]
 have hsz:s.size=s.toList.length:=(qAg s).symm
 by_cases h0:s.toList= []
 ·have hv:qf s=(0,0,⟨#[]⟩,true):=by
   have hc:qAe s=(0,0,em):=by unfold qAe;rw [h0];simp
   unfold qf
   rw [hc,if_pos ⟨qNB,by rw [qLN,h0];exact te⟩]
   rfl
  rw [hv]
  refine ⟨1,fun n hn=>?_⟩
  obtain ⟨m,rfl,hm⟩:=up1 hn
  simp only [qAD,qAy,qC,qD,qF,qG,qH,qJ,Option.bind_some,qE,qK,qM]
  simp [h0,te]
 ·obtain ⟨c,r,hcr⟩:∃c r,s.toList=c::r:=by
   cases hq:s.toList with
   |nil=>exact absurd hq h0
   |cons a b=>exact ⟨a,b,rfl⟩
  have hg:=qPr hcr
  have hd:s.toList.head?=some c:=by rw [hcr];rfl
  have b0:(s.toList== [])=false:=by simpa using h0
  have s1:(1:Int)≤(s.size:Int):=by rw [hsz,hcr];simp;omega
  have k39:=qQV c 39 (by decide)
  have k35:=qQV c 35 (by decide)
  have k45:=qQV c 45 (by decide)
  have u39:UInt8.ofNat 39=39:=rfl
  have u35:UInt8.ofNat 35=35:=rfl
  have u45:UInt8.ofNat 45=45:=rfl
  rw [u39] at k39
  rw [u35] at k35
  rw [u45] at k45
  have q39:((39:Nat):Int)=39:=rfl
  have q35:((35:Nat):Int)=35:=rfl
  have q45:((45:Nat):Int)=45:=rfl
  rw [q39] at k39
  rw [q35] at k35
  rw [q45] at k45
  by_cases h39:c=39
  ·have hx:(⟨s.toList.tail.toArray⟩:ByteArray)=s.extract (1:Int).toNat ((s.size:Int)).toNat:=qDE (by rw [qRP];rw [Go.Lib.toList_data])
   have hc:qAe s=(2,0,s.extract (1:Int).toNat ((s.size:Int)).toNat):=by unfold qAe;rw [if_pos (by rw [hd,h39]),hx]
   have hz:(s.extract (1:Int).toNat ((s.size:Int)).toNat).size≤140737488351232:=by rw [←hx,qC1];simp only [List.length_tail];rw [qAg];omega
   have hvt:(qAH 2 0 (s.extract (1:Int).toNat ((s.size:Int)).toNat)).toList=s.toList:=by
    rw [←hx,Go.Lib.toList_data]
    show ((⟨#[39]⟩:ByteArray)++_).data.toList=_
    rw [qET,hcr,h39]
    rfl
   have hv:qf s=if okV 2 0 (s.extract (1:Int).toNat ((s.size:Int)).toNat)=true then (2,0,s.extract (1:Int).toNat ((s.size:Int)).toNat,true) else (0,0,⟨#[]⟩,false):=by
    unfold qf
    rw [hc]
    simp only [hvt,and_true]
   rw [hv]
   have e39:(some c==some 39)=true:=by rw [h39];rfl
   obtain ⟨n1,h1⟩:=qBo 2 0 (s.extract (1:Int).toNat ((s.size:Int)).toNat) hz
   refine ⟨n1+1,fun n hn=>?_⟩
   obtain ⟨m,rfl,hm⟩:=up1 hn
   have h1:=h1 m (by omega)
   dsimp only at h1
   simp only [qAD,qAy,qC,qD,qF,qG,qH,qJ,Option.bind_some,qE,qK,qM,h1]
   simp only [qC,qD,qF,qG,qH,qJ,Option.bind_some,qE,qK,qM,te,b0,hg,k39,e39]
   cases ho:okV 2 0 (s.extract (1:Int).toNat ((s.size:Int)).toNat)<;>simp [s1]
  ·have n39:¬s.toList.head?=some 39:=by rw [hd];simpa using h39
   have e39:(some c==some 39)=false:=by simpa using h39
   by_cases hT:s.toList= [84,82,85,69]
   ·have hF:¬s.toList= [70,65,76,83,69]:=by rw [hT];decide
    have hc:qAe s=(3,1,em):=by unfold qAe;rw [if_neg n39,if_neg hF,if_pos hT]
    have ho:okV 3 1 em=true:=by simp [okV,em,qx]
    have hv:qf s=(3,1,⟨#[]⟩,true):=by
     unfold qf
     rw [hc,if_pos ⟨ho,by rw [hT];exact tT⟩]
     rfl
    rw [hv]
    have bT:(s.toList== [84,82,85,69])=true:=by simpa using hT
    obtain ⟨n1,h1⟩:=qBo 3 1 ⟨#[]⟩ (by decide)
    refine ⟨n1+1,fun n hn=>?_⟩
    obtain ⟨m,rfl,hm⟩:=up1 hn
    have h1:=h1 m (by omega)
    dsimp only at h1
    simp only [qAD,qAy,qC,qD,qF,qG,qH,qJ,Option.bind_some,qE,qK,qM,h1]
    dsimp only [em] at ho
    simp only [qC,qD,qF,qG,qH,qJ,Option.bind_some,qE,qK,qM,te,b0,hg,k39,e39,tT,bT,ho]
    simp
   ·have bT:(s.toList== [84,82,85,69])=false:=by simpa using hT
    by_cases hF:s.toList= [70,65,76,83,69]
    ·have hc:qAe s=(3,0,em):=by unfold qAe;rw [if_neg n39,if_pos hF]
     have ho:okV 3 0 em=true:=by simp [okV,em,qx]
     have hv:qf s=(3,0,⟨#[]⟩,true):=by
      unfold qf
      rw [hc,if_pos ⟨ho,by rw [hF];exact tF⟩]
      rfl
     rw [hv]
     have bF:(s.toList== [70,65,76,83,69])=true:=by simpa using hF
     obtain ⟨n1,h1⟩:=qBo 3 0 ⟨#[]⟩ (by decide)
     refine ⟨n1+1,fun n hn=>?_⟩
     obtain ⟨m,rfl,hm⟩:=up1 hn
     have h1:=h1 m (by omega)
     dsimp only at h1
     simp only [qAD,qAy,qC,qD,qF,qG,qH,qJ,Option.bind_some,qE,qK,qM,h1]
     dsimp only [em] at ho
     simp only [qC,qD,qF,qG,qH,qJ,Option.bind_some,qE,qK,qM,te,b0,hg,k39,e39,tT,bT,tF,bF,ho]
     simp
    ·have bF:(s.toList== [70,65,76,83,69])=false:=by simpa using hF
     by_cases h35:c=35
     ·have n35:s.toList.head?=some 35:=by rw [hd,h35]
      have e35:(some c==some 35)=true:=by rw [h35];rfl
      have hc:qAe s=(if qDd s=0 then (0,0,em) else (4,qDd s,em)):=by unfold qAe;rw [if_neg n39,if_neg hF,if_neg hT,if_pos n35]
      have hin:=qQT s
      have ho:okV 4 (qDd s) (⟨#[]⟩:ByteArray)=!(qDd s==0):=by
       by_cases hz:qDd s=0
       ·simp [okV,qx,hz]
       ·have hr:1≤qDd s∧qDd s≤5:=by omega
        simp [okV,qx,hr,hz]
      have hv:qf s=if qDd s=0 then (0,0,⟨#[]⟩,false) else (4,qDd s,⟨#[]⟩,true):=by
       unfold qf
       rw [hc]
       by_cases hz:qDd s=0
       ·simp only [if_pos hz]
        rw [if_neg (fun h=>h0 (by rw [←h.2,qLN];exact te))]
       ·simp only [if_neg hz]
        have ho':okV 4 (qDd s) em=true:=by show okV 4 (qDd s) ⟨#[]⟩=true;rw [ho];simpa using hz
        rw [if_pos ⟨ho',by show (qX (qDd s)).toList=s.toList;rw [qQU hz]⟩]
        rfl
      rw [hv]
      obtain ⟨n1,h1⟩:=qBo 4 (qDd s) ⟨#[]⟩ (by decide)
      obtain ⟨n3,h3⟩:=qE9 (F:=qBf) (f:=qX) (lo:=0) (by decide) qIC
      refine ⟨n1+n3+10,fun n hn=>?_⟩
      obtain ⟨m,rfl,hm⟩:=up1 hn
      have h1:=h1 m (by omega)
      dsimp only at h1
      obtain ⟨_,_,lp⟩:=qJ6 m s 0 0 ⟨#[]⟩ (h3 m (by omega)) 5 1 0 m (by decide) (by decide) (by omega)
      rw [qQW] at lp
      simp only [qAD,qAy,qC,qD,qF,qG,qH,qJ,Option.bind_some,qE,qK,qM,te,b0,hg,k39,e39,tT,bT,tF,bF,k35,e35,lp,h1,ho]
      by_cases hz:qDd s=0<;>simp [hz]
     ·have n35:¬s.toList.head?=some 35:=by rw [hd];simpa using h35
      have e35:(some c==some 35)=false:=by simpa using h35
      rw [qPZ n39 hF hT n35 h0,qPa s hcr]
      dsimp only [em]
      by_cases h45:c=45
      ·have e45:(some c==some 45)=true:=by rw [h45];rfl
       have g16:∀{q:List UInt8},(l1I q 16).2=true→(0≤(l1I q 16).1∧(l1I q 16).1≤10000000000000000):=fun {q} hq=>by
        have p16:(10:Nat)^16=10000000000000000:=by decide
        obtain ⟨a1,a2,a3,a4⟩:=qMO hq
        rw [a3]
        simp only [qFx,Bool.and_eq_true] at a2
        have:=qO7 q 0 0 a2.1.2 (by decide)
        have h2:(10:Nat)^(0+q.length)≤10^16:=Nat.pow_le_pow_right (by decide) (by omega)
        omega
       have hl:=qEc (s.extract (1:Int).toNat ((s.size:Int)).toNat) 16 (by decide)
       rw [qRP] at hl
       have hrange:= @g16 s.toList.tail
       generalize l1I s.toList.tail 16=q at*
       obtain ⟨x,ok⟩:=q
       have w1:ok=true→IntKind.i64.wrap (0-x)= -x:=fun h=>by
        have:=hrange h
        dsimp only at this
        rw [Int.zero_sub];exact qZ (by omega)
       obtain ⟨n1,h1⟩:=hl
       obtain ⟨n2,h2⟩:=qBo 1 (-x) ⟨#[]⟩ (by decide)
       refine ⟨n1+n2+1,fun n hn=>?_⟩
       obtain ⟨m,rfl,hm⟩:=up1 hn
       have h1:=h1 m (by omega)
       dsimp only at h1
       have h2:=h2 m (by omega)
       dsimp only at h2
       simp only [qAD,qAy,qC,qD,qF,qG,qH,qJ,Option.bind_some,qE,qK,qM,h1,h2]
       simp only [qC,qD,qF,qG,qH,qJ,Option.bind_some,qE,qK,qM,te,b0,hg,k39,e39,tT,bT,tF,bF,k35,e35,k45,e45,h45,if_true]
       cases ok with
       |false=>simp [s1]
       |true=>
        simp only [qC,qD,qF,qG,qH,qJ,Option.bind_some,qE,qK,qM,w1 rfl,h2]
        by_cases hx:x=0
        ·simp [s1,hx]
        ·cases ho:okV 1 (-x) (⟨#[]⟩:ByteArray)<;>simp [s1,hx,ho]
      ·have e45:(some c==some 45)=false:=by simpa using h45
       have hl:=qEc s 16 (by decide)
       generalize l1I s.toList 16=q at*
       obtain ⟨x,ok⟩:=q
       obtain ⟨n1,h1⟩:=hl
       obtain ⟨n2,h2⟩:=qBo 1 x ⟨#[]⟩ (by decide)
       refine ⟨n1+n2+1,fun n hn=>?_⟩
       obtain ⟨m,rfl,hm⟩:=up1 hn
       have h1:=h1 m (by omega)
       dsimp only at h1
       have h2:=h2 m (by omega)
       dsimp only at h2
       simp only [qAD,qAy,qC,qD,qF,qG,qH,qJ,Option.bind_some,qE,qK,qM,h1,h2]
       simp only [qC,qD,qF,qG,qH,qJ,Option.bind_some,qE,qK,qM,te,b0,hg,k39,e39,tT,bT,tF,bF,k35,e35,k45,e45,if_neg h45]
       cases ok with
       |false=>simp
       |true=>cases ho:okV 1 x (⟨#[]⟩:ByteArray)<;>simp [ho]
theorem qGL {k x:Int} {s:ByteArray} (h:okV k x s=true) (h2:¬k=2):s=em:=by
 unfold okV at h
 rw [if_neg h2] at h
 simp only [Bool.and_eq_true,beq_iff_eq] at h
 exact qDE (by rw [h.1];exact qx.symm)
theorem qPA {k x:Int} {s:ByteArray} (h:okV k x s=true):k=0∨k=1∨k=2∨k=3∨k=4:=by
 by_cases k2:k=2
 ·omega
 ·unfold okV at h
  rw [if_neg k2] at h
  simp only [Bool.and_eq_true] at h
  have h:=h.2
  by_cases k0:k=0
  ·omega
  ·by_cases k1:k=1
   ·omega
   ·by_cases k3:k=3
    ·omega
    ·by_cases k4:k=4
     ·omega
     ·simp [k0,k1,k3,k4] at h
theorem qNC {k x:Int} {s:ByteArray} (h:okV k x s=true):qf (qAH k x s)=(k,x,s,true):=by
 have key:qAe (qAH k x s)=(k,x,s)→qf (qAH k x s)=(k,x,s,true):=fun hc=>by
  unfold qf
  rw [hc,if_pos ⟨h,rfl⟩]
 apply key
 rcases qPA h with rfl|rfl|rfl|rfl|rfl
 ·have he:=qGL h (by decide)
  subst he
  have hx:x=0:=by simpa [okV,em,qx] using h
  subst hx
  have:(qAH 0 0 em).toList= []:=qx
  unfold qAe
  rw [this]
  rfl
 ·have he:=qGL h (by decide)
  subst he
  have hr:=qPp h
  have ht:(qAH 1 x em).toList=Lib.itoa x:=by rw [Go.Lib.toList_data];simp [qAH,qEJ]
  have hp:=qIB ht hr
  obtain ⟨c,r,hcr,hc⟩:∃c r,Lib.itoa x=c::r∧(c=45∨qBx c=true):=by
   unfold Lib.itoa
   split
   ·exact ⟨45,_,rfl,.inl rfl⟩
   ·obtain ⟨c,r,h1,h2⟩:=qJ2 x.toNat
    exact ⟨c,r,h1,.inr h2⟩
  have hn:∀q:UInt8,qBx q=false→q≠45→c≠q:=fun q h1 h2 e=>by
   subst e
   rcases hc with hc|hc
   ·exact h2 hc
   ·rw [h1] at hc;cases hc
  have n39:=hn 39 (by decide) (by decide)
  have n35:=hn 35 (by decide) (by decide)
  have n70:=hn 70 (by decide) (by decide)
  have n84:=hn 84 (by decide) (by decide)
  unfold qAe
  rw [hp,ht,hcr]
  simp [n39,n35,n70,n84]
 ·have h2:=qMN h
  obtain ⟨rfl,_,_⟩:=h2
  have ht:(qAH 2 0 s).toList=39::s.toList:=by
   rw [Go.Lib.toList_data]
   show ((⟨#[39]⟩:ByteArray)++s).data.toList=_
   rw [qET,Go.Lib.toList_data]
   rfl
  have es:(⟨s.toList.toArray⟩:ByteArray)=s:=qDE (qAZ _)
  unfold qAe
  rw [ht]
  simp [es]
 ·have he:=qGL h (by decide)
  subst he
  have hr:=qM5 h
  have c:x=0∨x=1:=by omega
  rcases c with rfl|rfl
  ·have ht:(qAH 3 0 em).toList= [70,65,76,83,69]:=by rw [Go.Lib.toList_data];rfl
   unfold qAe
   rw [ht]
   rfl
  ·have ht:(qAH 3 1 em).toList= [84,82,85,69]:=by rw [Go.Lib.toList_data];rfl
   unfold qAe
   rw [ht]
   rfl
 ·have he:=qGL h (by decide)
  subst he
  have hr:=qOD h
  have t1:(qX 1).toList= [35,68,73,86,33]:=by rw [Go.Lib.toList_data];rfl
  have t2:(qX 2).toList= [35,84,89,80,69,33]:=by rw [Go.Lib.toList_data];rfl
  have t3:(qX 3).toList= [35,82,69,70,33]:=by rw [Go.Lib.toList_data];rfl
  have t4:(qX 4).toList= [35,79,86,69,82,33]:=by rw [Go.Lib.toList_data];rfl
  have t5:(qX 5).toList= [35,67,89,67,76,69,33]:=by rw [Go.Lib.toList_data];rfl
  have hx:qAH 4 x em=qX x:=rfl
  rw [hx]
  rcases qRo hr with rfl|rfl|rfl|rfl|rfl
  all_goals
   unfold qAe qDd
   simp [t1,t2,t3,t4,t5]
def rcK (s:ByteArray):Nat→Int→Int
 |0,_=>0
 |k+1,i=>if (qBR i).toList=s.toList then i else rcK s k (i+1)
def qEE (s:ByteArray):Int:=rcK s 52 1
theorem qPs (s:ByteArray):∀(k:Nat) (i:Int),1≤rcK s k i→(qBR (rcK s k i)).toList=s.toList
 |0,i,h=>by simp [rcK] at h
 |k+1,i,h=>by
  simp only [rcK] at h⊢
  by_cases e:(qBR i).toList=s.toList
  ·rw [if_pos e];exact e
  ·rw [if_neg e] at h⊢;exact qPs s k (i+1) h
def qDt (c:UInt8):Bool:=decide (65≤c.toNat)&&decide (c.toNat≤90)
def qV (l:List UInt8):List UInt8:=if l.head?=some 36 then l.tail else l
def qQ (l:List UInt8):List UInt8:=l.takeWhile qDt
def qe (l:List UInt8):List UInt8:=l.dropWhile qDt
def qAa (s:ByteArray):Int×Int×Bool×Bool×Bool:=
 if (l1I (qV (qe (qV s.toList))) 2).2=true∧qAd (qEE ⟨(qQ (qV s.toList)).toArray⟩) (l1I (qV (qe (qV s.toList))) 2).1=true then
  (qEE ⟨(qQ (qV s.toList)).toArray⟩,(l1I (qV (qe (qV s.toList))) 2).1,s.toList.head?==some 36,(qe (qV s.toList)).head?==some 36,true) else (0,0,false,false,false)
theorem qJW {R:Type} {B:ByteArray×Int→Tr ((ByteArray×Int)⊕(Int⊕Unit))} {s:ByteArray} (hs:∀i:Int,1≤i∧i≤52→(B (s,i)).run=some (if (qBR i).toList=s.toList then .inr (.inl i) else .inl (s,i+1))) (he:(B (s,53)).run=some (.inr (.inr ()))):
  ∀(k:Nat) (i:Int) (M:Nat),1≤i→i+k=53→k+1≤M→zD B M (s,i)=some (if rcK s k i=0 then .inr () else .inl (rcK s k i))
 |k,i,0,h1,h2,h3=>by omega
 |0,i,M+1,h1,h2,h3=>by
  have:i=53:=by omega
  subst this
  rw [qO he]
  rfl
 |k+1,i,M+1,h1,h2,h3=>by
  have h:=hs i ⟨h1,by omega⟩
  by_cases e:(qBR i).toList=s.toList
  ·rw [if_pos e] at h
   rw [qO h]
   simp only [rcK,if_pos e]
   rw [if_neg (by omega)]
  ·rw [if_neg e] at h
   rw [qa h]
   simp only [rcK,if_neg e]
   exact qJW (R:=R) hs he k (i+1) M (by omega) (by omega) (by omega)
theorem qPB {F:Nat→Int→Option ByteArray} (h:∀i,Ev (F · i) (qBR i)):∃n0,∀n,n0≤n→∀i,1≤i∧i≤52→F n i=some (qBR i):=by
 obtain ⟨n0,h1⟩:=qCN (F:=fun (i:Nat) n=>F n (i:Int)) (f:=fun i=>qBR (i:Int)) (List.range 53) (fun i _=>h i)
 refine ⟨n0,fun n hn i hi=>?_⟩
 have:=h1 n hn i.toNat (by rw [List.mem_range];omega)
 rwa [Int.toNat_of_nonneg (by omega)] at this
theorem qLq (s:ByteArray):Ev (qB5 · s) (qEE s):=by
 obtain ⟨n0,h⟩:=qPB qHY
 refine ⟨n0+60,fun n hn=>?_⟩
 obtain ⟨m,rfl,hm⟩:=up1 hn
 have hc:=h m (by omega)
 have lp:=qJW (R:=Unit) (B:=qCL m) (s:=s) (fun i hi=>by
  have g:=hc i hi
  have w1:IntKind.i64.wrap (i+1)=i+1:=qZ (by omega)
  simp only [qCL,qC,qD,qF,qG,qH,qJ,Option.bind_some,qE,qK,qM,g,w1]
  rw [if_pos (decide_eq_true hi.2)]
  by_cases e:(qBR i).toList=s.toList<;>simp [e]) (by simp [qCL,qC,qD,qF,qG,qH,qJ,Option.bind_some,qE,qK,qM]) 52 1 m (by decide) (by decide) (by omega)
 simp only [qB5,qFW,qC,qD,qF,qG,qH,qJ,Option.bind_some,qE,qK,qM,lp]
 show _=some (rcK s 52 1)
 by_cases e:rcK s 52 1=0
 ·rw [if_pos e,e];rfl
 ·rw [if_neg e];rfl
theorem qLr (s:ByteArray):Ev (qD2 · s) (qEE s):=by
 obtain ⟨n0,h⟩:=qPB qHX
 refine ⟨n0+60,fun n hn=>?_⟩
 obtain ⟨m,rfl,hm⟩:=up1 hn
 have hc:=h m (by omega)
 have lp:=qJW (R:=Unit) (B:=qCH m) (s:=s) (fun i hi=>by
  have g:=hc i hi
  have w1:IntKind.i64.wrap (i+1)=i+1:=qZ (by omega)
  simp only [qCH,qC,qD,qF,qG,qH,qJ,Option.bind_some,qE,qK,qM,g,w1]
  rw [if_pos (decide_eq_true hi.2)]
  by_cases e:(qBR i).toList=s.toList<;>simp [e]) (by simp [qCH,qC,qD,qF,qG,qH,qJ,Option.bind_some,qE,qK,qM]) 52 1 m (by decide) (by decide) (by omega)
 simp only [qD2,qFM,qC,qD,qF,qG,qH,qJ,Option.bind_some,qE,qK,qM,lp]
 show _=some (rcK s 52 1)
 by_cases e:rcK s 52 1=0
 ·rw [if_pos e,e];rfl
 ·rw [if_neg e];rfl
theorem qBu (b:ByteArray):b.size=b.toList.length:=(qAg b).symm
theorem qOH (b:ByteArray) (k:Nat):(b.extract 0 k).toList=b.toList.take k:=by
 rw [Go.Lib.toList_data,ByteArray.data_extract,Array.toList_extract,Go.Lib.toList_data]
 show (b.data.toList.drop 0).take (k-0)=_
 simp
theorem qEm (b:ByteArray) (k:Nat):(b.extract k b.size).toList=b.toList.drop k:=by
 rw [Go.Lib.toList_data,ByteArray.data_extract,Array.toList_extract,Go.Lib.toList_data]
 have hl:b.data.toList.length=b.size:=by rw [←qC1]
 show (b.data.toList.drop k).take (b.size-k)=_
 rw [List.take_of_length_le (by rw [List.length_drop,hl];exact Nat.le_refl _)]
theorem qJ8 (l:List UInt8):l.take (qQ l).length=qQ l:=by
 have h:=List.takeWhile_append_dropWhile (p:=qDt) (l:=l)
 have h2:(List.takeWhile qDt l++List.dropWhile qDt l).take (List.takeWhile qDt l).length=List.takeWhile qDt l:=List.take_left ..
 rw [h] at h2
 exact h2
theorem qHA (l:List UInt8):l.drop (qQ l).length=qe l:=by
 have h:=List.takeWhile_append_dropWhile (p:=qDt) (l:=l)
 have h2:(List.takeWhile qDt l++List.dropWhile qDt l).drop (List.takeWhile qDt l).length=List.dropWhile qDt l:=List.drop_left ..
 rw [h] at h2
 exact h2
theorem qLO (l:List UInt8):(qQ l).length≤l.length:=by
 have h:=congrArg List.length (List.takeWhile_append_dropWhile (p:=qDt) (l:=l))
 rw [List.length_append] at h
 unfold qQ
 omega
theorem qJ9 (n:Nat) (b:ByteArray) (fc:Bool) (hb:b.size≤1048576):∀(r pre:List UInt8) (M:Nat),b.toList=pre++r→r.length+1≤M→
  zD (q8 n) M (b,(pre.length:Int),0,0,false,false,0,0,fc,false)=some (b,((pre.length+(qQ r).length:Nat):Int),0,0,false,false,0,0,fc,false)
 |r,pre,0,h1,h2=>by omega
 | [],pre,M+1,h1,h2=>by
  have hi:¬(pre.length:Int)<b.size:=by rw [qBu,h1];simp
  rw [qO (r:=(b,(pre.length:Int),0,0,false,false,0,0,fc,false)) (by simp [q8,qC,qD,qF,qG,qH,qJ,Option.bind_some,qE,qK,qM,hi])]
  simp [qQ]
 |c::r,pre,M+1,h1,h2=>by
  have hl:b.size=pre.length+(r.length+1):=by rw [qBu,h1];simp
  have hi:(pre.length:Int)<b.size:=by omega
  have hg:b.toList[pre.length]?=some c:=by rw [h1];simp
  have w1:IntKind.i64.wrap ((pre.length:Int)+1)=(pre.length:Int)+1:=qZ (by omega)
  by_cases hc:qDt c=true
  ·have hc':65≤c.toNat∧c.toNat≤90:=by simpa [qDt] using hc
   have c1:(c.toNat:Int)≥65:=by omega
   have c2:(c.toNat:Int)≤90:=by omega
   have e0:((pre++ [c]).length:Int)=(pre.length:Int)+1:=by simp
   rw [qa (v':=(b,((pre++ [c]).length:Int),0,0,false,false,0,0,fc,false)) (by
    rw [e0]
    simp [q8,qC,qD,qF,qG,qH,qJ,Option.bind_some,qE,qK,qM,hi,hg,c1,c2,w1])]
   rw [qJ9 n b fc hb r (pre++ [c]) M (by rw [h1];simp) (by simp at h2;omega)]
   simp [qQ,hc]
   omega
  ·rw [qO (r:=(b,(pre.length:Int),0,0,false,false,0,0,fc,false)) (by
    by_cases c1:(c.toNat:Int)≥65
    ·have c2:¬(c.toNat:Int)≤90:=fun h=>hc (by simp [qDt];omega)
     simp [q8,qC,qD,qF,qG,qH,qJ,Option.bind_some,qE,qK,qM,hi,hg,c1,c2]
    ·simp [q8,qC,qD,qF,qG,qH,qJ,Option.bind_some,qE,qK,qM,hi,hg,c1])]
   simp [qQ,hc]
theorem qKA (s:ByteArray) (hb:s.size≤1048576):Ev (qAW · s) (qAa s):=by
 have main:∀(b:ByteArray) (fc:Bool),b.size≤1048576→b.toList=qV s.toList→fc=(s.toList.head?==some 36)→
   ∃n0,∀m,n0≤m→zD (q8 m) m (b,0,0,0,false,false,0,0,fc,false)=some (b,((qQ (qV s.toList)).length:Int),0,0,false,false,0,0,fc,false)∧
    qB5 m (b.extract 0 (qQ (qV s.toList)).length)=some (qEE ⟨(qQ (qV s.toList)).toArray⟩)∧
    qz m (b.extract (qQ (qV s.toList)).length b.size) 2=some (l1I (qe (qV s.toList)) 2)∧
    qz m ((b.extract (qQ (qV s.toList)).length b.size).extract 1 (b.extract (qQ (qV s.toList)).length b.size).size) 2=some (l1I (qe (qV s.toList)).tail 2):=fun b fc hb hl _=>by
  have x1:b.extract 0 (qQ (qV s.toList)).length=⟨(qQ (qV s.toList)).toArray⟩:=qDE (by rw [qOH,hl,qJ8,qAZ (qQ (qV s.toList))])
  have x2:(b.extract (qQ (qV s.toList)).length b.size).toList=qe (qV s.toList):=by rw [qEm,hl,qHA]
  have x3:((b.extract (qQ (qV s.toList)).length b.size).extract 1 (b.extract (qQ (qV s.toList)).length b.size).size).toList=(qe (qV s.toList)).tail:=by rw [qEm,x2,List.drop_one]
  obtain ⟨n1,h1⟩:=qLq (b.extract 0 (qQ (qV s.toList)).length)
  obtain ⟨n2,h2⟩:=qEc (b.extract (qQ (qV s.toList)).length b.size) 2 (by decide)
  obtain ⟨n3,h3⟩:=qEc ((b.extract (qQ (qV s.toList)).length b.size).extract 1 (b.extract (qQ (qV s.toList)).length b.size).size) 2 (by decide)
  rw [x1] at h1
  rw [x2] at h2
  rw [x3] at h3
  refine ⟨n1+n2+n3+b.size+2,fun m hm=>⟨?_,by rw [x1];exact h1 m (by omega),h2 m (by omega),h3 m (by omega)⟩⟩
  have:=qJ9 m b fc hb b.toList [] m rfl (by rw [←qBu];omega)
  simp only [List.length_nil,Int.natCast_zero,Nat.zero_add] at this
  rw [this,hl]
 have z:∀(b:ByteArray),b.toList=qV s.toList→((qQ (qV s.toList)).length:Int)≤b.size:=fun b hl=>by
  have:=qLO (qV s.toList)
  rw [←hl] at this⊢
  rw [qBu]
  omega
 have k36:∀c:UInt8,((c.toNat:Int)==36)=(some c==some 36):=fun c=>by
  have h:=qQV c 36 (by decide)
  have u:UInt8.ofNat 36=36:=rfl
  rw [u] at h
  exact h
 unfold qAa
 have part:∀(b:ByteArray) (fc:Bool),b.size≤1048576→b.toList=qV s.toList→fc=(s.toList.head?==some 36)→
   ((fc=true∧b=s.extract 1 s.size∧∃c r,s.toList=c::r∧c=36)∨(fc=false∧b=s∧∀c r,s.toList=c::r→(some c==some (36:UInt8))=false))→
   Ev (qAW · s) (if (l1I (qV (qe (qV s.toList))) 2).2=true∧qAd (qEE ⟨(qQ (qV s.toList)).toArray⟩) (l1I (qV (qe (qV s.toList))) 2).1=true then
    (qEE ⟨(qQ (qV s.toList)).toArray⟩,(l1I (qV (qe (qV s.toList))) 2).1,s.toList.head?==some 36,(qe (qV s.toList)).head?==some 36,true) else (0,0,false,false,false)):=fun b fc hb2 hl hfc hcase=>by
  obtain ⟨n0,hm0⟩:=main b fc hb2 hl hfc
  have hz:=z b hl
  obtain ⟨n2,h2⟩:=qCz (qEE ⟨(qQ (qV s.toList)).toArray⟩) (l1I (qV (qe (qV s.toList))) 2).1
  have x2:(b.extract (qQ (qV s.toList)).length b.size).toList=qe (qV s.toList):=by rw [qEm,hl,qHA]
  rw [←hfc]
  refine ⟨n0+n2+1,fun n hn=>?_⟩
  obtain ⟨m,rfl,hm⟩:=up1 hn
  obtain ⟨g1,g2,g3,g4⟩:=hm0 m (by omega)
  have h2:=h2 m (by omega)
  dsimp only at h2
  have e1:(1:Int).toNat=1:=rfl
  have e0:(0:Int).toNat=0:=rfl
  have start:∀q,(qB1 m s).run=q→qAW (m+1) s=q:=fun q h=>h
  apply start
  rcases hcase with ⟨rfl,rfl,c,r,hcr,rfl⟩|⟨rfl,rfl,hno⟩
  ·have hsz:(s.size:Int)>0:=by rw [qBu,hcr];simp<;>omega
   have hs1:(1:Int)≤s.size:=by omega
   have hg:s.toList[0]?=some 36:=by rw [hcr];rfl
   have bs:(s.extract 1 s.size).size=s.size-1:=by rw [qBu,qEm,List.length_drop,←qBu]
   have zn:(qQ (qV s.toList)).length≤s.size-1:=by rw [←bs];omega
   have sn:0<s.size:=by omega
   have c36:((((36:UInt8)).toNat:Int)==36)=true:=rfl
   simp only [qB1,qC,qD,qF,qG,qH,qJ,Option.bind_some,qE,qK,qM,Int.toNat_natCast,e0,e1,hg,c36,g1,g2]
   cases hq:qe (qV s.toList) with
   |nil=>
    have y0:((s.extract 1 s.size).extract (qQ (qV s.toList)).length (s.extract 1 s.size).size).size=0:=by rw [qBu,x2,hq];rfl
    have hoff:qV (qe (qV s.toList))= []:=by rw [hq];rfl
    rw [hoff] at h2
    rw [hq] at g3
    simp only [y0,g3,h2,qC,qD,qF,qG,qH,qJ,Option.bind_some,qE,qK,qM]
    have hoff':qV ([]:List UInt8)= []:=rfl
    rw [hoff']
    generalize l1I ([]:List UInt8) 2=q at*
    obtain ⟨x,ok⟩:=q
    cases ok<;>cases hk:qAd (qEE ⟨(qQ (qV s.toList)).toArray⟩) x<;>simp [hz,hsz,hs1,zn,sn]
   |cons d w=>
    have y0:(((s.extract 1 s.size).extract (qQ (qV s.toList)).length (s.extract 1 s.size).size).size:Int)>0:=by rw [qBu,x2,hq];simp<;>omega
    have y1:(1:Int)≤((s.extract 1 s.size).extract (qQ (qV s.toList)).length (s.extract 1 s.size).size).size:=by omega
    have ys:((s.extract 1 s.size).extract (qQ (qV s.toList)).length (s.extract 1 s.size).size).size=(s.extract 1 s.size).size-(qQ (qV s.toList)).length:=by rw [qBu,qEm,List.length_drop,←qBu]
    have yn:(qQ (qV s.toList)).length<(s.size-1):=by rw [←bs];omega
    have yn2:1≤(s.size-1)-(qQ (qV s.toList)).length:=by omega
    have yn3:0<(s.size-1)-(qQ (qV s.toList)).length:=by omega
    have yn4:(1:Int)≤(((s.size-1)-(qQ (qV s.toList)).length:Nat):Int):=by omega
    have yg:((s.extract 1 s.size).extract (qQ (qV s.toList)).length (s.extract 1 s.size).size).toList[0]?=some d:=by rw [x2,hq];rfl
    rw [hq] at g3 g4 h2
    simp only [yg,k36 d,qC,qD,qF,qG,qH,qJ,Option.bind_some,qE,qK,qM]
    by_cases hd:d=36
    ·have hoff:qV (d::w)=w:=by unfold qV;rw [if_pos (by rw [hd];rfl)];rfl
     rw [hoff] at h2⊢
     have e36:(some d==some (36:UInt8))=true:=by rw [hd];rfl
     simp only [List.tail_cons] at g4
     simp only [e36,g4,h2,List.head?_cons,qC,qD,qF,qG,qH,qJ,Option.bind_some,qE,qK,qM]
     generalize l1I w 2=q at*
     obtain ⟨x,ok⟩:=q
     cases ok<;>cases hk:qAd (qEE ⟨(qQ (qV s.toList)).toArray⟩) x<;>simp [hz,hsz,hs1,y0,y1,zn,sn,yn,yn2,yn3,yn4]
    ·have hoff:qV (d::w)=d::w:=by unfold qV;rw [if_neg (by simpa using hd)]
     rw [hoff] at h2⊢
     have e36:(some d==some (36:UInt8))=false:=by simpa using hd
     simp only [e36,g3,h2,List.head?_cons,qC,qD,qF,qG,qH,qJ,Option.bind_some,qE,qK,qM]
     generalize l1I (d::w) 2=q at*
     obtain ⟨x,ok⟩:=q
     cases ok<;>cases hk:qAd (qEE ⟨(qQ (qV s.toList)).toArray⟩) x<;>simp [hz,hsz,hs1,y0,y1,zn,sn,yn,yn2,yn3,yn4]
  ·by_cases hs0:(b.size:Int)>0
   ·obtain ⟨c,r,hcr⟩:∃c r,b.toList=c::r:=by
     cases hq:b.toList with
     |nil=>rw [qBu,hq] at hs0;simp at hs0
     |cons a l=>exact ⟨a,l,rfl⟩
    have hg:b.toList[0]?=some c:=by rw [hcr];rfl
    have hc:=hno c r hcr
    have hsz:(b.size:Int)>0:=hs0
    have hs1:(1:Int)≤b.size:=by omega
    have zn:(qQ (qV b.toList)).length≤b.size:=by omega
    have sn:0<b.size:=by omega
    simp only [qB1,qC,qD,qF,qG,qH,qJ,Option.bind_some,qE,qK,qM,Int.toNat_natCast,e0,e1,hg,k36 c,hc,g1,g2]
    cases hq:qe (qV b.toList) with
    |nil=>
     have y0:(b.extract (qQ (qV b.toList)).length b.size).size=0:=by rw [qBu,x2,hq];rfl
     have hoff:qV (qe (qV b.toList))= []:=by rw [hq];rfl
     rw [hoff] at h2
     rw [hq] at g3
     simp only [y0,g3,h2,qC,qD,qF,qG,qH,qJ,Option.bind_some,qE,qK,qM]
     have hoff':qV ([]:List UInt8)= []:=rfl
     rw [hoff']
     generalize l1I ([]:List UInt8) 2=q at*
     obtain ⟨x,ok⟩:=q
     cases ok<;>cases hk:qAd (qEE ⟨(qQ (qV b.toList)).toArray⟩) x<;>simp [hz,hsz,hs1,zn,sn]
    |cons d w=>
     have y0:((b.extract (qQ (qV b.toList)).length b.size).size:Int)>0:=by rw [qBu,x2,hq];simp<;>omega
     have y1:(1:Int)≤(b.extract (qQ (qV b.toList)).length b.size).size:=by omega
     have ys:(b.extract (qQ (qV b.toList)).length b.size).size=b.size-(qQ (qV b.toList)).length:=by rw [qBu,qEm,List.length_drop,←qBu]
     have yn:(qQ (qV b.toList)).length<b.size:=by omega
     have yn2:1≤b.size-(qQ (qV b.toList)).length:=by omega
     have yn3:0<b.size-(qQ (qV b.toList)).length:=by omega
     have yn4:(1:Int)≤((b.size-(qQ (qV b.toList)).length:Nat):Int):=by omega
     have yg:(b.extract (qQ (qV b.toList)).length b.size).toList[0]?=some d:=by rw [x2,hq];rfl
     rw [hq] at g3 g4 h2
     simp only [yg,k36 d,qC,qD,qF,qG,qH,qJ,Option.bind_some,qE,qK,qM]
     by_cases hd:d=36
     ·have hoff:qV (d::w)=w:=by unfold qV;rw [if_pos (by rw [hd];rfl)];rfl
      rw [hoff] at h2⊢
      have e36:(some d==some (36:UInt8))=true:=by rw [hd];rfl
      simp only [List.tail_cons] at g4
      simp only [e36,g4,h2,List.head?_cons,qC,qD,qF,qG,qH,qJ,Option.bind_some,qE,qK,qM]
      generalize l1I w 2=q at*
      obtain ⟨x,ok⟩:=q
      cases ok<;>cases hk:qAd (qEE ⟨(qQ (qV b.toList)).toArray⟩) x<;>simp [hz,hsz,hs1,y0,y1,zn,sn,yn,yn2,yn3,yn4]
     ·have hoff:qV (d::w)=d::w:=by unfold qV;rw [if_neg (by simpa using hd)]
      rw [hoff] at h2⊢
      have e36:(some d==some (36:UInt8))=false:=by simpa using hd
      simp only [e36,g3,h2,List.head?_cons,qC,qD,qF,qG,qH,qJ,Option.bind_some,qE,qK,qM]
      generalize l1I (d::w) 2=q at*
      obtain ⟨x,ok⟩:=q
      cases ok<;>cases hk:qAd (qEE ⟨(qQ (qV b.toList)).toArray⟩) x<;>simp [hz,hsz,hs1,y0,y1,zn,sn,yn,yn2,yn3,yn4]
   ·have hsz:¬(b.size:Int)>0:=hs0
    have hs1:True:=trivial
    have zn:(qQ (qV b.toList)).length≤b.size:=by omega
    have sn:b.size=0:=by omega
    have lb:b.toList= []:=List.eq_nil_of_length_eq_zero (by rw [←qBu];omega)
    have hb0:qe (qV b.toList)= []:=by rw [lb];rfl
    have ln:qQ (qV b.toList)= []:=by rw [lb];rfl
    simp only [qB1,qC,qD,qF,qG,qH,qJ,Option.bind_some,qE,qK,qM,Int.toNat_natCast,e0,e1,g1,g2]
    cases hq:qe (qV b.toList) with
    |nil=>
     have y0:(b.extract (qQ (qV b.toList)).length b.size).size=0:=by rw [qBu,x2,hq];rfl
     have hoff:qV (qe (qV b.toList))= []:=by rw [hq];rfl
     rw [hoff] at h2
     rw [hq] at g3
     simp only [y0,g3,h2,qC,qD,qF,qG,qH,qJ,Option.bind_some,qE,qK,qM]
     have hoff':qV ([]:List UInt8)= []:=rfl
     rw [hoff']
     generalize l1I ([]:List UInt8) 2=q at*
     obtain ⟨x,ok⟩:=q
     cases ok<;>cases hk:qAd (qEE ⟨(qQ (qV b.toList)).toArray⟩) x<;>simp [hz,hsz,hs1,zn,sn,ln]
    |cons d w=>rw [hb0] at hq;cases hq
 by_cases h36:s.toList.head?=some 36
 ·have ho:qV s.toList=s.toList.tail:=by unfold qV;rw [if_pos h36]
  have ht:(s.extract 1 s.size).toList=s.toList.tail:=by rw [qEm,List.drop_one]
  obtain ⟨c,r,hcr⟩:∃c r,s.toList=c::r:=by
   cases hq:s.toList with
   |nil=>rw [hq] at h36;cases h36
   |cons a l=>exact ⟨a,l,rfl⟩
  refine part (s.extract 1 s.size) true (by rw [qBu,ht,List.length_tail,←qBu];omega) (by rw [ht,ho]) (by rw [h36];rfl) (.inl ⟨rfl,rfl,c,r,hcr,?_⟩)
  rw [hcr] at h36
  simpa using h36
 ·have ho:qV s.toList=s.toList:=by unfold qV;rw [if_neg h36]
  refine part s false hb ho.symm (by symm;simpa using h36) (.inr ⟨rfl,rfl,fun c r hcr=>?_⟩)
  rw [hcr] at h36
  simpa using h36
def upS:ByteArray:=⟨#[65,66,67,68,69,70,71,72,73,74,75,76,77,78,79,80,81,82,83,84,85,86,87,88,89,90]⟩
theorem qQ2:∀i:Fin 256,(upS.data.toList.contains (UInt8.ofNat i.val))=(decide (65≤i.val)&&decide (i.val≤90)):=by decide+kernel
theorem qRQ (c:UInt8):(upS.data.toList.contains c)=qDt c:=by
 have h:=qQ2 ⟨c.toNat,UInt8.toNat_lt c⟩
 have e:UInt8.ofNat c.toNat=c:=by simp
 simp only [e] at h
 exact h
theorem qPt:(upS.data.toList.all fun b=>decide (b.toNat<128))=true:=by decide+kernel
theorem qOI (s:ByteArray):Ev (qBA · s ⟨#[65,66,67,68,69,70,71,72,73,74,75,76,77,78,79,80,81,82,83,84,85,86,87,88,89,90]⟩) ⟨(qe s.toList).toArray⟩:=by
 refine ⟨1,fun n hn=>?_⟩
 obtain ⟨m,rfl,hm⟩:=up1 hn
 show zK s upS=_
 unfold zK
 rw [if_pos ⟨by decide,qPt⟩]
 unfold Lib.trimLeftS qe
 rw [Go.Lib.toList_data]
 have:(fun c=>upS.data.toList.contains c)=qDt:=funext qRQ
 rw [this]
theorem qOJ (s:ByteArray):Ev (qAL · s ⟨#[36]⟩) (⟨(qV s.toList).toArray⟩,s.toList.head?==some 36):=by
 have h:=qG9 s 36
 have es:(⟨s.toList.toArray⟩:ByteArray)=s:=qDE (qAZ s.toList)
 by_cases e:s.toList.head?=some 36
 ·rw [if_pos e] at h
  have:(s.toList.head?==some 36)=true:=by simpa using e
  unfold qV
  rw [if_pos e,this]
  exact h
 ·rw [if_neg e] at h
  have:(s.toList.head?==some 36)=false:=by simpa using e
  unfold qV
  rw [if_neg e,this,es]
  exact h
theorem qPC {r:Int} (h:1≤r∧r≤99):l1I (Lib.itoa r) 2=(r,true):=by
 have e:Lib.itoa r=Lib.decDigits r.toNat:=by unfold Lib.itoa;rw [if_neg (by omega)]
 obtain ⟨h1,h2,h3,_,_⟩:=qDp r.toNat
 have hl:(Lib.decDigits r.toNat).length≤2:=by
  rw [Lib.decDigits_length]
  exact qQx 2 r.toNat (by omega) (by
   have:(10:Nat)^2=100:=by decide
   omega)
 rw [e]
 unfold l1I
 rw [if_pos ⟨by omega,qM7 _⟩,h2]
 congr 1
 omega
theorem qRR {l:List UInt8} (h:(l1I l 2).2=true):(l1I l 2).1=(qCn 0 l:Int)∧Lib.decDigits (qCn 0 l)=l:=by
 unfold l1I at h⊢
 split at h
 ·rename_i hc
  rw [if_pos hc]
  exact ⟨rfl,qK4 _ l rfl hc.2⟩
 ·cases h
theorem qPu (s:ByteArray):qAa s=if qAd (qEE ⟨(qQ (qV s.toList)).toArray⟩) (qBZ ⟨(qV (qe (qV s.toList))).toArray⟩)=true∧
  (qAU (qEE ⟨(qQ (qV s.toList)).toArray⟩) (qBZ ⟨(qV (qe (qV s.toList))).toArray⟩) (s.toList.head?==some 36) ((qe (qV s.toList)).head?==some 36)).toList=s.toList then
   (qEE ⟨(qQ (qV s.toList)).toArray⟩,qBZ ⟨(qV (qe (qV s.toList))).toArray⟩,s.toList.head?==some 36,(qe (qV s.toList)).head?==some 36,true) else (0,0,false,false,false):=by
 have hoff:∀l:List UInt8,l=(if (l.head?==some 36)=true then [36] else [])++qV l:=fun l=>by
  unfold qV
  cases l with
  |nil=>rfl
  |cons c r=>
   by_cases e:c=36
   ·subst e;simp
   ·simp [e]
 have hsplit:qV s.toList=qQ (qV s.toList)++qe (qV s.toList):=(List.takeWhile_append_dropWhile (p:=qDt) (l:=qV s.toList)).symm
 have hs:s.toList=(if (s.toList.head?==some 36)=true then [36] else [])++qQ (qV s.toList)++(if ((qe (qV s.toList)).head?==some 36)=true then [36] else [])++qV (qe (qV s.toList)):=by
  conv=>lhs;rw [hoff s.toList,hsplit,hoff (qe (qV s.toList))]
  simp only [List.append_assoc]
 unfold qAa
 generalize hL:qQ (qV s.toList)=L at*
 generalize hR:qV (qe (qV s.toList))=R at*
 generalize (s.toList.head?==some 36)=fc at*
 generalize ((qe (qV s.toList)).head?==some 36)=fr at*
 have col:∀r,qAd (qEE ⟨L.toArray⟩) r=true→(qBR (qEE ⟨L.toArray⟩)).data.toList=L:=fun r h=>by
  have:=qPs (⟨L.toArray⟩:ByteArray) 52 1 (qEB h).1.1
  rw [qAZ L,Go.Lib.toList_data] at this
  exact this
 have pl:∀r,qAd (qEE ⟨L.toArray⟩) r=true→(qAU (qEE ⟨L.toArray⟩) r fc fr).toList=(if fc=true then [36] else [])++L++(if fr=true then [36] else [])++Lib.itoa r:=fun r h=>by
  rw [Go.Lib.toList_data]
  unfold qAU
  rw [if_pos h,col r h]
  simp [qEJ]
 have tR:(⟨R.toArray⟩:ByteArray).toList=R:=qAZ R
 by_cases hA:(l1I R 2).2=true∧qAd (qEE ⟨L.toArray⟩) (l1I R 2).1=true
 ·obtain ⟨a1,a2⟩:=qRR hA.1
  have hr:=(qEB hA.2).2
  have hi:R=Lib.itoa (l1I R 2).1:=by
   rw [a1]
   unfold Lib.itoa
   rw [if_neg (by omega),Int.toNat_natCast,a2]
  have hp:qBZ ⟨R.toArray⟩=(l1I R 2).1:=qIB (by rw [tR];exact hi) (by omega)
  rw [if_pos hA,hp,if_pos ⟨hA.2,by rw [pl _ hA.2,←hi];exact hs.symm⟩]
 ·rw [if_neg hA,if_neg]
  rintro ⟨h1,h2⟩
  rw [pl _ h1] at h2
  have h3:R=Lib.itoa (qBZ ⟨R.toArray⟩):=by
   rw [hs] at h2
   exact (List.append_cancel_left h2).symm
  have h4:=qPC (qEB h1).2
  rw [←h3] at h4
  exact hA (by rw [h4];exact ⟨rfl,h1⟩)
theorem qKB (s:ByteArray) (hb:s.size≤1048576):Ev (qAO · s) (qAa s):=by
 rw [qPu]
 have hlen:=qLO (qV s.toList)
 have lo:(qV s.toList).length≤s.size:=by
  unfold qV
  rw [qBu]
  split
  ·rw [List.length_tail];omega
  ·exact Nat.le_refl _
 have l2:(qe (qV s.toList)).length+(qQ (qV s.toList)).length=(qV s.toList).length:=by
  have h:=congrArg List.length (List.takeWhile_append_dropWhile (p:=qDt) (l:=qV s.toList))
  rw [List.length_append] at h
  unfold qe qQ
  omega
 have z1:(⟨(qV s.toList).toArray⟩:ByteArray).size=(qV s.toList).length:=by rw [qBu,qAZ (qV s.toList)]
 have z2:(⟨(qe (qV s.toList)).toArray⟩:ByteArray).size=(qe (qV s.toList)).length:=by rw [qBu,qAZ (qe (qV s.toList))]
 have w1:IntKind.i64.wrap (((qV s.toList).length:Int)-(qe (qV s.toList)).length)=((qQ (qV s.toList)).length:Int):=by rw [qZ (by omega)];omega
 have x1:(⟨(qV s.toList).toArray⟩:ByteArray).extract 0 (qQ (qV s.toList)).length=⟨(qQ (qV s.toList)).toArray⟩:=qDE (by rw [qOH,qAZ (qV s.toList),qJ8,qAZ (qQ (qV s.toList))])
 have x2:(⟨(qV s.toList).toArray⟩:ByteArray).extract (qQ (qV s.toList)).length (qV s.toList).length=⟨(qe (qV s.toList)).toArray⟩:=qDE (by rw [←z1,qEm,qAZ (qV s.toList),qHA,qAZ (qe (qV s.toList))])
 have lr:(⟨(qV (qe (qV s.toList))).toArray⟩:ByteArray).size≤281474976710656:=by
  rw [qBu,qAZ (qV (qe (qV s.toList)))]
  have:(qV (qe (qV s.toList))).length≤(qe (qV s.toList)).length:=by
   generalize qe (qV s.toList)=q
   unfold qV
   split
   ·rw [List.length_tail];omega
   ·exact Nat.le_refl _
  omega
 obtain ⟨n1,h1⟩:=qOJ s
 obtain ⟨n2,h2⟩:=qOI ⟨(qV s.toList).toArray⟩
 rw [qAZ (qV s.toList)] at h2
 obtain ⟨n3,h3⟩:=qLr ⟨(qQ (qV s.toList)).toArray⟩
 obtain ⟨n4,h4⟩:=qOJ ⟨(qe (qV s.toList)).toArray⟩
 rw [qAZ (qe (qV s.toList))] at h4
 generalize qV s.toList=A at*
 generalize qe A=Bq at*
 generalize qQ A=L at*
 generalize qV Bq=R at*
 generalize (s.toList.head?==some 36)=fc at*
 generalize (Bq.head?==some 36)=fr at*
 obtain ⟨n5,h5⟩:=qDc (qEE ⟨L.toArray⟩) (qBZ ⟨R.toArray⟩)
 obtain ⟨n6,h6⟩:=qC2 (qEE ⟨L.toArray⟩) (qBZ ⟨R.toArray⟩) fc fr
 have e0:(0:Int).toNat=0:=rfl
 have c1:L.length≤A.length:=by omega
 rcases qLM ⟨R.toArray⟩ lr with ⟨n7,h7⟩|⟨n7,h7⟩
 all_goals
  refine ⟨n1+n2+n3+n4+n5+n6+n7+1,fun n hn=>?_⟩
  obtain ⟨m,rfl,hm⟩:=up1 hn
  have h1:=h1 m (by omega)
  have h2:=h2 m (by omega)
  have h3:=h3 m (by omega)
  have h4:=h4 m (by omega)
  have h5:=h5 m (by omega)
  have h6:=h6 m (by omega)
  have h7:=h7 m (by omega)
  dsimp only at h1 h2 h3 h4 h5 h6 h7
  simp only [qAO,qEQ,qC,qD,qF,qG,qH,qJ,Option.bind_some,qE,qK,qM,h1,h2,z1,z2,w1,Int.toNat_natCast,e0,x1,x2,h3,h4,h5,h6,h7]
  cases hk:qAd (qEE ⟨L.toArray⟩) (qBZ ⟨R.toArray⟩) with
  |false=>simp [c1]
  |true=>by_cases e:(qAU (qEE ⟨L.toArray⟩) (qBZ ⟨R.toArray⟩) fc fr).toList=s.toList<;>simp [c1,e]
theorem qPv:∀i:Fin 52,qEE (qBR ((i.val:Int)+1))=(i.val:Int)+1:=by decide+kernel
theorem qPb {c:Int} (h:1≤c∧c≤52):qEE (qBR c)=c:=by
 have:=qPv ⟨(c-1).toNat,by omega⟩
 have e:(((c-1).toNat:Nat):Int)+1=c:=by omega
 simpa only [e] using this
theorem qPw:∀i:Fin 52,(qBR ((i.val:Int)+1)).data.toList.all qDt=true∧(qBR ((i.val:Int)+1)).data.toList.head?≠some 36∧(qBR ((i.val:Int)+1)).data.toList≠ []:=by decide+kernel
theorem qNr {c:Int} (h:1≤c∧c≤52):(qBR c).data.toList.all qDt=true∧(qBR c).data.toList.head?≠some 36∧(qBR c).data.toList≠ []:=by
 have:=qPw ⟨(c-1).toNat,by omega⟩
 have e:(((c-1).toNat:Nat):Int)+1=c:=by omega
 simpa only [e] using this
theorem qOK {l r:List UInt8} (h:l.all qDt=true) (h2:∀c,r.head?=some c→qDt c=false):qQ (l++r)=l∧qe (l++r)=r:=by
 unfold qQ qe
 rw [List.all_eq_true] at h
 rw [List.takeWhile_append_of_pos h,List.dropWhile_append_of_pos h]
 cases r with
 |nil=>simp
 |cons c r=>simp [h2 c rfl]
theorem qOL (l:List UInt8):qV (36::l)=l:=rfl
theorem qPx {l:List UInt8} (h:l.head?≠some 36):qV l=l:=by unfold qV;rw [if_neg h]
theorem qJX {c r:Int} {fc fr:Bool} (h:qAd c r=true):qAa (qAU c r fc fr)=(c,r,fc,fr,true):=by
 obtain ⟨hc,hr⟩:=qEB h
 obtain ⟨u1,u2,u3⟩:=qNr hc
 have ht:(qAU c r fc fr).toList=(if fc=true then [36] else [])++((qBR c).data.toList++((if fr=true then [36] else [])++Lib.itoa r)):=by
  rw [Go.Lib.toList_data]
  simp [qAU,h,qEJ]
 have hi:∃d w,Lib.itoa r=d::w∧qBx d=true:=by
  unfold Lib.itoa
  rw [if_neg (by omega)]
  exact qJ2 _
 obtain ⟨d,w,hdw,hd⟩:=hi
 have hd1:qDt d=false:=by
  simp only [qBx,Bool.and_eq_true,decide_eq_true_eq] at hd
  simp [qDt];omega
 have hd2:d≠36:=fun e=>by rw [e] at hd;cases hd
 have e1:qV (qAU c r fc fr).toList=(qBR c).data.toList++((if fr=true then [36] else [])++Lib.itoa r):=by
  rw [ht]
  cases fc with
  |true=>exact qOL _
  |false=>
   refine qPx ?_
   cases hq:(qBR c).data.toList with
   |nil=>exact absurd hq u3
   |cons a b=>rw [hq] at u2;simpa using u2
 have e2:=qOK (l:=(qBR c).data.toList) (r:=(if fr=true then [36] else [])++Lib.itoa r) u1 (fun q hq=>by
  cases fr with
  |true=>simp at hq;rw [←hq];decide
  |false=>simp [hdw] at hq;rw [←hq];exact hd1)
 have e3:qV ((if fr=true then [36] else [])++Lib.itoa r)=Lib.itoa r:=by
  cases fr with
  |true=>exact qOL _
  |false=>exact qPx (by simp [hdw,hd2])
 unfold qAa
 rw [e1,e2.1,e2.2,e3,qPC hr]
 have hm:(⟨((qBR c).data.toList).toArray⟩:ByteArray)=qBR c:=by simp
 rw [hm,qPb hc,if_pos ⟨rfl,h⟩]
 have q1:((qAU c r fc fr).toList.head?==some 36)=fc:=by
  rw [ht]
  cases fc with
  |true=>rfl
  |false=>
   cases hq:(qBR c).data.toList with
   |nil=>exact absurd hq u3
   |cons a b=>rw [hq] at u2;simpa using u2
 have q2:(((if fr=true then [36] else [])++Lib.itoa r).head?==some (36:UInt8))=fr:=by
  cases fr with
  |true=>rfl
  |false=>simp [hdw,hd2]
 rw [q1,q2]
theorem qND {l:List (List PV)} {p:Int} (k:Int) (hk:1≤k∧k≤1000000) (hl:qHi l) (hp:0≤p∧p≤l.length):∃(a p':Int),(0≤p'∧p'≤l.length)∧(0≤a∧a<k)∧∀n,2≤n→qP n k l p=some (a,l,p'):=by
 by_cases h:k=1
 ·subst h
  refine ⟨0,p,hp,by decide,fun n hn=>?_⟩
  obtain ⟨m,rfl,hm⟩:=up1 hn
  simp [qP,qCD,qC,qD,qF,qG,qH,qJ,Option.bind_some,qE,qK,qM]
 ·exact qBN k (by omega) hl hp
theorem qNE:∀{rows:List (List PV)} {bl:List UInt8} (a:Int),bytesOf rows=some bl→∃c,bytesOf (rows++ [[.i .u8 a]])=some (bl++ [c])
 | [],bl,a,h=>by
  simp only [bytesOf,Option.some.injEq] at h
  subst h
  exact ⟨_,rfl⟩
 |r::rows,bl,a,h=>by
  unfold bytesOf at h
  split at h
  ·rename_i heq
   cases heq
  ·rename_i x rs heq
   cases heq
   obtain ⟨q,hq,rfl⟩:=Option.map_eq_some_iff.1 h
   obtain ⟨c,hc⟩:=qNE a hq
   refine ⟨c,?_⟩
   simp only [List.cons_append,bytesOf,hc,Option.map_some]
  ·cases h
theorem qNF:∀{rows:List (List PV)} {bl:List UInt8},bytesOf rows=some bl→bl.length=rows.length
 | [],bl,h=>by
  simp only [bytesOf,Option.some.injEq] at h
  subst h
  rfl
 |r::rows,bl,h=>by
  unfold bytesOf at h
  split at h
  ·rename_i heq
   cases heq
  ·rename_i x rs heq
   cases heq
   obtain ⟨q,hq,rfl⟩:=Option.map_eq_some_iff.1 h
   simp [qNF hq]
  ·cases h
theorem qMR {l:List (List PV)} (hl:qHi l):∀(m:Nat) (rows:List (List PV)) (bl:List UInt8) (p:Int),bytesOf rows=some bl→rows.length+m≤1000→(0≤p∧p≤l.length)→∃(rows':List (List PV)) (bl':List UInt8) (p':Int),(0≤p'∧p'≤l.length)∧bytesOf rows'=some bl'∧rows'.length=rows.length+m∧∀n M,2≤n→m+1≤M→zD (qBh n) M (rows.length,(m:Int),rows,l,p)=some (rows'.length,rows',l,p')
 |0,rows,bl,p,hb,hr,hp=>by
  refine ⟨rows,bl,p,hp,hb,rfl,fun n M hn hM=>?_⟩
  obtain ⟨M,rfl⟩:∃q,M=q+1:=⟨M-1,by omega⟩
  rw [qO (r:=(rows.length,rows,l,p)) (by simp [qBh,qC,qD,qF,qG,qH,qJ,Option.bind_some,qE,qK,qM])]
 |m+1,rows,bl,p,hb,hr,hp=>by
  obtain ⟨a,p1,h1,h2,h3⟩:=qBN 256 (by decide) hl hp
  obtain ⟨c,hc⟩:=qNE (IntKind.u8.wrap a) hb
  obtain ⟨rows',bl',p2,h4,h5,h6,h7⟩:=qMR hl m (rows++ [[.i .u8 (IntKind.u8.wrap a)]]) _ p1 hc (by simp;omega) h1
  refine ⟨rows',bl',p2,h4,h5,by rw [h6];simp;omega,fun n M hn hM=>?_⟩
  obtain ⟨M,rfl⟩:∃q,M=q+1:=⟨M-1,by omega⟩
  have h3:=h3 n hn
  have w1:IntKind.i64.wrap (((m+1:Nat):Int)-1)=(m:Int):=by rw [qZ (by omega)];omega
  have h8:=h7 n M hn (by omega)
  have e:(rows++ [[PV.i .u8 (IntKind.u8.wrap a)]]).length=rows.length+1:=by simp
  rw [e] at h8
  rw [qa (v':=(rows.length+1,(m:Int),rows++ [[PV.i .u8 (IntKind.u8.wrap a)]],l,p1)) (by
   have g1:((m+1:Nat):Int)>0:=by omega
   have g2:rows.length+1≤140737488355328:=by omega
   simp only [qBh,qC,qD,qF,qG,qH,qJ,Option.bind_some,qE,qK,qM,h3,w1]
   simp [g1,g2])]
  exact h8
theorem qPy {l:List (List PV)} {p:Int} (k:Nat) (hk:1≤k∧k≤200) (hl:qHi l) (hp:0≤p∧p≤l.length):∃(t:ByteArray) (p':Int),(0≤p'∧p'≤l.length)∧t.size≤k∧∀n,k+5≤n→qCF n (k:Int) l p=some (t,l,p'):=by
 obtain ⟨a,p1,h1,h2,h3⟩:=qBN ((k:Int)+1) (by omega) hl hp
 obtain ⟨rows,bl,p2,h4,h5,h6,h7⟩:=qMR hl a.toNat [] [] p1 rfl (by simp;omega) h1
 refine ⟨⟨bl.toArray⟩,p2,h4,?_,fun n hn=>?_⟩
 ·have:=qNF h5
  show bl.toArray.size≤k
  simp at h6
  simp
  omega
 ·obtain ⟨m,rfl,hm⟩:=up1 (n0:=k+4) hn
  have h3:=h3 m (by omega)
  have h7:=h7 m m (by omega) (by omega)
  have w1:IntKind.i64.wrap ((k:Int)+1)=(k:Int)+1:=qZ (by omega)
  have e:((a.toNat:Nat):Int)=a:=by omega
  rw [e] at h7
  simp only [List.length_nil] at h7
  simp [qCF,qDx,qC,qD,qF,qG,qH,qJ,Option.bind_some,qE,qK,qM,h3,h7,w1,h5]
theorem qQX {l:List (List PV)} {p:Int} (s:ByteArray) (hs:s.size≤200000) (hl:qHi l) (hp:0≤p∧p≤l.length):∃(t:ByteArray) (p':Int),(0≤p'∧p'≤l.length)∧t.size≤s.size+10∧∀n,10≤n→qAw n s l p=some (t,l,p'):=by
 have ex:∀a b:Nat,a≤b→b≤s.size→(s.extract a b).size=b-a:=fun a b h1 h2=>by
  rw [ByteArray.size_extract];omega
 obtain ⟨a,p1,h1,h2,h3⟩:=qBN 6 (by decide) hl hp
 have c:a=0∨a=1∨a=2∨(a=3∨a=4∨a=5):=by omega
 rcases c with rfl|rfl|rfl|c
 ·obtain ⟨t,p2,h4,h5,h6⟩:=qPy 2 (by decide) hl h1
  refine ⟨s++t,p2,h4,by rw [ByteArray.size_append];omega,fun n hn=>?_⟩
  obtain ⟨m,rfl,hm⟩:=up1 hn
  have h3:=h3 m (by omega)
  have h6:=h6 m (by omega)
  have z:s.size+t.size≤9223372036854775807:=by omega
  have h6:qCF m 2 l p1=some (t,l,p2):=h6
  simp [qAw,qBS,qC,qD,qF,qG,qH,qJ,Option.bind_some,qE,qK,qM,h3,h6,z]
 ·obtain ⟨b,p2,h4,h5,h6⟩:=qND ((s.size:Int)+1) (by omega) hl h1
  refine ⟨s.extract 0 b.toNat,p2,h4,by rw [ex _ _ (by omega) (by omega)];omega,fun n hn=>?_⟩
  obtain ⟨m,rfl,hm⟩:=up1 hn
  have h3:=h3 m (by omega)
  have h6:=h6 m (by omega)
  have w1:IntKind.i64.wrap ((s.size:Int)+1)=(s.size:Int)+1:=qZ (by omega)
  have z:b≤s.size:=by omega
  simp [qAw,qBS,qC,qD,qF,qG,qH,qJ,Option.bind_some,qE,qK,qM,h3,h6,w1,z,h5.1]
 ·by_cases h0:(s.size:Int)>0
  ·obtain ⟨b,p2,h4,h5,h6⟩:=qND (s.size:Int) (by omega) hl h1
   obtain ⟨d,p3,h7,h8,h9⟩:=qBN 6 (by decide) hl h4
   have c:d=0∨d=1∨d=2∨d=3∨d=4∨d=5:=by omega
   have key:∀u:ByteArray,u.size=1→(([[(.s (⟨#[65]⟩:ByteArray))],[(.s (⟨#[49]⟩:ByteArray))],[(.s (⟨#[40]⟩:ByteArray))],[(.s (⟨#[44]⟩:ByteArray))],[(.s (⟨#[34]⟩:ByteArray))],[(.s (⟨#[32]⟩:ByteArray))]]:List (List PV))[d.toNat]?=some [.s u])→∃(t:ByteArray) (p':Int),(0≤p'∧p'≤l.length)∧t.size≤s.size+10∧∀n,10≤n→qAw n s l p=some (t,l,p'):=fun u hu hg=>by
    have z1:=ex 0 b.toNat (by omega) (by omega)
    have z2:=ex (b+1).toNat s.size (by omega) (by omega)
    refine ⟨(s.extract 0 b.toNat++u)++s.extract (b+1).toNat s.size,p3,h7,by rw [ByteArray.size_append,ByteArray.size_append];omega,fun n hn=>?_⟩
    obtain ⟨m,rfl,hm⟩:=up1 hn
    have h3:=h3 m (by omega)
    have h6:=h6 m (by omega)
    have h9:=h9 m (by omega)
    have w1:IntKind.i64.wrap (b+1)=b+1:=qZ (by omega)
    have y1:(0:Int)≤(0:Int)∧(0:Int)≤b∧b≤s.size:=by omega
    have y2:0≤b+1∧b+1≤(s.size:Int)∧(s.size:Int)≤s.size:=by omega
    have y3:0≤d∧d<6:=h8
    have y4:(s.extract 0 b.toNat).size+u.size≤9223372036854775807:=by omega
    have y5:(s.extract 0 b.toNat++u).size+(s.extract (b+1).toNat s.size).size≤9223372036854775807:=by rw [ByteArray.size_append];omega
    have e0:((0:Int)).toNat=0:=rfl
    have e1:((s.size:Int)).toNat=s.size:=Int.toNat_natCast _
    simp only [qAw,qBS,qC,qD,qF,qG,qH,qJ,Option.bind_some,qE,qK,qM,h3,h6,h9,w1,hg,e0,e1,decide_eq_true h0,decide_eq_true y1,decide_eq_true y2,zh,List.getElem?_cons_zero,decide_eq_true y4,decide_eq_true y5]
    simp [y3]
   rcases c with rfl|rfl|rfl|rfl|rfl|rfl
   ·exact key _ (by decide) rfl
   ·exact key _ (by decide) rfl
   ·exact key _ (by decide) rfl
   ·exact key _ (by decide) rfl
   ·exact key _ (by decide) rfl
   ·exact key _ (by decide) rfl
  ·refine ⟨s,p1,h1,by omega,fun n hn=>?_⟩
   obtain ⟨m,rfl,hm⟩:=up1 hn
   have h3:=h3 m (by omega)
   have h0':s.size=0:=by omega
   simp [qAw,qBS,qC,qD,qF,qG,qH,qJ,Option.bind_some,qE,qK,qM,h3,h0']
 ·refine ⟨s,p1,h1,by omega,fun n hn=>?_⟩
  obtain ⟨m,rfl,hm⟩:=up1 hn
  have h3:=h3 m (by omega)
  rcases c with rfl|rfl|rfl<;>simp [qAw,qBS,qC,qD,qF,qG,qH,qJ,Option.bind_some,qE,qK,qM,h3]
theorem qEn (c r:Int) (fc fr:Bool):(qAU c r fc fr).size≤30:=by
 unfold qAU
 split
 ·rename_i h
  have h1:=qK3 c
  have h2:=qJU (qEB h).2
  rw [qC1]
  cases fc<;>cases fr<;>simp<;>omega
 ·decide
abbrev Nd:=Int×Int×Int×Int×ByteArray×Int×Int×Bool×Bool×Int×Int×Bool×Bool×List Int
def qA9 (x:Int):List PV:= [.i .i64 x]
def qb (c:Nd):List PV:= [.i .i64 c.1,.i .i64 c.2.1,.i .i64 c.2.2.1,.i .i64 c.2.2.2.1,.s c.2.2.2.2.1,.i .i64 c.2.2.2.2.2.1,.i .i64 c.2.2.2.2.2.2.1,.b c.2.2.2.2.2.2.2.1,.b c.2.2.2.2.2.2.2.2.1,.i .i64 c.2.2.2.2.2.2.2.2.2.1,.i .i64 c.2.2.2.2.2.2.2.2.2.2.1,.b c.2.2.2.2.2.2.2.2.2.2.2.1,.b c.2.2.2.2.2.2.2.2.2.2.2.2.1,.ls ((c.2.2.2.2.2.2.2.2.2.2.2.2.2).map qA9)]
def kd (c:Nd):List Int:=c.2.2.2.2.2.2.2.2.2.2.2.2.2
theorem qPz {l:List Int} {i:Nat} {e:List PV} (h:(l.map qA9)[i]?=some e):∃c,l[i]?=some c∧e=qA9 c:=by
 rw [List.getElem?_map] at h
 obtain ⟨c,h1,h2⟩:=Option.map_eq_some_iff.1 h
 exact ⟨c,h1,h2.symm⟩
def qE4 (op n:Int):Bool:=if op=5 then decide (n=2∨n=3) else if 8≤op∧op≤10 then decide (n=1) else if 1≤op∧op≤7 then decide (1≤n∧n≤10) else false
theorem ten {op:Int} (h:1≤op∧op≤10):op=1∨op=2∨op=3∨op=4∨op=5∨op=6∨op=7∨op=8∨op=9∨op=10:=by omega
theorem qMS (op n:Int):Ev (qEb · op n) (qE4 op n):=by
 refine ⟨1,fun n hn=>?_⟩
 obtain ⟨m,rfl,hm⟩:=up1 hn
 simp only [qEb,qGF,qC,qD,qF,qG,qH,qJ,Option.bind_some,qE,qK,qM]
 by_cases h:1≤op∧op≤10
 ·rcases ten h with rfl|rfl|rfl|rfl|rfl|rfl|rfl|rfl|rfl|rfl
  all_goals
   first
   |(by_cases h2:n=2<;>simp [qE4,h2];done)
   |(by_cases h1:n≥1<;>simp [qE4,h1];done)
   |(by_cases h1:n=1<;>simp [qE4,h1];done)
   |(by_cases h2:n=2<;>by_cases h3:n=3<;>simp [qE4,h2,h3];done)
   |(simp [qE4];done)
 ·have e1:¬op=1:=by omega
  have e2:¬op=2:=by omega
  have e3:¬op=3:=by omega
  have e4:¬op=4:=by omega
  have e5:¬op=5:=by omega
  have e6:¬op=6:=by omega
  have e7:¬op=7:=by omega
  have e8:¬op=8:=by omega
  have e9:¬op=9:=by omega
  have e10:¬op=10:=by omega
  have g1:¬(8≤op∧op≤10):=by omega
  have g2:¬(1≤op∧op≤7):=by omega
  simp [qE4,e1,e2,e3,e4,e5,e6,e7,e8,e9,e10,g1,g2]
def zV (k x:Int) (s:ByteArray):Bool:=decide (k=0)&&(decide (x=0)&&(s.toList== []))
def zP (a b:Int) (f g:Bool):Bool:=decide (a=0)&&(decide (b=0)&&(!f&&!g))
def qBy (c:Nd):Bool:=
 if c.1=1 then decide (c.2.1=0)&&(zP c.2.2.2.2.2.1 c.2.2.2.2.2.2.1 c.2.2.2.2.2.2.2.1 c.2.2.2.2.2.2.2.2.1&&(zP c.2.2.2.2.2.2.2.2.2.1 c.2.2.2.2.2.2.2.2.2.2.1 c.2.2.2.2.2.2.2.2.2.2.2.1 c.2.2.2.2.2.2.2.2.2.2.2.2.1&&(decide ((kd c).length=0)&&(okV c.2.2.1 c.2.2.2.1 c.2.2.2.2.1&&(!decide (c.2.2.1=0)&&(!decide (c.2.2.1=1)||decide (c.2.2.2.1≥0))))))) else
 if c.1=2 then decide (c.2.1=0)&&(zV c.2.2.1 c.2.2.2.1 c.2.2.2.2.1&&(zP c.2.2.2.2.2.2.2.2.2.1 c.2.2.2.2.2.2.2.2.2.2.1 c.2.2.2.2.2.2.2.2.2.2.2.1 c.2.2.2.2.2.2.2.2.2.2.2.2.1&&(decide ((kd c).length=0)&&qAd c.2.2.2.2.2.1 c.2.2.2.2.2.2.1))) else
 if c.1=3 then decide (c.2.1=0)&&(zV c.2.2.1 c.2.2.2.1 c.2.2.2.2.1&&(decide ((kd c).length=0)&&qEA c.2.2.2.2.2.1 c.2.2.2.2.2.2.1 c.2.2.2.2.2.2.2.2.2.1 c.2.2.2.2.2.2.2.2.2.2.1)) else
 if c.1=4 then decide (c.2.1=0)&&(zV c.2.2.1 c.2.2.2.1 c.2.2.2.2.1&&(zP c.2.2.2.2.2.1 c.2.2.2.2.2.2.1 c.2.2.2.2.2.2.2.1 c.2.2.2.2.2.2.2.2.1&&(zP c.2.2.2.2.2.2.2.2.2.1 c.2.2.2.2.2.2.2.2.2.2.1 c.2.2.2.2.2.2.2.2.2.2.2.1 c.2.2.2.2.2.2.2.2.2.2.2.2.1&&decide ((kd c).length=1)))) else
 if c.1=5 then decide (1≤c.2.1∧c.2.1≤11)&&(zV c.2.2.1 c.2.2.2.1 c.2.2.2.2.1&&(zP c.2.2.2.2.2.1 c.2.2.2.2.2.2.1 c.2.2.2.2.2.2.2.1 c.2.2.2.2.2.2.2.2.1&&(zP c.2.2.2.2.2.2.2.2.2.1 c.2.2.2.2.2.2.2.2.2.2.1 c.2.2.2.2.2.2.2.2.2.2.2.1 c.2.2.2.2.2.2.2.2.2.2.2.2.1&&decide ((kd c).length=2)))) else
 if c.1=6 then qE4 c.2.1 ((kd c).length:Int)&&(zV c.2.2.1 c.2.2.2.1 c.2.2.2.2.1&&(zP c.2.2.2.2.2.1 c.2.2.2.2.2.2.1 c.2.2.2.2.2.2.2.1 c.2.2.2.2.2.2.2.2.1&&zP c.2.2.2.2.2.2.2.2.2.1 c.2.2.2.2.2.2.2.2.2.2.1 c.2.2.2.2.2.2.2.2.2.2.2.1 c.2.2.2.2.2.2.2.2.2.2.2.2.1)) else false
theorem qRS (k x:Int) (s:ByteArray):((k==(0:Int))&&((x==(0:Int))&&((s.toList==(⟨#[]⟩:ByteArray).toList)&&true)))=zV k x s:=by
 rw [qx]
 unfold zV
 by_cases h:k=0<;>by_cases h2:x=0<;>simp [h,h2]
theorem qRT (k x:Int) (s:ByteArray):(((0:Int)==k)&&(((0:Int)==x)&&(((⟨#[]⟩:ByteArray).toList==s.toList)&&true)))=zV k x s:=by
 rw [←qRS]
 congr 1
 ·exact Bool.beq_comm
 ·congr 1
  ·exact Bool.beq_comm
  ·congr 1
   exact Bool.beq_comm
theorem qRU (a b:Int) (f g:Bool):((a==(0:Int))&&((b==(0:Int))&&((f==false)&&((g==false)&&true))))=zP a b f g:=by
 unfold zP
 by_cases h:a=0<;>by_cases h2:b=0<;>cases f<;>cases g<;>simp [h,h2]
theorem qRV (a b:Int) (f g:Bool):(((0:Int)==a)&&(((0:Int)==b)&&((false==f)&&((false==g)&&true))))=zP a b f g:=by
 rw [←qRU]
 congr 1
 ·exact Bool.beq_comm
 ·congr 1
  ·exact Bool.beq_comm
  ·cases f<;>cases g<;>rfl
theorem qGl (c:Nd) (hb:c.2.2.2.2.1.size≤140737488351232):Ev (qBn · c.1 c.2.1 c.2.2.1 c.2.2.2.1 c.2.2.2.2.1 c.2.2.2.2.2.1 c.2.2.2.2.2.2.1 c.2.2.2.2.2.2.2.1 c.2.2.2.2.2.2.2.2.1 c.2.2.2.2.2.2.2.2.2.1 c.2.2.2.2.2.2.2.2.2.2.1 c.2.2.2.2.2.2.2.2.2.2.2.1 c.2.2.2.2.2.2.2.2.2.2.2.2.1 ((c.2.2.2.2.2.2.2.2.2.2.2.2.2).map qA9)) (qBy c):=by
 obtain ⟨n1,h1⟩:=qBo c.2.2.1 c.2.2.2.1 c.2.2.2.2.1 hb
 obtain ⟨n2,h2⟩:=qCz c.2.2.2.2.2.1 c.2.2.2.2.2.2.1
 obtain ⟨n3,h3⟩:=qMM c.2.2.2.2.2.1 c.2.2.2.2.2.2.1 c.2.2.2.2.2.2.2.2.2.1 c.2.2.2.2.2.2.2.2.2.2.1
 obtain ⟨n4,h4⟩:=qCO c.2.1 1 11
 obtain ⟨n5,h5⟩:=qMS c.2.1 (((c.2.2.2.2.2.2.2.2.2.2.2.2.2).map qA9).length:Int)
 refine ⟨n1+n2+n3+n4+n5+1,fun n hn=>?_⟩
 obtain ⟨m,rfl,hm⟩:=up1 hn
 have h1:=h1 m (by omega)
 dsimp only at h1
 have h2:=h2 m (by omega)
 dsimp only at h2
 have h3:=h3 m (by omega)
 dsimp only at h3
 have h4:=h4 m (by omega)
 dsimp only at h4
 have h5:=h5 m (by omega)
 dsimp only at h5
 simp only [qBn,qEt,qC,qD,qF,qG,qH,qJ,Option.bind_some,qE,qK,qM,h1,h2,h3,h4,h5]
 have hk:((c.2.2.2.2.2.2.2.2.2.2.2.2.2).map qA9).length=(kd c).length:=by rw [List.length_map];rfl
 simp only [qRS,qRU,hk]
 unfold qBy
 by_cases k1:c.1=1
 ·simp only [k1,if_true,beq_self_eq_true]
  cases zP c.2.2.2.2.2.1 c.2.2.2.2.2.2.1 c.2.2.2.2.2.2.2.1 c.2.2.2.2.2.2.2.2.1<;>cases zP c.2.2.2.2.2.2.2.2.2.1 c.2.2.2.2.2.2.2.2.2.2.1 c.2.2.2.2.2.2.2.2.2.2.2.1 c.2.2.2.2.2.2.2.2.2.2.2.2.1<;>cases okV c.2.2.1 c.2.2.2.1 c.2.2.2.2.1<;>by_cases h0:c.2.1=0<;>by_cases h1:(kd c).length=0<;>by_cases h2:c.2.2.1=0<;>by_cases h3:c.2.2.1=1<;>simp [h0,h1,h2,h3]
 by_cases k2:c.1=2
 ·simp only [k2]
  cases zV c.2.2.1 c.2.2.2.1 c.2.2.2.2.1<;>cases zP c.2.2.2.2.2.2.2.2.2.1 c.2.2.2.2.2.2.2.2.2.2.1 c.2.2.2.2.2.2.2.2.2.2.2.1 c.2.2.2.2.2.2.2.2.2.2.2.2.1<;>cases qAd c.2.2.2.2.2.1 c.2.2.2.2.2.2.1<;>by_cases h0:c.2.1=0<;>by_cases h1:(kd c).length=0<;>simp [h0,h1]
 by_cases k3:c.1=3
 ·simp only [k3]
  cases zV c.2.2.1 c.2.2.2.1 c.2.2.2.2.1<;>cases qEA c.2.2.2.2.2.1 c.2.2.2.2.2.2.1 c.2.2.2.2.2.2.2.2.2.1 c.2.2.2.2.2.2.2.2.2.2.1<;>by_cases h0:c.2.1=0<;>by_cases h1:(kd c).length=0<;>simp [h0,h1]
 by_cases k4:c.1=4
 ·simp only [k4]
  cases zV c.2.2.1 c.2.2.2.1 c.2.2.2.2.1<;>cases zP c.2.2.2.2.2.1 c.2.2.2.2.2.2.1 c.2.2.2.2.2.2.2.1 c.2.2.2.2.2.2.2.2.1<;>cases zP c.2.2.2.2.2.2.2.2.2.1 c.2.2.2.2.2.2.2.2.2.2.1 c.2.2.2.2.2.2.2.2.2.2.2.1 c.2.2.2.2.2.2.2.2.2.2.2.2.1<;>by_cases h0:c.2.1=0<;>by_cases h1:(kd c).length=1<;>simp [h0,h1]<;>omega
 by_cases k5:c.1=5
 ·simp only [k5]
  cases zV c.2.2.1 c.2.2.2.1 c.2.2.2.2.1<;>cases zP c.2.2.2.2.2.1 c.2.2.2.2.2.2.1 c.2.2.2.2.2.2.2.1 c.2.2.2.2.2.2.2.2.1<;>cases zP c.2.2.2.2.2.2.2.2.2.1 c.2.2.2.2.2.2.2.2.2.2.1 c.2.2.2.2.2.2.2.2.2.2.2.1 c.2.2.2.2.2.2.2.2.2.2.2.2.1<;>by_cases h0:1≤c.2.1∧c.2.1≤11<;>by_cases h1:(kd c).length=2<;>simp [h0,h1]<;>omega
 by_cases k6:c.1=6
 ·simp only [k6]
  cases zV c.2.2.1 c.2.2.2.1 c.2.2.2.2.1<;>cases zP c.2.2.2.2.2.1 c.2.2.2.2.2.2.1 c.2.2.2.2.2.2.2.1 c.2.2.2.2.2.2.2.2.1<;>cases zP c.2.2.2.2.2.2.2.2.2.1 c.2.2.2.2.2.2.2.2.2.2.1 c.2.2.2.2.2.2.2.2.2.2.2.1 c.2.2.2.2.2.2.2.2.2.2.2.2.1<;>cases qE4 c.2.1 ((kd c).length:Int)<;>simp
 simp [k1,k2,k3,k4,k5,k6]
theorem qMT (c:Nd):Ev (q7 · c.1 c.2.1 c.2.2.1 c.2.2.2.1 c.2.2.2.2.1 c.2.2.2.2.2.1 c.2.2.2.2.2.2.1 c.2.2.2.2.2.2.2.1 c.2.2.2.2.2.2.2.2.1 c.2.2.2.2.2.2.2.2.2.1 c.2.2.2.2.2.2.2.2.2.2.1 c.2.2.2.2.2.2.2.2.2.2.2.1 c.2.2.2.2.2.2.2.2.2.2.2.2.1 ((c.2.2.2.2.2.2.2.2.2.2.2.2.2).map qA9)) (if c.1=4 then decide (c.2.1=0)&&decide ((kd c).length=1) else if c.1=5 then decide (1≤c.2.1∧c.2.1≤11)&&decide ((kd c).length=2) else if c.1=6 then qE4 c.2.1 ((kd c).length:Int) else decide (c.2.1=0)&&decide ((kd c).length=0)):=by
 obtain ⟨n1,h1⟩:=qAG c.2.1 1 11
 obtain ⟨n2,h2⟩:=qAG c.2.1 1 10
 obtain ⟨n3,h3⟩:=qAG (((c.2.2.2.2.2.2.2.2.2.2.2.2.2).map qA9).length:Int) 2 3
 obtain ⟨n4,h4⟩:=qAG (((c.2.2.2.2.2.2.2.2.2.2.2.2.2).map qA9).length:Int) 1 10
 refine ⟨n1+n2+n3+n4+1,fun n hn=>?_⟩
 obtain ⟨m,rfl,hm⟩:=up1 hn
 have h1:=h1 m (by omega)
 dsimp only at h1
 have h2:=h2 m (by omega)
 dsimp only at h2
 have h3:=h3 m (by omega)
 dsimp only at h3
 have h4:=h4 m (by omega)
 dsimp only at h4
 simp only [q7,qDS,qC,qD,qF,qG,qH,qJ,Option.bind_some,qE,qK,qM,h1,h2,h3,h4]
 have hk:((c.2.2.2.2.2.2.2.2.2.2.2.2.2).map qA9).length=(kd c).length:=by rw [List.length_map];rfl
 simp only [hk]
 by_cases k4:c.1=4
 ·simp only [k4]
  by_cases h0:c.2.1=0<;>by_cases h1:(kd c).length=1<;>simp [h0,h1]<;>omega
 by_cases k5:c.1=5
 ·simp only [k5]
  by_cases h0:1≤c.2.1∧c.2.1≤11<;>by_cases h1:(kd c).length=2<;>simp [h0,h1]<;>omega
 by_cases k6:c.1=6
 ·simp only [k6]
  unfold qE4
  by_cases h:1≤c.2.1∧c.2.1≤10
  ·by_cases h5:c.2.1=5
   ·have:(2≤((kd c).length:Int)∧((kd c).length:Int)≤3)↔(((kd c).length:Int)=2∨((kd c).length:Int)=3):=by omega
    simp [h5,this]
   ·by_cases h8:c.2.1≥8
    ·have g:8≤c.2.1∧c.2.1≤10:=by omega
     by_cases h1:((kd c).length:Int)=1<;>simp [h,h5,h8,g,h1]
    ·have g:¬(8≤c.2.1∧c.2.1≤10):=by omega
     have g':1≤c.2.1∧c.2.1≤7:=by omega
     simp [h,h5,h8,g,g']
  ·have h5:¬c.2.1=5:=by omega
   have g:¬(8≤c.2.1∧c.2.1≤10):=by omega
   have g':¬(1≤c.2.1∧c.2.1≤7):=by omega
   simp [h,h5,g,g']
 by_cases h0:c.2.1=0<;>by_cases h1:(kd c).length=0<;>simp [k4,k5,k6,h0,h1]<;>omega
theorem qK5 (c:Nd):Ev (qu · c.1 c.2.1 c.2.2.1 c.2.2.2.1 c.2.2.2.2.1 c.2.2.2.2.2.1 c.2.2.2.2.2.2.1 c.2.2.2.2.2.2.2.1 c.2.2.2.2.2.2.2.2.1 c.2.2.2.2.2.2.2.2.2.1 c.2.2.2.2.2.2.2.2.2.2.1 c.2.2.2.2.2.2.2.2.2.2.2.1 c.2.2.2.2.2.2.2.2.2.2.2.2.1 ((c.2.2.2.2.2.2.2.2.2.2.2.2.2).map qA9)) (if c.1=2 then qEA c.2.2.2.2.2.1 c.2.2.2.2.2.2.1 c.2.2.2.2.2.1 c.2.2.2.2.2.2.1 else if c.1=3 then qEA c.2.2.2.2.2.1 c.2.2.2.2.2.2.1 c.2.2.2.2.2.2.2.2.2.1 c.2.2.2.2.2.2.2.2.2.2.1 else true):=by
 have g:Ev (qCK · c.1 c.2.1 c.2.2.1 c.2.2.2.1 c.2.2.2.2.1 c.2.2.2.2.2.1 c.2.2.2.2.2.2.1 c.2.2.2.2.2.2.2.1 c.2.2.2.2.2.2.2.2.1 c.2.2.2.2.2.2.2.2.2.1 c.2.2.2.2.2.2.2.2.2.2.1 c.2.2.2.2.2.2.2.2.2.2.2.1 c.2.2.2.2.2.2.2.2.2.2.2.2.1 ((c.2.2.2.2.2.2.2.2.2.2.2.2.2).map qA9)) (if c.1=2 then (c.2.2.2.2.2.1,c.2.2.2.2.2.2.1,c.2.2.2.2.2.1,c.2.2.2.2.2.2.1) else (c.2.2.2.2.2.1,c.2.2.2.2.2.2.1,c.2.2.2.2.2.2.2.2.2.1,c.2.2.2.2.2.2.2.2.2.2.1)):=by
  refine ⟨1,fun n hn=>?_⟩
  obtain ⟨m,rfl,hm⟩:=up1 hn
  simp only [qCK,qD4,qC,qD,qF,qG,qH,qJ,Option.bind_some,qE,qK,qM]
  by_cases k2:c.1=2<;>simp [k2]
 obtain ⟨n1,h1⟩:=g
 obtain ⟨n2,h2⟩:=qIA c.2.2.2.2.2.1 c.2.2.2.2.2.2.1 c.2.2.2.2.2.1 c.2.2.2.2.2.2.1
 obtain ⟨n3,h3⟩:=qIA c.2.2.2.2.2.1 c.2.2.2.2.2.2.1 c.2.2.2.2.2.2.2.2.2.1 c.2.2.2.2.2.2.2.2.2.2.1
 refine ⟨n1+n2+n3+1,fun n hn=>?_⟩
 obtain ⟨m,rfl,hm⟩:=up1 hn
 have h1:=h1 m (by omega)
 dsimp only at h1
 have h2:=h2 m (by omega)
 dsimp only at h2
 have h3:=h3 m (by omega)
 dsimp only at h3
 simp only [qu,qC0,qC,qD,qF,qG,qH,qJ,Option.bind_some,qE,qK,qM,h1,h2,h3]
 by_cases k2:c.1=2
 ·simp [k2,h2]
 ·by_cases k3:c.1=3
  ·simp [k3,h3]
  ·simp [k2,k3]
theorem qP0 (a b:Int):qEA a b a b=qAd a b:=by
 unfold qEA
 cases qAd a b<;>simp
theorem qMy (c:Nd) (hb:c.2.2.2.2.1.size≤140737488351232):Ev (qCr · c.1 c.2.1 c.2.2.1 c.2.2.2.1 c.2.2.2.2.1 c.2.2.2.2.2.1 c.2.2.2.2.2.2.1 c.2.2.2.2.2.2.2.1 c.2.2.2.2.2.2.2.2.1 c.2.2.2.2.2.2.2.2.2.1 c.2.2.2.2.2.2.2.2.2.2.1 c.2.2.2.2.2.2.2.2.2.2.2.1 c.2.2.2.2.2.2.2.2.2.2.2.2.1 ((c.2.2.2.2.2.2.2.2.2.2.2.2.2).map qA9)) (qBy c):=by
 obtain ⟨n1,g1⟩:=qHV c.2.2.1 c.2.2.2.1 c.2.2.2.2.1 hb
 obtain ⟨n2,g2⟩:=qK5 c
 obtain ⟨n3,g3⟩:=qMT c
 refine ⟨n1+n2+n3+1,fun n hn=>?_⟩
 obtain ⟨m,rfl,hm⟩:=up1 hn
 have g1:=g1 m (by omega)
 have g2:=g2 m (by omega)
 have g3:=g3 m (by omega)
 dsimp only at g1 g2 g3
 rw [qP0] at g2
 simp only [qCr,qDj,qC,qD,qF,qG,qH,qJ,Option.bind_some,qE,qK,qM,g1,g2,g3,qRT,qRV]
 simp only [beq_self_eq_true,Bool.and_true,Bool.true_and]
 unfold qBy
 by_cases k1:c.1=1
 ·have h5:(c.2.2.2.1≥0)=¬(c.2.2.2.1<0):=propext Int.not_lt.symm
  simp only [k1,h5]
  cases zP c.2.2.2.2.2.1 c.2.2.2.2.2.2.1 c.2.2.2.2.2.2.2.1 c.2.2.2.2.2.2.2.2.1<;>cases zP c.2.2.2.2.2.2.2.2.2.1 c.2.2.2.2.2.2.2.2.2.2.1 c.2.2.2.2.2.2.2.2.2.2.2.1 c.2.2.2.2.2.2.2.2.2.2.2.2.1<;>cases okV c.2.2.1 c.2.2.2.1 c.2.2.2.2.1<;>by_cases h0:c.2.1=0<;>by_cases h1:(kd c).length=0<;>by_cases h2:c.2.2.1=0<;>by_cases h3:c.2.2.1=1<;>by_cases h4:c.2.2.2.1<0<;>simp [h0,h1,h2,h3,h4]<;>(try omega)
 by_cases k2:c.1=2
 ·simp only [k2]
  cases zV c.2.2.1 c.2.2.2.1 c.2.2.2.2.1<;>cases zP c.2.2.2.2.2.2.2.2.2.1 c.2.2.2.2.2.2.2.2.2.2.1 c.2.2.2.2.2.2.2.2.2.2.2.1 c.2.2.2.2.2.2.2.2.2.2.2.2.1<;>cases qAd c.2.2.2.2.2.1 c.2.2.2.2.2.2.1<;>by_cases h0:c.2.1=0<;>by_cases h1:(kd c).length=0<;>simp [h0,h1]
 by_cases k3:c.1=3
 ·simp only [k3]
  cases zV c.2.2.1 c.2.2.2.1 c.2.2.2.2.1<;>cases qEA c.2.2.2.2.2.1 c.2.2.2.2.2.2.1 c.2.2.2.2.2.2.2.2.2.1 c.2.2.2.2.2.2.2.2.2.2.1<;>by_cases h0:c.2.1=0<;>by_cases h1:(kd c).length=0<;>simp [h0,h1]
 by_cases k4:c.1=4
 ·simp only [k4]
  cases zV c.2.2.1 c.2.2.2.1 c.2.2.2.2.1<;>cases zP c.2.2.2.2.2.1 c.2.2.2.2.2.2.1 c.2.2.2.2.2.2.2.1 c.2.2.2.2.2.2.2.2.1<;>cases zP c.2.2.2.2.2.2.2.2.2.1 c.2.2.2.2.2.2.2.2.2.2.1 c.2.2.2.2.2.2.2.2.2.2.2.1 c.2.2.2.2.2.2.2.2.2.2.2.2.1<;>by_cases h0:c.2.1=0<;>by_cases h1:(kd c).length=1<;>simp [h0,h1]
 by_cases k5:c.1=5
 ·simp only [k5]
  cases zV c.2.2.1 c.2.2.2.1 c.2.2.2.2.1<;>cases zP c.2.2.2.2.2.1 c.2.2.2.2.2.2.1 c.2.2.2.2.2.2.2.1 c.2.2.2.2.2.2.2.2.1<;>cases zP c.2.2.2.2.2.2.2.2.2.1 c.2.2.2.2.2.2.2.2.2.2.1 c.2.2.2.2.2.2.2.2.2.2.2.1 c.2.2.2.2.2.2.2.2.2.2.2.2.1<;>by_cases h0:1≤c.2.1∧c.2.1≤11<;>by_cases h1:(kd c).length=2<;>simp [h0,h1]
 by_cases k6:c.1=6
 ·simp only [k6]
  cases zV c.2.2.1 c.2.2.2.1 c.2.2.2.2.1<;>cases zP c.2.2.2.2.2.1 c.2.2.2.2.2.2.1 c.2.2.2.2.2.2.2.1 c.2.2.2.2.2.2.2.2.1<;>cases zP c.2.2.2.2.2.2.2.2.2.1 c.2.2.2.2.2.2.2.2.2.2.1 c.2.2.2.2.2.2.2.2.2.2.2.1 c.2.2.2.2.2.2.2.2.2.2.2.2.1<;>cases qE4 c.2.1 ((kd c).length:Int)<;>simp
 simp [k1,k2,k3,k4,k5,k6]
section
variable (own area call:Int→Bool) (kids:Int→List Int)
def goF (F:Int→Int) (n:Int):List Int→Int→Int
 | [],start=>start
 |k::r,start=>if k≠start-1∨k<0∨(area k=true∧call n=false) then-1 else if F k<0 then-1 else goF F n r (F k)
def qCP:Nat→Int→Int
 |0,_=> -1
 |f+1,n=>if n<0∨own n=false then-1 else goF area call (qCP f) n (kids n).reverse n
def goT (F:Int→Int):List Int→Int→Int
 | [],x=>x+1
 |k::r,x=>if x<0∨k≠x then-1 else if F x<0 then-1 else goT F r (F x-1)
def qBc:Nat→Int→Int
 |0,_=> -1
 |f+1,n=>goT (qBc f) (kids n).reverse (n-1)
def qID:List Int→Int
 | []=>0
 |x::r=>max x (qID r)
def qAv:Nat→Int→Int
 |0,_=>0
 |f+1,n=>qID ((kids n).map fun k=>qAv f k)+1
def qFd (i:Int):Prop:=∀k∈kids i,0≤k∧k≤i-1∧¬(area k=true∧call i=false)
theorem qKC:∀(f:Nat) (n:Int),0≤n→qBc kids f n≤n
 |0,n,h=>by rw [qBc];omega
 |f+1,n,h=>by
  have go:∀(l:List Int) (x:Int),x+1≤n→-1≤x→goT (qBc kids f) l x≤n:=by
   intro l
   induction l with
   |nil=>intro x h1 h2;rw [goT];omega
   |cons k r ih=>
    intro x h1 h2
    rw [goT]
    split
    ·omega
    ·split
     ·omega
     ·have:=qKC f x (by omega)
      exact ih _ (by omega) (by omega)
  rw [qBc]
  exact go _ _ (by omega) (by omega)
theorem qOM:∀(f g:Nat) (n:Int),n<f→n<g→0≤n→qBc kids f n=qBc kids g n
 |0,g,n,h1,h2,h3=>by omega
 |f+1,0,n,h1,h2,h3=>by omega
 |f+1,g+1,n,h1,h2,h3=>by
  have go:∀(l:List Int) (x:Int),x<f→x<g→goT (qBc kids f) l x=goT (qBc kids g) l x:=by
   intro l
   induction l with
   |nil=>intro x _ _;rw [goT,goT]
   |cons k r ih=>
    intro x hx hy
    rw [goT,goT]
    by_cases hc:x<0∨k≠x
    ·rw [if_pos hc,if_pos hc]
    ·rw [if_neg hc,if_neg hc,qOM f g x hx hy (by omega)]
     have hle:=qKC kids g x (by omega)
     split
     ·rfl
     ·exact ih _ (by omega) (by omega)
  rw [qBc,qBc]
  exact go _ _ (by omega) (by omega)
theorem qPD {l:List Int} {b:Int} (h0:0≤b):qID l≤b↔∀x∈l,x≤b:=by
 induction l with
 |nil=>simp [qID,h0]
 |cons a r ih=>simp only [qID,List.mem_cons,forall_eq_or_imp];rw [Int.max_le,ih]
theorem qMU {n b:Int} {f:Nat} (h0:1≤b):qAv kids (f+1) n≤b↔∀k∈kids n,qAv kids f k≤b-1:=by
 rw [qAv]
 constructor
 ·intro h k hk
  exact (qPD (l:=(kids n).map fun k=>qAv kids f k) (by omega)).1 (by omega) _ (List.mem_map_of_mem (f:=fun k=>qAv kids f k) hk)
 ·intro h
  have:=(qPD (l:=(kids n).map fun k=>qAv kids f k) (b:=b-1) (by omega)).2 (by
   intro x hx
   obtain ⟨k,hk,rfl⟩:=List.mem_map.1 hx
   exact h k hk)
  omega
theorem qMV:∀(f g:Nat) (n:Int),n<f→n<g→(∀i,0≤i→i≤n→qFd area call kids i)→0≤n→qAv kids f n=qAv kids g n
 |0,g,n,h1,h2,_,h3=>by omega
 |f+1,0,n,h1,h2,_,h3=>by omega
 |f+1,g+1,n,h1,h2,hk,h3=>by
  rw [qAv,qAv]
  congr 2
  apply List.map_congr_left
  intro k hm
  have:=hk n h3 (by omega) k hm
  exact qMV f g k (by omega) (by omega) (fun i h0 h1=>hk i h0 (by omega)) (by omega)
theorem qIR:∀(f:Nat) (n:Int),0≤n→n<f→1≤qAv kids f n
 |0,n,h,h'=>by omega
 |f+1,n,h,h'=>by
  rw [qAv]
  have:∀l:List Int,0≤qID l:=by
   intro l
   induction l with
   |nil=>exact Int.le_refl 0
   |cons a r ih=>simp only [qID];omega
  have:=this ((kids n).map fun k=>qAv kids f k)
  omega
theorem qNs:∀(f g:Nat) (n:Int),0≤n→n<g→0≤qCP own area call kids f n→
  qCP own area call kids f n≤n∧qBc kids g n=qCP own area call kids f n∧(∀i,qCP own area call kids f n≤i→i≤n→own i=true∧qFd area call kids i)∧(∀h:Nat,(∀i,0≤i→i≤n→qFd area call kids i)→n<h→qAv kids h n≤f)
 |0,g,n,h0,h1,h2=>by rw [qCP] at h2;omega
 |f+1,0,n,h0,h1,h2=>by omega
 |f+1,g+1,n,h0,h1,h2=>by
  rw [qCP] at h2⊢
  split at h2
  ·omega
  ·rename_i hc
   rw [if_neg hc]
   have go:∀(l:List Int) (s:Int),0≤s→s≤n→0≤goF area call (qCP own area call kids f) n l s→
     goF area call (qCP own area call kids f) n l s≤s∧goT (qBc kids g) l (s-1)=goF area call (qCP own area call kids f) n l s∧(∀i,goF area call (qCP own area call kids f) n l s≤i→i≤s-1→own i=true∧qFd area call kids i)∧(∀k∈l,0≤k∧k≤n-1∧¬(area k=true∧call n=false))∧(∀h:Nat,(∀i,0≤i→i≤n→qFd area call kids i)→n<h→∀k∈l,qAv kids h k≤f):=by
    intro l
    induction l with
    |nil=>
     intro s h3 h4 h5
     rw [goF] at h5⊢
     rw [goT]
     refine ⟨by omega,by omega,fun i _ _=>by omega,fun k hk=>(by cases hk),fun h _ _ k hk=>(by cases hk)⟩
    |cons k r ih=>
     intro s h3 h4 h5
     rw [goF] at h5⊢
     split at h5
     ·omega
     ·rename_i hd
      rw [if_neg hd]
      split at h5
      ·omega
      ·rename_i he
       rw [if_neg he]
       have hk:k=s-1:=by omega
       subst hk
       obtain ⟨a1,a2,a3,a4⟩:=qNs f g (s-1) (by omega) (by omega) (by omega)
       obtain ⟨b1,b2,b3,b4,b5⟩:=ih _ (by omega) (by omega) h5
       refine ⟨by omega,?_,?_,?_,?_⟩
       ·rw [goT,if_neg (by omega),a2,if_neg he,b2]
       ·intro i i1 i2
        by_cases hi:qCP own area call kids f (s-1)≤i
        ·exact a3 i hi i2
        ·exact b3 i i1 (by omega)
       ·intro k hk
        rcases List.mem_cons.1 hk with rfl|hk
        ·exact ⟨by omega,by omega,fun h=>hd (.inr (.inr h))⟩
        ·exact b4 k hk
       ·intro h hx hy k hk
        rcases List.mem_cons.1 hk with rfl|hk
        ·exact a4 h (fun i i1 i2=>hx i i1 (by omega)) (by omega)
        ·exact b5 h hx hy k hk
   obtain ⟨c1,c2,c3,c4,c5⟩:=go _ n h0 (Int.le_refl n) h2
   have hown:own n=true:=by cases ho:own n with
    |true=>rfl
    |false=>exact absurd (.inr ho) hc
   refine ⟨c1,by rw [qBc];exact c2,?_,?_⟩
   ·intro i i1 i2
    by_cases hi:i=n
    ·subst hi
     exact ⟨hown,fun k hk=>c4 k (List.mem_reverse.2 hk)⟩
    ·exact c3 i i1 (by omega)
   ·intro h hx hy
    cases h with
    |zero=>omega
    |succ h=>
     refine (qMU kids (by omega)).2 fun k hk=>?_
     have hin:=hx n h0 (Int.le_refl n) k hk
     have e:qAv kids h k=qAv kids (n.toNat+1) k:=qMV area call kids _ _ _ (by omega) (by omega) (fun i i1 i2=>hx i i1 (by omega)) (by omega)
     rw [e]
     have:=c5 (n.toNat+1) hx (by omega) k (List.mem_reverse.2 hk)
     omega
theorem qPE:∀(f g h:Nat) (n:Int),0≤n→n<g→n<h→(∀i,0≤i→i≤n→own i=true∧qFd area call kids i)→0≤qBc kids g n→qAv kids h n≤f→qCP own area call kids f n=qBc kids g n
 |0,g,h,n,h0,h1,h1',h2,h3,h4=>by have:=qIR kids h n h0 h1';omega
 |f+1,0,h,n,h0,h1,_,h2,h3,h4=>by omega
 |f+1,g+1,0,n,h0,h1,_,h2,h3,h4=>by omega
 |f+1,g+1,h+1,n,h0,h1,h1',h2,h3,h4=>by
  have hd:=(qMU kids (b:=((f+1:Nat):Int)) (by omega)).1 h4
  have go:∀(l:List Int) (s:Int),(∀k∈l,k∈kids n)→0≤s→s≤n→0≤goT (qBc kids g) l (s-1)→goF area call (qCP own area call kids f) n l s=goT (qBc kids g) l (s-1):=by
   intro l
   induction l with
   |nil=>intro s _ _ _ _;rw [goF,goT];omega
   |cons k r ih=>
    intro s hm h3 h4 h5
    rw [goT] at h5⊢
    rw [goF]
    split at h5
    ·omega
    ·rename_i hc
     rw [if_neg hc]
     split at h5
     ·omega
     ·rename_i he
      rw [if_neg he]
      have hk:k=s-1:=by omega
      have hin:=(h2 n h0 (Int.le_refl n)).2 k (hm k (List.mem_cons_self ..))
      have hdk:=hd k (hm k (List.mem_cons_self ..))
      subst hk
      have e:=qPE f g h (s-1) (by omega) (by omega) (by omega) (fun i i1 i2=>h2 i i1 (by omega)) (by omega) (by omega)
      have hb:¬(s-1≠s-1∨s-1<0∨(area (s-1)=true∧call n=false)):=fun hx=>by
       rcases hx with hx|hx|hx
       ·exact hx rfl
       ·omega
       ·exact hin.2.2 hx
      rw [if_neg hb,e,if_neg he]
      have hle:=qKC kids g (s-1) (by omega)
      exact ih _ (fun k hk=>hm k (List.mem_cons_of_mem _ hk)) (by omega) (by omega) h5
  rw [qBc] at h3
  have hn:¬(n<0∨own n=false):=fun hx=>by
   rcases hx with hx|hx
   ·omega
   ·rw [(h2 n h0 (Int.le_refl n)).1] at hx;cases hx
  rw [qCP,qBc,if_neg hn]
  exact go _ n (fun k hk=>List.mem_reverse.1 hk) h0 (Int.le_refl n) h3
end
theorem qBO (c:Nd):(qb c).length=14:=rfl
theorem qBH (k:Int):(qA9 k).length=1:=rfl
theorem qA4 (k:Int):zF .i64 (qA9 k) 0=some k:=rfl
theorem qAh (c:Nd):zF .i64 (qb c) 0=some c.1:=rfl
theorem qAi (c:Nd):zF .i64 (qb c) 1=some c.2.1:=rfl
theorem qAj (c:Nd):zF .i64 (qb c) 2=some c.2.2.1:=rfl
theorem qAk (c:Nd):zF .i64 (qb c) 3=some c.2.2.2.1:=rfl
theorem qAl (c:Nd):zh (qb c) 4=some c.2.2.2.2.1:=rfl
theorem qAm (c:Nd):zF .i64 (qb c) 5=some c.2.2.2.2.2.1:=rfl
theorem qAn (c:Nd):zF .i64 (qb c) 6=some c.2.2.2.2.2.2.1:=rfl
theorem qAo (c:Nd):zw (qb c) 7=some c.2.2.2.2.2.2.2.1:=rfl
theorem qAp (c:Nd):zw (qb c) 8=some c.2.2.2.2.2.2.2.2.1:=rfl
theorem qAq (c:Nd):zF .i64 (qb c) 9=some c.2.2.2.2.2.2.2.2.2.1:=rfl
theorem q9 (c:Nd):zF .i64 (qb c) 10=some c.2.2.2.2.2.2.2.2.2.2.1:=rfl
theorem qAA (c:Nd):zw (qb c) 11=some c.2.2.2.2.2.2.2.2.2.2.2.1:=rfl
theorem qAB (c:Nd):zw (qb c) 12=some c.2.2.2.2.2.2.2.2.2.2.2.2.1:=rfl
theorem qAC (c:Nd):zAY (qb c) 13=some ((c.2.2.2.2.2.2.2.2.2.2.2.2.2).map qA9):=rfl
def nd0:Nd:=(0,0,0,0,⟨#[]⟩,0,0,false,false,0,0,false,false,[])
def ndi (l:List Nd) (i:Int):Nd:=l.getD i.toNat nd0
def qU (l:List Nd) (i:Int):List Int:=kd (ndi l i)
def qFA (l:List Nd) (i:Int):Bool:=qBy (ndi l i)
def qA2 (l:List Nd) (i:Int):Bool:=decide ((ndi l i).1=3)
def qBk (l:List Nd) (i:Int):Bool:=decide ((ndi l i).1=6)
theorem qCW {l:List Nd} {i:Int} (h:0≤i∧i<l.length):l[i.toNat]?=some (ndi l i):=by
 have:i.toNat<l.length:=by omega
 unfold ndi
 rw [List.getElem?_eq_getElem this,List.getD_eq_getElem?_getD,List.getElem?_eq_getElem this]
 rfl
theorem qIS {l:List Nd} {i:Int} (h:0≤i∧i<l.length):ndi l i∈l:=List.mem_of_getElem? (qCW h)
theorem qON {α:Type} {l:List α} {j:Nat} {k:α} (h:l[j]?=some k):(l.take (j+1)).reverse=k::(l.take j).reverse:=by
 rw [List.take_add_one,h]
 simp
theorem qOO {R:Type} {F:Int→Nat→Option R} {f:Int→R} (x:Int) (h:∀y,0≤y→y<x→Ev (F y) (f y)):∃n0,∀n,n0≤n→∀y,0≤y→y<x→F y n=some (f y):=by
 obtain ⟨n0,h0⟩:=qCN (F:=F) (f:=f) ((List.range x.toNat).map fun (i:Nat)=>(i:Int)) (fun c hc=>by
  obtain ⟨i,hi,rfl⟩:=List.mem_map.1 hc
  have:=List.mem_range.1 hi
  exact h _ (Int.natCast_nonneg i) (by omega))
 refine ⟨n0,fun n hn y h1 h2=>h0 n hn y (List.mem_map.2 ⟨y.toNat,List.mem_range.2 (by omega),by omega⟩)⟩
theorem qNG (l:List Nd) (x1:Int) (f n:Nat) (hx:0≤x1∧x1<l.length) (hl:l.length≤140737488351232) (hk:(kd (ndi l x1)).length≤140737488351232)
  (hrec:∀y:Int,0≤y→y<x1→qAX n (l.map qb) y=some (qBc (qU l) f y)):
  ∀(j M:Nat) (s:Int),j≤(kd (ndi l x1)).length→j+1≤M→-1≤s→s<x1→
   (∃x,zD (qA1 (qAX n) n) M (l.map qb,x1,s,(j:Int)-1)=some (.inr x)∧goT (qBc (qU l) f) ((qU l x1).take j).reverse s=x+1∧-1≤x∧x<x1)∨
   (zD (qA1 (qAX n) n) M (l.map qb,x1,s,(j:Int)-1)=some (.inl (-1))∧goT (qBc (qU l) f) ((qU l x1).take j).reverse s= -1)
 |0,0,s,h1,h2,h3,h4=>by omega
 |0,M+1,s,h1,h2,h3,h4=>by
  refine .inl ⟨s,?_,by simp [goT],h3,h4⟩
  rw [qO (r:= .inr s) (by simp [-getElem?_pos,qA1,qC,qD,qF,qG,qH,qJ,Option.bind_some,qE,qK,qM])]
 |j+1,0,s,h1,h2,h3,h4=>by omega
 |j+1,M+1,s,h1,h2,h3,h4=>by
  have hc:=qCW hx
  have hj:j<(kd (ndi l x1)).length:=by omega
  have hg:(qU l x1)[j]?=some (qU l x1)[j]:=List.getElem?_eq_getElem hj
  have ih:=qNG l x1 f n hx hl hk hrec j M
  rw [qON hg]
  generalize (qU l x1)[j]=k at hg
  have hi:(((j+1:Nat):Int)-1)=(j:Int):=by omega
  rw [hi,goT]
  have hg':(ndi l x1).2.2.2.2.2.2.2.2.2.2.2.2.2[j]?=some k:=hg
  have hj':j<(ndi l x1).2.2.2.2.2.2.2.2.2.2.2.2.2.length:=hj
  by_cases hs:s<0
  ·refine .inr ⟨?_,by rw [if_pos (.inl hs)]⟩
   rw [qO (r:= .inl (-1)) (by simp [-getElem?_pos,qA1,qC,qD,qF,qG,qH,qJ,Option.bind_some,qE,qK,qM,hs])]
  ·by_cases hks:k=s
   ·subst hks
    have hr:=hrec k (by omega) h4
    by_cases ht:qBc (qU l) f k<0
    ·refine .inr ⟨?_,by rw [if_neg (by omega),if_pos ht]⟩
     rw [qO (r:= .inl (-1)) (by simp [-getElem?_pos,qA1,qC,qD,qF,qG,qH,qJ,Option.bind_some,qE,qK,qM,hs,hc,hx,qBO,qBH,qA4,qAh,qAi,qAj,qAk,qAl,qAm,qAn,qAo,qAp,qAq,q9,qAA,qAB,qAC,hg',hj',hr,ht])]
    ·have hle:=qKC (qU l) f k (by omega)
     have hw:IntKind.i64.wrap (qBc (qU l) f k-1)=qBc (qU l) f k-1:=qZ (by omega)
     have hw2:IntKind.i64.wrap ((j:Int)-1)=(j:Int)-1:=qZ (by omega)
     rw [if_neg (by omega),if_neg ht]
     rw [qa (v':=(l.map qb,x1,qBc (qU l) f k-1,(j:Int)-1)) (by simp [-getElem?_pos,qA1,qC,qD,qF,qG,qH,qJ,Option.bind_some,qE,qK,qM,hs,hc,hx,qBO,qBH,qA4,qAh,qAi,qAj,qAk,qAl,qAm,qAn,qAo,qAp,qAq,q9,qAA,qAB,qAC,hg',hj',hr,ht,hw,hw2])]
     exact ih _ (by omega) (by omega) (by omega) (by omega)
   ·refine .inr ⟨?_,by rw [if_pos (.inr hks)]⟩
    rw [qO (r:= .inl (-1)) (by simp [-getElem?_pos,qA1,qC,qD,qF,qG,qH,qJ,Option.bind_some,qE,qK,qM,hs,hc,hx,qBO,qBH,qA4,qAh,qAi,qAj,qAk,qAl,qAm,qAn,qAo,qAp,qAq,q9,qAA,qAB,qAC,hg',hj',hks])]
theorem qIE (l:List Nd) (hl:l.length≤140737488351232) (hk:∀c∈l,(kd c).length≤140737488351232):∀(f:Nat) (x:Int),0≤x→x<l.length→x<f→Ev (qAX · (l.map qb) x) (qBc (qU l) f x)
 |0,x,h0,h1,h2=>by omega
 |f+1,x,h0,h1,h2=>by
  obtain ⟨n0,hn0⟩:=qOO (F:=fun y n=>qAX n (l.map qb) y) (f:=fun y=>qBc (qU l) f y) x (fun y h3 h4=>qIE l hl hk f y h3 (by omega) (by omega))
  refine ⟨n0+(kd (ndi l x)).length+5,fun n hn=>?_⟩
  obtain ⟨m,rfl,hm⟩:=up1 hn
  have hc:=qCW (l:=l) (i:=x) ⟨h0,h1⟩
  have hkx:=hk _ (qIS (l:=l) ⟨h0,h1⟩)
  have hw:IntKind.i64.wrap (x-1)=x-1:=qZ (by omega)
  have hw2:IntKind.i64.wrap (((kd (ndi l x)).length:Int)-1)=((kd (ndi l x)).length:Int)-1:=qZ (by omega)
  have h:=qNG l x f m ⟨h0,h1⟩ hl hkx (hn0 m (by omega)) (kd (ndi l x)).length m (x-1) (Nat.le_refl _) (by omega) (by omega) (by omega)
  have e:(qU l x).take (kd (ndi l x)).length=qU l x:=List.take_length
  rw [e] at h
  rw [show qBc (qU l) (f+1) x=goT (qBc (qU l) f) (qU l x).reverse (x-1) from rfl]
  unfold kd at h hw2
  dsimp only
  simp only [qAX,qGI,qC,qD,qF,qG,qH,qJ,Option.bind_some,qE,qK,qM]
  rcases h with ⟨y,g1,g2,g3,g4⟩|⟨g1,g2⟩
  ·have hw3:IntKind.i64.wrap (y+1)=y+1:=qZ (by omega)
   rw [g2]
   simp [-getElem?_pos,qC,qD,qF,qG,qH,qJ,Option.bind_some,qE,qK,qM,hc,h0,h1,qBO,qBH,qA4,qAh,qAi,qAj,qAk,qAl,qAm,qAn,qAo,qAp,qAq,q9,qAA,qAB,qAC,hw,hw2,g1,hw3]
  ·rw [g2]
   simp [-getElem?_pos,qC,qD,qF,qG,qH,qJ,Option.bind_some,qE,qK,qM,hc,h0,h1,qBO,qBH,qA4,qAh,qAi,qAj,qAk,qAl,qAm,qAn,qAo,qAp,qAq,q9,qAA,qAB,qAC,hw,hw2,g1]
theorem qK6 (kids:Int→List Int):∀(f:Nat) (n:Int),0≤qAv kids f n∧qAv kids f n≤f
 |0,n=>by rw [qAv];omega
 |f+1,n=>by
  have:∀l:List Int,0≤qID (l.map fun k=>qAv kids f k)∧qID (l.map fun k=>qAv kids f k)≤f:=by
   intro l
   induction l with
   |nil=>exact ⟨Int.le_refl 0,Int.natCast_nonneg f⟩
   |cons a r ih=>have:=qK6 kids f a;simp only [List.map_cons,qID];omega
  have:=this (kids n)
  rw [qAv]
  omega
theorem qNH (l:List Nd) (x1:Int) (f n:Nat) (hx:0≤x1∧x1<l.length) (hf:f≤1000) (hk:(kd (ndi l x1)).length≤140737488351232)
  (hrec:∀k∈qU l x1,qAY n (l.map qb) k=some (qAv (qU l) f k)):
  ∀(m i M:Nat) (a:Int),(kd (ndi l x1)).length=i+m→m+1≤M→0≤a→
   zD (qCi (qAY n) n) M (l.map qb,x1,a,(i:Int))=some (max a (qID (((qU l x1).drop i).map fun k=>qAv (qU l) f k)))
 |m,i,0,a,h1,h2,h3=>by omega
 |0,i,M+1,a,h1,h2,h3=>by
  have hc:=qCW hx
  have hi:¬i<(ndi l x1).2.2.2.2.2.2.2.2.2.2.2.2.2.length:=by unfold kd at h1;omega
  rw [qO (r:=a) (by simp [-getElem?_pos,qCi,qC,qD,qF,qG,qH,qJ,Option.bind_some,qE,qK,qM,hc,hx,qBO,qBH,qA4,qAh,qAi,qAj,qAk,qAl,qAm,qAn,qAo,qAp,qAq,q9,qAA,qAB,qAC,hi])]
  rw [List.drop_eq_nil_of_le (by unfold qU;omega)]
  simp only [List.map_nil,qID]
  congr 1
  omega
 |m+1,i,M+1,a,h1,h2,h3=>by
  have hc:=qCW hx
  have hj:i<(kd (ndi l x1)).length:=by omega
  have hg:(qU l x1)[i]?=some (qU l x1)[i]:=List.getElem?_eq_getElem hj
  rw [qFC hg]
  have hr:=hrec _ (List.mem_of_getElem? hg)
  generalize (qU l x1)[i]=k at hg hr
  have hg':(ndi l x1).2.2.2.2.2.2.2.2.2.2.2.2.2[i]?=some k:=hg
  have hj':i<(ndi l x1).2.2.2.2.2.2.2.2.2.2.2.2.2.length:=hj
  have hj'':(i:Int)<((ndi l x1).2.2.2.2.2.2.2.2.2.2.2.2.2.length:Int):=by omega
  have hw:IntKind.i64.wrap ((i:Int)+1)=((i+1:Nat):Int):=by rw [qZ (by omega)];omega
  have hd:=qK6 (qU l) f k
  rw [qa (v':=(l.map qb,x1,(if qAv (qU l) f k>a then qAv (qU l) f k else a),((i+1:Nat):Int))) (by simp [-getElem?_pos,qCi,qC,qD,qF,qG,qH,qJ,Option.bind_some,qE,qK,qM,hc,hx,qBO,qBH,qA4,qAh,qAi,qAj,qAk,qAl,qAm,qAn,qAo,qAp,qAq,q9,qAA,qAB,qAC,hg',hj',hr,hw])]
  rw [qNH l x1 f n hx hf hk hrec m (i+1) M _ (by omega) (by omega) (by split<;>omega)]
  simp only [List.map_cons,qID]
  congr 1
  split<;>omega
theorem qIF (l:List Nd) (hl:l.length≤60) (hk:∀c∈l,(kd c).length≤140737488351232) (hin:∀i:Int,0≤i→i<l.length→qFd (qA2 l) (qBk l) (qU l) i):∀(f:Nat) (x:Int),f≤1000→0≤x→x<l.length→x<f→Ev (qAY · (l.map qb) x) (qAv (qU l) f x)
 |0,x,hf,h0,h1,h2=>by omega
 |f+1,x,hf,h0,h1,h2=>by
  obtain ⟨n0,hn0⟩:=qCN (F:=fun y n=>qAY n (l.map qb) y) (f:=fun y=>qAv (qU l) f y) (qU l x) (fun y hy=>by
   have:=hin x h0 h1 y hy
   exact qIF l hl hk hin f y (by omega) (by omega) (by omega) (by omega))
  refine ⟨n0+(kd (ndi l x)).length+5,fun n hn=>?_⟩
  obtain ⟨m,rfl,hm⟩:=up1 hn
  have h:=qNH l x f m ⟨h0,h1⟩ (by omega) (hk _ (qIS (l:=l) ⟨h0,h1⟩)) (hn0 m (by omega)) (kd (ndi l x)).length 0 m 0 (by omega) (by omega) (by omega)
  have hd:=qK6 (qU l) (f+1) x
  have e:max 0 (qID ((qU l x).map fun k=>qAv (qU l) f k))+1=qAv (qU l) (f+1) x:=by
   rw [qAv]
   have:∀q:List Int,0≤qID q:=by
    intro q
    induction q with
    |nil=>exact Int.le_refl 0
    |cons a r ih=>simp only [qID];omega
   have:=this ((qU l x).map fun k=>qAv (qU l) f k)
   omega
  rw [List.drop_zero] at h
  simp only [Int.natCast_zero] at h
  have hw:IntKind.i64.wrap (max 0 (qID ((qU l x).map fun k=>qAv (qU l) f k))+1)=qAv (qU l) (f+1) x:=by rw [e,qZ (by omega)]
  simp only [qAY,qGK,qC,qD,qF,qG,qH,qJ,Option.bind_some,qE,qK,qM,h,hw]
def inB (l:List Nd) (i:Int):Bool:=(qU l i).all fun k=>decide (0≤k∧k≤i-1)&&!(qA2 l k&&!qBk l i)
theorem qPF {l:List Nd} {i:Int}:inB l i=true↔qFd (qA2 l) (qBk l) (qU l) i:=by
 unfold inB qFd
 rw [List.all_eq_true]
 refine forall_congr' fun k=>forall_congr' fun hk=>?_
 cases qA2 l k<;>cases qBk l i<;>simp
theorem qNt (l:List Nd) (x1:Int) (n:Nat) (hx:0≤x1∧x1<l.length) (hl:l.length≤60) (hk:(kd (ndi l x1)).length≤140737488351232):
  ∀(m i M:Nat),(kd (ndi l x1)).length=i+m→m+1≤M→
   zD (qAR (n+1)) M (l.map qb,x1,(i:Int))=some (if ((qU l x1).drop i).all (fun k=>decide (0≤k∧k≤x1-1)&&!(qA2 l k&&!qBk l x1))=true then .inr (l.map qb,x1) else .inl false)
 |m,i,0,h1,h2=>by omega
 |0,i,M+1,h1,h2=>by
  have hc:=qCW hx
  have hi:¬i<(ndi l x1).2.2.2.2.2.2.2.2.2.2.2.2.2.length:=by unfold kd at h1;omega
  rw [qO (r:= .inr (l.map qb,x1)) (by simp [-getElem?_pos,qAR,qC,qD,qF,qG,qH,qJ,Option.bind_some,qE,qK,qM,hc,hx,qBO,qBH,qA4,qAh,qAi,qAj,qAk,qAl,qAm,qAn,qAo,qAp,qAq,q9,qAA,qAB,qAC,hi])]
  rw [List.drop_eq_nil_of_le (by unfold qU;omega)]
  rfl
 |m+1,i,M+1,h1,h2=>by
  have hc:=qCW hx
  have hj:i<(kd (ndi l x1)).length:=by omega
  have hg:(qU l x1)[i]?=some (qU l x1)[i]:=List.getElem?_eq_getElem hj
  rw [qFC hg]
  generalize (qU l x1)[i]=k at hg
  have hg':(ndi l x1).2.2.2.2.2.2.2.2.2.2.2.2.2[i]?=some k:=hg
  have hj':i<(ndi l x1).2.2.2.2.2.2.2.2.2.2.2.2.2.length:=hj
  have hw:IntKind.i64.wrap ((i:Int)+1)=((i+1:Nat):Int):=by rw [qZ (by omega)];omega
  have hw2:IntKind.i64.wrap (x1-1)=x1-1:=qZ (by omega)
  have hin:qBD (n+1) k 0 (x1-1)=some (decide (0≤k∧k≤x1-1)):=by
   simp only [qBD,qFo,qC,qD,qF,qG,qH,qJ,Option.bind_some,qE,qK,qM]
   by_cases h:k≥0<;>simp [h]
  rw [List.all_cons]
  by_cases hr:0≤k∧k≤x1-1
  ·have hck:=qCW (l:=l) (i:=k) ⟨hr.1,by omega⟩
   have hkl:k<(l.length:Int):=by omega
   by_cases ha:(ndi l k).1=3
   ·by_cases hcl:(ndi l x1).1=6
    ·rw [qa (v':=(l.map qb,x1,((i+1:Nat):Int))) (by simp [-getElem?_pos,qAR,qC,qD,qF,qG,qH,qJ,Option.bind_some,qE,qK,qM,hc,hx,qBO,qBH,qA4,qAh,qAi,qAj,qAk,qAl,qAm,qAn,qAo,qAp,qAq,q9,qAA,qAB,qAC,hg',hj',hw,hw2,hin,hr,hck,hkl,ha,hcl])]
     rw [qNt l x1 n hx hl hk m (i+1) M (by omega) (by omega)]
     simp [hr,qA2,qBk,ha,hcl]
    ·rw [qO (r:= .inl false) (by simp [-getElem?_pos,qAR,qC,qD,qF,qG,qH,qJ,Option.bind_some,qE,qK,qM,hc,hx,qBO,qBH,qA4,qAh,qAi,qAj,qAk,qAl,qAm,qAn,qAo,qAp,qAq,q9,qAA,qAB,qAC,hg',hj',hw,hw2,hin,hr,hck,hkl,ha,hcl])]
     simp [hr,qA2,qBk,ha,hcl]
   ·rw [qa (v':=(l.map qb,x1,((i+1:Nat):Int))) (by simp [-getElem?_pos,qAR,qC,qD,qF,qG,qH,qJ,Option.bind_some,qE,qK,qM,hc,hx,qBO,qBH,qA4,qAh,qAi,qAj,qAk,qAl,qAm,qAn,qAo,qAp,qAq,q9,qAA,qAB,qAC,hg',hj',hw,hw2,hin,hr,hck,hkl,ha])]
    rw [qNt l x1 n hx hl hk m (i+1) M (by omega) (by omega)]
    simp [hr,qA2,qBk,ha]
  ·rw [qO (r:= .inl false) (by simp [-getElem?_pos,qAR,qC,qD,qF,qG,qH,qJ,Option.bind_some,qE,qK,qM,hc,hx,qBO,qBH,qA4,qAh,qAi,qAj,qAk,qAl,qAm,qAn,qAo,qAp,qAq,q9,qAA,qAB,qAC,hg',hj',hw2,hin,hr])]
   simp [hr]
def qEd (l:List Nd) (i m:Nat):Bool:=(List.range' i m).all fun (i:Nat)=>qFA l (i:Int)&&inB l (i:Int)
theorem qEo {l:List Nd}:qEd l 0 l.length=true↔∀i:Int,0≤i→i<l.length→qFA l i=true∧qFd (qA2 l) (qBk l) (qU l) i:=by
 unfold qEd
 rw [List.all_eq_true]
 constructor
 ·intro h i h0 h1
  have:=h i.toNat (by rw [List.mem_range'];exact ⟨i.toNat,by omega,by omega⟩)
  rw [show ((i.toNat:Nat):Int)=i by omega,Bool.and_eq_true,qPF] at this
  exact this
 ·intro h i hi
  rw [List.mem_range'] at hi
  obtain ⟨j,hj,rfl⟩:=hi
  rw [Bool.and_eq_true,qPF]
  exact h _ (by omega) (by omega)
theorem qPG (l:List Nd) (n:Nat) (hl:l.length≤60) (hk:∀c∈l,(kd c).length≤140737488351232) (hn:∀c∈l,(kd c).length+2≤n)
  (hok:∀c∈l,qBn n c.1 c.2.1 c.2.2.1 c.2.2.2.1 c.2.2.2.2.1 c.2.2.2.2.2.1 c.2.2.2.2.2.2.1 c.2.2.2.2.2.2.2.1 c.2.2.2.2.2.2.2.2.1 c.2.2.2.2.2.2.2.2.2.1 c.2.2.2.2.2.2.2.2.2.2.1 c.2.2.2.2.2.2.2.2.2.2.2.1 c.2.2.2.2.2.2.2.2.2.2.2.2.1 ((c.2.2.2.2.2.2.2.2.2.2.2.2.2).map qA9)=some (qBy c)):
  ∀(m i M:Nat),l.length=i+m→m+1≤M→
   zD (qA3 n) M (l.map qb,(i:Int))=some (if qEd l i m=true then .inr (l.map qb) else .inl false)
 |m,i,0,h1,h2=>by omega
 |0,i,M+1,h1,h2=>by
  have hi:¬(i:Int)<(l.length:Int):=by omega
  rw [qO (r:= .inr (l.map qb)) (by simp [-getElem?_pos,qA3,qC,qD,qF,qG,qH,qJ,Option.bind_some,qE,qK,qM,hi])]
  rfl
 |m+1,i,M+1,h1,h2=>by
  have hi:(i:Int)<(l.length:Int):=by omega
  have hx:0≤(i:Int)∧(i:Int)<l.length:=⟨by omega,hi⟩
  have hc:=qCW hx
  have hm:=qIS hx
  have ho:=hok _ hm
  have hw:IntKind.i64.wrap ((i:Int)+1)=((i+1:Nat):Int):=by rw [qZ (by omega)];omega
  have hnn:=hn _ hm
  obtain ⟨q,rfl⟩:∃q,n=q+1:=⟨n-1,by omega⟩
  have hlp:=qNt l i q hx hl (hk _ hm) (kd (ndi l i)).length 0 (q+1) (by omega) (by omega)
  rw [List.drop_zero,show ((qU l (i:Int)).all fun k=>decide (0≤k∧k≤(i:Int)-1)&&!(qA2 l k&&!qBk l (i:Int)))=inB l i from rfl] at hlp
  simp only [Int.natCast_zero] at hlp
  have e:qEd l i (m+1)=(qFA l i&&inB l i&&qEd l (i+1) m):=by unfold qEd;rw [List.range'_succ,List.all_cons]
  rw [e]
  rw [Int.toNat_natCast] at hc
  cases hnb:qBy (ndi l i) with
  |false=>
   rw [hnb] at ho
   rw [qO (r:= .inl false) (by simp [-getElem?_pos,qA3,qC,qD,qF,qG,qH,qJ,Option.bind_some,qE,qK,qM,hi,hc,qBO,qBH,qA4,qAh,qAi,qAj,qAk,qAl,qAm,qAn,qAo,qAp,qAq,q9,qAA,qAB,qAC,ho])]
   simp [qFA,hnb]
  |true=>
   rw [hnb] at ho
   cases hib:inB l i with
   |false=>
    rw [hib] at hlp
    rw [qO (r:= .inl false) (by simp [-getElem?_pos,qA3,qC,qD,qF,qG,qH,qJ,Option.bind_some,qE,qK,qM,hi,hc,qBO,qBH,qA4,qAh,qAi,qAj,qAk,qAl,qAm,qAn,qAo,qAp,qAq,q9,qAA,qAB,qAC,ho,hlp])]
    simp
   |true=>
    rw [hib] at hlp
    rw [qa (v':=(l.map qb,((i+1:Nat):Int))) (by simp [-getElem?_pos,qA3,qC,qD,qF,qG,qH,qJ,Option.bind_some,qE,qK,qM,hi,hc,qBO,qBH,qA4,qAh,qAi,qAj,qAk,qAl,qAm,qAn,qAo,qAp,qAq,q9,qAA,qAB,qAC,ho,hlp,hw])]
    rw [qPG l (q+1) hl hk hn hok m (i+1) M (by omega) (by omega)]
    simp [qFA,hnb]
def qDq (l:List Nd):Bool:=decide (1≤l.length∧l.length≤60)&&(qEd l 0 l.length&&(decide (qBc (qU l) l.length ((l.length:Int)-1)=0)&&(!qA2 l ((l.length:Int)-1)&&decide (qAv (qU l) l.length ((l.length:Int)-1)≤12))))
theorem qKD (l:List Nd) (hk:∀c∈l,(kd c).length≤140737488351232∧c.2.2.2.2.1.size≤140737488351232):Ev (qB2 · (l.map qb)) (qDq l):=by
 by_cases h1:1≤l.length
 ·by_cases h60:l.length≤60
  ·have hk1:∀c∈l,(kd c).length≤140737488351232:=fun c hc=>(hk c hc).1
   obtain ⟨n1,g1⟩:=qCN (F:=fun (c:Nd) n=>qBn n c.1 c.2.1 c.2.2.1 c.2.2.2.1 c.2.2.2.2.1 c.2.2.2.2.2.1 c.2.2.2.2.2.2.1 c.2.2.2.2.2.2.2.1 c.2.2.2.2.2.2.2.2.1 c.2.2.2.2.2.2.2.2.2.1 c.2.2.2.2.2.2.2.2.2.2.1 c.2.2.2.2.2.2.2.2.2.2.2.1 c.2.2.2.2.2.2.2.2.2.2.2.2.1 ((c.2.2.2.2.2.2.2.2.2.2.2.2.2).map qA9)) (f:=qBy) l (fun c hc=>qGl c (hk c hc).2)
   obtain ⟨n2,g2⟩:=qCN (F:=fun (c:Nd) n=>if (kd c).length+2≤n then some () else none) (f:=fun _=>()) l (fun c hc=>⟨(kd c).length+2,fun n hn=>if_pos hn⟩)
   obtain ⟨n3,g3⟩:=qIE l (by omega) hk1 l.length ((l.length:Int)-1) (by omega) (by omega) (by omega)
   obtain ⟨n4,g4⟩:∃n0,qEd l 0 l.length=true→∀n,n0≤n→qAY n (l.map qb) ((l.length:Int)-1)=some (qAv (qU l) l.length ((l.length:Int)-1)):=by
    by_cases ho:qEd l 0 l.length=true
    ·obtain ⟨n4,g4⟩:=qIF l h60 hk1 (fun (i:Int) h0 h1=>(qEo.1 ho i h0 h1).2) l.length ((l.length:Int)-1) (by omega) (by omega) (by omega) (by omega)
     exact ⟨n4,fun _=>g4⟩
    ·exact ⟨0,fun h=>absurd h ho⟩
   refine ⟨n1+n2+n3+n4+l.length+5,fun n hn=>?_⟩
   obtain ⟨m,rfl,hm⟩:=up1 hn
   have hlp:=qPG l m h60 hk1 (fun c hc=>by
    have:=g2 m (by omega) c hc
    split at this
    ·assumption
    ·cases this) (g1 m (by omega)) l.length 0 m (by omega) (by omega)
   have g3:=g3 m (by omega)
   dsimp only at g3
   simp only [Int.natCast_zero] at hlp
   have hw:IntKind.i64.wrap ((l.length:Int)-1)=(l.length:Int)-1:=qZ (by omega)
   have hx:0≤(l.length:Int)-1∧(l.length:Int)-1<l.length:=by omega
   have hc:=qCW hx
   have a1:¬(l.length:Int)<1:=by omega
   have a2:¬(l.length:Int)>60:=by omega
   generalize hxe:(l.length:Int)-1=x at hw hx hc g3 g4⊢
   simp only [qB2,qCj,qC,qD,qF,qG,qH,qJ,Option.bind_some,qE,qK,qM,List.length_map,decide_eq_true_eq,a1,a2,if_false,hlp]
   unfold qDq
   rw [hxe]
   cases ho:qEd l 0 l.length with
   |false=>simp [qC,qD,qF,qG,qH,qJ,Option.bind_some,qE,qK,qM]
   |true=>
    have g4:=g4 ho m (by omega)
    simp only [if_true,qC,qD,qF,qG,qH,qJ,Option.bind_some,qE,qK,qM,List.length_map,hxe,hw,g3]
    by_cases ht:qBc (qU l) l.length x=0
    ·by_cases ha:(ndi l x).1=3
     ·simp [-getElem?_pos,qC,qD,qF,qG,qH,qJ,Option.bind_some,qE,qK,qM,ht,hx,hc,qBO,qBH,qA4,qAh,qAi,qAj,qAk,qAl,qAm,qAn,qAo,qAp,qAq,q9,qAA,qAB,qAC,ha,qA2]
     ·simp [-getElem?_pos,qC,qD,qF,qG,qH,qJ,Option.bind_some,qE,qK,qM,ht,hx,hc,qBO,qBH,qA4,qAh,qAi,qAj,qAk,qAl,qAm,qAn,qAo,qAp,qAq,q9,qAA,qAB,qAC,ha,qA2,g4,h1,h60]
    ·simp [-getElem?_pos,qC,qD,qF,qG,qH,qJ,Option.bind_some,qE,qK,qM,ht]
  ·refine ⟨1,fun n hn=>?_⟩
   obtain ⟨m,rfl,hm⟩:=up1 (n0:=0) hn
   have a1:¬(l.length:Int)<1:=by omega
   have a2:(l.length:Int)>60:=by omega
   simp [-getElem?_pos,qB2,qCj,qC,qD,qF,qG,qH,qJ,Option.bind_some,qE,qK,qM,a1,a2,qDq,h60]
 ·refine ⟨1,fun n hn=>?_⟩
  obtain ⟨m,rfl,hm⟩:=up1 (n0:=0) hn
  have a1:(l.length:Int)<1:=by omega
  simp [-getElem?_pos,qB2,qCj,qC,qD,qF,qG,qH,qJ,Option.bind_some,qE,qK,qM,a1,qDq,h1]
theorem qNI (l:List Nd) (x1 d:Int) (f n:Nat) (hx:0≤x1∧x1<l.length) (hl:l.length≤140737488351232) (hd:0≤d∧d≤1000) (hk:(kd (ndi l x1)).length≤140737488351232)
  (hrec:∀y:Int,0≤y→y<x1→qAQ n (l.map qb) y (d+1)=some (qCP (qFA l) (qA2 l) (qBk l) (qU l) f y)):
  ∀(j M:Nat) (s:Int),j≤(kd (ndi l x1)).length→j+1≤M→0≤s→s≤x1→
   zD (qAF (qAQ n) n) M (l.map qb,x1,d,s,(j:Int)-1)=some (.inr (goF (qA2 l) (qBk l) (qCP (qFA l) (qA2 l) (qBk l) (qU l) f) x1 ((qU l x1).take j).reverse s))∨
   (zD (qAF (qAQ n) n) M (l.map qb,x1,d,s,(j:Int)-1)=some (.inl (-1))∧goF (qA2 l) (qBk l) (qCP (qFA l) (qA2 l) (qBk l) (qU l) f) x1 ((qU l x1).take j).reverse s= -1)
 |0,0,s,h1,h2,h3,h4=>by omega
 |0,M+1,s,h1,h2,h3,h4=>by
  refine .inl ?_
  rw [qO (r:= .inr s) (by simp [-getElem?_pos,qAF,qC,qD,qF,qG,qH,qJ,Option.bind_some,qE,qK,qM])]
  simp [goF]
 |j+1,0,s,h1,h2,h3,h4=>by omega
 |j+1,M+1,s,h1,h2,h3,h4=>by
  have hc:=qCW hx
  have hj:j<(kd (ndi l x1)).length:=by omega
  have hg:(qU l x1)[j]?=some (qU l x1)[j]:=List.getElem?_eq_getElem hj
  have ih:=qNI l x1 d f n hx hl hd hk hrec j M
  rw [qON hg]
  generalize (qU l x1)[j]=k at hg
  have hi:(((j+1:Nat):Int)-1)=(j:Int):=by omega
  rw [hi,goF]
  have hg':(ndi l x1).2.2.2.2.2.2.2.2.2.2.2.2.2[j]?=some k:=hg
  have hj':j<(ndi l x1).2.2.2.2.2.2.2.2.2.2.2.2.2.length:=hj
  have hws:IntKind.i64.wrap (s-1)=s-1:=qZ (by omega)
  by_cases hks:k=s-1
  ·by_cases hk0:k<0
   ·refine .inr ⟨?_,by rw [if_pos (.inr (.inl hk0))]⟩
    rw [qO (r:= .inl (-1)) (by simp [-getElem?_pos,qAF,qC,qD,qF,qG,qH,qJ,Option.bind_some,qE,qK,qM,hc,hx,qBO,qBH,qA4,qAh,qAi,qAj,qAk,qAl,qAm,qAn,qAo,qAp,qAq,q9,qAA,qAB,qAC,hg',hj',hks,hws,show s-1<0 by omega])]
   ·have hws':IntKind.i64.wrap (s-1)=k:=by rw [hws,hks]
    have hkx:0≤k∧k<l.length:=by omega
    have hck:=qCW hkx
    by_cases hac:qA2 l k=true∧qBk l x1=false
    ·have ha:(ndi l k).1=3:=by simpa [qA2] using hac.1
     have hb:¬(ndi l x1).1=6:=by simpa [qBk] using hac.2
     refine .inr ⟨?_,by rw [if_pos (.inr (.inr hac))]⟩
     rw [qO (r:= .inl (-1)) (by simp [-getElem?_pos,qAF,qC,qD,qF,qG,qH,qJ,Option.bind_some,qE,qK,qM,hc,hx,qBO,qBH,qA4,qAh,qAi,qAj,qAk,qAl,qAm,qAn,qAo,qAp,qAq,q9,qAA,qAB,qAC,hg',hj',hws',hk0,hck,hkx,ha,hb])]
    ·have hr:=hrec k (by omega) (by omega)
     have hwd:IntKind.i64.wrap (d+1)=d+1:=qZ (by omega)
     have hw2:IntKind.i64.wrap ((j:Int)-1)=(j:Int)-1:=qZ (by omega)
     have hno:¬(k≠s-1∨k<0∨(qA2 l k=true∧qBk l x1=false)):=fun h=>by
      rcases h with h|h|h
      ·exact h hks
      ·exact hk0 h
      ·exact hac h
     have hcase:¬(ndi l k).1=3∨((ndi l k).1=3∧(ndi l x1).1=6):=by
      by_cases ha:(ndi l k).1=3
      ·refine .inr ⟨ha,?_⟩
       refine Decidable.byContradiction fun hb=>hac ⟨by simp [qA2,ha],by simp [qBk,hb]⟩
      ·exact .inl ha
     rw [if_neg hno]
     by_cases ht:qCP (qFA l) (qA2 l) (qBk l) (qU l) f k<0
     ·refine .inr ⟨?_,by rw [if_pos ht]⟩
      rcases hcase with ha|⟨ha,hb⟩
      ·rw [qO (r:= .inl (-1)) (by simp [-getElem?_pos,qAF,qC,qD,qF,qG,qH,qJ,Option.bind_some,qE,qK,qM,hc,hx,qBO,qBH,qA4,qAh,qAi,qAj,qAk,qAl,qAm,qAn,qAo,qAp,qAq,q9,qAA,qAB,qAC,hg',hj',hws',hk0,hck,hkx,ha,hwd,hr,ht])]
      ·rw [qO (r:= .inl (-1)) (by simp [-getElem?_pos,qAF,qC,qD,qF,qG,qH,qJ,Option.bind_some,qE,qK,qM,hc,hx,qBO,qBH,qA4,qAh,qAi,qAj,qAk,qAl,qAm,qAn,qAo,qAp,qAq,q9,qAA,qAB,qAC,hg',hj',hws',hk0,hck,hkx,ha,hb,hwd,hr,ht])]
     ·rw [if_neg ht]
      have hb1:=(qNs (qFA l) (qA2 l) (qBk l) (qU l) f (k.toNat+1) k (by omega) (by omega) (by omega)).1
      have hstep:zD (qAF (qAQ n) n) (M+1) (l.map qb,x1,d,s,(j:Int))=zD (qAF (qAQ n) n) M (l.map qb,x1,d,qCP (qFA l) (qA2 l) (qBk l) (qU l) f k,(j:Int)-1):=by
       rcases hcase with ha|⟨ha,hb⟩
       ·rw [qa (v':=(l.map qb,x1,d,qCP (qFA l) (qA2 l) (qBk l) (qU l) f k,(j:Int)-1)) (by simp [-getElem?_pos,qAF,qC,qD,qF,qG,qH,qJ,Option.bind_some,qE,qK,qM,hc,hx,qBO,qBH,qA4,qAh,qAi,qAj,qAk,qAl,qAm,qAn,qAo,qAp,qAq,q9,qAA,qAB,qAC,hg',hj',hws',hk0,hck,hkx,ha,hwd,hr,ht,hw2])]
       ·rw [qa (v':=(l.map qb,x1,d,qCP (qFA l) (qA2 l) (qBk l) (qU l) f k,(j:Int)-1)) (by simp [-getElem?_pos,qAF,qC,qD,qF,qG,qH,qJ,Option.bind_some,qE,qK,qM,hc,hx,qBO,qBH,qA4,qAh,qAi,qAj,qAk,qAl,qAm,qAn,qAo,qAp,qAq,q9,qAA,qAB,qAC,hg',hj',hws',hk0,hck,hkx,ha,hb,hwd,hr,ht,hw2])]
      rw [hstep]
      exact ih _ (by omega) (by omega) (by omega) (by omega)
  ·refine .inr ⟨?_,by rw [if_pos (.inl hks)]⟩
   rw [qO (r:= .inl (-1)) (by simp [-getElem?_pos,qAF,qC,qD,qF,qG,qH,qJ,Option.bind_some,qE,qK,qM,hc,hx,qBO,qBH,qA4,qAh,qAi,qAj,qAk,qAl,qAm,qAn,qAo,qAp,qAq,q9,qAA,qAB,qAC,hg',hj',hws,hks])]
theorem qKE (l:List Nd) (hl:l.length≤140737488351232) (hk:∀c∈l,(kd c).length≤140737488351232∧c.2.2.2.2.1.size≤140737488351232):∀(f:Nat) (x d:Int),x<l.length→d=12-f→0≤d→Ev (qAQ · (l.map qb) x d) (qCP (qFA l) (qA2 l) (qBk l) (qU l) f x)
 |0,x,d,h1,h2,h3=>by
  refine ⟨1,fun n hn=>?_⟩
  obtain ⟨m,rfl,hm⟩:=up1 (n0:=0) hn
  have a:d≥12:=by omega
  by_cases h:x<0<;>simp [-getElem?_pos,qAQ,qEk,qC,qD,qF,qG,qH,qJ,Option.bind_some,qE,qK,qM,h,a,qCP]
 |f+1,x,d,h1,h2,h3=>by
  by_cases h0:x<0
  ·refine ⟨1,fun n hn=>?_⟩
   obtain ⟨m,rfl,hm⟩:=up1 (n0:=0) hn
   simp [-getElem?_pos,qAQ,qEk,qC,qD,qF,qG,qH,qJ,Option.bind_some,qE,qK,qM,h0,qCP]
  ·have hx:0≤x∧x<l.length:=by omega
   have hc:=qCW hx
   have hm':=qIS hx
   obtain ⟨n0,hn0⟩:=qOO (F:=fun y n=>qAQ n (l.map qb) y (d+1)) (f:=fun y=>qCP (qFA l) (qA2 l) (qBk l) (qU l) f y) x (fun y h3 h4=>qKE l hl hk f y (d+1) (by omega) (by omega) (by omega))
   obtain ⟨n1,g1⟩:=qMy (ndi l x) (hk _ hm').2
   refine ⟨n0+n1+(kd (ndi l x)).length+5,fun n hn=>?_⟩
   obtain ⟨m,rfl,hm⟩:=up1 hn
   have g1:=g1 m (by omega)
   have h:=qNI l x d f m hx hl (by omega) (hk _ hm').1 (hn0 m (by omega)) (kd (ndi l x)).length m x (Nat.le_refl _) (by omega) (by omega) (by omega)
   have e:(qU l x).take (kd (ndi l x)).length=qU l x:=List.take_length
   rw [e] at h
   have hw2:IntKind.i64.wrap (((kd (ndi l x)).length:Int)-1)=((kd (ndi l x)).length:Int)-1:=by
    have:=(hk _ hm').1
    exact qZ (by omega)
   have a:¬d≥12:=by omega
   unfold kd at h hw2
   dsimp only at g1⊢
   simp only [qAQ,qEk,qCP,qC,qD,qF,qG,qH,qJ,Option.bind_some,qE,qK,qM]
   cases hnb:qBy (ndi l x) with
   |false=>
    rw [hnb] at g1
    simp [-getElem?_pos,qC,qD,qF,qG,qH,qJ,Option.bind_some,qE,qK,qM,h0,a,hc,hx,qBO,qBH,qA4,qAh,qAi,qAj,qAk,qAl,qAm,qAn,qAo,qAp,qAq,q9,qAA,qAB,qAC,g1,qFA,hnb]
   |true=>
    rw [hnb] at g1
    rcases h with h|⟨h,h'⟩
    ·simp [-getElem?_pos,qC,qD,qF,qG,qH,qJ,Option.bind_some,qE,qK,qM,h0,a,hc,hx,qBO,qBH,qA4,qAh,qAi,qAj,qAk,qAl,qAm,qAn,qAo,qAp,qAq,q9,qAA,qAB,qAC,g1,qFA,hnb,hw2,h]
    ·simp only [h']
     simp [-getElem?_pos,qC,qD,qF,qG,qH,qJ,Option.bind_some,qE,qK,qM,h0,a,hc,hx,qBO,qBH,qA4,qAh,qAi,qAj,qAk,qAl,qAm,qAn,qAo,qAp,qAq,q9,qAA,qAB,qAC,g1,qFA,hnb,hw2,h]
theorem qP1 {l:List Nd}:qDq l=(decide (1≤l.length∧l.length≤60)&&(!qA2 l ((l.length:Int)-1)&&decide (qCP (qFA l) (qA2 l) (qBk l) (qU l) 12 ((l.length:Int)-1)=0))):=by
 rw [Bool.eq_iff_iff]
 unfold qDq
 simp only [Bool.and_eq_true,decide_eq_true_eq]
 constructor
 ·intro ⟨h1,h2,h3,h4,h5⟩
  refine ⟨h1,h4,?_⟩
  rw [qPE (qFA l) (qA2 l) (qBk l) (qU l) 12 l.length l.length ((l.length:Int)-1) (by omega) (by omega) (by omega) (fun i i0 i1=>qEo.1 h2 i i0 (by omega)) (by omega) (by simpa using h5)]
  exact h3
 ·intro ⟨h1,h4,h5⟩
  obtain ⟨b1,b2,b3,b4⟩:=qNs (qFA l) (qA2 l) (qBk l) (qU l) 12 l.length ((l.length:Int)-1) (by omega) (by omega) (by omega)
  rw [h5] at b2 b3
  refine ⟨h1,qEo.2 (fun i i0 i1=>b3 i i0 (by omega)),b2,h4,?_⟩
  have:=b4 l.length (fun i i0 i1=>(b3 i i0 i1).2) (by omega)
  simpa using this
theorem qEF (l:List Nd) (hl:l.length≤140737488351232) (hk:∀c∈l,(kd c).length≤140737488351232∧c.2.2.2.2.1.size≤140737488351232):Ev (qBF · (l.map qb)) (qDq l):=by
 rw [qP1]
 by_cases h:1≤l.length∧l.length≤60
 ·obtain ⟨n1,g1⟩:=qKE l hl hk 12 ((l.length:Int)-1) 0 (by omega) (by omega) (by omega)
  obtain ⟨n2,g2⟩:=qAG (l.length:Int) 1 60
  refine ⟨n1+n2+1,fun n hn=>?_⟩
  obtain ⟨m,rfl,hm⟩:=up1 hn
  have g1:=g1 m (by omega)
  have g2:=g2 m (by omega)
  dsimp only at g1 g2⊢
  have hw:IntKind.i64.wrap ((l.length:Int)-1)=(l.length:Int)-1:=qZ (by omega)
  have hx:0≤(l.length:Int)-1∧(l.length:Int)-1<l.length:=by omega
  have hc:=qCW hx
  have h':(1:Int)≤l.length∧(l.length:Int)≤60:=by omega
  generalize hxe:(l.length:Int)-1=x at hw hx hc g1⊢
  by_cases ha:(ndi l x).1=3
  ·simp [-getElem?_pos,qBF,qCd,qC,qD,qF,qG,qH,qJ,Option.bind_some,qE,qK,qM,hxe,g2,h',hw,hx,hc,qBO,qBH,qA4,qAh,qAi,qAj,qAk,qAl,qAm,qAn,qAo,qAp,qAq,q9,qAA,qAB,qAC,ha,qA2]
  ·by_cases hf:qCP (qFA l) (qA2 l) (qBk l) (qU l) 12 x=0<;>simp [-getElem?_pos,qBF,qCd,qC,qD,qF,qG,qH,qJ,Option.bind_some,qE,qK,qM,hxe,g1,g2,h,h',hw,hx,hc,qBO,qBH,qA4,qAh,qAi,qAj,qAk,qAl,qAm,qAn,qAo,qAp,qAq,q9,qAA,qAB,qAC,ha,qA2,hf]
 ·obtain ⟨n2,g2⟩:=qAG (l.length:Int) 1 60
  refine ⟨n2+1,fun n hn=>?_⟩
  obtain ⟨m,rfl,hm⟩:=up1 hn
  have g2:=g2 m (by omega)
  dsimp only at g2⊢
  have h':¬((1:Int)≤l.length∧(l.length:Int)≤60):=by omega
  simp [-getElem?_pos,qBF,qCd,qC,qD,qF,qG,qH,qJ,Option.bind_some,qE,qK,qM,g2,h,h']
def qBa (l:List UInt8):List UInt8:=l.flatMap fun c=>if c=34 then [34,34] else [c]
def qDY (s:ByteArray):ByteArray:=⟨(34::qBa s.toList++ [34]).toArray⟩
theorem qFe (c:UInt8) (l:List UInt8):qBa (c::l)=(if c=34 then [34,34] else [c])++qBa l:=by simp [qBa]
theorem qK7:∀l:List UInt8,(qBa l).length≤2*l.length
 | []=>by simp [qBa]
 |c::l=>by
  have:=qK7 l
  rw [qFe]
  by_cases h:c=34<;>simp [h]<;>omega
theorem qI3:∀s:List UInt8,Lib.replaceK [34] [34,34] (Lib.count s [34]) s=qBa s
 | []=>by
  rw [Lib.count_miss (by rfl)]
  rfl
 |b::l=>by
  have ih:=qI3 l
  by_cases hb:b=34
  ·subst hb
   have h0:Lib.index (34::l) [34]=((0:Nat):Int):=by simp [Lib.index,List.isPrefixOf]
   rw [Lib.count_hit (by simp) h0,Nat.add_comm,Lib.replaceK_hit _ _ _ _ 0 h0]
   simp only [List.take_zero,List.nil_append,Nat.zero_add,List.length_singleton,List.drop_succ_cons,List.drop_zero]
   rw [ih,qFe,if_pos rfl]
  ·have hix:Lib.index (b::l) [34]=if Lib.index l [34]== -1 then-1 else Lib.index l [34]+1:=by
    have:((34:UInt8)==b)=false:=by simpa using fun e=>hb e.symm
    simp [Lib.index,List.isPrefixOf,this]
   rw [qFe,if_neg hb]
   by_cases hm:Lib.index l [34]= -1
   ·rw [hm] at hix
    rw [Lib.count_miss hm] at ih
    rw [Lib.count_miss (by rw [hix];rfl)]
    rw [Lib.replaceK] at ih⊢
    rw [←ih]
    rfl
   ·have hge:=Lib.index_ge l [34]
    obtain ⟨i,hi⟩:∃i:Nat,Lib.index l [34]=i:=⟨(Lib.index l [34]).toNat,by omega⟩
    have hix':Lib.index (b::l) [34]=((i+1:Nat):Int):=by
     rw [hix,if_neg (by simp [hm]),hi]
     omega
    rw [Lib.count_hit (by simp) hi,Nat.add_comm,Lib.replaceK_hit _ _ _ _ i hi] at ih
    rw [Lib.count_hit (by simp) hix',Nat.add_comm,Lib.replaceK_hit _ _ _ _ (i+1) hix']
    rw [←ih]
    simp only [List.length_singleton,List.take_succ_cons,List.drop_succ_cons,List.cons_append,List.singleton_append,List.nil_append]
theorem qK8 (s:List UInt8):Lib.replaceAll s [34] [34,34]=qBa s:=by
 have h1:(([34]:List UInt8)== [34,34])=false:=by decide
 have h2:Lib.replaceNum s [34] (-1)=Lib.count s [34]:=by unfold Lib.replaceNum;rw [if_pos (.inl (by decide))]
 unfold Lib.replaceAll Lib.replace
 rw [h1,h2]
 exact qI3 s
theorem qOr (s:ByteArray):(qDY s).size≤2*s.size+2:=by
 have:=qK7 s.toList
 rw [qAg] at this
 rw [qC1]
 simp [qDY]
 omega
theorem qMz (s:ByteArray) (hs:s.size≤1000):Ev (qDB · s ⟨#[34]⟩ ⟨#[34,34]⟩) ⟨(qBa s.toList).toArray⟩:=by
 refine ⟨1,fun n hn=>?_⟩
 obtain ⟨m,rfl,hm⟩:=up1 (n0:=0) hn
 show zX s ⟨#[34]⟩ ⟨#[34,34]⟩=_
 have hc:=Lib.countB_mul_le (⟨#[34]⟩:ByteArray) (by decide) s.size s (Nat.le_refl _)
 have d1:(⟨#[34]⟩:ByteArray).size=1:=rfl
 have d2:(⟨#[34,34]⟩:ByteArray).size=2:=rfl
 unfold zX
 rw [d1] at hc
 rw [if_pos (by rw [d1,d2];omega)]
 congr 3
 rw [←Go.Lib.toList_data]
 exact qK8 _
def lvl (op:Int):Int:=if op≥6 then 1 else if op=5 then 2 else if op≥3 then 4 else 3
theorem qQ3 (op:Int):1≤lvl op∧lvl op≤4:=by
 unfold lvl
 split
 ·omega
 ·split
  ·omega
  ·split<;>omega
theorem qLs (op:Int):Ev (qCh · op) (lvl op):=by
 refine ⟨1,fun n hn=>?_⟩
 obtain ⟨m,rfl,hm⟩:=up1 hn
 simp only [qCh,qFX,qC,qD,qF,qG,qH,qJ,Option.bind_some,qE,qK,qM]
 unfold lvl
 by_cases h1:op≥6
 ·simp [h1]
 ·by_cases h2:op=5
  ·simp [h2]
  ·by_cases h3:op≥3<;>simp [h1,h2,h3]
theorem qQY {op:Int} (h:1≤op∧op≤11):op=1∨op=2∨op=3∨op=4∨op=5∨op=6∨op=7∨op=8∨op=9∨op=10∨op=11:=by omega
theorem qI4 (op:Int) (h:1≤op∧op≤11):Ev (qDN · op) (lvl op):=by
 refine ⟨1,fun n hn=>?_⟩
 obtain ⟨m,rfl,hm⟩:=up1 hn
 simp only [qDN,qG2,qC,qD,qF,qG,qH,qJ,Option.bind_some,qE,qK,qM]
 rcases qQY h with rfl|rfl|rfl|rfl|rfl|rfl|rfl|rfl|rfl|rfl|rfl<;>rfl
def qk (op:Int):ByteArray:=if op=1 then ⟨#[43]⟩ else if op=2 then ⟨#[45]⟩ else if op=3 then ⟨#[42]⟩ else if op=4 then ⟨#[47]⟩ else if op=5 then ⟨#[38]⟩ else if op=6 then ⟨#[61]⟩ else if op=7 then ⟨#[60,62]⟩ else if op=8 then ⟨#[60]⟩ else if op=9 then ⟨#[60,61]⟩ else if op=10 then ⟨#[62]⟩ else ⟨#[62,61]⟩
def fnS (op:Int):ByteArray:=if op=1 then ⟨#[83,85,77]⟩ else if op=2 then ⟨#[77,73,78]⟩ else if op=3 then ⟨#[77,65,88]⟩ else if op=4 then ⟨#[67,79,85,78,84]⟩ else if op=5 then ⟨#[73,70]⟩ else if op=6 then ⟨#[65,78,68]⟩ else if op=7 then ⟨#[79,82]⟩ else if op=8 then ⟨#[78,79,84]⟩ else if op=9 then ⟨#[65,66,83]⟩ else ⟨#[76,69,78]⟩
theorem qJY {op:Int} (h:1≤op∧op≤11):(qk op).size≤2:=by
 rcases qQY h with rfl|rfl|rfl|rfl|rfl|rfl|rfl|rfl|rfl|rfl|rfl<;>decide
theorem qOP {op:Int} (h:1≤op∧op≤10):(fnS op).size≤5:=by
 rcases ten h with rfl|rfl|rfl|rfl|rfl|rfl|rfl|rfl|rfl|rfl<;>decide
theorem qIG (op:Int) (h:1≤op∧op≤11):Ev (qCT · op) (qk op):=by
 refine ⟨1,fun n hn=>?_⟩
 obtain ⟨m,rfl,hm⟩:=up1 hn
 simp only [qCT,qF4,qC,qD,qF,qG,qH,qJ,Option.bind_some,qE,qK,qM]
 rcases qQY h with rfl|rfl|rfl|rfl|rfl|rfl|rfl|rfl|rfl|rfl|rfl<;>rfl
theorem qFf (op:Int) (h:1≤op∧op≤11):Ev (qBI · op) (qk op):=by
 refine ⟨1,fun n hn=>?_⟩
 obtain ⟨m,rfl,hm⟩:=up1 hn
 simp only [qBI,qGB,qC,qD,qF,qG,qH,qJ,Option.bind_some,qE,qK,qM]
 rcases qQY h with rfl|rfl|rfl|rfl|rfl|rfl|rfl|rfl|rfl|rfl|rfl<;>rfl
theorem qNu (op:Int) (h:1≤op∧op≤10):Ev (qCm · op) (fnS op):=by
 refine ⟨1,fun n hn=>?_⟩
 obtain ⟨m,rfl,hm⟩:=up1 hn
 simp only [qCm,qH0,qC,qD,qF,qG,qH,qJ,Option.bind_some,qE,qK,qM]
 rcases ten h with rfl|rfl|rfl|rfl|rfl|rfl|rfl|rfl|rfl|rfl<;>rfl
theorem qIH (op:Int) (h:1≤op∧op≤10):Ev (qBw · op) (fnS op):=by
 refine ⟨1,fun n hn=>?_⟩
 obtain ⟨m,rfl,hm⟩:=up1 hn
 simp only [qBw,qGA,qC,qD,qF,qG,qH,qJ,Option.bind_some,qE,qK,qM]
 rcases ten h with rfl|rfl|rfl|rfl|rfl|rfl|rfl|rfl|rfl|rfl<;>rfl
def qLP (xs:List ByteArray):ByteArray:=⟨(Lib.join (xs.map (·.data.toList)) [44]).toArray⟩
def par (b:Bool) (s:ByteArray):ByteArray:=if b=true then ((⟨#[40]⟩:ByteArray)++s)++⟨#[41]⟩ else s
def kid (c:Nd) (j:Nat):Int:=(kd c).getD j 0
def qAf (l:List Nd):Nat→Int→Int→ByteArray
 |0,_,_=>⟨#[]⟩
 |f+1,i,t=>
  if (ndi l i).1=1 then (if (ndi l i).2.2.1=2 then qDY (ndi l i).2.2.2.2.1 else qAH (ndi l i).2.2.1 (ndi l i).2.2.2.1 (ndi l i).2.2.2.2.1)
  else if (ndi l i).1=2 then qAU (ndi l i).2.2.2.2.2.1 (ndi l i).2.2.2.2.2.2.1 (ndi l i).2.2.2.2.2.2.2.1 (ndi l i).2.2.2.2.2.2.2.2.1
  else if (ndi l i).1=3 then (qAU (ndi l i).2.2.2.2.2.1 (ndi l i).2.2.2.2.2.2.1 (ndi l i).2.2.2.2.2.2.2.1 (ndi l i).2.2.2.2.2.2.2.2.1++⟨#[58]⟩)++qAU (ndi l i).2.2.2.2.2.2.2.2.2.1 (ndi l i).2.2.2.2.2.2.2.2.2.2.1 (ndi l i).2.2.2.2.2.2.2.2.2.2.2.1 (ndi l i).2.2.2.2.2.2.2.2.2.2.2.2.1
  else if (ndi l i).1=4 then (⟨#[45]⟩:ByteArray)++qAf l f (kid (ndi l i) 0) 5
  else if (ndi l i).1=5 then par (decide (lvl (ndi l i).2.1<t)) ((qAf l f (kid (ndi l i) 0) (lvl (ndi l i).2.1)++qk (ndi l i).2.1)++qAf l f (kid (ndi l i) 1) (lvl (ndi l i).2.1+1))
  else ((fnS (ndi l i).2.1++⟨#[40]⟩)++qLP ((qU l i).map fun k=>qAf l f k 1))++⟨#[41]⟩
theorem qFz {c:Nd} (h:qBy c=true):(c.1=1∧okV c.2.2.1 c.2.2.2.1 c.2.2.2.2.1=true)∨c.1=2∨c.1=3∨(c.1=4∧(kd c).length=1)∨(c.1=5∧(1≤c.2.1∧c.2.1≤11)∧(kd c).length=2)∨(c.1=6∧(1≤c.2.1∧c.2.1≤10)∧(1≤(kd c).length∧(kd c).length≤10)):=by
 unfold qBy at h
 by_cases k1:c.1=1
 ·rw [if_pos k1] at h
  simp only [Bool.and_eq_true] at h
  exact .inl ⟨k1,h.2.2.2.2.1⟩
 rw [if_neg k1] at h
 by_cases k2:c.1=2
 ·exact .inr (.inl k2)
 rw [if_neg k2] at h
 by_cases k3:c.1=3
 ·exact .inr (.inr (.inl k3))
 rw [if_neg k3] at h
 by_cases k4:c.1=4
 ·rw [if_pos k4] at h
  simp only [Bool.and_eq_true,decide_eq_true_eq] at h
  exact .inr (.inr (.inr (.inl ⟨k4,h.2.2.2.2⟩)))
 rw [if_neg k4] at h
 by_cases k5:c.1=5
 ·rw [if_pos k5] at h
  simp only [Bool.and_eq_true,decide_eq_true_eq] at h
  exact .inr (.inr (.inr (.inr (.inl ⟨k5,h.1,h.2.2.2.2⟩))))
 rw [if_neg k5] at h
 by_cases k6:c.1=6
 ·rw [if_pos k6] at h
  simp only [Bool.and_eq_true] at h
  have ha:=h.1
  unfold qE4 at ha
  refine .inr (.inr (.inr (.inr (.inr ⟨k6,?_⟩))))
  by_cases h5:c.2.1=5
  ·rw [if_pos h5] at ha
   have:=of_decide_eq_true ha
   omega
  ·rw [if_neg h5] at ha
   by_cases h8:8≤c.2.1∧c.2.1≤10
   ·rw [if_pos h8] at ha
    have:=of_decide_eq_true ha
    omega
   ·rw [if_neg h8] at ha
    by_cases h1:1≤c.2.1∧c.2.1≤7
    ·rw [if_pos h1] at ha
     have:=of_decide_eq_true ha
     omega
    ·rw [if_neg h1] at ha
     cases ha
 ·rw [if_neg k6] at h
  cases h
def szB:Nat→Nat
 |0=>37
 |f+1=>11*szB f
theorem qQZ:∀f:Fin 13,szB f.val≤120000000000000:=by decide
theorem qQ4 {f:Nat} (h:f≤12):szB f≤120000000000000:=qQZ ⟨f,by omega⟩
theorem qP2:∀f:Nat,37≤szB f
 |0=>Nat.le_refl _
 |f+1=>by have:=qP2 f;simp only [szB];omega
theorem qM0 (x:List UInt8) (r:List (List UInt8)) (sep:List UInt8):Lib.joinTail sep (x::r)=sep++x++Lib.joinTail sep r:=by simp [Lib.joinTail]
theorem qKF:∀(xs:List ByteArray) (b:Nat),(∀x∈xs,x.size≤b)→(Lib.joinTail [44] (xs.map (·.data.toList))).length≤xs.length*(b+1)
 | [],b,h=>by simp [Lib.joinTail]
 |x::r,b,h=>by
  have ih:=qKF r b fun y hy=>h y (List.mem_cons_of_mem _ hy)
  have hx:=h x (List.mem_cons_self ..)
  rw [qC1] at hx
  rw [List.map_cons,qM0,List.length_append,List.length_append,List.length_singleton,List.length_cons,Nat.add_mul]
  omega
theorem qMW {xs:List ByteArray} {b:Nat} (h:∀x∈xs,x.size≤b):(qLP xs).size≤xs.length*(b+1):=by
 rw [qC1]
 show (Lib.join (xs.map (·.data.toList)) [44]).length≤_
 cases xs with
 |nil=>simp [Lib.join_nil]
 |cons x r=>
  have h1:=qKF r b fun y hy=>h y (List.mem_cons_of_mem _ hy)
  have hx:=h x (List.mem_cons_self ..)
  rw [qC1] at hx
  rw [List.map_cons,Lib.join_cons,List.length_append,List.length_cons,Nat.add_mul]
  omega
structure Fine (l:List Nd):Prop where
 len:l.length≤60
 own:∀i:Int,0≤i→i<l.length→qFA l i=true∧qFd (qA2 l) (qBk l) (qU l) i
 sz:∀c∈l,(kd c).length≤140737488351232∧c.2.2.2.2.1.size≤140737488351232
theorem Fine.kid {l:List Nd} (h:Fine l) {f:Nat} {i k:Int} (hi:0≤i∧i<l.length) (hd:qAv (qU l) (i.toNat+1) i≤(f+1:Nat)) (hk:k∈qU l i):(0≤k∧k<l.length)∧qAv (qU l) (k.toNat+1) k≤f:=by
 have hin:=(h.own i hi.1 hi.2).2 k hk
 have h1:=(qMU (qU l) (n:=i) (b:=((f+1:Nat):Int)) (f:=i.toNat) (by omega)).1 hd k hk
 refine ⟨by omega,?_⟩
 rw [qMV (qA2 l) (qBk l) (qU l) (k.toNat+1) i.toNat k (by omega) (by omega) (fun j j0 j1=>(h.own j j0 (by omega)).2) (by omega)]
 omega
theorem qNJ {l:List Nd} (h:Fine l):∀(f:Nat) (i t:Int),f≤12→(0≤i∧i<l.length)→qAv (qU l) (i.toNat+1) i≤f→(qAf l f i t).size≤szB f
 |0,i,t,hf,hi,hd=>by show (⟨#[]⟩:ByteArray).size≤_;exact Nat.zero_le _
 |f+1,i,t,hf,hi,hd=>by
  have ih:=fun k hk t'=>qNJ h f k t' (by omega) (h.kid hi hd hk).1 (h.kid hi hd hk).2
  have hs:=qP2 f
  have hp:∀a b c d,(qAU a b c d).size≤30:=qEn
  have hz:=(h.sz _ (qIS hi)).2
  have d1:(⟨#[58]⟩:ByteArray).size=1:=rfl
  have d2:(⟨#[45]⟩:ByteArray).size=1:=rfl
  have d3:(⟨#[40]⟩:ByteArray).size=1:=rfl
  have d4:(⟨#[41]⟩:ByteArray).size=1:=rfl
  have hk0:∀j,j<(kd (ndi l i)).length→kid (ndi l i) j∈qU l i:=fun j hj=>by
   unfold kid
   rw [List.getD_eq_getElem?_getD,List.getElem?_eq_getElem hj]
   exact List.getElem_mem hj
  rw [szB,qAf]
  rcases qFz (h.own i hi.1 hi.2).1 with ⟨k,hv⟩|k|k|⟨k,hk⟩|⟨k,ho,hk⟩|⟨k,ho,hk⟩
  ·rw [if_pos k]
   by_cases k2:(ndi l i).2.2.1=2
   ·rw [if_pos k2]
    rw [k2] at hv
    have:=(qMN hv).2.1
    have:=qOr (ndi l i).2.2.2.2.1
    omega
   ·rw [if_neg k2]
    have:=qOp hv
    omega
  ·rw [if_neg (by omega),if_pos k]
   have:=hp (ndi l i).2.2.2.2.2.1 (ndi l i).2.2.2.2.2.2.1 (ndi l i).2.2.2.2.2.2.2.1 (ndi l i).2.2.2.2.2.2.2.2.1
   omega
  ·rw [if_neg (by omega),if_neg (by omega),if_pos k,ByteArray.size_append,ByteArray.size_append]
   have h1:=hp (ndi l i).2.2.2.2.2.1 (ndi l i).2.2.2.2.2.2.1 (ndi l i).2.2.2.2.2.2.2.1 (ndi l i).2.2.2.2.2.2.2.2.1
   have h2:=hp (ndi l i).2.2.2.2.2.2.2.2.2.1 (ndi l i).2.2.2.2.2.2.2.2.2.2.1 (ndi l i).2.2.2.2.2.2.2.2.2.2.2.1 (ndi l i).2.2.2.2.2.2.2.2.2.2.2.2.1
   omega
  ·rw [if_neg (by omega),if_neg (by omega),if_neg (by omega),if_pos k,ByteArray.size_append]
   have:=ih _ (hk0 0 (by omega)) 5
   omega
  ·rw [if_neg (by omega),if_neg (by omega),if_neg (by omega),if_neg (by omega),if_pos k]
   have h1:=ih _ (hk0 0 (by omega)) (lvl (ndi l i).2.1)
   have h2:=ih _ (hk0 1 (by omega)) (lvl (ndi l i).2.1+1)
   have h3:=qJY ho
   unfold par
   split
   ·rw [ByteArray.size_append,ByteArray.size_append,ByteArray.size_append,ByteArray.size_append]
    omega
   ·rw [ByteArray.size_append,ByteArray.size_append]
    omega
  ·rw [if_neg (by omega),if_neg (by omega),if_neg (by omega),if_neg (by omega),if_neg (by omega)]
   rw [ByteArray.size_append,ByteArray.size_append,ByteArray.size_append]
   have h1:=qOP ho
   have h2:=qMW (xs:=(qU l i).map fun k=>qAf l f k 1) (b:=szB f) (fun x hx=>by
    obtain ⟨k,hk,rfl⟩:=List.mem_map.1 hx
    exact ih k hk 1)
   have h3:(qU l i).length≤10:=hk.2
   have h4:(qU l i).length*(szB f+1)≤10*(szB f+1):=Nat.mul_le_mul_right _ h3
   rw [List.length_map] at h2
   omega
theorem qPc:∀f:Fin 12,szB f.val≤12000000000000:=by decide
theorem qP3 {f:Nat} (h:f≤11):szB f≤12000000000000:=qPc ⟨f,by omega⟩
theorem qOQ:∀xs:List ByteArray,zBA (xs.map fun x=> [PV.s x])=some xs
 | []=>rfl
 |x::r=>by simp only [List.map_cons,zBA,qOQ r,Option.map_some]
theorem qNK (rec:List (List PV)→Int→Int→Option ByteArray) (n:Nat) (rows:List (List PV)) (T:Int→ByteArray) (a0 a1 a2 a3:Int) (a4:ByteArray) (a5 a6:Int) (a7 a8:Bool) (a9 a10:Int) (a11 a12:Bool) (a13:List (List PV)) (ks:List Int) (hk10:ks.length≤10)
  (hr:∀k∈ks,rec rows k 1=some (T k)):
  ∀(r pre:List Int) (M:Nat),ks=pre++r→r.length+1≤M→
   zD (qBM rec n) M (rows,pre.length,ks.map qA9,((ks.map qA9).length:Int),(pre.length:Int),a0,a1,a2,a3,a4,a5,a6,a7,a8,a9,a10,a11,a12,a13,pre.map fun k=> [PV.s (T k)])=some (ks.length,a0,a1,a2,a3,a4,a5,a6,a7,a8,a9,a10,a11,a12,a13,ks.map fun k=> [PV.s (T k)])
 |r,pre,0,h1,h2=>by omega
 | [],pre,M+1,h1,h2=>by
  have hi:¬(pre.length:Int)<((ks.map qA9).length:Int):=by rw [List.length_map,h1];simp
  have e:pre=ks:=by rw [h1];simp
  rw [qO (r:=(pre.length,a0,a1,a2,a3,a4,a5,a6,a7,a8,a9,a10,a11,a12,a13,pre.map fun k=> [PV.s (T k)])) (by simp only [qBM,qC,qD,qF,qG,qH,qJ,Option.bind_some,qE,qK,qM,decide_eq_false hi,Bool.false_eq_true,if_false])]
  rw [e]
 |k::r,pre,M+1,h1,h2=>by
  have hm:k∈ks:=by rw [h1];simp
  have g1:=hr k hm
  have hpl:pre.length+(r.length+1)=ks.length:=by rw [h1];simp
  have hg:(ks.map qA9)[pre.length]?=some (qA9 k):=by rw [h1,List.getElem?_map];simp
  have hi:(pre.length:Int)<((ks.map qA9).length:Int):=by rw [List.length_map];omega
  have h3:0≤(pre.length:Int)∧(pre.length:Int)<((ks.map qA9).length:Int):=by omega
  have w1:IntKind.i64.wrap ((pre.length:Int)+1)=((pre.length+1:Nat):Int):=by rw [qZ (by omega)];omega
  have hc:pre.length=(pre.map fun k=> [PV.s (T k)]).length∧0<1∧0<16∧(pre.length+([[PV.s (T k)]]:List (List PV)).length)*16≤140737488355328∧([[PV.s (T k)]]:List (List PV)).all (fun e=>e.length==1)=true:=by
   refine ⟨by simp,by decide,by decide,?_,rfl⟩
   rw [List.length_singleton]
   omega
  have h1l:decide (1=([[PV.s (T k)]]:List (List PV)).length)=true:=rfl
  rw [qa (v':=(rows,pre.length+1,ks.map qA9,((ks.map qA9).length:Int),((pre.length+1:Nat):Int),a0,a1,a2,a3,a4,a5,a6,a7,a8,a9,a10,a11,a12,a13,(pre.map fun k=> [PV.s (T k)])++ [[PV.s (T k)]])) (by
   simp only [qBM,qC,qD,qF,qG,qH,qJ,Option.bind_some,qE,qK,qM,decide_eq_true hi,if_true,decide_eq_true h3,Int.toNat_natCast,hg,qBH,qA4,decide_true,g1,h1l,decide_eq_true hc,w1])]
  have h:=qNK rec n rows T a0 a1 a2 a3 a4 a5 a6 a7 a8 a9 a10 a11 a12 a13 ks hk10 hr r (pre++ [k]) M (by rw [h1];simp) (by simp at h2;omega)
  simp only [List.map_append,List.map_cons,List.map_nil,List.length_append,List.length_singleton] at h⊢
  exact h
set_option maxHeartbeats 4000000 in
theorem qGM {l:List Nd} (h:Fine l) (f:Nat) (i t:Int) (hf:f+1≤12) (hx:0≤i∧i<l.length) (hd:qAv (qU l) (i.toNat+1) i≤(f+1:Nat)) (ih:∀k∈qU l i,∀t',Ev (qY · (l.map qb) k t') (qAf l f k t')):Ev (qY · (l.map qb) i t) (qAf l (f+1) i t):=by
  have ih:=fun k hk t'=>ih k hk t'
  have isz:=fun k hk t'=>qNJ h f k t' (by omega) (h.kid hx hd hk).1 (h.kid hx hd hk).2
  have hs:=qQ4 (f:=f) (by omega)
  have hcr:(l.map qb)[i.toNat]?=some (qb (ndi l i)):=by rw [List.getElem?_map,qCW hx];rfl
  have hxb:0≤i∧i<((l.map qb).length:Int):=by rw [List.length_map];exact hx
  have hz:=(h.sz _ (qIS hx)).2
  have hp:∀a b c d,(qAU a b c d).size≤30:=qEn
  have d1:(⟨#[58]⟩:ByteArray).size=1:=rfl
  have d2:(⟨#[45]⟩:ByteArray).size=1:=rfl
  have d3:(⟨#[40]⟩:ByteArray).size=1:=rfl
  have d4:(⟨#[41]⟩:ByteArray).size=1:=rfl
  have hk0:∀j,j<(kd (ndi l i)).length→kid (ndi l i) j∈qU l i∧(List.map qA9 (ndi l i).2.2.2.2.2.2.2.2.2.2.2.2.2)[j]?=some (qA9 (kid (ndi l i) j)):=fun j hj=>by
   unfold kid
   rw [List.getD_eq_getElem?_getD,List.getElem?_eq_getElem hj]
   refine ⟨List.getElem_mem hj,?_⟩
   rw [List.getElem?_map]
   show ((kd (ndi l i))[j]?).map qA9=_
   rw [List.getElem?_eq_getElem hj]
   rfl
  have hkl:(List.map qA9 (ndi l i).2.2.2.2.2.2.2.2.2.2.2.2.2).length=(kd (ndi l i)).length:=by rw [List.length_map];rfl
  rcases qFz (h.own i hx.1 hx.2).1 with ⟨k,hv⟩|k|k|⟨k,hk⟩|⟨k,ho,hk⟩|⟨k,ho,hk⟩
  ·by_cases k2:(ndi l i).2.2.1=2
   ·have hv2:okV 2 (ndi l i).2.2.2.1 (ndi l i).2.2.2.2.1=true:=by rw [←k2];exact hv
    have hq:=(qMN hv2).2.1
    obtain ⟨n1,g1⟩:=qMz (ndi l i).2.2.2.2.1 (by omega)
    have h1:=qK7 (ndi l i).2.2.2.2.1.toList
    rw [qAg] at h1
    have h2:(⟨(qBa (ndi l i).2.2.2.2.1.toList).toArray⟩:ByteArray).size=(qBa (ndi l i).2.2.2.2.1.toList).length:=by rw [qC1]
    have e:((⟨#[34]⟩:ByteArray)++⟨(qBa (ndi l i).2.2.2.2.1.toList).toArray⟩)++(⟨#[34]⟩:ByteArray)=qDY (ndi l i).2.2.2.2.1:=by
     apply qJ1
     rw [qET,qET]
     simp [qDY]
    have d5:(⟨#[34]⟩:ByteArray).size=1:=rfl
    refine ⟨n1+1,fun n hn=>?_⟩
    obtain ⟨m,rfl,hm⟩:=up1 hn
    have g1:=g1 m (by omega)
    dsimp only at g1⊢
    obtain ⟨q,hqe⟩:∃q,(⟨(qBa (ndi l i).2.2.2.2.1.toList).toArray⟩:ByteArray)=q:=⟨_,rfl⟩
    rw [hqe] at g1 h2 e
    have z1:(⟨#[34]⟩:ByteArray).size+q.size≤9223372036854775807:=by omega
    have z2:((⟨#[34]⟩:ByteArray)++q).size+(⟨#[34]⟩:ByteArray).size≤9223372036854775807:=by rw [ByteArray.size_append];omega
    show (qAT (qY m) m (l.map qb) i t).run=_
    refine qN (decide_eq_true hxb) (qA hcr (qN rfl (qA (qAh _) (qA (qAi _) (qA (qAj _) (qA (qAk _) (qA (qAl _) (qA (qAm _) (qA (qAn _) (qA (qAo _) (qA (qAp _) (qA (qAq _) (qA (q9 _) (qA (qAA _) (qA (qAB _) (qA (qAC _) ?_))))))))))))))))
    refine qN (by rw [k];rfl) (qN (by rw [k2];rfl) (qA g1 (qN (decide_eq_true z1) (qN (decide_eq_true z2) ?_))))
    rw [qC,qAf,if_pos k,if_pos k2,e]
   ·obtain ⟨n1,g1⟩:=qFy (ndi l i).2.2.1 (ndi l i).2.2.2.1 (ndi l i).2.2.2.2.1 hv
    have kb:((ndi l i).2.2.1==(2:Int))=false:=by simpa using k2
    refine ⟨n1+1,fun n hn=>?_⟩
    obtain ⟨m,rfl,hm⟩:=up1 hn
    have g1:=g1 m (by omega)
    dsimp only at g1⊢
    show (qAT (qY m) m (l.map qb) i t).run=_
    refine qN (decide_eq_true hxb) (qA hcr (qN rfl (qA (qAh _) (qA (qAi _) (qA (qAj _) (qA (qAk _) (qA (qAl _) (qA (qAm _) (qA (qAn _) (qA (qAo _) (qA (qAp _) (qA (qAq _) (qA (q9 _) (qA (qAA _) (qA (qAB _) (qA (qAC _) ?_))))))))))))))))
    refine qN (by rw [k];rfl) (qR kb (qA g1 ?_))
    rw [qC,qAf,if_pos k,if_neg k2]
  ·obtain ⟨n1,g1⟩:=qC2 (ndi l i).2.2.2.2.2.1 (ndi l i).2.2.2.2.2.2.1 (ndi l i).2.2.2.2.2.2.2.1 (ndi l i).2.2.2.2.2.2.2.2.1
   refine ⟨n1+1,fun n hn=>?_⟩
   obtain ⟨m,rfl,hm⟩:=up1 hn
   have g1:=g1 m (by omega)
   dsimp only at g1⊢
   show (qAT (qY m) m (l.map qb) i t).run=_
   refine qN (decide_eq_true hxb) (qA hcr (qN rfl (qA (qAh _) (qA (qAi _) (qA (qAj _) (qA (qAk _) (qA (qAl _) (qA (qAm _) (qA (qAn _) (qA (qAo _) (qA (qAp _) (qA (qAq _) (qA (q9 _) (qA (qAA _) (qA (qAB _) (qA (qAC _) ?_))))))))))))))))
   refine qR (by rw [k];rfl) (qN (by rw [k];rfl) (qA g1 ?_))
   rw [qC,qAf,if_neg (by omega),if_pos k]
  ·obtain ⟨n1,g1⟩:=qC2 (ndi l i).2.2.2.2.2.1 (ndi l i).2.2.2.2.2.2.1 (ndi l i).2.2.2.2.2.2.2.1 (ndi l i).2.2.2.2.2.2.2.2.1
   obtain ⟨n2,g2⟩:=qC2 (ndi l i).2.2.2.2.2.2.2.2.2.1 (ndi l i).2.2.2.2.2.2.2.2.2.2.1 (ndi l i).2.2.2.2.2.2.2.2.2.2.2.1 (ndi l i).2.2.2.2.2.2.2.2.2.2.2.2.1
   have h1:=hp (ndi l i).2.2.2.2.2.1 (ndi l i).2.2.2.2.2.2.1 (ndi l i).2.2.2.2.2.2.2.1 (ndi l i).2.2.2.2.2.2.2.2.1
   have h2:=hp (ndi l i).2.2.2.2.2.2.2.2.2.1 (ndi l i).2.2.2.2.2.2.2.2.2.2.1 (ndi l i).2.2.2.2.2.2.2.2.2.2.2.1 (ndi l i).2.2.2.2.2.2.2.2.2.2.2.2.1
   have z1:(qAU (ndi l i).2.2.2.2.2.1 (ndi l i).2.2.2.2.2.2.1 (ndi l i).2.2.2.2.2.2.2.1 (ndi l i).2.2.2.2.2.2.2.2.1).size+(⟨#[58]⟩:ByteArray).size≤9223372036854775807:=by omega
   have z2:(qAU (ndi l i).2.2.2.2.2.1 (ndi l i).2.2.2.2.2.2.1 (ndi l i).2.2.2.2.2.2.2.1 (ndi l i).2.2.2.2.2.2.2.2.1++(⟨#[58]⟩:ByteArray)).size+(qAU (ndi l i).2.2.2.2.2.2.2.2.2.1 (ndi l i).2.2.2.2.2.2.2.2.2.2.1 (ndi l i).2.2.2.2.2.2.2.2.2.2.2.1 (ndi l i).2.2.2.2.2.2.2.2.2.2.2.2.1).size≤9223372036854775807:=by rw [ByteArray.size_append];omega
   refine ⟨n1+n2+1,fun n hn=>?_⟩
   obtain ⟨m,rfl,hm⟩:=up1 hn
   have g1:=g1 m (by omega)
   have g2:=g2 m (by omega)
   dsimp only at g1 g2⊢
   show (qAT (qY m) m (l.map qb) i t).run=_
   refine qN (decide_eq_true hxb) (qA hcr (qN rfl (qA (qAh _) (qA (qAi _) (qA (qAj _) (qA (qAk _) (qA (qAl _) (qA (qAm _) (qA (qAn _) (qA (qAo _) (qA (qAp _) (qA (qAq _) (qA (q9 _) (qA (qAA _) (qA (qAB _) (qA (qAC _) ?_))))))))))))))))
   refine qR (by rw [k];rfl) (qR (by rw [k];rfl) (qN (by rw [k];rfl) (qA g1 (qN (decide_eq_true z1) (qA g2 (qN (decide_eq_true z2) ?_))))))
   rw [qC,qAf,if_neg (by omega),if_neg (by omega),if_pos k]
  ·obtain ⟨m0,c0⟩:=hk0 0 (by omega)
   obtain ⟨n1,g1⟩:=ih _ m0 5
   have h1:=isz _ m0 5
   have z1:(⟨#[45]⟩:ByteArray).size+(qAf l f (kid (ndi l i) 0) 5).size≤9223372036854775807:=by omega
   have y1:(0:Int)≤(0:Int)∧(0:Int)<((List.map qA9 (ndi l i).2.2.2.2.2.2.2.2.2.2.2.2.2).length:Int):=by rw [hkl];omega
   refine ⟨n1+1,fun n hn=>?_⟩
   obtain ⟨m,rfl,hm⟩:=up1 hn
   have g1:=g1 m (by omega)
   dsimp only at g1⊢
   have e0:((0:Int)).toNat=0:=rfl
   show (qAT (qY m) m (l.map qb) i t).run=_
   refine qN (decide_eq_true hxb) (qA hcr (qN rfl (qA (qAh _) (qA (qAi _) (qA (qAj _) (qA (qAk _) (qA (qAl _) (qA (qAm _) (qA (qAn _) (qA (qAo _) (qA (qAp _) (qA (qAq _) (qA (q9 _) (qA (qAA _) (qA (qAB _) (qA (qAC _) ?_))))))))))))))))
   refine qR (by rw [k];rfl) (qR (by rw [k];rfl) (qR (by rw [k];rfl) (qN (by rw [k];rfl) (qN (decide_eq_true y1) (qA c0 (qN rfl (qA (qA4 _) (qA g1 (qN (decide_eq_true z1) ?_)))))))))
   rw [qC,qAf,if_neg (by omega),if_neg (by omega),if_neg (by omega),if_pos k]
  ·obtain ⟨m0,c0⟩:=hk0 0 (by omega)
   obtain ⟨m1,c1⟩:=hk0 1 (by omega)
   have hlv:=qQ3 (ndi l i).2.1
   obtain ⟨n1,g1⟩:=ih _ m0 (lvl (ndi l i).2.1)
   obtain ⟨n2,g2⟩:=ih _ m1 (lvl (ndi l i).2.1+1)
   obtain ⟨n3,g3⟩:=qI4 (ndi l i).2.1 ho
   obtain ⟨n4,g4⟩:=qFf (ndi l i).2.1 ho
   have h1:=isz _ m0 (lvl (ndi l i).2.1)
   have h2:=isz _ m1 (lvl (ndi l i).2.1+1)
   have h3:=qJY ho
   have hw:IntKind.i64.wrap (lvl (ndi l i).2.1+1)=lvl (ndi l i).2.1+1:=qZ (by omega)
   have y1:(0:Int)≤(0:Int)∧(0:Int)<((List.map qA9 (ndi l i).2.2.2.2.2.2.2.2.2.2.2.2.2).length:Int):=by rw [hkl];omega
   have y2:(0:Int)≤(1:Int)∧(1:Int)<((List.map qA9 (ndi l i).2.2.2.2.2.2.2.2.2.2.2.2.2).length:Int):=by rw [hkl];omega
   refine ⟨n1+n2+n3+n4+1,fun n hn=>?_⟩
   obtain ⟨m,rfl,hm⟩:=up1 hn
   have g1:=g1 m (by omega)
   have g2:=g2 m (by omega)
   have g3:=g3 m (by omega)
   have g4:=g4 m (by omega)
   dsimp only at g1 g2 g3 g4⊢
   have e0:((0:Int)).toNat=0:=rfl
   have e1:((1:Int)).toNat=1:=rfl
   show (qAT (qY m) m (l.map qb) i t).run=_
   refine qN (decide_eq_true hxb) (qA hcr (qN rfl (qA (qAh _) (qA (qAi _) (qA (qAj _) (qA (qAk _) (qA (qAl _) (qA (qAm _) (qA (qAn _) (qA (qAo _) (qA (qAp _) (qA (qAq _) (qA (q9 _) (qA (qAA _) (qA (qAB _) (qA (qAC _) ?_))))))))))))))))
   have z1:(qAf l f (kid (ndi l i) 0) (lvl (ndi l i).2.1)).size+(qk (ndi l i).2.1).size≤9223372036854775807:=by omega
   have z2:(qAf l f (kid (ndi l i) 0) (lvl (ndi l i).2.1)++qk (ndi l i).2.1).size+(qAf l f (kid (ndi l i) 1) (lvl (ndi l i).2.1+1)).size≤9223372036854775807:=by rw [ByteArray.size_append];omega
   have z3:(⟨#[40]⟩:ByteArray).size+((qAf l f (kid (ndi l i) 0) (lvl (ndi l i).2.1)++qk (ndi l i).2.1)++qAf l f (kid (ndi l i) 1) (lvl (ndi l i).2.1+1)).size≤9223372036854775807:=by rw [ByteArray.size_append,ByteArray.size_append];omega
   have z4:((⟨#[40]⟩:ByteArray)++((qAf l f (kid (ndi l i) 0) (lvl (ndi l i).2.1)++qk (ndi l i).2.1)++qAf l f (kid (ndi l i) 1) (lvl (ndi l i).2.1+1))).size+(⟨#[41]⟩:ByteArray).size≤9223372036854775807:=by rw [ByteArray.size_append,ByteArray.size_append,ByteArray.size_append];omega
   have g2:qY m (l.map qb) (kid (ndi l i) 1) (IntKind.i64.wrap (lvl (ndi l i).2.1+1))=some (qAf l f (kid (ndi l i) 1) (lvl (ndi l i).2.1+1)):=by rw [hw];exact g2
   refine qR (by rw [k];rfl) (qR (by rw [k];rfl) (qR (by rw [k];rfl) (qR (by rw [k];rfl) (qN (by rw [k];rfl) (qA g3 (qN (decide_eq_true y1) (qA c0 (qN rfl (qA (qA4 _) (qN (decide_eq_true y2) (qA c1 (qN rfl (qA (qA4 _) (qA g1 (qA g4 (qN (decide_eq_true z1) (qA g2 (qN (decide_eq_true z2) ?_))))))))))))))))))
   rw [qAf,if_neg (by omega),if_neg (by omega),if_neg (by omega),if_neg (by omega),if_pos k]
   unfold par
   by_cases ht:lvl (ndi l i).2.1<t
   ·refine qN (decide_eq_true ht) (qN (decide_eq_true z3) (qN (decide_eq_true z4) ?_))
    rw [qC,if_pos (decide_eq_true ht)]
   ·refine qR (decide_eq_false ht) ?_
    rw [qC,if_neg (by simpa using ht)]
  ·obtain ⟨n0,g0⟩:=qCN (F:=fun k n=>qY n (l.map qb) k 1) (f:=fun k=>qAf l f k 1) (qU l i) (fun k hk=>ih k hk 1)
   obtain ⟨n1,g1⟩:=qIH (ndi l i).2.1 ho
   have h1:=qOP ho
   have hs11:=qP3 (f:=f) (by omega)
   have h3:(qU l i).length≤10:=hk.2
   have hjs:=qMW (xs:=(qU l i).map fun k=>qAf l f k 1) (b:=szB f) (fun x hx=>by
    obtain ⟨k,hk,rfl⟩:=List.mem_map.1 hx
    exact isz k hk 1)
   have h4:(qU l i).length*(szB f+1)≤10*(szB f+1):=Nat.mul_le_mul_right _ h3
   rw [List.length_map] at hjs
   have gj:∀n,1≤n→qFb n (((qU l i).map fun k=>qAf l f k 1).map fun x=> [PV.s x]) ⟨#[44]⟩=some (qLP ((qU l i).map fun k=>qAf l f k 1)):=fun n hn=>by
    obtain ⟨m,rfl,_⟩:=up1 (n0:=0) hn
    show zAQ _ _=_
    unfold zAQ
    rw [qOQ,Option.bind_some,if_pos]
    ·rfl
    ·rw [qC1] at hjs
     refine ⟨by rw [List.length_map];omega,?_⟩
     have:(Lib.join (((qU l i).map fun k=>qAf l f k 1).map (·.data.toList)) [44]).length≤(qU l i).length*(szB f+1):=hjs
     show (Lib.join (((qU l i).map fun k=>qAf l f k 1).map (·.data.toList)) [44]).length≤_
     omega
   refine ⟨n0+n1+20,fun n hn=>?_⟩
   obtain ⟨m,rfl,hm⟩:=up1 hn
   have g0:=g0 m (by omega)
   have g1:=g1 m (by omega)
   have gj:=gj m (by omega)
   have hj:=qNK (qY m) m (l.map qb) (fun k=>qAf l f k 1) (ndi l i).1 (ndi l i).2.1 (ndi l i).2.2.1 (ndi l i).2.2.2.1 (ndi l i).2.2.2.2.1 (ndi l i).2.2.2.2.2.1 (ndi l i).2.2.2.2.2.2.1 (ndi l i).2.2.2.2.2.2.2.1 (ndi l i).2.2.2.2.2.2.2.2.1 (ndi l i).2.2.2.2.2.2.2.2.2.1 (ndi l i).2.2.2.2.2.2.2.2.2.2.1 (ndi l i).2.2.2.2.2.2.2.2.2.2.2.1 (ndi l i).2.2.2.2.2.2.2.2.2.2.2.2.1 ((kd (ndi l i)).map qA9) (kd (ndi l i)) hk.2 g0 (kd (ndi l i)) [] m rfl (by omega)
   simp only [List.length_nil,Int.natCast_zero,List.map_nil,List.length_map] at hj
   obtain ⟨J,hJ⟩:∃J,qLP ((qU l i).map fun k=>qAf l f k 1)=J:=⟨_,rfl⟩
   rw [hJ] at gj hjs
   have z1:(fnS (ndi l i).2.1).size+(⟨#[40]⟩:ByteArray).size≤9223372036854775807:=by omega
   have z2:(fnS (ndi l i).2.1++(⟨#[40]⟩:ByteArray)).size+J.size≤9223372036854775807:=by rw [ByteArray.size_append];omega
   have z3:((fnS (ndi l i).2.1++(⟨#[40]⟩:ByteArray))++J).size+(⟨#[41]⟩:ByteArray).size≤9223372036854775807:=by rw [ByteArray.size_append,ByteArray.size_append];omega
   unfold qU at gj
   unfold kd at hj gj
   dsimp only at g1⊢
   rw [List.map_map] at gj
   have hkl':(((ndi l i).2.2.2.2.2.2.2.2.2.2.2.2.2.map qA9).length:Int)=((ndi l i).2.2.2.2.2.2.2.2.2.2.2.2.2.length:Int):=by rw [List.length_map]
   have hll:decide ((ndi l i).2.2.2.2.2.2.2.2.2.2.2.2.2.length=(List.map ((fun x=> [PV.s x])∘fun k=>qAf l f k 1) (ndi l i).2.2.2.2.2.2.2.2.2.2.2.2.2).length)=true:=by simp
   have hmm:(List.map (fun k=> [PV.s (qAf l f k 1)]) (ndi l i).2.2.2.2.2.2.2.2.2.2.2.2.2)=List.map ((fun x=> [PV.s x])∘fun k=>qAf l f k 1) (ndi l i).2.2.2.2.2.2.2.2.2.2.2.2.2:=rfl
   rw [hmm] at hj
   rw [←hkl'] at hj
   show (qAT (qY m) m (l.map qb) i t).run=_
   refine qN (decide_eq_true hxb) (qA hcr (qN rfl (qA (qAh _) (qA (qAi _) (qA (qAj _) (qA (qAk _) (qA (qAl _) (qA (qAm _) (qA (qAn _) (qA (qAo _) (qA (qAp _) (qA (qAq _) (qA (q9 _) (qA (qAA _) (qA (qAB _) (qA (qAC _) ?_))))))))))))))))
   refine qR (by rw [k];rfl) (qR (by rw [k];rfl) (qR (by rw [k];rfl) (qR (by rw [k];rfl) (qR (by rw [k];rfl) (qA hj (qA g1 (qN (decide_eq_true z1) (qN hll (qA gj (qN rfl (qN (decide_eq_true z2) (qN (decide_eq_true z3) ?_))))))))))))
   rw [qC,qAf,if_neg (by omega),if_neg (by omega),if_neg (by omega),if_neg (by omega),if_neg (by omega),hJ]
theorem qE5 {l:List Nd} (h:Fine l):∀(f:Nat) (i t:Int),f≤12→(0≤i∧i<l.length)→qAv (qU l) (i.toNat+1) i≤f→Ev (qY · (l.map qb) i t) (qAf l f i t)
 |0,i,t,hf,hx,hd=>by
  have:=qIR (qU l) (i.toNat+1) i hx.1 (by omega)
  omega
 |f+1,i,t,hf,hx,hd=>qGM h f i t hf hx hd fun k hk t'=>qE5 h f k t' (by omega) (h.kid hx hd hk).1 (h.kid hx hd hk).2
def qGm (l:List Nd):ByteArray:=if qDq l=true then (if ((qAf l 12 ((l.length:Int)-1) 1).size:Int)>200 then ⟨#[]⟩ else qAf l 12 ((l.length:Int)-1) 1) else ⟨#[]⟩
theorem qPH {l:List Nd} (h:qDq l=true) (hk:∀c∈l,(kd c).length≤140737488351232∧c.2.2.2.2.1.size≤140737488351232):Fine l∧(0≤(l.length:Int)-1∧(l.length:Int)-1<l.length)∧qAv (qU l) (((l.length:Int)-1).toNat+1) ((l.length:Int)-1)≤(12:Nat):=by
 unfold qDq at h
 simp only [Bool.and_eq_true,decide_eq_true_eq] at h
 obtain ⟨h1,h2,h3,h4,h5⟩:=h
 have e:((l.length:Int)-1).toNat+1=l.length:=by omega
 rw [e]
 exact ⟨⟨h1.2,qEo.1 h2,hk⟩,by omega,h5⟩
theorem qIs (l:List Nd) (hl:l.length≤140737488351232) (hk:∀c∈l,(kd c).length≤140737488351232∧c.2.2.2.2.1.size≤140737488351232):Ev (qBY · (l.map qb)) (qGm l):=by
 obtain ⟨n1,g1⟩:=qEF l hl hk
 unfold qGm
 cases hf:qDq l with
 |false=>
  rw [hf] at g1
  refine ⟨n1+1,fun n hn=>?_⟩
  obtain ⟨m,rfl,hm⟩:=up1 hn
  have g1:=g1 m (by omega)
  dsimp only at g1⊢
  simp [qBY,qCu,qC,qD,qF,qG,qH,qJ,Option.bind_some,qE,qK,qM,g1]
 |true=>
  rw [hf] at g1
  obtain ⟨q1,q2,q3⟩:=qPH hf hk
  obtain ⟨n2,g2⟩:=qE5 q1 12 ((l.length:Int)-1) 1 (by decide) q2 q3
  have hw:IntKind.i64.wrap ((l.length:Int)-1)=(l.length:Int)-1:=qZ (by omega)
  refine ⟨n1+n2+1,fun n hn=>?_⟩
  obtain ⟨m,rfl,hm⟩:=up1 hn
  have g1:=g1 m (by omega)
  have g2:=g2 m (by omega)
  dsimp only at g1 g2⊢
  generalize qAf l 12 ((l.length:Int)-1) 1=t at*
  simp only [qBY,qCu,qC,qD,qF,qG,qH,qJ,Option.bind_some,qE,qK,qM,g1,List.length_map,hw,g2]
  by_cases h2:(t.size:Int)>200<;>simp [h2]
abbrev PS:=List UInt8×Bool×List Nd
def tb (r:List UInt8):List UInt8:=r.dropWhile (· ==32)
def wch (c:UInt8):Bool:=(decide (65≤c.toNat)&&decide (c.toNat≤90))||((decide (48≤c.toNat)&&decide (c.toNat≤57))||c==36)
def wd (r:List UInt8):List UInt8:=r.takeWhile wch
def wr (r:List UInt8):List UInt8:=r.dropWhile wch
def BR (r:List UInt8):ByteArray:=⟨r.toArray⟩
def qDn:List (List UInt8):= [[60,62],[60,61],[62,61],[60],[62],[61],[38],[43],[45],[42],[47],[40],[41],[44],[58]]
def sgn (r:List UInt8):List UInt8:=match qDn.find? (fun w=>w.isPrefixOf r) with|some w=>w|none=> []
def nd1 (v:V3):Nd:=(1,0,v.1,v.2.1,v.2.2,0,0,false,false,0,0,false,false,[])
def ndK (k op:Int) (kids:List Int):Nd:=(k,op,0,0,em,0,0,false,false,0,0,false,false,kids)
def ndC (p:Int×Int×Bool×Bool×Bool):Nd:=(2,0,0,0,em,p.1,p.2.1,p.2.2.1,p.2.2.2.1,0,0,false,false,[])
def ndA (p q:Int×Int×Bool×Bool×Bool):Nd:=(3,0,0,0,em,p.1,p.2.1,p.2.2.1,p.2.2.2.1,q.1,q.2.1,q.2.2.1,q.2.2.2.1,[])
def qBd:List UInt8→List UInt8→Option (List UInt8×List UInt8)
 |_,[]=>none
 |acc,c::t=>if c=34 then (match t with
   |d::t'=>if d=34 then qBd (acc++ [34]) t' else some (acc,t)
   | []=>some (acc,[])) else qBd (acc++ [c]) t
def qF0 (r:List UInt8):Int→Nat→Option Int
 |_,0=>none
 |n,k+1=>if (qX n).toList.isPrefixOf r=true then some n else qF0 r (n+1) k
def qEp (w:List UInt8):Int→Nat→Option Int
 |_,0=>none
 |n,k+1=>if (fnS n).toList=w then some n else qEp w (n+1) k
def qAI (r:List UInt8):Int:=
 if sgn r= [43] then 1 else if sgn r= [45] then 2 else if sgn r= [42] then 3 else if sgn r= [47] then 4 else if sgn r= [38] then 5 else if sgn r= [61] then 6 else
 if sgn r= [60,62] then 7 else if sgn r= [60] then 8 else if sgn r= [60,61] then 9 else if sgn r= [62] then 10 else if sgn r= [62,61] then 11 else 0
def qW (w:List UInt8) (p:PS):Bool×PS:=if sgn (tb p.1)=w then (true,(tb p.1).drop w.length,p.2) else (false,tb p.1,p.2)
def qCk (x:Nd) (p:PS):Int×PS:=if p.2.1=true∨60≤p.2.2.length then ((p.2.2.length:Int)-1,p.1,true,p.2.2) else ((p.2.2.length:Int),p.1,false,p.2.2++ [x])
def qOs (p:PS):PS:=(p.1,true,p.2.2)
def qBs (w:List UInt8) (p:PS):PS:=if p.2.1=true then p else if (qW w p).1=true then (qW w p).2 else qOs (qW w p).2
def qAr (p:PS):Option Nd×PS:=
 let w:=wd (tb p.1)
 let p1:PS:=(wr (tb p.1),p.2)
 if (qAa (BR w)).2.2.2.2=true∧(qW [58] p1).1=true then
  let p2:=(qW [58] p1).2
  let w2:=wd (tb p2.1)
  (some (ndA (qAa (BR w)) (qAa (BR w2))),wr (tb p2.1),p2.2.1||!(qAa (BR w2)).2.2.2.2,p2.2.2)
 else (none,p)
def qDF (o:Option Nd×PS) (g:PS→Int×PS):Int×PS:=match o.1 with
 |some x=>qCk x o.2
 |none=>g o.2
inductive PJ where
 |bin (least deep:Int)
 |loop (least deep a:Int)
 |un (deep:Int)
 |at (deep:Int)
 |call (op deep:Int)
 |args (op deep:Int) (kids:List Int)
def pP:Nat→PJ→PS→Int×PS
 |0,_,p=>(0,p)
 |f+1,.bin least deep,p=>pP f (.loop least deep (pP f (.un deep) p).1) (pP f (.un deep) p).2
 |f+1,.loop least deep a,p=>
  if p.2.1=true then (a,p) else
  if qAI (tb p.1)=0∨lvl (qAI (tb p.1))<least then (a,tb p.1,p.2) else
  let p1:PS:=((tb p.1).drop (sgn (tb p.1)).length,p.2)
  let q:=pP f (.bin (lvl (qAI (tb p.1))+1) deep) p1
  let c:=qCk (ndK 5 (qAI (tb p.1)) [a,q.1]) q.2
  pP f (.loop least deep c.1) c.2
 |f+1,.un deep,p=>
  if deep>400∨p.2.1=true then (-1,qOs p) else
  if (qW [45] p).1=true then
   let q:=pP f (.un (deep+1)) (qW [45] p).2
   qCk (ndK 4 0 [q.1]) q.2
  else pP f (.at deep) (qW [45] p).2
 |f+1,.at deep,p=>
  let r:=tb p.1
  if r.head?=some 34 then (match qBd [] r.tail with
   |none=>(-1,r,true,p.2.2)
   |some (s,t)=>qCk (nd1 (2,0,BR s)) (t,p.2))
  else match (if r.head?=some 35 then qF0 r 1 5 else none) with
  |some n=>qCk (nd1 (4,n,em)) (r.drop (qX n).size,p.2)
  |none=>
   if r.head?≠some 35∧(qW [40] p).1=true then
    let q:=pP f (.bin 1 (deep+1)) (qW [40] p).2
    (q.1,qBs [41] q.2)
   else
    let w:=wd r
    let p2:PS:=(wr r,p.2)
    if (qf (BR w)).2.2.2=true∧((qf (BR w)).1=1∨(qf (BR w)).1=3) then qCk (nd1 ((qf (BR w)).1,(qf (BR w)).2.1,(qf (BR w)).2.2.1)) p2
    else if (qAa (BR w)).2.2.2.2=true then qCk (ndC (qAa (BR w))) p2
    else match qEp w 1 10 with
    |some op=>pP f (.call op deep) p2
    |none=>(-1,qOs p2)
 |f+1,.call op deep,p=>pP f (.args op deep []) (qBs [40] p)
 |f+1,.args op deep kids,p=>
  if p.2.1=true then qCk (ndK 6 op kids) p else
  let q:=qDF (qAr p) (fun p=>pP f (.bin 1 (deep+1)) p)
  if (qW [44] q.2).1=true then pP f (.args op deep (kids++ [q.1])) (qW [44] q.2).2
  else qCk (ndK 6 op (kids++ [q.1])) (qBs [41] (qW [44] q.2).2)
def sIs (w:List UInt8) (q:PS):Bool×PS:=if q.2.1=true then (false,tb q.1,q.2) else if w.isPrefixOf (tb q.1)=true then (true,(tb q.1).drop w.length,q.2) else (false,tb q.1,q.2)
def qDe (x:Nd) (q:PS):Int×PS:=((q.2.2.length:Int),q.1,(if 60<q.2.2.length+1∨qBy x=false then true else q.2.1),q.2.2++ [x])
def qJZ (q:PS):PS:=(q.1,true,q.2.2)
def qBv:List Int:= [7,9,11,6,8,10,1,2,3,4,5]
def qDO (level:Int) (r:List UInt8):List Int→Int
 | []=>0
 |o::l=>if lvl o=level∧(qk o).toList.isPrefixOf r=true then o else qDO level r l
def sOp (level:Int) (q:PS):Int×PS:=
 if q.2.1=true then (0,tb q.1,q.2) else
 (qDO level (tb q.1) qBv,(if qDO level (tb q.1) qBv=0 then tb q.1 else (tb q.1).drop (qk (qDO level (tb q.1) qBv)).size),q.2)
def qOR (r:List UInt8):Int→Nat→Option Int
 |_,0=>none
 |n,k+1=>if (qX n).toList.tail.isPrefixOf r=true then some n else qOR r (n+1) k
inductive SJ where
 |row (level:Int)
 |rl (level a:Int)
 |one
 |call (op:Int) (kids:List Int)
 |arg
def sP:Nat→SJ→PS→Int×PS
 |0,_,q=>(0,q)
 |f+1,.row level,q=>
  if q.2.1=true then (0,q) else
  if level=5 then sP f .one q else
  sP f (.rl level (sP f (.row (level+1)) q).1) (sP f (.row (level+1)) q).2
 |f+1,.rl level a,q=>
  if q.2.1=true then (a,q) else
  let o:=sOp level q
  if o.1=0 then (a,o.2) else
  let b:=sP f (.row (level+1)) o.2
  let c:=qDe (ndK 5 o.1 [a,b.1]) b.2
  sP f (.rl level c.1) c.2
 |f+1,.one,q=>
  if (sIs [45] q).1=true then
   let b:=sP f (.row 5) (sIs [45] q).2
   qDe (ndK 4 0 [b.1]) b.2
  else if (sIs [40] (sIs [45] q).2).1=true then
   let b:=sP f (.row 1) (sIs [40] (sIs [45] q).2).2
   (b.1,if (sIs [41] b.2).1=true then (sIs [41] b.2).2 else qJZ (sIs [41] b.2).2)
  else
   let q2:PS:=(tb q.1,q.2)
   if (sIs [34] q2).1=true then (match qBd [] (sIs [34] q2).2.1 with
    |none=>(0,[],true,q.2.2)
    |some (s,t)=>qDe (nd1 (2,0,BR s)) (t,q.2))
   else if (sIs [35] q2).1=true then (match qOR (sIs [35] q2).2.1 1 5 with
    |some n=>qDe (nd1 (4,n,em)) ((sIs [35] q2).2.1.drop ((qX n).size-1),q.2)
    |none=>(0,(sIs [35] q2).2.1,true,q.2.2))
   else
    let w:=wd (tb q.1)
    let q3:PS:=(wr (tb q.1),q.2)
    match qEp w 1 10 with
    |some op=>if (sIs [40] q3).1=true then sP f (.call op []) (sIs [40] q3).2 else (0,qJZ (sIs [40] q3).2)
    |none=>
     if (qf (BR w)).2.2.2=true∧w≠ [] then qDe (nd1 ((qf (BR w)).1,(qf (BR w)).2.1,(qf (BR w)).2.2.1)) q3
     else if (qAa (BR w)).2.2.2.2=true then qDe (ndC (qAa (BR w))) q3
     else (0,qJZ q3)
 |f+1,.call op kids,q=>
  if q.2.1=true then (0,q) else
  let a:=sP f .arg q
  if (sIs [41] a.2).1=true then qDe (ndK 6 op (kids++ [a.1])) (sIs [41] a.2).2
  else sP f (.call op (kids++ [a.1])) (if (sIs [44] (sIs [41] a.2).2).1=true then (sIs [44] (sIs [41] a.2).2).2 else qJZ (sIs [44] (sIs [41] a.2).2).2)
 |f+1,.arg,q=>
  let w:=wd (tb q.1)
  let q1:PS:=(wr (tb q.1),q.2)
  if (qAa (BR w)).2.2.2.2=true∧(sIs [58] q1).1=true then
   let q2:=(sIs [58] q1).2
   let w2:=wd (tb q2.1)
   if (qAa (BR w2)).2.2.2.2=true then qDe (ndA (qAa (BR w)) (qAa (BR w2))) (wr (tb q2.1),q2.2) else (0,wr (tb q2.1),true,q2.2.2)
  else sP f (.row 1) (tb q.1,q.2)
theorem qCB:∀r:List UInt8,tb (tb r)=tb r
 | []=>rfl
 |c::r=>by
  unfold tb
  by_cases h:(c==32)=true
  ·simp only [List.dropWhile_cons,h,if_true];exact qCB r
  ·simp [List.dropWhile_cons,h]
theorem qr:∀r:List UInt8,(tb r).length≤r.length
 | []=>Nat.le_refl _
 |c::r=>by
  unfold tb
  by_cases h:(c==32)=true
  ·simp only [List.dropWhile_cons,h,if_true];exact Nat.le_succ_of_le (qr r)
  ·simp [List.dropWhile_cons,h]
theorem qNL {p:UInt8→Bool}:∀r:List UInt8,(r.dropWhile p).length≤r.length
 | []=>Nat.le_refl _
 |c::r=>by
  by_cases h:p c=true
  ·simp only [List.dropWhile_cons,h,if_true];exact Nat.le_succ_of_le (qNL r)
  ·simp [List.dropWhile_cons,h]
theorem qFg (r:List UInt8):(wr r).length≤r.length:=qNL r
theorem wdr (r:List UInt8):wd r++wr r=r:=List.takeWhile_append_dropWhile
theorem qEG (c:UInt8) (t:List UInt8) (h1:c≠60) (h2:c≠62):sgn (c::t)=if c∈([61,38,43,45,42,47,40,41,44,58]:List UInt8) then [c] else []:=by
 have e1:(60==c)=false:=by simpa using fun e=>h1 e.symm
 have e2:(62==c)=false:=by simpa using fun e=>h2 e.symm
 by_cases h:c∈([61,38,43,45,42,47,40,41,44,58]:List UInt8)
 ·rw [if_pos h]
  simp only [List.mem_cons,List.not_mem_nil,or_false] at h
  rcases h with rfl|rfl|rfl|rfl|rfl|rfl|rfl|rfl|rfl|rfl<;>rfl
 ·rw [if_neg h]
  simp only [List.mem_cons,List.not_mem_nil,or_false,not_or] at h
  obtain ⟨a1,a2,a3,a4,a5,a6,a7,a8,a9,a10⟩:=h
  have f:∀d:UInt8,c≠d→(d==c)=false:=fun d hd=>by simpa using fun e=>hd e.symm
  simp [sgn,qDn,List.find?,List.isPrefixOf,e1,e2,f _ a1,f _ a2,f _ a3,f _ a4,f _ a5,f _ a6,f _ a7,f _ a8,f _ a9,f _ a10]
theorem qII (t:List UInt8):sgn (60::t)=if t.head?=some 62 then [60,62] else if t.head?=some 61 then [60,61] else [60]:=by
 cases t with
 |nil=>rfl
 |cons d t=>
  by_cases h:d=62
  ·subst h;rfl
  ·by_cases h2:d=61
   ·subst h2;rfl
   ·have e1:(62==d)=false:=by simpa using fun e=>h e.symm
    have e2:(61==d)=false:=by simpa using fun e=>h2 e.symm
    simp [sgn,qDn,List.find?,List.isPrefixOf,e1,e2,h,h2]
theorem qK9 (t:List UInt8):sgn (62::t)=if t.head?=some 61 then [62,61] else [62]:=by
 cases t with
 |nil=>rfl
 |cons d t=>
  by_cases h2:d=61
  ·subst h2;rfl
  ·have e2:(61==d)=false:=by simpa using fun e=>h2 e.symm
   simp [sgn,qDn,List.find?,List.isPrefixOf,e2,h2]
theorem qPI {c:UInt8} (hc:c∈([45,40,41,44,58]:List UInt8)) (r:List UInt8):(sgn r= [c])↔([c].isPrefixOf r=true):=by
 cases r with
 |nil=>
  have:sgn []= []:=rfl
  rw [this]
  simp [List.isPrefixOf]
 |cons d t=>
  have hcc:c≠60∧c≠62∧c∈([61,38,43,45,42,47,40,41,44,58]:List UInt8):=by
   simp only [List.mem_cons,List.not_mem_nil,or_false] at hc
   rcases hc with rfl|rfl|rfl|rfl|rfl<;>decide
  have e:([c].isPrefixOf (d::t)=true)↔c=d:=by simp [List.isPrefixOf]
  rw [e]
  by_cases h1:d=60
  ·subst h1
   rw [qII]
   constructor
   ·intro h;split at h
    ·cases h
    ·split at h
     ·cases h
     ·simp only [List.cons.injEq,and_true] at h;exact absurd h.symm hcc.1
   ·intro h;exact absurd h hcc.1
  ·by_cases h2:d=62
   ·subst h2
    rw [qK9]
    constructor
    ·intro h;split at h
     ·cases h
     ·simp only [List.cons.injEq,and_true] at h;exact absurd h.symm hcc.2.1
    ·intro h;exact absurd h hcc.2.1
   ·rw [qEG d t h1 h2]
    constructor
    ·intro h;split at h
     ·simp only [List.cons.injEq,and_true] at h;exact h.symm
     ·cases h
    ·intro h;subst h;rw [if_pos hcc.2.2]
theorem qQa {c:UInt8} (hc:c∈([45,40,41,44,58]:List UInt8)) {p q:PS} (hb:q.2.1=false) (ht:tb p.1=tb q.1):(qW [c] p).1=(sIs [c] q).1∧(qW [c] p).2.1=(sIs [c] q).2.1∧(qW [c] p).2.2=p.2∧(sIs [c] q).2.2=q.2:=by
 have h:=qPI hc (tb q.1)
 unfold qW sIs
 rw [ht,hb]
 by_cases hs:sgn (tb q.1)= [c]
 ·rw [if_pos hs,if_neg (by simp),if_pos (h.1 hs)]
  exact ⟨rfl,rfl,rfl,rfl⟩
 ·rw [if_neg hs,if_neg (by simp),if_neg (fun e=>hs (h.2 e))]
  exact ⟨rfl,rfl,rfl,rfl⟩
theorem qDG {w:List UInt8} (hw:w≠ []) {p:PS} (h:(qW w p).1=true):(qW w p).2.1.length<(tb p.1).length:=by
 unfold qW at h⊢
 by_cases hs:sgn (tb p.1)=w
 ·rw [if_pos hs]
  have hp:w.isPrefixOf (tb p.1)=true:=by
   unfold sgn at hs
   split at hs
   ·rename_i x hx
    subst hs
    have:=List.find?_some hx
    simpa using this
   ·exact absurd hs.symm hw
  obtain ⟨t,ht⟩:=List.isPrefixOf_iff_prefix.1 hp
  have h0:0<w.length:=List.length_pos_iff.2 hw
  have h1:=congrArg List.length ht
  simp only [List.length_append] at h1
  simp only [List.length_drop]
  omega
 ·rw [if_neg hs] at h;cases h
theorem qHB (w:List UInt8) (p:PS):(qW w p).2.1.length≤(tb p.1).length:=by
 unfold qW
 split
 ·simp
 ·exact Nat.le_refl _
theorem qPJ (r:List UInt8):(qAI r=0)∨(1≤qAI r∧qAI r≤11∧sgn r=(qk (qAI r)).toList):=by
 unfold qAI
 repeat' (split; · rename_i h;right;rw [h];exact ⟨by decide,by decide,by decide+kernel⟩)
 left;rfl
theorem sg1:(qk 1).toList= [43]:=by decide+kernel
theorem sg2:(qk 2).toList= [45]:=by decide+kernel
theorem sg3:(qk 3).toList= [42]:=by decide+kernel
theorem sg4:(qk 4).toList= [47]:=by decide+kernel
theorem sg5:(qk 5).toList= [38]:=by decide+kernel
theorem sg6:(qk 6).toList= [61]:=by decide+kernel
theorem sg7:(qk 7).toList= [60,62]:=by decide+kernel
theorem sg8:(qk 8).toList= [60]:=by decide+kernel
theorem sg9:(qk 9).toList= [60,61]:=by decide+kernel
theorem qOt:(qk 10).toList= [62]:=by decide+kernel
theorem qOu:(qk 11).toList= [62,61]:=by decide+kernel
theorem qGN (r:List UInt8):qDO 1 r qBv=if [60,62].isPrefixOf r=true then 7 else if [60,61].isPrefixOf r=true then 9 else if [62,61].isPrefixOf r=true then 11 else if [61].isPrefixOf r=true then 6 else if [60].isPrefixOf r=true then 8 else if [62].isPrefixOf r=true then 10 else 0:=by
 simp [qDO,qBv,lvl,sg1,sg2,sg3,sg4,sg5,sg6,sg7,sg8,sg9,qOt,qOu]
theorem qGO (r:List UInt8):qDO 2 r qBv=if [38].isPrefixOf r=true then 5 else 0:=by
 simp [qDO,qBv,lvl,sg1,sg2,sg3,sg4,sg5,sg6,sg7,sg8,sg9,qOt,qOu]
theorem qGP (r:List UInt8):qDO 3 r qBv=if [43].isPrefixOf r=true then 1 else if [45].isPrefixOf r=true then 2 else 0:=by
 simp [qDO,qBv,lvl,sg1,sg2,sg3,sg4,sg5,sg6,sg7,sg8,sg9,qOt,qOu]
theorem qGQ (r:List UInt8):qDO 4 r qBv=if [42].isPrefixOf r=true then 3 else if [47].isPrefixOf r=true then 4 else 0:=by
 simp [qDO,qBv,lvl,sg1,sg2,sg3,sg4,sg5,sg6,sg7,sg8,sg9,qOt,qOu]
theorem qQb {m:Int} (hm:1≤m∧m≤4) (r:List UInt8):qDO m r qBv=if qAI r≠0∧lvl (qAI r)=m then qAI r else 0:=by
 have hm:m=1∨m=2∨m=3∨m=4:=by omega
 cases r with
 |nil=>rcases hm with rfl|rfl|rfl|rfl<;>simp [qGN,qGO,qGP,qGQ,qAI,sgn,qDn,List.find?,List.isPrefixOf]
 |cons c t=>
  have f:∀d:UInt8,c≠d→(d==c)=false:=fun d hd=>by simpa using fun e=>hd e.symm
  by_cases h1:c=60
  ·subst h1
   cases t with
   |nil=>rcases hm with rfl|rfl|rfl|rfl<;>simp [qGN,qGO,qGP,qGQ,qAI,qII,List.isPrefixOf,lvl]
   |cons d t=>
    have g:∀e:UInt8,d≠e→(e==d)=false:=fun e hd=>by simpa using fun x=>hd x.symm
    by_cases hd:d=62
    ·subst hd;rcases hm with rfl|rfl|rfl|rfl<;>simp [qGN,qGO,qGP,qGQ,qAI,qII,List.isPrefixOf,lvl]
    ·by_cases hd2:d=61
     ·subst hd2;rcases hm with rfl|rfl|rfl|rfl<;>simp [qGN,qGO,qGP,qGQ,qAI,qII,List.isPrefixOf,lvl]
     ·rcases hm with rfl|rfl|rfl|rfl<;>simp [qGN,qGO,qGP,qGQ,qAI,qII,List.isPrefixOf,lvl,hd,hd2,g _ hd,g _ hd2]
  ·by_cases h2:c=62
   ·subst h2
    cases t with
    |nil=>rcases hm with rfl|rfl|rfl|rfl<;>simp [qGN,qGO,qGP,qGQ,qAI,qK9,List.isPrefixOf,lvl]
    |cons d t=>
     have g:∀e:UInt8,d≠e→(e==d)=false:=fun e hd=>by simpa using fun x=>hd x.symm
     by_cases hd2:d=61
     ·subst hd2;rcases hm with rfl|rfl|rfl|rfl<;>simp [qGN,qGO,qGP,qGQ,qAI,qK9,List.isPrefixOf,lvl]
     ·rcases hm with rfl|rfl|rfl|rfl<;>simp [qGN,qGO,qGP,qGQ,qAI,qK9,List.isPrefixOf,lvl,hd2,g _ hd2]
   ·by_cases h:c∈([61,38,43,45,42,47,40,41,44,58]:List UInt8)
    ·have hs:sgn (c::t)= [c]:=by rw [qEG c t h1 h2,if_pos h]
     simp only [List.mem_cons,List.not_mem_nil,or_false] at h
     rcases h with rfl|rfl|rfl|rfl|rfl|rfl|rfl|rfl|rfl|rfl<;>rcases hm with rfl|rfl|rfl|rfl<;>
      simp [qGN,qGO,qGP,qGQ,qAI,hs,List.isPrefixOf,lvl]
    ·have hs:sgn (c::t)= []:=by rw [qEG c t h1 h2,if_neg h]
     simp only [List.mem_cons,List.not_mem_nil,or_false,not_or] at h
     obtain ⟨a1,a2,a3,a4,a5,a6,a7,a8,a9,a10⟩:=h
     rcases hm with rfl|rfl|rfl|rfl<;>
      simp [qGN,qGO,qGP,qGQ,qAI,hs,List.isPrefixOf,f _ h1,f _ h2,f _ a1,f _ a2,f _ a3,f _ a4,f _ a5,f _ a6]
theorem qNv {op:Int}:1≤lvl op∧lvl op≤4:=by unfold lvl;split<;>(try split)<;>(try split)<;>omega
def qKG (p:PS):Prop:=p.2.1=true∨∃x∈p.2.2,qBy x=false
theorem qCQ {x:Nd} {p:PS} (h:qKG p):qKG (qCk x p).2:=by
 unfold qCk
 split
 ·exact .inl rfl
 ·rename_i hn
  rcases h with h|⟨y,hy,hb⟩
  ·exact absurd (.inl h) hn
  ·exact .inr ⟨y,List.mem_append_left _ hy,hb⟩
theorem qDr {w:List UInt8} {p:PS} (h:qKG p):qKG (qW w p).2:=by unfold qW;split<;>exact h
theorem qEq (p:PS):qKG (qOs p):= .inl rfl
theorem qGn {w:List UInt8} {p:PS} (h:qKG p):qKG (qBs w p):=by
 unfold qBs
 split
 ·exact h
 ·split
  ·exact qDr h
  ·exact qEq _
theorem qNM {p:PS} (h:qKG p):qKG (qAr p).2:=by
 unfold qAr
 simp only
 split
 ·rcases h with h|h
  ·left
   simp only [Bool.or_eq_true]
   left
   have:(qW [58] (wr (tb p.1),p.2)).2.2=p.2:=by unfold qW;split<;>rfl
   rw [this];exact h
  ·right
   have:(qW [58] (wr (tb p.1),p.2)).2.2=p.2:=by unfold qW;split<;>rfl
   simp only [this]
   exact h
 ·exact h
theorem qCX:∀(f:Nat) (j:PJ) (p:PS),qKG p→qKG (pP f j p).2
 |0,j,p,h=>h
 |f+1,.bin least deep,p,h=>by
  simp only [pP]
  exact qCX f _ _ (qCX f _ _ h)
 |f+1,.loop least deep a,p,h=>by
  simp only [pP]
  split
  ·exact h
  ·split
   ·exact h
   ·exact qCX f _ _ (qCQ (qCX f _ _ h))
 |f+1,.un deep,p,h=>by
  simp only [pP]
  split
  ·exact qEq _
  ·split
   ·exact qCQ (qCX f _ _ (qDr h))
   ·exact qCX f _ _ (qDr h)
 |f+1,.at deep,p,h=>by
  simp only [pP]
  split
  ·split
   ·exact .inl rfl
   ·exact qCQ h
  ·split
   ·exact qCQ h
   ·split
    ·exact qGn (qCX f _ _ (qDr h))
    ·split
     ·exact qCQ h
     ·split
      ·exact qCQ h
      ·split
       ·exact qCX f _ _ h
       ·exact qEq _
 |f+1,.call op deep,p,h=>by
  simp only [pP]
  exact qCX f _ _ (qGn h)
 |f+1,.args op deep kids,p,h=>by
  simp only [pP]
  have hq:qKG (qDF (qAr p) (fun p=>pP f (.bin 1 (deep+1)) p)).2:=by
   unfold qDF
   split
   ·exact qCQ (qNM h)
   ·exact qCX f _ _ (qNM h)
  revert hq
  generalize qDF (qAr p) (fun p=>pP f (.bin 1 (deep+1)) p)=q
  intro hq
  split
  ·exact qCQ h
  ·split
   ·exact qCX f _ _ (qDr hq)
   ·exact qCQ (qGn (qDr hq))
theorem qAu (x:Nd) (p:PS):(qCk x p).2.1=p.1:=by unfold qCk;split<;>rfl
theorem qDP (w:List UInt8) (p:PS):(tb (qW w p).2.1).length≤(tb p.1).length:=by
 unfold qW
 split
 ·refine Nat.le_trans (qr _) ?_
  simp
 ·simp only;rw [qCB];exact Nat.le_refl _
theorem qIT (w:List UInt8) (p:PS):(tb (qBs w p).1).length≤(tb p.1).length:=by
 unfold qBs
 split
 ·exact Nat.le_refl _
 ·split
  ·exact qDP w p
  ·exact qDP w p
theorem qGo (p:PS):(tb (qAr p).2.1).length≤(tb p.1).length:=by
 unfold qAr
 simp only
 split
 ·simp only
  refine Nat.le_trans (qr _) (Nat.le_trans (qFg _) (Nat.le_trans (qDP [58] _) ?_))
  exact Nat.le_trans (qr _) (qFg _)
 ·exact Nat.le_refl _
theorem qIU:∀(acc r:List UInt8) {s t:List UInt8},qBd acc r=some (s,t)→t.length<r.length
 |acc,[],s,t,h=>by simp [qBd] at h
 |acc,c::r,s,t,h=>by
  unfold qBd at h
  by_cases hc:c=34
  ·rw [if_pos hc] at h
   match r,h with
   | [],h=>simp only [Option.some.injEq,Prod.mk.injEq] at h;rw [←h.2];simp
   |d::t',h=>
    simp only at h
    by_cases hd:d=34
    ·rw [if_pos hd] at h
     have:=qIU _ t' h
     simp only [List.length_cons];omega
    ·rw [if_neg hd] at h
     simp only [Option.some.injEq,Prod.mk.injEq] at h
     rw [←h.2];simp
  ·rw [if_neg hc] at h
   have:=qIU _ r h
   simp only [List.length_cons];omega
theorem qDH:∀(f:Nat) (j:PJ) (p:PS),(tb (pP f j p).2.1).length≤(tb p.1).length
 |0,j,p=>Nat.le_refl _
 |f+1,.bin least deep,p=>by
  simp only [pP]
  exact Nat.le_trans (qDH f _ _) (qDH f _ _)
 |f+1,.loop least deep a,p=>by
  simp only [pP]
  split
  ·exact Nat.le_refl _
  ·split
   ·simp only;rw [qCB];exact Nat.le_refl _
   ·refine Nat.le_trans (qDH f _ _) ?_
    rw [qAu]
    refine Nat.le_trans (qDH f _ _) (Nat.le_trans (qr _) ?_)
    simp
 |f+1,.un deep,p=>by
  simp only [pP]
  split
  ·exact Nat.le_refl _
  ·split
   ·rw [qAu]
    exact Nat.le_trans (qDH f _ _) (qDP _ _)
   ·exact Nat.le_trans (qDH f _ _) (qDP _ _)
 |f+1,.at deep,p=>by
  simp only [pP]
  split
  ·split
   ·simp only;rw [qCB];exact Nat.le_refl _
   ·rename_i s t hq
    rw [qAu]
    have:=qIU _ _ hq
    refine Nat.le_trans (qr _) ?_
    have h2:((tb p.1).tail).length≤(tb p.1).length:=by simp
    simp only;omega
  ·split
   ·rw [qAu]
    refine Nat.le_trans (qr _) ?_
    simp
   ·split
    ·exact Nat.le_trans (qIT _ _) (Nat.le_trans (qDH f _ _) (qDP _ _))
    ·have hw:(tb (wr (tb p.1))).length≤(tb p.1).length:=Nat.le_trans (qr _) (qFg _)
     split
     ·rw [qAu];exact hw
     ·split
      ·rw [qAu];exact hw
      ·split
       ·exact Nat.le_trans (qDH f _ _) hw
       ·exact hw
 |f+1,.call op deep,p=>by
  simp only [pP]
  exact Nat.le_trans (qDH f _ _) (qIT _ _)
 |f+1,.args op deep kids,p=>by
  simp only [pP]
  have hq:(tb (qDF (qAr p) (fun p=>pP f (.bin 1 (deep+1)) p)).2.1).length≤(tb p.1).length:=by
   unfold qDF
   split
   ·rw [qAu];exact qGo p
   ·exact Nat.le_trans (qDH f _ _) (qGo p)
  revert hq
  generalize qDF (qAr p) (fun p=>pP f (.bin 1 (deep+1)) p)=q
  intro hq
  split
  ·rw [qAu];exact Nat.le_refl _
  ·split
   ·exact Nat.le_trans (qDH f _ _) (Nat.le_trans (qDP _ _) hq)
   ·rw [qAu]
    exact Nat.le_trans (qIT _ _) (Nat.le_trans (qDP _ _) hq)
structure RdOK:Prop where
 v:∀w:List UInt8,w.all wch=true→w≠ []→(qf (BR w)).2.2.2=true→(qf (BR w)).1=1∨(qf (BR w)).1=3
 v0:¬((qf (BR [])).1=1∨(qf (BR [])).1=3)
 p0:(qAa (BR [])).2.2.2.2=false
 f:∀w op,qEp w 1 10=some op→(qf (BR w)).2.2.2=false∧(qAa (BR w)).2.2.2.2=false
 f0:qEp [] 1 10=none
 n:∀n:Int,1≤n∧n≤5→∃t,(qX n).toList=35::t
def Lk (p q:PS):Prop:=p.2.1=false∧q.2.1=false∧p.2.2=q.2.2∧tb p.1=tb q.1
def Sim (a b:Int×PS):Prop:=(a.1=b.1∧Lk a.2 b.2)∨(b.2.2.1=true∧qKG a.2)
def qRW (least:Int) (p:PS):Prop:=qAI (tb p.1)=0∨lvl (qAI (tb p.1))<least
def SimP (least:Int) (a b:Int×PS):Prop:=(a.1=b.1∧Lk a.2 b.2∧qRW least a.2)∨(b.2.2.1=true∧qKG a.2)
theorem SimP.sim {least:Int} {a b:Int×PS} (h:SimP least a b):Sim a b:=h.elim (fun h=> .inl ⟨h.1,h.2.1⟩) .inr
theorem qKH {x:Nd} {q:PS} (h:q.2.1=true):(qDe x q).2.2.1=true:=by
 unfold qDe;simp only;split
 ·rfl
 ·exact h
theorem qHC {w:List UInt8} {q:PS} (h:q.2.1=true):sIs w q=(false,tb q.1,q.2):=by unfold sIs;rw [if_pos h]
end Go.Proofs.YthhngmnbcmkhpaaGreatDoor.KFnReadFormula

