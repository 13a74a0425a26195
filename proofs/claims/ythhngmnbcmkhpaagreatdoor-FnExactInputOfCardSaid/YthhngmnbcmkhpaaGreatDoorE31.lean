import Derived.Test.YthhngmnbcmkhpaaGreatDoorE30
set_option linter.unusedVariables false
set_option linter.unusedSimpArgs false
namespace Go.Eng
inductive Hv where
 |b (x:Bool)
 |i (x:Int)
 |s (x:ByteArray)
 |r (x:List (List PV))
 |n (x:Nat)
def mtP:PV→PV→Option (List Hv)
 | .b _,.b x=>some [.b x]
 | .i k _,.i k' x=>if k=k' then some [.i x] else none
 | .s _,.s x=>some [.s x]
 | .nif,.nif=>some []
 | .ifc,.ifc=>some []
 | .nl,.nl=>some []
 | .ls _,.ls x=>some [.r x]
 |_,_=>none
theorem zGm {a b c:PV} {h:List Hv} (h1:mtP a b=some h) (h2:mtP a c=some h):b=c:=by
 cases a<;>cases b<;>simp only [mtP,reduceCtorEq] at h1<;>cases c<;>simp only [mtP,reduceCtorEq] at h2
 case i.i.i=>
  split at h1
  ·split at h2
   ·rename_i e1 e2
    cases h1;cases h2
    rw [←e1,←e2]
   ·cases h2
  ·cases h1
 all_goals (cases h1;first|rfl|(cases h2;rfl))
def mtL {α:Type} (q:α→α→Option (List Hv)):List α→List α→Option (List (List Hv))
 | [],[]=>some []
 |a::r,b::l=>match q a b,mtL q r l with
  |some x,some y=>some (x::y)
  |_,_=>none
 |_,_=>none
theorem zFG {α:Type} {q:α→α→Option (List Hv)} (hq:∀a b c h,q a b=some h→q a c=some h→b=c):∀{l m k:List α} {h},mtL q l m=some h→mtL q l k=some h→m=k
 | [],[],[],h,_,_=>rfl
 |a::l,b::m,c::k,h,h1,h2=>by
  simp only [mtL] at h1 h2
  split at h1
  ·rename_i x y hx hy
   cases h1
   split at h2
   ·rename_i x' y' hx' hy'
    cases h2
    rw [hq _ _ _ _ hx hx',zFG hq hy hy']
   ·cases h2
  ·cases h1
 | [],_::_,_,h,h1,_=>by simp [mtL] at h1
 |_::_,[],_,h,h1,_=>by simp [mtL] at h1
 | [],_,_::_,h,_,h2=>by simp [mtL] at h2
 |_::_,_,[],h,_,h2=>by simp [mtL] at h2
def zFs:Cap→Cap→Option (List Hv)
 | .p a,.p b=>mtP a b
 | .ptr d t g,.ptr d' t' g'=>if d=d'∧t=t'∧g=g' then some [] else none
 |_,_=>none
theorem zHB {a b c:Cap} {h:List Hv} (h1:zFs a b=some h) (h2:zFs a c=some h):b=c:=by
 cases a<;>cases b<;>simp only [zFs,reduceCtorEq] at h1<;>cases c<;>simp only [zFs,reduceCtorEq] at h2
 ·rw [zGm h1 h2]
 ·split at h1
  ·split at h2
   ·rename_i e1 e2
    rw [←e1.1,←e1.2.1,←e1.2.2,←e2.1,←e2.2.1,←e2.2.2]
   ·cases h2
  ·cases h1
def zED:List Cap→List Cap→Option (List Hv)
 | [],[]=>some []
 | [a],[b]=>zFs a b
 |_,_=>none
theorem zIA:∀{a b c:List Cap} {h:List Hv},zED a b=some h→zED a c=some h→b=c
 | [],[],[],h,_,_=>rfl
 | [a],[b],[c],h,h1,h2=>by rw [zHB h1 h2]
 | [],[],_::_,h,_,h2=>by simp [zED] at h2
 | [],_::_,_,h,h1,_=>by simp [zED] at h1
 | [_],[],_,h,h1,_=>by simp [zED] at h1
 | [_],[_],[],h,_,h2=>by simp [zED] at h2
 | [_],[_],_::_::_,h,_,h2=>by simp [zED] at h2
 | [_],_::_::_,_,h,h1,_=>by simp [zED] at h1
 |_::_::_,_,_,h,h1,_=>by simp [zED] at h1
def mtC:CV→CV→Option (List Hv)
 | .p a,.p b=>mtP a b
 | .own d t g _,.own d' t' g' n=>if d=d'∧t=t'∧g=g' then some [.n n] else none
 | .ptr d t g j o,.ptr d' t' g' j' o'=>if d=d'∧t=t'∧g=g'∧j=j'∧o=o' then some [] else none
 | .fn f cs,.fn f' cs'=>if f=f' then zED cs cs' else none
 | .nfn,.nfn=>some []
 | .u,.u=>some []
 |_,_=>none
theorem zFH {a b c:CV} {h:List Hv} (h1:mtC a b=some h) (h2:mtC a c=some h):b=c:=by
 cases a<;>cases b<;>simp only [mtC,reduceCtorEq] at h1<;>cases c<;>simp only [mtC,reduceCtorEq] at h2
 case p.p.p=>rw [zGm h1 h2]
 case own.own.own=>
  split at h1
  ·split at h2
   ·rename_i e1 e2
    cases h1;cases h2
    rw [←e1.1,←e1.2.1,←e1.2.2,←e2.1,←e2.2.1,←e2.2.2]
   ·cases h2
  ·cases h1
 case ptr.ptr.ptr=>
  split at h1
  ·split at h2
   ·rename_i e1 e2
    obtain ⟨rfl,rfl,rfl,rfl,rfl⟩:=e1
    obtain ⟨rfl,rfl,rfl,rfl,rfl⟩:=e2
    rfl
   ·cases h2
  ·cases h1
 case fn.fn.fn=>
  split at h1
  ·rename_i e1
   subst e1
   split at h2
   ·rename_i e2
    subst e2
    rw [zIA h1 h2]
   ·cases h2
  ·cases h1
 all_goals rfl
def mtA:AV→AV→Option (List (List Hv))
 | .c a,.c b=>(mtC a b).map fun x=> [x]
 | .agg a,.agg b=>mtL mtC a b
 |_,_=>none
theorem zFI {a b c:AV} {h:List (List Hv)} (h1:mtA a b=some h) (h2:mtA a c=some h):b=c:=by
 cases a<;>cases b<;>simp only [mtA,reduceCtorEq] at h1<;>cases c<;>simp only [mtA,reduceCtorEq] at h2
 ·obtain ⟨x,hx,rfl⟩:=Option.map_eq_some_iff.1 h1
  obtain ⟨y,hy,h2⟩:=Option.map_eq_some_iff.1 h2
  cases h2
  rw [zFH hx hy]
 ·rw [zFG (q:=mtC) (fun a b c h h1 h2=>zFH h1 h2) h1 h2]
def mtM {α:Type} (q:α→α→Option (List (List Hv))):List α→List α→Option (List (List (List Hv)))
 | [],[]=>some []
 |a::r,b::l=>match q a b,mtM q r l with
  |some x,some y=>some (x::y)
  |_,_=>none
 |_,_=>none
theorem zCF {α:Type} {q:α→α→Option (List (List Hv))} (hq:∀a b c h,q a b=some h→q a c=some h→b=c):∀{l m k:List α} {h},mtM q l m=some h→mtM q l k=some h→m=k
 | [],[],[],h,_,_=>rfl
 |a::l,b::m,c::k,h,h1,h2=>by
  simp only [mtM] at h1 h2
  split at h1
  ·rename_i x y hx hy
   cases h1
   split at h2
   ·rename_i x' y' hx' hy'
    cases h2
    rw [hq _ _ _ _ hx hx',zCF hq hy hy']
   ·cases h2
  ·cases h1
 | [],_::_,_,h,h1,_=>by simp [mtM] at h1
 |_::_,[],_,h,h1,_=>by simp [mtM] at h1
 | [],_,_::_,h,_,h2=>by simp [mtM] at h2
 |_::_,_,[],h,_,h2=>by simp [mtM] at h2
def zIB (a b:Nat×AV):Option (List (List Hv)):=if a.1=b.1 then mtA a.2 b.2 else none
theorem zIC {a b c:Nat×AV} {h} (h1:zIB a b=some h) (h2:zIB a c=some h):b=c:=by
 unfold zIB at h1 h2
 split at h1
 ·split at h2
  ·rename_i e1 e2
   exact Prod.ext (e1.symm.trans e2) (zFI h1 h2)
  ·cases h2
 ·cases h1
def mtK:BK→BK→Option (List (List Hv))
 | .box a,.box b=>mtL mtC a b
 | .row _,.row x=>some [[.r x]]
 | .dead,.dead=>some []
 |_,_=>none
theorem zIi {a b c:BK} {h} (h1:mtK a b=some h) (h2:mtK a c=some h):b=c:=by
 cases a<;>cases b<;>simp only [mtK,reduceCtorEq] at h1<;>cases c<;>simp only [mtK,reduceCtorEq] at h2
 ·rw [zFG (q:=mtC) (fun a b c h h1 h2=>zFH h1 h2) h1 h2]
 ·cases h1;cases h2;rfl
 ·rfl
def zGM (a b:Nat×Blk):Option (List (List Hv)):=if a.1=b.1∧a.2.g=b.2.g∧a.2.sz=b.2.sz∧a.2.ty=b.2.ty then mtK a.2.k b.2.k else none
theorem zFt {a b c:Nat×Blk} {h} (h1:zGM a b=some h) (h2:zGM a c=some h):b=c:=by
 unfold zGM at h1 h2
 split at h1
 ·split at h2
  ·rename_i e1 e2
   have:=zIi h1 h2
   obtain ⟨n,⟨g,sz,ty,k⟩⟩:=a
   obtain ⟨n',⟨g',sz',ty',k'⟩⟩:=b
   obtain ⟨n'',⟨g'',sz'',ty'',k''⟩⟩:=c
   simp only at e1 e2 this
   obtain ⟨rfl,rfl,rfl,rfl⟩:=e1
   obtain ⟨rfl,rfl,rfl,rfl⟩:=e2
   rw [this]
  ·cases h2
 ·cases h1
def mtU:List Frame→List Frame→Option (List (List (List (List Hv))))
 | [],[]=>some []
 | [f],[g]=>(mtM zGM f g).map fun x=> [x]
 |_,_=>none
theorem zFJ:∀{a b c:List Frame} {h:List (List (List (List Hv)))},mtU a b=some h→mtU a c=some h→b=c
 | [],[],[],h,_,_=>rfl
 | [f],[g],[k],h,h1,h2=>by
  obtain ⟨x,hx,rfl⟩:=Option.map_eq_some_iff.1 h1
  obtain ⟨y,hy,h2⟩:=Option.map_eq_some_iff.1 h2
  cases h2
  rw [zCF (q:=zGM) (fun a b c h h1 h2=>zFt h1 h2) hx hy]
 | [],[],_::_,h,_,h2=>by simp [mtU] at h2
 | [],_::_,_,h,h1,_=>by simp [mtU] at h1
 | [_],[],_,h,h1,_=>by simp [mtU] at h1
 | [_],[_],[],h,_,h2=>by simp [mtU] at h2
 | [_],[_],_::_::_,h,_,h2=>by simp [mtU] at h2
 | [_],_::_::_,_,h,h1,_=>by simp [mtU] at h1
 |_::_::_,_,_,h,h1,_=>by simp [mtU] at h1
abbrev zw:=List (List (List Hv))×List (List (List Hv))×List (List (List (List Hv)))
def mtS (a b:St):Option zw:=match mtM zIB a.t b.t,mtM zGM a.fr b.fr,mtU a.up b.up with
 |some x,some y,some z=>some (x,y,z)
 |_,_,_=>none
theorem zIj {a b c:St} {h} (h1:mtS a b=some h) (h2:mtS a c=some h):b=c:=by
 unfold mtS at h1 h2
 split at h1
 ·rename_i x y z hx hy hz
  cases h1
  split at h2
  ·rename_i x' y' z' hx' hy' hz'
   cases h2
   obtain ⟨t,fr,up⟩:=b
   obtain ⟨t',fr',up'⟩:=c
   have e1:=zCF (q:=zIB) (fun a b c h h1 h2=>zIC h1 h2) hx hx'
   have e2:=zCF (q:=zGM) (fun a b c h h1 h2=>zFt h1 h2) hy hy'
   have e3:=zFJ hz hz'
   simp only at e1 e2 e3
   rw [e1,e2,e3]
  ·cases h2
 ·cases h1
abbrev zS:=List (List (List Hv))×List (List (List (List Hv)))
def zR {R:Type} (A0:List AV) (U0:List Frame) (FH:zS→Option R) (O:R→Res) (d:List AV→List Frame→Tr Res) (ar:List AV) (up:List Frame):Tr Res:=match mtM mtA A0 ar,mtU U0 up with
 |some hs,some us=> .opt (FH (hs,us)) fun r=> .done (O r)
 |_,_=>d ar up
theorem zF {R:Type} {run:zAJ} {f:FuncId} {A0:List AV} {U0:List Frame} {FH:zS→Option R} {O:R→Res} {d:List AV→List Frame→Tr Res} (h:∀hs r,FH hs=some r→∃ar up,mtM mtA A0 ar=some hs.1∧mtU U0 up=some hs.2∧run f ar up=some (O r))
  (hd:∀ar up r,(d ar up).run=some r→run f ar up=some r):∀ar up r,(zR A0 U0 FH O d ar up).run=some r→run f ar up=some r:=by
 intro ar up r hr
 unfold zR at hr
 split at hr
 ·rename_i hs us hm hu
  obtain ⟨x,h1,h2⟩:=Tr.opt_some hr
  cases h2
  obtain ⟨ar',up',h3,h4,h5⟩:=h (hs,us) x h1
  rw [zCF (q:=mtA) (fun a b c h h1 h2=>zFI h1 h2) hm h3,zFJ hu h4]
  exact h5
 ·exact hd ar up r hr
def zID {R1 R2:Type} (A0:List AV) (U0:List Frame) (FH:zS→Option (R1⊕R2)) (O:R1⊕R2→Res) (d:List AV→List Frame→Tr Res) (ar:List AV) (up:List Frame):Tr Res:=match mtM mtA A0 ar,mtU U0 up with
 |some hs,some us=> .opt (FH (hs,us)) fun r=> .alt r (fun a=> .done (O (.inl a))) (fun b=> .done (O (.inr b)))
 |_,_=>d ar up
theorem zIE {R1 R2:Type} {run:zAJ} {f:FuncId} {A0:List AV} {U0:List Frame} {FH:zS→Option (R1⊕R2)} {O:R1⊕R2→Res} {d:List AV→List Frame→Tr Res} (h:∀hs r,FH hs=some r→∃ar up,mtM mtA A0 ar=some hs.1∧mtU U0 up=some hs.2∧run f ar up=some (O r))
  (hd:∀ar up r,(d ar up).run=some r→run f ar up=some r):∀ar up r,(zID A0 U0 FH O d ar up).run=some r→run f ar up=some r:=by
 intro ar up r hr
 unfold zID at hr
 split at hr
 ·rename_i hs us hm hu
  obtain ⟨x,h1,h2⟩:=Tr.opt_some hr
  obtain ⟨ar',up',h3,h4,h5⟩:=h (hs,us) x h1
  rw [zCF (q:=mtA) (fun a b c h h1 h2=>zFI h1 h2) hm h3,zFJ hu h4]
  rcases x with x|x
  ·cases h2;exact h5
  ·cases h2;exact h5
 ·exact hd ar up r hr
theorem zA2 {KP:FuncId→Option KFun} {lib:FuncId→List AV→Option AV} {n:Nat} {f:FuncId} {args:List AV} {up:List Frame} {v:AV} (hk:KP f=none) (hl:lib f args=some v):zBq KP lib (n+1) f args up=some ⟨v,up,[]⟩:=by
 simp only [zBq,hk,hl,Option.map_some]
def zD:List AV→List Frame→Tr Res:=fun _ _=> .fail
theorem zB {run:zAJ} {f:FuncId}:∀ar up r,(zD ar up).run=some r→run f ar up=some r:=fun ar up r h=>by cases h
def zd:List (FuncId×(List AV→List Frame→Tr Res))→zX
 | [],_,_,_=> .fail
 |(g,c)::r,f,ar,up=>if g=f then c ar up else zd r f ar up
theorem zG {run:zAJ}:zW (zd []) run:=fun f ar up r h=>by cases h
theorem zA {run:zAJ} {g:FuncId} {c:List AV→List Frame→Tr Res} {l:List (FuncId×(List AV→List Frame→Tr Res))} (hc:∀ar up r,(c ar up).run=some r→run g ar up=some r) (hl:zW (zd l) run):zW (zd ((g,c)::l)) run:=by
 intro f ar up r h
 simp only [zd] at h
 split at h
 ·rename_i e;subst e;exact hc ar up r h
 ·exact hl f ar up r h
def zL {V R:Type} (B:V→Tr (V⊕R)):Nat→V→Option R
 |0,_=>none
 |m+1,v=>match (B v).run with
  |some (.inl v')=>zL B m v'
  |some (.inr r)=>some r
  |none=>none
def zp {V R:Type} (S0:St) (VH:zw→Option V) (B:V→Tr (V⊕R)) (DT:R→Tr (Ex×St)) (N:Nat) (st:St):Tr (Ex×St):=match mtS S0 st with
 |some hs=>match VH hs with
  |some v=> .opt (zL B N v) DT
  |none=> .fail
 |none=> .fail
def zN:List (Nat×(St→Tr (Ex×St)))→za
 | [],_,_=> .fail
 |(g,c)::r,f,st=>if g=f then c st else zN r f st
def zAQ {V R:Type} (sk:V→St) (D:R→Ex×St):V⊕R→Tr (Ex×St)
 | .inl v=> .done (.normal,sk v)
 | .inr r=> .done (D r)
def zx (keep:List Nat) (zAI:List (Ex×List Nat)) (p:Ex×St×Kn):Tr (Ex×St):= .done (p.1,p.2.1.norm (if p.1= .normal then keep else zCc p.1 zAI))
section
variable {CT:zX} {LT:za} {run:zAJ} {N:Nat}
theorem zFu {V R:Type} {body:KCode} {keep:List Nat} {zAI:List (Ex×List Nat)} {sk:V→St} {B:V→Tr (V⊕R)} {D:R→Ex×St} (hC:zW CT run) (hL:zAK LT run N body)
  (hT:∀v,(zf CT LT body (sk v) []).bind (zx keep zAI)=(B v).bind (zAQ sk D)) (hD:∀r,(D r).1≠ .normal):
  ∀(m:Nat) (v:V) (r:R),zL B m v=some r→∃s0,zCr (z9 run N body) keep m (sk v)=some ((D r).1,s0)∧(D r).2=s0.norm (zCc (D r).1 zAI)
 |0,v,r,h=>by simp [zL] at h
 |m+1,v,r,h=>by
  have key:∀{x:V⊕R} {y:Ex×St},(B v).run=some x→(zAQ sk D x).run=some y→∃s kn,z9 run N body (sk v)=some (y.1,s)∧y.2=s.norm (if y.1= .normal then keep else zCc y.1 zAI):=fun {x y} hx hy=>by
   have h1:((B v).bind (zAQ sk D)).run=some y:=by rw [Tr.run_bind,hx];exact hy
   rw [←hT v] at h1
   obtain ⟨⟨e,s,kn⟩,h2,h3⟩:=Tr.bind_some h1
   cases h3
   exact ⟨s,kn,(zEn hC body hL (fun n b hn=>by cases hn) h2).1,rfl⟩
  simp only [zL] at h
  split at h
  ·rename_i v' hv
   obtain ⟨s,kn,h1,h2⟩:=key (y:=(.normal,sk v')) hv rfl
   obtain ⟨s0,h3,h4⟩:=zFu hC hL hT hD m v' r h
   simp only [if_true] at h2
   refine ⟨s0,?_,h4⟩
   simp only [zCr,h1,Option.bind_some]
   rw [←h2]
   exact h3
  ·rename_i r' hr
   cases h
   obtain ⟨s,kn,h1,h2⟩:=key (y:=D r) hr rfl
   rw [if_neg (hD r)] at h2
   refine ⟨s,?_,h2⟩
   simp only [zCr,h1,Option.bind_some]
   cases hq:(D r).1 with
   |normal=>exact absurd hq (hD r)
   |_=>rfl
  ·cases h
theorem zh {V R:Type} {body:KCode} {keep:List Nat} {zAI:List (Ex×List Nat)} {S0:St} {VH:zw→Option V} {sk:V→St} {B:V→Tr (V⊕R)} {D:R→Ex×St} {DT:R→Tr (Ex×St)} (hC:zW CT run) (hL:zAK LT run N body)
  (hT:∀v,(zf CT LT body (sk v) []).bind (zx keep zAI)=(B v).bind (zAQ sk D)) (hD:∀r,(D r).1≠ .normal) (hDT:∀r y,(DT r).run=some y→y=D r) (hV:∀hs v,VH hs=some v→mtS S0 (sk v)=some hs)
  {st:St} {e:Ex} {s:St} (h:(zp S0 VH B DT N st).run=some (e,s)):∃s0,zCr (z9 run N body) keep N st=some (e,s0)∧s=s0.norm (zCc e zAI):=by
 unfold zp at h
 split at h
 ·rename_i hs hm
  split at h
  ·rename_i v hv
   obtain ⟨r,h1,h2⟩:=Tr.opt_some h
   have h3:=hDT r _ h2
   obtain ⟨s0,h4,h5⟩:=zFu hC hL hT hD N v r h1
   rw [←h3] at h4 h5
   rw [zIj hm (hV hs v hv)]
   exact ⟨s0,h4,h5⟩
  ·cases h
 ·cases h
def zAX (run:zAJ) (N:Nat) (x:Nat×List Nat×List (Ex×List Nat)×KCode) (c:St→Tr (Ex×St)):Prop:=
 ∀st e s,(c st).run=some (e,s)→∃s0,zCr (z9 run N x.2.2.2) x.2.1 N st=some (e,s0)∧s=s0.norm (zCc e x.2.2.1)
theorem zCt {c:KCode} {l:List (Nat×(St→Tr (Ex×St)))} (h:∀x∈zAj c,∃q,(∀st,zN l x.1 st=q st)∧zAX run N x q):zAK (zN l) run N c:=by
 intro mk keep zAI b hm st e s hr
 obtain ⟨q,h1,h2⟩:=h _ hm
 rw [h1] at hr
 exact h2 st e s hr
theorem zI {c:KCode} (h:zAj c= []):zAK LT run N c:=fun mk keep zAI b hm=>by rw [h] at hm;cases hm
end
theorem zH {KP:FuncId→Option KFun} {lib:FuncId→List AV→Option AV} {n:Nat} {CT:zX} {LT:za} {f:FuncId} {kf:KFun} (hf:KP f=some kf) (hC:zW CT (zBq KP lib n)) (hL:zAK LT (zBq KP lib n) n kf.body) {R:Type} {T:Tr R} {O:R→Res} {args:List AV} {up:List Frame}
  (ht:ze CT LT kf args up=T.bind fun r=> .done (O r)) {r:R} (h:T.run=some r):zBq KP lib (n+1) f args up=some (O r):=
 zHA hf hC hL (by rw [ht,Tr.run_bind,h];rfl)
end Go.Eng

