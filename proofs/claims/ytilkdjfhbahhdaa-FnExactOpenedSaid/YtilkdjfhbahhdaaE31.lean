import Derived.Test.YtilkdjfhbahhdaaE30
set_option linter.unusedVariables false
set_option linter.unusedSimpArgs false
namespace Go.Eng
universe u
inductive Hv where
 |b (x:Bool)
 |i (x:Int)
 |s (x:ByteArray)
 |r (x:List (List PV))
 |n (x:Nat)
inductive LK where
 |b|i|s|r|n
abbrev LK.T:LK→Type
 | .b=>Bool
 | .i=>Int
 | .s=>ByteArray
 | .r=>List (List PV)
 | .n=>Nat
abbrev Tup:List LK→Type
 | []=>Unit
 | [k]=>k.T
 |k::l::r=>k.T×Tup (l::r)
def LK.hv:(k:LK)→k.T→Hv
 | .b,x=> .b x
 | .i,x=> .i x
 | .s,x=> .s x
 | .r,x=> .r x
 | .n,x=> .n x
def LK.un:(k:LK)→Hv→Option k.T
 | .b,.b x=>some x
 | .i,.i x=>some x
 | .s,.s x=>some x
 | .r,.r x=>some x
 | .n,.n x=>some x
 |_,_=>none
def hvs:(ks:List LK)→Tup ks→List Hv
 | [],_=> []
 | [k],x=> [k.hv x]
 |k::l::r,x=>k.hv x.1::hvs (l::r) x.2
def unH:(ks:List LK)→List Hv→Option (Tup ks)
 | [],[]=>some ()
 | [k],[h]=>k.un h
 |k::l::r,h::t=>match k.un h,unH (l::r) t with
  |some x,some y=>some (x,y)
  |_,_=>none
 |_,_=>none
theorem LK.un_hv {k:LK} {h:Hv} {x:k.T} (e:k.un h=some x):k.hv x=h:=by
 cases k<;>cases h<;>simp only [LK.un,reduceCtorEq] at e<;>(cases e;rfl)
theorem zFg:∀{ks:List LK} {h:List Hv} {x:Tup ks},unH ks h=some x→hvs ks x=h
 | [],[],x,e=>rfl
 | [],_::_,x,e=>by simp [unH] at e
 | [k],[],x,e=>by simp [unH] at e
 | [k],[h],x,e=>by
  have e:k.un h=some x:=e
  show [k.hv x]= [h]
  rw [LK.un_hv e]
 | [k],_::_::_,x,e=>by simp [unH] at e
 |k::l::r,[],x,e=>by simp [unH] at e
 |k::l::r,h::t,x,e=>by
  simp only [unH] at e
  split at e
  ·rename_i y z hy hz
   cases e
   show k.hv y::hvs (l::r) z=h::t
   rw [LK.un_hv hy,zFg hz]
  ·cases e
abbrev Cur (R:Type u):List LK→Type u
 | []=>R
 |k::r=>k.T→Cur R r
def unc {R:Type u}:(ks:List LK)→Cur R ks→Tup ks→R
 | [],f,_=>f
 | [_],f,x=>f x
 |_::l::r,f,x=>unc (l::r) (f x.1) x.2
section
variable {α:Type}
def lkL (q:α→List LK):List α→List LK
 | []=> []
 |a::l=>q a++lkL q l
def flL (q:α→List Hv→α×List Hv):List α→List Hv→List α×List Hv
 | [],h=>([],h)
 |a::l,h=>((q a h).1::(flL q l (q a h).2).1,(flL q l (q a h).2).2)
def mtL (q:α→α→Option (List Hv)):List α→List α→Option (List Hv)
 | [],[]=>some []
 |a::r,b::l=>match q a b,mtL q r l with
  |some x,some y=>some (x++y)
  |_,_=>none
 |_,_=>none
def Fyts (m:α→α→Option (List Hv)) (f:α→List Hv→α×List Hv):Prop:=∀a b h r,m a b=some h→f a (h++r)=(b,r)
theorem Fyts.go {m:α→α→Option (List Hv)} {f:α→List Hv→α×List Hv} (q:Fyts m f) {a b:α} {h:List Hv} (r:List Hv) (e:m a b=some h):f a (h++r)=(b,r):=q a b h r e
theorem zAk {m:α→α→Option (List Hv)} {f:α→List Hv→α×List Hv} (hq:Fyts m f):Fyts (mtL m) (flL f)
 | [],[],h,r,e=>by cases e;rfl
 |a::l,b::k,h,r,e=>by
  simp only [mtL] at e
  split at e
  ·rename_i x y hx hy
   cases e
   simp only [flL]
   rw [List.append_assoc,hq.go _ hx,zAk hq l k y r hy]
  ·cases e
 | [],_::_,h,r,e=>by simp [mtL] at e
 |_::_,[],h,r,e=>by simp [mtL] at e
end
def PV.lk:PV→List LK
 | .b _=> [.b]
 | .i _ _=> [.i]
 | .s _=> [.s]
 | .ls _=> [.r]
 |_=> []
def PV.fl:PV→List Hv→PV×List Hv
 | .b _,.b x::r=>(.b x,r)
 | .i k _,.i x::r=>(.i k x,r)
 | .s _,.s x::r=>(.s x,r)
 | .ls _,.r x::r=>(.ls x,r)
 |p,r=>(p,r)
def mtP:PV→PV→Option (List Hv)
 | .b _,.b x=>some [.b x]
 | .i k _,.i k' x=>if k=k' then some [.i x] else none
 | .s _,.s x=>some [.s x]
 | .nif,.nif=>some []
 | .ifc,.ifc=>some []
 | .nl,.nl=>some []
 | .op,.op=>some []
 | .np,.np=>some []
 | .ls _,.ls x=>some [.r x]
 |_,_=>none
theorem zFh:Fyts mtP PV.fl:=by
 intro a b h r e
 cases a<;>cases b<;>simp only [mtP,reduceCtorEq] at e
 case i.i=>
  split at e
  ·rename_i q;cases e;rw [q];rfl
  ·cases e
 all_goals (cases e;rfl)
def Cap.lk:Cap→List LK
 | .p x=>x.lk
 | .rp l=>lkL PV.lk l
 |_=> []
def Cap.fl:Cap→List Hv→Cap×List Hv
 | .p x,h=>(.p (x.fl h).1,(x.fl h).2)
 | .rp l,h=>(.rp (flL PV.fl l h).1,(flL PV.fl l h).2)
 |c,h=>(c,h)
def zJl:Cap→Cap→Option (List Hv)
 | .p a,.p b=>mtP a b
 | .ptr d t g,.ptr d' t' g'=>if d=d'∧t=t'∧g=g' then some [] else none
 | .rp a,.rp b=>mtL mtP a b
 |_,_=>none
theorem zJm:Fyts zJl Cap.fl:=by
 intro a b h r e
 cases a<;>cases b<;>simp only [zJl,reduceCtorEq] at e
 ·simp only [Cap.fl];rw [zFh.go r e]
 ·split at e
  ·rename_i q;obtain ⟨rfl,rfl,rfl⟩:=q;cases e;rfl
  ·cases e
 ·simp only [Cap.fl];rw [(zAk zFh).go r e]
def CV.lk:CV→List LK
 | .p x=>x.lk
 | .rp l _=>lkL PV.lk l
 | .own ..=> [.n]
 | .fn _ cs=>lkL Cap.lk cs
 |_=> []
def CV.fl:CV→List Hv→CV×List Hv
 | .p x,h=>(.p (x.fl h).1,(x.fl h).2)
 | .rp l o,h=>(.rp (flL PV.fl l h).1 o,(flL PV.fl l h).2)
 | .own d t g _,.n x::r=>(.own d t g x,r)
 | .fn f cs,h=>(.fn f (flL Cap.fl cs h).1,(flL Cap.fl cs h).2)
 |c,h=>(c,h)
def mtC:CV→CV→Option (List Hv)
 | .p a,.p b=>mtP a b
 | .own d t g _,.own d' t' g' n=>if d=d'∧t=t'∧g=g' then some [.n n] else none
 | .ptr d t g j o,.ptr d' t' g' j' o'=>if d=d'∧t=t'∧g=g'∧j=j'∧o=o' then some [] else none
 | .fn f cs,.fn f' cs'=>if f=f' then mtL zJl cs cs' else none
 | .rp l o,.rp l' o'=>if o=o' then mtL mtP l l' else none
 | .nfn,.nfn=>some []
 | .u,.u=>some []
 |_,_=>none
theorem zHB:Fyts mtC CV.fl:=by
 intro a b h r e
 cases a<;>cases b<;>simp only [mtC,reduceCtorEq] at e
 case p.p=>simp only [CV.fl];rw [zFh.go r e]
 case rp.rp=>
  split at e
  ·rename_i q;subst q;simp only [CV.fl];rw [(zAk zFh).go r e]
  ·cases e
 case own.own=>
  split at e
  ·rename_i q;obtain ⟨rfl,rfl,rfl⟩:=q;cases e;rfl
  ·cases e
 case ptr.ptr=>
  split at e
  ·rename_i q;obtain ⟨rfl,rfl,rfl,rfl,rfl⟩:=q;cases e;rfl
  ·cases e
 case fn.fn=>
  split at e
  ·rename_i q;subst q;simp only [CV.fl];rw [(zAk zJm).go r e]
  ·cases e
 all_goals (cases e;rfl)
def zK7 (x:Bool×List CV):List LK:=lkL CV.lk x.2
def zJn (x:Bool×List CV) (h:List Hv):(Bool×List CV)×List Hv:=((x.1,(flL CV.fl x.2 h).1),(flL CV.fl x.2 h).2)
def AV.lk:AV→List LK
 | .c x=>x.lk
 | .agg l=>lkL CV.lk l
 | .tup l=>lkL zK7 l
def AV.fl:AV→List Hv→AV×List Hv
 | .c x,h=>(.c (x.fl h).1,(x.fl h).2)
 | .agg l,h=>(.agg (flL CV.fl l h).1,(flL CV.fl l h).2)
 | .tup l,h=>(.tup (flL zJn l h).1,(flL zJn l h).2)
def mtA:AV→AV→Option (List Hv)
 | .c a,.c b=>mtC a b
 | .agg a,.agg b=>mtL mtC a b
 |_,_=>none
theorem zJo:Fyts mtA AV.fl:=by
 intro a b h r e
 cases a<;>cases b<;>simp only [mtA,reduceCtorEq] at e
 ·simp only [AV.fl];rw [zHB.go r e]
 ·simp only [AV.fl];rw [(zAk zHB).go r e]
def zLY (x:Nat×AV):List LK:=x.2.lk
def zJp (x:Nat×AV) (h:List Hv):(Nat×AV)×List Hv:=((x.1,(x.2.fl h).1),(x.2.fl h).2)
def zK8 (a b:Nat×AV):Option (List Hv):=if a.1=b.1 then mtA a.2 b.2 else none
theorem zKb:Fyts zK8 zJp:=by
 intro a b h r e
 obtain ⟨n,a⟩:=a
 obtain ⟨m,b⟩:=b
 unfold zK8 at e
 split at e
 ·rename_i q
  simp only at q e
  subst q
  simp only [zJp];rw [zJo.go r e]
 ·cases e
def BK.lk:BK→List LK
 | .box l=>lkL CV.lk l
 | .row _=> [.r]
 | .deep _ _=> [.r]
 | .dead=> []
def BK.fl:BK→List Hv→BK×List Hv
 | .box l,h=>(.box (flL CV.fl l h).1,(flL CV.fl l h).2)
 | .row _,.r x::r=>(.row x,r)
 | .deep c _,.r x::r=>(.deep c x,r)
 |k,h=>(k,h)
def mtK:BK→BK→Option (List Hv)
 | .box a,.box b=>mtL mtC a b
 | .row _,.row x=>some [.r x]
 | .deep c _,.deep c' x=>if c=c' then some [.r x] else none
 | .dead,.dead=>some []
 |_,_=>none
theorem zK9:Fyts mtK BK.fl:=by
 intro a b h r e
 cases a<;>cases b<;>simp only [mtK,reduceCtorEq] at e
 case box.box=>simp only [BK.fl];rw [(zAk zHB).go r e]
 case deep.deep=>
  split at e
  ·rename_i q;subst q;cases e;rfl
  ·cases e
 all_goals (cases e;rfl)
def Blk.fl (x:Blk) (h:List Hv):Blk×List Hv:=(⟨x.g,x.sz,x.ty,(x.k.fl h).1⟩,(x.k.fl h).2)
def zLQ (x:Nat×Blk):List LK:=x.2.k.lk
def zJq (x:Nat×Blk) (h:List Hv):(Nat×Blk)×List Hv:=((x.1,(x.2.fl h).1),(x.2.fl h).2)
def zKc (a b:Nat×Blk):Option (List Hv):=if a.1=b.1∧a.2.g=b.2.g∧a.2.sz=b.2.sz∧a.2.ty=b.2.ty then mtK a.2.k b.2.k else none
theorem zHp:Fyts zKc zJq:=by
 intro a b h r e
 obtain ⟨n,⟨g,sz,ty,k⟩⟩:=a
 obtain ⟨n',⟨g',sz',ty',k'⟩⟩:=b
 unfold zKc at e
 split at e
 ·rename_i q
  simp only at q e
  obtain ⟨rfl,rfl,rfl,rfl⟩:=q
  simp only [zJq,Blk.fl];rw [zK9.go r e]
 ·cases e
def zLA:Frame→List LK:=lkL zLQ
def zJr:Frame→List Hv→Frame×List Hv:=flL zJq
def mtF:Frame→Frame→Option (List Hv):=mtL zKc
theorem zJs:Fyts mtF zJr:=zAk zHp
def St.lk (s:St):List LK:=lkL zLY s.t++(lkL zLQ s.fr++lkL zLA s.up)
def St.fl (s:St) (h:List Hv):St:=⟨(flL zJp s.t h).1,(flL zJq s.fr (flL zJp s.t h).2).1,(flL zJr s.up (flL zJq s.fr (flL zJp s.t h).2).2).1⟩
def mtS (a b:St):Option (List Hv):=match mtL zK8 a.t b.t,mtL zKc a.fr b.fr,mtL mtF a.up b.up with
 |some x,some y,some z=>some (x++(y++z))
 |_,_,_=>none
theorem zLB {a b:St} {h:List Hv} (e:mtS a b=some h):a.fl h=b:=by
 unfold mtS at e
 split at e
 ·rename_i x y z hx hy hz
  cases e
  have h3:=(zAk zJs).go [] hz
  rw [List.append_nil] at h3
  simp only [St.fl]
  rw [(zAk zKb).go _ hx,(zAk zHp).go _ hy,h3]
 ·cases e
def Res.lk (r:Res):List LK:=r.v.lk++(lkL zLA r.up++lkL (fun B=>B.k.lk) r.rows)
def Res.fl (r:Res) (h:List Hv):Res:=⟨(r.v.fl h).1,(flL zJr r.up (r.v.fl h).2).1,(flL Blk.fl r.rows (flL zJr r.up (r.v.fl h).2).2).1⟩
abbrev vI:PV:= .i .i64 0
abbrev vB:PV:= .b false
abbrev vS:PV:= .s ⟨#[]⟩
abbrev vL:PV:= .ls []
abbrev qI:CV:= .p vI
abbrev qB:CV:= .p vB
abbrev qS:CV:= .p vS
abbrev qL:CV:= .p vL
abbrev aI:AV:= .c qI
abbrev aB:AV:= .c qB
abbrev aS:AV:= .c qS
abbrev aL:AV:= .c qL
structure Sg where
 f:FuncId
 A:List AV
 U:List Frame
 O:Res
def Sg.ks (s:Sg):List LK:=lkL AV.lk s.A++lkL zLA s.U
def Sg.rs (s:Sg):List LK:=s.O.lk
def Sg.Af (s:Sg) (a:Tup s.ks):List AV:=(flL AV.fl s.A (hvs s.ks a)).1
def Sg.Uf (s:Sg) (a:Tup s.ks):List Frame:=(flL zJr s.U (flL AV.fl s.A (hvs s.ks a)).2).1
def Sg.Of (s:Sg) (r:Tup s.rs):Res:=s.O.fl (hvs s.rs r)
def Sg.mt (s:Sg) (ar:List AV) (up:List Frame):Option (Tup s.ks):=match mtL mtA s.A ar,mtL mtF s.U up with
 |some h,some u=>unH s.ks (h++u)
 |_,_=>none
theorem Sg.mt_ok {s:Sg} {ar:List AV} {up:List Frame} {a:Tup s.ks} (e:s.mt ar up=some a):s.Af a=ar∧s.Uf a=up:=by
 unfold Sg.mt at e
 split at e
 ·rename_i h u hh hu
  have h1:=zFg e
  have h2:=(zAk zJs).go [] hu
  rw [List.append_nil] at h2
  simp only [Sg.Af,Sg.Uf,h1]
  rw [(zAk zJo).go _ hh,h2]
  exact ⟨rfl,rfl⟩
 ·cases e
def Ok (run:zh) (s:Sg) (F:Cur (Option (Tup s.rs)) s.ks):Prop:=∀a r,unc s.ks F a=some r→run s.f (s.Af a) (s.Uf a)=some (s.Of r)
abbrev ED:=List AV→List Frame→Tr Res
structure Ent (run:zh) where
 f:FuncId
 c:ED→ED
 ok:∀d:ED,(∀ar up r,(d ar up).run=some r→run f ar up=some r)→∀ar up r,(c d ar up).run=some r→run f ar up=some r
def en {run:zh} {s:Sg} {F:Cur (Option (Tup s.rs)) s.ks} (h:Ok run s F):Ent run:=⟨s.f,fun d ar up=>match s.mt ar up with
 |some a=> .opt (unc s.ks F a) fun r=> .done (s.Of r)
 |none=>d ar up,fun d hd ar up r hr=>by
  split at hr
  ·rename_i a ha
   obtain ⟨x,h1,h2⟩:=Tr.opt_some hr
   cases h2
   have h3:=h a x h1
   rw [(Sg.mt_ok ha).1,(Sg.mt_ok ha).2] at h3
   exact h3
  ·exact hd ar up r hr⟩
def zHC {run:zh}:List (Ent run)→zBx
 | [],_,_,_=> .fail
 |e::l,f,ar,up=>if e.f=f then e.c (zHC l f) ar up else zHC l f ar up
theorem zCo {run:zh}:∀l:List (Ent run),zDX (zHC l) run
 | [],f,ar,up,r,h=>by cases h
 |e::l,f,ar,up,r,h=>by
  simp only [zHC] at h
  split at h
  ·rename_i q
   subst q
   exact e.ok _ (fun ar up r h=>zCo l e.f ar up r h) ar up r h
  ·exact zCo l f ar up r h
structure Sg2 where
 f:FuncId
 A:List AV
 O1:AV
 O2:AV
def Sg2.Of (s:Sg2):Tup s.O1.lk⊕Tup s.O2.lk→Res
 | .inl r=>⟨(s.O1.fl (hvs _ r)).1,[],[]⟩
 | .inr r=>⟨(s.O2.fl (hvs _ r)).1,[],[]⟩
def zO {V R:Type} (B:V→Tr (V⊕R)):Nat→V→Option R
 |0,_=>none
 |m+1,v=>match (B v).run with
  |some (.inl v')=>zO B m v'
  |some (.inr r)=>some r
  |none=>none
def zJt {V R:Type} (sk:V→St) (D:R→Ex×St):V⊕R→Tr (Ex×St)
 | .inl v=> .done (.normal,sk v)
 | .inr r=> .done (D r)
def zJu (keep:List Nat) (zAC:List (Ex×List Nat)) (p:Ex×St×Kn):Tr (Ex×St):= .done (p.1,p.2.1.norm (if p.1= .normal then keep else zBz p.1 zAC))
abbrev LD:=Nat×List Nat×List (Ex×List Nat)×KCode
def zDT (mk:Nat) (c:KCode):LD:=match (zAA c).filter (fun x=>x.1==mk) with
 |x::_=>x
 | []=>(mk,[],[],.skip)
abbrev lb (mk:Nat) (c:KCode):KCode:=(zDT mk c).2.2.2
theorem zFD:∀{l:List LD} {x:LD},zBc (l.map (·.1))=true→x∈l→l.filter (fun y=>y.1==x.1)= [x]
 | [],x,_,h=>by cases h
 |y::l,x,hn,h=>by
  simp only [List.map_cons,zBc,Bool.and_eq_true,Bool.not_eq_true'] at hn
  have hne:∀z∈l,z.1≠y.1:=fun z hz e=>by
   have:(l.map (·.1)).contains y.1=true:=List.contains_iff_mem.2 (List.mem_map.2 ⟨z,hz,e⟩)
   rw [hn.1] at this
   cases this
  rcases List.mem_cons.1 h with rfl|h
  ·rw [List.filter_cons_of_pos (by simp),List.filter_eq_nil_iff.2 fun z hz=>by simpa using hne z hz]
  ·rw [List.filter_cons_of_neg (by simpa using (hne x h).symm)]
   exact zFD hn.2 h
section
variable {CT:zBx} {LT:zDW} {run:zh} {N:Nat}
theorem zGZ {V R:Type} {body:KCode} {keep:List Nat} {zAC:List (Ex×List Nat)} {sk:V→St} {B:V→Tr (V⊕R)} {D:R→Ex×St} (hC:zDX CT run) (hL:zGV LT run N body)
  (hT:∀v,(zAx CT LT body (sk v) []).bind (zJu keep zAC)=(B v).bind (zJt sk D)):
  ∀(m:Nat) (v:V) (r:R),(D r).1≠ .normal→zO B m v=some r→∃s0,zB4 (zm run N body) keep m (sk v)=some ((D r).1,s0)∧(D r).2=s0.norm (zBz (D r).1 zAC)
 |0,v,r,hD,h=>by simp [zO] at h
 |m+1,v,r,hD,h=>by
  have key:∀{x:V⊕R} {y:Ex×St},(B v).run=some x→(zJt sk D x).run=some y→∃s kn,zm run N body (sk v)=some (y.1,s)∧y.2=s.norm (if y.1= .normal then keep else zBz y.1 zAC):=fun {x y} hx hy=>by
   have h1:((B v).bind (zJt sk D)).run=some y:=by rw [Tr.run_bind,hx];exact hy
   rw [←hT v] at h1
   obtain ⟨⟨e,s,kn⟩,h2,h3⟩:=Tr.bind_some h1
   cases h3
   exact ⟨s,kn,(zDA hC body hL (fun n b hn=>by cases hn) h2).1,rfl⟩
  simp only [zO] at h
  split at h
  ·rename_i v' hv
   obtain ⟨s,kn,h1,h2⟩:=key (y:=(.normal,sk v')) hv rfl
   obtain ⟨s0,h3,h4⟩:=zGZ hC hL hT m v' r hD h
   simp only [if_true] at h2
   refine ⟨s0,?_,h4⟩
   simp only [zB4,h1,zG]
   rw [←h2]
   exact h3
  ·rename_i r' hr
   cases h
   obtain ⟨s,kn,h1,h2⟩:=key (y:=D r) hr rfl
   rw [if_neg hD] at h2
   refine ⟨s,?_,h2⟩
   simp only [zB4,h1,zG]
  ·cases h
def zLC (run:zh) (N:Nat) (x:LD) (q:St→Tr (Ex×St)):Prop:=
 ∀st e s,(q st).run=some (e,s)→∃s0,zB4 (zm run N x.2.2.2) x.2.1 N st=some (e,s0)∧s=s0.norm (zBz e x.2.2.1)
end
structure LEnt (c:KCode) (run:zh) (N:Nat) where
 key:Nat
 q:St→Tr (Ex×St)
 ok:zLC run N (zDT key c) q
def zIS {c:KCode} {run:zh} {N:Nat}:List (LEnt c run N)→zDW
 | [],_,_=> .fail
 |e::l,f,st=>if e.key=f then e.q st else zIS l f st
def zEW:Nat→KCode→Bool
 |0,c=>(zAA c).isEmpty
 |n+1,c=>zBc ((zAA c).map (·.1))&&(zAA c).all fun x=>zEW n x.2.2.2
abbrev Uniq (c:KCode):Prop:=∃n,zEW n c=true
theorem Uniq.nodup {c:KCode} (h:Uniq c):zBc ((zAA c).map (·.1))=true:=by
 obtain ⟨n,h⟩:=h
 cases n with
 |zero=>simp only [zEW,List.isEmpty_iff] at h;rw [h];rfl
 |succ n=>simp only [zEW,Bool.and_eq_true] at h;exact h.1
theorem Uniq.pick {c:KCode} (h:Uniq c) (mk:Nat):Uniq (lb mk c):=by
 obtain ⟨n,h⟩:=h
 unfold lb zDT
 split
 ·rename_i x r hx
  have hm:x∈zAA c:=(List.mem_filter.1 (by rw [hx];exact List.mem_cons_self ..)).1
  cases n with
  |zero=>simp only [zEW,List.isEmpty_iff] at h;rw [h] at hm;cases hm
  |succ n=>simp only [zEW,Bool.and_eq_true] at h;exact ⟨n,List.all_eq_true.1 h.2 x hm⟩
 ·exact ⟨0,rfl⟩
theorem zDh {c:KCode} {run:zh} {N:Nat} (hu:Uniq c):∀l:List (LEnt c run N),zGV (zIS l) run N c
 | [],mk,keep,zAC,b,hm,st,e,s,h=>by cases h
 |x::l,mk,keep,zAC,b,hm,st,e,s,h=>by
  simp only [zIS] at h
  split at h
  ·rename_i q
   have h1:zDT x.key c=(mk,keep,zAC,b):=by
    unfold zDT
    rw [q,zFD hu.nodup hm]
   have h2:=x.ok st e s h
   rw [h1] at h2
   exact h2
  ·exact zDh hu l mk keep zAC b hm st e s h
structure Lsk where
 S:St
 X:List (Ex×St)
abbrev RT:List (Ex×St)→Type
 | []=>Empty
 | [x]=>Tup x.2.lk
 |x::y::l=>Tup x.2.lk⊕RT (y::l)
def stf (s:St) (v:Tup s.lk):St:=s.fl (hvs s.lk v)
def Dx:(X:List (Ex×St))→RT X→Ex×St
 | [],r=>nomatch r
 | [x],r=>(x.1,stf x.2 r)
 |x::_::_,.inl r=>(x.1,stf x.2 r)
 |_::y::l,.inr r=>Dx (y::l) r
def dnx (x:Ex×St) (r:Tup x.2.lk):Tr (Ex×St):=match x.1 with
 | .normal=> .fail
 |e=> .done (e,stf x.2 r)
def DTx:(X:List (Ex×St))→RT X→Tr (Ex×St)
 | [],_=> .fail
 | [x],r=>dnx x r
 |x::y::l,r=> .alt r (fun a=>dnx x a) (fun b=>DTx (y::l) b)
theorem zJv {x:Ex×St} {r:Tup x.2.lk} {y:Ex×St} (h:(dnx x r).run=some y):y=(x.1,stf x.2 r)∧x.1≠ .normal:=by
 unfold dnx at h
 split at h
 ·cases h
 ·rename_i e he
  cases h
  exact ⟨rfl,fun hn=>he hn⟩
theorem zJw:∀{X:List (Ex×St)} {r:RT X} {y:Ex×St},(DTx X r).run=some y→y=Dx X r∧(Dx X r).1≠ .normal
 | [],r,y,h=>nomatch r
 | [x],r,y,h=>zJv h
 |x::z::l,.inl r,y,h=>zJv (x:=x) h
 |x::z::l,.inr r,y,h=>zJw (X:=z::l) h
def lq (L:Lsk) (B:Tup L.S.lk→Tr (Tup L.S.lk⊕RT L.X)) (N:Nat) (st:St):Tr (Ex×St):=match mtS L.S st with
 |some hs=>match unH L.S.lk hs with
  |some v=> .opt (zO B N v) (DTx L.X)
  |none=> .fail
 |none=> .fail
theorem zLR {run:zh} {N:Nat} {CT:zBx} {LT:zDW} {x:LD} {L:Lsk} {B:Tup L.S.lk→Tr (Tup L.S.lk⊕RT L.X)} (hC:zDX CT run) (hL:zGV LT run N x.2.2.2)
  (hT:∀v,(zAx CT LT x.2.2.2 (stf L.S v) []).bind (zJu x.2.1 x.2.2.1)=(B v).bind (zJt (stf L.S) (Dx L.X))):zLC run N x (lq L B N):=by
 intro st e s h
 unfold lq at h
 split at h
 ·rename_i hs hm
  split at h
  ·rename_i v hv
   obtain ⟨r,h1,h2⟩:=Tr.opt_some h
   obtain ⟨h3,hD⟩:=zJw h2
   obtain ⟨s0,h4,h5⟩:=zGZ hC hL hT N v r hD h1
   rw [←h3] at h4 h5
   have e:stf L.S v=st:=by
    unfold stf
    rw [zFg hv,zLB hm]
   rw [e] at h4
   exact ⟨s0,h4,h5⟩
  ·cases h
 ·cases h
def lu (CT:zBx) (LT:zDW) (x:LD):Nat→St→Tr (Ex×St)
 |0,_=> .fail
 |m+1,st=>(zAx CT LT x.2.2.2 st []).bind fun p=>match p.1 with
  | .normal=>lu CT LT x m (p.2.1.norm x.2.1)
  |e=> .done (e,p.2.1.norm (zBz e x.2.2.1))
theorem zKl {run:zh} {N:Nat} {CT:zBx} {LT:zDW} {x:LD} (hC:zDX CT run) (hL:zGV LT run N x.2.2.2):∀(m:Nat) (st:St) (e:Ex) (s:St),(lu CT LT x m st).run=some (e,s)→
  ∀M,m≤M→∃s0,zB4 (zm run N x.2.2.2) x.2.1 M st=some (e,s0)∧s=s0.norm (zBz e x.2.2.1)
 |0,st,e,s,h,M,hM=>by cases h
 |m+1,st,e,s,h,M,hM=>by
  obtain ⟨M,rfl⟩:∃q,M=q+1:=⟨M-1,by omega⟩
  simp only [lu] at h
  obtain ⟨⟨e1,s1,kn⟩,h1,h2⟩:=Tr.bind_some h
  have h3:=(zDA hC x.2.2.2 hL (fun n b hn=>by cases hn) h1).1
  simp only [zB4,h3,zG]
  cases e1 with
  |normal=>exact zKl hC hL m _ e s h2 M (by omega)
  |exit id=>cases h2;exact ⟨s1,rfl,rfl⟩
  |ret=>cases h2;exact ⟨s1,rfl,rfl⟩
def luq (CT:zBx) (LT:zDW) (x:LD) (k N:Nat) (st:St):Tr (Ex×St):= .ask (decide (k≤N)) (lu CT LT x k st) .fail
theorem zLD {run:zh} {N k:Nat} {CT:zBx} {LT:zDW} {x:LD} (hC:zDX CT run) (hL:zGV LT run N x.2.2.2):zLC run N x (luq CT LT x k N):=by
 intro st e s h
 obtain ⟨h1,h2⟩:=Tr.ask_yes h
 exact zKl hC hL k st e s h2 N h1
def kp (P:Program) (h:Hints) (but:List FuncId) (f:FuncId):Option KFun:=if but.contains f then none else match P.funcs[f]? with
 |none=>none
 | some fn => if fn.name == "runtime.NumGoroutine" then none else match zDb P h f fn with
  |none=>none
  |some kf=>if bnd (max fn.ntmps kf.params.length) kf.body&&zEW 9 kf.body then some kf else none
abbrev kg (P:Program) (h:Hints) (but:List FuncId) (f:FuncId):KFun:=(kp P h but f).getD default
section
variable {P:Program} {h:Hints} {but:List FuncId} {f:FuncId} {kf:KFun}
theorem zKm (e:kp P h but f=some kf):zBB P h f kf∧Uniq kf.body:=by
 unfold kp at e
 split at e
 ·cases e
 ·split at e
  ·cases e
  ·rename_i fn hf
   split at e
   ·cases e
   ·rename_i hn
    split at e
    ·cases e
    ·rename_i k hk
     split at e
     ·rename_i hb
      cases e
      simp only [Bool.and_eq_true] at hb
      exact ⟨⟨fn,hf,by simpa using hn,hk,hb.1⟩,9,hb.2⟩
     ·cases e
theorem zLE (e:(kp P h but f).isSome=true):kp P h but f=some (kg P h but f):=by
 obtain ⟨k,hk⟩:=Option.isSome_iff_exists.1 e
 rw [kg,hk]
 rfl
variable {lib:zh} {n N:Nat}
abbrev kb (P:Program) (h:Hints) (but:List FuncId) (f:FuncId):KCode:=(kg P h but f).body
def lok {c:KCode} {run:zh} (hu:Uniq c) (mk:Nat) (L:Lsk) (B:Tup L.S.lk→Tr (Tup L.S.lk⊕RT L.X)) (l:List (Ent run)) (ls:List (LEnt (lb mk c) run N))
  (ht:∀v,(zAx (zHC l) (zIS ls) (lb mk c) (stf L.S v) []).bind (zJu (zDT mk c).2.1 (zDT mk c).2.2.1)=(B v).bind (zJt (stf L.S) (Dx L.X))):LEnt c run N:=
 ⟨mk,lq L B N,zLR (zCo l) (zDh (hu.pick mk) ls) ht⟩
def lun {c:KCode} {run:zh} (hu:Uniq c) (mk k:Nat) (l:List (Ent run)) (ls:List (LEnt (lb mk c) run N)):LEnt c run N:=
 ⟨mk,luq (zHC l) (zIS ls) (zDT mk c) k N,zLD (zCo l) (zDh (hu.pick mk) ls)⟩
theorem zAO (f:FuncId):Uniq (kb P h but f):=by
 cases e:kp P h but f with
 |none=>rw [kb,kg,e];exact ⟨0,rfl⟩
 |some kf=>rw [kb,kg,e];exact (zKm e).2
theorem ok0 {run:zh} {s:Sg} {F:Cur (Option (Tup s.rs)) s.ks} (h:∀a,unc s.ks F a=none):Ok run s F:=fun a r e=>by rw [h a] at e;cases e
theorem stO {s:Sg} {F:Cur (Option (Tup s.rs)) s.ks} {T:Cur (Tr (Tup s.rs)) s.ks} (hk:(kp P h but s.f).isSome=true) (l:List (Ent (zB8 (kp P h but) lib n))) (ls:List (LEnt (kb P h but s.f) (zB8 (kp P h but) lib n) n))
  (ht:∀a,zKW (zHC l) (zIS ls) (kg P h but s.f) (s.Af a) (s.Uf a)=(unc s.ks T a).bind fun r=> .done (s.Of r)) (h1:∀a,unc s.ks F a=(unc s.ks T a).run):Ok (zB8 (kp P h but) lib (n+1)) s F:=fun a r e=>by
 rw [h1 a] at e
 exact zIR (zLE hk) (zCo l) (zDh (zAO s.f) ls) (by rw [ht a,Tr.run_bind,e];rfl)
end
end Go.Eng

