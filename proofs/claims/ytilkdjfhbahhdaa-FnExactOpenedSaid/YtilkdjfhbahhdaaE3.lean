import Derived.Test.YtilkdjfhbahhdaaE2
import Derived.Below
import Derived.Calls
import Derived.RowKit3
import Derived.Laws.AppendOwn
set_option linter.unusedVariables false
namespace Go.Eng
inductive RepP (own:Nat→Prop) (w:World):Value→PV→Prop
 |b (x:Bool):RepP own w (.bool x) (.b x)
 |i (k:IntKind) (n:Int):RepP own w (.int k n) (.i k n)
 |s (x:ByteArray):RepP own w (.string x) (.s x)
 |nif:RepP own w .nilIface .nif
 |ifc (t:TypeId) (v:Value):RepP own w (.iface t v) .ifc
 |nl:RepP own w (.slice none 0 0) .nl
 |nls:RepP own w (.slice none 0 0) (.ls [])
 |op (v:Value) (h1:v.oneCell'=true):RepP own w v .op
 |np:RepP own w (.pointer none) .np
 |ls {a:Addr} {n c sz:Nat} {rows:List (List PV)} (val:Nat→Nat→Value) (hl:rows.length=n) (hc:n≤c) (hn:n≤maxLen) (ho:rows≠ []→¬own a.block∧a.block<w.heap.size)
   (hcell:∀j e,rows[j]?=some e→e.length=sz∧∀o x,e[o]?=some x→w.cell? (a.add (j*sz+o))=some (val j o))
   (hrep:∀j e o x,rows[j]?=some e→e[o]?=some x→RepP own w (val j o) x):RepP own w (.slice (some a) n c) (.ls rows)
theorem RepP.step {own own':Nat→Prop} {w w':World} (hb:∀k,k<w.heap.size→¬own k→w'.heap[k]?=w.heap[k]?) (hs:w.heap.size≤w'.heap.size) (ho':∀k,own' k→own k∨w.heap.size≤k) {v:Value} {x:PV} (h:RepP own w v x):RepP own' w' v x:=by
 induction h with
 |b x=>exact .b x
 |i k n=>exact .i k n
 |s x=>exact .s x
 |nif=>exact .nif
 |ifc t v=>exact .ifc t v
 |nl=>exact .nl
 |nls=>exact .nls
 |op v h1=>exact .op v h1
 |np=>exact .np
 | @ls a n c sz rows val hl hc hn ho hcell hrep ih=>
  refine .ls (sz:=sz) val hl hc hn (fun hr=>?_) (fun j e he=>?_) ih
  ·obtain ⟨h1,h2⟩:=ho hr
   exact ⟨fun h3=>(ho' _ h3).elim h1 (fun h4=>by omega),by omega⟩
  ·have hr:rows≠ []:=by rintro rfl;simp at he
   obtain ⟨h1,h2⟩:=ho hr
   obtain ⟨h3,h4⟩:=hcell j e he
   refine ⟨h3,fun o x hx=>?_⟩
   rw [←h4 o x hx]
   exact World.cell?_of_block (by
    have:(a.add (j*sz+o)).block=a.block:=by unfold Addr.add;split<;>rfl
    rw [this]
    exact hb _ h2 h1)
theorem RepP.weak {own:Nat→Prop} {w:World} {v:Value} {x:PV} (h:RepP own w v x):RepP own w v x.weak:=by
 cases h<;>first|exact .nls|(constructor;done)|exact .op _ ‹_› |exact .ls _ ‹_› ‹_› ‹_› ‹_› ‹_› ‹_›
theorem RepP.one {own:Nat→Prop} {w:World} {v:Value} {x:PV} (h:RepP own w v x):v.oneCell'=true∧v.cells= #[v]:=by
 cases h<;>first|exact ⟨rfl,rfl⟩|(rename_i h1;exact ⟨h1,by cases v<;>first|rfl|cases h1⟩)
abbrev Pc:=Nat→Option (Nat×Nat)
abbrev Pl:=Nat→Nat→Pc
def nop:Pc:=fun _=>none
def one (b s:Nat):Pc:=fun j=>if j=0 then some (b,s) else none
theorem zFn (b s:Nat):one b s 0=some (b,s):=rfl
theorem zAE {b s j:Nat} {x:Nat×Nat} (h:one b s j=some x):j=0∧x=(b,s):=by
 unfold one at h
 split at h
 ·rename_i e;exact ⟨e,(Option.some.inj h).symm⟩
 ·cases h
def Ext (p p':Pc):Prop:=p' 0=p 0∧∀j x,p j=some x→p' j=some x
theorem Ext.refl (p:Pc):Ext p p:=⟨rfl,fun _ _ h=>h⟩
theorem Ext.of {p p':Pc} (h:p'=p):Ext p p':=h▸Ext.refl p
theorem Ext.trans {p p' p'':Pc} (h:Ext p p') (h':Ext p' p''):Ext p p'':=⟨h'.1.trans h.1,fun j x hx=>h'.2 j x (h.2 j x hx)⟩
def Own (F:Nat→Prop) (pl:Pl) (k:Nat):Prop:=F k∨∃d n j s,pl d n j=some (k,s)
def RepR (F:Nat→Prop) (pl:Pl) (w:World) (v:Value) (row:List PV) (o:Nat):Prop:=
 ∃a:Addr,v= .pointer (some (a.add o))∧(row≠ []→(∀d n j s,pl d n j≠some (a.block,s))∧a.block<w.heap.size)∧∀i x,row[i]?=some x→∃u,w.cell? (a.add i)=some u∧RepP (Own F pl) w u x
theorem RepR.step {F F':Nat→Prop} {pl pl':Pl} {w w':World} {v:Value} {row:List PV} {o:Nat} (h:RepR F pl w v row o) (hs:w.heap.size≤w'.heap.size) (hb:∀k,k<w.heap.size→(∀d n j s,pl d n j≠some (k,s))→w'.heap[k]?=w.heap[k]?)
  (hn:∀k d n j s,pl' d n j=some (k,s)→(∃d0 n0 j0 s0,pl d0 n0 j0=some (k,s0))∨w.heap.size≤k) (hP:∀{u x},RepP (Own F pl) w u x→RepP (Own F' pl') w' u x):RepR F' pl' w' v row o:=by
 obtain ⟨a,h1,h2,h3⟩:=h
 refine ⟨a,h1,fun hr=>?_,fun i x hx=>?_⟩
 ·obtain ⟨h4,h5⟩:=h2 hr
  refine ⟨fun d n j s h6=>?_,Nat.lt_of_lt_of_le h5 hs⟩
  rcases hn _ d n j s h6 with ⟨d0,n0,j0,s0,h7⟩|h7
  ·exact h4 d0 n0 j0 s0 h7
  ·omega
 ·obtain ⟨u,h4,h5⟩:=h3 i x hx
  refine ⟨u,?_,hP h5⟩
  obtain ⟨h6,h7⟩:=h2 (by rintro rfl;simp at hx)
  rw [←h4]
  exact World.cell?_of_block (by
   have:(a.add i).block=a.block:=by unfold Addr.add;split<;>rfl
   rw [this]
   exact hb _ h7 h6)
theorem RepR.same {F F':Nat→Prop} {pl pl':Pl} {w:World} {v:Value} {row:List PV} {o:Nat} (h:RepR F pl w v row o) (hn:∀k d n j s,pl' d n j=some (k,s)→∃d0 n0 j0 s0,pl d0 n0 j0=some (k,s0)) (hP:∀{u x},RepP (Own F pl) w u x→RepP (Own F' pl') w u x):RepR F' pl' w v row o:=
 h.step (Nat.le_refl _) (fun _ _ _=>rfl) (fun k d n j s h=> .inl (hn k d n j s h)) hP
def zBK (F:Nat→Prop) (fs:List Frame) (pl:Pl) (w:World):Value→Cap→Prop
 |v,.p x=>RepP (Own F pl) w v x
 |v,.ptr d n g=>v.oneCell'=true∧∃B,zB d n fs=some B∧g≤B.g∧(g=B.g→∃b s,pl d n 0=some (b,s)∧v= .pointer (some ⟨b,0,none⟩))
 |v,.rp row=>RepR F pl w v row 0
def zAM (F:Nat→Prop) (fs:List Frame) (pl:Pl) (w:World):Value→CV→Prop
 |v,.p x=>RepP (Own F pl) w v x
 |v,.own d n g m=>v.oneCell'=true∧∃B,zB d n fs=some B∧g≤B.g∧(g=B.g→
   (v= .slice none 0 0∧m=0∧pl d n 0=none)∨∃b s cap,pl d n 0=some (b,s)∧v= .slice (some ⟨b,0,none⟩) m cap∧s=cap*B.sz∧m≤cap∧cap≤maxLen)
 |v,.ptr d n g j o=>v.oneCell'=true∧∃B,zB d n fs=some B∧g≤B.g∧(g=B.g→∃b s,pl d n 0=some (b,s)∧((o≠KO∧v= .pointer (some ⟨b,j*B.sz+o,none⟩))∨(o=KO∧(v= .pointer none∨v= .pointer (some ⟨b,0,none⟩)))))
 |v,.rp row o=>RepR F pl w v row o
 |v,.sub d n g j o m esz=>v.oneCell'=true∧∃B,zB d n fs=some B∧g≤B.g∧(g=B.g→
   (v= .slice none 0 0∧m=0)∨∃b s cap,pl d n (j*B.sz+o+1)=some (b,s)∧v= .slice (some ⟨b,0,none⟩) m cap∧s=cap*esz∧m≤cap∧cap≤maxLen)
 |v,.fn f caps=>∃vals:List Value,v= .func (.func f) #[] vals.toArray∧vals.length=caps.length∧∀(i:Nat) u c,vals[i]?=some u→caps[i]?=some c→zBK F fs pl w u c
 |v,.nfn=>v= .nilFunc
 |_,.u=>True
def zK (F:Nat→Prop) (fs:List Frame) (pl:Pl) (w:World) (us:List Value) (cs:List CV):Prop:=
 us.length=cs.length∧∀(i:Nat) u c,us[i]?=some u→cs[i]?=some c→zAM F fs pl w u c∧(c= .u∨u.oneCell'=true)
def zd (F:Nat→Prop) (fs:List Frame) (pl:Pl) (w:World):Value→AV→Prop
 |v,.c x=>zAM F fs pl w v x
 |v,.agg cs=>∃us:List Value,v= .agg us.toArray∧zK F fs pl w us cs
 |v,.tup vs=>∃us:List Value,v= .tuple us.toArray∧us.length=vs.length∧∀(i:Nat) u c,us[i]?=some u→vs[i]?=some c→
   (c.1=true∧∃ys:List Value,u= .agg ys.toArray∧zK F fs pl w ys c.2)∨(c.1=false∧∃x,c.2= [x]∧zAM F fs pl w u x)
def DeepP (F:Nat→Prop) (w:World) (pl:Pl) (q:Option (Nat×Nat)) (esz:Nat) (ety:TypeId) (v:Value) (x:PV):Prop:=
 ((x= .nl∨x= .ls [])∧v= .slice none 0 0∧q=none)∨∃inner b s cap us,x= .ls inner∧q=some (b,s)∧v= .slice (some ⟨b,0,none⟩) inner.length cap∧s=cap*esz∧inner.length≤cap∧cap≤maxLen∧
  w.heap[b]?=some (.cells us ety (0,0))∧us.size=s∧(∀e∈inner,e.length=esz)∧∀j e o y,inner[j]?=some e→e[o]?=some y→∃u,us[j*esz+o]?=some u∧RepP (Own F pl) w u y
def DCell (F:Nat→Prop) (w:World) (pl:Pl) (p:Pc) (cols:List (Nat×Nat×TypeId)) (sz j o:Nat) (v:Value) (x:PV):Prop:=
 match look o cols with
 |some q=>DeepP F w pl (p (j*sz+o+1)) q.1 q.2 v x
 |none=>RepP (Own F pl) w v x
def zY (F:Nat→Prop) (fs:List Frame) (pl:Pl) (w:World) (d n:Nat) (B:Blk):Prop:=
 match B.k with
 | .box cells=>∃b us,pl d n=one b cells.length∧w.heap[b]?=some (.cells us B.ty (0,0))∧zK F fs pl w us.toList cells∧∀c∈cells,c.dep d=true
 | .row rows=>(rows= []∧pl d n=nop)∨∃b s us,pl d n=one b s∧w.heap[b]?=some (.cells us B.ty (0,0))∧us.size=s∧rows.length*B.sz≤s∧
   (∀e∈rows,e.length=B.sz)∧∀j e o x,rows[j]?=some e→e[o]?=some x→∃v,us[j*B.sz+o]?=some v∧RepP (Own F pl) w v x
 | .deep cols rows=>(rows= []∧pl d n=nop)∨∃b s us,pl d n 0=some (b,s)∧w.heap[b]?=some (.cells us B.ty (0,0))∧us.size=s∧rows.length*B.sz≤s∧
   (∀e∈rows,e.length=B.sz)∧(∀j e o x,rows[j]?=some e→e[o]?=some x→∃v,us[j*B.sz+o]?=some v∧DCell F w pl (pl d n) cols B.sz j o v x)∧∀c,rows.length*B.sz≤c→pl d n (c+1)=none
 | .dead=>pl d n=nop
structure Base (G:Nat→Option Obj) where
 n:Nat
structure MemOK (F:Nat→Prop) {G:Nat→Option Obj} (N0:Base G) (fs:List Frame) (pl:Pl) (w:World):Prop where
 live:∀d n j b s,pl d n j=some (b,s)→N0.n≤b∧b<w.heap.size∧¬F b∧∃B,zB d n fs=some B
 inj:∀d n j d' n' j' b s s',pl d n j=some (b,s)→pl d' n' j'=some (b,s')→d=d'∧n=n'∧j=j'
 blk:∀d n B,zB d n fs=some B→zY F fs pl w d n B
 fsz:∀k,F k→k<w.heap.size
 fix:∀k o,G k=some o→k<N0.n∧w.heap[k]?=some o
theorem zAr {F:Nat→Prop} {G:Nat→Option Obj} {N0:Base G} {fs:List Frame} {pl:Pl} {w w':World} (hm:MemOK F N0 fs pl w) (hs:∀k,k<w.heap.size→(∀d n j s,pl d n j≠some (k,s))→w'.heap[k]?=w.heap[k]?):
  ∀k o,G k=some o→k<N0.n∧w'.heap[k]?=some o:=fun k o h=>by
 obtain ⟨h1,h2⟩:=hm.fix k o h
 exact ⟨h1,(hs k (Array.getElem?_eq_some_iff.1 h2).1 (fun d n j s hp=>by have h3:N0.n≤k:=(hm.live d n j k s hp).1;omega)).trans h2⟩
structure Step (pl:Pl) (w w':World):Prop where
 os:w'.os=w.os
 tape:w'.tape=w.tape
 output:w'.output=w.output
 size:w.heap.size≤w'.heap.size
 block:∀k,k<w.heap.size→(∀d n j s,pl d n j≠some (k,s))→w'.heap[k]?=w.heap[k]?
structure Later (fs fs':List Frame) (pl pl':Pl) (B:Nat):Prop where
 len:fs'.length=fs.length
 blk:∀d n b,zB d n fs=some b→∃b',zB d n fs'=some b'∧b.g≤b'.g∧(b'.g=b.g→Ext (pl d n) (pl' d n)∧b'.sz=b.sz)
 new:∀d n j b s,pl' d n j=some (b,s)→(∃d0 n0 j0 s0,pl d0 n0 j0=some (b,s0))∨B≤b
theorem Step.refl (pl:Pl) (w:World):Step pl w w:=⟨rfl,rfl,rfl,Nat.le_refl _,fun _ _ _=>rfl⟩
theorem Step.trans {pl pl':Pl} {w w' w'':World} {fs fs':List Frame} (h:Step pl w w') (hl:∀d n j b s,pl' d n j=some (b,s)→(∃d0 n0 j0 s0,pl d0 n0 j0=some (b,s0))∨w.heap.size≤b) (h':Step pl' w' w''):Step pl w w'':=
 ⟨h'.os.trans h.os,h'.tape.trans h.tape,h'.output.trans h.output,Nat.le_trans h.size h'.size,fun k hk hn=>by
  rw [h'.block k (Nat.lt_of_lt_of_le hk h.size) (fun d n j s hp=>by
   rcases hl d n j k s hp with ⟨d0,n0,j0,s0,h0⟩|h0
   ·exact hn d0 n0 j0 s0 h0
   ·omega),h.block k hk hn]⟩
theorem Later.refl (fs:List Frame) (pl:Pl) (B:Nat):Later fs fs pl pl B:=⟨rfl,fun d n b h=>⟨b,h,Nat.le_refl _,fun _=>⟨Ext.refl _,rfl⟩⟩,fun d n j b s h=> .inl ⟨d,n,j,s,h⟩⟩
theorem Later.trans {fs fs' fs'':List Frame} {pl pl' pl'':Pl} {B B':Nat} (h:Later fs fs' pl pl' B) (h':Later fs' fs'' pl' pl'' B') (hB:B≤B'):Later fs fs'' pl pl'' B:=
 ⟨h'.len.trans h.len,fun d n b hb=>by
  obtain ⟨b1,h1,h2,h3⟩:=h.blk d n b hb
  obtain ⟨b2,h4,h5,h6⟩:=h'.blk d n b1 h1
  refine ⟨b2,h4,Nat.le_trans h2 h5,fun e=>?_⟩
  have e1:b1.g=b.g:=by omega
  obtain ⟨p1,s1⟩:=h3 e1
  obtain ⟨p2,s2⟩:=h6 (by omega)
  exact ⟨p1.trans p2,s2.trans s1⟩,fun d n j b s hp=>by
  rcases h'.new d n j b s hp with ⟨d0,n0,j0,s0,h0⟩|h0
  ·exact h.new d0 n0 j0 b s0 h0
  ·exact .inr (by omega)⟩
section
variable {F:Nat→Prop} {fs fs':List Frame} {pl pl':Pl} {w w':World}
structure Keep (F:Nat→Prop) (fs fs':List Frame) (pl pl':Pl) (w w':World):Prop where
 step:Step pl w w'
 later:Later fs fs' pl pl' w.heap.size
theorem Keep.repP (h:Keep F fs fs' pl pl' w w') {v:Value} {x:PV} (hr:RepP (Own F pl) w v x):RepP (Own F pl') w' v x:=
 hr.step (fun k hk hn=>h.step.block k hk (fun d n j s hp=>hn (.inr ⟨d,n,j,s,hp⟩))) h.step.size (fun k hk=>by
  rcases hk with hk|⟨d,n,j,s,hk⟩
  ·exact .inl (.inl hk)
  ·rcases h.later.new d n j k s hk with h0|h0
   ·exact .inl (.inr h0)
   ·exact .inr h0)
theorem Keep.repR (h:Keep F fs fs' pl pl' w w') {v:Value} {row:List PV} {o:Nat} (hr:RepR F pl w v row o):RepR F pl' w' v row o:=
 hr.step h.step.size h.step.block (fun k d n j s hp=>h.later.new d n j k s hp) h.repP
theorem Keep.repCap (h:Keep F fs fs' pl pl' w w') {v:Value} {c:Cap} (hr:zBK F fs pl w v c):zBK F fs' pl' w' v c:=by
 cases c with
 |p x=>exact h.repP hr
 |ptr d n g=>
  obtain ⟨h0,B,h1,h2,h3⟩:=hr
  obtain ⟨B',h4,h5,h6⟩:=h.later.blk d n B h1
  refine ⟨h0,B',h4,Nat.le_trans h2 h5,fun e=>?_⟩
  obtain ⟨p1,_⟩:=h6 (by omega)
  rw [p1.1]
  exact h3 (by omega)
 |rp row=>exact h.repR hr
theorem Keep.repC (h:Keep F fs fs' pl pl' w w') {v:Value} {c:CV} (hr:zAM F fs pl w v c):zAM F fs' pl' w' v c:=by
 cases c with
 |p x=>exact h.repP hr
 |own d n g m=>
  obtain ⟨h0,B,h1,h2,h3⟩:=hr
  obtain ⟨B',h4,h5,h6⟩:=h.later.blk d n B h1
  refine ⟨h0,B',h4,Nat.le_trans h2 h5,fun e=>?_⟩
  obtain ⟨p1,p2⟩:=h6 (by omega)
  rw [p1.1,p2]
  exact h3 (by omega)
 |ptr d n g j o=>
  obtain ⟨h0,B,h1,h2,h3⟩:=hr
  obtain ⟨B',h4,h5,h6⟩:=h.later.blk d n B h1
  refine ⟨h0,B',h4,Nat.le_trans h2 h5,fun e=>?_⟩
  obtain ⟨p1,p2⟩:=h6 (by omega)
  rw [p1.1,p2]
  exact h3 (by omega)
 |rp row o=>exact h.repR hr
 |sub d n g j o m esz=>
  obtain ⟨h0,B,h1,h2,h3⟩:=hr
  obtain ⟨B',h4,h5,h6⟩:=h.later.blk d n B h1
  refine ⟨h0,B',h4,Nat.le_trans h2 h5,fun e=>?_⟩
  obtain ⟨p1,p2⟩:=h6 (by omega)
  rcases h3 (by omega) with h7|⟨b,s,cap,h7,h8⟩
  ·exact .inl h7
  ·exact .inr ⟨b,s,cap,by rw [p2];exact p1.2 _ _ h7,h8⟩
 |fn f caps=>
  obtain ⟨vals,h1,h2,h3⟩:=hr
  exact ⟨vals,h1,h2,fun i u c hu hc=>h.repCap (h3 i u c hu hc)⟩
 |nfn=>exact hr
 |u=>trivial
theorem Keep.repCs (h:Keep F fs fs' pl pl' w w') {us:List Value} {cs:List CV} (hr:zK F fs pl w us cs):zK F fs' pl' w' us cs:=
 ⟨hr.1,fun i u c hu hc=>⟨h.repC (hr.2 i u c hu hc).1,(hr.2 i u c hu hc).2⟩⟩
theorem Keep.repA (h:Keep F fs fs' pl pl' w w') {v:Value} {a:AV} (hr:zd F fs pl w v a):zd F fs' pl' w' v a:=by
 cases a with
 |c x=>exact h.repC hr
 |agg cs=>
  obtain ⟨us,h1,h2⟩:=hr
  exact ⟨us,h1,h.repCs h2⟩
 |tup vs=>
  obtain ⟨us,h1,h2,h3⟩:=hr
  refine ⟨us,h1,h2,fun i u c hu hc=>?_⟩
  rcases h3 i u c hu hc with ⟨e,ys,h4,h5⟩|⟨e,x,h4,h5⟩
  ·exact .inl ⟨e,ys,h4,h.repCs h5⟩
  ·exact .inr ⟨e,x,h4,h.repC h5⟩
theorem Keep.refl:Keep F fs fs pl pl w w:=⟨Step.refl _ _,Later.refl _ _ _⟩
theorem Keep.trans {fs'':List Frame} {pl'':Pl} {w'':World} (h:Keep F fs fs' pl pl' w w') (h':Keep F fs' fs'' pl' pl'' w' w''):Keep F fs fs'' pl pl'' w w'':=
 ⟨h.step.trans (fs:=fs) (fs':=fs') h.later.new h'.step,h.later.trans h'.later h.step.size⟩
structure LaterU (fs fs':List Frame) (pl pl':Pl) (B:Nat):Prop where
 len:fs'.length=fs.length
 blk:∀d n b,zB d n fs=some b→∃b',zB d n fs'=some b'∧(b'.g=0→b.g=0∧Ext (pl d n) (pl' d n)∧b'.sz=b.sz)
 new:∀d n j b s,pl' d n j=some (b,s)→(∃d0 n0 j0 s0,pl d0 n0 j0=some (b,s0))∨B≤b
structure KeepU (fs fs':List Frame) (pl pl':Pl) (w w':World):Prop where
 step:Step pl w w'
 later:LaterU fs fs' pl pl' w.heap.size
theorem Keep.u (h:Keep F fs fs' pl pl' w w'):KeepU fs fs' pl pl' w w':=
 ⟨h.step,h.later.len,fun d n b hb=>by
  obtain ⟨b',h1,h2,h3⟩:=h.later.blk d n b hb
  exact ⟨b',h1,fun e=>by
   have e1:b'.g=b.g:=by omega
   obtain ⟨p1,p2⟩:=h3 e1
   exact ⟨by omega,p1,p2⟩⟩,h.later.new⟩
theorem KeepU.refl:KeepU fs fs pl pl w w:=(Keep.refl (F:=fun _=>False)).u
theorem KeepU.trans {fs'':List Frame} {pl'':Pl} {w'':World} (h:KeepU fs fs' pl pl' w w') (h':KeepU fs' fs'' pl' pl'' w' w''):KeepU fs fs'' pl pl'' w w'':=
 ⟨h.step.trans (fs:=fs) (fs':=fs') h.later.new h'.step,h'.later.len.trans h.later.len,fun d n b hb=>by
  obtain ⟨b1,h1,h2⟩:=h.later.blk d n b hb
  obtain ⟨b2,h3,h4⟩:=h'.later.blk d n b1 h1
  refine ⟨b2,h3,fun e=>?_⟩
  obtain ⟨e1,p1,s1⟩:=h4 e
  obtain ⟨e2,p2,s2⟩:=h2 e1
  exact ⟨e2,p2.trans p1,s1.trans s2⟩,fun d n j b s hp=>by
  rcases h'.later.new d n j b s hp with ⟨d0,n0,j0,s0,h0⟩|h0
  ·exact h.later.new d0 n0 j0 b s0 h0
  ·have:=h.step.size
   exact .inr (by omega)⟩
end
end Go.Eng

