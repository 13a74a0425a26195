import Derived.Test.YtilkdjfhbahhdaaE3
import Derived.Tactics
import Derived.Maps.AppendAt
import Derived.WalkKit
import Derived.WideLaws
set_option linter.unusedVariables false
set_option linter.unusedSimpArgs false
namespace Go.Eng
structure Rel (F:Nat→Prop) {G:Nat→Option Obj} (N0:Base G) (T:Nat) (pl:Pl) (st:St) (a:Act) (w:World):Prop where
 mem:MemOK F N0 (st.fr::st.up) pl w
 tmps:∀n v,look n st.t=some v→zd F (st.fr::st.up) pl w (a.tmps.getD n undef) v
 size:a.tmps.size=T
 defers:a.defers= []
 low:N0.n≤w.heap.size
section
variable {P:Program} {F:Nat→Prop} {G:Nat→Option Obj} {N0:Base G} {T:Nat} {pl:Pl} {st:St} {a:Act} {w:World} {fs:List Frame}
theorem zIm {v:Value} {x:PV} (h:zGg v=some x) {own:Nat→Prop}:RepP own w v x:=by
 unfold zGg at h
 split at h<;>first|(cases h;constructor;done)|cases h
theorem zGk {v:Value} {x:CV} (h:zIa v=some x):zAM F fs pl w v x∧v.oneCell'=true:=by
 unfold zIa at h
 split at h
 ·cases h;exact ⟨rfl,rfl⟩
 ·obtain ⟨y,hy,rfl⟩:=Option.map_eq_some_iff.1 h
  have:=zIm (w:=w) (own:=Own F pl) hy
  exact ⟨this,this.one.1⟩
theorem zAG {α β:Type} {f:α→Option β}:∀{l:List α} {r:List β},l.mapM f=some r→r.length=l.length∧∀(i:Nat) x y,l[i]?=some x→r[i]?=some y→f x=some y
 | [],r,h=>by simp at h;subst h;simp
 |x::l,r,h=>by
  simp only [List.mapM_cons,Option.pure_def,Option.bind_eq_bind,zN,zM] at h
  obtain ⟨y,hy,ys,hys,rfl⟩:=h
  obtain ⟨h1,h2⟩:=zAG hys
  refine ⟨by simp [h1],fun i a b ha hb=>?_⟩
  cases i with
  |zero=>simp at ha hb;subst ha;subst hb;exact hy
  |succ i=>exact h2 i a b (by simpa using ha) (by simpa using hb)
theorem zJ4 {us:List Value} {cs:List CV} (h:us.mapM zIa=some cs):zK F fs pl w us cs:=by
 obtain ⟨h1,h2⟩:=zAG h
 exact ⟨h1.symm,fun i u c hu hc=>⟨(zGk (h2 i u c hu hc)).1,.inr (zGk (F:=F) (fs:=fs) (pl:=pl) (w:=w) (h2 i u c hu hc)).2⟩⟩
theorem zIn {v:Value} {x:AV} (h:zJz v=some x):zd F fs pl w v x:=by
 unfold zJz at h
 split at h
 ·rename_i cs
  obtain ⟨y,hy,rfl⟩:=Option.map_eq_some_iff.1 h
  exact ⟨cs.toList,by simp,zJ4 hy⟩
 ·cases h;trivial
 ·obtain ⟨y,hy,rfl⟩:=Option.map_eq_some_iff.1 h
  exact (zGk hy).1
theorem zD (hr:Rel F N0 T pl st a w) {x:Operand} {k:KX} (h:kx x=some k):zd F (st.fr::st.up) pl w (a.eval x) (st.eval k):=by
 cases x with
 |tmp t=>
  simp only [kx,zM] at h
  subst h
  simp only [St.eval,Act.eval]
  split
  ·exact hr.tmps _ _ ‹_›
  ·trivial
 |const v=>
  simp only [kx] at h
  obtain ⟨y,hy,rfl⟩:=Option.map_eq_some_iff.1 h
  exact zIn hy
 |func f=>
  simp only [kx,zM] at h
  subst h
  exact ⟨[],rfl,rfl,fun i u c hu=>by simp at hu⟩
 |global g=>simp [kx] at h
structure Post (F:Nat→Prop) {G:Nat→Option Obj} (N0:Base G) (pl:Pl) (st:St) (w:World) (v:AV) (st':St) (u:Value) (w':World):Prop where
 ex:∃pl',zd F (st'.fr::st'.up) pl' w' u v∧MemOK F N0 (st'.fr::st'.up) pl' w'∧Keep F (st.fr::st.up) (st'.fr::st'.up) pl pl' w w'
 t:st'.t=st.t
def Runs1 (P:Program) (o:Oper) (a:Act) (w:World) (R:Value→World→Prop):Prop:=
 ∀next:Act→World→Prop,(∀u w',R u w'→next (a.put o.dst u) w')→o.wp P a w next (fun _ _ _=>False)
theorem zU {o:Oper} {R:Value→World→Prop} {u:Value} {w':World} (h:(execOp a.eval o).run P w= .ok (.value u) w') (hr:R u w'):Runs1 P o a w R:=by
 intro next hn
 unfold Oper.wp
 rw [h]
 exact hn u w' hr
def Grow (w w':World):Prop:=w.heap.size≤w'.heap.size∧∀k,k<w.heap.size→w'.heap[k]?=w.heap[k]?
def KeepB (S:Nat→Prop) (w w':World):Prop:=w.heap.size≤w'.heap.size∧∀k,k<w.heap.size→S k→w'.heap[k]?=w.heap[k]?
theorem KeepB.refl (S:Nat→Prop) (w:World):KeepB S w w:=⟨Nat.le_refl _,fun _ _ _=>rfl⟩
theorem KeepB.trans {S:Nat→Prop} {w w' w'':World} (h:KeepB S w w') (h':KeepB S w' w''):KeepB S w w'':=
 ⟨Nat.le_trans h.1 h'.1,fun k hk hs=>(h'.2 k (Nat.lt_of_lt_of_le hk h.1) hs).trans (h.2 k hk hs)⟩
theorem KeepB.sub {S S':Nat→Prop} {w w':World} (h:KeepB S w w') (hs:∀k,S' k→S k):KeepB S' w w':=⟨h.1,fun k hk hk'=>h.2 k hk (hs k hk')⟩
theorem Grow.keepB {w w':World} (h:Grow w w') (S:Nat→Prop):KeepB S w w':=⟨h.1,fun k hk _=>h.2 k hk⟩
def noB:Nat→Prop:=fun _=>False
def Runs2 (P:Program) (S:Nat→Prop) (o:Oper) (a:Act) (w:World) (R:Value→World→Prop):Prop:=
 ∃u,R u w∧∀w',KeepB S w w'→(execOp a.eval o).run P w'= .ok (.value u) w'
theorem Grow.refl (w:World):Grow w w:=⟨Nat.le_refl _,fun _ _=>rfl⟩
theorem zT {S:Nat→Prop} {o:Oper} {R:Value→World→Prop} {u:Value} (h:∀w',KeepB S w w'→(execOp a.eval o).run P w'= .ok (.value u) w') (hr:R u w):Runs2 P S o a w R:=⟨u,hr,h⟩
theorem Runs2.r1 {S:Nat→Prop} {o:Oper} {R:Value→World→Prop} (h:Runs2 P S o a w R):Runs1 P o a w R:=by
 obtain ⟨u,h1,h2⟩:=h
 exact zU (h2 w (KeepB.refl S w)) h1
theorem Runs2.sub {S S':Nat→Prop} {o:Oper} {R:Value→World→Prop} (h:Runs2 P S o a w R) (hs:∀k,S k→S' k):Runs2 P S' o a w R:=by
 obtain ⟨u,h1,h2⟩:=h
 exact ⟨u,h1,fun w' hk=>h2 w' (hk.sub hs)⟩
theorem Runs1.mono {o:Oper} {R R':Value→World→Prop} (h:Runs1 P o a w R) (hr:∀u w',R u w'→R' u w'):Runs1 P o a w R':=fun next hn=>h next fun u w' h'=>hn u w' (hr u w' h')
def zFo (F:Nat→Prop) {G:Nat→Option Obj} (N0:Base G) (pl:Pl) (st:St) (w:World) (v:AV) (st':St) (u:Value) (w':World):Prop:=Post F N0 pl st w v st' u w'∧Grow w w'
theorem zBC (w:World) (o:Obj):Grow w {w with heap:=w.heap.push o}:=⟨by simp,fun k hk=>by simp [Array.getElem?_push,Nat.ne_of_lt hk]⟩
theorem zI {v:AV} {u:Value} (hr:Rel F N0 T pl st a w) (h:zd F (st.fr::st.up) pl w u v):Post F N0 pl st w v st u w:=
 ⟨⟨pl,h,hr.mem,Keep.refl⟩,rfl⟩
theorem zIo {o:Oper} {x:Operand} {k:KX} (ho:o.op= .move x∨o.op= .assign x) (hx:kx x=some k) (hr:Rel F N0 T pl st a w):
  Runs2 P noB o a w (Post F N0 pl st w (st.eval k) st):=by
 refine zT (u:=a.eval x) (fun w' hg'=>?_) (zI hr (zD hr hx))
 rcases ho with ho|ho<;>simp [execOp,ho]
theorem zDr {v:Value} {x:Bool} (h:zd F fs pl w v (.c (.p (.b x)))):v= .bool x:=by cases h;rfl
theorem zIp {v:Value} {k:IntKind} {x:Int} (h:zd F fs pl w v (.c (.p (.i k x)))):v= .int k x:=by cases h;rfl
theorem zHK {v:Value} {x:ByteArray} (h:zd F fs pl w v (.c (.p (.s x)))):v= .string x:=by cases h;rfl
theorem zJ5 {o:Oper} {c x y:Operand} {kc ka kb:KX} (ho:o.op= .pick c x y) (hc:kx c=some kc) (hx:kx x=some ka) (hy:kx y=some kb) (hr:Rel F N0 T pl st a w) {t:Bool} (hb:st.eval kc= .c (.p (.b t))):
  Runs2 P noB o a w (Post F N0 pl st w (if t then st.eval ka else st.eval kb) st):=by
 have h1:=zD hr hc
 rw [hb] at h1
 have h2:=zDr h1
 refine zT (u:=if t then a.eval x else a.eval y) (fun w' hg'=>?_) (zI hr ?_)
 ·simp [execOp,ho,h2,asBool]
 ·cases t
  ·exact zD hr hy
  ·exact zD hr hx
theorem zIq {op:BinOp} {k:IntKind} {x y:Int} {r:PV} {t:TypeId} (h:zFE op k x y=some r):∃u,(∀w,(binOp op t (.int k x) (.int k y)).run P w= .ok u w)∧∀own w,RepP own w u r:=by
 cases op<;>simp only [zFE] at h
 case add=>cases h;exact ⟨_,fun w=>by simp [binOp,Op.intArith],fun _ _=> .i _ _⟩
 case sub=>cases h;exact ⟨_,fun w=>by simp [binOp,Op.intArith],fun _ _=> .i _ _⟩
 case mul=>cases h;exact ⟨_,fun w=>by simp [binOp,Op.intArith],fun _ _=> .i _ _⟩
 case quo=>
  split at h
  ·cases h
  ·rename_i h0
   cases h;exact ⟨_,fun w=>by simp [binOp,Op.intDiv,h0],fun _ _=> .i _ _⟩
 case rem=>
  split at h
  ·cases h
  ·rename_i h0
   cases h;exact ⟨_,fun w=>by simp [binOp,Op.intDiv,h0],fun _ _=> .i _ _⟩
 case shl=>
  split at h
  ·cases h
  ·rename_i h0
   cases h;exact ⟨_,fun w=>by simp [binOp,Op.shift,h0],fun _ _=> .i _ _⟩
 case shr=>
  split at h
  ·cases h
  ·rename_i h0
   cases h;exact ⟨_,fun w=>by simp [binOp,Op.shift,h0],fun _ _=> .i _ _⟩
 case and=>cases h;exact ⟨.int k (k.wrap (BitVec.ofInt k.bits x&&&BitVec.ofInt k.bits y).toNat),fun w=>by simp [binOp,Op.intBits],fun _ _=> .i _ _⟩
 case or=>cases h;exact ⟨.int k (k.wrap (BitVec.ofInt k.bits x|||BitVec.ofInt k.bits y).toNat),fun w=>by simp [binOp,Op.intBits],fun _ _=> .i _ _⟩
 case xor=>cases h;exact ⟨.int k (k.wrap (BitVec.ofInt k.bits x^^^BitVec.ofInt k.bits y).toNat),fun w=>by simp [binOp,Op.intBits],fun _ _=> .i _ _⟩
 case eql=>cases h;exact ⟨_,fun w=>by simp [binOp,Op.intCmp],fun _ _=> .b _⟩
 case neq=>cases h;exact ⟨_,fun w=>by simp [binOp,Op.intCmp],fun _ _=> .b _⟩
 case lss=>cases h;exact ⟨_,fun w=>by simp [binOp,Op.intCmp],fun _ _=> .b _⟩
 case leq=>cases h;exact ⟨_,fun w=>by simp [binOp,Op.intCmp],fun _ _=> .b _⟩
 case gtr=>cases h;exact ⟨_,fun w=>by simp [binOp,Op.intCmp],fun _ _=> .b _⟩
 case geq=>cases h;exact ⟨_,fun w=>by simp [binOp,Op.intCmp],fun _ _=> .b _⟩
 all_goals cases h
theorem zIr {op:BinOp} {x y:ByteArray} {r:PV} {t:TypeId} (h:zIU op x y=some r):∃u,(∀w,(binOp op t (.string x) (.string y)).run P w= .ok u w)∧∀own w,RepP own w u r:=by
 cases op<;>simp only [zIU] at h
 case add=>
  split at h
  ·rename_i h0
   cases h
   refine ⟨.string (x++y),fun w=>?_,fun _ _=> .s _⟩
   have:¬(((x.size+y.size:Nat):Int)>IntKind.i64.max):=by
    show ¬(((x.size+y.size:Nat):Int)>9223372036854775807)
    omega
   simp only [binOp,Op.stringOp]
   rw [if_neg this]
   rfl
  ·cases h
 case eql=>cases h;exact ⟨_,fun w=>by simp [binOp,Op.stringOp],fun _ _=> .b _⟩
 case neq=>cases h;exact ⟨_,fun w=>by simp [binOp,Op.stringOp],fun _ _=> .b _⟩
 case lss=>cases h;exact ⟨_,fun w=>by simp [binOp,Op.stringOp],fun _ _=> .b _⟩
 case leq=>cases h;exact ⟨_,fun w=>by simp [binOp,Op.stringOp],fun _ _=> .b _⟩
 case gtr=>cases h;exact ⟨.bool (!(Op.bytesLess x.toList y.toList||x.toList==y.toList)),fun w=>by simp only [binOp,Op.stringOp];rfl,fun _ _=> .b _⟩
 case geq=>cases h;exact ⟨_,fun w=>by simp [binOp,Op.stringOp],fun _ _=> .b _⟩
 all_goals cases h
end
end Go.Eng

