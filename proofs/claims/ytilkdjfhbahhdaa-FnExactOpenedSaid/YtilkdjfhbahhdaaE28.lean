import Derived.Test.YtilkdjfhbahhdaaE27
set_option linter.unusedVariables false
set_option linter.unusedSimpArgs false
namespace Go.Eng
open Go.RowKit Go.WideShapes
section
variable {run run':zh}
theorem zAc {α β:Type} {x x':Option α} {f f':α→Option β} {b:β} (hx:∀a,x=some a→x'=some a) (hf:∀a b,f a=some b→f' a=some b) (h:x.bind f=some b):x'.bind f'=some b:=by
 obtain ⟨a,h1,h2⟩:=Option.bind_eq_some_iff.1 h
 rw [hx a h1]
 exact hf a b h2
theorem zGN (hr:∀f a u r,run f a u=some r→run' f a u=some r) {st:St} {dst:Nat} {bo:Bool} {f:FuncId} {args:List AV} {x:AV×St} (h:zAq run st dst bo f args=some x):zAq run' st dst bo f args=some x:=by
 unfold zAq at h⊢
 split at h
 ·rename_i hb
  rw [if_pos hb]
  refine zAc (fun a h=>h) (fun p b h1=>?_) h
  exact zAc (fun r h2=>hr _ _ _ _ h2) (fun r b h2=>h2) h1
 ·rename_i hb
  rw [if_neg hb]
  refine zAc (fun a h=>h) (fun p b h1=>?_) h
  exact zAc (fun r h2=>hr _ _ _ _ h2) (fun r b h2=>h2) h1
theorem zGO (hr:∀f a u r,run f a u=some r→run' f a u=some r) {st:St} {dst:Nat} {k:KOp} {x:AV×St} (h:zC run st dst k=some x):zC run' st dst k=some x:=by
 cases k
 case call bo f args=>
  simp only [zC] at h⊢
  split at h
  ·rename_i g caps hg
   exact zGN hr h
  ·cases h
 case callN f args=>
  simp only [zC] at h⊢
  split at h
  ·rename_i g caps hg
   cases hq:args.map st.eval++caps.map Cap.av with
   |nil=>rw [hq] at h;cases h
   |cons a0 r=>
    rw [hq] at h
    simp only [callN] at h⊢
    refine zAc (fun a h=>h) (fun p b h1=>?_) h
    refine zAc (fun a h=>h) (fun p b h1=>?_) h1
    exact zAc (fun r h2=>hr _ _ _ _ h2) (fun r b h2=>h2) h1
  ·cases h
 case len s x=>cases s<;>exact h
 all_goals exact h
end
def zE6:List (Bool×List Sh)→List (List PV)→Prop
 | [],[]=>True
 |h::l,x::r=>okR h.2 x∧zE6 l r
 |_,_=>False
def zJZ:Bool→List PV→AV
 |true,xs=> .agg (xs.map .p)
 |false,[x]=> .c (.p x)
 |false,_=> .c .u
def zC5:List (Bool×List Sh)→List (List PV)→List AV
 |h::l,x::r=>zJZ h.1 x::zC5 l r
 |_,_=> []
def zJa (P:Program) (ts:List TypeId):Option (List (Bool×List Sh)):=ts.mapM fun t=>(zFU P 20 t).map fun l=>(zGi P t,l)
section
variable {P:Program} {w:World} {H:Type} {enc:TypeId×Value→H} {base:Nat}
theorem zK5 (k:Nat):¬Own zBV zAY k:=fun h=>h.elim (fun h=>h) (fun ⟨_,_,_,_,h⟩=>by cases h)
theorem zJb {u:Value} {x:PV} (h:RepP zBV w u x):RepP (Own zBV zAY) w u x:=h.step (fun _ _ _=>rfl) (Nat.le_refl _) (fun k hk=>absurd hk (zK5 k))
theorem zJc {t:TypeId} {v:Value} {d:DataW H} {ps:List MemPlace} {l:List Sh} (hl:zFU P 20 t=some l) (hv:Value.okWide P w .any base t v) (h:DataW.Trod enc P w 0 (fun _=>true) true t v d ps) (hw:(d.weights P t).all (· ≤reachBytes)=true):
  ∃xs,okR l xs∧zd zBV [] zAY w v (zJZ (zGi P t) xs):=by
 obtain ⟨m,hm⟩:=h
 obtain ⟨xs,h1,h2⟩:=zJY 20 t l hl m _ _ hm hw
 refine ⟨xs,h1,?_⟩
 have one:∀{v:Value},v.cells.toList= [v]→Reps w v.cells.toList xs→zd zBV [] zAY w v (zJZ false xs):=fun {v} e h=>by
  rw [e] at h
  match xs,h with
  | [x],h=>exact zJb (h.2 0 _ _ rfl rfl)
  | [],h=>exact trivial
  |_::_::_,h=>exact trivial
 unfold zFU at hl
 split at hl
 ·rename_i ht
  obtain ⟨b,rfl⟩:=okWide_bool ht hv
  simp only [zGi,ht]
  exact one rfl h2
 ·rename_i k ht
  obtain ⟨b,rfl⟩:=okWide_int ht hv
  simp only [zGi,ht]
  exact one rfl h2
 ·rename_i ht
  obtain ⟨b,rfl⟩:=okWide_string ht hv
  simp only [zGi,ht]
  exact one rfl h2
 ·rename_i e ht
  obtain ⟨a,len,cap,rfl⟩:=okWide_slice ht hv
  simp only [zGi,ht]
  exact one rfl h2
 ·rename_i fs ht
  obtain ⟨cs,rfl,_⟩:=okWide_struct ht hv
  simp only [zGi,ht]
  refine ⟨cs.toList,by simp,⟨by rw [List.length_map];exact h2.1,fun i u c hu hc=>?_⟩⟩
  rw [List.getElem?_map] at hc
  obtain ⟨x,hx,rfl⟩:=Option.map_eq_some_iff.1 hc
  have hr:=h2.2 i u x hu hx
  exact ⟨zJb hr,.inr hr.one.1⟩
 ·cases hl
theorem open_args:∀{ts:List TypeId} {vs:List Value} {ds gs:List (DataW H)} {ps:List MemPlace} {tl:List TypeId} {shs:List (Bool×List Sh)},zJa P ts=some shs→DataW.TrodAll enc P w 0 (fun _=>true) true ts vs ds ps→
  (∀(j:Nat) t v,ts[j]?=some t→vs[j]?=some v→Value.okWide P w .any base t v)→(DataW.weightsEach P (ts++tl) (ds++gs)).all (· ≤reachBytes)=true→
  ∃xss,zE6 shs xss∧zAW zBV [] zAY w vs (zC5 shs xss)
 | [],[],[],gs,ps,tl,shs,hs,_,_,_=>by
  simp [zJa] at hs
  subst hs
  exact ⟨[],trivial,by simp [zC5,zAW]⟩
 |t::ts,v::vs,d::ds,gs,ps,tl,shs,hs,⟨p,q,h1,h2,_⟩,hv,hw=>by
  simp only [zJa,List.mapM_cons,Option.pure_def,Option.bind_eq_bind,zN,zM,zL] at hs
  obtain ⟨s0,⟨l,hl,rfl⟩,shs',hs',rfl⟩:=hs
  simp only [List.cons_append,DataW.weightsEach,List.all_append,Bool.and_eq_true] at hw
  obtain ⟨xs,o1,r1⟩:=zJc hl (hv 0 t v rfl rfl) h1 hw.1
  obtain ⟨xss,o2,r2⟩:=open_args hs' h2 (fun j t v ht hv'=>hv (j+1) t v (by simpa using ht) (by simpa using hv')) hw.2
  refine ⟨xs::xss,⟨o1,o2⟩,by simp [zC5,r2.1],fun i u x hu hx=>?_⟩
  cases i with
  |zero=>cases hu;cases hx;exact r1
  |succ i=>exact r2.2 i u x (by simpa using hu) (by simpa [zC5] using hx)
theorem zFV {G:Nat→Option Obj} {KP:FuncId→Option KFun} {lib:zh} {h:Hints} (hK:∀f kf,KP f=some kf→zBB P h f kf) (hL:zHk G P lib) {f:FuncId} (hf:(KP f).isSome=true) {n:Nat} {vals:Array Value} {args:List AV}
  (hr:zB8 KP lib n f args []=some ⟨.c (.p (.b true)),[],[]⟩) (ha:zAW zBV [] zAY w vals.toList args) (hG:∀k o,G k=some o→w.heap[k]?=some o):Calls P f vals w (fun e w'=>e= .returned (.bool true)∧Below w.heap.size w w'):=by
 have hg:=zG2 hK hL n f args [] _ hr zBV (⟨w.heap.size⟩:Base G) zAY w vals.toList ⟨fun d n j b s h=>(by cases h),fun d n j d' n' j' b s s' h=>(by cases h),fun d n B hB=>(by cases hB),fun k (hk:False)=>hk.elim,fun k o h=>⟨(Array.getElem?_eq_some_iff.1 (hG k o h)).1,hG k o h⟩⟩ (Nat.le_refl _) ha
 obtain ⟨kf,hkf⟩:=Option.isSome_iff_exists.1 hf
 obtain ⟨fn,hfn,hname,hcomp,_⟩:=hK f kf hkf
 simp only [zDb,zN,zL] at hcomp
 obtain ⟨c,hbd,_⟩:=hcomp
 obtain ⟨body,hbody⟩:∃b,fn.body=some b:=by
  cases hq:fn.body with
  |some b=>exact ⟨b,rfl⟩
  |none=>simp [zDq,zBJ,hq] at hbd
 have hn : ¬ fn.name = "runtime.NumGoroutine" := by simpa using hname
 rcases hg with ⟨u,w',h1,_⟩|⟨_,h2⟩
 ·simp [callFunc,hfn,hn,hbody] at h1
 ·refine h2.mono fun e w' ⟨u,he,hok⟩=>?_
  obtain ⟨⟨pl',r1,_,r3⟩,_,_⟩:=hok
  subst he
  have r1:RepP _ w' u (.b true):=r1
  cases r1
  exact ⟨rfl,r3.step.os,r3.step.tape,r3.step.output,r3.step.size,fun k hk=>r3.step.block k hk (fun _ _ _ _ h=>by cases h)⟩
theorem law_calls {KP:FuncId→Option KFun} {lib:zh} {h:Hints} (hK:∀f kf,KP f=some kf→zBB P h f kf) (hL:zHk (fun _=>none) P lib) {f:FuncId} (hf:(KP f).isSome=true) {n:Nat} {vals:Array Value} {args:List AV}
  (hr:zB8 KP lib n f args []=some ⟨.c (.p (.b true)),[],[]⟩) (ha:zAW zBV [] zAY w vals.toList args):Calls P f vals w (fun e w'=>e= .returned (.bool true)∧Below w.heap.size w w'):=
 zFV hK hL hf hr ha (fun _ _ h=>by cases h)
end
end Go.Eng

