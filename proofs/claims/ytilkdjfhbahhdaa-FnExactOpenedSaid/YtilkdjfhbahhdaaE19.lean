import Derived.Test.YtilkdjfhbahhdaaE18
import Derived.Scope
import Derived.LoopN
set_option linter.unusedVariables false
set_option linter.unusedSimpArgs false
namespace Go.Eng
open Go.RowKit
section
variable {P:Program} {F F':Nat→Prop} {G:Nat→Option Obj} {N0:Base G} {T:Nat} {pl pl' pl0:Pl} {st st':St} {a:Act} {w w' w0:World} {fs fs':List Frame} {fr f':Frame} {up up' up0:List Frame} {Q:Exit→Act→World→Prop}
theorem zAn (h:Keep F (fr::up) (f'::up') pl pl' w w'):Keep F up up' pl pl' w w':=by
 have hl:up'.length=up.length:=by simpa using h.later.len
 refine ⟨h.step,hl,fun d n b hb=>?_,h.later.new⟩
 have hd:=zH hb
 obtain ⟨b',h1,h2,h3⟩:=h.later.blk d n b (by simp [zB,Nat.ne_of_lt hd,hb])
 exact ⟨b',by rw [←hl] at hd;simpa [zB,Nat.ne_of_lt hd] using h1,h2,h3⟩
theorem zC0 (dst:Option Nat) (v:AV) (t:List (Nat×AV)) (n:Nat):look n (zAy t dst v)=if dst=some n then some v else look n t:=by
 cases dst with
 |none=>simp [zAy]
 |some d=>simp [zAy,look]
theorem zCb (hr:Rel F N0 T pl st a w) {v:AV} {u:Value} (hp:Post F N0 pl st w v st' u w') {dst:Option Nat} (hd:∀d,dst=some d→d<T):
  ∃pl',Rel F N0 T pl' {st' with t:=zAy st'.t dst v} (a.put dst u) w'∧Keep F (st.fr::st.up) (st'.fr::st'.up) pl pl' w w':=by
 obtain ⟨⟨pl',h1,h2,h3⟩,h4⟩:=hp
 refine ⟨pl',⟨h2,fun n x hx=>?_,?_,?_,Nat.le_trans hr.low h3.step.size⟩,h3⟩
 ·rw [zC0] at hx
  split at hx
  ·rename_i e
   subst e
   cases hx
   have hn:=hd n rfl
   have:(a.put (some n) u).tmps.getD n undef=u:=by
    simp [Act.put,hr.size,hn]
   rw [this]
   exact h1
  ·rename_i e
   rw [h4] at hx
   have:(a.put dst u).tmps.getD n undef=a.tmps.getD n undef:=by
    cases dst with
    |none=>rfl
    |some d=>
     have hne:d≠n:=fun h=>e (by rw [h])
     simp [Act.put,Array.getD_eq_getD_getElem?,Array.getElem?_setIfInBounds,hne]
   rw [this]
   exact h3.repA (hr.tmps n x hx)
 ·cases dst<;>simp [Act.put,hr.size]
 ·cases dst<;>simp [Act.put,hr.defers]
structure Inv (F:Nat→Prop) {G:Nat→Option Obj} (N0:Base G) (T:Nat) (up0:List Frame) (pl0:Pl) (w0:World) (pl:Pl) (st:St) (a:Act) (w:World):Prop where
 rel:Rel F N0 T pl st a w
 keep:KeepU up0 st.up pl0 pl w0 w
theorem zFQ {o:Oper} {next:Act→World→Prop} (h:o.wp P a w next (fun _ _ _=>False)):o.wp P a w next Q:=by
 unfold Oper.wp at*
 generalize (execOp a.eval o).run P w=r at*
 cases r with
 |ok n w'=>
  cases n<;>simp only [Oper.upon] at h⊢<;>first|exact h|skip
  exact h.mono fun e w'' he=>by
   cases e with
   |returned v=>exact he
   |panicked c=>exact he.elim
   |outgrown=>obtain ⟨_,_,h⟩:=he;exact h.elim
 |halt x w'=>
  cases x<;>simp only [Oper.upon] at h<;>first|exact h|exact h.elim
theorem zD3 {run:zh} (hS:zA5 G P run) {h:Hints} {self:FuncId} {all:Array Oper}:∀(ops:List Oper) (ks:List KOper) {pl:Pl} {st st':St} {a:Act} {w:World},
  (ops.mapM fun o=>(zAm P h self o).bind fun k=>match o.guard with
   |none=>some (⟨o.dst,k,none⟩:KOper)
   |some (j,want)=>((all[j]?).bind (·.dst)).map fun t=>⟨o.dst,k,some (t,want)⟩)=some ks→
  (∀o∈ks,∀d,o.dst=some d→d<T)→zA0 run ks st=some st'→Inv F N0 T up0 pl0 w0 pl st a w→
  (∀pl' a' w',Inv F N0 T up0 pl0 w0 pl' st' a' w'→Q .normal a' w')→wpList P all Q ops a w
 | [],ks,pl,st,st',a,w,hc,hb,he,hi,hQ=>by
  simp only [List.mapM_nil,Option.pure_def,zM] at hc
  subst hc
  simp only [zA0,zM] at he
  subst he
  exact hQ _ _ _ hi
 |o::ops,ks,pl,st,st',a,w,hc,hb,he,hi,hQ=>by
  simp only [List.mapM_cons,Option.pure_def,Option.bind_eq_bind,zN,zM] at hc
  obtain ⟨ko,⟨k,hk,hg⟩,ks',hks,rfl⟩:=hc
  simp only [zA0,zN] at he
  obtain ⟨st1,he1,he2⟩:=he
  have rest:∀{pl1:Pl} {a1:Act} {w1:World},Inv F N0 T up0 pl0 w0 pl1 st1 a1 w1→wpList P all Q ops a1 w1:=fun hi1=>
   zD3 hS ops ks' hks (fun o ho=>hb o (List.mem_cons_of_mem _ ho)) he2 hi1 hQ
  have hbd:∀d,ko.dst=some d→d<T:=hb ko (List.mem_cons_self ..)
  have act:∀{v:AV} {st2:St},zC run st (ko.dst.getD 0) k=some (v,st2)→ko.dst=o.dst→st1={st2 with t:=zAy st2.t ko.dst v}→o.wp P a w (wpList P all Q ops) Q:=by
   intro v st2 hev hdst hst
   refine zFQ (zKi hS hk hi.rel hev _ fun u w' hp=>?_)
   obtain ⟨pl1,h1,h2⟩:=zCb hi.rel hp hbd
   rw [hdst] at h1 hst
   subst hst
   exact rest ⟨h1,hi.keep.trans (zAn h2).u⟩
  cases hgd:o.guard with
  |none=>
   rw [hgd] at hg
   simp only [zM] at hg
   subst hg
   simp only [zQ,zL] at he1
   obtain ⟨⟨v,st2⟩,hev,rfl⟩:=he1
   unfold wpList
   rw [if_pos (by simp [Region.wanted,hgd])]
   exact .inl (act hev rfl rfl)
  |some jw=>
   obtain ⟨j,want⟩:=jw
   rw [hgd] at hg
   simp only [zL] at hg
   obtain ⟨t,ht,rfl⟩:=hg
   simp only [zQ] at he1
   split at he1
   ·rename_i x hx
    have hrep:=hi.rel.tmps t _ hx
    have hval:=zDr hrep
    have hy:yielded all a.tmps j=some x:=by
     unfold yielded
     rw [ht]
     have:a.tmps[t]?=some (.bool x):=by
      rw [Array.getD_eq_getD_getElem?] at hval
      cases hq:a.tmps[t]? with
      |none=>rw [hq] at hval;simp [undef] at hval
      |some q=>rw [hq] at hval;simpa using hval
     simp [this]
    unfold wpList
    split at he1
    ·rename_i hxw
     subst hxw
     simp only [zL] at he1
     obtain ⟨⟨v,st2⟩,hev,rfl⟩:=he1
     rw [if_pos (by simp [Region.wanted,hgd,hy])]
     exact .inl (act hev rfl rfl)
    ·rename_i hxw
     cases he1
     rw [if_neg (by simp [Region.wanted,hgd,hy];exact hxw)]
     obtain ⟨pl1,h1,h2⟩:=zCb (v:= .tup []) (u:=undef) hi.rel ⟨⟨pl,⟨[],rfl,rfl,fun i u c hu=>by simp at hu⟩,hi.rel.mem,Keep.refl⟩,rfl⟩ hbd
     exact rest ⟨h1,hi.keep.trans (zAn h2).u⟩
   ·rename_i hx
    have hy:yielded all a.tmps j≠some want:=by
     obtain ⟨us,hu,hl,_⟩:=hi.rel.tmps t _ hx
     have hus:us= []:=zAQ hl
     subst hus
     unfold yielded
     rw [ht]
     rw [Array.getD_eq_getD_getElem?] at hu
     cases hq:a.tmps[t]? with
     |none=>simp [hq]
     |some q=>rw [hq] at hu;simp at hu;subst hu;simp [hq]
    unfold wpList
    cases he1
    rw [if_neg (by simp [Region.wanted,hgd];exact hy)]
    obtain ⟨pl1,h1,h2⟩:=zCb (v:= .tup []) (u:=undef) hi.rel ⟨⟨pl,⟨[],rfl,rfl,fun i u c hu=>by simp at hu⟩,hi.rel.mem,Keep.refl⟩,rfl⟩ hbd
    exact rest ⟨h1,hi.keep.trans (zAn h2).u⟩
   ·cases he1
end
end Go.Eng

