import Derived.Test.YthhngmnbcmkhpaaGreatDoorE19
import Derived.Still
set_option linter.unusedVariables false
set_option linter.unusedSimpArgs false
namespace Go.Eng
open Go.RowKit
theorem Grow.trans {w w' w'':World} (h:Grow w w') (h':Grow w' w''):Grow w w'':=
 ⟨Nat.le_trans h.1 h'.1,fun k hk=>(h'.2 k (Nat.lt_of_lt_of_le hk h.1)).trans (h.2 k hk)⟩
section
variable {P:Program} {ops:Array Oper} {md:Region.Mode} {kp:Nat→Nat→Prop} {a:Act} {w:World}
def stepF (P:Program) (ops:Array Oper) (i:Nat) (K:Act→World→Prop) (a:Act) (w:World):Prop:=
 match ops[i]? with
 |none=>K a w
 |some o=>if Region.wanted o (yielded ops a.tmps) then o.wp P a w K (fun _ _ _=>False) else K (a.put o.dst undef) w
theorem zDX {i:Nat} {K K':Act→World→Prop} (h:∀a w,K a w→K' a w) (hh:stepF P ops i K a w):stepF P ops i K' a w:=by
 unfold stepF at*
 split
 ·exact h _ _ (by simpa [*] using hh)
 ·rename_i o ho
  simp only [ho] at hh
  split
  ·rename_i hw;simp only [hw,if_true] at hh;exact Oper.wp_mono h hh
  ·rename_i hw;simp only [hw] at hh;exact h _ _ hh
def zFr (P:Program) (md:Region.Mode) (ops:Array Oper) (kp:Nat→Nat→Prop) (Q:Act→World→Prop):Nat→Array Bool→Act→World→Prop
 |0,listed,a,w=>Region.ready md ops listed= []∧Q a w
 |fuel+1,listed,a,w=>(Region.ready md ops listed= []→Q a w)∧
  ∀i∈Region.ready md ops listed,stepF P ops i (fun a' w'=>KeepB (kp i) w w'∧zFr P md ops kp Q fuel (listed.setIfInBounds i true) a' w') a w
theorem zBf {Q:Act→World→Prop} {Q':Exit→Act→World→Prop} (hQ:∀a w,Q a w→Q' .normal a w):∀(fuel:Nat) (listed:Array Bool) (a:Act) (w:World),zFr P md ops kp Q fuel listed a w→wpAny P md ops Q' fuel listed a w
 |0,_,_,_,h=>⟨h.1,hQ _ _ h.2⟩
 |fuel+1,listed,a,w,h=>⟨fun h0=>hQ _ _ (h.1 h0),fun i hi=>by
  have h1:=zDX (K':=wpAny P md ops Q' fuel (listed.setIfInBounds i true)) (fun a' w' h2=>zBf hQ fuel _ a' w' h2.2) (h.2 i hi)
  unfold stepF at h1
  unfold wpOp
  cases ho:ops[i]? with
  |none=>simp only [ho] at h1⊢;exact h1
  |some o=>
   simp only [ho] at h1⊢
   split
   ·rename_i hw
    simp only [hw,if_true] at h1
    exact .inl (zGO h1)
   ·rename_i hw
    simp only [hw] at h1
    exact h1⟩
def YieldsW (P:Program) (ops:Array Oper) (S:Nat→Prop) (o:Oper) (v:Value) (a:Act) (w:World):Prop:=
 (Region.wanted o (yielded ops a.tmps)=true∧∀w',KeepB S w w'→(execOp a.eval o).run P w'= .ok (.value v) w')∨
 (Region.wanted o (yielded ops a.tmps)=false∧v=undef)
theorem YieldsW.stepF {S:Nat→Prop} {i:Nat} {o:Oper} {v:Value} (hi:ops[i]?=some o) (hy:YieldsW P ops S o v a w) {K:Act→World→Prop} (h:K (a.put o.dst v) w):stepF P ops i K a w:=by
 unfold Eng.stepF
 simp only [hi]
 rcases hy with ⟨hw,hv⟩|⟨hw,rfl⟩
 ·simp only [hw,if_true,Oper.wp,hv w (KeepB.refl S w),Oper.upon];exact h
 ·simp only [hw,Bool.false_eq_true,if_false];exact h
theorem YieldsW.later {S:Nat→Prop} {o:Oper} {v:Value} {w':World} (hy:YieldsW P ops S o v a w) (hg:KeepB S w w'):YieldsW P ops S o v a w':=by
 rcases hy with ⟨hw,hv⟩|hy
 ·exact .inl ⟨hw,fun w'' h=>hv w'' (hg.trans h)⟩
 ·exact .inr hy
theorem zGj {S:Nat→Prop} {j:Nat} {oi oj:Oper} {v:Value} (hj:ops[j]?=some oj) (hap:oi.apart ops oj=true) (hsi:∀cs b,oi.op≠ .select cs b) (hsj:∀cs b,oj.op≠ .select cs b) {K:Act→World→Prop}
  (hy:YieldsW P ops S oi v a w) (hgr:∀a' w',K a' w'→KeepB S w w') (h:stepF P ops j K (a.put oi.dst v) w):
  stepF P ops j (fun a' w'=>YieldsW P ops S oi v a' w'∧K (a'.put oi.dst v) w') a w:=by
 obtain ⟨h1,h2,h3⟩:=Oper.apart_spec hap
 have keep:∀u w',KeepB S w w'→YieldsW P ops S oi v (a.put oj.dst u) w':=fun u w' hg=>by
  have:=hy.later hg
  unfold YieldsW at*
  rw [execOp_put oi hsi a oj.dst u h3,wanted_put oi a oj.dst u h3]
  exact this
 unfold stepF at*
 simp only [hj] at*
 rw [wanted_put oj a oi.dst v h1] at h
 split
 ·rename_i hw
  simp only [hw,if_true] at h
  unfold Oper.wp at*
  rw [execOp_put oj hsj a oi.dst v h1] at h
  have fin:∀u w',K ((a.put oi.dst v).put oj.dst u) w'→YieldsW P ops S oi v (a.put oj.dst u) w'∧K ((a.put oj.dst u).put oi.dst v) w':=fun u w' hk=>
   ⟨keep u w' (hgr _ _ hk),by rw [←Act.put_comm a v u h2];exact hk⟩
  generalize (execOp a.eval oj).run P w=r at*
  cases r with
  |ok n w'=>
   cases n<;>simp only [Oper.upon] at h⊢
   case value u=>exact fin u w' h
   case skip=>exact fin _ w' h
   case enter f args=>
    exact h.mono fun e w'' he=>by
     cases e with
     |returned u=>exact fin u w'' he
     |panicked c=>exact he
     |outgrown=>obtain ⟨_,_,h⟩:=he;exact h.elim
   case row f args=>exact h.mono fun u w'' he=>fin u w'' he
   case defer d=>
    rw [Act.put_defers a oi.dst v d,Act.put_comm _ v undef h2] at h
    have h4:=keep undef w' (hgr _ _ h)
    refine ⟨?_,h⟩
    cases hd:oj.dst<;>rw [hd] at h4<;>exact h4
  |halt x w'=>cases x<;>simp only [Oper.upon] at h⊢
 ·rename_i hw
  simp only [hw] at h
  exact ⟨keep _ _ (hgr _ _ h),by rw [←Act.put_comm a v undef h2];exact h⟩
theorem zDY {Q:Act→World→Prop} {S:Nat→Prop} {i:Nat} {oi:Oper} {v:Value} {late:Nat→Bool} (hi:ops[i]?=some oi) (hsel:∀(j:Nat) (o:Oper) cs b,ops[j]?=some o→o.op≠ .select cs b)
  (hlate:∀j oj,ops[j]?=some oj→late j=true→∃e∈oj.after,Region.binds md e=true∧(e.on=i∨late e.on=true)):
  ∀(fuel:Nat) (listed:Array Bool) (a:Act) (w:World),
   (∀j oj,ops[j]?=some oj→j≠i→listed.getD j true=false→(∀e∈oj.after,Region.binds md e=true→e.on≠i)→oi.apart ops oj=true)→
   (∀j,late j=true→listed.getD j false=false)→(∀j,j≠i→listed.getD j true=false→late j=false→∀b,S b→kp j b)→
   i∈Region.ready md ops listed→YieldsW P ops S oi v a w→
   zFr P md ops kp Q fuel (listed.setIfInBounds i true) (a.put oi.dst v) w→zFr P md ops kp Q (fuel+1) listed a w:=by
 intro fuel
 induction fuel with
 |zero=>
  intro listed a w _ _ _ hr hy H
  refine ⟨fun h=>(by rw [h] at hr;cases hr),fun j hj=>?_⟩
  by_cases hji:j=i
  ·subst hji;exact hy.stepF hi ⟨KeepB.refl _ w,H⟩
  ·have:=ready_mono hj hji
   rw [H.1] at this
   cases this
 |succ fuel ih=>
  intro listed a w hfree hlt hrd hr hy H
  refine ⟨fun h=>(by rw [h] at hr;cases hr),fun j hj=>?_⟩
  by_cases hji:j=i
  ·subst hji;exact hy.stepF hi ⟨KeepB.refl _ w,H⟩
  ·have h1:=H.2 j (ready_mono hj hji)
   obtain ⟨hjun,oj,hoj,hall⟩:=mem_ready.1 hj
   have hiun:listed.getD i false=false:=by
    have h0:=(mem_ready.1 hr).1
    rcases Nat.lt_or_ge i listed.size with h'|h'
    ·simpa [h'] using h0
    ·simp [Array.getElem?_eq_none h'] at h0
   have hnot:∀e∈oj.after,Region.binds md e=true→e.on≠i:=fun e he hb heq=>by
    have h2:=hall e he hb
    rw [heq,hiun] at h2
    cases h2
   have hjl:late j=false:=by
    cases hq:late j with
    |false=>rfl
    |true=>
     obtain ⟨e,he,hb,h2⟩:=hlate j oj hoj hq
     have h3:=hall e he hb
     rcases h2 with h2|h2
     ·exact absurd h2 (hnot e he hb)
     ·rw [hlt _ h2] at h3;cases h3
   have h2:=zGj hoj (hfree j oj hoj hji hjun hnot) (fun cs b=>hsel i oi cs b hi) (fun cs b=>hsel j oj cs b hoj) hy (fun a' w' hk=>hk.1.sub (hrd j hji hjun hjl)) h1
   have hfree':∀k ok,ops[k]?=some ok→k≠i→(listed.setIfInBounds j true).getD k true=false→
     (∀e∈ok.after,Region.binds md e=true→e.on≠i)→oi.apart ops ok=true:=fun k ok hk hki hun hno=>by
    refine hfree k ok hk hki ?_ hno
    by_cases hjk:j=k
    ·subst hjk;exact hjun
    ·rw [getD_set_ne true hjk] at hun;exact hun
   have hlt':∀k,late k=true→(listed.setIfInBounds j true).getD k false=false:=fun k hk=>by
    have hjk:j≠k:=fun e=>by rw [e,hk] at hjl;cases hjl
    rw [getD_set_ne false hjk]
    exact hlt k hk
   have hrd':∀k,k≠i→(listed.setIfInBounds j true).getD k true=false→late k=false→∀b,S b→kp k b:=fun k hki hun hkl=>by
    refine hrd k hki ?_ hkl
    by_cases hjk:j=k
    ·subst hjk;exact hjun
    ·rw [getD_set_ne true hjk] at hun;exact hun
   refine zDX (fun a' w' h3=>⟨h3.2.1,ih (listed.setIfInBounds j true) a' w' hfree' hlt' hrd' (ready_mono hr (Ne.symm hji)) h3.1 ?_⟩) h2
   rw [Array.setIfInBounds_comm _ _ hji]
   exact h3.2.2
end
end Go.Eng

