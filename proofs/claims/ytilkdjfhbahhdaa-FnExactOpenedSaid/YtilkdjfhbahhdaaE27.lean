import Derived.Test.YtilkdjfhbahhdaaE26
import Derived.WalkKit
import Derived.ChangeArms
import Derived.ChangeOld
import Derived.ReadAgain
import Derived.WideShapes
import Derived.SizedLaws
import Derived.ChangeBears
set_option linter.unusedVariables false
set_option linter.unusedSimpArgs false
namespace Go.Eng
open Go.RowKit Go.WideShapes
inductive Sh where
 |b
 |i (k:IntKind)
 |s
 |sl (bytes:Nat) (e:List Sh)
 deriving Inhabited
mutual
def okP:Sh→PV→Prop
 | .b,.b _=>True
 | .i k,.i k' n=>k'=k∧(Lit.int k n).wf=true
 | .s,.s x=>x.size≤140737488351232
 | .sl by' e,.ls rows=>rows.length*by'≤140737488351232∧∀r∈rows,okR e r
 |_,_=>False
def okR:List Sh→List PV→Prop
 | [],[]=>True
 |h::l,x::r=>okP h x∧okR l r
 |_,_=>False
end
theorem zEL:∀{l:List Sh} {xs:List PV},okR l xs→xs.length=l.length
 | [],[],_=>rfl
 |_::l,x::xs,h=>by
  simp only [okR] at h
  simp [zEL h.2]
 | [],_::_,h=>by simp [okR] at h
 |_::_,[],h=>by simp [okR] at h
theorem zEM:∀{l m:List Sh} {xs ys:List PV},okR l xs→okR m ys→okR (l++m) (xs++ys)
 | [],m,[],ys,_,h=>h
 |_::l,m,x::xs,ys,h,h'=>by
  simp only [okR] at h
  simp only [List.cons_append,okR]
  exact ⟨h.1,zEM h.2 h'⟩
 | [],_,_::_,_,h,_=>by simp [okR] at h
 |_::_,_,[],_,h,_=>by simp [okR] at h
def zKS (P:Program) (q:TypeId→Option (List Sh)):List Field→Nat→Option (List Sh)
 | [],off=>some []
 |f::r,off=>if f.offset=off then (q f.type).bind fun a=>if a.length=P.cellsOf f.type then (zKS P q r (off+P.cellsOf f.type)).map (a++ ·) else none else none
def zFU (P:Program):Nat→TypeId→Option (List Sh)
 |0,_=>none
 |n+1,t=>match P.underlying t with
  |some .bool=>some [.b]
  |some (.int k)=>some [.i k]
  |some .string=>some [.s]
  |some (.slice e)=>(zFU P n e).bind fun l=>if l.length=P.cellsOf e∧0<l.length then some [.sl (P.bytesOf e) l] else none
  |some (.struct fs)=>(zKS P (zFU P n) fs.toList 0).bind fun l=>if l.length=P.cellsOf t then some l else none
  |_=>none
def zBV:Nat→Prop:=fun _=>False
def Reps (w:World) (cs:List Value) (xs:List PV):Prop:=cs.length=xs.length∧∀(i:Nat) u x,cs[i]?=some u→xs[i]?=some x→RepP zBV w u x
theorem Reps.one {w:World} {u:Value} {x:PV} (h:RepP zBV w u x):Reps w [u] [x]:=⟨rfl,fun i v y h1 h2=>by
 cases i with
 |zero=>cases h1;cases h2;exact h
 |succ i=>simp at h1⟩
theorem Reps.append {w:World} {cs ds:List Value} {xs ys:List PV} (h:Reps w cs xs) (h':Reps w ds ys):Reps w (cs++ds) (xs++ys):=
 ⟨by simp [h.1,h'.1],fun i u x h1 h2=>by
  by_cases hi:i<cs.length
  ·rw [List.getElem?_append_left hi] at h1
   rw [List.getElem?_append_left (h.1▸hi)] at h2
   exact h.2 i u x h1 h2
  ·rw [List.getElem?_append_right (by omega)] at h1
   rw [List.getElem?_append_right (by have:=h.1;omega),←h.1] at h2
   exact h'.2 _ u x h1 h2⟩
theorem zHl {α:Type} {Q:Nat→α→Prop}:∀n:Nat,(∀i,i<n→∃y,Q i y)→∃ys:List α,ys.length=n∧∀i y,ys[i]?=some y→Q i y
 |0,_=>⟨[],rfl,fun i y h=>by simp at h⟩
 |n+1,h=>by
  obtain ⟨ys,hl,hq⟩:=zHl n (fun i hi=>h i (by omega))
  obtain ⟨y,hy⟩:=h n (by omega)
  refine ⟨ys++ [y],by simp [hl],fun i z hz=>?_⟩
  by_cases hi:i<ys.length
  ·rw [List.getElem?_append_left hi] at hz
   exact hq i z hz
  ·rw [List.getElem?_append_right (by omega)] at hz
   have h0:i-ys.length=0:=by
    by_cases h0:i-ys.length=0
    ·exact h0
    ·obtain ⟨m,hm⟩:∃m,i-ys.length=m+1:=⟨i-ys.length-1,by omega⟩
     rw [hm] at hz
     simp at hz
   rw [h0] at hz
   simp at hz
   subst hz
   have:i=n:=by omega
   subst this
   exact hy
theorem zDQ {P:Program} {H:Type} {e:TypeId}:∀{ds:List (DataW H)},(DataW.weightsAll P e ds).all (· ≤reachBytes)=true→∀d∈ds,(d.weights P e).all (· ≤reachBytes)=true
 | [],_,d,hd=>by simp at hd
 |d0::ds,h,d,hd=>by
  rw [DataW.weightsAll,List.all_append,Bool.and_eq_true] at h
  rcases List.mem_cons.1 hd with rfl|hd
  ·exact h.1
  ·exact zDQ h.2 d hd
theorem zKT {w:World} {a:Addr} {n:Nat} {u:Value} (h:w.cell? (a.add n)=some u):a.block<w.heap.size:=by
 have hb:(a.add n).block=a.block:=by unfold Addr.add;split<;>rfl
 unfold World.cell? at h
 rw [hb] at h
 cases hq:w.heap[a.block]? with
 |none=>simp [hq] at h
 |some o=>exact (Array.getElem?_eq_some_iff.1 hq).1
section
variable {P:Program} {t:TypeId} {w:World} {H:Type} {enc:TypeId×Value→H} {sp:Nat→Bool}
theorem zGM {q:TypeId→Option (List Sh)} (hq:∀t l,q t=some l→∀(m:Nat) (cs:List Value) (x:DataW H×List MemPlace),DataW.trod enc P w 0 sp true m t cs=some x→(x.1.weights P t).all (· ≤reachBytes)=true→∃xs,okR l xs∧Reps w cs xs):
  ∀(fs:List Field) (off:Nat) (l:List Sh) (m:Nat) (cs:List Value) (xs:List (DataW H×List MemPlace)),zKS P q fs off=some l→
   (∀(i:Nat) f,fs[i]?=some f→DataW.trod enc P w 0 sp true m f.type ((cs.drop f.offset).take (P.cellsOf f.type))=xs[i]?)→xs.length=fs.length→
   (DataW.weightsEach P (fs.map (·.type)) (xs.map (·.1))).all (· ≤reachBytes)=true→∃ys,okR l ys∧Reps w ((cs.drop off).take l.length) ys
 | [],off,l,m,cs,xs,hl,_,_,_=>by
  cases hl
  exact ⟨[],trivial,by simp [Reps]⟩
 |f::fs,off,l,m,cs,xs,hl,hx,hn,hw=>by
  simp only [zKS] at hl
  split at hl
  ·rename_i ho
   obtain ⟨a,ha,hl⟩:=Option.bind_eq_some_iff.1 hl
   split at hl
   ·rename_i hc
    obtain ⟨l',hl',rfl⟩:=Option.map_eq_some_iff.1 hl
    match xs,hn with
    |x::xs,hn=>
     have h0:=hx 0 f rfl
     simp only [List.getElem?_cons_zero] at h0
     rw [ho,←hc] at h0
     simp only [List.map_cons,DataW.weightsEach,List.all_append,Bool.and_eq_true] at hw
     obtain ⟨y,oy,ry⟩:=hq f.type a ha m _ x h0 hw.1
     obtain ⟨z,oz,rz⟩:=zGM hq fs _ l' m cs xs hl' (fun i g hg=>by simpa using hx (i+1) g (by simpa using hg)) (by simpa using hn) hw.2
     refine ⟨y++z,zEM oy oz,?_⟩
     rw [List.length_append,List.take_add,List.drop_drop,hc]
     rw [hc] at ry
     exact ry.append rz
   ·cases hl
  ·cases hl
theorem zJY:∀(n:Nat) (t:TypeId) (l:List Sh),zFU P n t=some l→∀(m:Nat) (cs:List Value) (x:DataW H×List MemPlace),DataW.trod enc P w 0 sp true m t cs=some x→(x.1.weights P t).all (· ≤reachBytes)=true→
  ∃xs,okR l xs∧Reps w cs xs
 |0,t,l,h,_,_,_,_,_=>by simp [zFU] at h
 |n+1,t,l,h,m,cs,x,hx,hw=>by
  simp only [zFU] at h
  split at h
  ·rename_i ht
   cases h
   obtain ⟨b,rfl,_⟩:=DataW.trod_bool ht hx
   exact ⟨[.b b],⟨trivial,trivial⟩,Reps.one (.b b)⟩
  ·rename_i k ht
   cases h
   obtain ⟨i,rfl,_,h3⟩:=DataW.trod_int ht hx
   exact ⟨[.i k i],⟨⟨rfl,h3⟩,trivial⟩,Reps.one (.i k i)⟩
  ·rename_i ht
   cases h
   obtain ⟨s,rfl,rfl,_⟩:=DataW.trod_string ht hx
   refine ⟨[.s s],⟨?_,trivial⟩,Reps.one (.s s)⟩
   show s.size≤140737488351232
   simp [DataW.weights,reachBytes] at hw
   exact of_decide_eq_true hw
  ·rename_i e ht
   obtain ⟨l',hl',h⟩:=Option.bind_eq_some_iff.1 h
   split at h
   ·rename_i he
    obtain ⟨he,hpos⟩:=he
    cases h
    rcases DataW.trod_slice ht hx with ⟨rfl,rfl⟩|⟨a,len,cap,elems,rest,n',rfl,rfl,rfl,_,hlc,hcm,hel,hat,_,_⟩
    ·exact ⟨[.ls []],⟨⟨by simp,by simp⟩,trivial⟩,Reps.one .nls⟩
    ·simp only [DataW.weights,ht,List.all_cons,List.all_append,Bool.and_eq_true] at hw
     obtain ⟨hw0,hw1,_⟩:=hw
     have one:∀i,i<len→∃y:List PV,okR l' y∧∃ci:List Value,Reps w ci y∧∀j u,ci[j]?=some u→w.cell? (a.add (i*l'.length+j))=some u:=by
      intro i hi
      have hi':i<elems.length:=by omega
      have hh:=hat i hi
      rw [zb hi'] at hh
      simp only [zN] at hh
      obtain ⟨ci,hc,hy⟩:=hh
      obtain ⟨_,hcl,hcc⟩:=World.cells?_some hc
      obtain ⟨y,oy,ry⟩:=zJY n e l' hl' n' ci _ hy (zDQ hw1 _ (List.mem_map.2 ⟨_,List.getElem_mem hi',rfl⟩))
      refine ⟨y,oy,ci,ry,fun j u hu=>?_⟩
      have hj:j<P.cellsOf e:=by
       rw [←hcl]
       exact (List.getElem?_eq_some_iff.1 hu).1
      have:=hcc j hj
      rw [zBd,←he] at this
      rw [this,hu]
     obtain ⟨ys,hl,hq⟩:=zHl len one
     have hlen:elems.length=len:=hel
     refine ⟨[.ls ys],⟨⟨?_,fun r hr=>?_⟩,trivial⟩,Reps.one ?_⟩
     ·rw [hl,←hel]
      have hb:=of_decide_eq_true hw0
      simp only [List.length_map,reachBytes] at hb
      exact Nat.le_trans (Nat.mul_le_mul_right _ (Nat.le_add_right _ _)) hb
     ·obtain ⟨i,hi,rfl⟩:=List.getElem_of_mem hr
      exact (hq i _ (zb hi)).1
     ·have key:∀j,∃f:Nat→Value,∀e,ys[j]?=some e→e.length=l'.length∧∀o x,e[o]?=some x→w.cell? (a.add (j*l'.length+o))=some (f o)∧RepP zBV w (f o) x:=by
       intro j
       cases hj:ys[j]? with
       |none=>exact ⟨fun _=>undef,fun e h=>by cases h⟩
       |some y=>
        obtain ⟨oy,ci,ry,hc⟩:=hq j y hj
        refine ⟨fun o=>ci[o]?.getD undef,fun e h=>?_⟩
        cases h
        refine ⟨zEL oy,fun o x hx=>?_⟩
        have ho:o<ci.length:=by rw [ry.1];exact (List.getElem?_eq_some_iff.1 hx).1
        have hu:=zb ho
        refine ⟨?_,?_⟩
        ·dsimp only;rw [hu];exact hc o _ hu
        ·dsimp only;rw [hu];exact ry.2 o _ x hu hx
      let val:=fun j=>Classical.choose (key j)
      have hval:=fun j=>Classical.choose_spec (key j)
      refine .ls (sz:=l'.length) val hl hlc (by simp only [maxLen] at hcm⊢;omega) (fun hne=>⟨fun h=>h,?_⟩) (fun j e he'=>⟨(hval j e he').1,fun o x hx=>((hval j e he').2 o x hx).1⟩) (fun j e o x he' hx=>((hval j e he').2 o x hx).2)
      obtain ⟨y,hy⟩:∃y,ys[0]?=some y:=by
       cases hys:ys with
       |nil=>exact absurd hys hne
       |cons y r=>exact ⟨y,rfl⟩
      obtain ⟨h1,h2⟩:=hval 0 y hy
      exact zKT (h2 0 y[0] (zb (by omega))).1
   ·cases h
  ·rename_i fs ht
   obtain ⟨l',hl',h⟩:=Option.bind_eq_some_iff.1 h
   split at h
   ·rename_i hc
    cases h
    obtain ⟨xs,n',rfl,rfl,hl,hxl,hat⟩:=DataW.trod_struct ht hx
    simp only [DataW.weights,ht] at hw
    obtain ⟨y,oy,ry⟩:=zGM (q:=zFU P n) (zJY n) fs.toList 0 l n' cs xs hl' (fun i f hf=>hat i f (by simpa using hf)) (by simpa using hxl) hw
    rw [List.drop_zero,List.take_of_length_le (by omega)] at ry
    exact ⟨y,oy,ry⟩
   ·cases h
  ·cases h
end
end Go.Eng

