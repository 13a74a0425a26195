import Derived.Test.YtilkdjfhbahhdaaE31
import Derived.ProofKit
import Derived.OpenShut
import Derived.ShutString
set_option linter.unusedVariables false
namespace Go.Eng
open Go.RowKit Go.WideShapes
theorem zCM {h:Bool×List Sh} {l:List (Bool×List Sh)} {xss:List (List PV)} (o:zE6 (h::l) xss):∃x r,xss=x::r∧okR h.2 x∧zE6 l r:=by
 cases xss with
 |nil=>exact o.elim
 |cons x r=>exact ⟨x,r,rfl,o⟩
theorem zIT {xss:List (List PV)} (o:zE6 [] xss):xss= []:=by
 cases xss with
 |nil=>rfl
 |cons x r=>exact o.elim
theorem zi {h:Sh} {l:List Sh} {xs:List PV} (o:okR (h::l) xs):∃x r,xs=x::r∧okP h x∧okR l r:=by
 cases xs with
 |nil=>simp [okR] at o
 |cons x r=>simp only [okR] at o;exact ⟨x,r,rfl,o⟩
theorem zCp {xs:List PV} (o:okR [] xs):xs= []:=by
 cases xs with
 |nil=>rfl
 |cons x r=>simp [okR] at o
theorem zBk {k:IntKind} {x:PV} (o:okP (.i k) x):∃n,x= .i k n∧(Lit.int k n).wf=true:=by
 cases x<;>simp [okP] at o
 exact ⟨_,by rw [o.1],o.2⟩
theorem zHq {x:PV} (o:okP .b x):∃b,x= .b b:=by
 cases x<;>simp [okP] at o
 exact ⟨_,rfl⟩
theorem zLS {x:PV} (o:okP .s x):∃s,x= .s s∧s.size≤140737488351232:=by
 cases x<;>simp [okP] at o
 exact ⟨_,rfl,o⟩
theorem zJx {n:Nat} {e:List Sh} {x:PV} (o:okP (.sl n e) x):∃rows,x= .ls rows∧rows.length*n≤140737488351232∧∀r∈rows,okR e r:=by
 cases x<;>simp only [okP] at o
 exact ⟨_,rfl,o⟩
theorem lib_none {P:Program} {lib:zh} (h:∀f xs up,lib f xs up=none):zHk (fun _=>none) P lib:=fun f args up r hv=>by rw [h] at hv;cases hv
section
variable {P:Program} {H:Type} {enc:TypeId×Value→H} {w:World} {sp:Nat→Bool} {base:Nat} {ps:List MemPlace}
theorem zB5 {w':World}:∀{ts:List TypeId} {vs:List Value} {ds:List (DataW H)} {ps:List MemPlace},
  DataW.TrodAll enc P w base sp true ts vs ds ps→(∀p∈ps,w.sameAt w' p)→DataW.TrodAll enc P w' base sp true ts vs ds ps
 | [],[],[],_,h,_=>h
 |_::_,_::_,_::_,_,⟨p,q,⟨n,h1⟩,h2,e⟩,hs=>
  ⟨p,q,⟨n,DataW.trod_carry n _ _ _ h1 (fun x hx=>hs x (by rw [e];exact List.mem_append_left _ hx))⟩,zB5 h2 (fun x hx=>hs x (by rw [e];exact List.mem_append_right _ hx)),e⟩
theorem args_again {w':World} {ts:List TypeId} {vs:List Value} {ds:List (DataW H)} (hl:laidOutB P=true) (hm:mapsRowed P=true)
  (hz:((List.range P.types.size).all fun t=>match P.underlying t with|some (.slice e)=>decide (0<P.cellsOf e)|_=>true)=true) (hts:∀t∈ts,t<P.types.size)
  (h:DataW.TrodAll enc P w 0 (fun _=>true) true ts vs ds ps) (hb:Below w.heap.size w w'):DataW.TrodAll enc P w' 0 (fun b=>decide (b<w.heap.size)) true ts vs ds ps:=
 zB5 (h.respare (kids_rows hl hm) (fun t e h1 h2=>slices_full_of P hz t e h1 h2) hts (fun p hp=>zo (h.lt p hp))) (fun p hp=>hb.same (h.lt p hp))
end
end Go.Eng

