import Derived.Test.YtilkdjfhbahhdaaE5
import Derived.Laws.Cells
import Derived.Laws.CopyRow
set_option linter.unusedVariables false
set_option linter.unusedSimpArgs false
namespace Go.Eng
open Go.RowKit
section
variable {P:Program} {F:Nat→Prop} {G:Nat→Option Obj} {N0:Base G} {T:Nat} {pl pl':Pl} {st:St} {a:Act} {w w':World} {fs fs':List Frame}
theorem zHw {x:CV} {d:Nat} (h:x.dep d=true):x.known=true:=by cases x<;>first|rfl|simp [CV.dep] at h
theorem zBL {l:List CV} {d:Nat} (h:l.all (·.dep d)=true):l.all (·.known)=true:=
 List.all_eq_true.2 fun x hx=>zHw (List.all_eq_true.1 h x hx)
theorem zAV (b o i:Nat):(⟨b,o,none⟩:Addr).add i=⟨b,o+i,none⟩:=by unfold Addr.add;split<;>simp_all
theorem zBd (a:Addr) (m n:Nat):(a.add m).add n=a.add (m+n):=by
 unfold Addr.add
 by_cases hm:m=0
 ·subst hm;simp
 ·by_cases hn:n=0
  ·subst hn;simp
  ·rw [if_neg hm,if_neg hn,if_neg (by omega)]
   simp [Nat.add_assoc]
theorem zA1 {b:Nat} {us:Array Value} {t:TypeId} {fr:Nat×Nat} (h:w.heap[b]?=some (.cells us t fr)) (o:Nat):w.cell? ⟨b,o,none⟩=us[o]?:=by simp [World.cell?,h]
theorem zB0 {d m g j:Nat} {cols:List (Nat×Nat×TypeId)}:∀(l:List PV) (o:Nat),(zAB d m g j cols o l).length=l.length
 | [],o=>rfl
 |x::r,o=>by simp [zAB,zB0 r (o+1)]
def zFp (d m g j:Nat) (cols:List (Nat×Nat×TypeId)) (o:Nat) (x:PV):CV:=match look o cols with|some q=> .sub d m g j o (zKn x) q.1|none=> .p x
theorem zB1 {d m g j:Nat} {cols:List (Nat×Nat×TypeId)}:∀(l:List PV) (o i:Nat),(zAB d m g j cols o l)[i]?=(l[i]?).map (zFp d m g j cols (o+i))
 | [],o,i=>by simp [zAB]
 |x::r,o,0=>by
  simp only [zAB,zFp,List.getElem?_cons_zero,Option.map_some,Nat.add_zero]
  cases look o cols<;>rfl
 |x::r,o,i+1=>by
  simp only [zAB,List.getElem?_cons_succ]
  rw [zB1 r (o+1) i,show o+1+i=o+(i+1) by omega]
theorem zHx {d m g sz ty j o:Nat} {cols:List (Nat×Nat×TypeId)} {rows:List (List PV)} {v:Value} {x:PV} (hB:zB d m fs=some ⟨g,sz,ty,.deep cols rows⟩) (h:DCell F w pl (pl d m) cols sz j o v x):
  zAM F fs pl w v (zFp d m g j cols o x)∧(zFp d m g j cols o x= .u∨v.oneCell'=true):=by
 unfold DCell at h
 unfold zFp
 cases hl:look o cols with
 |none=>
  rw [hl] at h
  have h:RepP (Own F pl) w v x:=h
  exact ⟨h,.inr h.one.1⟩
 |some q=>
  rw [hl] at h
  rcases h with ⟨h1,rfl,h3⟩|⟨inner,b,s,cap,us,rfl,h2,rfl,h4,h5,h6,_⟩
  ·refine ⟨⟨rfl,_,hB,Nat.le_refl _,fun _=> .inl ⟨rfl,?_⟩⟩,.inr rfl⟩
   rcases h1 with rfl|rfl<;>rfl
  ·exact ⟨⟨rfl,_,hB,Nat.le_refl _,fun _=> .inr ⟨b,s,cap,h2,rfl,h4,h5,h6⟩⟩,.inr rfl⟩
theorem zDt (hm:MemOK F N0 (st.fr::st.up) pl w) {v:Value} {x:AV} {n:Nat} {cs:List CV} (h:st.read x n=some cs) (hv:zd F (st.fr::st.up) pl w v x):
  ∃ad us,v= .pointer (some ad)∧us.length=n∧(∀(i:Nat) u,us[i]?=some u→w.cell? (ad.add i)=some u)∧zK F (st.fr::st.up) pl w us cs:=by
 unfold St.read at h
 split at h
 ·rename_i d m g j o
  obtain ⟨h0,B,hB,hg,hv⟩:=hv
  have hb:=hm.blk d m B hB
  have hB':st.get d m=some B:=hB
  split at h
  ·rename_i g' sz ty cells he
   rw [hB'] at he
   cases he
   split at h
   ·rename_i hc
    obtain ⟨rfl,hc,hko⟩:=hc
    cases h
    obtain ⟨b,s,hp,⟨_,rfl⟩|⟨hk2,_⟩⟩:=hv rfl
    rotate_left
    ·exact absurd hk2 hko
    obtain ⟨b',us,h1,h2,h3,h4⟩:=hb
    have:b'=b:=by rw [h1] at hp;exact (Prod.mk.inj (Option.some.inj hp)).1
    subst this
    refine ⟨_,(us.toList.drop (j*sz+o)).take n,rfl,?_,?_,?_⟩
    ·have:=h3.1;simp at this⊢;omega
    ·intro i u hu
     rw [zAV,zA1 h2,←Array.getElem?_toList]
     rw [List.getElem?_take,List.getElem?_drop] at hu
     split at hu
     ·exact hu
     ·cases hu
    ·refine ⟨by have:=h3.1;simp at this⊢;omega,fun i u c hu hc=>?_⟩
     rw [List.getElem?_take,List.getElem?_drop] at hu hc
     split at hu
     ·exact h3.2 _ _ _ hu (by simpa [*] using hc)
     ·cases hu
   ·cases h
  ·rename_i g' sz ty rows he
   rw [hB'] at he
   cases he
   split at h
   ·rename_i hc
    obtain ⟨hc,hko⟩:=hc
    subst hc
    split at h
    ·rename_i e hj
     split at h
     ·rename_i ho
      cases h
      obtain ⟨b,s,hp,⟨_,rfl⟩|⟨hk2,_⟩⟩:=hv rfl
      rotate_left
      ·exact absurd hk2 hko
      rcases hb with ⟨h1,h2⟩|⟨b',s',us,h1,h2,h3,h4,h5,h6⟩
      ·subst h1;simp at hj
      have:b'=b:=by rw [h1] at hp;exact (Prod.mk.inj (Option.some.inj hp)).1
      subst this
      have hel:e.length=sz:=h5 e (zn hj)
      have hus:∀i,i<n→∃u,us[j*sz+o+i]?=some u:=fun i hi=>by
       obtain ⟨v,hv,_⟩:=h6 j e (o+i) _ hj (zb (by omega))
       exact ⟨v,by rw [Nat.add_assoc];exact hv⟩
      have hlen:j*sz+o+n≤us.size:=by
       by_cases hn:n=0
       ·subst hn
        have:(j+1)*sz≤us.size:=by
         have hj':j<rows.length:=by
          by_cases hj':j<rows.length
          ·exact hj'
          ·rw [List.getElem?_eq_none (by omega)] at hj;cases hj
         have:=Nat.mul_le_mul_right sz (show j+1≤rows.length by omega)
         simp only at h4
         omega
        rw [Nat.add_mul] at this
        omega
       ·obtain ⟨u,hu⟩:=hus (n-1) (by omega)
        have:=(Array.getElem?_eq_some_iff.1 hu).1
        omega
      refine ⟨_,(us.toList.drop (j*sz+o)).take n,rfl,?_,?_,?_⟩
      ·simp;omega
      ·intro i u hu
       rw [zAV,zA1 h2,←Array.getElem?_toList]
       rw [List.getElem?_take,List.getElem?_drop] at hu
       split at hu
       ·exact hu
       ·cases hu
      ·refine ⟨by simp;omega,fun i u c hu hc=>?_⟩
       rw [List.getElem?_take,List.getElem?_drop] at hu
       split at hu
       ·rename_i hi
        rw [List.getElem?_map,List.getElem?_take,if_pos hi,List.getElem?_drop] at hc
        obtain ⟨y,hy,rfl⟩:=Option.map_eq_some_iff.1 hc
        obtain ⟨v,hv,hrep⟩:=h6 j e (o+i) y hj hy
        rw [Array.getElem?_toList,Nat.add_assoc] at hu
        simp only at hv
        rw [hv] at hu
        cases hu
        exact ⟨hrep,.inr hrep.one.1⟩
       ·cases hu
     ·cases h
    ·cases h
   ·cases h
  ·rename_i g' sz ty cols rows he
   rw [hB'] at he
   cases he
   split at h
   ·rename_i hc
    obtain ⟨hc,hko⟩:=hc
    subst hc
    split at h
    ·rename_i e hj
     split at h
     ·rename_i ho
      cases h
      obtain ⟨b,s,hp,⟨_,rfl⟩|⟨hk2,_⟩⟩:=hv rfl
      rotate_left
      ·exact absurd hk2 hko
      rcases hb with ⟨h1,h2⟩|⟨b',s',us,h1,h2,h3,h4,h5,h6,h7⟩
      ·subst h1;simp at hj
      have:b'=b:=by rw [h1] at hp;exact (Prod.mk.inj (Option.some.inj hp)).1
      subst this
      have hel:e.length=sz:=h5 e (zn hj)
      have hus:∀i,i<n→∃u,us[j*sz+o+i]?=some u:=fun i hi=>by
       obtain ⟨v,hv,_⟩:=h6 j e (o+i) _ hj (zb (by omega))
       exact ⟨v,by rw [Nat.add_assoc];exact hv⟩
      have hlen:j*sz+o+n≤us.size:=by
       by_cases hn:n=0
       ·subst hn
        have:(j+1)*sz≤us.size:=by
         have hj':j<rows.length:=by
          by_cases hj':j<rows.length
          ·exact hj'
          ·rw [List.getElem?_eq_none (by omega)] at hj;cases hj
         have:=Nat.mul_le_mul_right sz (show j+1≤rows.length by omega)
         simp only at h4
         omega
        rw [Nat.add_mul] at this
        omega
       ·obtain ⟨u,hu⟩:=hus (n-1) (by omega)
        have:=(Array.getElem?_eq_some_iff.1 hu).1
        omega
      refine ⟨_,(us.toList.drop (j*sz+o)).take n,rfl,?_,?_,?_⟩
      ·simp;omega
      ·intro i u hu
       rw [zAV,zA1 h2,←Array.getElem?_toList]
       rw [List.getElem?_take,List.getElem?_drop] at hu
       split at hu
       ·exact hu
       ·cases hu
      ·refine ⟨by simp [zB0];omega,fun i u c hu hc=>?_⟩
       rw [List.getElem?_take,List.getElem?_drop] at hu
       split at hu
       ·rename_i hi
        rw [zB1,List.getElem?_take,if_pos hi,List.getElem?_drop] at hc
        obtain ⟨y,hy,rfl⟩:=Option.map_eq_some_iff.1 hc
        obtain ⟨v,hv,hrep⟩:=h6 j e (o+i) y hj hy
        rw [Array.getElem?_toList,Nat.add_assoc] at hu
        simp only at hv
        rw [hv] at hu
        cases hu
        exact zHx hB hrep
       ·cases hu
     ·cases h
    ·cases h
   ·cases h
  ·cases h
 ·rename_i e o
  split at h
  ·rename_i ho
   cases h
   obtain ⟨ad,rfl,h2,h3⟩:=hv
   have hus:∀i,i<e.length→∃u,w.cell? (ad.add i)=some u∧RepP (Own F pl) w u (e.getD i default):=fun i hi=>by
    obtain ⟨u,h4,h5⟩:=h3 i _ (zb hi)
    exact ⟨u,h4,by simpa [List.getD,zb hi] using h5⟩
   have key:∀m,o+m≤e.length→∃us:List Value,us.length=m∧∀i u,us[i]?=some u→w.cell? (ad.add (o+i))=some u∧RepP (Own F pl) w u (e.getD (o+i) default):=by
    intro m
    induction m with
    |zero=>intro _;exact ⟨[],rfl,fun i u h=>by simp at h⟩
    |succ m ih=>
     intro hm
     obtain ⟨us,h4,h5⟩:=ih (by omega)
     obtain ⟨u,h6,h7⟩:=hus (o+m) (by omega)
     refine ⟨us++ [u],by simp [h4],fun i y hy=>?_⟩
     by_cases hi:i<us.length
     ·rw [List.getElem?_append_left hi] at hy;exact h5 i y hy
     ·rw [List.getElem?_append_right (by omega)] at hy
      have:i=m:=by
       by_cases h0:i-us.length=0
       ·omega
       ·obtain ⟨q,hq⟩:∃q,i-us.length=q+1:=⟨i-us.length-1,by omega⟩
        rw [hq] at hy;simp at hy
      subst this
      simp [h4] at hy
      subst hy
      exact ⟨h6,h7⟩
   obtain ⟨us,h4,h5⟩:=key n ho
   refine ⟨_,us,rfl,h4,fun i u hu=>by rw [zBd];exact (h5 i u hu).1,by simp [h4];omega,fun i u c hu hc=>?_⟩
   have hi:i<n:=by
    rw [←h4]
    by_cases hi:i<us.length
    ·exact hi
    ·rw [List.getElem?_eq_none (by omega)] at hu;cases hu
   rw [List.getElem?_map,List.getElem?_take,if_pos hi,List.getElem?_drop] at hc
   obtain ⟨y,hy,rfl⟩:=Option.map_eq_some_iff.1 hc
   have h6:=(h5 i u hu).2
   rw [List.getD_eq_getElem?_getD,hy] at h6
   exact ⟨h6,.inr h6.one.1⟩
  ·cases h
 ·cases h
theorem zCU {t:TypeId} {g:Bool} (h:zAi P t=some g):(isAgg t).run P w= .ok g w:=by
 unfold zAi at h
 cases hu:P.underlying t with
 |none=>simp [hu] at h
 |some d=>
  rw [hu] at h
  simp only [isAgg,Sem.run_bind,run_underlying hu,Result.andThen_ok]
  cases d<;>simp at h<;>subst h<;>rfl
theorem zEb {t:TypeId} {g:Bool} (h:zAi P t=some g):∃i,P.info? t=some i:=by
 cases hi:P.info? t with
 |some i=>exact ⟨i,rfl⟩
 |none=>
  exfalso
  have:P.underlying t=none:=by simp [Program.underlying,hi]
  simp [zAi,this] at h
theorem zGl {g:Bool} {us:List Value} {cs:List CV} {v:AV} (h:zBW g cs=some v) (hr:zK F fs pl w us cs):
  (g=true∧zd F fs pl w (.agg us.toArray) v)∨(g=false∧∃u,us= [u]∧zd F fs pl w u v):=by
 unfold zBW at h
 split at h
 ·cases h;exact .inl ⟨rfl,us,rfl,hr⟩
 ·cases h
  rename_i x
  match us,hr.1 with
  | [u],_=>exact .inr ⟨rfl,u,rfl,(hr.2 0 u x rfl rfl).1⟩
 ·cases h
theorem zDG {t:TypeId} {g:Bool} (hg:zAi P t=some g) {ad:Addr} {us:List Value} (hl:us.length=P.cellsOf t) (hc:∀(i:Nat) u,us[i]?=some u→w.cell? (ad.add i)=some u):
  (g=true→(loadVar t ad).run P w= .ok (.agg us.toArray) w)∧(g=false→∀u,us= [u]→(loadVar t ad).run P w= .ok u w):=by
 obtain ⟨i,hi⟩:=zEb hg
 refine ⟨fun e=>?_,fun e u hu=>?_⟩
 ·subst e
  simp only [loadVar,Sem.run_bind,zCU hg,Result.andThen_ok,if_true,run_sizeOf _ hi]
  rw [←hl,run_loadCells_list w ad us hc]
  rfl
 ·subst e
  subst hu
  have:=hc 0 u rfl
  have e0:ad.add 0=ad:=by simp [Addr.add]
  rw [e0] at this
  simp [loadVar,zCU hg,this]
theorem zHy {S:Nat→Prop} (hg:KeepB S w w') {ad:Addr} {u:Value} (hS:S ad.block) (h:w.cell? ad=some u):w'.cell? ad=some u:=
 (World.cell?_of_block (hg.2 _ (World.block_lt_of_cell? w ad h) hS)).trans h
theorem zJ6 {o:Oper} {t:TypeId} {x:Operand} {k:KX} {g:Bool} {cs:List CV} {v:AV} (ho:o.op= .load t x) (hx:kx x=some k) (hg:zAi P t=some g) (hr:Rel F N0 T pl st a w)
  (h1:st.read (st.eval k) (P.cellsOf t)=some cs) (h2:zBW g cs=some v):Runs2 P (fun b=>∃ad:Addr,a.eval x= .pointer (some ad)∧ad.block=b) o a w (Post F N0 pl st w v st):=by
 obtain ⟨ad,us,h3,h4,h5,h6⟩:=zDt hr.mem h1 (zD hr hx)
 have l:=fun (w':World) (hg':KeepB (fun b=>∃ad:Addr,a.eval x= .pointer (some ad)∧ad.block=b) w w')=>zDG (w:=w') hg h4 fun i u hu=>zHy hg' ⟨ad,h3,by unfold Addr.add;split<;>rfl⟩ (h5 i u hu)
 rcases zGl h2 h6 with ⟨e,h7⟩|⟨e,u,h8,h7⟩
 ·exact zT (u:= .agg us.toArray) (fun w' hg'=>by simp [execOp,ho,Instr.loadAt,h3,Instr.sureAddr,(l w' hg').1 e]) (zI hr h7)
 ·exact zT (u:=u) (fun w' hg'=>by simp [execOp,ho,Instr.loadAt,h3,Instr.sureAddr,(l w' hg').2 e u h8]) (zI hr h7)
theorem zIt {o:Oper} {e:TypeId} {v:Value} {x:AV} {dst sz:Nat} (ho:(execOp a.eval o).run P w= .ok (.value (.pointer (some ⟨w.heap.size,0,none⟩))) {w with heap:=w.heap.push (.cells v.cells e)}) (hr:Rel F N0 T pl st a w)
  (hv:zd F (st.fr::st.up) pl w v x) (ht:∀vs,x≠ .tup vs) (h1:x.cvs.length=sz) (h2:x.dep st.up.length=true):
  Runs1 P o a w (zFo F N0 pl st w (.c (st.new (dst*64) sz e (.box x.cvs)).1) (st.new (dst*64) sz e (.box x.cvs)).2):=by
 have hc:=zAb hv ht (zBL h2)
 refine zU ho ⟨zBF (x:=one w.heap.size x.cvs.length) hr (zAs _ _) (fun j b s h=>by cases (zAE h).2;exact ⟨Nat.le_refl _,by simp⟩) zBm (fun hk=>?_) (fun hg=>?_),zBC _ _⟩
 ·exact ⟨w.heap.size,v.cells,zF ..,by simp,hk.repCs hc,fun c hc'=>List.all_eq_true.1 h2 c hc'⟩
 ·exact ⟨rfl,_,hg,Nat.le_refl _,fun _=>⟨w.heap.size,_,by rw [zF];rfl,.inl ⟨by decide,by simp⟩⟩⟩
theorem zJ7 {o:Oper} {e:TypeId} {v:Value} {cs:List CV} {n sz:Nat} (ho:(execOp a.eval o).run P w= .ok (.value (.pointer (some ⟨w.heap.size,0,none⟩))) {w with heap:=w.heap.push (.cells v.cells e)}) (hr:Rel F N0 T pl st a w)
  (hc:zK F (st.fr::st.up) pl w v.cells.toList cs) (h2:cs.all (·.dep st.up.length)=true):
  Runs1 P o a w (zFo F N0 pl st w (.c (st.new n sz e (.box cs)).1) (st.new n sz e (.box cs)).2):=by
 refine zU ho ⟨zBF (x:=one w.heap.size cs.length) hr (zAs _ _) (fun j b s h=>by cases (zAE h).2;exact ⟨Nat.le_refl _,by simp⟩) zBm (fun hk=>?_) (fun hg=>?_),zBC _ _⟩
 ·exact ⟨w.heap.size,v.cells,zF ..,by simp,hk.repCs hc,fun c hc'=>List.all_eq_true.1 h2 c hc'⟩
 ·exact ⟨rfl,_,hg,Nat.le_refl _,fun _=>⟨w.heap.size,_,by rw [zF];rfl,.inl ⟨by decide,by simp⟩⟩⟩
theorem zFq (hr:Rel F N0 T pl st a w) (n sz ty:Nat):Rel F N0 T (zx pl st.up.length n nop) (st.new n sz ty (.row [])).2 a w∧Keep F (st.fr::st.up) ((st.new n sz ty (.row [])).2.fr::(st.new n sz ty (.row [])).2.up) pl (zx pl st.up.length n nop) w w∧
  zB st.up.length n ((st.new n sz ty (.row [])).2.fr::(st.new n sz ty (.row [])).2.up)=some ⟨st.fresh n,sz,ty,.row []⟩:=by
 obtain ⟨h1,h2,h3⟩:=zHL (w':=w) (n:=n) (sz:=sz) (ty:=ty) (k:= .row []) (x:=nop) hr (Below.refl _ _) (fun j b s h=>by cases h) zBn (fun _=> .inl ⟨rfl,zF ..⟩)
 exact ⟨⟨h1,fun m v hv=>h2.repA (hr.tmps m v hv),hr.size,hr.defers,hr.low⟩,h2,h3⟩
theorem zFr {fs fs':List Frame} {pl pl':Pl} {d n sz ty g col:Nat} {us:List Value} {cs:List CV} (hr:zK F fs pl w us cs) (hk:Keep F fs fs' pl pl' w w) (hcol:zHr (cs[col]?)=true) (hg:zB d n fs'=some ⟨g,sz,ty,.row []⟩) (hp:pl' d n=nop):
  zK F fs' pl' w us (cs.set col (.own d n g 0)):=by
 have hcol:cs[col]?=some (.p .nl):=by
  unfold zHr at hcol
  split at hcol
  ·assumption
  ·cases hcol
 have hr2:=hk.repCs hr
 refine ⟨by simp [hr2.1],fun i u c hu hc=>?_⟩
 rw [List.getElem?_set] at hc
 split at hc
 ·rename_i e
  subst e
  split at hc
  ·cases hc
   have h3:RepP (Own F pl) w u .nl:=(hr.2 col u _ hu hcol).1
   generalize hu':u=u' at h3
   cases h3
   subst hu'
   exact ⟨⟨rfl,_,hg,Nat.le_refl _,fun _=> .inl ⟨rfl,rfl,by rw [hp];rfl⟩⟩,.inr rfl⟩
  ·cases hc
 ·exact hr2.2 i u c hu hc
theorem zIu {d n g col:Nat} {cs:List CV} (h:cs.all (·.dep d)=true):(cs.set col (.own d n g 0)).all (·.dep d)=true:=by
 rw [List.all_eq_true]
 intro c hc
 rcases List.mem_or_eq_of_mem_set hc with h'|rfl
 ·exact List.all_eq_true.1 h c h'
 ·simp [CV.dep]
end
end Go.Eng

