import Derived.Test.YtilkdjfhbahhdaaE10
set_option linter.unusedVariables false
set_option linter.unusedSimpArgs false
namespace Go.Eng
open Go.RowKit
section
variable {P:Program} {F:Nat→Prop} {G:Nat→Option Obj} {N0:Base G} {T:Nat} {pl pl':Pl} {st st':St} {a:Act} {w w':World} {fs fs':List Frame}
theorem zBN {e:TypeId} (h:zCR P e=true):∃i z,P.info? e=some i∧i.zero=some z∧z.cells.size=i.size∧0<i.size∧P.cellsOf e=i.size:=by
 unfold zCR at h
 split at h
 ·rename_i i hi
  split at h
  ·rename_i z hz
   have:=of_decide_eq_true h
   exact ⟨i,z,hi,hz,this.1,this.2,by simp [Program.cellsOf,hi]⟩
  ·cases h
 ·cases h
theorem zI1 (z:Array Value) (n i:Nat) (hi:i<n) (hz:0<z.size):(madeCells z n)[i]?=z[i%z.size]?:=by
 have hm:i%z.size<z.size:=Nat.mod_lt _ hz
 simp [madeCells,hi,hm]
theorem zFx {e:TypeId} {z:Value} {zs:List PV} {sz n:Nat} (hz:z.cells.toList.mapM zGg=some zs) (hs:z.cells.size=sz) (h0:0<sz):RepPs (Own F pl) w (madeCells z.cells (n*sz)).toList (List.replicate n zs).flatten∧(∀r∈List.replicate n zs,r.length=sz):=by
 have hzr:=zFv (F:=F) (pl:=pl) (w:=w) hz
 have hzl:zs.length=sz:=by have:=hzr.1;simp at this;omega
 have hall:∀r∈List.replicate n zs,r.length=sz:=fun r hr=>by rw [(List.mem_replicate.1 hr).2];exact hzl
 obtain ⟨h1,h2⟩:=zt hall
 refine ⟨⟨by simp [h1,size_madeCells],fun i u x hu hx=>?_⟩,hall⟩
 have hi:i<n*sz:=by
  by_cases hi:i<n*sz
  ·exact hi
  ·rw [List.getElem?_eq_none (by simp [size_madeCells];omega)] at hu;cases hu
 obtain ⟨q,o,hq,ho,rfl⟩:∃q o,q<n∧o<sz∧i=q*sz+o:=⟨i/sz,i%sz,by rw [Nat.div_lt_iff_lt_mul h0];exact hi,Nat.mod_lt _ h0,by rw [Nat.mul_comm];exact (Nat.div_add_mod i sz).symm⟩
 rw [h2 q zs o (by rw [List.getElem?_replicate];simp [hq]) ho] at hx
 rw [Array.getElem?_toList,zI1 _ _ _ hi (by omega),hs] at hu
 have hmod:(q*sz+o)%sz=o:=by rw [Nat.mul_comm,Nat.mul_add_mod,Nat.mod_eq_of_lt ho]
 rw [hmod] at hu
 exact hzr.2 o u x (by simpa using hu) hx
theorem zFy {st1:St} {pl1:Pl} (hr:Rel F N0 T pl st a w) (h:Same F N0 pl st st1 w pl1):Rel F N0 T pl1 st1 a w:=
 ⟨h.mem,fun n v hv=>h.keep.repA (hr.tmps n v (by rw [←h.t];exact hv)),hr.size,hr.defers,hr.low⟩
theorem zH0 {st1:St} {pl1:Pl} {v:AV} {st2:St} {u:Value} (h:Same F N0 pl st st1 w pl1) (h2:Post F N0 pl1 st1 w v st2 u w'):Post F N0 pl st w v st2 u w':=by
 obtain ⟨⟨pl2,h3,h4,h5⟩,h6⟩:=h2
 exact ⟨⟨pl2,h3,h4,h.keep.trans h5⟩,h6.trans h.t⟩
theorem zFz (hr:Rel F N0 T pl st a w) {n sz ty m:Nat} {rows:List (List PV)} {us:Array Value} (hm:m=rows.length) (hrep:RepPs (Own F pl) w us.toList rows.flatten) (hs:∀e∈rows,e.length=sz) (hmax:m≤maxLen):
  Post F N0 pl st w (.c (.own st.up.length n (st.fresh n) m)) (st.new n sz ty (.row rows)).2 (.slice (some ⟨w.heap.size,0,none⟩) m m) {w with heap:=w.heap.push (.cells us ty)}:=by
 obtain ⟨h1,h2⟩:=zt hs
 have hul:us.size=rows.length*sz:=by have:=hrep.1;simp [h1] at this;simpa using this
 refine zBF (x:=one w.heap.size us.size) hr (zAs _ _) (fun j b s h=>by cases (zAE h).2;exact ⟨Nat.le_refl _,by simp⟩) zBm (fun hk=>?_) (fun hg=>?_)
 ·refine .inr ⟨w.heap.size,us.size,us,zF ..,by simp,rfl,by simp only;omega,hs,fun j e o x he hx=>?_⟩
  have ho:o<sz:=by
   rw [←hs e (zn he)]
   by_cases ho:o<e.length
   ·exact ho
   ·rw [List.getElem?_eq_none (by omega)] at hx;cases hx
  have hfl:=h2 j e o he ho
  rw [hx] at hfl
  have hlt:j*sz+o<us.toList.length:=by
   rw [hrep.1]
   by_cases hlt:j*sz+o<rows.flatten.length
   ·exact hlt
   ·rw [List.getElem?_eq_none (by omega)] at hfl;cases hfl
  exact ⟨us.toList[j*sz+o],by simp,hk.repP (hrep.2 _ _ _ (zb hlt) hfl)⟩
 ·exact ⟨rfl,_,hg,Nat.le_refl _,fun _=> .inr ⟨w.heap.size,us.size,m,by rw [zF];rfl,rfl,by simp only;rw [hm];exact hul,Nat.le_refl _,hmax⟩⟩
theorem zEf {α:Type} {n:Nat} {x:α}:∀{l:List (Nat×α)},look n l=some x→(n,x)∈l
 | [],h=>by cases h
 |(m,y)::r,h=>by
  simp only [look] at h
  by_cases e:m=n
  ·rw [if_pos e] at h;cases h;rw [e];exact List.mem_cons_self ..
  ·rw [if_neg e] at h;exact List.mem_cons_of_mem _ (zEf h)
theorem zI2 {cols:List (Nat×Nat×TypeId)} {zero:List PV} (h:zIV cols zero=true) {o:Nat} {q:Nat×TypeId} (hl:look o cols=some q):zero[o]?=some .nl:=by
 have h1:=List.all_eq_true.1 h _ (zEf hl)
 simp only at h1
 cases hz:zero[o]? with
 |none=>rw [hz] at h1;cases h1
 |some x=>
  rw [hz] at h1
  cases x<;>first|rfl|cases h1
theorem zEg (hr:Rel F N0 T pl st a w) {n sz ty m:Nat} {cols:List (Nat×Nat×TypeId)} {rows:List (List PV)} {us:Array Value} (hm:m=rows.length) (hrep:RepPs (Own F pl) w us.toList rows.flatten) (hs:∀e∈rows,e.length=sz) (hmax:m≤maxLen)
  (hnl:∀e∈rows,zIV cols e=true):
  Post F N0 pl st w (.c (.own st.up.length n (st.fresh n) m)) (st.new n sz ty (zDk cols rows)).2 (.slice (some ⟨w.heap.size,0,none⟩) m m) {w with heap:=w.heap.push (.cells us ty)}:=by
 unfold zDk
 split
 ·exact zFz hr hm hrep hs hmax
 obtain ⟨h1,h2⟩:=zt hs
 have hul:us.size=rows.length*sz:=by have:=hrep.1;simp [h1] at this;simpa using this
 refine zBF (x:=one w.heap.size us.size) hr (zAs _ _) (fun j b s h=>by cases (zAE h).2;exact ⟨Nat.le_refl _,by simp⟩) zBm (fun hk=>?_) (fun hg=>?_)
 ·refine .inr ⟨w.heap.size,us.size,us,by rw [zF];rfl,by simp,rfl,by simp only;omega,hs,fun j e o x he hx=>?_,fun c _=>by rw [zF];simp [one]⟩
  have ho:o<sz:=by
   rw [←hs e (zn he)]
   exact (List.getElem?_eq_some_iff.1 hx).1
  have hfl:=h2 j e o he ho
  rw [hx] at hfl
  have hlt:j*sz+o<us.toList.length:=by
   rw [hrep.1]
   exact (List.getElem?_eq_some_iff.1 hfl).1
  have hR:=hk.repP (hrep.2 _ _ _ (zb hlt) hfl)
  refine ⟨us.toList[j*sz+o],by simp,?_⟩
  unfold DCell
  cases hl:look o cols with
  |none=>exact hR
  |some q=>
   have:=zI2 (hnl e (zn he)) hl
   rw [hx] at this
   cases this
   refine .inl ⟨.inl rfl,?_,by rw [zF];simp [one]⟩
   generalize us.toList[j*sz+o]=u at hR
   cases hR
   rfl
 ·exact ⟨rfl,_,hg,Nat.le_refl _,fun _=> .inr ⟨w.heap.size,us.size,m,by rw [zF];rfl,rfl,by simp only;rw [hm];exact hul,Nat.le_refl _,hmax⟩⟩
theorem zH1 {o:Oper} {t e:TypeId} {len dst:Nat} {cols:List (Nat×Nat×TypeId)} {parts:Array (Nat×Operand)} {z:List PV} {ks:List (Nat×KX)} {rows:List (List CV)} {v:AV} (ho:o.op= .buildSlice t len parts) (hu:P.underlying t=some (.slice e)) (hok:zCR P e=true) (hsm:¬len*P.cellsOf e>2^24)
  (hz:zAj P e=some z) (hp:parts.toList.mapM (fun (p:Nat×Operand)=>(kx p.2).map fun x=>(p.1,x))=some ks) (hr:Rel F N0 T pl st a w)
  (h:zAL ((List.replicate len z).map (·.map .p)) (P.cellsOf e) (ks.map fun (j,x)=>(j,st.eval x))=some rows)
  (h2:(∃rs st1,zZ st rows=some (rs,st1)∧v= .c (.own st1.up.length (dst*64) (st1.fresh (dst*64)) len)∧st'=(st1.new (dst*64) (P.cellsOf e) e (bsK cols len rs)).2)∨
   ((rows.flatten).all (·.dep st.up.length)=true∧v= .c (.own st.up.length (dst*64) (st.fresh (dst*64)) len)∧st'=(st.new (dst*64) (P.cellsOf e) e (.box rows.flatten)).2)):
  Runs1 P o a w (zFo F N0 pl st w v st'):=by
 obtain ⟨i,zv,hi,hzv,hzs,h0,hci⟩:=zBN hok
 simp only [zAj,hi,zG,hzv] at hz
 obtain ⟨hl,hk⟩:=zAG hp
 have hlen:len≤maxLen:=by
  have:len*1≤len*P.cellsOf e:=Nat.mul_le_mul_left _ (by omega)
  simp only [maxLen]
  omega
 obtain ⟨hm1,hm2⟩:=zFx (F:=F) (pl:=pl) (w:=w) (e:=e) (n:=len) hz (hzs.trans hci.symm) (by omega)
 have hbase:zK F (st.fr::st.up) pl w (madeCells zv.cells (len*P.cellsOf e)).toList ((List.replicate len z).map (·.map CV.p)).flatten:=by
  rw [←List.map_flatten]
  exact hm1.cs
 obtain ⟨cells,h3,h4,h5,h6⟩:=zDH (ks.map fun (j,x)=>(j,st.eval x)) ((parts.map fun (i,x)=>(i,a.eval x)).toList) _ _ rows (sz:=P.cellsOf e) (fun r hr=>by
  obtain ⟨q,hq,rfl⟩:=List.mem_map.1 hr
  rw [List.length_map];exact hm2 q hq) hbase (by simp [hl]) (fun i p q hp' hq=>by
  simp only [Array.toList_map,List.getElem?_map] at hp' hq
  obtain ⟨⟨j,x⟩,hx,rfl⟩:=Option.map_eq_some_iff.1 hp'
  obtain ⟨⟨j',kq⟩,hq',rfl⟩:=Option.map_eq_some_iff.1 hq
  have h7:=hk i _ _ hx hq'
  simp only [zL,Prod.mk.injEq] at h7
  obtain ⟨kx',hkx,rfl,rfl⟩:=h7
  exact ⟨rfl,zD hr hkx⟩) h
 have hrl:rows.length=len:=by rw [h6];simp
 have hrun:(Instr.buildSlice t len (parts.map fun (i,x)=>(i,a.eval x))).run P w= .ok (.slice (some ⟨w.heap.size,0,none⟩) len len) {w with heap:=w.heap.push (.cells cells e)}:=by
  by_cases hzero:len*P.cellsOf e=0
  ·have hc0:madeCells zv.cells (len*P.cellsOf e)= #[]:=by rw [hzero];simp [madeCells]
   rw [hc0] at h3
   have hci':i.size=P.cellsOf e:=hci.symm
   have hmap:Array.range 0= #[]:=rfl
   simp only [Array.toList_map] at h3
   simp [Instr.buildSlice,run_underlying hu,sizeOf,typeInfo,hi,hci',hzero,hmap,h3,newRow]
  ·have:=run_buildSlice (P:=P) w t e len (parts.map fun (i,x)=>(i,a.eval x)) cells i zv hu hi hzv (by rw [←hci];exact hsm) (by rw [←hci];exact hzero) (by rw [←hci];exact h3)
   exact this
 have hfinal:(execOp a.eval o).run P w= .ok (.value (.slice (some ⟨w.heap.size,0,none⟩) len len)) {w with heap:=w.heap.push (.cells cells e)}:=by
  simp only [execOp,ho,Sem.run_bind,hrun,Result.andThen_ok];rfl
 rcases h2 with ⟨rs,st1,hf,rfl,rfl⟩|⟨hd,rfl,rfl⟩
 ·obtain ⟨pl1,s1,r1,r2,r3⟩:=zB2 hr.mem hr.low h5 hf h4
  refine zU hfinal ⟨zH0 s1 ?_,zBC _ _⟩
  unfold bsK
  split
  ·rename_i h0
   have hrs:rs.length=len:=by omega
   have hnil:rs= []:=zAQ (by omega)
   exact zEg (zFy hr s1) (by omega) r1 r2 hlen (fun e he=>by rw [hnil] at he;cases he)
  ·exact zFz (zFy hr s1) (by omega) r1 r2 hlen
 ·refine zU hfinal ⟨zBF (x:=one w.heap.size rows.flatten.length) hr (zAs _ _) (fun j b s h=>by cases (zAE h).2;exact ⟨Nat.le_refl _,by simp⟩) zBm (fun hk=>?_) (fun hg=>?_),zBC _ _⟩
  ·exact ⟨w.heap.size,cells,zF ..,by simp,hk.repCs h4,fun c hc=>List.all_eq_true.1 hd c hc⟩
  ·refine ⟨rfl,_,hg,Nat.le_refl _,fun _=> .inr ⟨w.heap.size,_,len,by rw [zF];rfl,rfl,?_,Nat.le_refl _,hlen⟩⟩
   simp only
   rw [(zt h5).1,hrl]
theorem zKA {o:Oper} {t e:TypeId} {x y:Operand} {kl kc:KX} {dst:Nat} {cols:List (Nat×Nat×TypeId)} {z:List PV} {l:Int} (ho:o.op= .makeSlice t x y) (hu:P.underlying t=some (.slice e)) (hok:zCR P e=true) (hz:zAj P e=some z) (hx:kx x=some kl) (hy:kx y=some kc) (hr:Rel F N0 T pl st a w) (hnl:zIV cols z=true)
  (h1:zAZ (st.eval kl)=some l) (h2:zAZ (st.eval kc)=some l) (h3:0≤l) (h4:(P.bytesOf e:Int)*l≤140737488355328) (h5:l≤9223372036854775807):
  Runs1 P o a w (zFo F N0 pl st w (.c (.own st.up.length (dst*64) (st.fresh (dst*64)) l.toNat)) (st.new (dst*64) (P.cellsOf e) e (zDk cols (zAS z l.toNat))).2):=by
 obtain ⟨i,zv,hi,hzv,hzs,h0,hci⟩:=zBN hok
 simp only [zAj,hi,zG,hzv] at hz
 have e1:=zAT h1 (zD hr hx)
 have e2:=zAT h2 (zD hr hy)
 have hby:P.bytesOf e=i.bytes:=by simp [Program.bytesOf,hi]
 rw [hby] at h4
 have hrun:=run_make (P:=P) w t e i zv hu hi hzv .i64 .i64 l l h3 (Int.le_refl _) (by omega) h5
 obtain ⟨hm1,hm2⟩:=zFx (F:=F) (pl:=pl) (w:=w) (e:=e) (n:=l.toNat) hz (hzs.trans hci.symm) (by omega)
 refine zU (u:= .slice (some ⟨w.heap.size,0,none⟩) l.toNat l.toNat) (w':={w with heap:=w.heap.push (.cells (madeCells zv.cells (l.toNat*P.cellsOf e)) e)}) ?_
  ⟨zEg hr (by simp [zAS]) hm1 hm2 (by simp only [maxLen];omega) (fun e he=>by rw [(List.mem_replicate.1 he).2];exact hnl),zBC _ _⟩
 simp only [execOp,ho,e1,e2,Sem.run_bind,hrun,Result.andThen_ok,hci]
 rfl
end
end Go.Eng

