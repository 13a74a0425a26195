import Derived.Test.YthhngmnbcmkhpaaGreatDoorE10
set_option linter.unusedVariables false
set_option linter.unusedSimpArgs false
namespace Go.Eng
open Go.RowKit
section
variable {P:Program} {F:Nat→Prop} {G:Nat→Option Obj} {N0:Base G} {T:Nat} {pl pl':Pl} {st st':St} {a:Act} {w w':World} {fs fs':List Frame}
theorem zBN {e:TypeId} (h:zCH P e=true):∃i z,P.info? e=some i∧i.zero=some z∧z.cells.size=i.size∧0<i.size∧P.cellsOf e=i.size:=by
 unfold zCH at h
 split at h
 ·rename_i i hi
  split at h
  ·rename_i z hz
   have:=of_decide_eq_true h
   exact ⟨i,z,hi,hz,this.1,this.2,by simp [Program.cellsOf,hi]⟩
  ·cases h
 ·cases h
theorem zHK (z:Array Value) (n i:Nat) (hi:i<n) (hz:0<z.size):(madeCells z n)[i]?=z[i%z.size]?:=by
 have hm:i%z.size<z.size:=Nat.mod_lt _ hz
 simp [madeCells,hi,hm]
theorem zDO {e:TypeId} {z:Value} {zs:List PV} {sz n:Nat} (hz:z.cells.toList.mapM zDC=some zs) (hs:z.cells.size=sz) (h0:0<sz):RepPs (Own F pl) w (madeCells z.cells (n*sz)).toList (List.replicate n zs).flatten∧(∀r∈List.replicate n zs,r.length=sz):=by
 have hzr:=zE9 (F:=F) (pl:=pl) (w:=w) hz
 have hzl:zs.length=sz:=by have:=hzr.1;simp at this;omega
 have hall:∀r∈List.replicate n zs,r.length=sz:=fun r hr=>by rw [(List.mem_replicate.1 hr).2];exact hzl
 obtain ⟨h1,h2⟩:=zi hall
 refine ⟨⟨by simp [h1,size_madeCells],fun i u x hu hx=>?_⟩,hall⟩
 have hi:i<n*sz:=by
  by_cases hi:i<n*sz
  ·exact hi
  ·rw [List.getElem?_eq_none (by simp [size_madeCells];omega)] at hu;cases hu
 obtain ⟨q,o,hq,ho,rfl⟩:∃q o,q<n∧o<sz∧i=q*sz+o:=⟨i/sz,i%sz,by rw [Nat.div_lt_iff_lt_mul h0];exact hi,Nat.mod_lt _ h0,by rw [Nat.mul_comm];exact (Nat.div_add_mod i sz).symm⟩
 rw [h2 q zs o (by rw [List.getElem?_replicate];simp [hq]) ho] at hx
 rw [Array.getElem?_toList,zHK _ _ _ hi (by omega),hs] at hu
 have hmod:(q*sz+o)%sz=o:=by rw [Nat.mul_comm,Nat.mul_add_mod,Nat.mod_eq_of_lt ho]
 rw [hmod] at hu
 exact hzr.2 o u x (by simpa using hu) hx
theorem zHL {st1:St} {pl1:Pl} (hr:Rel F N0 T pl st a w) (h:Same F N0 pl st st1 w pl1):Rel F N0 T pl1 st1 a w:=
 ⟨h.mem,fun n v hv=>h.keep.repA (hr.tmps n v (by rw [←h.t];exact hv)),hr.size,hr.defers,hr.low⟩
theorem zGc {st1:St} {pl1:Pl} {v:AV} {st2:St} {u:Value} (h:Same F N0 pl st st1 w pl1) (h2:Post F N0 pl1 st1 w v st2 u w'):Post F N0 pl st w v st2 u w':=by
 obtain ⟨⟨pl2,h3,h4,h5⟩,h6⟩:=h2
 exact ⟨⟨pl2,h3,h4,h.keep.trans h5⟩,h6.trans h.t⟩
theorem zFB (hr:Rel F N0 T pl st a w) {n sz ty m:Nat} {rows:List (List PV)} {us:Array Value} (hm:m=rows.length) (hrep:RepPs (Own F pl) w us.toList rows.flatten) (hs:∀e∈rows,e.length=sz) (hmax:m≤maxLen):
  Post F N0 pl st w (.c (.own st.up.length n (st.fresh n) m)) (st.new n sz ty (.row rows)).2 (.slice (some ⟨w.heap.size,0,none⟩) m m) {w with heap:=w.heap.push (.cells us ty)}:=by
 obtain ⟨h1,h2⟩:=zi hs
 have hul:us.size=rows.length*sz:=by have:=hrep.1;simp [h1] at this;simpa using this
 refine zBa (x:=some (w.heap.size,us.size)) hr (zBK _ _) (fun b s h=>by cases h;exact ⟨Nat.le_refl _,by simp⟩) (fun hk=>?_) (fun hg=>?_)
 ·refine .inr ⟨w.heap.size,us.size,us,zF ..,by simp,rfl,by simp only;omega,hs,fun j e o x he hx=>?_⟩
  have ho:o<sz:=by
   rw [←hs e (List.mem_of_getElem? he)]
   by_cases ho:o<e.length
   ·exact ho
   ·rw [List.getElem?_eq_none (by omega)] at hx;cases hx
  have hfl:=h2 j e o he ho
  rw [hx] at hfl
  have hlt:j*sz+o<us.toList.length:=by
   rw [hrep.1]
   by_cases hlt:j*sz+o<rows.flatten.length
   ·exact hlt
   ·rw [List.getElem?_eq_none (by omega)] at hfl;cases hfl
  exact ⟨us.toList[j*sz+o],by simp,hk.repP (hrep.2 _ _ _ (List.getElem?_eq_getElem hlt) hfl)⟩
 ·exact ⟨rfl,_,hg,Nat.le_refl _,fun _=> .inr ⟨w.heap.size,us.size,m,zF ..,rfl,by simp only;rw [hm];exact hul,Nat.le_refl _,hmax⟩⟩
theorem zD7 {o:Oper} {t e:TypeId} {len dst:Nat} {parts:Array (Nat×Operand)} {z:List PV} {ks:List (Nat×KX)} {rows:List (List CV)} {v:AV} (ho:o.op= .buildSlice t len parts) (hu:P.underlying t=some (.slice e)) (hok:zCH P e=true) (hsm:¬len*P.cellsOf e>2^24)
  (hz:zAi P e=some z) (hp:parts.toList.mapM (fun (p:Nat×Operand)=>(kx p.2).map fun x=>(p.1,x))=some ks) (hr:Rel F N0 T pl st a w)
  (h:zAO ((List.replicate len z).map (·.map .p)) (P.cellsOf e) (ks.map fun (j,x)=>(j,st.eval x))=some rows)
  (h2:(∃rs st1,zq st rows=some (rs,st1)∧v= .c (.own st1.up.length (dst*64) (st1.fresh (dst*64)) len)∧st'=(st1.new (dst*64) (P.cellsOf e) e (.row rs)).2)∨
   ((rows.flatten).all (·.dep st.up.length)=true∧v= .c (.own st.up.length (dst*64) (st.fresh (dst*64)) len)∧st'=(st.new (dst*64) (P.cellsOf e) e (.box rows.flatten)).2)):
  Runs1 P o a w (zCr F N0 pl st w v st'):=by
 obtain ⟨i,zv,hi,hzv,hzs,h0,hci⟩:=zBN hok
 simp only [zAi,hi,Option.bind_some,hzv] at hz
 obtain ⟨hl,hk⟩:=zz hp
 have hlen:len≤maxLen:=by
  have:len*1≤len*P.cellsOf e:=Nat.mul_le_mul_left _ (by omega)
  simp only [maxLen]
  omega
 obtain ⟨hm1,hm2⟩:=zDO (F:=F) (pl:=pl) (w:=w) (e:=e) (n:=len) hz (hzs.trans hci.symm) (by omega)
 have hbase:zO F (st.fr::st.up) pl w (madeCells zv.cells (len*P.cellsOf e)).toList ((List.replicate len z).map (·.map CV.p)).flatten:=by
  rw [←List.map_flatten]
  exact hm1.cs
 obtain ⟨cells,h3,h4,h5,h6⟩:=zBc (ks.map fun (j,x)=>(j,st.eval x)) ((parts.map fun (i,x)=>(i,a.eval x)).toList) _ _ rows (sz:=P.cellsOf e) (fun r hr=>by
  obtain ⟨q,hq,rfl⟩:=List.mem_map.1 hr
  rw [List.length_map];exact hm2 q hq) hbase (by simp [hl]) (fun i p q hp' hq=>by
  simp only [Array.toList_map,List.getElem?_map] at hp' hq
  obtain ⟨⟨j,x⟩,hx,rfl⟩:=Option.map_eq_some_iff.1 hp'
  obtain ⟨⟨j',kq⟩,hq',rfl⟩:=Option.map_eq_some_iff.1 hq
  have h7:=hk i _ _ hx hq'
  simp only [Option.map_eq_some_iff,Prod.mk.injEq] at h7
  obtain ⟨kx',hkx,rfl,rfl⟩:=h7
  exact ⟨rfl,zD hr hkx⟩) h
 have hrl:rows.length=len:=by rw [h6];simp
 have hrun:(Instr.buildSlice t len (parts.map fun (i,x)=>(i,a.eval x))).run P w= .ok (.slice (some ⟨w.heap.size,0,none⟩) len len) {w with heap:=w.heap.push (.cells cells e)}:=by
  by_cases hzero:len*P.cellsOf e=0
  ·have hc0:madeCells zv.cells (len*P.cellsOf e)= #[]:=by rw [hzero];simp [madeCells]
   rw [hc0] at h3
   have hci':i.size=P.cellsOf e:=hci.symm
   have hmap:Array.range 0= #[]:=rfl
   simp only [Array.toList_map] at h3
   simp [Instr.buildSlice,run_underlying hu,sizeOf,typeInfo,hi,hci',hzero,hmap,h3,newRow]
  ·have:=run_buildSlice (P:=P) w t e len (parts.map fun (i,x)=>(i,a.eval x)) cells i zv hu hi hzv (by rw [←hci];exact hsm) (by rw [←hci];exact hzero) (by rw [←hci];exact h3)
   exact this
 have hfinal:(execOp a.eval o).run P w= .ok (.value (.slice (some ⟨w.heap.size,0,none⟩) len len)) {w with heap:=w.heap.push (.cells cells e)}:=by
  simp only [execOp,ho,Sem.run_bind,hrun,Result.andThen_ok];rfl
 rcases h2 with ⟨rs,st1,hf,rfl,rfl⟩|⟨hd,rfl,rfl⟩
 ·obtain ⟨pl1,s1,r1,r2,r3⟩:=zBz hr.mem hr.low h5 hf h4
  exact zX hfinal ⟨zGc s1 (zFB (zHL hr s1) (by omega) r1 r2 hlen),zAv _ _⟩
 ·refine zX hfinal ⟨zBa (x:=some (w.heap.size,rows.flatten.length)) hr (zBK _ _) (fun b s h=>by cases h;exact ⟨Nat.le_refl _,by simp⟩) (fun hk=>?_) (fun hg=>?_),zAv _ _⟩
  ·exact ⟨w.heap.size,cells,zF ..,by simp,hk.repCs h4,fun c hc=>List.all_eq_true.1 hd c hc⟩
  ·refine ⟨rfl,_,hg,Nat.le_refl _,fun _=> .inr ⟨w.heap.size,_,len,zF ..,rfl,?_,Nat.le_refl _,hlen⟩⟩
   simp only
   rw [(zi h5).1,hrl]
def wkC:CV→PV
 | .p x=>x.weak
 |_=> .nl
theorem zB0 {st:St}:∀{r:List CV},r.all isP=true→zw st r=some (r.map wkC,st)
 | [],_=>rfl
 |c::r,h=>by
  rw [List.all_cons,Bool.and_eq_true] at h
  cases c with
  |p x=>simp only [zw,zAs,Option.bind_some,zB0 h.2];rfl
  |_=>simp [isP] at h
theorem zBE {st:St}:∀{rows:List (List CV)},(∀r∈rows,r.all isP=true)→zq st rows=some (rows.map fun r=>r.map wkC,st)
 | [],_=>rfl
 |r::rows,h=>by
  simp only [zq,zB0 (h r (List.mem_cons_self ..)),Option.bind_some,zBE fun x hx=>h x (List.mem_cons_of_mem _ hx)]
  rfl
theorem zGd {rows:List (List CV)} (h:∀r∈rows,r.all isP=true) {us:List Value} (hr:zO F fs pl w us rows.flatten):RepPs (Own F pl) w us (rows.map fun r=>r.map wkC).flatten:=by
 rw [←List.map_flatten]
 refine ⟨by rw [List.length_map];exact hr.1,fun i u x hu hx=>?_⟩
 rw [List.getElem?_map] at hx
 obtain ⟨c,hc,rfl⟩:=Option.map_eq_some_iff.1 hx
 obtain ⟨r,h1,h2⟩:=List.mem_flatten.1 (List.mem_of_getElem? hc)
 have h3:=List.all_eq_true.1 (h r h1) c h2
 have h4:=(hr.2 i u c hu hc).1
 cases c with
 |p x=>exact RepP.weak h4
 |_=>simp [isP] at h3
theorem zBd {n:Nat}:∀{ps:List (Nat×AV)} {rows:List (List CV)},rows.length=n→(∀q∈ps,q.1<n∧∃x,q.2= .c (.p x))→(∀r∈rows,r.all isP=true)→∃out,zAO rows 1 ps=some out∧∀r∈out,r.all isP=true
 | [],rows,_,_,h=>⟨rows,rfl,h⟩
 |(j,a)::ps,rows,hl,hp,h=>by
  obtain ⟨h1,x,h2⟩:=hp _ (List.mem_cons_self ..)
  simp only at h1 h2
  subst h2
  have hj:j<rows.length:=by omega
  simp only [zAO,AV.cvs,List.length_singleton,List.all_cons,CV.known,List.all_nil,Bool.and_true,hj,and_self,if_true]
  refine zBd (n:=n) (by simpa using hl) (fun q hq=>hp q (List.mem_cons_of_mem _ hq)) fun r hr=>?_
  rcases List.mem_or_eq_of_mem_set hr with hr|rfl
  ·exact h r hr
  ·simp [isP]
theorem zHM {x:Operand} {k:KX} (h:zB7 x=true) (hk:kx x=some k):∃v y,x= .const v∧zDC v=some y∧k= .k (.c (.p y)):=by
 cases x with
 |const v=>
  simp only [zB7] at h
  obtain ⟨y,hy⟩:=Option.isSome_iff_exists.1 h
  refine ⟨v,y,rfl,hy,?_⟩
  simp only [kx] at hk
  have:zG8 v=some (.c (.p y)):=by
   unfold zDC at hy
   split at hy<;>first|(cases hy;rfl)|cases hy
  rw [this] at hk
  exact (Option.some.inj hk).symm
 |_=>simp [zB7] at h
theorem zEl (w0:World) {o:Oper} {t e:TypeId} {len:Nat} {parts:Array (Nat×Operand)} {z:List PV} {ks:List (Nat×KX)} (ho:o.op= .buildSlice t len parts) (hu:P.underlying t=some (.slice e)) (hok:zCH P e=true) (hsm:¬len*P.cellsOf e>2^24)
  (hb:zE6 P e len parts=false) (h0:parts.size≠0) (hcst:parts.toList.all (fun p=>zB7 p.2)=true)
  (hz:zAi P e=some z) (hp:parts.toList.mapM (fun (p:Nat×Operand)=>(kx p.2).map fun x=>(p.1,x))=some ks):
  ∃(rows:List (List CV)) (cells:Array Value),(∀st:St,zAO ((List.replicate len z).map (·.map .p)) (P.cellsOf e) (ks.map fun (j,x)=>(j,st.eval x))=some rows)∧(∀r∈rows,r.all isP=true)∧
   (∀r∈rows,r.length=P.cellsOf e)∧rows.length=len∧len≤maxLen∧(∀{F:Nat→Prop} {fs:List Frame} {pl:Pl} {w:World},zO F fs pl w cells.toList rows.flatten)∧
   ∀(a:Act) (w:World),(execOp a.eval o).run P w= .ok (.value (.slice (some ⟨w.heap.size,0,none⟩) len len)) {w with heap:=w.heap.push (.cells cells e)}:=by
 obtain ⟨i,zv,hi,hzv,hzs,hpos,hci⟩:=zBN hok
 simp only [zAi,hi,Option.bind_some,hzv] at hz
 obtain ⟨hl,hk⟩:=zz hp
 have hlen:len≤maxLen:=by
  have:len*1≤len*P.cellsOf e:=Nat.mul_le_mul_left _ (by omega)
  simp only [maxLen]
  omega
 have hall:=List.all_eq_true.1 hcst
 have hgood:∀p∈parts.toList,p.1<len∧P.cellsOf e=1:=fun p hp=>by
  have:=List.any_eq_false.1 hb p hp
  rw [hall p hp] at this
  simpa using this
 have hone:P.cellsOf e=1:=by
  have hp0:parts[0]∈parts.toList:=by simp
  exact (hgood _ hp0).2
 have hcp:∀(j:Nat) (q:Nat×KX),ks[j]?=some q→∃v y,parts.toList[j]?=some (q.1,.const v)∧zDC v=some y∧q.2= .k (.c (.p y)):=fun j q hq=>by
  obtain ⟨p,hpj⟩:∃p,parts.toList[j]?=some p:=by
   have:j<ks.length:=(List.getElem?_eq_some_iff.1 hq).1
   exact ⟨_,List.getElem?_eq_getElem (by omega)⟩
  have h1:=hk j p q hpj hq
  obtain ⟨x,hx,rfl⟩:=Option.map_eq_some_iff.1 h1
  obtain ⟨v,y,h2,h3,h4⟩:=zHM (hall p (List.mem_of_getElem? hpj)) hx
  exact ⟨v,y,by rw [hpj,←h2],h3,h4⟩
 have hmem:∀q∈ks,∃v y,(q.1,Operand.const v)∈parts.toList∧zDC v=some y∧q.2= .k (.c (.p y)):=fun q hq=>by
  obtain ⟨j,hj⟩:=List.getElem?_of_mem hq
  obtain ⟨v,y,h1,h2⟩:=hcp j q hj
  exact ⟨v,y,List.mem_of_getElem? h1,h2⟩
 have hev:∀st st2:St,(ks.map fun (q:Nat×KX)=>(q.1,st.eval q.2))=ks.map fun (q:Nat×KX)=>(q.1,st2.eval q.2):=fun st st2=>List.map_congr_left fun q hq=>by
  obtain ⟨v,y,_,_,h⟩:=hmem q hq
  rw [h]
  rfl
 let st0:St:=⟨[],[],[]⟩
 obtain ⟨rows,hfill,hpl⟩:=zBd (n:=len) (ps:=ks.map fun (q:Nat×KX)=>(q.1,st0.eval q.2)) (rows:=(List.replicate len z).map (·.map CV.p)) (by simp) (fun q hq=>by
  obtain ⟨q',hq',rfl⟩:=List.mem_map.1 hq
  obtain ⟨v,y,h1,_,h2⟩:=hmem q' hq'
  refine ⟨(hgood _ h1).1,y,?_⟩
  show st0.eval q'.2=_
  rw [h2]
  rfl) (fun r hr=>by
  obtain ⟨q,hq,rfl⟩:=List.mem_map.1 hr
  rw [List.all_eq_true]
  intro c hc
  obtain ⟨x,_,rfl⟩:=List.mem_map.1 hc
  rfl)
 rw [←hone] at hfill
 have key:∀{F:Nat→Prop} {fs:List Frame} {pl:Pl} {w:World} (a:Act),∃cells,Instr.fill (fun i=>some (i*P.cellsOf e,P.cellsOf e)) (madeCells zv.cells (len*P.cellsOf e)) ((parts.map fun (i,x)=>(i,a.eval x)).toList)=some cells∧zO F fs pl w cells.toList rows.flatten∧(∀r∈rows,r.length=P.cellsOf e)∧rows.length=len:=fun {F fs pl w} a=>by
  obtain ⟨hm1,hm2⟩:=zDO (F:=F) (pl:=pl) (w:=w) (e:=e) (n:=len) hz (hzs.trans hci.symm) (by omega)
  have hbase:zO F fs pl w (madeCells zv.cells (len*P.cellsOf e)).toList ((List.replicate len z).map (·.map CV.p)).flatten:=by
   rw [←List.map_flatten]
   exact hm1.cs
  obtain ⟨cells,h3,h4,h5,h6⟩:=zBc (ks.map fun (q:Nat×KX)=>(q.1,st0.eval q.2)) ((parts.map fun (i,x)=>(i,a.eval x)).toList) _ _ rows (sz:=P.cellsOf e) (fun r hr=>by
   obtain ⟨q,hq,rfl⟩:=List.mem_map.1 hr
   rw [List.length_map];exact hm2 q hq) hbase (by simp [hl]) (fun i p q hp' hq=>by
   simp only [Array.toList_map,List.getElem?_map] at hp' hq
   obtain ⟨⟨j,x⟩,hx,rfl⟩:=Option.map_eq_some_iff.1 hp'
   obtain ⟨⟨j',kq⟩,hq',rfl⟩:=Option.map_eq_some_iff.1 hq
   obtain ⟨v,y,h1,h2,h3⟩:=hcp i _ hq'
   rw [hx] at h1
   cases h1
   simp only at h3
   subst h3
   exact ⟨rfl,zFj h2⟩) hfill
  exact ⟨cells,h3,h4,h5,by rw [h6];simp⟩
 have aev:∀a a2:Act,(parts.map fun (p:Nat×Operand)=>(p.1,a.eval p.2))=parts.map fun (p:Nat×Operand)=>(p.1,a2.eval p.2):=fun a a2=>by
  apply Array.ext'
  simp only [Array.toList_map]
  refine List.map_congr_left fun p hp=>?_
  have h1:=hall p hp
  cases h2:p.2 with
  |const v=>rfl
  |_=>rw [h2] at h1;simp [zB7] at h1
 let a0:Act:=⟨#[],[]⟩
 obtain ⟨cells,h3,_,h5,h6⟩:=key (F:=fun _=>False) (fs:= []) (pl:=fun _ _=>none) (w:=w0) a0
 refine ⟨rows,cells,fun st=>by rw [show (ks.map fun (j,x)=>(j,st.eval x))=ks.map fun (q:Nat×KX)=>(q.1,st.eval q.2) from rfl,hev st st0];exact hfill,hpl,h5,h6,hlen,fun {F fs pl w}=>?_,fun a w=>?_⟩
 ·obtain ⟨c2,g3,g4,_⟩:=key (F:=F) (fs:=fs) (pl:=pl) (w:=w) a0
  rw [h3] at g3
  cases g3
  exact g4
 ·have h3:Instr.fill (fun i=>some (i*P.cellsOf e,P.cellsOf e)) (madeCells zv.cells (len*P.cellsOf e)) ((parts.map fun (i,x)=>(i,a.eval x)).toList)=some cells:=by
   rw [show (parts.map fun (i,x)=>(i,a.eval x))=parts.map fun (p:Nat×Operand)=>(p.1,a.eval p.2) from rfl,aev a a0]
   exact h3
  have hrun:(Instr.buildSlice t len (parts.map fun (i,x)=>(i,a.eval x))).run P w= .ok (.slice (some ⟨w.heap.size,0,none⟩) len len) {w with heap:=w.heap.push (.cells cells e)}:=by
   by_cases hzero:len*P.cellsOf e=0
   ·have hc0:madeCells zv.cells (len*P.cellsOf e)= #[]:=by rw [hzero];simp [madeCells]
    rw [hc0] at h3
    have hci':i.size=P.cellsOf e:=hci.symm
    have hmap:Array.range 0= #[]:=rfl
    simp only [Array.toList_map] at h3
    simp [Instr.buildSlice,run_underlying hu,sizeOf,typeInfo,hi,hci',hzero,hmap,h3,newRow]
   ·have:=run_buildSlice (P:=P) w t e len (parts.map fun (i,x)=>(i,a.eval x)) cells i zv hu hi hzv (by rw [←hci];exact hsm) (by rw [←hci];exact hzero) (by rw [←hci];exact h3)
    exact this
  simp only [execOp,ho,Sem.run_bind,hrun,Result.andThen_ok]
  rfl
theorem zGF {o:Oper} {t e:TypeId} {x y:Operand} {kl kc:KX} {dst:Nat} {z:List PV} {l:Int} (ho:o.op= .makeSlice t x y) (hu:P.underlying t=some (.slice e)) (hok:zCH P e=true) (hz:zAi P e=some z) (hx:kx x=some kl) (hy:kx y=some kc) (hr:Rel F N0 T pl st a w)
  (h1:zAm (st.eval kl)=some l) (h2:zAm (st.eval kc)=some l) (h3:0≤l) (h4:(P.bytesOf e:Int)*l≤140737488355328) (h5:l≤9223372036854775807):
  Runs1 P o a w (zCr F N0 pl st w (.c (.own st.up.length (dst*64) (st.fresh (dst*64)) l.toNat)) (st.new (dst*64) (P.cellsOf e) e (.row (zAh z l.toNat))).2):=by
 obtain ⟨i,zv,hi,hzv,hzs,h0,hci⟩:=zBN hok
 simp only [zAi,hi,Option.bind_some,hzv] at hz
 have e1:=zAW h1 (zD hr hx)
 have e2:=zAW h2 (zD hr hy)
 have hby:P.bytesOf e=i.bytes:=by simp [Program.bytesOf,hi]
 rw [hby] at h4
 have hrun:=run_make (P:=P) w t e i zv hu hi hzv .i64 .i64 l l h3 (Int.le_refl _) (by omega) h5
 obtain ⟨hm1,hm2⟩:=zDO (F:=F) (pl:=pl) (w:=w) (e:=e) (n:=l.toNat) hz (hzs.trans hci.symm) (by omega)
 refine zX (u:= .slice (some ⟨w.heap.size,0,none⟩) l.toNat l.toNat) (w':={w with heap:=w.heap.push (.cells (madeCells zv.cells (l.toNat*P.cellsOf e)) e)}) ?_
  ⟨zFB hr (by simp [zAh]) hm1 hm2 (by simp only [maxLen];omega),zAv _ _⟩
 simp only [execOp,ho,e1,e2,Sem.run_bind,hrun,Result.andThen_ok,hci]
 rfl
end
end Go.Eng

