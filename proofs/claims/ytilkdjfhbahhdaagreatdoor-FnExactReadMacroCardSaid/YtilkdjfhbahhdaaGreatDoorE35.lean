import Derived.Test.YtilkdjfhbahhdaaGreatDoorE33
import Derived.Shelf.Strings.Builder1
import Derived.Shelf.Strings.SplitShaped
set_option linter.unusedVariables false
namespace Go.Eng
open Go.Shelf Go.RowKit Go.Proofs
section
variable {P:Program} {G:Nat→Option Obj} {ρ:Ren} {F:Nat→Prop} {pl:Pl} {w w':World} {N0:Base G}
structure AppOK (e:TypeId) (v:Value) (n:Nat) (xs:List Value) (s:ByteArray) (w:World) (v':Value) (w':World):Prop where
 own:w'.ownsRow 0 e 1 v' (n+s.size) (xs++Lib.strCells s)
 grown:w.grownBy w' v.ownBlock
 place:∀k,v'.ownBlock=some k→v.ownBlock=some k∨w.heap.size≤k
theorem zLz (t u ty e:TypeId) (i:TypeInfo) (ht:P.underlying t=some (.slice e)) (hu:P.underlying u=some .string) (hi:P.info? e=some i) (hz:i.zero=some (.int .u8 0)) (hsize:i.size=1) (hby:i.bytes=1)
  (v:Value) (n:Nat) (xs:List Value) (hown:w.ownsRow 0 e 1 v n xs) (s:ByteArray) (hb:n+s.size≤140737488355328):
  ∃v' w',(Builtin.append_ #[t,u] ty #[v,.string s]).run P w= .ok v' w'∧AppOK e v n xs s w v' w':=by
 have h63:n+s.size≤maxLen:=by unfold maxLen;omega
 have hxl:xs.length=n:=by simpa using hown.1
 have hlen:(xs++Lib.strCells s).length=(n+s.size)*1:=by rw [List.length_append,hxl,Lib.strCells_length,Nat.mul_one]
 rcases hown.2 with ⟨rfl,rfl⟩|⟨g,cap,cur,rfl,_,hg,hnc,hcm,hcs,htake⟩
 ·obtain ⟨v',w',h1,h2,h3,_⟩:=Lib.run_append_own_string (P:=P) w w.heap.size t u ty e i ht hu hi hz hsize hby (.slice none 0 0) 0 xs ⟨hown.1,.inl ⟨rfl,rfl⟩⟩ s h63 hb (Nat.le_refl _)
  refine ⟨v',w',h1,⟨h2.1,?_⟩,h3,fun k hk=> .inr (h2.lt k hk).1⟩
  rcases h2.2 with h|⟨g,cap,cur,q1,_,q3⟩
  ·exact .inl h
  ·exact .inr ⟨g,cap,cur,q1,Nat.zero_le _,q3⟩
 ·by_cases hroom:n+s.size≤cap
  ·have hcs':cur.size=cap:=by simpa using hcs
   refine ⟨_,_,Lib.run_append_room_string (P:=P) w t u ty e i ht hu hi hsize g n cap cur hg s hroom (by omega),⟨hlen,.inr ⟨g,cap,_,rfl,Nat.zero_le _,setRow_heap w g cur _ e _ hg,hroom,hcm,?_,?_⟩⟩,
    ⟨rfl,rfl,rfl,by simp,fun k _ hk=>setRow_other w g k _ (fun e=>hk (by simp [Value.ownBlock,e]))⟩,fun k hk=> .inl hk⟩
   ·simp only [List.size_toArray,List.length_append,List.length_take,List.length_drop,Array.length_toList,Lib.strCells_length]
    omega
   ·have ht':cur.toList.take n=xs:=by simpa using htake
    rw [ht',←hlen]
    exact List.take_left
  ·have holds:∀j u,xs[j]?=some u→w.cell? ((⟨g,0,none⟩:Addr).add j)=some u:=hown.cells (g:=g) rfl
   have hr:=Lib.run_append_grow_string (P:=P) w t u ty e i (.int .u8 0) ht hu hi hz ⟨g,0,none⟩ n cap xs (by rw [hsize];simpa using hxl) holds s (by omega) (by omega) (by rw [hby];exact growslice_fits (by omega) (by omega))
   refine ⟨_,_,hr,⟨hlen,.inr ⟨w.heap.size,_,_,rfl,Nat.zero_le _,heap_alloc_new w.drew _,grownCap_ge w (n+s.size) cap e,grownCap_le_maxLen w (n+s.size) cap e h63,?_,?_⟩⟩,
    ⟨rfl,rfl,rfl,by simp,fun k hk _=>heap_alloc_old w.drew _ hk⟩,fun k hk=> .inr (by simp only [Value.ownBlock,zQ] at hk;omega)⟩
   ·have hz1:(Value.int IntKind.u8 0).cells.size=1:=rfl
    have hge:=grownCap_ge w (n+s.size) cap e
    simp only [Array.size_append,List.size_toArray,size_zeroCells,hz1,hxl,Lib.strCells_length]
    omega
   ·simp only [Array.toList_append,List.append_assoc]
    rw [←List.append_assoc,←hlen]
    exact List.take_left
theorem zMY {ops:Array Oper} {rest:List Oper} {o:Oper} {a:Act} {Q:Exit→Act→World→Prop} (hgd:o.guard=none) (sl x:Operand) (t u:TypeId) (ho:o.op= .call {callee:= .builtin .append,args:= #[sl,x],argTypes:= #[t,u]})
  (e:TypeId) (i:TypeInfo) (ht:P.underlying t=some (.slice e)) (hu:P.underlying u=some .string) (hi:P.info? e=some i) (hz:i.zero=some (.int .u8 0)) (hsize:i.size=1) (hby:i.bytes=1)
  (v:Value) (n:Nat) (xs:List Value) (hs:a.eval sl=v) (hown:w.ownsRow 0 e 1 v n xs) (s:ByteArray) (hx:a.eval x= .string s) (hb:n+s.size≤140737488355328)
  (h:∀v' w',AppOK e v n xs s w v' w'→wpList P ops Q rest (a.put o.dst v') w'):wpList P ops Q (o::rest) a w:=by
 refine wpList_plain hgd fun K hK=>?_
 obtain ⟨v',w',hr,h2⟩:=zLz (P:=P) (w:=w) t u o.type e i ht hu hi hz hsize hby v n xs hown s hb
 unfold Oper.wp execOp
 simp only [ho,resolve,invoke,builtin,Sem.run_bind,Sem.run_pure,Result.andThen_ok,List.map_toArray,List.map_cons,List.map_nil,hs,hx,hr]
 exact hK _ _ (h v' w' h2)
structure Bld (T e:TypeId) (b:Nat) (v:Value) (bs:List Value) (w:World):Prop where
 blk:∃p,(p= .pointer none∨p= .pointer (some ⟨b,0,none⟩))∧w.heap[b]?=some (.cells #[p,v] T (0,0))
 own:w.ownsRow 0 e 1 v bs.length bs
 ne:v.ownBlock≠some b
theorem Bld.lt {T e:TypeId} {b:Nat} {v:Value} {bs:List Value} (h:Bld T e b v bs w):b<w.heap.size:=by
 obtain ⟨p,_,hb⟩:=h.blk
 exact (Array.getElem?_eq_some_iff.1 hb).1
structure BStep (b:Nat) (v:Value) (w w':World):Prop where
 os:w'.os=w.os
 tape:w'.tape=w.tape
 output:w'.output=w.output
 size:w.heap.size≤w'.heap.size
 block:∀k,k<w.heap.size→k≠b→v.ownBlock≠some k→w'.heap[k]?=w.heap[k]?
theorem BStep.refl (b:Nat) (v:Value) (w:World):BStep b v w w:=⟨rfl,rfl,rfl,Nat.le_refl _,fun _ _ _ _=>rfl⟩
theorem BStep.set {b:Nat} {v:Value} (h:BStep b v w w') (j:Nat) (x:Value):BStep b v w (w'.setCell ⟨b,j,none⟩ x):=
 ⟨h.os,h.tape,h.output,by simpa [World.setCell] using h.size,fun k hk hb hv=>(Below.heap_setCell _ _ _ _ (fun e=>hb (by simp [e]))).trans (h.block k hk hb hv)⟩
theorem zJg (L:Lays.n240 P ρ) (X:Builder.X72 P ρ) {b:Nat} {v:Value} {bs:List Value} (h:Bld (ρ.t 72) (ρ.t 5) b v bs w):
  Calls P (ρ.f 240) #[.pointer (some ⟨b,0,none⟩)] w fun e w'=>e= .returned (.tuple #[])∧w'.heap[b]?=some (.cells #[.pointer (some ⟨b,0,none⟩),v] (ρ.t 72) (0,0))∧w'.ownsRow 0 (ρ.t 5) 1 v bs.length bs∧BStep b v w w'∧w'.heap.size=w.heap.size:=by
 obtain ⟨p,hp,hb⟩:=h.blk
 have hat:Lib.BuilderAt (ρ.t 72) (ρ.t 5) 0 b p bs w:=⟨Nat.zero_le _,v,hb,h.own,h.ne⟩
 rcases hp with rfl|rfl
 ·refine (Any.Builder_copyCheck_fresh L X b w hat.cell0 hat.shape hat.frozen0).mono ?_
  rintro e w' ⟨rfl,rfl⟩
  refine ⟨rfl,?_,?_,(BStep.refl b v w).set 0 _,by simp [World.setCell]⟩
  ·simp [World.setCell,Array.getElem?_modify,hb]
  ·exact h.own.kept (row:=some b) ⟨rfl,rfl,rfl,by simp [World.setCell],fun k _ hk=>Below.heap_setCell _ _ _ _ (fun e=>hk (by simp [e]))⟩ (.inr h.ne)
 ·refine (Any.Builder_copyCheck_used L X b w hat.cell0).mono ?_
  rintro e w' ⟨rfl,rfl⟩
  exact ⟨rfl,hb,h.own,BStep.refl _ _ _,rfl⟩
set_option maxHeartbeats 2000000 in
set_option maxRecDepth 100000 in
theorem zJh (L:Lays.n166 P ρ) (X:Builder.Extra P ρ) {b:Nat} {v:Value} {bs:List Value} (s:ByteArray) (h:Bld (ρ.t 72) (ρ.t 5) b v bs w) (hlen:bs.length+s.size≤140737488355328):
  Calls P (ρ.f 166) #[.pointer (some ⟨b,0,none⟩),.string s] w fun e w'=>e= .returned (.tuple #[.int .i64 s.size,.nilIface])∧∃v',Bld (ρ.t 72) (ρ.t 5) b v' (bs++Lib.strCells s) w'∧BStep b v w w'∧∀k,v'.ownBlock=some k→v.ownBlock=some k∨w.heap.size≤k:=by
 obtain ⟨i0,hi,hz0,hz1,hz2⟩:=info_parts X.infoByte
 have mixed:=L.mixed
 have t72:=L.t72;have a72:=L.a72;have z72:=L.z72;have v72:=L.v72;have u72:=run_underlying L.t72
 have t70:=L.t70;have a70:=L.a70;have z70:=L.z70;have v70:=L.v70;have u70:=run_underlying L.t70
 have t37:=L.t37;have a37:=L.a37;have z37:=L.z37;have v37:=L.v37;have u37:=run_underlying L.t37
 have t3:=L.t3;have a3:=L.a3;have z3:=L.z3;have v3:=L.v3;have u3:=run_underlying L.t3
 have t9:=L.t9;have a9:=L.a9;have z9:=L.z9;have v9:=L.v9;have u9:=run_underlying L.t9
 have t4:=L.t4;have a4:=L.a4;have z4:=L.z4;have v4:=L.v4;have u4:=run_underlying L.t4
 have t164:=L.t164;have a164:=L.a164;have z164:=L.z164;have v164:=L.v164;have u164:=run_underlying L.t164
 have t5:=X.t5;have a5:=X.a5;have z5:=X.z5;have v5:=X.v5;have u5:=run_underlying X.t5
 have e240:∀args w,(callFunc (ρ.f 240) args).run P w= .ok (.enter (ρ.f 240) args) w:=enters_of L.f240 (by kernel_rfl) rfl
 go_enter L.f166,Body.n166_ntmps ρ
 go_wp2_with (go_at_fn (ρ.f 240);refine (zJg {L with} X.toX72 h).mono ?_)
 rintro e w1 ⟨rfl,hbk,hown,hst,hsz⟩
 have c0:w1.cell? ⟨b,0,none⟩=some (.pointer (some ⟨b,0,none⟩)):=by rw [Lib.cell_of_heap hbk];rfl
 have c1:w1.cell? ⟨b,1,none⟩=some v:=by rw [Lib.cell_of_heap hbk];rfl
 go_wp2_with (at_builtin;refine zMY rfl _ _ (ρ.t 37) (ρ.t 9) rfl (ρ.t 5) i0 L.t37 L.t9 hi hz0 hz1 hz2 _ _ _ rfl hown s rfl hlen ?_)
 intro v' w2 hA
 have hlt:b<w1.heap.size:=(Array.getElem?_eq_some_iff.1 hbk).1
 have hb2:w2.heap[b]?=some (.cells #[.pointer (some ⟨b,0,none⟩),v] (ρ.t 72) (0,0)):=by
  rw [hA.grown.block b hlt (fun e=>h.ne e.symm)]
  exact hbk
 have d0:w2.cell? ⟨b,0,none⟩=some (.pointer (some ⟨b,0,none⟩)):=by rw [Lib.cell_of_heap hb2];rfl
 have d1:w2.cell? ⟨b,1,none⟩=some v:=by rw [Lib.cell_of_heap hb2];rfl
 have f1:w2.frozen? ⟨b,1,none⟩=false:=Lib.frozen_of_heap hb2 1
 have hwr:=Lib.BuilderAt.put (T:=(ρ.t 72)) (e:=(ρ.t 5)) (Nat.zero_le b) hb2 (bs':=bs++Lib.strCells s) (v':=v') (by simpa [Lib.strCells_length] using hA.own) X.neB5
 have hst2:BStep b v w w2:=⟨hA.grown.os.trans hst.os,hA.grown.tape.trans hst.tape,hA.grown.output.trans hst.output,Nat.le_trans hst.size hA.grown.size,fun k hk h1 h2=>(hA.grown.block k (by omega) (fun e=>h2 e.symm)).trans (hst.block k hk h1 h2)⟩
 obtain ⟨ao,n',cap,rfl⟩:∃ao n' cap,v'= .slice ao n' cap:=by
  rcases hA.own.2 with ⟨hv,_⟩|⟨g,cap,cur,hv,_⟩
  ·exact ⟨_,_,_,hv⟩
  ·exact ⟨_,_,_,hv⟩
 go_wp2
 go_ret2
 obtain ⟨_,vv,q1,q2,q3⟩:=hwr
 have hvv:vv= .slice ao n' cap:=by
  have q4:(w2.setCell ⟨b,1,none⟩ (.slice ao n' cap)).cell? ⟨b,1,none⟩=some vv:=by rw [Lib.cell_of_heap q1];rfl
  have q5:(w2.setCell ⟨b,1,none⟩ (.slice ao n' cap)).heap[b]?=some (.cells #[.pointer (some ⟨b,0,none⟩),.slice ao n' cap] (ρ.t 72) (0,0)):=by simp [World.setCell,Array.getElem?_modify,hb2]
  rw [Lib.cell_of_heap q5] at q4
  exact (Option.some.inj q4).symm
 subst hvv
 exact ⟨rfl,_,⟨⟨_,.inr rfl,q1⟩,q2,q3⟩,hst2.set 1 _,fun k hk=>(hA.place k hk).imp id (fun h=>by omega)⟩
set_option maxHeartbeats 2000000 in
set_option maxRecDepth 100000 in
theorem zIK (L:Lays.n169 P ρ) (X:Builder.Extra P ρ) {b:Nat} {v:Value} (l:List UInt8) (h:Bld (ρ.t 72) (ρ.t 5) b v (Lib.byteCells l) w):
  Calls P (ρ.f 169) #[.pointer (some ⟨b,0,none⟩)] w fun e w'=>e= .returned (.string ⟨l.toArray⟩)∧BStep b v w w'∧w'.heap[b]?=w.heap[b]?:=by
 obtain ⟨p,hp,hbk⟩:=h.blk
 have below:∀{w'},Below w.heap.size w w'→BStep b v w w'∧w'.heap[b]?=w.heap[b]?:=fun hb=>⟨⟨hb.os,hb.tape,hb.output,hb.size,fun k hk _ _=>hb.block k hk⟩,hb.block b h.lt⟩
 cases hl:l with
 |nil=>
  subst hl
  rcases h.own.2 with ⟨rfl,_⟩|⟨g,cap,cur,rfl,_,hg,_,_,_,_⟩
  ·exact (Any.Builder_String_nil L X w.heap.size b p w hbk).mono fun e w' ⟨he,hw⟩=>⟨he,below hw⟩
  ·by_cases hc0:cap=0
   ·subst hc0
    exact (Any.Builder_String_noroom L X w.heap.size b g p cur w (Nat.le_refl _) hbk hg).mono fun e w' ⟨he,hw⟩=>⟨he,below hw⟩
   ·exact (Any.Builder_String_room L X w.heap.size b g cap p w hc0 hbk).mono fun e w' ⟨he,hw⟩=>⟨he,below hw⟩
 |cons x0 l0=>
  have h0:l≠ []:=by rw [hl];simp
  rw [←hl]
  have hl0:l.length≠0:=by simpa using h0
  have hown:=h.own
  rw [Lib.byteCells_length] at hown
  obtain ⟨g,cap,cur,rfl,hg,hnc,hcm,hcs⟩:∃g cap cur,v= .slice (some ⟨g,0,none⟩) l.length cap∧w.heap[g]?=some (.cells cur (ρ.t 5) (0,0))∧l.length≤cap∧cap≤maxLen∧cur.size=cap*1:=by
   rcases hown.2 with ⟨_,hz⟩|⟨g,cap,cur,hv,_,q1,q2,q3,q4,_⟩
   ·exact absurd hz hl0
   ·exact ⟨g,cap,cur,hv,q1,q2,q3,q4⟩
  have c1:w.drew.cell? ⟨b,1,none⟩=some (.slice (some ⟨g,0,none⟩) l.length cap):=by
   have:w.drew.heap[b]?=some (.cells #[p,.slice (some ⟨g,0,none⟩) l.length cap] (ρ.t 72) (0,0)):=hbk
   rw [Lib.cell_of_heap this];rfl
  have hSD:(Builtin.unsafeSliceData_ #[(ρ.t 37)] (ρ.t 127) #[.slice (some ⟨g,0,none⟩) l.length cap]).run P w.drew= .ok (.pointer (some ⟨g,0,none⟩)) w.drew:=
   Lib.run_unsafeSliceData_row _ _ _ _ _ _ (by omega)
  have hUS:(Builtin.unsafeString_ #[(ρ.t 127),(ρ.t 3)] (ρ.t 9) #[.pointer (some ⟨g,0,none⟩),.int .i64 l.length]).run P w.drew= .ok (.string ⟨l.toArray⟩) (w.drew.freeze ⟨g,0,none⟩ l.length):=by
   refine Lib.run_unsafeString_row w.drew (ρ.t 127) (ρ.t 3) (ρ.t 9) (ρ.t 5) L.t127 X.cellsByte g cur.size (by have hg':w.drew.heap[g]?=some (.cells cur (ρ.t 5) (0,0)):=hg;simp [World.shape?,hg']) l h0 (by omega) (by unfold maxLen at hcm;omega) ?_
   intro j x hx
   exact hown.cells (g:=g) rfl j (.int .u8 x.toNat) (by simp [Lib.byteCells,hx])
  have hfr:∀k,k≠g→(w.drew.freeze ⟨g,0,none⟩ l.length).heap[k]?=w.heap[k]?:=fun k hk=>by
   unfold World.freeze
   rw [if_neg hl0]
   show (w.heap.modify g _)[k]?=_
   rw [Array.getElem?_modify,if_neg (fun e=>hk e.symm)]
  have hfin:BStep b (.slice (some ⟨g,0,none⟩) l.length cap) w (w.drew.freeze ⟨g,0,none⟩ l.length)∧(w.drew.freeze ⟨g,0,none⟩ l.length).heap[b]?=w.heap[b]?:=by
   refine ⟨⟨?_,?_,?_,?_,fun k hk _ hv=>hfr k (fun e=>hv (by simp [Value.ownBlock,e]))⟩,hfr b (fun e=>h.ne (by simp [Value.ownBlock,e]))⟩
   ·unfold World.freeze;rw [if_neg hl0];rfl
   ·unfold World.freeze;rw [if_neg hl0];rfl
   ·unfold World.freeze;rw [if_neg hl0];rfl
   ·unfold World.freeze
    rw [if_neg hl0]
    show w.heap.size≤(w.heap.modify g _).size
    rw [Array.size_modify]
    exact Nat.le_refl _
  have mixed:=L.mixed
  have t72:=L.t72;have a72:=L.a72;have z72:=L.z72;have v72:=L.v72;have u72:=run_underlying L.t72
  have t70:=L.t70;have a70:=L.a70;have z70:=L.z70;have v70:=L.v70;have u70:=run_underlying L.t70
  have t37:=L.t37;have a37:=L.a37;have z37:=L.z37;have v37:=L.v37;have u37:=run_underlying L.t37
  have t127:=L.t127;have a127:=L.a127;have z127:=L.z127;have v127:=L.v127;have u127:=run_underlying L.t127
  have t3:=L.t3;have a3:=L.a3;have z3:=L.z3;have v3:=L.v3;have u3:=run_underlying L.t3
  have t9:=L.t9;have a9:=L.a9;have z9:=L.z9;have v9:=L.v9;have u9:=run_underlying L.t9
  have t5:=X.t5;have a5:=X.a5;have z5:=X.z5;have v5:=X.v5;have u5:=run_underlying X.t5
  clear hl
  go_enter L.f169,Body.n169_ntmps ρ
  go_wp2
  go_region_o
  all_goals (go_wp2;go_ret;exact ⟨rfl,hfin⟩)
abbrev fB (T e:TypeId) (g:Nat) (c:List CV) (rows:List (List PV)):List Frame:= [[(0,⟨0,2,T,.box c⟩),(1,⟨g,1,e,.row rows⟩)]]
abbrev cB (g m:Nat):List CV:= [.ptr 0 0 0 0 KO,.own 0 1 g m]
theorem zMo {T e:TypeId} {g:Nat} {c:List CV} {rows:List (List PV)} {n:Nat} {B:Blk} (h:zA 0 n (fB T e g c rows)=some B):(n=0∧B=⟨0,2,T,.box c⟩)∨(n=1∧B=⟨g,1,e,.row rows⟩):=by
 simp only [zA,List.length_nil,if_true,zE] at h
 split at h
 ·rename_i e;cases h;exact .inl ⟨e.symm,rfl⟩
 ·split at h
  ·rename_i e;cases h;exact .inr ⟨e.symm,rfl⟩
  ·cases h
theorem zFQ {T e:TypeId} {g:Nat} {c:List CV} {rows:List (List PV)}:zA 0 0 (fB T e g c rows)=some ⟨0,2,T,.box c⟩:=by simp [zA,zE]
theorem zHb {T e:TypeId} {g:Nat} {c:List CV} {rows:List (List PV)}:zA 0 1 (fB T e g c rows)=some ⟨g,1,e,.row rows⟩:=by simp [zA,zE]
theorem zLJ {T e:TypeId} {m:Nat} {rows:List (List PV)} (hm:MemOK F N0 (fB T e 1 (cB 1 m) rows) pl w) (hl:m=rows.length):
  ∃(b:Nat) (v:Value) (xs:List Value),pl 0 0=one b 2∧Bld T e b v xs w∧xs.length=m∧(∀k,v.ownBlock=some k→∃s,pl 0 1 0=some (k,s))∧(∀(j:Nat) (r:List PV),rows[j]?=some r→∃u x,r= [x]∧xs[j]?=some u∧RepP (Own F pl) w u x)∧
   ∃us,w.heap[b]?=some (.cells us T (0,0))∧zR F (fB T e 1 (cB 1 m) rows) pl w us.toList (cB 1 m):=by
 obtain ⟨b,us,h1,h2,h3,h4⟩:=hm.blk 0 0 _ zFQ
 simp only at h1 h2 h3
 obtain ⟨v0,v,hus⟩:∃v0 v,us= #[v0,v]:=by
  have hlen:us.toList.length=2:=h3.1
  match hq:us.toList,hlen with
  | [v0,v],_=>exact ⟨v0,v,by apply Array.toList_inj.1;rw [hq]⟩
 subst hus
 obtain ⟨⟨q1,B0,q2,q3,q4⟩,_⟩:=h3.2 0 v0 _ rfl rfl
 rw [zFQ] at q2
 cases q2
 obtain ⟨b',s',q5,q6⟩:=q4 rfl
 obtain rfl:b'=b:=by rw [h1] at q5;cases (zAO q5).2;rfl
 have hp:v0= .pointer none∨v0= .pointer (some ⟨b',0,none⟩):=by
  rcases q6 with ⟨q,_⟩|⟨_,q⟩
  ·exact absurd rfl q
  ·exact q
 obtain ⟨⟨r1,R0,r2,r3,r4⟩,_⟩:=h3.2 1 v _ rfl rfl
 rw [zHb] at r2
 cases r2
 have hr:=hm.blk 0 1 _ zHb
 have fin:∀xs:List Value,xs.length=m→w.ownsRow 0 e 1 v m xs→(∀k,v.ownBlock=some k→∃s,pl 0 1 0=some (k,s))→(∀(j:Nat) (r:List PV),rows[j]?=some r→∃u x,r= [x]∧xs[j]?=some u∧RepP (Own F pl) w u x)→_:=fun xs e1 e2 e3 e4=>
  (⟨b',v,xs,h1,⟨⟨v0,hp,h2⟩,by rw [e1];exact e2,fun e5=>by
   obtain ⟨s,e6⟩:=e3 b' e5
   have:=(hm.inj _ _ _ _ _ _ b' _ _ (show pl 0 0 0=some (b',_) by rw [h1];rfl) e6).2.1
   omega⟩,e1,e3,e4,_,h2,h3⟩:∃(b:Nat) (v:Value) (xs:List Value),pl 0 0=one b 2∧Bld T e b v xs w∧xs.length=m∧(∀k,v.ownBlock=some k→∃s,pl 0 1 0=some (k,s))∧(∀(j:Nat) (r:List PV),rows[j]?=some r→∃u x,r= [x]∧xs[j]?=some u∧RepP (Own F pl) w u x)∧
   ∃us,w.heap[b]?=some (.cells us T (0,0))∧zR F (fB T e 1 (cB 1 m) rows) pl w us.toList (cB 1 m))
 rcases r4 rfl with ⟨rfl,hm0,hpn⟩|⟨g,s,cap,hpg,rfl,hs,hmc,hcm⟩
 ·have:rows= []:=zAi (by omega)
  subst this
  exact fin [] (by simpa using hm0.symm) ⟨by simp [hm0],.inl ⟨rfl,hm0⟩⟩ (fun k hk=>by cases hk) (fun j r hr=>by simp at hr)
 ·rcases hr with ⟨_,h5⟩|⟨g',s',us1,h5,h6,h7,h8,h9,h10⟩
  ·exact (zBT hpg h5).elim
  ·have h5:pl 0 1 0=some (g',s'):=by rw [show pl 0 1=one g' s' from h5];rfl
   have h6:w.heap[g']?=some (.cells us1 e (0,0)):=h6
   have h8:rows.length*1≤s':=h8
   have h9:∀r∈rows,r.length=1:=h9
   rw [hpg] at h5
   cases h5
   have hsz:us1.toList.length=cap:=by rw [Array.length_toList,h7,hs];simp
   refine fin (us1.toList.take m) (by rw [List.length_take];omega) ⟨by rw [List.length_take];omega,.inr ⟨g,cap,us1,rfl,Nat.zero_le _,h6,hmc,hcm,by simpa using hsz,by simp⟩⟩ (fun k hk=>by cases hk;exact ⟨_,hpg⟩) (fun j r hr=>?_)
   have hj:j<m:=by rw [hl];exact (List.getElem?_eq_some_iff.1 hr).1
   have hr1:=h9 r (zy hr)
   obtain ⟨x,rfl⟩:∃x,r= [x]:=by
    match r,hr1 with
    | [x],_=>exact ⟨x,rfl⟩
   obtain ⟨u,h11,h12⟩:=h10 j [x] 0 x hr rfl
   refine ⟨u,x,rfl,?_,h12⟩
   rw [List.getElem?_take_of_lt hj]
   simpa using h11
theorem zGf {T e:TypeId} {m:Nat} {rows rows':List (List PV)} {b:Nat} {v u:Value} {c:List CV} {us:Array Value} {x:AV} {y:Option (Nat×Nat)} (hm:MemOK F N0 (fB T e 1 (cB 1 m) rows) pl w) (hN:N0.n≤w.heap.size) (hb:pl 0 0=one b 2) (hs:BStep b v w w')
  (hown:∀k,v.ownBlock=some k→∃s,pl 0 1 0=some (k,s)) (hy:∀k s,y=some (k,s)→k<w'.heap.size∧k≠b∧((∃s0,pl 0 1 0=some (k,s0))∨w.heap.size≤k)) (hus:w'.heap[b]?=some (.cells us T (0,0))) (hc2:c.length=2)
  (hc:∀pl':Pl,pl' 0 0=one b 2→pl' 0 1 0=y→zR F ([]::fB T e 2 c rows') pl' w' us.toList c) (hd:∀x∈c,x.dep 0=true)
  (hrow:∀pl':Pl,(∀k,Own F pl' k→Own F pl k∨w.heap.size≤k)→(rows'= []∧y=none)∨∃g s us1,y=some (g,s)∧w'.heap[g]?=some (.cells us1 e (0,0))∧us1.size=s∧rows'.length*1≤s∧(∀r∈rows',r.length=1)∧∀j r o z,rows'[j]?=some r→r[o]?=some z→∃v,us1[j*1+o]?=some v∧RepP (Own F pl') w' v z)
  (hx:∀q∈x.cvs,isP q=true) (hv:∀pl',zc F ([]::fB T e 2 c rows') pl' w' u x):RetOK F N0 (fB T e 1 (cB 1 m) rows) pl w ⟨x,fB T e 2 c rows',[]⟩ u w':=by
 let pl':Pl:=fun d n=>if d=0∧n=0 then one b 2 else if d=0∧n=1 then pcO y else nop
 have p0:pl' 0 0=one b 2:=by simp [pl']
 have p1:pl' 0 1=pcO y:=by simp [pl']
 have p1':pl' 0 1 0=y:=by rw [p1];rcases y with _|⟨_,_⟩<;>rfl
 have hb0:pl 0 0 0=some (b,2):=by rw [hb];rfl
 have px:∀{d n j k s},pl' d n j=some (k,s)→(d=0∧n=0∧j=0∧k=b∧s=2)∨(d=0∧n=1∧j=0∧y=some (k,s)):=fun {d n j k s} h=>by
  simp only [pl'] at h
  split at h
  ·rename_i e;obtain ⟨e3,e4⟩:=zAO h;cases e4;exact .inl ⟨e.1,e.2,e3,rfl,rfl⟩
  ·split at h
   ·rename_i e
    rcases y with _|⟨_,_⟩
    ·cases h
    ·obtain ⟨e3,e4⟩:=zAO h
     exact .inr ⟨e.1,e.2,e3,congrArg some e4.symm⟩
   ·cases h
 have hstep:Step pl w w':=⟨hs.os,hs.tape,hs.output,hs.size,fun k hk hn=>hs.block k hk (fun e=>hn 0 0 0 2 (by rw [e];exact hb0)) (fun e=>by obtain ⟨s,h⟩:=hown k e;exact hn 0 1 0 s h)⟩
 have old:∀{d n j k s},pl' d n j=some (k,s)→(∃d0 n0 j0 s0,pl d0 n0 j0=some (k,s0))∨w.heap.size≤k:=fun {d n j k s} h=>by
  rcases px h with ⟨_,_,_,rfl,_⟩|⟨_,_,_,h⟩
  ·exact .inl ⟨0,0,0,2,hb0⟩
  ·rcases (hy k s h).2.2 with ⟨s0,h0⟩|h0
   ·exact .inl ⟨0,1,0,s0,h0⟩
   ·exact .inr h0
 have hbl:b<w'.heap.size:=(Array.getElem?_eq_some_iff.1 hus).1
 have gt:∀d n B,zA d n ([]::fB T e 2 c rows')=some B→d=0∧((n=0∧B=⟨0,2,T,.box c⟩)∨(n=1∧B=⟨2,1,e,.row rows'⟩)):=fun d n B h=>by
  rw [zAu] at h
  have hlt:=zM h
  have hd0:d=0:=by simp at hlt;exact hlt
  subst hd0
  exact ⟨rfl,zMo h⟩
 have hmem:MemOK F N0 ([]::fB T e 2 c rows') pl' w':=by
  refine ⟨fun d n j k s h=>?_,fun d n j d2 n2 j2 k s s2 h h2=>?_,fun d n B hB=>?_,fun k hk=>Nat.lt_of_lt_of_le (hm.fsz k hk) hs.size,zA7 hm hstep.block⟩
  ·rcases px h with ⟨rfl,rfl,rfl,rfl,rfl⟩|⟨rfl,rfl,rfl,hy1⟩
   ·obtain ⟨x1,x2,x3,_⟩:=hm.live 0 0 0 _ _ hb0
    exact ⟨x1,hbl,x3,_,by rw [zAu];exact zFQ⟩
   ·obtain ⟨x1,_,x2⟩:=hy k s hy1
    refine ⟨?_,x1,?_,_,by rw [zAu];exact zHb⟩
    ·rcases x2 with ⟨s0,h0⟩|h0
     ·exact (hm.live _ _ _ _ _ h0).1
     ·omega
    ·rcases x2 with ⟨s0,h0⟩|h0
     ·exact (hm.live _ _ _ _ _ h0).2.2.1
     ·intro hF;have:=hm.fsz k hF;omega
  ·rcases px h with ⟨rfl,rfl,rfl,rfl,rfl⟩|⟨rfl,rfl,rfl,hy1⟩<;>rcases px h2 with ⟨rfl,rfl,rfl,e1,rfl⟩|⟨rfl,rfl,rfl,hy2⟩
   ·exact ⟨rfl,rfl,rfl⟩
   ·exact absurd rfl (hy _ _ hy2).2.1
   ·exact absurd e1 (hy _ _ hy1).2.1
   ·exact ⟨rfl,rfl,rfl⟩
  ·obtain ⟨hd0,hB2⟩:=gt d n B hB
   clear hB
   subst hd0
   rcases hB2 with ⟨rfl,rfl⟩|⟨rfl,rfl⟩
   ·exact ⟨b,us,by rw [p0,hc2],hus,hc pl' p0 p1',hd⟩
   ·rcases hrow pl' (fun k hk=>by
     rcases hk with hk|⟨d,n,j,s,hk⟩
     ·exact .inl (.inl hk)
     ·rcases old hk with ⟨d0,n0,j0,s0,h0⟩|h0
      ·exact .inl (.inr ⟨d0,n0,j0,s0,h0⟩)
      ·exact .inr h0) with ⟨h1,h2⟩|⟨g,s,us1,h1,h2,h3,h4,h5,h6⟩
    ·exact .inl ⟨h1,p1.trans (by rw [h2];rfl)⟩
    ·exact .inr ⟨g,s,us1,p1.trans (by rw [h1];rfl),h2,h3,h4,h5,h6⟩
 refine ⟨⟨pl',?_,hmem,hstep,rfl,fun d n B hB=>?_,fun d n j k s h=>old h⟩,fun q hq=>?_,fun B hB=>by cases hB⟩
 ·rw [zCd (fun _=>rfl) hx]
  exact hv pl'
 ·have hlt:=zM hB
  have hd0:d=0:=by simp at hlt;exact hlt
  subst hd0
  rcases zMo hB with ⟨rfl,rfl⟩|⟨rfl,rfl⟩
  ·exact ⟨_,zFQ,fun _=>⟨rfl,Ext.of (by rw [p0,hb]),rfl⟩⟩
  ·exact ⟨_,zHb,fun h=>by cases h⟩
 ·have:=hx q hq
  cases q with
  |p z=>rfl
  |_=>simp [isP] at this
def byR (c:UInt8):List PV:= [.i .u8 c.toNat]
def zX (s:ByteArray) (m:Nat) (rows:List (List PV)):Option (Int×Nat×List (List PV)):=if m=rows.length∧m+s.size≤140737488355328 then some (s.size,m+s.size,rows++s.data.toList.map byR) else none
def inB (T e:TypeId) (l:List Nat):Bool:=l== [0,0,2,T,0,0,0,0,KO,0,1,1,1,1,1,e]
def zAD (T e:TypeId):List AV→List Frame→Option Res
 | [.c (.ptr a0 a1 a2 a3 a4),.c (.p (.s s))],[[(n0,⟨g0,z0,t0,.box [.ptr d1 n1 g1 j1 o1,.own d2 n2 g2 m]⟩),(n3,⟨g3,z3,t3,.row rows⟩)]]=>if (inB T e [n0,g0,z0,t0,d1,n1,g1,j1,o1,d2,n2,g2,n3,g3,z3,t3]&& [a0,a1,a2,a3,a4]== [0,0,0,0,0])=true then
   (zX s m rows).map fun r=>⟨.tup [(false,[.p (.i .i64 r.1)]),(false,[.p .nif])],fB T e 2 (cB 2 r.2.1) r.2.2,[]⟩ else none
 |_,_=>none
theorem zLK {T e:TypeId} {n0 g0 z0 t0 d1 n1 g1 j1 o1 d2 n2 g2 n3 g3 z3 t3:Nat} (h:inB T e [n0,g0,z0,t0,d1,n1,g1,j1,o1,d2,n2,g2,n3,g3,z3,t3]=true):
  n0=0∧g0=0∧z0=2∧t0=T∧d1=0∧n1=0∧g1=0∧j1=0∧o1=KO∧d2=0∧n2=1∧g2=1∧n3=1∧g3=1∧z3=1∧t3=e:=by
 have h:=eq_of_beq h
 simp only [List.cons.injEq,and_true] at h
 exact h
theorem zIL {T e:TypeId} {m:Nat} {rows:List (List PV)} {b:Nat} {v:Value} (hm:MemOK F N0 (fB T e 1 (cB 1 m) rows) pl w) (hb:pl 0 0=one b 2) (hs:BStep b v w w') (hown:∀k,v.ownBlock=some k→∃s,pl 0 1 0=some (k,s)) {pl':Pl} (ho:∀k,Own F pl' k→Own F pl k∨w.heap.size≤k)
  {u:Value} {x:PV} (h:RepP (Own F pl) w u x):RepP (Own F pl') w' u x:=
 h.step (fun k hk hn=>hs.block k hk (fun e=>hn (.inr ⟨0,0,0,2,by rw [e,hb];rfl⟩)) (fun e=>by obtain ⟨s,h⟩:=hown k e;exact hn (.inr ⟨0,1,0,s,h⟩))) hs.size ho
theorem zBJ (L:Lays.n166 P ρ) (X:Builder.Extra P ρ):zII G P (ρ.f 166) (zAD (ρ.t 72) (ρ.t 5)):=by
 intro args up r h
 unfold zAD at h
 split at h
 ·rename_i a0 a1 a2 a3 a4 s n0 g0 z0 t0 d1 n1 g1 j1 o1 d2 n2 g2 m n3 g3 z3 t3 rows
  split at h
  ·rename_i hc
   rw [Bool.and_eq_true] at hc
   obtain ⟨hc1,hc2⟩:=hc
   obtain ⟨rfl,rfl,rfl,rfl,rfl,rfl,rfl,rfl,rfl,rfl,rfl,rfl,rfl,rfl,rfl,rfl⟩:=zLK hc1
   have hc2:=eq_of_beq hc2
   simp only [List.cons.injEq,and_true] at hc2
   obtain ⟨rfl,rfl,rfl,rfl,rfl⟩:=hc2
   obtain ⟨q,hq,rfl⟩:=Option.map_eq_some_iff.1 h
   unfold zX at hq
   split at hq
   ·rename_i hl
    cases hq
    intro F N0 pl w vals hm hN hv
    obtain ⟨u,r1,rfl,hu,hv⟩:=zJ hv
    obtain ⟨u',r2,rfl,hu',hv⟩:=zJ hv
    obtain rfl:=zAL hv
    obtain rfl:=zAl hu'
    obtain ⟨b,v,xs,hb,hB,hxl,hown,hcell,us,hus,hrus⟩:=zLJ hm hl.1
    obtain ⟨_,B0,q2,_,q4⟩:=hu
    rw [zFQ] at q2
    cases q2
    obtain ⟨b',s',q5,q6⟩:=q4 rfl
    obtain rfl:b'=b:=by rw [hb] at q5;cases q5;rfl
    obtain rfl:u= .pointer (some ⟨b',0,none⟩):=by
     rcases q6 with ⟨_,q⟩|⟨q,_⟩
     ·exact q
     ·exact absurd q (by decide)
    refine zAv (enters_of L.f166 (by kernel_rfl) rfl) ((zJh L X s hB (by rw [hxl];exact hl.2)).mono fun e w' ⟨he,v',hB',hst,hpl⟩=>⟨_,he,?_⟩)
    obtain ⟨p',hp',hbk'⟩:=hB'.blk
    have hn':(xs++Lib.strCells s).length=m+s.size:=by rw [List.length_append,hxl,Lib.strCells_length]
    have hown':=hB'.own
    rw [hn'] at hown'
    have rep1:∀{pl':Pl},(∀k,Own F pl' k→Own F pl k∨w.heap.size≤k)→∀j r,(rows++s.data.toList.map byR)[j]?=some r→∃u x,r= [x]∧(xs++Lib.strCells s)[j]?=some u∧RepP (Own F pl') w' u x:=fun {pl'} ho j r hr=>by
     by_cases hj:j<rows.length
     ·rw [List.getElem?_append_left hj] at hr
      obtain ⟨u,x,h1,h2,h3⟩:=hcell j r hr
      exact ⟨u,x,h1,by rw [List.getElem?_append_left (by omega)];exact h2,zIL hm hb hst hown ho h3⟩
     ·rw [List.getElem?_append_right (by omega),List.getElem?_map] at hr
      obtain ⟨c,hc,rfl⟩:=Option.map_eq_some_iff.1 hr
      refine ⟨.int .u8 c.toNat,_,rfl,?_,.i _ _⟩
      rw [List.getElem?_append_right (by omega),Lib.strCells,List.getElem?_map,show j-xs.length=j-rows.length by omega,hc]
      rfl
    have hval:∀pl',zc F ([]::fB (ρ.t 72) (ρ.t 5) 2 (cB 2 (m+s.size)) (rows++s.data.toList.map byR)) pl' w' (.tuple #[.int .i64 s.size,.nilIface]) (.tup [(false,[.p (.i .i64 s.size)]),(false,[.p .nif])]):=fun pl'=>zCV (.i _ _) .nif
    have hx:∀q∈(AV.tup [(false,[.p (.i .i64 s.size)]),(false,[.p .nif])]).cvs,isP q=true:=fun q hq=>by
     simp only [AV.cvs,List.flatMap_cons,List.flatMap_nil,List.append_nil,List.cons_append,List.nil_append,List.mem_cons,List.not_mem_nil,or_false] at hq
     rcases hq with rfl|rfl<;>rfl
    have hdep:∀q∈cB 2 (m+s.size),q.dep 0=true:=fun q hq=>by
     simp only [List.mem_cons,List.not_mem_nil,or_false] at hq
     rcases hq with rfl|rfl<;>simp [CV.dep]
    have hp2:p'.oneCell'=true:=by rcases hp' with rfl|rfl<;>rfl
    have box:∀(y:Option (Nat×Nat)),v'.oneCell'=true→((v'= .slice none 0 0∧m+s.size=0∧y=none)∨∃g sz cap,y=some (g,sz)∧v'= .slice (some ⟨g,0,none⟩) (m+s.size) cap∧sz=cap*1∧m+s.size≤cap∧cap≤maxLen)→
      ∀pl':Pl,pl' 0 0=one b' 2→pl' 0 1 0=y→zR F ([]::fB (ρ.t 72) (ρ.t 5) 2 (cB 2 (m+s.size)) (rows++s.data.toList.map byR)) pl' w' (#[p',v']:Array Value).toList (cB 2 (m+s.size)):=fun y h1 h2 pl' g0 g1=>by
     refine ⟨rfl,fun i u c hu hc=>?_⟩
     match i with
     |0=>
      cases hu;cases hc
      exact ⟨⟨hp2,_,by rw [zAu];exact zFQ,Nat.le_refl _,fun _=>⟨b',2,by rw [g0];rfl,.inr ⟨rfl,hp'⟩⟩⟩,.inr hp2⟩
     |1=>
      cases hu;cases hc
      refine ⟨⟨h1,_,by rw [zAu];exact zHb,Nat.le_refl _,fun _=>?_⟩,.inr h1⟩
      rcases h2 with ⟨e1,e2,e3⟩|⟨g,sz,cap,e1,e2,e3,e4,e5⟩
      ·exact .inl ⟨e1,e2,g1.trans e3⟩
      ·exact .inr ⟨g,sz,cap,g1.trans e1,e2,e3,e4,e5⟩
     |i+2=>simp at hu
    rcases hown'.2 with ⟨rfl,h0⟩|⟨g,cap,cur,rfl,_,hg,hnc,hcm,hcs,htake⟩
    ·have hr0:rows++s.data.toList.map byR= []:=by
      have h1:rows= []:=zAi (by omega)
      have h2:s.data.toList= []:=zAi (by have h3:s.data.toList.length=s.size:=Array.length_toList;omega)
      rw [h1,h2];rfl
     exact zGf (y:=none) hm hN hb hst hown (fun k s h=>by cases h) hbk' rfl (box none rfl (.inl ⟨rfl,h0,rfl⟩)) hdep (fun pl' _=> .inl ⟨hr0,rfl⟩) hx hval
    ·refine zGf (y:=some (g,cap*1)) hm hN hb hst hown (fun k s h=>?_) hbk' rfl (box _ rfl (.inr ⟨g,_,cap,rfl,rfl,rfl,hnc,hcm⟩)) hdep (fun pl' ho=> .inr ⟨g,cap*1,cur,rfl,hg,hcs,?_,?_,?_⟩) hx hval
     ·cases h
      refine ⟨(Array.getElem?_eq_some_iff.1 hg).1,fun e=>hB'.ne (by rw [e];rfl),?_⟩
      rcases hpl g rfl with h1|h1
      ·exact .inl (hown g h1)
      ·exact .inr h1
     ·have:s.data.toList.length=s.size:=Array.length_toList
      simp only [List.length_append,List.length_map,this]
      omega
     ·intro r hr
      obtain ⟨j,hj⟩:=List.getElem?_of_mem hr
      obtain ⟨_,x,rfl,_⟩:=rep1 ho j r hj
      rfl
     ·intro j r o z hr hz
      obtain ⟨u,x,rfl,h1,h2⟩:=rep1 ho j r hr
      obtain rfl:o=0:=by
       cases o with
       |zero=>rfl
       |succ o=>simp at hz
      cases hz
      refine ⟨u,?_,h2⟩
      have h3:=congrArg (·[j]?) htake
      simp only [h1] at h3
      rw [List.getElem?_take] at h3
      split at h3
      ·simpa using h3
      ·cases h3
   ·cases hq
  ·cases h
 ·cases h
def zHc (rows:List (List PV)):Bool:=rows.all fun r=>match r with| [.i .u8 n]=>decide (0≤n∧n<256)|_=>false
theorem zHd:∀{rows:List (List PV)},zHc rows=true→∃l:List UInt8,bytesOf rows=some l∧rows=l.map byR
 | [],_=>⟨[],rfl,rfl⟩
 |r::rows,h=>by
  simp only [zHc,List.all_cons,Bool.and_eq_true] at h
  obtain ⟨l,h1,h2⟩:=zHd (rows:=rows) h.2
  have h3:=h.1
  split at h3
  ·rename_i n
   have h3:=of_decide_eq_true h3
   refine ⟨UInt8.ofNat n.toNat::l,by simp [bytesOf,h1],?_⟩
   rw [List.map_cons,←h2]
   congr 1
   simp only [byR,UInt8.toNat_ofNat',List.cons.injEq,PV.i.injEq,true_and,and_true]
   omega
  ·cases h3
def zi (m:Nat) (rows:List (List PV)):Option (ByteArray×List (List PV)):=if m=rows.length∧zHc rows=true then (bytesOf rows).map fun l=>(⟨l.toArray⟩,[]) else none
def zAX (T e:TypeId):List AV→List Frame→Option Res
 | [.c (.ptr a0 a1 a2 a3 a4)],[[(n0,⟨g0,z0,t0,.box [.ptr d1 n1 g1 j1 o1,.own d2 n2 g2 m]⟩),(n3,⟨g3,z3,t3,.row rows⟩)]]=>if (inB T e [n0,g0,z0,t0,d1,n1,g1,j1,o1,d2,n2,g2,n3,g3,z3,t3]&& [a0,a1,a2,a3,a4]== [0,0,0,0,0])=true then
   (zi m rows).map fun r=>⟨.c (.p (.s r.1)),fB T e 2 [.p .op,.p .op] r.2,[]⟩ else none
 |_,_=>none
theorem zBf (L:Lays.n169 P ρ) (X:Builder.Extra P ρ):zII G P (ρ.f 169) (zAX (ρ.t 72) (ρ.t 5)):=by
 intro args up r h
 unfold zAX at h
 split at h
 ·rename_i a0 a1 a2 a3 a4 n0 g0 z0 t0 d1 n1 g1 j1 o1 d2 n2 g2 m n3 g3 z3 t3 rows
  split at h
  ·rename_i hc
   rw [Bool.and_eq_true] at hc
   obtain ⟨hc1,hc2⟩:=hc
   obtain ⟨rfl,rfl,rfl,rfl,rfl,rfl,rfl,rfl,rfl,rfl,rfl,rfl,rfl,rfl,rfl,rfl⟩:=zLK hc1
   have hc2:=eq_of_beq hc2
   simp only [List.cons.injEq,and_true] at hc2
   obtain ⟨rfl,rfl,rfl,rfl,rfl⟩:=hc2
   obtain ⟨q,hq,rfl⟩:=Option.map_eq_some_iff.1 h
   unfold zi at hq
   split at hq
   ·rename_i hl
    obtain ⟨l,hby,rfl⟩:=Option.map_eq_some_iff.1 hq
    obtain ⟨l',hl1,hl2⟩:=zHd hl.2
    obtain rfl:l'=l:=by rw [hby] at hl1;exact (Option.some.inj hl1).symm
    intro F N0 pl w vals hm hN hv
    obtain ⟨u,r1,rfl,hu,hv⟩:=zJ hv
    obtain rfl:=zAL hv
    obtain ⟨b,v,xs,hb,hB,hxl,hown,hcell,us,hus,hrus⟩:=zLJ hm hl.1
    obtain ⟨_,B0,q2,_,q4⟩:=hu
    rw [zFQ] at q2
    cases q2
    obtain ⟨b',s',q5,q6⟩:=q4 rfl
    obtain rfl:b'=b:=by rw [hb] at q5;cases q5;rfl
    obtain rfl:u= .pointer (some ⟨b',0,none⟩):=by
     rcases q6 with ⟨_,q⟩|⟨q,_⟩
     ·exact q
     ·exact absurd q (by decide)
    have hxs:xs=Lib.byteCells l':=by
     apply List.ext_getElem?
     intro j
     by_cases hj:j<xs.length
     ·have hj2:j<rows.length:=by omega
      obtain ⟨u,x,h1,h2,h3⟩:=hcell j _ (ze hj2)
      have h4:rows[j]?=some [x]:=by rw [ze hj2,h1]
      rw [hl2,List.getElem?_map] at h4
      obtain ⟨c,hc,hc2⟩:=Option.map_eq_some_iff.1 h4
      simp only [byR,List.cons.injEq,and_true] at hc2
      subst hc2
      rw [h2,Lib.byteCells,List.getElem?_map,hc]
      generalize hp:PV.i IntKind.u8 (c.toNat:Int)=p at h3
      cases h3<;>cases hp
      rfl
     ·rw [List.getElem?_eq_none (by omega),List.getElem?_eq_none (by rw [Lib.byteCells_length];have:=congrArg List.length hl2;rw [List.length_map] at this;omega)]
    subst hxs
    refine zAv (enters_of L.f169 (by kernel_rfl) rfl) ((zIK L X l' hB).mono fun e w' ⟨he,hst,hsame⟩=>⟨_,he,?_⟩)
    obtain ⟨p',hp',hbk'⟩:=hB.blk
    have hone:v.oneCell'=true:=by rcases hB.own.2 with ⟨rfl,_⟩|⟨g,cap,cur,rfl,_⟩<;>rfl
    refine zGf (y:=none) (us:= #[p',v]) hm hN hb hst hown (fun k s h=>by cases h) (hsame.trans hbk') rfl (fun pl' _ _=>⟨rfl,fun i u c hu hc=>?_⟩) (fun q hq=>?_) (fun pl' _=> .inl ⟨rfl,rfl⟩) (fun q hq=>?_) (fun pl'=>RepP.s _)
    ·match i with
     |0=>cases hu;cases hc;exact ⟨RepP.op _ (by rcases hp' with rfl|rfl<;>rfl),.inr (by rcases hp' with rfl|rfl<;>rfl)⟩
     |1=>cases hu;cases hc;exact ⟨RepP.op _ hone,.inr hone⟩
     |i+2=>simp at hu
    ·simp only [List.mem_cons,List.not_mem_nil,or_false] at hq
     rcases hq with rfl|rfl<;>rfl
    ·simp only [AV.cvs,List.mem_singleton] at hq
     subst hq;rfl
   ·cases hq
  ·cases h
 ·cases h
def zAc (s sep:ByteArray) (n:Int):Option (List (List PV)):=if s.size<4294967281∧1≤sep.size∧1≤n∧n≤9223372036854775807 then some ((Lib.splitB sep 0 (min n.toNat (s.size+1)-1) s).map fun x=> [PV.s x]) else none
def zAw:List AV→Option AV
 | [.c (.p (.s s)),.c (.p (.s sep)),.c (.p (.i .i64 n))]=>(zAc s sep n).map fun r=> .c (.p (.ls r))
 |_=>none
theorem zJi {own:Nat→Prop} {xs:List ByteArray} {b cap:Nat} {cs:Array Value} {T:TypeId} (hown:¬own b) (hb:w.heap[b]?=some (.cells cs T (0,0))) (hc:xs.length≤cap) (hn:xs.length≤maxLen) (hcell:∀(j:Nat) (x:ByteArray),xs[j]?=some x→cs[j]?=some (Value.string x)):
  RepP own w (.slice (some ⟨b,0,none⟩) xs.length cap) (.ls (xs.map fun x=> [PV.s x])):=by
 refine .ls (sz:=1) (fun j _=> .string (xs.getD j default)) (by simp) hc hn (fun _=>⟨hown,(Array.getElem?_eq_some_iff.1 hb).1⟩) (fun j e he=>?_) (fun j e o x he hx=>?_)
 ·rw [List.getElem?_map] at he
  obtain ⟨x,hx,rfl⟩:=Option.map_eq_some_iff.1 he
  refine ⟨rfl,fun o y hy=>?_⟩
  obtain rfl:o=0:=by
   cases o with
   |zero=>rfl
   |succ o=>simp at hy
  rw [zA2,zBS hb]
  simp only [Nat.mul_one,Nat.add_zero,Nat.zero_add]
  rw [hcell j x hx]
  simp [List.getD,hx]
 ·rw [List.getElem?_map] at he
  obtain ⟨y,hy,rfl⟩:=Option.map_eq_some_iff.1 he
  obtain rfl:o=0:=by
   cases o with
   |zero=>rfl
   |succ o=>simp at hx
  cases hx
  simp only [List.getD,hy,Option.getD_some]
  exact .s _
theorem zJj {pl:Pl} {fs:List Frame} (hm:MemOK F N0 fs pl w):¬Own F pl w.heap.size:=fun h=>by
 rcases h with h|⟨d,n,j,s,h⟩
 ·exact absurd (hm.fsz _ h) (Nat.lt_irrefl _)
 ·exact absurd (hm.live _ _ _ _ _ h).2.1 (Nat.lt_irrefl _)
theorem zIM (o:Obj):Step zAt w (w.alloc o):=⟨rfl,rfl,rfl,by simp,fun k hk _=>heap_alloc_old w o hk⟩
theorem zDY (L:Lays.n147 P ρ) (hi9:(P.info? (ρ.t 9)).map (fun i=>(i.zero,i.size,i.bytes))=some (some (.string ByteArray.empty),1,16)) (hM:zEW G (ρ.g 1)):zBq G P (ρ.f 147) zAw:=by
 intro args v h
 unfold zAw at h
 split at h
 ·rename_i s sep n
  obtain ⟨r,h1,rfl⟩:=Option.map_eq_some_iff.1 h
  unfold zAc at h1
  split at h1
  ·rename_i hc
   cases h1
   obtain ⟨c1,c2,c3,c4⟩:=hc
   obtain ⟨k,rfl⟩:∃k:Nat,n=k:=⟨n.toNat,by omega⟩
   simp only [Int.toNat_natCast]
   refine ⟨fun c hc=>⟨_,by simpa [AV.cvs] using hc⟩,fun F N0 up pl w vals hm hN hv=>?_⟩
   obtain ⟨u,r1,rfl,hu,hv⟩:=zJ hv
   obtain ⟨u',r2,rfl,hu',hv⟩:=zJ hv
   obtain ⟨u'',r3,rfl,hu'',hv⟩:=zJ hv
   obtain rfl:=zAL hv
   obtain rfl:=zAl hu
   obtain rfl:=zAl hu'
   obtain rfl:=zB9 hu''
   obtain ⟨m,hm1⟩:=hM w fun k o h=>(hm.fix k o h).2
   refine zAv (enters_of L.f147 (by kernel_rfl) rfl) ((Any.strings_SplitN L hi9 s sep k m w c1 hm1 c2 (by omega) (by omega)).mono fun e w' ⟨he,hw⟩=>⟨_,he,?_⟩)
   subst hw
   have hlen:=Lib.splitB_length_le sep 0 (min k (s.size+1)-1) s
   refine ⟨zIM _,zJi (zJj hm) (heap_alloc_new w _) (by omega) (by unfold maxLen;omega) fun j x hx=>?_⟩
   simp only [Lib.cellsOf,List.getElem?_toArray]
   rw [List.getElem?_append_left (by rw [List.length_map];exact (List.getElem?_eq_some_iff.1 hx).1),List.getElem?_map,hx]
   rfl
  ·cases h1
 ·cases h
end
end Go.Eng

