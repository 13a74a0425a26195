import Derived.Test.YtilkdjfhbahhdaaE8
set_option linter.unusedVariables false
set_option linter.unusedSimpArgs false
namespace Go.Eng
open Go.RowKit
section
variable {P:Program} {F:Nat→Prop} {G:Nat→Option Obj} {N0:Base G} {T:Nat} {pl pl':Pl} {st st':St} {a:Act} {w w':World} {fs fs':List Frame}
theorem zDw {t:TypeId} {g:Bool} (hg:zAi P t=some g) {us:List Value} {cs:List CV} (hr:zK F fs pl w us cs) {off:Nat} (hl:off+P.cellsOf t≤cs.length) {v:AV} (hv:zBW g ((cs.drop off).take (P.cellsOf t))=some v):
  ∃u,(∀w,(part t us.toArray off).run P w= .ok u w)∧zd F fs pl w u v:=by
 obtain ⟨i,hi⟩:=zEb hg
 have hus:=hr.1
 have hr2:zK F fs pl w ((us.drop off).take (P.cellsOf t)) ((cs.drop off).take (P.cellsOf t)):=⟨by simp;omega,fun j u c hu hc=>by
  rw [List.getElem?_take,List.getElem?_drop] at hu hc
  split at hu
  ·rename_i hj;rw [if_pos hj] at hc;exact hr.2 _ _ _ hu hc
  ·cases hu⟩
 rcases zGl hv hr2 with ⟨rfl,h7⟩|⟨rfl,u,h8,h7⟩
 ·refine ⟨_,fun w=>?_,h7⟩
  simp only [part,Sem.run_bind,zCU hg,Result.andThen_ok,if_true,run_sizeOf _ hi,Sem.run_pure]
  congr 2
  simp [List.extract_eq_take_drop,List.extract_toArray]
 ·refine ⟨u,fun w=>?_,h7⟩
  have h9:us[off]?=some u:=by
   have:((us.drop off).take (P.cellsOf t))[0]?=some u:=by rw [h8];rfl
   rw [List.getElem?_take,List.getElem?_drop] at this
   split at this
   ·simpa using this
   ·cases this
  simp [part,zCU hg,h9]
theorem zIy {o:Oper} {s:TypeId} {x:Operand} {k:KX} {i:Nat} {fds:Array Field} {f:Field} {g:Bool} {cs:List CV} {v:AV} (ho:o.op= .field s x i) (hu:P.underlying s=some (.struct fds)) (hf:fds[i]?=some f) (hg:zAi P f.type=some g) (hx:kx x=some k) (hr:Rel F N0 T pl st a w)
  (h1:st.eval k= .agg cs) (hl:f.offset+P.cellsOf f.type≤cs.length) (hv:zBW g ((cs.drop f.offset).take (P.cellsOf f.type))=some v):Runs2 P noB o a w (Post F N0 pl st w v st):=by
 have e1:=zD hr hx
 rw [h1] at e1
 obtain ⟨us,e2,e3⟩:=e1
 obtain ⟨u,h3,h4⟩:=zDw (P:=P) hg e3 hl hv
 exact zT (u:=u) (fun w' hg'=>by simp [execOp,ho,e2,Instr.field,run_underlying hu,hf,asAgg,h3]) (zI hr h4)
theorem zKy {o:Oper} {x:Operand} {k:KX} {i:Nat} {vs:List (Bool×List CV)} {g:Bool} {cs:List CV} {v:AV} (ho:o.op= .extract x i) (hx:kx x=some k) (hr:Rel F N0 T pl st a w)
  (h1:st.eval k= .tup vs) (h2:vs[i]?=some (g,cs)) (hv:zBW g cs=some v):Runs2 P noB o a w (Post F N0 pl st w v st):=by
 have e1:=zD hr hx
 rw [h1] at e1
 obtain ⟨us,e2,e3,e4⟩:=e1
 have hi:i<us.length:=by
  rw [e3]
  by_cases hi:i<vs.length
  ·exact hi
  ·rw [List.getElem?_eq_none (by omega)] at h2;cases h2
 have hu:=zb hi
 refine zT (u:=us[i]) (fun w' hg'=>by simp [execOp,ho,e2,Instr.extract,hu]) (zI hr ?_)
 rcases e4 i _ _ hu h2 with ⟨e,ys,h5,h6⟩|⟨e,y,h5,h6⟩
 ·simp only at e h6
  subst e
  cases hv
  rw [h5]
  exact ⟨ys,rfl,h6⟩
 ·simp only at e h5 h6
  subst e
  subst h5
  cases hv
  exact h6
theorem zAT {v:Value} {x:AV} {n:Int} (h:zAZ x=some n) (hr:zd F fs pl w v x):v= .int .i64 n:=by
 unfold zAZ at h
 split at h
 ·cases h;exact zIp hr
 ·cases h
theorem zIz {o:Oper} {t:TypeId} {x y:Operand} {kx' ky:KX} {s:ByteArray} {n:Int} {c:UInt8} (ho:o.op= .index t x y) (hu:P.underlying t=some .string) (hx:kx x=some kx') (hy:kx y=some ky) (hr:Rel F N0 T pl st a w)
  (h1:st.eval kx'= .c (.p (.s s))) (h2:zAZ (st.eval ky)=some n) (h3:0≤n) (h4:s.toList[n.toNat]?=some c):Runs2 P noB o a w (Post F N0 pl st w (.c (.p (.i .u8 c.toNat))) st):=by
 have e1:=zD hr hx
 rw [h1] at e1
 have e1:=zHK e1
 have e2:=zAT h2 (zD hr hy)
 have h5:s[n.toNat]?=some c:=by
  rw [ByteArray.toList_eq] at h4
  have:n.toNat<s.data.toList.length:=by
   by_cases hi:n.toNat<s.data.toList.length
   ·exact hi
   ·rw [List.getElem?_eq_none (by omega)] at h4;cases h4
  have hs:n.toNat<s.size:=by show n.toNat<s.data.size;rw [←Array.length_toList];exact this
  rw [getElem?_pos s n.toNat hs]
  rw [zb this] at h4
  rw [←h4]
  rfl
 exact zT (u:= .int .u8 c.toNat) (fun w' hg'=>by simp only [execOp,ho,e1,e2,Instr.index,Sem.run_bind,asIntOf,Sem.run_pure,Result.andThen_ok,run_underlying hu,if_pos h3,h5]) (zI hr (.i _ _))
theorem zCW {o:Oper} {t e:TypeId} {x y:Operand} {kx' ky:KX} {n:Int} {v:AV} (ho:o.op= .indexAddr t x y) (hu:P.underlying t=some (.slice e)) (he:∃i,P.info? e=some i) (hx:kx x=some kx') (hy:kx y=some ky) (hr:Rel F N0 T pl st a w)
  (h2:zAZ (st.eval ky)=some n) (h3:0≤n)
  (h:(∃rows row,st.eval kx'= .c (.p (.ls rows))∧n<rows.length∧rows[n.toNat]?=some row∧row.length=P.cellsOf e∧v= .c (.rp row 0))∨
   (∃d m g q B,st.eval kx'= .c (.own d m g q)∧st.get d m=some B∧B.g=g∧B.sz=P.cellsOf e∧n<q∧v= .c (.ptr d m g n.toNat 0))):Runs2 P noB o a w (Post F N0 pl st w v st):=by
 obtain ⟨inf,hinf⟩:=he
 have e1:=zD hr hx
 have e2:=zAT h2 (zD hr hy)
 rcases h with ⟨rows,row,h1,h4,h5,h6,rfl⟩|⟨d,m,g,q,B,h1,hB,hg,hsz,h4,rfl⟩
 ·rw [h1] at e1
  have e1:=zAe e1
  generalize hvx:a.eval x=vx at*
  cases e1 with
  |nls=>simp at h5
  | @ls ad n' c sz _ val hl hc hn hown hcell hrep=>
   obtain ⟨h7,h8⟩:=hcell _ _ h5
   refine zT (u:= .pointer (some (ad.add (n.toNat*P.cellsOf e)))) (fun w' hg'=>?_) (zI hr ?_)
   ·simp [execOp,ho,hvx,e2,Instr.indexAt,run_underlying hu,asIntOf,h3,run_sizeOf _ hinf,show n<(n':Int) by omega]
   ·have hsz:sz=P.cellsOf e:=by omega
    subst hsz
    refine ⟨ad.add (n.toNat*P.cellsOf e),by simp [Addr.add],fun _=>?_,fun i z hz=>⟨val n.toNat i,by rw [zBd];exact h8 i z hz,hrep _ _ i z h5 hz⟩⟩
    rw [zEc]
    obtain ⟨q1,q2⟩:=hown (by rintro rfl;simp at h5)
    exact ⟨fun d n j s hp=>q1 (.inr ⟨d,n,j,s,hp⟩),q2⟩
 ·rw [h1] at e1
  obtain ⟨_,B',h5,h6,h7⟩:=e1
  have:B'=B:=by
   have hB':zB d m (st.fr::st.up)=some B:=hB
   rw [hB'] at h5;cases h5;rfl
  subst this
  rcases h7 hg.symm with ⟨h8,h9,_⟩|⟨b,s,cap,hp,h8,hs,hq,hcap⟩
  ·omega
  ·refine zT (u:= .pointer (some ⟨b,n.toNat*P.cellsOf e,none⟩)) (fun w' hg'=>?_) (zI hr ⟨rfl,B',h5,h6,fun _=>⟨b,s,hp,.inl ⟨by decide,by rw [hsz];simp⟩⟩⟩)
   have:(⟨b,0,none⟩:Addr).add (n.toNat*P.cellsOf e)=⟨b,n.toNat*P.cellsOf e,none⟩:=by rw [zAV];simp
   simp [execOp,ho,h8,e2,Instr.indexAt,run_underlying hu,asIntOf,h3,run_sizeOf _ hinf,h4,this]
theorem zDx {o:Oper} {x:Operand} {k:KX} {t:TypeId} {n:Int} (ho:∃c,o.op= .call c∧c.callee= .builtin .len∧c.args= #[x]∧c.argTypes[0]?=some t) (hx:kx x=some k) (hr:Rel F N0 T pl st a w)
  (h:(P.underlying t=some .string∧∃s,st.eval k= .c (.p (.s s))∧n=s.size)∨(∃e,P.underlying t=some (.slice e))∧((∃rows,(st.eval k= .c (.p (.ls rows))∧n=rows.length))∨(st.eval k= .c (.p .nl)∧n=0)∨(∃d m g q B,st.eval k= .c (.own d m g q)∧st.get d m=some B∧B.g=g∧n=q)∨∃d m g j o q z B,st.eval k= .c (.sub d m g j o q z)∧st.get d m=some B∧B.g=g∧n=q)):
  Runs2 P noB o a w (Post F N0 pl st w (.c (.p (.i .i64 n))) st):=by
 obtain ⟨c,ho,hc1,hc2,hc3⟩:=ho
 have e1:=zD hr hx
 refine zT (u:= .int .i64 n) (fun w' hg'=>?_) (zI hr (.i _ _))
 have key:∀w,(Builtin.len_ c.argTypes o.type #[a.eval x]).run P w= .ok (goInt n) w:=by
  intro w'
  rcases h with ⟨hu,s,h1,rfl⟩|⟨⟨e,hu⟩,h⟩
  ·rw [h1] at e1
   have e1:=zHK e1
   simp [Builtin.len_,hc3,run_underlying hu,e1]
  ·have:∃b cap m,a.eval x= .slice b m cap∧n=(m:Int):=by
    rcases h with ⟨rows,h1,rfl⟩|⟨h1,rfl⟩|⟨d,m,g,q,B,h1,hB,hg,rfl⟩|⟨d,m,g,j,o,q,z,B,h1,hB,hg,rfl⟩
    ·rw [h1] at e1
     have e1:=zAe e1
     generalize a.eval x=vx at*
     cases e1 with
     |nls=>exact ⟨_,_,_,rfl,by simp⟩
     | @ls ad n' c sz _ val hl hc hn hown hcell hrep=>exact ⟨_,_,_,rfl,by omega⟩
    ·rw [h1] at e1
     have e1:=zAe e1
     generalize a.eval x=vx at*
     cases e1
     exact ⟨_,_,_,rfl,by simp⟩
    ·rw [h1] at e1
     obtain ⟨_,B',h5,h6,h7⟩:=e1
     have:B'=B:=by
      have hB':zB d m (st.fr::st.up)=some B:=hB
      rw [hB'] at h5;cases h5;rfl
     subst this
     rcases h7 hg.symm with ⟨h8,h9,_⟩|⟨b,s,cap,hp,h8,_⟩
     ·exact ⟨_,_,_,h8,by omega⟩
     ·exact ⟨_,_,_,h8,rfl⟩
    ·rw [h1] at e1
     obtain ⟨_,B',h5,h6,h7⟩:=e1
     have:B'=B:=by
      have hB':zB d m (st.fr::st.up)=some B:=hB
      rw [hB'] at h5;cases h5;rfl
     subst this
     rcases h7 hg.symm with ⟨h8,h9⟩|⟨b,s,cap,hp,h8,_⟩
     ·exact ⟨_,_,_,h8,by omega⟩
     ·exact ⟨_,_,_,h8,rfl⟩
   obtain ⟨b,cap,m,h1,rfl⟩:=this
   simp [Builtin.len_,hc3,run_underlying hu,h1]
 simp only [execOp,ho,resolve,hc1,hc2,invoke,builtin,List.map_toArray,List.map_cons,List.map_nil,Sem.run_bind,Sem.run_pure,Result.andThen_ok,key]
 rfl
theorem zJ9 {o:Oper} {f:FuncId} {first caps:Array Operand} {ks:List KX} {cs:List Cap} (ho:o.op= .makeFunc (.func f) first caps) (hf:first.size=0) (hx:caps.toList.mapM kx=some ks) (hr:Rel F N0 T pl st a w)
  (h:zBX (ks.map st.eval)=some cs):Runs2 P noB o a w (Post F N0 pl st w (.c (.fn f cs)) st):=by
 obtain ⟨hl,hk⟩:=zAG hx
 have hf':first= #[]:=Array.eq_empty_of_size_eq_zero hf
 refine zT (u:= .func (.func f) #[] (caps.map a.eval)) (fun w' hg'=>by simp [execOp,ho,Instr.makeFunc,hf']) (zI hr ?_)
 have key:∀(xs:List AV) (cs:List Cap) (us:List Value),zBX xs=some cs→us.length=xs.length→(∀(i:Nat) u x,us[i]?=some u→xs[i]?=some x→zd F (st.fr::st.up) pl w u x)→
   cs.length=us.length∧∀(i:Nat) u c,us[i]?=some u→cs[i]?=some c→zBK F (st.fr::st.up) pl w u c:=by
  intro xs
  induction xs with
  |nil=>intro cs us h hl _;simp [zBX] at h;subst h;exact ⟨by simpa using hl.symm,fun i u c hu hc=>by simp at hc⟩
  |cons x xs ih=>
   intro cs us h hl hrep
   match us,hl with
   |u::us,hl=>
    have h0:=hrep 0 u x rfl rfl
    have hrep':∀(i:Nat) u x,us[i]?=some u→xs[i]?=some x→zd F (st.fr::st.up) pl w u x:=fun i u x hu hx=>hrep (i+1) u x (by simpa using hu) (by simpa using hx)
    unfold zBX at h
    split at h
    ·cases ‹_= []›
    ·rename_i y r hxx
     cases hxx
     obtain ⟨cs',h1,rfl⟩:=Option.map_eq_some_iff.1 h
     obtain ⟨h2,h3⟩:=ih cs' us h1 (by simpa using hl) hrep'
     refine ⟨by simp [h2],fun i u' c hu hc=>?_⟩
     cases i with
     |zero=>simp at hu hc;subst hu;subst hc;exact RepP.weak h0
     |succ i=>exact h3 i u' c (by simpa using hu) (by simpa using hc)
    ·rename_i d n g r hxx
     cases hxx
     obtain ⟨cs',h1,rfl⟩:=Option.map_eq_some_iff.1 h
     obtain ⟨h2,h3⟩:=ih cs' us h1 (by simpa using hl) hrep'
     refine ⟨by simp [h2],fun i u' c hu hc=>?_⟩
     cases i with
     |zero=>
      simp at hu hc;subst hu;subst hc
      obtain ⟨h9,B,h4,h5,h6⟩:=h0
      exact ⟨h9,B,h4,h5,fun e=>by simpa [show ¬(0=KO) by decide] using h6 e⟩
     |succ i=>exact h3 i u' c (by simpa using hu) (by simpa using hc)
    ·rename_i row r hxx
     cases hxx
     obtain ⟨cs',h1,rfl⟩:=Option.map_eq_some_iff.1 h
     obtain ⟨h2,h3⟩:=ih cs' us h1 (by simpa using hl) hrep'
     refine ⟨by simp [h2],fun i u' c hu hc=>?_⟩
     cases i with
     |zero=>simp at hu hc;subst hu;subst hc;exact h0
     |succ i=>exact h3 i u' c (by simpa using hu) (by simpa using hc)
    ·cases h
 obtain ⟨h2,h3⟩:=key (ks.map st.eval) cs (caps.toList.map a.eval) h (by simp [hl]) (fun i u x hu hx=>by
  rw [List.getElem?_map] at hu hx
  obtain ⟨p,hp,rfl⟩:=Option.map_eq_some_iff.1 hu
  obtain ⟨q,hq,rfl⟩:=Option.map_eq_some_iff.1 hx
  exact zD hr (hk i p q hp hq))
 exact ⟨caps.toList.map a.eval,by cases caps;simp,h2.symm,h3⟩
end
end Go.Eng

