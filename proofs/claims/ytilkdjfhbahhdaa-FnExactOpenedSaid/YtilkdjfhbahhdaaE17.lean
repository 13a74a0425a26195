import Derived.Test.YtilkdjfhbahhdaaE16
set_option linter.unusedVariables false
set_option linter.unusedSimpArgs false
namespace Go.Eng
open Go.RowKit
section
variable {P:Program} {F F':Nat→Prop} {G:Nat→Option Obj} {N0:Base G} {T:Nat} {pl pl' pl1:Pl} {st st':St} {a:Act} {w w':World} {fs fs':List Frame} {f':Frame} {up:List Frame}
theorem zHb {d n g:Nat} (h:(st.get d n).map (·.g)=some g):∃B,st.get d n=some B∧B.g=g:=by
 obtain ⟨B,h1,h2⟩:=Option.map_eq_some_iff.1 h
 exact ⟨B,h1,h2⟩
theorem zGu {e:TypeId} {i:TypeInfo} {z:Value} (hi:P.info? e=some i) (hz:i.zero=some z):(Instr.alloc e true (.tuple #[])).run P w= .ok (.pointer (some ⟨w.heap.size,0,none⟩)) {w with heap:=w.heap.push (.cells z.cells e)}:=by
 simp [Instr.alloc,zeroValue,typeInfo,hi,hz,newVar,newRow]
theorem zF4 {e:TypeId} {v:Value}:(Instr.box e v).run P w= .ok (.pointer (some ⟨w.heap.size,0,none⟩)) {w with heap:=w.heap.push (.cells v.cells e)}:=by
 simp [Instr.box,newVar,newRow]
theorem zFN {e:TypeId} {x:KX} {k:KOp} (h:zDY P e x=some k):∃col t sz2,k= .boxN e (P.cellsOf e) x col t sz2:=by
 unfold zDY at h
 split at h
 ·simp only [zN] at h
  obtain ⟨z,hz,col,hcol,f,hf,h⟩:=h
  split at h
  ·cases h
   exact ⟨col,_,_,rfl⟩
  ·cases h
 ·cases h
theorem zFO {run:zh} {o:Oper} {e:TypeId} {x:Operand} {kx':KX} {k:KOp} {dst:Nat} {v:AV} (ho:o.op= .box e x) (hx:kx x=some kx') (hc:zDY P e kx'=some k) (hr:Rel F N0 T pl st a w)
  (he:zC run st dst k=some (v,st')):Runs1 P o a w (zFo F N0 pl st w v st'):=by
 obtain ⟨col,t,sz2,rfl⟩:=zFN hc
 simp only [zC] at he
 split at he
 ·cases he
 rename_i hnt
 split at he
 ·rename_i hcond
  simp only [zM,Prod.mk.injEq] at he
  obtain ⟨rfl,rfl⟩:=he
  obtain ⟨r1,k1,g1⟩:=zFq hr (dst*64+1) sz2 t
  have hrep:=zAb (zD hr hx) hnt (zBL hcond.2.2)
  refine (zJ7 (n:=dst*64) (sz:=P.cellsOf e) (v:=a.eval x) (by simp only [execOp,ho,Sem.run_bind,zF4,Result.andThen_ok];rfl) r1 (zFr hrep k1 hcond.2.1 g1 (zF ..)) (zIu hcond.2.2)).mono fun u w' hp=>?_
  obtain ⟨⟨⟨pl',p1,p2,p3⟩,p4⟩,hg⟩:=hp
  exact ⟨⟨⟨pl',p1,p2,k1.trans p3⟩,p4⟩,hg⟩
 ·cases he
theorem zEr {s s':St} (h:s'.t=s.t) (k:KX):s'.eval k=s.eval k:=by
 cases k with
 |t n=>simp only [St.eval,h]
 |k v=>rfl
theorem zBP {base:Nat} {us:List Value} {fs0:List Frame} {pl0:Pl}:∀(l:List (Nat×TypeId×Nat)) (i:Nat) (cs:List CV) (st:St) (pl:Pl),Rel F N0 T pl st a w→Keep F fs0 (st.fr::st.up) pl0 pl w w→zK F (st.fr::st.up) pl w us cs→
  ∃pl1,Rel F N0 T pl1 (zS base l i cs st).2 a w∧Keep F fs0 ((zS base l i cs st).2.fr::(zS base l i cs st).2.up) pl0 pl1 w w∧zK F ((zS base l i cs st).2.fr::(zS base l i cs st).2.up) pl1 w us (zS base l i cs st).1∧(zS base l i cs st).2.t=st.t
 | [],i,cs,st,pl,hr,hk,hc=>⟨pl,hr,hk,hc,rfl⟩
 |(col,ty,sz)::r,i,cs,st,pl,hr,hk,hc=>by
  unfold zS
  split
  ·rename_i hn
   obtain ⟨r1,k1,g1⟩:=zFq hr (base+i) sz ty
   exact zBP r (i+1) _ _ _ r1 (hk.trans k1) (zFr hc k1 hn g1 (zF ..))
  ·exact zBP r (i+1) cs st pl hr hk hc
theorem zH6 {o:Oper} {t:TypeId} {x y:Operand} {kx' ky:KX} {base:Nat} {cols:List (Nat×TypeId×Nat)} (ho:o.op= .store t x y) (hx:kx x=some kx') (hy:kx y=some ky) (hi:∃i,P.info? t=some i) (hr:Rel F N0 T pl st a w)
  (ht:∀vs,st.eval ky≠ .tup vs) (hl:(st.eval ky).cvs.length=P.cellsOf t) (hk:(st.eval ky).cvs.all (·.known)=true) (hw:(zS base cols 1 (st.eval ky).cvs st).2.write (st.eval kx') (zS base cols 1 (st.eval ky).cvs st).1=some st'):Runs1 P o a w (fun u w'=>Post F N0 pl st w (.c .u) st' u w'):=by
 obtain ⟨i,hi⟩:=hi
 have hc:=zAb (zD hr hy) ht hk
 obtain ⟨pl1,r1,k1,c1,e1⟩:=zBP (base:=base) (fs0:=st.fr::st.up) (pl0:=pl) cols 1 _ st pl hr Keep.refl hc
 have hev:(zS base cols 1 (st.eval ky).cvs st).2.eval kx'=st.eval kx':=zEr e1 kx'
 obtain ⟨ad,w',pl',h1,h2,h3,h4,h5,h6⟩:=zDv (P:=P) r1.mem r1.low hw (hev▸zD r1 hx) c1
 refine zCw (w':=w') ?_ ⟨⟨pl',trivial,h3,k1.trans h4⟩,h5.trans e1⟩
 have hsz:(a.eval y).cells.size=P.cellsOf t:=by rw [←hl,←hc.1];simp
 simp [execOp,ho,Instr.storeAt,h1,Instr.sureAddr,storeVar,run_sizeOf _ hi,hsz,h2]
theorem zH7 {o:Oper} {t:TypeId} {x y:Operand} {kx' ky:KX} {base ety d n g:Nat} (ho:o.op= .store t x y) (hx:kx x=some kx') (hy:kx y=some ky) (hi:∃i,P.info? t=some i) (hr:Rel F N0 T pl st a w) (hsz0:P.cellsOf t=2)
  (ha:st.eval kx'= .c (.ptr d n g 0 0)) (hv:st.eval ky= .agg [.p .np,.p .nl]) (hw:(zS base [(1,ety,1)] 1 [.p .np,.p .nl] st).2.write (.c (.ptr d n g 0 0)) ((zS base [(1,ety,1)] 1 [.p .np,.p .nl] st).1.set 0 (.ptr d n g 0 KO))=some st'):Runs1 P o a w (fun u w'=>Post F N0 pl st w (.c .u) st' u w'):=by
 obtain ⟨i,hi⟩:=hi
 have hc:=zAb (zD hr hy) (by rw [hv];simp) (by rw [hv];rfl)
 rw [hv] at hc
 have hc:zK F (st.fr::st.up) pl w (a.eval y).cells.toList [.p .np,.p .nl]:=hc
 obtain ⟨pl1,r1,k1,c1,e1⟩:=zBP (base:=base) (fs0:=st.fr::st.up) (pl0:=pl) [(1,ety,1)] 1 _ st pl hr Keep.refl hc
 have hev:(zS base [(1,ety,1)] 1 [.p .np,.p .nl] st).2.eval kx'= .c (.ptr d n g 0 0):=(zEr e1 kx').trans ha
 have hra:=zD r1 hx
 rw [hev] at hra
 have c2:zK F ((zS base [(1,ety,1)] 1 [.p .np,.p .nl] st).2.fr::(zS base [(1,ety,1)] 1 [.p .np,.p .nl] st).2.up) pl1 w (a.eval y).cells.toList ((zS base [(1,ety,1)] 1 [.p .np,.p .nl] st).1.set 0 (.ptr d n g 0 KO)):=by
  refine ⟨by rw [List.length_set];exact c1.1,fun j u c hu hc'=>?_⟩
  by_cases hj:j=0
  ·subst hj
   have h0:RepP (Own F pl) w u .np:=(hc.2 0 u _ hu rfl).1
   cases h0
   have h1:c= .ptr d n g 0 KO:=by
    rw [List.getElem?_set_self (by rw [←c1.1];exact (List.getElem?_eq_some_iff.1 hu).1)] at hc'
    exact (Option.some.inj hc').symm
   subst h1
   obtain ⟨_,B,h2,h3,h4⟩:=hra
   refine ⟨⟨rfl,B,h2,h3,fun e=>?_⟩,.inr rfl⟩
   obtain ⟨b,s,h5,_⟩:=h4 e
   exact ⟨b,s,h5,.inr ⟨rfl,.inl rfl⟩⟩
  ·rw [List.getElem?_set_ne (Ne.symm hj)] at hc'
   exact c1.2 j u c hu hc'
 obtain ⟨ad,w',pl',h1,h2,h3,h4,h5,h6⟩:=zDv (P:=P) r1.mem r1.low hw hra c2
 refine zCw (w':=w') ?_ ⟨⟨pl',trivial,h3,k1.trans h4⟩,h5.trans e1⟩
 have hsz:(a.eval y).cells.size=P.cellsOf t:=by rw [hsz0,←Array.length_toList,hc.1];rfl
 simp [execOp,ho,Instr.storeAt,h1,Instr.sureAddr,storeVar,run_sizeOf _ hi,hsz,h2]
def zDV (pl:Pl) (D n k:Nat):Pl:=fun d' n'=>if d'=D∧n'=k then pl D n else if d'=D∧n'=n then nop else pl d' n'
theorem zDd {pl:Pl} {D n k d' n' j:Nat} {x:Nat×Nat} (h:zDV pl D n k d' n' j=some x):
  (d'=D∧n'=k∧pl D n j=some x)∨(pl d' n' j=some x∧¬(d'=D∧n'=n)∧¬(d'=D∧n'=k)):=by
 unfold zDV at h
 by_cases e1:d'=D∧n'=k
 ·rw [if_pos e1] at h
  exact .inl ⟨e1.1,e1.2,h⟩
 ·rw [if_neg e1] at h
  by_cases e2:d'=D∧n'=n
  ·rw [if_pos e2] at h;cases h
  ·rw [if_neg e2] at h
   exact .inr ⟨h,e2,e1⟩
theorem zHc (pl:Pl) (D n k:Nat):zDV pl D n k D k=pl D n:=by simp [zDV]
theorem zKH (pl:Pl) {D n k:Nat} (hne:n≠k):zDV pl D n k D n=nop:=by simp [zDV,hne]
theorem zF5 (pl:Pl) {D n k d' n':Nat} (h1:¬(d'=D∧n'=k)) (h2:¬(d'=D∧n'=n)):zDV pl D n k d' n'=pl d' n':=by
 unfold zDV
 rw [if_neg h1,if_neg h2]
theorem zH8 (hm:MemOK F N0 fs pl w) {D n k:Nat} (hne:n≠k) {B B1 B2:Blk} (hB:zB D n fs=some B1) (hk:B1.k.okO=true) (hBk:B.k=B1.k) (hBs:B.sz=B1.sz) (hBt:B.ty=B1.ty) (hd:B2.k= .dead) (hg:B1.g<B2.g)
  (hgk:∀B0,zB D k fs=some B0→B0.g<B.g) (hlen:fs'.length=fs.length) (hfs:∀d' n',zB d' n' fs'=if d'=D∧n'=k then some B else if d'=D∧n'=n then some B2 else zB d' n' fs):
  MemOK F N0 fs' (zDV pl D n k) w∧Keep F fs fs' pl (zDV pl D n k) w w:=by
 have hLow:Low 0 fs pl fs' (zDV pl D n k):=⟨fun d n h=>absurd h (Nat.not_lt_zero _),fun d' n' j b s h=>by
  rcases zDd h with ⟨_,_,h1⟩|⟨h1,_⟩
  ·exact ⟨_,_,_,h1⟩
  ·exact ⟨_,_,_,h1⟩⟩
 have hK:Keep F fs fs' pl (zDV pl D n k) w w:=by
  refine ⟨⟨rfl,rfl,rfl,Nat.le_refl _,fun _ _ _=>rfl⟩,hlen,fun d' n' b hb=>?_,fun d' n' j b s h=>?_⟩
  ·rw [hfs]
   by_cases e1:d'=D∧n'=k
   ·rw [if_pos e1]
    obtain ⟨rfl,rfl⟩:=e1
    have:=hgk b hb
    exact ⟨B,rfl,Nat.le_of_lt this,fun e=>by omega⟩
   ·rw [if_neg e1]
    by_cases e2:d'=D∧n'=n
    ·rw [if_pos e2]
     obtain ⟨rfl,rfl⟩:=e2
     rw [hB] at hb
     cases hb
     exact ⟨B2,rfl,Nat.le_of_lt hg,fun e=>by omega⟩
    ·rw [if_neg e2]
     exact ⟨b,hb,Nat.le_refl _,fun _=>⟨Ext.of (zF5 pl e1 e2),rfl⟩⟩
  ·obtain ⟨d0,n0,j0,h0⟩:=hLow.own d' n' j b s h
   exact .inl ⟨d0,n0,j0,s,h0⟩
 refine ⟨⟨fun d' n' j b s h=>?_,fun d1 n1 j1 d2 n2 j2 b s s' h1 h2=>?_,fun d' n' Bx hBx=>?_,hm.fsz,hm.fix⟩,hK⟩
 ·rcases zDd h with ⟨rfl,rfl,h1⟩|⟨h1,e2,e1⟩
  ·obtain ⟨a1,a2,a3,_⟩:=hm.live _ _ _ _ _ h1
   exact ⟨a1,a2,a3,B,by rw [hfs,if_pos ⟨rfl,rfl⟩]⟩
  ·obtain ⟨a1,a2,a3,Bq,a4⟩:=hm.live _ _ _ _ _ h1
   exact ⟨a1,a2,a3,Bq,by rw [hfs,if_neg e1,if_neg e2];exact a4⟩
 ·rcases zDd h1 with ⟨rfl,rfl,g1⟩|⟨g1,k1,k2⟩<;>rcases zDd h2 with ⟨rfl,rfl,g2⟩|⟨g2,k3,k4⟩
  ·obtain ⟨_,_,e⟩:=hm.inj _ _ _ _ _ _ _ _ _ g1 g2
   exact ⟨rfl,rfl,e⟩
  ·obtain ⟨rfl,rfl,_⟩:=hm.inj _ _ _ _ _ _ _ _ _ g1 g2
   exact absurd ⟨rfl,rfl⟩ k3
  ·obtain ⟨rfl,rfl,_⟩:=hm.inj _ _ _ _ _ _ _ _ _ g2 g1
   exact absurd ⟨rfl,rfl⟩ k1
  ·exact hm.inj _ _ _ _ _ _ _ _ _ g1 g2
 ·rw [hfs] at hBx
  by_cases e1:d'=D∧n'=k
  ·rw [if_pos e1] at hBx
   cases hBx
   obtain ⟨rfl,rfl⟩:=e1
   exact zCx hLow (hm.blk _ _ _ hB) hk hBk hBs hBt (zHc ..)
  ·rw [if_neg e1] at hBx
   by_cases e2:d'=D∧n'=n
   ·rw [if_pos e2] at hBx
    cases hBx
    obtain ⟨rfl,rfl⟩:=e2
    unfold zY
    rw [hd]
    exact zKH pl hne
   ·rw [if_neg e2] at hBx
    exact zAN hK (zF5 pl e1 e2) (fun _ _ _ _=>rfl) (hm.blk d' n' Bx hBx)
theorem zK2 {run:zh} {o:Oper} {x:Operand} {kx':KX} {dst:Nat} {v:AV} (ho:o.op= .assign x) (hx:kx x=some kx') (hr:Rel F N0 T pl st a w) (he:zC run st dst (.mvR kx')=some (v,st')):
  Runs1 P o a w (Post F N0 pl st w v st'):=by
 have same:some (st.eval kx',st)=some (v,st')→Runs1 P o a w (Post F N0 pl st w v st'):=fun h=>by
  cases h
  exact (zIo (.inr ho) hx hr).r1
 simp only [zC] at he
 split at he
 ·rename_i d n g m hk
  split at he
  ·rename_i hc
   obtain ⟨rfl,hne⟩:=hc
   split at he
   ·rename_i g' sz ty kk hB
    split at he
    ·rename_i hc
     obtain ⟨rfl,hrow⟩:=hc
     simp only [zM,Prod.mk.injEq] at he
     obtain ⟨rfl,rfl⟩:=he
     have hv:=zD hr hx
     rw [hk] at hv
     have hB':zB st.up.length n (st.fr::st.up)=some ⟨g,sz,ty,kk⟩:=hB
     have hD:st.up.length<(st.fr::st.up).length:=by simp
     have hs1:(st.set st.up.length n ⟨g+1,sz,ty,.dead⟩).up=st.up:=by simp [St.set]
     have hfr:(st.set st.up.length n ⟨g+1,sz,ty,.dead⟩).fresh (dst*64)=st.fresh (dst*64):=by
      simp [St.set,St.fresh,zBD,Ne.symm hne]
     have hfs:∀d' n',zB d' n' (((st.set st.up.length n ⟨g+1,sz,ty,.dead⟩).new (dst*64) sz ty kk).2.fr::((st.set st.up.length n ⟨g+1,sz,ty,.dead⟩).new (dst*64) sz ty kk).2.up)=
       if d'=st.up.length∧n'=dst*64 then some ⟨st.fresh (dst*64),sz,ty,kk⟩ else if d'=st.up.length∧n'=n then some ⟨g+1,sz,ty,.dead⟩ else zB d' n' (st.fr::st.up):=fun d' n'=>by
      have e:((st.set st.up.length n ⟨g+1,sz,ty,.dead⟩).new (dst*64) sz ty kk).2.fr::((st.set st.up.length n ⟨g+1,sz,ty,.dead⟩).new (dst*64) sz ty kk).2.up=zAD st.up.length (dst*64) ⟨st.fresh (dst*64),sz,ty,kk⟩ (zAD st.up.length n ⟨g+1,sz,ty,.dead⟩ (st.fr::st.up)):=by
       rw [←zJ,←hfr]
       simp [St.new,St.set,zAD]
      rw [e,zR d' n' (by rw [ze];exact hD),zR d' n' hD]
     have hok:kk.okO=true:=by cases kk<;>first|rfl|cases hrow
     obtain ⟨h1,h2⟩:=zH8 (fs':=(((st.set st.up.length n ⟨g+1,sz,ty,.dead⟩).new (dst*64) sz ty kk).2.fr::((st.set st.up.length n ⟨g+1,sz,ty,.dead⟩).new (dst*64) sz ty kk).2.up)) (B:=⟨st.fresh (dst*64),sz,ty,kk⟩) (B2:=⟨g+1,sz,ty,.dead⟩) hr.mem hne hB' hok rfl rfl rfl rfl (Nat.lt_succ_self _) (fun B0 h0=>by
      have h0:look (dst*64) st.fr=some B0:=by simpa [zB] using h0
      show B0.g<st.fresh (dst*64)
      simp [St.fresh,h0]) (by simp [St.new,St.set]) hfs
     refine zU (u:=a.eval x) (w':=w) (by simp [execOp,ho]) ⟨⟨_,?_,h1,h2⟩,by simp [St.new,St.set]⟩
     obtain ⟨r1,Bq,r2,r3,r4⟩:=hv
     rw [hB'] at r2
     cases r2
     refine ⟨r1,⟨st.fresh (dst*64),sz,ty,kk⟩,?_,by rw [hfr];exact Nat.le_refl _,fun _=>?_⟩
     ·rw [hfs,if_pos ⟨rfl,rfl⟩]
     ·rw [zHc]
      exact r4 rfl
    ·cases he
   ·cases he
  ·exact same (by rw [hk];exact he)
 ·rename_i hno
  exact same he
theorem zKi {run:zh} (hS:zA5 G P run) {o:Oper} {h:Hints} {self:FuncId} {k:KOp} {dst:Nat} {v:AV} (hc:zAm P h self o=some k) (hr:Rel F N0 T pl st a w)
  (he:zC run st dst k=some (v,st')):Runs1 P o a w (Post F N0 pl st w v st'):=by
 unfold zAm at hc
 split at hc
 ·--a nil slice
  rename_i ho
  split at hc
  ·cases hc
   simp only [zC,zM,Prod.mk.injEq] at he
   obtain ⟨rfl,rfl⟩:=he
   exact zKv (t:=0) ho hr
  ·cases hc
 ·rename_i x ho
  obtain ⟨kx',hx,rfl⟩:=Option.map_eq_some_iff.1 hc
  simp only [zC,zM,Prod.mk.injEq] at he
  obtain ⟨rfl,rfl⟩:=he
  exact (zIo (.inl ho) hx hr).r1
 ·rename_i x _ ho
  obtain ⟨kx',hx,hc⟩:=Option.map_eq_some_iff.1 hc
  split at hc
  ·cases hc
   exact zK2 ho hx hr he
  ·cases hc
   simp only [zC,zM,Prod.mk.injEq] at he
   obtain ⟨rfl,rfl⟩:=he
   exact (zIo (.inr ho) hx hr).r1
 ·rename_i c x y ho
  simp only [zN,zL] at hc
  obtain ⟨kc,h1,ka,h2,kb,h3,rfl⟩:=hc
  simp only [zC] at he
  split at he
  ·rename_i t ht
   simp only [zM,Prod.mk.injEq] at he
   obtain ⟨rfl,rfl⟩:=he
   exact (zJ5 ho h1 h2 h3 hr ht).r1
  ·cases he
 ·rename_i e ho
  simp only [zN,zL] at hc
  obtain ⟨i,hi,z,hz,x,hx,rfl⟩:=hc
  simp only [zC,St.eval] at he
  split at he
  ·cases he
  ·rename_i hnt
   split at he
   ·rename_i hcond
    simp only [zM,Prod.mk.injEq] at he
    obtain ⟨rfl,rfl⟩:=he
    exact (zIt (by simp only [execOp,ho,Sem.run_bind,zGu hi hz,Result.andThen_ok];rfl) hr (zIn hx) hnt hcond.1 hcond.2).mono fun _ _ h=>h.1
   ·cases he
 ·rename_i e x ho
  obtain ⟨kx',hx,hc⟩:=Option.bind_eq_some_iff.1 hc
  split at hc
  ·exact (zFO ho hx hc hr he).mono fun _ _ h=>h.1
  cases hc
  simp only [zC] at he
  split at he
  ·cases he
  ·rename_i hnt
   split at he
   ·rename_i hcond
    simp only [zM,Prod.mk.injEq] at he
    obtain ⟨rfl,rfl⟩:=he
    exact (zIt (by simp only [execOp,ho,Sem.run_bind,zF4,Result.andThen_ok];rfl) hr (zD hr hx) hnt hcond.1 hcond.2).mono fun _ _ h=>h.1
   ·cases he
 ·rename_i t parts ho
  split at hc
  ·rename_i fds hu
   split at hc
   ·cases hc
   ·rename_i hall
    simp only [zN,zL] at hc
    obtain ⟨z,hz,ks,hks,rfl⟩:=hc
    simp only [zC,zL,Prod.mk.injEq] at he
    obtain ⟨cs,h1,rfl,rfl⟩:=he
    exact (zI0 ho hu (by simpa only [Bool.not_eq_false] using hall) hz (by simpa using hks) hr h1).r1
  ·cases hc
 ·rename_i t len parts ho
  split at hc
  ·rename_i e hu
   split at hc
   ·cases hc
   ·rename_i hcond
    simp only [not_or] at hcond
    split at hc
    ·cases hc
    simp only [zN,zL] at hc
    obtain ⟨z,hz,ks,hks,rfl⟩:=hc
    simp only [zC,zN] at he
    obtain ⟨rows,h1,he⟩:=he
    refine (zH1 (cols:=zId P h self e parts) ho hu (by simpa using hcond.1) hcond.2 hz hks hr h1 ?_ (dst:=dst)).mono fun _ _ h=>h.1
    split at he
    ·rename_i rs st1 hfr
     simp only [zM,Prod.mk.injEq] at he
     obtain ⟨rfl,rfl⟩:=he
     unfold frz at hfr
     split at hfr
     ·exact .inl ⟨rs,st1,hfr,rfl,rfl⟩
     ·cases hfr
    ·split at he
     ·rename_i hd
      simp only [zM,Prod.mk.injEq] at he
      obtain ⟨rfl,rfl⟩:=he
      exact .inr ⟨hd,rfl,rfl⟩
     ·cases he
  ·cases hc
 ·rename_i t x ho
  simp only [zN,zL] at hc
  obtain ⟨kx',hx,g,hg,rfl⟩:=hc
  simp only [zC,zN,zL,Prod.mk.injEq] at he
  obtain ⟨cs,h1,v',h2,rfl,rfl⟩:=he
  exact (zJ6 ho hx hg hr h1 h2).r1
 ·rename_i t x y ho
  simp only [zN,zL] at hc
  obtain ⟨kx',hx,ky,hy,i,hi,rfl⟩:=hc
  have key:∀k,(k= .store (P.cellsOf t) kx' ky∨(∃b c,k= .storeN (P.cellsOf t) b c kx' ky)∨∃b c,k= .storeB b c kx' ky∧P.cellsOf t=2)→zC run st dst k=some (v,st')→Runs1 P o a w (Post F N0 pl st w v st'):=by
   rintro k (rfl|⟨b,c,rfl⟩|⟨b,c,rfl,hsz0⟩) he
   ·simp only [zC] at he
    split at he
    ·cases he
    ·rename_i hnt
     split at he
     ·rename_i hcond
      simp only [zL,Prod.mk.injEq] at he
      obtain ⟨st1,h1,rfl,rfl⟩:=he
      exact (zIw ho hx hy ⟨i,hi⟩ hr hnt hcond.1 hcond.2 h1).mono fun u w' hp=>hp.1
     ·cases he
   ·simp only [zC] at he
    split at he
    ·cases he
    ·rename_i hnt
     split at he
     ·rename_i hcond
      simp only [zL,Prod.mk.injEq] at he
      obtain ⟨st1,h1,rfl,rfl⟩:=he
      exact zH6 ho hx hy ⟨i,hi⟩ hr hnt hcond.1 hcond.2 h1
     ·cases he
   ·simp only [zC] at he
    split at he
    ·rename_i hea hev
     simp only [zL,Prod.mk.injEq] at he
     obtain ⟨st1,h1,rfl,rfl⟩:=he
     exact zH7 ho hx hy ⟨i,hi⟩ hr hsz0 hea hev h1
    ·cases he
  refine key _ ?_ he
  unfold zHG
  split
  ·split
   ·exact .inr (.inl ⟨_,_,rfl⟩)
   ·split
    ·rename_i hg
     split
     ·exact .inr (.inr ⟨_,_,rfl,hg.2⟩)
     ·exact .inl rfl
    ·exact .inl rfl
  ·exact .inl rfl
 ·rename_i x ho
  obtain ⟨kx',hx,rfl⟩:=Option.map_eq_some_iff.1 hc
  simp only [zC] at he
  split at he
  ·rename_i d n g j q hk
   split at he
   ·rename_i hg
    cases he
    obtain ⟨B,h1,h2⟩:=zHb hg.1
    exact (zGn ho hx hr (.inr (.inr ⟨d,n,g,j,q,B,hk,rfl,h1,h2,hg.2⟩))).r1
   ·cases he
  ·rename_i e q hk
   cases he
   exact (zGn ho hx hr (.inl ⟨e,q,hk,rfl⟩)).r1
  ·rename_i f cs hk
   cases he
   exact (zGn ho hx hr (.inr (.inl ⟨f,cs,hk,rfl⟩))).r1
  ·cases he
 ·rename_i op xt x y yt ho
  simp only [zN] at hc
  obtain ⟨kx',hx,ky,hy,hc⟩:=hc
  have bin:some (KOp.bin op kx' ky)=some k→Runs1 P o a w (Post F N0 pl st w v st'):=by
   intro hc
   cases hc
   simp only [zC] at he
   split at he
   ·rename_i p q h1 h2
    simp only [zL,Prod.mk.injEq] at he
    obtain ⟨r,h3,rfl,rfl⟩:=he
    exact (zKw ho hx hy hr h1 h2 h3).r1
   ·cases he
  split at hc
  ·rename_i fds hu
   split at hc
   ·rename_i hcond
    obtain ⟨tags,ht,rfl⟩:=Option.map_eq_some_iff.1 hc
    simp only [zC] at he
    split at he
    ·rename_i cs ds h1 h2
     simp only [zL,Prod.mk.injEq] at he
     obtain ⟨r,h3,rfl,rfl⟩:=he
     exact zK1 ho hcond.1 hcond.2 ht hu hx hy hr h1 h2 h3
    ·cases he
   ·cases hc
  ·exact bin hc
  ·exact bin hc
  ·rename_i hu
   split at hc
   ·rename_i hop
    cases hc
    simp only [zC] at he
    split at he
    ·rename_i p q h1 h2
     cases he
     exact (zKx ho hu hop hx hy hr h1 h2).r1
    ·cases he
   ·cases hc
  ·rename_i ms hu
   split at hc
   ·split at hc
    ·rename_i hop
     cases hc
     simp only [zC] at he
     split at he
     ·rename_i h1
      cases he
      exact (zHP ho hu hop hx hr (.inl ⟨h1,rfl⟩)).r1
     ·rename_i h1
      cases he
      exact (zHP ho hu hop hx hr (.inr ⟨h1,rfl⟩)).r1
     ·cases he
    ·cases hc
   ·cases hc
  ·cases hc
 ·rename_i op t x ho
  obtain ⟨kx',hx,rfl⟩:=Option.map_eq_some_iff.1 hc
  simp only [zC] at he
  split at he
  ·rename_i p h1
   simp only [zL,Prod.mk.injEq] at he
   obtain ⟨r,h2,rfl,rfl⟩:=he
   exact (zLL ho hx hr h1 h2).r1
  ·cases he
 ·rename_i src dst' x ho
  split at hc
  ·rename_i k1 k2 hs hd
   obtain ⟨kx',hx,rfl⟩:=Option.map_eq_some_iff.1 hc
   simp only [zC] at he
   split at he
   ·rename_i q n h1
    cases he
    exact (zJ8 ho hs hd hx hr h1).r1
   ·cases he
  ·rename_i hs hd
   obtain ⟨kx',hx,rfl⟩:=Option.map_eq_some_iff.1 hc
   simp only [zC] at he
   split at he
   ·rename_i q h1
    cases he
    exact (zIx ho hs hd hx hr h1).r1
   ·cases he
  ·rename_i e hs hd
   split at hc
   ·rename_i hu8
    obtain ⟨kx',hx,rfl⟩:=Option.map_eq_some_iff.1 hc
    simp only [zC,zN,zL,Prod.mk.injEq] at he
    obtain ⟨rows,h1,l,h2,rfl,rfl⟩:=he
    exact zI3 ho hs hu8 hd hx hr h1 h2
   ·cases hc
  ·cases hc
 ·rename_i f first caps ho
  split at hc
  ·rename_i hf
   obtain ⟨ks,hks,rfl⟩:=Option.map_eq_some_iff.1 hc
   simp only [zC,zL,Prod.mk.injEq] at he
   obtain ⟨cs,h1,rfl,rfl⟩:=he
   exact (zJ9 ho hf hks hr h1).r1
  ·cases hc
 ·rename_i t l c ho
  split at hc
  ·rename_i e hu
   split at hc
   ·cases hc
   ·rename_i hok
    simp only [zN,zL] at hc
    obtain ⟨z,hz,kl,hl,kc,hcc,rfl⟩:=hc
    simp only [zC,zN] at he
    obtain ⟨l',h1,c',h2,he⟩:=he
    split at he
    ·rename_i hcond
     obtain ⟨c1,rfl,c3,c4,c5,c6⟩:=hcond
     cases he
     exact (zKA ho hu (by simpa using hok) hz hl hcc hr c6 h1 h2 c1 c3 c4).mono fun _ _ h=>h.1
    ·cases he
  ·cases hc
 ·rename_i t x lo hi ho
  split at hc
  ·rename_i hu
   simp only [zN,zL] at hc
   obtain ⟨kx',hx,klo,hlo,khi,hhi,rfl⟩:=hc
   simp only [zC] at he
   split at he
   ·rename_i s h1
    simp only [zN] at he
    obtain ⟨l,h2,h',h3,he⟩:=he
    split at he
    ·rename_i hcond
     cases he
     exact (zKC ho hu hx hlo hhi hr h1 h2 h3 hcond.1 hcond.2.1 hcond.2.2).r1
    ·cases he
   ·cases he
  ·rename_i e hu
   simp only [zN,zL] at hc
   obtain ⟨i,hi',kx',hx,klo,hlo,khi,hhi,rfl⟩:=hc
   simp only [zC] at he
   split at he
   ·rename_i rows h1
    simp only [zN] at he
    obtain ⟨l,h2,h',h3,he⟩:=he
    split at he
    ·rename_i hcond
     cases he
     exact zK0 ho hu ⟨i,hi'⟩ hx hlo hhi hr h1 h2 h3 hcond.1 hcond.2.1 hcond.2.2.1 (by simpa using hcond.2.2.2)
    ·cases he
   ·cases he
  ·cases hc
 ·rename_i s x f ho
  split at hc
  ·rename_i fds hu
   simp only [zN] at hc
   obtain ⟨g,hg,hc⟩:=hc
   split at hc
   ·cases hc
   ·rename_i hz
    obtain ⟨kx',hx,rfl⟩:=Option.map_eq_some_iff.1 hc
    simp only [zC] at he
    split at he
    ·rename_i d n g' j q hk
     split at he
     ·rename_i hg'
      cases he
      obtain ⟨B,h1,h2⟩:=zHb hg'.1
      exact (zFt ho hu hg hz hx hr (.inr ⟨d,n,g',j,q,B,hk,rfl,h1,h2,hg'.2.1,hg'.2.2⟩)).r1
     ·cases he
    ·rename_i e q hk
     cases he
     exact (zFt ho hu hg hz hx hr (.inl ⟨e,q,hk,rfl⟩)).r1
    ·cases he
  ·cases hc
 ·rename_i s x f ho
  split at hc
  ·rename_i fds hu
   simp only [zN,zL] at hc
   obtain ⟨g,hg,q,hq,kx',hx,rfl⟩:=hc
   simp only [zC] at he
   split at he
   ·rename_i cs h1
    split at he
    ·rename_i hl
     simp only [zL,Prod.mk.injEq] at he
     obtain ⟨v',h2,rfl,rfl⟩:=he
     exact (zIy ho hu hg hq hx hr h1 hl h2).r1
    ·cases he
   ·cases he
  ·cases hc
 ·rename_i t x i ho
  split at hc
  ·rename_i e hu
   simp only [zN,zL] at hc
   obtain ⟨ie,hie,kx',hx,ky,hy,rfl⟩:=hc
   simp only [zC,zN] at he
   obtain ⟨n,hn,he⟩:=he
   split at he
   ·rename_i rows h1
    split at he
    ·rename_i hcond
     split at he
     ·rename_i row hrow
      split at he
      ·rename_i hlen
       cases he
       exact (zCW ho hu ⟨ie,hie⟩ hx hy hr hn hcond.1 (.inl ⟨rows,row,h1,hcond.2,hrow,hlen,rfl⟩)).r1
      ·cases he
     ·cases he
    ·cases he
   ·rename_i d m g q h1
    split at he
    ·rename_i g' sz' ty rows hB
     split at he
     ·rename_i hcond
      obtain ⟨rfl,c2,c3,c4,c5⟩:=hcond
      cases he
      exact (zCW ho hu ⟨ie,hie⟩ hx hy hr hn c4 (.inr ⟨d,m,g,q,_,h1,hB,rfl,c2,c5,rfl⟩)).r1
     ·cases he
    ·rename_i g' sz' ty cols rows hB
     split at he
     ·rename_i hcond
      obtain ⟨rfl,c2,c3,c4,c5⟩:=hcond
      cases he
      exact (zCW ho hu ⟨ie,hie⟩ hx hy hr hn c4 (.inr ⟨d,m,g,q,_,h1,hB,rfl,c2,c5,rfl⟩)).r1
     ·cases he
    ·rename_i g' sz' ty cells hB
     split at he
     ·rename_i hcond
      obtain ⟨rfl,c2,c3,c4,c5⟩:=hcond
      cases he
      exact (zCW ho hu ⟨ie,hie⟩ hx hy hr hn c4 (.inr ⟨d,m,g,q,_,h1,hB,rfl,c2,c5,rfl⟩)).r1
     ·cases he
    ·cases he
   ·cases he
  ·cases hc
 ·rename_i t x i ho
  split at hc
  ·rename_i hu
   simp only [zN,zL] at hc
   obtain ⟨kx',hx,ky,hy,rfl⟩:=hc
   simp only [zC,zN] at he
   obtain ⟨n,hn,he⟩:=he
   split at he
   ·rename_i s h1
    split at he
    ·rename_i h0
     split at he
     ·rename_i c hcc
      cases he
      exact (zIz ho hu hx hy hr h1 hn h0 hcc).r1
     ·cases he
    ·cases he
   ·cases he
  ·cases hc
 ·rename_i x i ho
  obtain ⟨kx',hx,rfl⟩:=Option.map_eq_some_iff.1 hc
  simp only [zC] at he
  split at he
  ·rename_i vs h1
   split at he
   ·rename_i g cs h2
    simp only [zL,Prod.mk.injEq] at he
    obtain ⟨v',h3,rfl,rfl⟩:=he
    exact (zKy ho hx hr h1 h2 h3).r1
   ·cases he
  ·cases he
 ·rename_i c ho
  split at hc
  ·rename_i hcal
   split at hc
   ·rename_i s x t1 t2 tl hargs htys
    split at hc
    ·rename_i e e' hu _
     split at hc
     ·rename_i hcond
      obtain ⟨rfl,hsz,hok⟩:=hcond
      simp only [zN,zL] at hc
      obtain ⟨ks,hs,kx',hx,rfl⟩:=hc
      have htl:c.argTypes= #[t1,t1]:=by
       have hl:c.argTypes.toList.length=2:=by simpa using hsz
       rw [htys] at hl
       have:tl= []:=zAQ (by simpa using hl)
       subst this
       rw [←Array.toArray_toList (xs:=c.argTypes),htys]
      exact zKz ho hcal hargs htl hu hok hs hx hr he
     ·cases hc
    ·cases hc
   ·cases hc
  ·rename_i hcal
   split at hc
   ·rename_i x t tl hargs htys
    have hargs':c.args= #[x]:=by rw [←Array.toArray_toList (xs:=c.args),hargs]
    have hty':c.argTypes[0]?=some t:=by
     rw [←Array.getElem?_toList,htys];rfl
    split at hc
    ·rename_i hu
     obtain ⟨kx',hx,rfl⟩:=Option.map_eq_some_iff.1 hc
     simp only [zC] at he
     split at he
     ·rename_i s h1
      cases he
      exact (zDx ⟨c,ho,hcal,hargs',hty'⟩ hx hr (.inl ⟨hu,s,h1,rfl⟩)).r1
     ·cases he
    ·rename_i e hu
     obtain ⟨kx',hx,rfl⟩:=Option.map_eq_some_iff.1 hc
     simp only [zC] at he
     split at he
     ·rename_i h1
      cases he
      exact (zDx ⟨c,ho,hcal,hargs',hty'⟩ hx hr (.inr ⟨⟨e,hu⟩,.inr (.inl ⟨h1,rfl⟩)⟩)).r1
     ·rename_i rows h1
      cases he
      exact (zDx ⟨c,ho,hcal,hargs',hty'⟩ hx hr (.inr ⟨⟨e,hu⟩,.inl ⟨rows,h1,rfl⟩⟩)).r1
     ·rename_i d n g m h1
      split at he
      ·rename_i hg
       cases he
       obtain ⟨B,h2,h3⟩:=zHb hg
       exact (zDx ⟨c,ho,hcal,hargs',hty'⟩ hx hr (.inr ⟨⟨e,hu⟩,.inr (.inr (.inl ⟨d,n,g,m,B,h1,h2,h3,rfl⟩))⟩)).r1
      ·cases he
     ·rename_i d n g j o m z h1
      split at he
      ·rename_i hg
       cases he
       obtain ⟨B,h2,h3⟩:=zHb hg
       exact (zDx ⟨c,ho,hcal,hargs',hty'⟩ hx hr (.inr ⟨⟨e,hu⟩,.inr (.inr (.inr ⟨d,n,g,j,o,m,z,B,h1,h2,h3,rfl⟩))⟩)).r1
      ·cases he
     ·cases he
    ·cases hc
   ·cases hc
  ·rename_i hcal
   obtain ⟨ks,hks,rfl⟩:=Option.map_eq_some_iff.1 hc
   simp only [zC,zL,Prod.mk.injEq] at he
   obtain ⟨n,h1,rfl,rfl⟩:=he
   exact zKh (mx:=true) ho hcal hks hr h1
  ·rename_i hcal
   obtain ⟨ks,hks,rfl⟩:=Option.map_eq_some_iff.1 hc
   simp only [zC,zL,Prod.mk.injEq] at he
   obtain ⟨n,h1,rfl,rfl⟩:=he
   exact zKh (mx:=false) ho hcal hks hr h1
  ·rename_i f hcal
   simp only [zN,zL] at hc
   obtain ⟨g,hg,ks,hks,rfl⟩:=hc
   unfold zIe at he
   split at he
   ·exact zJD hS ho hcal hg hks hr he
   ·exact (zKG hS ho hcal hg hks hr he).mono fun _ _ h=>h.1
  ·cases hc
 ·cases hc
end
end Go.Eng

