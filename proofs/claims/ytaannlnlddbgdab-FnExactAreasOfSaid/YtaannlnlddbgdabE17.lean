import Derived.Test.YtaannlnlddbgdabE16
set_option linter.unusedVariables false
set_option linter.unusedSimpArgs false
namespace Go.Eng
open Go.RowKit
section
variable {P:Program} {F F':Nat→Prop} {G:Nat→Option Obj} {N0:Base G} {T:Nat} {pl pl' pl1:Pl} {st st':St} {a:Act} {w w':World} {fs fs':List Frame} {f':Frame} {up:List Frame}
theorem zHB {d n g:Nat} (h:(st.get d n).map (·.g)=some g):∃B,st.get d n=some B∧B.g=g:=by
 obtain ⟨B,h1,h2⟩:=Option.map_eq_some_iff.1 h
 exact ⟨B,h1,h2⟩
theorem zGX {e:TypeId} {i:TypeInfo} {z:Value} (hi:P.info? e=some i) (hz:i.zero=some z):(Instr.alloc e true (.tuple #[])).run P w= .ok (.pointer (some ⟨w.heap.size,0,none⟩)) {w with heap:=w.heap.push (.cells z.cells e)}:=by
 simp [Instr.alloc,zeroValue,typeInfo,hi,hz,newVar,newRow]
theorem zFj {e:TypeId} {v:Value}:(Instr.box e v).run P w= .ok (.pointer (some ⟨w.heap.size,0,none⟩)) {w with heap:=w.heap.push (.cells v.cells e)}:=by
 simp [Instr.box,newVar,newRow]
theorem zEz {e:TypeId} {x:KX} {k:KOp} (h:zDF P e x=some k):∃col t sz2,k= .boxN e (P.cellsOf e) x col t sz2:=by
 unfold zDF at h
 split at h
 ·simp only [Option.bind_eq_some_iff] at h
  obtain ⟨z,hz,col,hcol,f,hf,h⟩:=h
  split at h
  ·cases h
   exact ⟨col,_,_,rfl⟩
  ·cases h
 ·cases h
theorem zE0 {run:zd} {o:Oper} {e:TypeId} {x:Operand} {kx':KX} {k:KOp} {dst:Nat} {v:AV} (ho:o.op= .box e x) (hx:kx x=some kx') (hc:zDF P e kx'=some k) (hr:Rel F N0 T pl st a w)
  (he:zC run st dst k=some (v,st')):Runs1 P o a w (zFU F N0 pl st w v st'):=by
 obtain ⟨col,t,sz2,rfl⟩:=zEz hc
 simp only [zC] at he
 split at he
 ·cases he
 rename_i hnt
 split at he
 ·rename_i hcond
  simp only [Option.some.injEq,Prod.mk.injEq] at he
  obtain ⟨rfl,rfl⟩:=he
  obtain ⟨r1,k1,g1⟩:=zFW hr (dst*64+1) sz2 t
  have hrep:=zAP (zF hr hx) hnt (zBv hcond.2.2)
  refine (zJh (n:=dst*64) (sz:=P.cellsOf e) (v:=a.eval x) (by simp only [execOp,ho,Sem.run_bind,zFj,Result.andThen_ok];rfl) r1 (zFX hrep k1 hcond.2.1 g1 (zG ..)) (zIV hcond.2.2)).mono fun u w' hp=>?_
  obtain ⟨⟨⟨pl',p1,p2,p3⟩,p4⟩,hg⟩:=hp
  exact ⟨⟨⟨pl',p1,p2,k1.trans p3⟩,p4⟩,hg⟩
 ·cases he
theorem zES {s s':St} (h:s'.t=s.t) (k:KX):s'.eval k=s.eval k:=by
 cases k with
 |t n=>simp only [St.eval,h]
 |k v=>rfl
theorem zBC {base:Nat} {us:List Value} {fs0:List Frame} {pl0:Pl}:∀(l:List (Nat×TypeId×Nat)) (i:Nat) (cs:List CV) (st:St) (pl:Pl),Rel F N0 T pl st a w→Keep F fs0 (st.fr::st.up) pl0 pl w w→zJ F (st.fr::st.up) pl w us cs→
  ∃pl1,Rel F N0 T pl1 (zM base l i cs st).2 a w∧Keep F fs0 ((zM base l i cs st).2.fr::(zM base l i cs st).2.up) pl0 pl1 w w∧zJ F ((zM base l i cs st).2.fr::(zM base l i cs st).2.up) pl1 w us (zM base l i cs st).1∧(zM base l i cs st).2.t=st.t
 | [],i,cs,st,pl,hr,hk,hc=>⟨pl,hr,hk,hc,rfl⟩
 |(col,ty,sz)::r,i,cs,st,pl,hr,hk,hc=>by
  unfold zM
  split
  ·rename_i hn
   obtain ⟨r1,k1,g1⟩:=zFW hr (base+i) sz ty
   exact zBC r (i+1) _ _ _ r1 (hk.trans k1) (zFX hc k1 hn g1 (zG ..))
  ·exact zBC r (i+1) cs st pl hr hk hc
theorem zHh {o:Oper} {t:TypeId} {x y:Operand} {kx' ky:KX} {base:Nat} {cols:List (Nat×TypeId×Nat)} (ho:o.op= .store t x y) (hx:kx x=some kx') (hy:kx y=some ky) (hi:∃i,P.info? t=some i) (hr:Rel F N0 T pl st a w)
  (ht:∀vs,st.eval ky≠ .tup vs) (hl:(st.eval ky).cvs.length=P.cellsOf t) (hk:(st.eval ky).cvs.all (·.known)=true) (hw:(zM base cols 1 (st.eval ky).cvs st).2.write (st.eval kx') (zM base cols 1 (st.eval ky).cvs st).1=some st'):Runs1 P o a w (fun u w'=>Post F N0 pl st w (.c .u) st' u w'):=by
 obtain ⟨i,hi⟩:=hi
 have hc:=zAP (zF hr hy) ht hk
 obtain ⟨pl1,r1,k1,c1,e1⟩:=zBC (base:=base) (fs0:=st.fr::st.up) (pl0:=pl) cols 1 _ st pl hr Keep.refl hc
 have hev:(zM base cols 1 (st.eval ky).cvs st).2.eval kx'=st.eval kx':=zES e1 kx'
 obtain ⟨ad,w',pl',h1,h2,h3,h4,h5,h6⟩:=zDX (P:=P) r1.mem r1.low hw (hev▸zF r1 hx) c1
 refine zCg (w':=w') ?_ ⟨⟨pl',trivial,h3,k1.trans h4⟩,h5.trans e1⟩
 have hsz:(a.eval y).cells.size=P.cellsOf t:=by rw [←hl,←hc.1];simp
 simp [execOp,ho,Instr.storeAt,h1,Instr.sureAddr,storeVar,run_sizeOf _ hi,hsz,h2]
theorem zHi {o:Oper} {t:TypeId} {x y:Operand} {kx' ky:KX} {base ety d n g:Nat} (ho:o.op= .store t x y) (hx:kx x=some kx') (hy:kx y=some ky) (hi:∃i,P.info? t=some i) (hr:Rel F N0 T pl st a w) (hsz0:P.cellsOf t=2)
  (ha:st.eval kx'= .c (.ptr d n g 0 0)) (hv:st.eval ky= .agg [.p .np,.p .nl]) (hw:(zM base [(1,ety,1)] 1 [.p .np,.p .nl] st).2.write (.c (.ptr d n g 0 0)) ((zM base [(1,ety,1)] 1 [.p .np,.p .nl] st).1.set 0 (.ptr d n g 0 KO))=some st'):Runs1 P o a w (fun u w'=>Post F N0 pl st w (.c .u) st' u w'):=by
 obtain ⟨i,hi⟩:=hi
 have hc:=zAP (zF hr hy) (by rw [hv];simp) (by rw [hv];rfl)
 rw [hv] at hc
 have hc:zJ F (st.fr::st.up) pl w (a.eval y).cells.toList [.p .np,.p .nl]:=hc
 obtain ⟨pl1,r1,k1,c1,e1⟩:=zBC (base:=base) (fs0:=st.fr::st.up) (pl0:=pl) [(1,ety,1)] 1 _ st pl hr Keep.refl hc
 have hev:(zM base [(1,ety,1)] 1 [.p .np,.p .nl] st).2.eval kx'= .c (.ptr d n g 0 0):=(zES e1 kx').trans ha
 have hra:=zF r1 hx
 rw [hev] at hra
 have c2:zJ F ((zM base [(1,ety,1)] 1 [.p .np,.p .nl] st).2.fr::(zM base [(1,ety,1)] 1 [.p .np,.p .nl] st).2.up) pl1 w (a.eval y).cells.toList ((zM base [(1,ety,1)] 1 [.p .np,.p .nl] st).1.set 0 (.ptr d n g 0 KO)):=by
  refine ⟨by rw [List.length_set];exact c1.1,fun j u c hu hc'=>?_⟩
  by_cases hj:j=0
  ·subst hj
   have h0:RepP (Own F pl) w u .np:=(hc.2 0 u _ hu rfl).1
   cases h0
   have h1:c= .ptr d n g 0 KO:=by
    rw [List.getElem?_set_self (by rw [←c1.1];exact (List.getElem?_eq_some_iff.1 hu).1)] at hc'
    exact (Option.some.inj hc').symm
   subst h1
   obtain ⟨_,B,h2,h3,h4⟩:=hra
   refine ⟨⟨rfl,B,h2,h3,fun e=>?_⟩,.inr rfl⟩
   obtain ⟨b,s,h5,_⟩:=h4 e
   exact ⟨b,s,h5,.inr ⟨rfl,.inl rfl⟩⟩
  ·rw [List.getElem?_set_ne (Ne.symm hj)] at hc'
   exact c1.2 j u c hu hc'
 obtain ⟨ad,w',pl',h1,h2,h3,h4,h5,h6⟩:=zDX (P:=P) r1.mem r1.low hw hra c2
 refine zCg (w':=w') ?_ ⟨⟨pl',trivial,h3,k1.trans h4⟩,h5.trans e1⟩
 have hsz:(a.eval y).cells.size=P.cellsOf t:=by rw [hsz0,←Array.length_toList,hc.1];rfl
 simp [execOp,ho,Instr.storeAt,h1,Instr.sureAddr,storeVar,run_sizeOf _ hi,hsz,h2]
theorem zKI {run:zd} (hS:zAq G P run) {o:Oper} {h:Hints} {self:FuncId} {k:KOp} {dst:Nat} {v:AV} (hc:zAc P h self o=some k) (hr:Rel F N0 T pl st a w)
  (he:zC run st dst k=some (v,st')):Runs1 P o a w (Post F N0 pl st w v st'):=by
 unfold zAc at hc
 split at hc
 ·--a nil slice
  rename_i ho
  split at hc
  ·cases hc
   simp only [zC,Option.some.injEq,Prod.mk.injEq] at he
   obtain ⟨rfl,rfl⟩:=he
   exact zKT (t:=0) ho hr
  ·cases hc
 ·rename_i x ho
  obtain ⟨kx',hx,rfl⟩:=Option.map_eq_some_iff.1 hc
  simp only [zC,Option.some.injEq,Prod.mk.injEq] at he
  obtain ⟨rfl,rfl⟩:=he
  exact (zKG (.inl ho) hx hr).r1
 ·rename_i x _ ho
  obtain ⟨kx',hx,rfl⟩:=Option.map_eq_some_iff.1 hc
  simp only [zC,Option.some.injEq,Prod.mk.injEq] at he
  obtain ⟨rfl,rfl⟩:=he
  exact (zKG (.inr ho) hx hr).r1
 ·rename_i c x y ho
  simp only [Option.bind_eq_some_iff,Option.map_eq_some_iff] at hc
  obtain ⟨kc,h1,ka,h2,kb,h3,rfl⟩:=hc
  simp only [zC] at he
  split at he
  ·rename_i t ht
   simp only [Option.some.injEq,Prod.mk.injEq] at he
   obtain ⟨rfl,rfl⟩:=he
   exact (zJf ho h1 h2 h3 hr ht).r1
  ·cases he
 ·rename_i e ho
  simp only [Option.bind_eq_some_iff,Option.map_eq_some_iff] at hc
  obtain ⟨i,hi,z,hz,x,hx,rfl⟩:=hc
  simp only [zC,St.eval] at he
  split at he
  ·cases he
  ·rename_i hnt
   split at he
   ·rename_i hcond
    simp only [Option.some.injEq,Prod.mk.injEq] at he
    obtain ⟨rfl,rfl⟩:=he
    exact (zIU (by simp only [execOp,ho,Sem.run_bind,zGX hi hz,Result.andThen_ok];rfl) hr (zIP hx) hnt hcond.1 hcond.2).mono fun _ _ h=>h.1
   ·cases he
 ·rename_i e x ho
  obtain ⟨kx',hx,hc⟩:=Option.bind_eq_some_iff.1 hc
  split at hc
  ·exact (zE0 ho hx hc hr he).mono fun _ _ h=>h.1
  cases hc
  simp only [zC] at he
  split at he
  ·cases he
  ·rename_i hnt
   split at he
   ·rename_i hcond
    simp only [Option.some.injEq,Prod.mk.injEq] at he
    obtain ⟨rfl,rfl⟩:=he
    exact (zIU (by simp only [execOp,ho,Sem.run_bind,zFj,Result.andThen_ok];rfl) hr (zF hr hx) hnt hcond.1 hcond.2).mono fun _ _ h=>h.1
   ·cases he
 ·rename_i t parts ho
  split at hc
  ·rename_i fds hu
   split at hc
   ·cases hc
   ·rename_i hall
    simp only [Option.bind_eq_some_iff,Option.map_eq_some_iff] at hc
    obtain ⟨z,hz,ks,hks,rfl⟩:=hc
    simp only [zC,Option.map_eq_some_iff,Prod.mk.injEq] at he
    obtain ⟨cs,h1,rfl,rfl⟩:=he
    exact (zIb ho hu (by simpa only [Bool.not_eq_false] using hall) hz (by simpa using hks) hr h1).r1
  ·cases hc
 ·rename_i t len parts ho
  split at hc
  ·rename_i e hu
   split at hc
   ·cases hc
   ·rename_i hcond
    simp only [not_or] at hcond
    split at hc
    ·cases hc
    simp only [Option.bind_eq_some_iff,Option.map_eq_some_iff] at hc
    obtain ⟨z,hz,ks,hks,rfl⟩:=hc
    simp only [zC,Option.bind_eq_some_iff] at he
    obtain ⟨rows,h1,he⟩:=he
    refine (zHc ho hu (by simpa using hcond.1) hcond.2 hz hks hr h1 ?_ (dst:=dst)).mono fun _ _ h=>h.1
    split at he
    ·rename_i rs st1 hfr
     simp only [Option.some.injEq,Prod.mk.injEq] at he
     obtain ⟨rfl,rfl⟩:=he
     exact .inl ⟨rs,st1,hfr,rfl,rfl⟩
    ·split at he
     ·rename_i hd
      simp only [Option.some.injEq,Prod.mk.injEq] at he
      obtain ⟨rfl,rfl⟩:=he
      exact .inr ⟨hd,rfl,rfl⟩
     ·cases he
  ·cases hc
 ·rename_i t x ho
  simp only [Option.bind_eq_some_iff,Option.map_eq_some_iff] at hc
  obtain ⟨kx',hx,g,hg,rfl⟩:=hc
  simp only [zC,Option.bind_eq_some_iff,Option.map_eq_some_iff,Prod.mk.injEq] at he
  obtain ⟨cs,h1,v',h2,rfl,rfl⟩:=he
  exact (zJg ho hx hg hr h1 h2).r1
 ·rename_i t x y ho
  simp only [Option.bind_eq_some_iff,Option.map_eq_some_iff] at hc
  obtain ⟨kx',hx,ky,hy,i,hi,rfl⟩:=hc
  have key:∀k,(k= .store (P.cellsOf t) kx' ky∨(∃b c,k= .storeN (P.cellsOf t) b c kx' ky)∨∃b c,k= .storeB b c kx' ky∧P.cellsOf t=2)→zC run st dst k=some (v,st')→Runs1 P o a w (Post F N0 pl st w v st'):=by
   rintro k (rfl|⟨b,c,rfl⟩|⟨b,c,rfl,hsz0⟩) he
   ·simp only [zC] at he
    split at he
    ·cases he
    ·rename_i hnt
     split at he
     ·rename_i hcond
      simp only [Option.map_eq_some_iff,Prod.mk.injEq] at he
      obtain ⟨st1,h1,rfl,rfl⟩:=he
      exact (zIX ho hx hy ⟨i,hi⟩ hr hnt hcond.1 hcond.2 h1).mono fun u w' hp=>hp.1
     ·cases he
   ·simp only [zC] at he
    split at he
    ·cases he
    ·rename_i hnt
     split at he
     ·rename_i hcond
      simp only [Option.map_eq_some_iff,Prod.mk.injEq] at he
      obtain ⟨st1,h1,rfl,rfl⟩:=he
      exact zHh ho hx hy ⟨i,hi⟩ hr hnt hcond.1 hcond.2 h1
     ·cases he
   ·simp only [zC] at he
    split at he
    ·rename_i hea hev
     simp only [Option.map_eq_some_iff,Prod.mk.injEq] at he
     obtain ⟨st1,h1,rfl,rfl⟩:=he
     exact zHi ho hx hy ⟨i,hi⟩ hr hsz0 hea hev h1
    ·cases he
  refine key _ ?_ he
  unfold zGt
  split
  ·split
   ·exact .inr (.inl ⟨_,_,rfl⟩)
   ·split
    ·rename_i hg
     split
     ·exact .inr (.inr ⟨_,_,rfl,hg.2⟩)
     ·exact .inl rfl
    ·exact .inl rfl
  ·exact .inl rfl
 ·rename_i x ho
  obtain ⟨kx',hx,rfl⟩:=Option.map_eq_some_iff.1 hc
  simp only [zC] at he
  split at he
  ·rename_i d n g j q hk
   split at he
   ·rename_i hg
    cases he
    obtain ⟨B,h1,h2⟩:=zHB hg.1
    exact (zGR ho hx hr (.inr (.inr ⟨d,n,g,j,q,B,hk,rfl,h1,h2,hg.2⟩))).r1
   ·cases he
  ·rename_i e q hk
   cases he
   exact (zGR ho hx hr (.inl ⟨e,q,hk,rfl⟩)).r1
  ·rename_i f cs hk
   cases he
   exact (zGR ho hx hr (.inr (.inl ⟨f,cs,hk,rfl⟩))).r1
  ·cases he
 ·rename_i op xt x y yt ho
  simp only [Option.bind_eq_some_iff] at hc
  obtain ⟨kx',hx,ky,hy,hc⟩:=hc
  have bin:some (KOp.bin op kx' ky)=some k→Runs1 P o a w (Post F N0 pl st w v st'):=by
   intro hc
   cases hc
   simp only [zC] at he
   split at he
   ·rename_i p q h1 h2
    simp only [Option.map_eq_some_iff,Prod.mk.injEq] at he
    obtain ⟨r,h3,rfl,rfl⟩:=he
    exact (zKU ho hx hy hr h1 h2 h3).r1
   ·cases he
  split at hc
  ·rename_i fds hu
   split at hc
   ·rename_i hcond
    obtain ⟨tags,ht,rfl⟩:=Option.map_eq_some_iff.1 hc
    simp only [zC] at he
    split at he
    ·rename_i cs ds h1 h2
     simp only [Option.map_eq_some_iff,Prod.mk.injEq] at he
     obtain ⟨r,h3,rfl,rfl⟩:=he
     exact zKZ ho hcond.1 hcond.2 ht hu hx hy hr h1 h2 h3
    ·cases he
   ·cases hc
  ·exact bin hc
  ·exact bin hc
  ·rename_i hu
   split at hc
   ·rename_i hop
    cases hc
    simp only [zC] at he
    split at he
    ·rename_i p q h1 h2
     cases he
     exact (zKV ho hu hop hx hy hr h1 h2).r1
    ·cases he
   ·cases hc
  ·rename_i ms hu
   split at hc
   ·split at hc
    ·rename_i hop
     cases hc
     simp only [zC] at he
     split at he
     ·rename_i h1
      cases he
      exact (zG1 ho hu hop hx hr (.inl ⟨h1,rfl⟩)).r1
     ·rename_i h1
      cases he
      exact (zG1 ho hu hop hx hr (.inr ⟨h1,rfl⟩)).r1
     ·cases he
    ·cases hc
   ·cases hc
  ·cases hc
 ·rename_i op t x ho
  obtain ⟨kx',hx,rfl⟩:=Option.map_eq_some_iff.1 hc
  simp only [zC] at he
  split at he
  ·rename_i p h1
   simp only [Option.map_eq_some_iff,Prod.mk.injEq] at he
   obtain ⟨r,h2,rfl,rfl⟩:=he
   exact (zKq ho hx hr h1 h2).r1
  ·cases he
 ·rename_i src dst' x ho
  split at hc
  ·rename_i k1 k2 hs hd
   obtain ⟨kx',hx,rfl⟩:=Option.map_eq_some_iff.1 hc
   simp only [zC] at he
   split at he
   ·rename_i q n h1
    cases he
    exact (zJj ho hs hd hx hr h1).r1
   ·cases he
  ·rename_i hs hd
   obtain ⟨kx',hx,rfl⟩:=Option.map_eq_some_iff.1 hc
   simp only [zC] at he
   split at he
   ·rename_i q h1
    cases he
    exact (zIY ho hs hd hx hr h1).r1
   ·cases he
  ·rename_i e hs hd
   split at hc
   ·rename_i hu8
    obtain ⟨kx',hx,rfl⟩:=Option.map_eq_some_iff.1 hc
    simp only [zC,Option.bind_eq_some_iff,Option.map_eq_some_iff,Prod.mk.injEq] at he
    obtain ⟨rows,h1,l,h2,rfl,rfl⟩:=he
    exact zIf ho hs hu8 hd hx hr h1 h2
   ·cases hc
  ·cases hc
 ·rename_i f first caps ho
  split at hc
  ·rename_i hf
   obtain ⟨ks,hks,rfl⟩:=Option.map_eq_some_iff.1 hc
   simp only [zC,Option.map_eq_some_iff,Prod.mk.injEq] at he
   obtain ⟨cs,h1,rfl,rfl⟩:=he
   exact (zJk ho hf hks hr h1).r1
  ·cases hc
 ·rename_i t l c ho
  split at hc
  ·rename_i e hu
   split at hc
   ·cases hc
   ·rename_i hok
    simp only [Option.bind_eq_some_iff,Option.map_eq_some_iff] at hc
    obtain ⟨z,hz,kl,hl,kc,hcc,rfl⟩:=hc
    simp only [zC,Option.bind_eq_some_iff] at he
    obtain ⟨l',h1,c',h2,he⟩:=he
    split at he
    ·rename_i hcond
     obtain ⟨c1,rfl,c3,c4,c5,c6⟩:=hcond
     cases he
     exact (zJl ho hu (by simpa using hok) hz hl hcc hr c6 h1 h2 c1 c3 c4).mono fun _ _ h=>h.1
    ·cases he
  ·cases hc
 ·rename_i t x lo hi ho
  split at hc
  ·rename_i hu
   simp only [Option.bind_eq_some_iff,Option.map_eq_some_iff] at hc
   obtain ⟨kx',hx,klo,hlo,khi,hhi,rfl⟩:=hc
   simp only [zC] at he
   split at he
   ·rename_i s h1
    simp only [Option.bind_eq_some_iff] at he
    obtain ⟨l,h2,h',h3,he⟩:=he
    split at he
    ·rename_i hcond
     cases he
     exact (zJm ho hu hx hlo hhi hr h1 h2 h3 hcond.1 hcond.2.1 hcond.2.2).r1
    ·cases he
   ·cases he
  ·rename_i e hu
   simp only [Option.bind_eq_some_iff,Option.map_eq_some_iff] at hc
   obtain ⟨i,hi',kx',hx,klo,hlo,khi,hhi,rfl⟩:=hc
   simp only [zC] at he
   split at he
   ·rename_i rows h1
    simp only [Option.bind_eq_some_iff] at he
    obtain ⟨l,h2,h',h3,he⟩:=he
    split at he
    ·rename_i hcond
     cases he
     exact zKY ho hu ⟨i,hi'⟩ hx hlo hhi hr h1 h2 h3 hcond.1 hcond.2.1 hcond.2.2.1 (by simpa using hcond.2.2.2)
    ·cases he
   ·cases he
  ·cases hc
 ·rename_i s x f ho
  split at hc
  ·rename_i fds hu
   simp only [Option.bind_eq_some_iff] at hc
   obtain ⟨g,hg,hc⟩:=hc
   split at hc
   ·cases hc
   ·rename_i hz
    obtain ⟨kx',hx,rfl⟩:=Option.map_eq_some_iff.1 hc
    simp only [zC] at he
    split at he
    ·rename_i d n g' j q hk
     split at he
     ·rename_i hg'
      cases he
      obtain ⟨B,h1,h2⟩:=zHB hg'.1
      exact (zFZ ho hu hg hz hx hr (.inr ⟨d,n,g',j,q,B,hk,rfl,h1,h2,hg'.2.1,hg'.2.2⟩)).r1
     ·cases he
    ·rename_i e q hk
     cases he
     exact (zFZ ho hu hg hz hx hr (.inl ⟨e,q,hk,rfl⟩)).r1
    ·cases he
  ·cases hc
 ·rename_i s x f ho
  split at hc
  ·rename_i fds hu
   simp only [Option.bind_eq_some_iff,Option.map_eq_some_iff] at hc
   obtain ⟨g,hg,q,hq,kx',hx,rfl⟩:=hc
   simp only [zC] at he
   split at he
   ·rename_i cs h1
    split at he
    ·rename_i hl
     simp only [Option.map_eq_some_iff,Prod.mk.injEq] at he
     obtain ⟨v',h2,rfl,rfl⟩:=he
     exact (zIZ ho hu hg hq hx hr h1 hl h2).r1
    ·cases he
   ·cases he
  ·cases hc
 ·rename_i t x i ho
  split at hc
  ·rename_i e hu
   simp only [Option.bind_eq_some_iff,Option.map_eq_some_iff] at hc
   obtain ⟨ie,hie,kx',hx,ky,hy,rfl⟩:=hc
   simp only [zC,Option.bind_eq_some_iff] at he
   obtain ⟨n,hn,he⟩:=he
   split at he
   ·rename_i rows h1
    split at he
    ·rename_i hcond
     split at he
     ·rename_i row hrow
      split at he
      ·rename_i hlen
       cases he
       exact (zCF ho hu ⟨ie,hie⟩ hx hy hr hn hcond.1 (.inl ⟨rows,row,h1,hcond.2,hrow,hlen,rfl⟩)).r1
      ·cases he
     ·cases he
    ·cases he
   ·rename_i d m g q h1
    split at he
    ·rename_i g' sz' ty rows hB
     split at he
     ·rename_i hcond
      obtain ⟨rfl,c2,c3,c4,c5⟩:=hcond
      cases he
      exact (zCF ho hu ⟨ie,hie⟩ hx hy hr hn c4 (.inr ⟨d,m,g,q,_,h1,hB,rfl,c2,c5,rfl⟩)).r1
     ·cases he
    ·rename_i g' sz' ty cols rows hB
     split at he
     ·rename_i hcond
      obtain ⟨rfl,c2,c3,c4,c5⟩:=hcond
      cases he
      exact (zCF ho hu ⟨ie,hie⟩ hx hy hr hn c4 (.inr ⟨d,m,g,q,_,h1,hB,rfl,c2,c5,rfl⟩)).r1
     ·cases he
    ·rename_i g' sz' ty cells hB
     split at he
     ·rename_i hcond
      obtain ⟨rfl,c2,c3,c4,c5⟩:=hcond
      cases he
      exact (zCF ho hu ⟨ie,hie⟩ hx hy hr hn c4 (.inr ⟨d,m,g,q,_,h1,hB,rfl,c2,c5,rfl⟩)).r1
     ·cases he
    ·cases he
   ·cases he
  ·cases hc
 ·rename_i t x i ho
  split at hc
  ·rename_i hu
   simp only [Option.bind_eq_some_iff,Option.map_eq_some_iff] at hc
   obtain ⟨kx',hx,ky,hy,rfl⟩:=hc
   simp only [zC,Option.bind_eq_some_iff] at he
   obtain ⟨n,hn,he⟩:=he
   split at he
   ·rename_i s h1
    split at he
    ·rename_i h0
     split at he
     ·rename_i c hcc
      cases he
      exact (zIa ho hu hx hy hr h1 hn h0 hcc).r1
     ·cases he
    ·cases he
   ·cases he
  ·cases hc
 ·rename_i x i ho
  obtain ⟨kx',hx,rfl⟩:=Option.map_eq_some_iff.1 hc
  simp only [zC] at he
  split at he
  ·rename_i vs h1
   split at he
   ·rename_i g cs h2
    simp only [Option.map_eq_some_iff,Prod.mk.injEq] at he
    obtain ⟨v',h3,rfl,rfl⟩:=he
    exact (zKW ho hx hr h1 h2 h3).r1
   ·cases he
  ·cases he
 ·rename_i c ho
  split at hc
  ·rename_i hcal
   split at hc
   ·rename_i s x t1 t2 tl hargs htys
    split at hc
    ·rename_i e e' hu _
     split at hc
     ·rename_i hcond
      obtain ⟨rfl,hsz,hok⟩:=hcond
      simp only [Option.bind_eq_some_iff,Option.map_eq_some_iff] at hc
      obtain ⟨ks,hs,kx',hx,rfl⟩:=hc
      have htl:c.argTypes= #[t1,t1]:=by
       have hl:c.argTypes.toList.length=2:=by simpa using hsz
       rw [htys] at hl
       have:tl= []:=List.eq_nil_of_length_eq_zero (by simpa using hl)
       subst this
       rw [←Array.toArray_toList (xs:=c.argTypes),htys]
      exact zKX ho hcal hargs htl hu hok hs hx hr he
     ·cases hc
    ·cases hc
   ·cases hc
  ·rename_i hcal
   split at hc
   ·rename_i x t tl hargs htys
    have hargs':c.args= #[x]:=by rw [←Array.toArray_toList (xs:=c.args),hargs]
    have hty':c.argTypes[0]?=some t:=by
     rw [←Array.getElem?_toList,htys];rfl
    split at hc
    ·rename_i hu
     obtain ⟨kx',hx,rfl⟩:=Option.map_eq_some_iff.1 hc
     simp only [zC] at he
     split at he
     ·rename_i s h1
      cases he
      exact (zDZ ⟨c,ho,hcal,hargs',hty'⟩ hx hr (.inl ⟨hu,s,h1,rfl⟩)).r1
     ·cases he
    ·rename_i e hu
     obtain ⟨kx',hx,rfl⟩:=Option.map_eq_some_iff.1 hc
     simp only [zC] at he
     split at he
     ·rename_i h1
      cases he
      exact (zDZ ⟨c,ho,hcal,hargs',hty'⟩ hx hr (.inr ⟨⟨e,hu⟩,.inr (.inl ⟨h1,rfl⟩)⟩)).r1
     ·rename_i rows h1
      cases he
      exact (zDZ ⟨c,ho,hcal,hargs',hty'⟩ hx hr (.inr ⟨⟨e,hu⟩,.inl ⟨rows,h1,rfl⟩⟩)).r1
     ·rename_i d n g m h1
      split at he
      ·rename_i hg
       cases he
       obtain ⟨B,h2,h3⟩:=zHB hg
       exact (zDZ ⟨c,ho,hcal,hargs',hty'⟩ hx hr (.inr ⟨⟨e,hu⟩,.inr (.inr (.inl ⟨d,n,g,m,B,h1,h2,h3,rfl⟩))⟩)).r1
      ·cases he
     ·rename_i d n g j o m z h1
      split at he
      ·rename_i hg
       cases he
       obtain ⟨B,h2,h3⟩:=zHB hg
       exact (zDZ ⟨c,ho,hcal,hargs',hty'⟩ hx hr (.inr ⟨⟨e,hu⟩,.inr (.inr (.inr ⟨d,n,g,j,o,m,z,B,h1,h2,h3,rfl⟩))⟩)).r1
      ·cases he
     ·cases he
    ·cases hc
   ·cases hc
  ·rename_i hcal
   obtain ⟨ks,hks,rfl⟩:=Option.map_eq_some_iff.1 hc
   simp only [zC,Option.map_eq_some_iff,Prod.mk.injEq] at he
   obtain ⟨n,h1,rfl,rfl⟩:=he
   exact zKH (mx:=true) ho hcal hks hr h1
  ·rename_i hcal
   obtain ⟨ks,hks,rfl⟩:=Option.map_eq_some_iff.1 hc
   simp only [zC,Option.map_eq_some_iff,Prod.mk.injEq] at he
   obtain ⟨n,h1,rfl,rfl⟩:=he
   exact zKH (mx:=false) ho hcal hks hr h1
  ·rename_i f hcal
   simp only [Option.bind_eq_some_iff,Option.map_eq_some_iff] at hc
   obtain ⟨g,hg,ks,hks,rfl⟩:=hc
   unfold zIG at he
   split at he
   ·exact zIp hS ho hcal hg hks hr he
   ·exact (zJq hS ho hcal hg hks hr he).mono fun _ _ h=>h.1
  ·cases hc
 ·cases hc
end
end Go.Eng

