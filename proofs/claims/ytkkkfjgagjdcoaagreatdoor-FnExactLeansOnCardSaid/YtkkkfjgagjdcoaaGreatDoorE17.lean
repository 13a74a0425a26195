import Derived.Test.YtkkkfjgagjdcoaaGreatDoorE16
set_option linter.unusedVariables false
set_option linter.unusedSimpArgs false
namespace Go.Eng
open Go.RowKit
section
variable {P:Program} {F F':Nat→Prop} {G:Nat→Option Obj} {N0:Base G} {T:Nat} {pl pl' pl1:Pl} {st st':St} {a:Act} {w w':World} {fs fs':List Frame} {f':Frame} {up:List Frame}
theorem zIU {d n g:Nat} (h:(st.get d n).map (·.g)=some g):∃B,st.get d n=some B∧B.g=g:=by
 obtain ⟨B,h1,h2⟩:=Option.map_eq_some_iff.1 h
 exact ⟨B,h1,h2⟩
theorem zGN {e:TypeId} {i:TypeInfo} {z:Value} (hi:P.info? e=some i) (hz:i.zero=some z):(Instr.alloc e true (.tuple #[])).run P w= .ok (.pointer (some ⟨w.heap.size,0,none⟩)) {w with heap:=w.heap.push (.cells z.cells e)}:=by
 simp [Instr.alloc,zeroValue,typeInfo,hi,hz,newVar,newRow]
theorem zFj {e:TypeId} {v:Value}:(Instr.box e v).run P w= .ok (.pointer (some ⟨w.heap.size,0,none⟩)) {w with heap:=w.heap.push (.cells v.cells e)}:=by
 simp [Instr.box,newVar,newRow]
theorem zE9 {e:TypeId} {x:KX} {k:KOp} (h:zDK P e x=some k):∃col t sz2,k= .boxN e (P.cellsOf e) x col t sz2:=by
 unfold zDK at h
 split at h
 ·simp only [Option.bind_eq_some_iff] at h
  obtain ⟨z,hz,col,hcol,f,hf,h⟩:=h
  split at h
  ·cases h
   exact ⟨col,_,_,rfl⟩
  ·cases h
 ·cases h
theorem zFA {run:zk} {o:Oper} {e:TypeId} {x:Operand} {kx':KX} {k:KOp} {dst:Nat} {v:AV} (ho:o.op= .box e x) (hx:kx x=some kx') (hc:zDK P e kx'=some k) (hr:Rel F N0 T pl st a w)
  (he:zA run st dst k=some (v,st')):Runs1 P o a w (zFW F N0 pl st w v st'):=by
 obtain ⟨col,t,sz2,rfl⟩:=zE9 hc
 simp only [zA] at he
 split at he
 ·cases he
 rename_i hnt
 split at he
 ·rename_i hcond
  simp only [Option.some.injEq,Prod.mk.injEq] at he
  obtain ⟨rfl,rfl⟩:=he
  obtain ⟨r1,k1,g1⟩:=zIA hr (dst*64+1) sz2 t
  have hrep:=zBE (zE hr hx) hnt (zB8 hcond.2.2)
  refine (zJP (n:=dst*64) (sz:=P.cellsOf e) (v:=a.eval x) (by simp only [execOp,ho,Sem.run_bind,zFj,Result.andThen_ok];rfl) r1 (zIB hrep k1 hcond.2.1 g1 (zG ..)) (zIC hcond.2.2)).mono fun u w' hp=>?_
  obtain ⟨⟨⟨pl',p1,p2,p3⟩,p4⟩,hg⟩:=hp
  exact ⟨⟨⟨pl',p1,p2,k1.trans p3⟩,p4⟩,hg⟩
 ·cases he
theorem zJx {run:zk} (hS:zBF G P run) {o:Oper} {h:Hints} {self:FuncId} {k:KOp} {dst:Nat} {v:AV} (hc:zAp P h self o=some k) (hr:Rel F N0 T pl st a w)
  (he:zA run st dst k=some (v,st')):Runs1 P o a w (Post F N0 pl st w v st'):=by
 unfold zAp at hc
 split at hc
 ·--a nil slice
  rename_i ho
  split at hc
  ·cases hc
   simp only [zA,Option.some.injEq,Prod.mk.injEq] at he
   obtain ⟨rfl,rfl⟩:=he
   exact zJ8 (t:=0) ho hr
  ·cases hc
 ·rename_i x ho
  obtain ⟨kx',hx,rfl⟩:=Option.map_eq_some_iff.1 hc
  simp only [zA,Option.some.injEq,Prod.mk.injEq] at he
  obtain ⟨rfl,rfl⟩:=he
  exact (zJv (.inl ho) hx hr).r1
 ·rename_i x _ ho
  obtain ⟨kx',hx,rfl⟩:=Option.map_eq_some_iff.1 hc
  simp only [zA,Option.some.injEq,Prod.mk.injEq] at he
  obtain ⟨rfl,rfl⟩:=he
  exact (zJv (.inr ho) hx hr).r1
 ·rename_i c x y ho
  simp only [Option.bind_eq_some_iff,Option.map_eq_some_iff] at hc
  obtain ⟨kc,h1,ka,h2,kb,h3,rfl⟩:=hc
  simp only [zA] at he
  split at he
  ·rename_i t ht
   simp only [Option.some.injEq,Prod.mk.injEq] at he
   obtain ⟨rfl,rfl⟩:=he
   exact (zJN ho h1 h2 h3 hr ht).r1
  ·cases he
 ·rename_i e ho
  simp only [Option.bind_eq_some_iff,Option.map_eq_some_iff] at hc
  obtain ⟨i,hi,z,hz,x,hx,rfl⟩:=hc
  simp only [zA,St.eval] at he
  split at he
  ·cases he
  ·rename_i hnt
   split at he
   ·rename_i hcond
    simp only [Option.some.injEq,Prod.mk.injEq] at he
    obtain ⟨rfl,rfl⟩:=he
    exact (zH9 (by simp only [execOp,ho,Sem.run_bind,zGN hi hz,Result.andThen_ok];rfl) hr (zH5 hx) hnt hcond.1 hcond.2).mono fun _ _ h=>h.1
   ·cases he
 ·rename_i e x ho
  obtain ⟨kx',hx,hc⟩:=Option.bind_eq_some_iff.1 hc
  split at hc
  ·exact (zFA ho hx hc hr he).mono fun _ _ h=>h.1
  cases hc
  simp only [zA] at he
  split at he
  ·cases he
  ·rename_i hnt
   split at he
   ·rename_i hcond
    simp only [Option.some.injEq,Prod.mk.injEq] at he
    obtain ⟨rfl,rfl⟩:=he
    exact (zH9 (by simp only [execOp,ho,Sem.run_bind,zFj,Result.andThen_ok];rfl) hr (zE hr hx) hnt hcond.1 hcond.2).mono fun _ _ h=>h.1
   ·cases he
 ·rename_i t parts ho
  split at hc
  ·rename_i fds hu
   split at hc
   ·cases hc
   ·rename_i hall
    simp only [Option.bind_eq_some_iff,Option.map_eq_some_iff] at hc
    obtain ⟨z,hz,ks,hks,rfl⟩:=hc
    simp only [zA,Option.map_eq_some_iff,Prod.mk.injEq] at he
    obtain ⟨cs,h1,rfl,rfl⟩:=he
    exact (zII ho hu (by simpa only [Bool.not_eq_false] using hall) hz (by simpa using hks) hr h1).r1
  ·cases hc
 ·rename_i t len parts ho
  split at hc
  ·rename_i e hu
   split at hc
   ·cases hc
   ·rename_i hcond
    simp only [not_or] at hcond
    split at hc
    ·cases hc
    simp only [Option.bind_eq_some_iff,Option.map_eq_some_iff] at hc
    obtain ⟨z,hz,ks,hks,rfl⟩:=hc
    simp only [zA,Option.bind_eq_some_iff] at he
    obtain ⟨rows,h1,he⟩:=he
    refine (zHK ho hu (by simpa using hcond.1) hcond.2 hz hks hr h1 ?_ (dst:=dst)).mono fun _ _ h=>h.1
    split at he
    ·rename_i rs st1 hfr
     simp only [Option.some.injEq,Prod.mk.injEq] at he
     obtain ⟨rfl,rfl⟩:=he
     exact .inl ⟨rs,st1,hfr,rfl,rfl⟩
    ·split at he
     ·rename_i hd
      simp only [Option.some.injEq,Prod.mk.injEq] at he
      obtain ⟨rfl,rfl⟩:=he
      exact .inr ⟨hd,rfl,rfl⟩
     ·cases he
  ·cases hc
 ·rename_i t x ho
  simp only [Option.bind_eq_some_iff,Option.map_eq_some_iff] at hc
  obtain ⟨kx',hx,g,hg,rfl⟩:=hc
  simp only [zA,Option.bind_eq_some_iff,Option.map_eq_some_iff,Prod.mk.injEq] at he
  obtain ⟨cs,h1,v',h2,rfl,rfl⟩:=he
  exact (zJO ho hx hg hr h1 h2).r1
 ·rename_i t x y ho
  simp only [Option.bind_eq_some_iff,Option.map_eq_some_iff] at hc
  obtain ⟨kx',hx,ky,hy,i,hi,rfl⟩:=hc
  simp only [zA] at he
  split at he
  ·cases he
  ·rename_i hnt
   split at he
   ·rename_i hcond
    simp only [Option.map_eq_some_iff,Prod.mk.injEq] at he
    obtain ⟨st1,h1,rfl,rfl⟩:=he
    exact (zIE ho hx hy ⟨i,hi⟩ hr hnt hcond.1 hcond.2 h1).mono fun u w' hp=>hp.1
   ·cases he
 ·rename_i x ho
  obtain ⟨kx',hx,rfl⟩:=Option.map_eq_some_iff.1 hc
  simp only [zA] at he
  split at he
  ·rename_i d n g j q hk
   split at he
   ·rename_i hg
    cases he
    obtain ⟨B,h1,h2⟩:=zIU hg
    exact (zGJ ho hx hr (.inr (.inr ⟨d,n,g,j,q,B,hk,rfl,h1,h2⟩))).r1
   ·cases he
  ·rename_i e q hk
   cases he
   exact (zGJ ho hx hr (.inl ⟨e,q,hk,rfl⟩)).r1
  ·rename_i f cs hk
   cases he
   exact (zGJ ho hx hr (.inr (.inl ⟨f,cs,hk,rfl⟩))).r1
  ·cases he
 ·rename_i op xt x y yt ho
  simp only [Option.bind_eq_some_iff] at hc
  obtain ⟨kx',hx,ky,hy,hc⟩:=hc
  have bin:some (KOp.bin op kx' ky)=some k→Runs1 P o a w (Post F N0 pl st w v st'):=by
   intro hc
   cases hc
   simp only [zA] at he
   split at he
   ·rename_i p q h1 h2
    simp only [Option.map_eq_some_iff,Prod.mk.injEq] at he
    obtain ⟨r,h3,rfl,rfl⟩:=he
    exact (zJ9 ho hx hy hr h1 h2 h3).r1
   ·cases he
  split at hc
  ·rename_i fds hu
   split at hc
   ·rename_i hcond
    obtain ⟨tags,ht,rfl⟩:=Option.map_eq_some_iff.1 hc
    simp only [zA] at he
    split at he
    ·rename_i cs ds h1 h2
     simp only [Option.map_eq_some_iff,Prod.mk.injEq] at he
     obtain ⟨r,h3,rfl,rfl⟩:=he
     exact zKE ho hcond.1 hcond.2 ht hu hx hy hr h1 h2 h3
    ·cases he
   ·cases hc
  ·exact bin hc
  ·exact bin hc
  ·rename_i hu
   split at hc
   ·rename_i hop
    cases hc
    simp only [zA] at he
    split at he
    ·rename_i p q h1 h2
     cases he
     exact (zKA ho hu hop hx hy hr h1 h2).r1
    ·cases he
   ·cases hc
  ·rename_i ms hu
   split at hc
   ·split at hc
    ·rename_i hop
     cases hc
     simp only [zA] at he
     split at he
     ·rename_i h1
      cases he
      exact (zGq ho hu hop hx hr (.inl ⟨h1,rfl⟩)).r1
     ·rename_i h1
      cases he
      exact (zGq ho hu hop hx hr (.inr ⟨h1,rfl⟩)).r1
     ·cases he
    ·cases hc
   ·cases hc
  ·cases hc
 ·rename_i op t x ho
  obtain ⟨kx',hx,rfl⟩:=Option.map_eq_some_iff.1 hc
  simp only [zA] at he
  split at he
  ·rename_i p h1
   simp only [Option.map_eq_some_iff,Prod.mk.injEq] at he
   obtain ⟨r,h2,rfl,rfl⟩:=he
   exact (zKW ho hx hr h1 h2).r1
  ·cases he
 ·rename_i src dst' x ho
  split at hc
  ·rename_i k1 k2 hs hd
   obtain ⟨kx',hx,rfl⟩:=Option.map_eq_some_iff.1 hc
   simp only [zA] at he
   split at he
   ·rename_i q n h1
    cases he
    exact (zJR ho hs hd hx hr h1).r1
   ·cases he
  ·rename_i hs hd
   obtain ⟨kx',hx,rfl⟩:=Option.map_eq_some_iff.1 hc
   simp only [zA] at he
   split at he
   ·rename_i q h1
    cases he
    exact (zIF ho hs hd hx hr h1).r1
   ·cases he
  ·rename_i e hs hd
   split at hc
   ·rename_i hu8
    obtain ⟨kx',hx,rfl⟩:=Option.map_eq_some_iff.1 hc
    simp only [zA,Option.bind_eq_some_iff,Option.map_eq_some_iff,Prod.mk.injEq] at he
    obtain ⟨rows,h1,l,h2,rfl,rfl⟩:=he
    exact zIL ho hs hu8 hd hx hr h1 h2
   ·cases hc
  ·cases hc
 ·rename_i f first caps ho
  split at hc
  ·rename_i hf
   obtain ⟨ks,hks,rfl⟩:=Option.map_eq_some_iff.1 hc
   simp only [zA,Option.map_eq_some_iff,Prod.mk.injEq] at he
   obtain ⟨cs,h1,rfl,rfl⟩:=he
   exact (zJS ho hf hks hr h1).r1
  ·cases hc
 ·rename_i t l c ho
  split at hc
  ·rename_i e hu
   split at hc
   ·cases hc
   ·rename_i hok
    simp only [Option.bind_eq_some_iff,Option.map_eq_some_iff] at hc
    obtain ⟨z,hz,kl,hl,kc,hcc,rfl⟩:=hc
    simp only [zA,Option.bind_eq_some_iff] at he
    obtain ⟨l',h1,c',h2,he⟩:=he
    split at he
    ·rename_i hcond
     obtain ⟨c1,rfl,c3,c4,c5⟩:=hcond
     cases he
     exact (zJT ho hu (by simpa using hok) hz hl hcc hr h1 h2 c1 c3 c4).mono fun _ _ h=>h.1
    ·cases he
  ·cases hc
 ·rename_i t x lo hi ho
  split at hc
  ·rename_i hu
   simp only [Option.bind_eq_some_iff,Option.map_eq_some_iff] at hc
   obtain ⟨kx',hx,klo,hlo,khi,hhi,rfl⟩:=hc
   simp only [zA] at he
   split at he
   ·rename_i s h1
    simp only [Option.bind_eq_some_iff] at he
    obtain ⟨l,h2,h',h3,he⟩:=he
    split at he
    ·rename_i hcond
     cases he
     exact (zJU ho hu hx hlo hhi hr h1 h2 h3 hcond.1 hcond.2.1 hcond.2.2).r1
    ·cases he
   ·cases he
  ·rename_i e hu
   simp only [Option.bind_eq_some_iff,Option.map_eq_some_iff] at hc
   obtain ⟨i,hi',kx',hx,klo,hlo,khi,hhi,rfl⟩:=hc
   simp only [zA] at he
   split at he
   ·rename_i rows h1
    simp only [Option.bind_eq_some_iff] at he
    obtain ⟨l,h2,h',h3,he⟩:=he
    split at he
    ·rename_i hcond
     cases he
     exact zKD ho hu ⟨i,hi'⟩ hx hlo hhi hr h1 h2 h3 hcond.1 hcond.2.1 hcond.2.2.1 (by simpa using hcond.2.2.2)
    ·cases he
   ·cases he
  ·cases hc
 ·rename_i s x f ho
  split at hc
  ·rename_i fds hu
   simp only [Option.bind_eq_some_iff] at hc
   obtain ⟨g,hg,hc⟩:=hc
   split at hc
   ·cases hc
   ·rename_i hz
    obtain ⟨kx',hx,rfl⟩:=Option.map_eq_some_iff.1 hc
    simp only [zA] at he
    split at he
    ·rename_i d n g' j q hk
     split at he
     ·rename_i hg'
      cases he
      obtain ⟨B,h1,h2⟩:=zIU hg'
      exact (zFX ho hu hg hz hx hr (.inr ⟨d,n,g',j,q,B,hk,rfl,h1,h2⟩)).r1
     ·cases he
    ·rename_i e q hk
     cases he
     exact (zFX ho hu hg hz hx hr (.inl ⟨e,q,hk,rfl⟩)).r1
    ·cases he
  ·cases hc
 ·rename_i s x f ho
  split at hc
  ·rename_i fds hu
   simp only [Option.bind_eq_some_iff,Option.map_eq_some_iff] at hc
   obtain ⟨g,hg,q,hq,kx',hx,rfl⟩:=hc
   simp only [zA] at he
   split at he
   ·rename_i cs h1
    split at he
    ·rename_i hl
     simp only [Option.map_eq_some_iff,Prod.mk.injEq] at he
     obtain ⟨v',h2,rfl,rfl⟩:=he
     exact (zIG ho hu hg hq hx hr h1 hl h2).r1
    ·cases he
   ·cases he
  ·cases hc
 ·rename_i t x i ho
  split at hc
  ·rename_i e hu
   simp only [Option.bind_eq_some_iff,Option.map_eq_some_iff] at hc
   obtain ⟨ie,hie,kx',hx,ky,hy,rfl⟩:=hc
   simp only [zA,Option.bind_eq_some_iff] at he
   obtain ⟨n,hn,he⟩:=he
   split at he
   ·rename_i rows h1
    split at he
    ·rename_i hcond
     split at he
     ·rename_i row hrow
      split at he
      ·rename_i hlen
       cases he
       exact (zDd ho hu ⟨ie,hie⟩ hx hy hr hn hcond.1 (.inl ⟨rows,row,h1,hcond.2,hrow,hlen,rfl⟩)).r1
      ·cases he
     ·cases he
    ·cases he
   ·rename_i d m g q h1
    split at he
    ·rename_i g' sz' ty rows hB
     split at he
     ·rename_i hcond
      obtain ⟨rfl,c2,c3,c4,c5⟩:=hcond
      cases he
      exact (zDd ho hu ⟨ie,hie⟩ hx hy hr hn c4 (.inr ⟨d,m,g,q,_,h1,hB,rfl,c2,c5,rfl⟩)).r1
     ·cases he
    ·rename_i g' sz' ty cells hB
     split at he
     ·rename_i hcond
      obtain ⟨rfl,c2,c3,c4,c5⟩:=hcond
      cases he
      exact (zDd ho hu ⟨ie,hie⟩ hx hy hr hn c4 (.inr ⟨d,m,g,q,_,h1,hB,rfl,c2,c5,rfl⟩)).r1
     ·cases he
    ·cases he
   ·cases he
  ·cases hc
 ·rename_i t x i ho
  split at hc
  ·rename_i hu
   simp only [Option.bind_eq_some_iff,Option.map_eq_some_iff] at hc
   obtain ⟨kx',hx,ky,hy,rfl⟩:=hc
   simp only [zA,Option.bind_eq_some_iff] at he
   obtain ⟨n,hn,he⟩:=he
   split at he
   ·rename_i s h1
    split at he
    ·rename_i h0
     split at he
     ·rename_i c hcc
      cases he
      exact (zIH ho hu hx hy hr h1 hn h0 hcc).r1
     ·cases he
    ·cases he
   ·cases he
  ·cases hc
 ·rename_i x i ho
  obtain ⟨kx',hx,rfl⟩:=Option.map_eq_some_iff.1 hc
  simp only [zA] at he
  split at he
  ·rename_i vs h1
   split at he
   ·rename_i g cs h2
    simp only [Option.map_eq_some_iff,Prod.mk.injEq] at he
    obtain ⟨v',h3,rfl,rfl⟩:=he
    exact (zKB ho hx hr h1 h2 h3).r1
   ·cases he
  ·cases he
 ·rename_i c ho
  split at hc
  ·rename_i hcal
   split at hc
   ·rename_i s x t1 t2 tl hargs htys
    split at hc
    ·rename_i e e' hu _
     split at hc
     ·rename_i hcond
      obtain ⟨rfl,hsz,hok⟩:=hcond
      simp only [Option.bind_eq_some_iff,Option.map_eq_some_iff] at hc
      obtain ⟨ks,hs,kx',hx,rfl⟩:=hc
      have htl:c.argTypes= #[t1,t1]:=by
       have hl:c.argTypes.toList.length=2:=by simpa using hsz
       rw [htys] at hl
       have:tl= []:=List.eq_nil_of_length_eq_zero (by simpa using hl)
       subst this
       rw [←Array.toArray_toList (xs:=c.argTypes),htys]
      exact zKC ho hcal hargs htl hu hok hs hx hr he
     ·cases hc
    ·cases hc
   ·cases hc
  ·rename_i hcal
   split at hc
   ·rename_i x t tl hargs htys
    have hargs':c.args= #[x]:=by rw [←Array.toArray_toList (xs:=c.args),hargs]
    have hty':c.argTypes[0]?=some t:=by
     rw [←Array.getElem?_toList,htys];rfl
    split at hc
    ·rename_i hu
     obtain ⟨kx',hx,rfl⟩:=Option.map_eq_some_iff.1 hc
     simp only [zA] at he
     split at he
     ·rename_i s h1
      cases he
      exact (zE5 ⟨c,ho,hcal,hargs',hty'⟩ hx hr (.inl ⟨hu,s,h1,rfl⟩)).r1
     ·cases he
    ·rename_i e hu
     obtain ⟨kx',hx,rfl⟩:=Option.map_eq_some_iff.1 hc
     simp only [zA] at he
     split at he
     ·rename_i h1
      cases he
      exact (zE5 ⟨c,ho,hcal,hargs',hty'⟩ hx hr (.inr ⟨⟨e,hu⟩,.inr (.inl ⟨h1,rfl⟩)⟩)).r1
     ·rename_i rows h1
      cases he
      exact (zE5 ⟨c,ho,hcal,hargs',hty'⟩ hx hr (.inr ⟨⟨e,hu⟩,.inl ⟨rows,h1,rfl⟩⟩)).r1
     ·rename_i d n g m h1
      split at he
      ·rename_i hg
       cases he
       obtain ⟨B,h2,h3⟩:=zIU hg
       exact (zE5 ⟨c,ho,hcal,hargs',hty'⟩ hx hr (.inr ⟨⟨e,hu⟩,.inr (.inr ⟨d,n,g,m,B,h1,h2,h3,rfl⟩)⟩)).r1
      ·cases he
     ·cases he
    ·cases hc
   ·cases hc
  ·rename_i hcal
   obtain ⟨ks,hks,rfl⟩:=Option.map_eq_some_iff.1 hc
   simp only [zA,Option.map_eq_some_iff,Prod.mk.injEq] at he
   obtain ⟨n,h1,rfl,rfl⟩:=he
   exact zJw (mx:=true) ho hcal hks hr h1
  ·rename_i hcal
   obtain ⟨ks,hks,rfl⟩:=Option.map_eq_some_iff.1 hc
   simp only [zA,Option.map_eq_some_iff,Prod.mk.injEq] at he
   obtain ⟨n,h1,rfl,rfl⟩:=he
   exact zJw (mx:=false) ho hcal hks hr h1
  ·rename_i f hcal
   simp only [Option.bind_eq_some_iff,Option.map_eq_some_iff] at hc
   obtain ⟨g,hg,ks,hks,rfl⟩:=hc
   unfold zHw at he
   split at he
   ·exact zIT hS ho hcal hg hks hr he
   ·exact (zJX hS ho hcal hg hks hr he).mono fun _ _ h=>h.1
  ·cases hc
 ·cases hc
end
end Go.Eng

