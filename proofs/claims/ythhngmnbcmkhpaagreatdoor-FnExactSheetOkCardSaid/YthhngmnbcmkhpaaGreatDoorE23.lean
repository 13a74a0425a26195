import Derived.Test.YthhngmnbcmkhpaaGreatDoorE22
set_option linter.unusedVariables false
set_option linter.unusedSimpArgs false
namespace Go.Eng
open Go.RowKit
section
variable {P:Program} {F F':Nat→Prop} {G:Nat→Option Obj} {N0:Base G} {T:Nat} {pl pl' pl1:Pl} {st st':St} {a:Act} {w w':World} {fs fs':List Frame} {f':Frame} {up:List Frame}
def zEJ (a:Act):KOp→Nat→Prop
 | .load _ _ _ (.t n)=>fun b=>∃ad:Addr,a.tmps.getD n undef= .pointer (some ad)∧ad.block=b
 | .load _ _ _ (.k _)=>fun _=>True
 |_=>noB
theorem zFs {a:Act} {g:Bool} {n:Nat} {ks:List Nat} {x:Operand} {k:KX} (hx:kx x=some k) (b:Nat) (h:∃ad:Addr,a.eval x= .pointer (some ad)∧ad.block=b):zEJ a (.load g n ks k) b:=by
 cases k with
 |k v=>trivial
 |t m=>
  cases x with
  |tmp t=>cases hx;exact h
  |const v=>simp only [kx,Option.map_eq_some_iff] at hx;obtain ⟨y,_,h2⟩:=hx;cases h2
  |func f=>cases hx
  |global g=>cases hx
theorem zIN {run:zj} {o:Oper} {h:Hints} {self:FuncId} {k:KOp} {dst:Nat} {v:AV} (hcalm:zg k=true) (hc:zK P h self o=some k) (hr:Rel F N0 T pl st a w)
  (he:zA run st dst k=some (v,st')):Runs2 P (zEJ a k) o a w (Post F N0 pl st w v st'):=by
 unfold zK at hc
 split at hc
 ·--a nil slice
  rename_i ho
  split at hc
  ·cases hc
   simp only [zA,Option.some.injEq,Prod.mk.injEq] at he
   obtain ⟨rfl,rfl⟩:=he
   exact absurd hcalm (by simp [zg])
  ·cases hc
 ·rename_i x ho
  obtain ⟨kx',hx,rfl⟩:=Option.map_eq_some_iff.1 hc
  simp only [zA,Option.some.injEq,Prod.mk.injEq] at he
  obtain ⟨rfl,rfl⟩:=he
  exact zD1 (.inl ho) hx hr
 ·rename_i x _ ho
  obtain ⟨kx',hx,rfl⟩:=Option.map_eq_some_iff.1 hc
  simp only [zA,Option.some.injEq,Prod.mk.injEq] at he
  obtain ⟨rfl,rfl⟩:=he
  exact zD1 (.inr ho) hx hr
 ·rename_i c x y ho
  simp only [Option.bind_eq_some_iff,Option.map_eq_some_iff] at hc
  obtain ⟨kc,h1,ka,h2,kb,h3,rfl⟩:=hc
  simp only [zA] at he
  split at he
  ·rename_i t ht
   simp only [Option.some.injEq,Prod.mk.injEq] at he
   obtain ⟨rfl,rfl⟩:=he
   exact zEg ho h1 h2 h3 hr ht
  ·cases he
 ·rename_i e ho
  simp only [Option.bind_eq_some_iff,Option.map_eq_some_iff] at hc
  obtain ⟨i,hi,z,hz,x,hx,rfl⟩:=hc
  simp only [zA,St.eval] at he
  split at he
  ·cases he
  ·rename_i hnt
   split at he
   ·rename_i hcond
    simp only [Option.some.injEq,Prod.mk.injEq] at he
    obtain ⟨rfl,rfl⟩:=he
    exact absurd hcalm (by simp [zg])
   ·cases he
 ·rename_i e x ho
  obtain ⟨kx',hx,hc⟩:=Option.bind_eq_some_iff.1 hc
  split at hc
  ·obtain ⟨_,_,_,rfl⟩:=zAu hc
   exact absurd hcalm (by simp [zg])
  cases hc
  simp only [zA] at he
  split at he
  ·cases he
  ·rename_i hnt
   split at he
   ·rename_i hcond
    simp only [Option.some.injEq,Prod.mk.injEq] at he
    obtain ⟨rfl,rfl⟩:=he
    exact absurd hcalm (by simp [zg])
   ·cases he
 ·rename_i t parts ho
  split at hc
  ·rename_i fds hu
   split at hc
   ·cases hc
   ·rename_i hall
    simp only [Option.bind_eq_some_iff,Option.map_eq_some_iff] at hc
    obtain ⟨z,hz,ks,hks,rfl⟩:=hc
    simp only [zA,Option.map_eq_some_iff,Prod.mk.injEq] at he
    obtain ⟨cs,h1,rfl,rfl⟩:=he
    exact zDN ho hu (by simpa only [Bool.not_eq_false] using hall) hz (by simpa using hks) hr h1
  ·cases hc
 ·rename_i t len parts ho
  split at hc
  ·rename_i e hu
   split at hc
   ·cases hc
   ·rename_i hcond
    simp only [not_or] at hcond
    split at hc
    ·cases hc
    simp only [Option.bind_eq_some_iff,Option.map_eq_some_iff] at hc
    obtain ⟨z,hz,ks,hks,rfl⟩:=hc
    simp only [zA,Option.bind_eq_some_iff] at he
    obtain ⟨rows,h1,he⟩:=he
    exact absurd hcalm (by simp [zg])
  ·cases hc
 ·rename_i t x ho
  simp only [Option.bind_eq_some_iff,Option.map_eq_some_iff] at hc
  obtain ⟨kx',hx,g,hg,rfl⟩:=hc
  simp only [zA,Option.bind_eq_some_iff,Option.map_eq_some_iff,Prod.mk.injEq] at he
  obtain ⟨cs,h1,v',h2,rfl,rfl⟩:=he
  exact (zEh ho hx hg hr h1 h2).sub fun b h=>zFs hx b h
 ·rename_i t x y ho
  simp only [Option.bind_eq_some_iff,Option.map_eq_some_iff] at hc
  obtain ⟨kx',hx,ky,hy,i,hi,rfl⟩:=hc
  simp only [zA] at he
  split at he
  ·cases he
  ·rename_i hnt
   split at he
   ·rename_i hcond
    simp only [Option.map_eq_some_iff,Prod.mk.injEq] at he
    obtain ⟨st1,h1,rfl,rfl⟩:=he
    exact absurd hcalm (by simp [zg])
   ·cases he
 ·rename_i x ho
  obtain ⟨kx',hx,rfl⟩:=Option.map_eq_some_iff.1 hc
  simp only [zA] at he
  split at he
  ·rename_i d n g j q hk
   split at he
   ·rename_i hg
    cases he
    obtain ⟨B,h1,h2⟩:=zCQ hg
    exact zBM ho hx hr (.inr (.inr ⟨d,n,g,j,q,B,hk,rfl,h1,h2⟩))
   ·cases he
  ·rename_i e q hk
   cases he
   exact zBM ho hx hr (.inl ⟨e,q,hk,rfl⟩)
  ·rename_i f cs hk
   cases he
   exact zBM ho hx hr (.inr (.inl ⟨f,cs,hk,rfl⟩))
  ·cases he
 ·rename_i op xt x y yt ho
  simp only [Option.bind_eq_some_iff] at hc
  obtain ⟨kx',hx,ky,hy,hc⟩:=hc
  have bin:some (KOp.bin op kx' ky)=some k→Runs2 P (zEJ a k) o a w (Post F N0 pl st w v st'):=by
   intro hc
   cases hc
   simp only [zA] at he
   split at he
   ·rename_i p q h1 h2
    simp only [Option.map_eq_some_iff,Prod.mk.injEq] at he
    obtain ⟨r,h3,rfl,rfl⟩:=he
    exact zFm ho hx hy hr h1 h2 h3
   ·cases he
  split at hc
  ·rename_i fds hu
   split at hc
   ·rename_i hcond
    obtain ⟨tags,ht,rfl⟩:=Option.map_eq_some_iff.1 hc
    simp only [zA] at he
    split at he
    ·rename_i cs ds h1 h2
     simp only [Option.map_eq_some_iff,Prod.mk.injEq] at he
     obtain ⟨r,h3,rfl,rfl⟩:=he
     exact absurd hcalm (by simp [zg])
    ·cases he
   ·cases hc
  ·exact bin hc
  ·exact bin hc
  ·rename_i hu
   split at hc
   ·rename_i hop
    cases hc
    simp only [zA] at he
    split at he
    ·rename_i p q h1 h2
     cases he
     exact zFn ho hu hop hx hy hr h1 h2
    ·cases he
   ·cases hc
  ·rename_i ms hu
   split at hc
   ·split at hc
    ·rename_i hop
     cases hc
     simp only [zA] at he
     split at he
     ·rename_i h1
      cases he
      exact zBp ho hu hop hx hr (.inl ⟨h1,rfl⟩)
     ·rename_i h1
      cases he
      exact zBp ho hu hop hx hr (.inr ⟨h1,rfl⟩)
     ·cases he
    ·cases hc
   ·cases hc
  ·cases hc
 ·rename_i op t x ho
  obtain ⟨kx',hx,rfl⟩:=Option.map_eq_some_iff.1 hc
  simp only [zA] at he
  split at he
  ·rename_i p h1
   simp only [Option.map_eq_some_iff,Prod.mk.injEq] at he
   obtain ⟨r,h2,rfl,rfl⟩:=he
   exact zHJ ho hx hr h1 h2
  ·cases he
 ·rename_i src dst' x ho
  split at hc
  ·rename_i k1 k2 hs hd
   obtain ⟨kx',hx,rfl⟩:=Option.map_eq_some_iff.1 hc
   simp only [zA] at he
   split at he
   ·rename_i q n h1
    cases he
    exact zEj ho hs hd hx hr h1
   ·cases he
  ·rename_i hs hd
   obtain ⟨kx',hx,rfl⟩:=Option.map_eq_some_iff.1 hc
   simp only [zA] at he
   split at he
   ·rename_i q h1
    cases he
    exact zDJ ho hs hd hx hr h1
   ·cases he
  ·rename_i e hs hd
   split at hc
   ·rename_i hu8
    obtain ⟨kx',hx,rfl⟩:=Option.map_eq_some_iff.1 hc
    simp only [zA,Option.bind_eq_some_iff,Option.map_eq_some_iff,Prod.mk.injEq] at he
    obtain ⟨rows,h1,l,h2,rfl,rfl⟩:=he
    exact absurd hcalm (by simp [zg])
   ·cases hc
  ·cases hc
 ·rename_i f first caps ho
  split at hc
  ·rename_i hf
   obtain ⟨ks,hks,rfl⟩:=Option.map_eq_some_iff.1 hc
   simp only [zA,Option.map_eq_some_iff,Prod.mk.injEq] at he
   obtain ⟨cs,h1,rfl,rfl⟩:=he
   exact zEk ho hf hks hr h1
  ·cases hc
 ·rename_i t l c ho
  split at hc
  ·rename_i e hu
   split at hc
   ·cases hc
   ·rename_i hok
    simp only [Option.bind_eq_some_iff,Option.map_eq_some_iff] at hc
    obtain ⟨z,hz,kl,hl,kc,hcc,rfl⟩:=hc
    simp only [zA,Option.bind_eq_some_iff] at he
    obtain ⟨l',h1,c',h2,he⟩:=he
    split at he
    ·rename_i hcond
     obtain ⟨c1,rfl,c3,c4,c5⟩:=hcond
     cases he
     exact absurd hcalm (by simp [zg])
    ·cases he
  ·cases hc
 ·rename_i t x lo hi ho
  split at hc
  ·rename_i hu
   simp only [Option.bind_eq_some_iff,Option.map_eq_some_iff] at hc
   obtain ⟨kx',hx,klo,hlo,khi,hhi,rfl⟩:=hc
   simp only [zA] at he
   split at he
   ·rename_i s h1
    simp only [Option.bind_eq_some_iff] at he
    obtain ⟨l,h2,h',h3,he⟩:=he
    split at he
    ·rename_i hcond
     cases he
     exact (zEn ho hu hx hlo hhi hr h1 h2 h3 hcond.1 hcond.2.1 hcond.2.2).sub (fun _ h=>h.elim)
    ·cases he
   ·cases he
  ·rename_i e hu
   simp only [Option.bind_eq_some_iff,Option.map_eq_some_iff] at hc
   obtain ⟨i,hi',kx',hx,klo,hlo,khi,hhi,rfl⟩:=hc
   simp only [zA] at he
   split at he
   ·rename_i rows h1
    simp only [Option.bind_eq_some_iff] at he
    obtain ⟨l,h2,h',h3,he⟩:=he
    split at he
    ·rename_i hcond
     cases he
     exact absurd hcalm (by simp [zg])
    ·cases he
   ·cases he
  ·cases hc
 ·rename_i s x f ho
  split at hc
  ·rename_i fds hu
   simp only [Option.bind_eq_some_iff] at hc
   obtain ⟨g,hg,hc⟩:=hc
   split at hc
   ·cases hc
   ·rename_i hz
    obtain ⟨kx',hx,rfl⟩:=Option.map_eq_some_iff.1 hc
    simp only [zA] at he
    split at he
    ·rename_i d n g' j q hk
     split at he
     ·rename_i hg'
      cases he
      obtain ⟨B,h1,h2⟩:=zCQ hg'
      exact zBD ho hu hg hz hx hr (.inr ⟨d,n,g',j,q,B,hk,rfl,h1,h2⟩)
     ·cases he
    ·rename_i e q hk
     cases he
     exact zBD ho hu hg hz hx hr (.inl ⟨e,q,hk,rfl⟩)
    ·cases he
  ·cases hc
 ·rename_i s x f ho
  split at hc
  ·rename_i fds hu
   simp only [Option.bind_eq_some_iff,Option.map_eq_some_iff] at hc
   obtain ⟨g,hg,q,hq,kx',hx,rfl⟩:=hc
   simp only [zA] at he
   split at he
   ·rename_i cs h1
    split at he
    ·rename_i hl
     simp only [Option.map_eq_some_iff,Prod.mk.injEq] at he
     obtain ⟨v',h2,rfl,rfl⟩:=he
     exact zDL ho hu hg hq hx hr h1 hl h2
    ·cases he
   ·cases he
  ·cases hc
 ·rename_i t x i ho
  split at hc
  ·rename_i e hu
   simp only [Option.bind_eq_some_iff,Option.map_eq_some_iff] at hc
   obtain ⟨ie,hie,kx',hx,ky,hy,rfl⟩:=hc
   simp only [zA,Option.bind_eq_some_iff] at he
   obtain ⟨n,hn,he⟩:=he
   split at he
   ·rename_i rows h1
    split at he
    ·rename_i hcond
     split at he
     ·rename_i row hrow
      split at he
      ·rename_i hlen
       cases he
       exact zAd ho hu ⟨ie,hie⟩ hx hy hr hn hcond.1 (.inl ⟨rows,row,h1,hcond.2,hrow,hlen,rfl⟩)
      ·cases he
     ·cases he
    ·cases he
   ·rename_i d m g q h1
    split at he
    ·rename_i g' sz' ty rows hB
     split at he
     ·rename_i hcond
      obtain ⟨rfl,c2,c3,c4,c5⟩:=hcond
      cases he
      exact zAd ho hu ⟨ie,hie⟩ hx hy hr hn c4 (.inr ⟨d,m,g,q,_,h1,hB,rfl,c2,c5,rfl⟩)
     ·cases he
    ·rename_i g' sz' ty cells hB
     split at he
     ·rename_i hcond
      obtain ⟨rfl,c2,c3,c4,c5⟩:=hcond
      cases he
      exact zAd ho hu ⟨ie,hie⟩ hx hy hr hn c4 (.inr ⟨d,m,g,q,_,h1,hB,rfl,c2,c5,rfl⟩)
     ·cases he
    ·cases he
   ·cases he
  ·cases hc
 ·rename_i t x i ho
  split at hc
  ·rename_i hu
   simp only [Option.bind_eq_some_iff,Option.map_eq_some_iff] at hc
   obtain ⟨kx',hx,ky,hy,rfl⟩:=hc
   simp only [zA,Option.bind_eq_some_iff] at he
   obtain ⟨n,hn,he⟩:=he
   split at he
   ·rename_i s h1
    split at he
    ·rename_i h0
     split at he
     ·rename_i c hcc
      cases he
      exact zDM ho hu hx hy hr h1 hn h0 hcc
     ·cases he
    ·cases he
   ·cases he
  ·cases hc
 ·rename_i x i ho
  obtain ⟨kx',hx,rfl⟩:=Option.map_eq_some_iff.1 hc
  simp only [zA] at he
  split at he
  ·rename_i vs h1
   split at he
   ·rename_i g cs h2
    simp only [Option.map_eq_some_iff,Prod.mk.injEq] at he
    obtain ⟨v',h3,rfl,rfl⟩:=he
    exact zFo ho hx hr h1 h2 h3
   ·cases he
  ·cases he
 ·rename_i c ho
  split at hc
  ·rename_i hcal
   split at hc
   ·rename_i s x t1 t2 tl hargs htys
    split at hc
    ·rename_i e e' hu _
     split at hc
     ·rename_i hcond
      obtain ⟨rfl,hsz,hok⟩:=hcond
      simp only [Option.bind_eq_some_iff,Option.map_eq_some_iff] at hc
      obtain ⟨ks,hs,kx',hx,rfl⟩:=hc
      have htl:c.argTypes= #[t1,t1]:=by
       have hl:c.argTypes.toList.length=2:=by simpa using hsz
       rw [htys] at hl
       have:tl= []:=List.eq_nil_of_length_eq_zero (by simpa using hl)
       subst this
       rw [←Array.toArray_toList (xs:=c.argTypes),htys]
      exact absurd hcalm (by simp [zg])
     ·cases hc
    ·cases hc
   ·cases hc
  ·rename_i hcal
   split at hc
   ·rename_i x t tl hargs htys
    have hargs':c.args= #[x]:=by rw [←Array.toArray_toList (xs:=c.args),hargs]
    have hty':c.argTypes[0]?=some t:=by
     rw [←Array.getElem?_toList,htys];rfl
    split at hc
    ·rename_i hu
     obtain ⟨kx',hx,rfl⟩:=Option.map_eq_some_iff.1 hc
     simp only [zA] at he
     split at he
     ·rename_i s h1
      cases he
      exact zAp ⟨c,ho,hcal,hargs',hty'⟩ hx hr (.inl ⟨hu,s,h1,rfl⟩)
     ·cases he
    ·rename_i e hu
     obtain ⟨kx',hx,rfl⟩:=Option.map_eq_some_iff.1 hc
     simp only [zA] at he
     split at he
     ·rename_i h1
      cases he
      exact zAp ⟨c,ho,hcal,hargs',hty'⟩ hx hr (.inr ⟨⟨e,hu⟩,.inr (.inl ⟨h1,rfl⟩)⟩)
     ·rename_i rows h1
      cases he
      exact zAp ⟨c,ho,hcal,hargs',hty'⟩ hx hr (.inr ⟨⟨e,hu⟩,.inl ⟨rows,h1,rfl⟩⟩)
     ·rename_i d n g m h1
      split at he
      ·rename_i hg
       cases he
       obtain ⟨B,h2,h3⟩:=zCQ hg
       exact zAp ⟨c,ho,hcal,hargs',hty'⟩ hx hr (.inr ⟨⟨e,hu⟩,.inr (.inr ⟨d,n,g,m,B,h1,h2,h3,rfl⟩)⟩)
      ·cases he
     ·cases he
    ·cases hc
   ·cases hc
  ·rename_i hcal
   obtain ⟨ks,hks,rfl⟩:=Option.map_eq_some_iff.1 hc
   simp only [zA,Option.map_eq_some_iff,Prod.mk.injEq] at he
   obtain ⟨n,h1,rfl,rfl⟩:=he
   exact absurd hcalm (by simp [zg])
  ·rename_i hcal
   obtain ⟨ks,hks,rfl⟩:=Option.map_eq_some_iff.1 hc
   simp only [zA,Option.map_eq_some_iff,Prod.mk.injEq] at he
   obtain ⟨n,h1,rfl,rfl⟩:=he
   exact absurd hcalm (by simp [zg])
  ·rename_i f hcal
   simp only [Option.bind_eq_some_iff,Option.map_eq_some_iff] at hc
   obtain ⟨g,hg,ks,hks,rfl⟩:=hc
   exact absurd hcalm (by unfold zCa;split<;>simp [zg])
  ·cases hc
 ·cases hc
def zEr (a:Act) (k:KOp) (b:Nat):Prop:=∃m ad,zB8 k=some m∧a.tmps.getD m undef= .pointer (some ad)∧b≠ad.block
theorem zGo {o:Oper} {h:Hints} {self:FuncId} {n:Nat} {k y:KX} (hc:zK P h self o=some (.store n k y)):∃t x yo,o.op= .store t x yo:=by
 unfold zK at hc
 split at hc
 all_goals first
  |exact ⟨_,_,_,by assumption⟩
  |(exfalso;repeat' (first|split at hc|(obtain ⟨_,_,hc⟩:=Option.bind_eq_some_iff.1 hc;obtain ⟨_,_,_,e⟩:=zAu hc;cases e;done)|(simp only [Option.bind_eq_some_iff,Option.map_eq_some_iff] at hc;obtain ⟨_,_,_,_,e⟩:=hc;unfold zCa at e;split at e<;>cases e;done)|(simp [Option.bind_eq_some_iff,Option.map_eq_some_iff] at hc;done)|(cases hc;done)))
theorem zHW {o:Oper} {h:Hints} {self:FuncId} {bo:Bool} {g:KX} {l:List KX} (hc:zK P h self o=some (.call bo g l)):∃c f,o.op= .call c∧c.callee= .value f∧kx f=some g∧c.args.toList.mapM kx=some l:=by
 by_cases hx:∃c f,o.op= .call c∧c.callee= .value f
 ·obtain ⟨c,f,ho,hcal⟩:=hx
  unfold zK at hc
  simp only [ho,hcal,Option.bind_eq_some_iff,Option.map_eq_some_iff,KOp.call.injEq] at hc
  obtain ⟨g',hg,ks,hks,e⟩:=hc
  unfold zCa at e
  split at e
  ·cases e
  simp only [KOp.call.injEq] at e
  obtain ⟨_,rfl,rfl⟩:=e
  exact ⟨c,f,ho,hcal,hg,hks⟩
 ·exfalso
  unfold zK at hc
  split at hc
  all_goals (repeat' (first|(exact hx ⟨_,_,by assumption,by assumption⟩)|split at hc|(obtain ⟨_,_,hc⟩:=Option.bind_eq_some_iff.1 hc;obtain ⟨_,_,_,e⟩:=zAu hc;cases e;done)|(simp [Option.bind_eq_some_iff,Option.map_eq_some_iff] at hc;done)|(cases hc;done)))
theorem zFM {run:zj} {o:Oper} {h:Hints} {self:FuncId} {n m:Nat} {y:KX} {dst:Nat} {v:AV} (hc:zK P h self o=some (.store n (.t m) y)) (hr:Rel F N0 T pl st a w)
  (he:zA run st dst (.store n (.t m) y)=some (v,st')):Runs1 P o a w (fun u w'=>Post F N0 pl st w v st' u w'∧KeepB (fun b=>∃ad:Addr,a.tmps.getD m undef= .pointer (some ad)∧b≠ad.block) w w'):=by
 have key:∀t x yo,o.op= .store t x yo→Runs1 P o a w (fun u w'=>Post F N0 pl st w v st' u w'∧KeepB (fun b=>∃ad:Addr,a.tmps.getD m undef= .pointer (some ad)∧b≠ad.block) w w'):=by
  intro t x yo ho
  unfold zK at hc
  rw [ho] at hc
  simp only [Option.bind_eq_some_iff,Option.map_eq_some_iff,KOp.store.injEq] at hc
  obtain ⟨kx',hx,ky,hy,i,hi,rfl,rfl,rfl⟩:=hc
  simp only [zA] at he
  split at he
  ·cases he
  ·rename_i hnt
   split at he
   ·rename_i hcond
    simp only [Option.map_eq_some_iff,Prod.mk.injEq] at he
    obtain ⟨st1,h1,rfl,rfl⟩:=he
    refine (zE7 ho hx hy ⟨i,hi⟩ hr hnt hcond.1 hcond.2 h1).mono fun u w' hp=>⟨hp.1,hp.2.sub fun b hb=>?_⟩
    obtain ⟨ad,e,hne⟩:=hb
    refine ⟨ad,?_,hne⟩
    cases x with
    |tmp q=>cases hx;exact e
    |const q=>simp only [kx,Option.map_eq_some_iff] at hx;obtain ⟨_,_,h2⟩:=hx;cases h2
    |func q=>cases hx
    |global q=>cases hx
   ·cases he
 obtain ⟨t,x,yo,ho⟩:=zGo hc
 exact key t x yo ho
theorem zHX {run:zj} (hS:zAz G P run) {o:Oper} {h:Hints} {self:FuncId} {k:KOp} {dst:Nat} {v:AV} (hsl:∃m,zB8 k=some m) (hc:zK P h self o=some k) (hr:Rel F N0 T pl st a w)
  (he:zA run st dst k=some (v,st')):Runs1 P o a w (fun u w'=>Post F N0 pl st w v st' u w'∧KeepB (zEr a k) w w'):=by
 obtain ⟨m,hsl⟩:=hsl
 have sub:∀b,zEr a k b→∃ad:Addr,a.tmps.getD m undef= .pointer (some ad)∧b≠ad.block:=fun b hb=>by
  obtain ⟨m',ad,h1,h2,h3⟩:=hb
  rw [hsl] at h1
  cases h1
  exact ⟨ad,h2,h3⟩
 unfold zB8 at hsl
 split at hsl
 ·cases hsl
  exact (zFM hc hr he).mono fun u w' hp=>⟨hp.1,hp.2.sub sub⟩
 ·cases hsl
  obtain ⟨c,f,ho,hcal,hg,hks⟩:=zHW hc
  exact (zEp hS ho hcal hg hks hr he).mono fun u w' hp=>⟨hp.1,(hp.2.2 rfl _ _ rfl).sub sub⟩
 ·cases hsl
theorem Runs2.rg {S:Nat→Prop} {o:Oper} {v:AV} (h:Runs2 P S o a w (Post F N0 pl st w v st')):Runs1 P o a w (zCr F N0 pl st w v st'):=by
 obtain ⟨u,h1,h2⟩:=h
 exact zX (h2 w (KeepB.refl S w)) ⟨h1,Grow.refl w⟩
theorem zIO {run:zj} (hS:zAz G P run) {o:Oper} {h:Hints} {self:FuncId} {k:KOp} {dst:Nat} {v:AV} (hgr:zAb k=true) (hc:zK P h self o=some k) (hr:Rel F N0 T pl st a w)
  (he:zA run st dst k=some (v,st')):Runs1 P o a w (zCr F N0 pl st w v st'):=by
 unfold zK at hc
 split at hc
 ·--a nil slice
  rename_i ho
  split at hc
  ·cases hc
   simp only [zA,Option.some.injEq,Prod.mk.injEq] at he
   obtain ⟨rfl,rfl⟩:=he
   exact absurd hgr (by simp [zAb,zg])
  ·cases hc
 ·rename_i x ho
  obtain ⟨kx',hx,rfl⟩:=Option.map_eq_some_iff.1 hc
  simp only [zA,Option.some.injEq,Prod.mk.injEq] at he
  obtain ⟨rfl,rfl⟩:=he
  exact Runs2.rg (zD1 (.inl ho) hx hr)
 ·rename_i x _ ho
  obtain ⟨kx',hx,rfl⟩:=Option.map_eq_some_iff.1 hc
  simp only [zA,Option.some.injEq,Prod.mk.injEq] at he
  obtain ⟨rfl,rfl⟩:=he
  exact Runs2.rg (zD1 (.inr ho) hx hr)
 ·rename_i c x y ho
  simp only [Option.bind_eq_some_iff,Option.map_eq_some_iff] at hc
  obtain ⟨kc,h1,ka,h2,kb,h3,rfl⟩:=hc
  simp only [zA] at he
  split at he
  ·rename_i t ht
   simp only [Option.some.injEq,Prod.mk.injEq] at he
   obtain ⟨rfl,rfl⟩:=he
   exact Runs2.rg (zEg ho h1 h2 h3 hr ht)
  ·cases he
 ·rename_i e ho
  simp only [Option.bind_eq_some_iff,Option.map_eq_some_iff] at hc
  obtain ⟨i,hi,z,hz,x,hx,rfl⟩:=hc
  simp only [zA,St.eval] at he
  split at he
  ·cases he
  ·rename_i hnt
   split at he
   ·rename_i hcond
    simp only [Option.some.injEq,Prod.mk.injEq] at he
    obtain ⟨rfl,rfl⟩:=he
    exact zEi (by simp only [execOp,ho,Sem.run_bind,zCC hi hz,Result.andThen_ok];rfl) hr (zEf hx) hnt hcond.1 hcond.2
   ·cases he
 ·rename_i e x ho
  obtain ⟨kx',hx,hc⟩:=Option.bind_eq_some_iff.1 hc
  split at hc
  ·exact zCR ho hx hc hr he
  cases hc
  simp only [zA] at he
  split at he
  ·cases he
  ·rename_i hnt
   split at he
   ·rename_i hcond
    simp only [Option.some.injEq,Prod.mk.injEq] at he
    obtain ⟨rfl,rfl⟩:=he
    exact zEi (by simp only [execOp,ho,Sem.run_bind,zDV,Result.andThen_ok];rfl) hr (zD hr hx) hnt hcond.1 hcond.2
   ·cases he
 ·rename_i t parts ho
  split at hc
  ·rename_i fds hu
   split at hc
   ·cases hc
   ·rename_i hall
    simp only [Option.bind_eq_some_iff,Option.map_eq_some_iff] at hc
    obtain ⟨z,hz,ks,hks,rfl⟩:=hc
    simp only [zA,Option.map_eq_some_iff,Prod.mk.injEq] at he
    obtain ⟨cs,h1,rfl,rfl⟩:=he
    exact Runs2.rg (zDN ho hu (by simpa only [Bool.not_eq_false] using hall) hz (by simpa using hks) hr h1)
  ·cases hc
 ·rename_i t len parts ho
  split at hc
  ·rename_i e hu
   split at hc
   ·cases hc
   ·rename_i hcond
    simp only [not_or] at hcond
    split at hc
    ·cases hc
    simp only [Option.bind_eq_some_iff,Option.map_eq_some_iff] at hc
    obtain ⟨z,hz,ks,hks,rfl⟩:=hc
    simp only [zA,Option.bind_eq_some_iff] at he
    obtain ⟨rows,h1,he⟩:=he
    refine zD7 ho hu (by simpa using hcond.1) hcond.2 hz hks hr h1 ?_ (dst:=dst)
    split at he
    ·rename_i rs st1 hfr
     simp only [Option.some.injEq,Prod.mk.injEq] at he
     obtain ⟨rfl,rfl⟩:=he
     exact .inl ⟨rs,st1,hfr,rfl,rfl⟩
    ·split at he
     ·rename_i hd
      simp only [Option.some.injEq,Prod.mk.injEq] at he
      obtain ⟨rfl,rfl⟩:=he
      exact .inr ⟨hd,rfl,rfl⟩
     ·cases he
  ·cases hc
 ·rename_i t x ho
  simp only [Option.bind_eq_some_iff,Option.map_eq_some_iff] at hc
  obtain ⟨kx',hx,g,hg,rfl⟩:=hc
  simp only [zA,Option.bind_eq_some_iff,Option.map_eq_some_iff,Prod.mk.injEq] at he
  obtain ⟨cs,h1,v',h2,rfl,rfl⟩:=he
  exact Runs2.rg (zEh ho hx hg hr h1 h2)
 ·rename_i t x y ho
  simp only [Option.bind_eq_some_iff,Option.map_eq_some_iff] at hc
  obtain ⟨kx',hx,ky,hy,i,hi,rfl⟩:=hc
  simp only [zA] at he
  split at he
  ·cases he
  ·rename_i hnt
   split at he
   ·rename_i hcond
    simp only [Option.map_eq_some_iff,Prod.mk.injEq] at he
    obtain ⟨st1,h1,rfl,rfl⟩:=he
    exact absurd hgr (by simp [zAb,zg])
   ·cases he
 ·rename_i x ho
  obtain ⟨kx',hx,rfl⟩:=Option.map_eq_some_iff.1 hc
  simp only [zA] at he
  split at he
  ·rename_i d n g j q hk
   split at he
   ·rename_i hg
    cases he
    obtain ⟨B,h1,h2⟩:=zCQ hg
    exact Runs2.rg (zBM ho hx hr (.inr (.inr ⟨d,n,g,j,q,B,hk,rfl,h1,h2⟩)))
   ·cases he
  ·rename_i e q hk
   cases he
   exact Runs2.rg (zBM ho hx hr (.inl ⟨e,q,hk,rfl⟩))
  ·rename_i f cs hk
   cases he
   exact Runs2.rg (zBM ho hx hr (.inr (.inl ⟨f,cs,hk,rfl⟩)))
  ·cases he
 ·rename_i op xt x y yt ho
  simp only [Option.bind_eq_some_iff] at hc
  obtain ⟨kx',hx,ky,hy,hc⟩:=hc
  have bin:some (KOp.bin op kx' ky)=some k→Runs1 P o a w (zCr F N0 pl st w v st'):=by
   intro hc
   cases hc
   simp only [zA] at he
   split at he
   ·rename_i p q h1 h2
    simp only [Option.map_eq_some_iff,Prod.mk.injEq] at he
    obtain ⟨r,h3,rfl,rfl⟩:=he
    exact Runs2.rg (zFm ho hx hy hr h1 h2 h3)
   ·cases he
  split at hc
  ·rename_i fds hu
   split at hc
   ·rename_i hcond
    obtain ⟨tags,ht,rfl⟩:=Option.map_eq_some_iff.1 hc
    simp only [zA] at he
    split at he
    ·rename_i cs ds h1 h2
     simp only [Option.map_eq_some_iff,Prod.mk.injEq] at he
     obtain ⟨r,h3,rfl,rfl⟩:=he
     exact absurd hgr (by simp [zAb,zg])
    ·cases he
   ·cases hc
  ·exact bin hc
  ·exact bin hc
  ·rename_i hu
   split at hc
   ·rename_i hop
    cases hc
    simp only [zA] at he
    split at he
    ·rename_i p q h1 h2
     cases he
     exact Runs2.rg (zFn ho hu hop hx hy hr h1 h2)
    ·cases he
   ·cases hc
  ·rename_i ms hu
   split at hc
   ·split at hc
    ·rename_i hop
     cases hc
     simp only [zA] at he
     split at he
     ·rename_i h1
      cases he
      exact Runs2.rg (zBp ho hu hop hx hr (.inl ⟨h1,rfl⟩))
     ·rename_i h1
      cases he
      exact Runs2.rg (zBp ho hu hop hx hr (.inr ⟨h1,rfl⟩))
     ·cases he
    ·cases hc
   ·cases hc
  ·cases hc
 ·rename_i op t x ho
  obtain ⟨kx',hx,rfl⟩:=Option.map_eq_some_iff.1 hc
  simp only [zA] at he
  split at he
  ·rename_i p h1
   simp only [Option.map_eq_some_iff,Prod.mk.injEq] at he
   obtain ⟨r,h2,rfl,rfl⟩:=he
   exact Runs2.rg (zHJ ho hx hr h1 h2)
  ·cases he
 ·rename_i src dst' x ho
  split at hc
  ·rename_i k1 k2 hs hd
   obtain ⟨kx',hx,rfl⟩:=Option.map_eq_some_iff.1 hc
   simp only [zA] at he
   split at he
   ·rename_i q n h1
    cases he
    exact Runs2.rg (zEj ho hs hd hx hr h1)
   ·cases he
  ·rename_i hs hd
   obtain ⟨kx',hx,rfl⟩:=Option.map_eq_some_iff.1 hc
   simp only [zA] at he
   split at he
   ·rename_i q h1
    cases he
    exact Runs2.rg (zDJ ho hs hd hx hr h1)
   ·cases he
  ·rename_i e hs hd
   split at hc
   ·rename_i hu8
    obtain ⟨kx',hx,rfl⟩:=Option.map_eq_some_iff.1 hc
    simp only [zA,Option.bind_eq_some_iff,Option.map_eq_some_iff,Prod.mk.injEq] at he
    obtain ⟨rows,h1,l,h2,rfl,rfl⟩:=he
    exact absurd hgr (by simp [zAb,zg])
   ·cases hc
  ·cases hc
 ·rename_i f first caps ho
  split at hc
  ·rename_i hf
   obtain ⟨ks,hks,rfl⟩:=Option.map_eq_some_iff.1 hc
   simp only [zA,Option.map_eq_some_iff,Prod.mk.injEq] at he
   obtain ⟨cs,h1,rfl,rfl⟩:=he
   exact Runs2.rg (zEk ho hf hks hr h1)
  ·cases hc
 ·rename_i t l c ho
  split at hc
  ·rename_i e hu
   split at hc
   ·cases hc
   ·rename_i hok
    simp only [Option.bind_eq_some_iff,Option.map_eq_some_iff] at hc
    obtain ⟨z,hz,kl,hl,kc,hcc,rfl⟩:=hc
    simp only [zA,Option.bind_eq_some_iff] at he
    obtain ⟨l',h1,c',h2,he⟩:=he
    split at he
    ·rename_i hcond
     obtain ⟨c1,rfl,c3,c4,c5⟩:=hcond
     cases he
     exact zGF ho hu (by simpa using hok) hz hl hcc hr h1 h2 c1 c3 c4
    ·cases he
  ·cases hc
 ·rename_i t x lo hi ho
  split at hc
  ·rename_i hu
   simp only [Option.bind_eq_some_iff,Option.map_eq_some_iff] at hc
   obtain ⟨kx',hx,klo,hlo,khi,hhi,rfl⟩:=hc
   simp only [zA] at he
   split at he
   ·rename_i s h1
    simp only [Option.bind_eq_some_iff] at he
    obtain ⟨l,h2,h',h3,he⟩:=he
    split at he
    ·rename_i hcond
     cases he
     exact Runs2.rg (zEn ho hu hx hlo hhi hr h1 h2 h3 hcond.1 hcond.2.1 hcond.2.2)
    ·cases he
   ·cases he
  ·rename_i e hu
   simp only [Option.bind_eq_some_iff,Option.map_eq_some_iff] at hc
   obtain ⟨i,hi',kx',hx,klo,hlo,khi,hhi,rfl⟩:=hc
   simp only [zA] at he
   split at he
   ·rename_i rows h1
    simp only [Option.bind_eq_some_iff] at he
    obtain ⟨l,h2,h',h3,he⟩:=he
    split at he
    ·rename_i hcond
     cases he
     exact absurd hgr (by simp [zAb,zg])
    ·cases he
   ·cases he
  ·cases hc
 ·rename_i s x f ho
  split at hc
  ·rename_i fds hu
   simp only [Option.bind_eq_some_iff] at hc
   obtain ⟨g,hg,hc⟩:=hc
   split at hc
   ·cases hc
   ·rename_i hz
    obtain ⟨kx',hx,rfl⟩:=Option.map_eq_some_iff.1 hc
    simp only [zA] at he
    split at he
    ·rename_i d n g' j q hk
     split at he
     ·rename_i hg'
      cases he
      obtain ⟨B,h1,h2⟩:=zCQ hg'
      exact Runs2.rg (zBD ho hu hg hz hx hr (.inr ⟨d,n,g',j,q,B,hk,rfl,h1,h2⟩))
     ·cases he
    ·rename_i e q hk
     cases he
     exact Runs2.rg (zBD ho hu hg hz hx hr (.inl ⟨e,q,hk,rfl⟩))
    ·cases he
  ·cases hc
 ·rename_i s x f ho
  split at hc
  ·rename_i fds hu
   simp only [Option.bind_eq_some_iff,Option.map_eq_some_iff] at hc
   obtain ⟨g,hg,q,hq,kx',hx,rfl⟩:=hc
   simp only [zA] at he
   split at he
   ·rename_i cs h1
    split at he
    ·rename_i hl
     simp only [Option.map_eq_some_iff,Prod.mk.injEq] at he
     obtain ⟨v',h2,rfl,rfl⟩:=he
     exact Runs2.rg (zDL ho hu hg hq hx hr h1 hl h2)
    ·cases he
   ·cases he
  ·cases hc
 ·rename_i t x i ho
  split at hc
  ·rename_i e hu
   simp only [Option.bind_eq_some_iff,Option.map_eq_some_iff] at hc
   obtain ⟨ie,hie,kx',hx,ky,hy,rfl⟩:=hc
   simp only [zA,Option.bind_eq_some_iff] at he
   obtain ⟨n,hn,he⟩:=he
   split at he
   ·rename_i rows h1
    split at he
    ·rename_i hcond
     split at he
     ·rename_i row hrow
      split at he
      ·rename_i hlen
       cases he
       exact Runs2.rg (zAd ho hu ⟨ie,hie⟩ hx hy hr hn hcond.1 (.inl ⟨rows,row,h1,hcond.2,hrow,hlen,rfl⟩))
      ·cases he
     ·cases he
    ·cases he
   ·rename_i d m g q h1
    split at he
    ·rename_i g' sz' ty rows hB
     split at he
     ·rename_i hcond
      obtain ⟨rfl,c2,c3,c4,c5⟩:=hcond
      cases he
      exact Runs2.rg (zAd ho hu ⟨ie,hie⟩ hx hy hr hn c4 (.inr ⟨d,m,g,q,_,h1,hB,rfl,c2,c5,rfl⟩))
     ·cases he
    ·rename_i g' sz' ty cells hB
     split at he
     ·rename_i hcond
      obtain ⟨rfl,c2,c3,c4,c5⟩:=hcond
      cases he
      exact Runs2.rg (zAd ho hu ⟨ie,hie⟩ hx hy hr hn c4 (.inr ⟨d,m,g,q,_,h1,hB,rfl,c2,c5,rfl⟩))
     ·cases he
    ·cases he
   ·cases he
  ·cases hc
 ·rename_i t x i ho
  split at hc
  ·rename_i hu
   simp only [Option.bind_eq_some_iff,Option.map_eq_some_iff] at hc
   obtain ⟨kx',hx,ky,hy,rfl⟩:=hc
   simp only [zA,Option.bind_eq_some_iff] at he
   obtain ⟨n,hn,he⟩:=he
   split at he
   ·rename_i s h1
    split at he
    ·rename_i h0
     split at he
     ·rename_i c hcc
      cases he
      exact Runs2.rg (zDM ho hu hx hy hr h1 hn h0 hcc)
     ·cases he
    ·cases he
   ·cases he
  ·cases hc
 ·rename_i x i ho
  obtain ⟨kx',hx,rfl⟩:=Option.map_eq_some_iff.1 hc
  simp only [zA] at he
  split at he
  ·rename_i vs h1
   split at he
   ·rename_i g cs h2
    simp only [Option.map_eq_some_iff,Prod.mk.injEq] at he
    obtain ⟨v',h3,rfl,rfl⟩:=he
    exact Runs2.rg (zFo ho hx hr h1 h2 h3)
   ·cases he
  ·cases he
 ·rename_i c ho
  split at hc
  ·rename_i hcal
   split at hc
   ·rename_i s x t1 t2 tl hargs htys
    split at hc
    ·rename_i e e' hu _
     split at hc
     ·rename_i hcond
      obtain ⟨rfl,hsz,hok⟩:=hcond
      simp only [Option.bind_eq_some_iff,Option.map_eq_some_iff] at hc
      obtain ⟨ks,hs,kx',hx,rfl⟩:=hc
      have htl:c.argTypes= #[t1,t1]:=by
       have hl:c.argTypes.toList.length=2:=by simpa using hsz
       rw [htys] at hl
       have:tl= []:=List.eq_nil_of_length_eq_zero (by simpa using hl)
       subst this
       rw [←Array.toArray_toList (xs:=c.argTypes),htys]
      exact absurd hgr (by simp [zAb,zg])
     ·cases hc
    ·cases hc
   ·cases hc
  ·rename_i hcal
   split at hc
   ·rename_i x t tl hargs htys
    have hargs':c.args= #[x]:=by rw [←Array.toArray_toList (xs:=c.args),hargs]
    have hty':c.argTypes[0]?=some t:=by
     rw [←Array.getElem?_toList,htys];rfl
    split at hc
    ·rename_i hu
     obtain ⟨kx',hx,rfl⟩:=Option.map_eq_some_iff.1 hc
     simp only [zA] at he
     split at he
     ·rename_i s h1
      cases he
      exact Runs2.rg (zAp ⟨c,ho,hcal,hargs',hty'⟩ hx hr (.inl ⟨hu,s,h1,rfl⟩))
     ·cases he
    ·rename_i e hu
     obtain ⟨kx',hx,rfl⟩:=Option.map_eq_some_iff.1 hc
     simp only [zA] at he
     split at he
     ·rename_i h1
      cases he
      exact Runs2.rg (zAp ⟨c,ho,hcal,hargs',hty'⟩ hx hr (.inr ⟨⟨e,hu⟩,.inr (.inl ⟨h1,rfl⟩)⟩))
     ·rename_i rows h1
      cases he
      exact Runs2.rg (zAp ⟨c,ho,hcal,hargs',hty'⟩ hx hr (.inr ⟨⟨e,hu⟩,.inl ⟨rows,h1,rfl⟩⟩))
     ·rename_i d n g m h1
      split at he
      ·rename_i hg
       cases he
       obtain ⟨B,h2,h3⟩:=zCQ hg
       exact Runs2.rg (zAp ⟨c,ho,hcal,hargs',hty'⟩ hx hr (.inr ⟨⟨e,hu⟩,.inr (.inr ⟨d,n,g,m,B,h1,h2,h3,rfl⟩)⟩))
      ·cases he
     ·cases he
    ·cases hc
   ·cases hc
  ·rename_i hcal
   obtain ⟨ks,hks,rfl⟩:=Option.map_eq_some_iff.1 hc
   simp only [zA,Option.map_eq_some_iff,Prod.mk.injEq] at he
   obtain ⟨n,h1,rfl,rfl⟩:=he
   exact absurd hgr (by simp [zAb,zg])
  ·rename_i hcal
   obtain ⟨ks,hks,rfl⟩:=Option.map_eq_some_iff.1 hc
   simp only [zA,Option.map_eq_some_iff,Prod.mk.injEq] at he
   obtain ⟨n,h1,rfl,rfl⟩:=he
   exact absurd hgr (by simp [zAb,zg])
  ·rename_i f hcal
   simp only [Option.bind_eq_some_iff,Option.map_eq_some_iff] at hc
   obtain ⟨g,hg,ks,hks,rfl⟩:=hc
   unfold zCa at he hgr
   split at he
   ·rename_i hp
    rw [if_pos hp] at hgr
    exact absurd hgr (by simp [zAb,zg])
   ·rename_i hp
    rw [if_neg hp] at hgr
    exact (zEp hS ho hcal hg hks hr he).mono fun _ _ h=>⟨h.1,h.2.1 (by simpa [zAb,zg] using hgr)⟩
  ·cases hc
 ·cases hc
end
end Go.Eng

