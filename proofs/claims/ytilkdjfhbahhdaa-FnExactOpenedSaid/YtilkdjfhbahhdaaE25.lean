import Derived.Test.YtilkdjfhbahhdaaE24
set_option linter.unusedVariables false
set_option linter.unusedSimpArgs false
namespace Go.Eng
open Go.RowKit
section
variable {P:Program} {F F':Nat→Prop} {G:Nat→Option Obj} {N0:Base G} {T:Nat} {pl pl' pl0:Pl} {st st':St} {a:Act} {w w' w0:World} {fs fs':List Frame} {fr f':Frame} {up up' up0:List Frame} {Q:Exit→Act→World→Prop}
def zKN:Ex→Exit
 | .normal=> .normal
 | .exit id=> .exit id
 | .ret=> .ret
def zl:KCode→KCode
 | .seq a b=> .seq (zl a) (zl b)
 | .cond c a b=> .cond c (zl a) (zl b)
 | .block id c=> .block id (zl c)
 | .loop _ _ _ c=> .loop 0 [] [] (zl c)
 |c=>c
theorem zEE {run:zh} (hS:zA5 G P run) {h:Hints} {self:FuncId} (N:Nat):∀(c:Code) (k0 kc:KCode) {pl:Pl} {st st':St} {ex:Ex} {a:Act} {w:World} {Q:Exit→Act→World→Prop},
  zX P h self c=some k0→zl kc=zl k0→bnd T kc=true→zm run N kc st=some (ex,st')→Inv F N0 T up0 pl0 w0 pl st a w→
  (∀pl' a' w',Inv F N0 T up0 pl0 w0 pl' st' a' w'→Q (zKN ex) a' w')→c.wp P Q a w:=by
 intro c
 induction c with
 |skip=>
  intro k0 kc pl st st' ex a w Q hc he hb hev hi hQ
  simp only [zX,zM] at hc
  subst hc
  cases kc<;>simp only [zl,reduceCtorEq] at he
  simp only [zm,zM,Prod.mk.injEq] at hev
  obtain ⟨rfl,rfl⟩:=hev
  exact wp_skip (hQ _ _ _ hi)
 |region id ops draws=>
  intro k0 kc pl st st' ex a w Q hc he hb hev hi hQ
  simp only [zX,zN] at hc
  obtain ⟨ks,hks,hc⟩:=hc
  split at hc
  ·rename_i hd
   subst hd
   split at hc
   ·rename_i hcond
    have hc0:=hc
    unfold zHJ at hc0
    rw [zB9,zCA] at hc0
    split at hc0
    ·cases hc0
     cases kc<;>simp only [zl,reduceCtorEq,KCode.draw.injEq] at he
     subst he
     simp only [zm,zL,Prod.mk.injEq] at hev
     obtain ⟨st1,hev,rfl,rfl⟩:=hev
     simp only [bnd,List.all_eq_true] at hb
     exact zED hS hcond.1 hks hc (fun o ho d hd=>by have:=hb o ho;rw [hd] at this;simpa using this) hev hi hQ
    ·cases hc0
   ·cases hc
  ·rename_i hd
   have hd:draws=false:=by simpa using hd
   subst hd
   simp only [zM] at hc
   subst hc
   cases kc<;>simp only [zl,reduceCtorEq,KCode.ops.injEq] at he
   rename_i l
   subst he
   simp only [zm,zL,Prod.mk.injEq] at hev
   obtain ⟨st1,hev,rfl,rfl⟩:=hev
   simp only [bnd,List.all_eq_true] at hb
   exact wp_region_list (zD3 hS ops.toList l hks (fun o ho d hd=>by have:=hb o ho;rw [hd] at this;simpa using this) hev hi hQ)
 |seq x y ihx ihy=>
  intro k0 kc pl st st' ex a w Q hc he hb hev hi hQ
  simp only [zX,zN,zL] at hc
  obtain ⟨k1,h1,k2,h2,rfl⟩:=hc
  cases kc<;>simp only [zl,reduceCtorEq,KCode.seq.injEq] at he
  simp only [bnd,Bool.and_eq_true] at hb
  simp only [zm,zN] at hev
  obtain ⟨⟨e1,st1⟩,hev1,hev⟩:=hev
  refine wp_seq (ihx k1 _ h1 he.1 hb.1 hev1 hi fun pl' a' w' hi'=>?_)
  cases e1 with
  |normal=>exact ihy k2 _ h2 he.2 hb.2 hev hi' hQ
  |exit id=>cases hev;exact hQ _ _ _ hi'
  |ret=>cases hev;exact hQ _ _ _ hi'
 |cond b x y ihx ihy=>
  intro k0 kc pl st st' ex a w Q hc he hb hev hi hQ
  simp only [zX,zN,zL] at hc
  obtain ⟨kb,hkb,k1,h1,k2,h2,rfl⟩:=hc
  cases kc<;>simp only [zl,reduceCtorEq,KCode.cond.injEq] at he
  obtain ⟨rfl,he1,he2⟩:=he
  simp only [bnd,Bool.and_eq_true] at hb
  simp only [zm] at hev
  split at hev
  ·rename_i t ht
   have e1:=zD hi.rel hkb
   rw [ht] at e1
   have e1:=zDr e1
   refine wp_cond e1 ?_
   cases t
   ·exact ihy k2 _ h2 he2 hb.2 hev hi hQ
   ·exact ihx k1 _ h1 he1 hb.1 hev hi hQ
  ·cases hev
 |block id c ih=>
  intro k0 kc pl st st' ex a w Q hc he hb hev hi hQ
  simp only [zX,zL] at hc
  obtain ⟨k1,h1,rfl⟩:=hc
  cases kc<;>simp only [zl,reduceCtorEq,KCode.block.injEq] at he
  obtain ⟨rfl,he⟩:=he
  simp only [bnd] at hb
  simp only [zm,zL,Prod.mk.injEq] at hev
  obtain ⟨⟨e1,st1⟩,hev,h2,rfl⟩:=hev
  refine wp_block (ih k1 _ h1 he hb hev hi fun pl' a' w' hi'=>?_)
  have:=hQ pl' a' w' hi'
  cases e1 with
  |normal=>simp only [reduceCtorEq,if_false] at h2;subst h2;exact this
  |exit id'=>
   simp only [Ex.exit.injEq] at h2
   simp only [zKN,Exit.inBlock]
   split at h2
   ·rename_i hid;subst hid;subst h2;rw [if_pos rfl];exact this
   ·rename_i hid;subst h2;rw [if_neg hid];exact this
  |ret=>simp only [reduceCtorEq,if_false] at h2;subst h2;exact this
 |loop c ih=>
  intro k0 kc pl st st' ex a w Q hc he hb hev hi hQ
  simp only [zX,zL] at hc
  obtain ⟨k1,h1,rfl⟩:=hc
  cases kc<;>simp only [zl,reduceCtorEq,KCode.loop.injEq] at he
  rename_i mk keep zAC kc'
  have he:=he.2.2.2
  simp only [bnd] at hb
  simp only [zm,zL,Prod.exists,Prod.mk.injEq] at hev
  obtain ⟨e0,s0,hev,rfl,rfl⟩:=hev
  have hQ':∀pl' a' w',Inv F N0 T up0 pl0 w0 pl' s0 a' w'→Q (zKN e0) a' w':=fun pl' a' w' hi'=>by
   obtain ⟨pl1,g1,g2⟩:=zF8 hi'.rel (zBz e0 zAC)
   exact hQ pl1 a' w' ⟨g1,hi'.keep.trans g2⟩
  have key:∀m {pl:Pl} {st:St} {a:Act} {w:World},zGd (zm run N kc') keep m st=some (e0,s0)→Inv F N0 T up0 pl0 w0 pl st a w→Code.rounds P c Q m a w:=by
   intro m
   induction m with
   |zero=>intro pl st a w h;simp [zGd] at h
   |succ m ihm=>
    intro pl st a w hit hi
    simp only [zGd,zN] at hit
    obtain ⟨⟨e1,st1⟩,hev1,hit⟩:=hit
    obtain ⟨pl1,g1,g2⟩:=zF8 hi.rel keep
    rw [rounds_succ]
    refine ih k1 _ h1 he hb hev1 ⟨g1,hi.keep.trans g2⟩ fun pl' a' w' hi'=>?_
    cases e1 with
    |normal=>exact ihm hit hi'
    |exit id=>cases hit;exact hQ' _ _ _ hi'
    |ret=>cases hit;exact hQ' _ _ _ hi'
  exact wp_loop_rounds N (key N hev hi)
 |exit id=>
  intro k0 kc pl st st' ex a w Q hc he hb hev hi hQ
  simp only [zX,zM] at hc
  subst hc
  cases kc<;>simp only [zl,reduceCtorEq,KCode.exit.injEq] at he
  subst he
  simp only [zm,zM,Prod.mk.injEq] at hev
  obtain ⟨rfl,rfl⟩:=hev
  exact wp_exit (hQ _ _ _ hi)
 |ret=>
  intro k0 kc pl st st' ex a w Q hc he hb hev hi hQ
  simp only [zX,zM] at hc
  subst hc
  cases kc<;>simp only [zl,reduceCtorEq] at he
  simp only [zm,zM,Prod.mk.injEq] at hev
  obtain ⟨rfl,rfl⟩:=hev
  exact wp_ret (hQ _ _ _ hi)
 |scope c ih=>
  intro k0 kc pl st st' ex a w Q hc he hb hev hi hQ
  simp only [zX] at hc
  refine wp_scope_straight (ih k0 kc hc he hb hev hi fun pl' a' w' hi'=>?_)
  have:=hQ pl' a' w' hi'
  cases ex<;>exact this
 |_=>
  intro k0 kc pl st st' ex a w Q hc
  simp [zX] at hc
end
end Go.Eng

