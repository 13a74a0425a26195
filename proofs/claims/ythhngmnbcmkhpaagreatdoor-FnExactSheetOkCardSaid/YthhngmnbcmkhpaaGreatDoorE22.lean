import Derived.Test.YthhngmnbcmkhpaaGreatDoorE21
set_option linter.unusedVariables false
set_option linter.unusedSimpArgs false
namespace Go.Eng
open Go.RowKit
section
variable {P:Program} {F F':Nat→Prop} {G:Nat→Option Obj} {N0:Base G} {T:Nat} {pl pl' pl0:Pl} {st st':St} {a:Act} {w w' w0:World} {fs fs':List Frame} {fr f':Frame} {up up' up0:List Frame}
structure Sub (F:Nat→Prop) (pl:Pl) (fs:List Frame) (F':Nat→Prop) (pl':Pl):Prop where
 own:∀k,Own F' pl' k→Own F pl k
 pl:∀d n B,zB d n fs=some B→pl' d n=pl d n
theorem Sub.repP (h:Sub F pl fs F' pl') {v:Value} {x:PV} (hr:RepP (Own F pl) w v x):RepP (Own F' pl') w v x:=
 hr.step (fun _ _ _=>rfl) (Nat.le_refl _) fun k hk=> .inl (h.own k hk)
theorem Sub.repC (h:Sub F pl fs F' pl') {v:Value} {c:CV} (hr:zAg F fs pl w v c):zAg F' fs pl' w v c:=by
 cases c with
 |p x=>exact h.repP hr
 |own d n g m=>
  obtain ⟨h1,B,h2,h3,h4⟩:=hr
  exact ⟨h1,B,h2,h3,fun e=>by rw [h.pl d n B h2];exact h4 e⟩
 |ptr d n g j o=>
  obtain ⟨h1,B,h2,h3,h4⟩:=hr
  exact ⟨h1,B,h2,h3,fun e=>by rw [h.pl d n B h2];exact h4 e⟩
 |rp row o=>
  obtain ⟨ad,h1,h2,h3⟩:=hr
  exact ⟨ad,h1,fun hne=>⟨fun h6=>(h2 hne).1 (h.own _ h6),(h2 hne).2⟩,fun i x hx=>by
   obtain ⟨u,h4,h5⟩:=h3 i x hx
   exact ⟨u,h4,h.repP h5⟩⟩
 |fn f caps=>
  obtain ⟨vals,h1,h2,h3⟩:=hr
  refine ⟨vals,h1,h2,fun i u c hu hc=>?_⟩
  have h4:=h3 i u c hu hc
  cases c with
  |p x=>exact h.repP h4
  |ptr d n g=>
   obtain ⟨h0,B,h5,h6,h7⟩:=h4
   exact ⟨h0,B,h5,h6,fun e=>by rw [h.pl d n B h5];exact h7 e⟩
 |nfn=>exact hr
 |u=>trivial
theorem Sub.repA (h:Sub F pl fs F' pl') {v:Value} {x:AV} (hr:zR F fs pl w v x):zR F' fs pl' w v x:=by
 have:=zAe (φ:=id) (F':=F') (fs':=fs) (pl':=pl') (ww':=w) (fun u c _ h'=>h.repC h') (fun c h=>h) hr
 have e:x.map id=x:=by cases x<;>simp [AV.map]
 rwa [e] at this
theorem Sub.blk (h:Sub F pl fs F' pl') {d n:Nat} {B:Blk} (hB:zB d n fs=some B) (hb:zh F fs pl w d n B):zh F' fs pl' w d n B:=by
 have e2:=h.pl d n B hB
 unfold zh at hb⊢
 cases hk:B.k with
 |box cells=>
  rw [hk] at hb
  obtain ⟨b,us,h1,h2,h3,h4⟩:=hb
  exact ⟨b,us,e2.trans h1,h2,⟨h3.1,fun i u c hu hc=>⟨h.repC (h3.2 i u c hu hc).1,(h3.2 i u c hu hc).2⟩⟩,h4⟩
 |row rows=>
  rw [hk] at hb
  rcases hb with ⟨h1,h2⟩|⟨b,s,us,h1,h2,h3,h4,h5,h6⟩
  ·exact .inl ⟨h1,e2.trans h2⟩
  ·exact .inr ⟨b,s,us,e2.trans h1,h2,h3,h4,h5,fun j e o x he hx=>by
    obtain ⟨v,hv,hr⟩:=h6 j e o x he hx
    exact ⟨v,hv,h.repP hr⟩⟩
 |dead=>
  rw [hk] at hb
  exact e2.trans hb
def zBS (pl:Pl) (m b:Nat):Pl:=fun d n=>if d=m+1∧n=0 then some (b,0) else pl d n
theorem zAX {m b d n:Nat} (h:d<m):zBS pl m b d n=pl d n:=by unfold zBS;rw [if_neg (by omega)]
theorem zGk (m b k:Nat):Own F (zBS pl m b) k→(F k∨k=b)∨∃d n s,pl d n=some (k,s):=by
 intro h
 rcases h with h|⟨d,n,s,h⟩
 ·exact .inl (.inl h)
 ·unfold zBS at h
  split at h
  ·cases h;exact .inl (.inr rfl)
  ·exact .inr ⟨d,n,s,h⟩
theorem zGl (hm:MemOK F' N0 fs pl w) (b k:Nat):(F k∨k=b)∨(∃d n s,pl d n=some (k,s))→Own F (zBS pl fs.length b) k:=by
 intro h
 rcases h with (h|h)|⟨d,n,s,h⟩
 ·exact .inl h
 ·subst h;exact .inr ⟨fs.length+1,0,0,by simp [zBS]⟩
 ·obtain ⟨_,_,_,B,hB⟩:=hm.live d n k s h
  exact .inr ⟨d,n,s,by rw [zAX (zH hB)];exact h⟩
theorem zGm (hr:Rel F N0 T pl st a w) {w':World} (hs:Step zAq w w') {b:Nat} (hb:w.heap.size≤b) (hb':b<w'.heap.size):Rel (fun k=>F k∨k=b) N0 T pl st a w':=by
 have hK:Keep F (st.fr::st.up) (st.fr::st.up) pl (zBS pl (st.fr::st.up).length b) w w':=
  ⟨⟨hs.os,hs.tape,hs.output,hs.size,fun k hk _=>hs.block k hk (fun _ _ _ h=>by cases h)⟩,rfl,fun d n B hB=>⟨B,hB,Nat.le_refl _,fun _=>⟨zAX (zH hB),rfl⟩⟩,fun d n k s h=>by
   unfold zBS at h
   split at h
   ·cases h;exact .inr hb
   ·exact .inl ⟨d,n,s,h⟩⟩
 have hS:Sub F (zBS pl (st.fr::st.up).length b) (st.fr::st.up) (fun k=>F k∨k=b) pl:=⟨fun k hk=>zGl hr.mem b k hk,fun d n B hB=>(zAX (zH hB)).symm⟩
 refine ⟨⟨fun d n k s h=>?_,hr.mem.inj,fun d n B hB=>?_,fun k hk=>?_,zBC hr.mem (fun k hk _=>hs.block k hk (fun _ _ _ h=>by cases h))⟩,fun n v hv=>hS.repA (hK.repA (hr.tmps n v hv)),hr.size,hr.defers,Nat.le_trans hr.low hs.size⟩
 ·obtain ⟨h1,h2,h3,h4⟩:=hr.mem.live d n k s h
  exact ⟨h1,Nat.lt_of_lt_of_le h2 hs.size,fun h5=>h5.elim h3 (fun e=>by omega),h4⟩
 ·exact hS.blk hB (zAc hK (zAX (zH hB)) (fun k s h=>hs.block k (hr.mem.live d n k s h).2.1 (fun _ _ _ h=>by cases h)) (hr.mem.blk d n B hB))
 ·rcases hk with hk|hk
  ·exact Nat.lt_of_lt_of_le (hr.mem.fsz k hk) hs.size
  ·omega
theorem zDZ {b n sz ty m:Nat} {k0:BK} (hr:Rel (fun k=>F k∨k=b) N0 T pl st a w) (hF:¬F b) (hN:N0.n≤b) (hbs:b<w.heap.size)
  (hblk:∀{fs:List Frame} {pl':Pl},pl' st.up.length n=some (b,m)→(∀d' n',¬(d'=st.up.length∧n'=n)→pl' d' n'=pl d' n'∧zB d' n' fs=zB d' n' (st.fr::st.up))→zh F fs pl' w st.up.length n ⟨st.fresh n,sz,ty,k0⟩):
  ∃pl',Rel F N0 T pl' (st.new n sz ty k0).2 a w∧zB st.up.length n ((st.new n sz ty k0).2.fr::st.up)=some ⟨st.fresh n,sz,ty,k0⟩∧pl' st.up.length n=some (b,m)∧
   (∀d n,d<st.up.length→pl' d n=pl d n)∧(∀d n k s,pl' d n=some (k,s)→k=b∨∃d0 n0,pl d0 n0=some (k,s)):=by
 have hfr:(st.new n sz ty k0).2.fr::(st.new n sz ty k0).2.up=zAA st.up.length n ⟨st.fresh n,sz,ty,k0⟩ (st.fr::st.up):=by simp [St.new,zAA]
 have hup:(st.new n sz ty k0).2.up=st.up:=rfl
 have hD:st.up.length<(st.fr::st.up).length:=by simp
 let B0:Blk:=⟨st.fresh n,sz,ty,k0⟩
 let pl2:Pl:=zAD pl st.up.length n (some (b,m))
 have hnot:∀d n s,pl d n≠some (b,s):=fun d n s h=>(hr.mem.live d n b s h).2.2.1 (.inr rfl)
 have hS:Sub (fun k=>F k∨k=b) pl (st.fr::st.up) F (zBS pl (st.fr::st.up).length b):=⟨fun k hk=>zGk _ b k hk,fun d n B hB=>zAX (zH hB)⟩
 have hK:Keep F (st.fr::st.up) (zAA st.up.length n B0 (st.fr::st.up)) (zBS pl (st.fr::st.up).length b) pl2 w w:=by
  refine ⟨⟨rfl,rfl,rfl,Nat.le_refl _,fun _ _ _=>rfl⟩,zBJ _,fun d' n' b' hb'=>?_,fun d' n' k s hp=> .inl ?_⟩
  ·rw [zT d' n' hD]
   by_cases e:d'=st.up.length∧n'=n
   ·obtain ⟨rfl,rfl⟩:=e
    have hl:zG n' st.fr=some b':=by simpa [zB] using hb'
    have e:st.fresh n'=b'.g+1:=by simp [St.fresh,hl]
    exact ⟨B0,by simp,by show b'.g≤st.fresh n';omega,fun h=>by have h:st.fresh n'=b'.g:=h;omega⟩
   ·exact ⟨b',by rw [if_neg e];exact hb',Nat.le_refl _,fun _=>⟨by rw [zAX (zH hb')];exact zL pl _ e,rfl⟩⟩
  ·by_cases e:d'=st.up.length∧n'=n
   ·obtain ⟨rfl,rfl⟩:=e
    rw [show pl2 st.up.length n'=_ from zF ..] at hp
    cases hp
    exact ⟨(st.fr::st.up).length+1,0,0,by simp [zBS]⟩
   ·rw [show pl2 d' n'=_ from zL pl _ e] at hp
    obtain ⟨_,_,_,B,hB⟩:=hr.mem.live d' n' k s hp
    exact ⟨d',n',s,by rw [zAX (zH hB)];exact hp⟩
 have hm:MemOK F N0 (zAA st.up.length n B0 (st.fr::st.up)) pl2 w:=by
  refine ⟨fun d' n' k s hp=>?_,fun d1 n1 d2 n2 k s s' h1 h2=>?_,fun d' n' B hB=>?_,fun k hk=>hr.mem.fsz k (.inl hk),hr.mem.fix⟩
  ·rw [zT _ _ hD]
   by_cases e:d'=st.up.length∧n'=n
   ·obtain ⟨rfl,rfl⟩:=e
    rw [show pl2 st.up.length n'=_ from zF ..] at hp
    cases hp
    exact ⟨hN,hbs,hF,B0,by simp⟩
   ·rw [show pl2 d' n'=_ from zL pl _ e] at hp
    obtain ⟨g1,g2,g3,B,hB⟩:=hr.mem.live d' n' k s hp
    exact ⟨g1,g2,fun h=>g3 (.inl h),B,by rw [if_neg e];exact hB⟩
  ·by_cases e1:d1=st.up.length∧n1=n<;>by_cases e2:d2=st.up.length∧n2=n
   ·exact ⟨e1.1.trans e2.1.symm,e1.2.trans e2.2.symm⟩
   ·obtain ⟨rfl,rfl⟩:=e1
    rw [show pl2 st.up.length n1=_ from zF ..] at h1
    rw [show pl2 d2 n2=_ from zL pl _ e2] at h2
    cases h1
    exact absurd h2 (hnot _ _ _)
   ·obtain ⟨rfl,rfl⟩:=e2
    rw [show pl2 st.up.length n2=_ from zF ..] at h2
    rw [show pl2 d1 n1=_ from zL pl _ e1] at h1
    cases h2
    exact absurd h1 (hnot _ _ _)
   ·rw [show pl2 d1 n1=_ from zL pl _ e1] at h1
    rw [show pl2 d2 n2=_ from zL pl _ e2] at h2
    exact hr.mem.inj _ _ _ _ k s s' h1 h2
  ·rw [zT _ _ hD] at hB
   by_cases e:d'=st.up.length∧n'=n
   ·rw [if_pos e] at hB
    obtain ⟨rfl,rfl⟩:=e
    have hB:B=B0:=(Option.some.inj hB).symm
    rw [hB]
    exact hblk (zF ..) fun d' n' e=>⟨zL pl _ e,by rw [zT _ _ hD,if_neg e]⟩
   ·rw [if_neg e] at hB
    exact zAc hK ((zL pl _ e).trans (zAX (zH hB)).symm) (fun _ _ _=>rfl) (hS.blk hB (hr.mem.blk d' n' B hB))
 refine ⟨pl2,⟨by rw [hfr];exact hm,fun m2 v hv=>by rw [hfr];exact hK.repA (hS.repA (hr.tmps m2 v hv)),hr.size,hr.defers,hr.low⟩,?_,zF ..,fun d m2 hd=>zL pl _ (fun e=>by omega),fun d m2 k s h=>?_⟩
 ·rw [show (st.new n sz ty k0).2.fr::st.up=_ from hfr,zT _ _ hD,if_pos ⟨rfl,rfl⟩]
 ·by_cases e:d=st.up.length∧m2=n
  ·obtain ⟨rfl,rfl⟩:=e
   rw [show pl2 st.up.length m2=_ from zF ..] at h
   cases h
   exact .inl rfl
  ·rw [show pl2 d m2=_ from zL pl _ e] at h
   exact .inr ⟨d,m2,h⟩
theorem zGn {b n sz ty:Nat} {cells:Array Value} {cs:List CV} (hr:Rel (fun k=>F k∨k=b) N0 T pl st a w) (hF:¬F b) (hN:N0.n≤b) (hg:w.heap[b]?=some (.cells cells ty (0,0)))
  (hc:∀{fs:List Frame} {pl:Pl},zO F fs pl w cells.toList cs) (hd:∀c∈cs,c.dep st.up.length=true):
  ∃pl',Rel F N0 T pl' (st.new n sz ty (.box cs)).2 a w∧zR F ((st.new n sz ty (.box cs)).2.fr::st.up) pl' w (.pointer (some ⟨b,0,none⟩)) (.c (st.new n sz ty (.box cs)).1)∧
   (∀d n,d<st.up.length→pl' d n=pl d n)∧(∀d n k s,pl' d n=some (k,s)→k=b∨∃d0 n0,pl d0 n0=some (k,s)):=by
 obtain ⟨pl',h1,h2,h3,h4,h5⟩:=zDZ (n:=n) (sz:=sz) (ty:=ty) (m:=cs.length) (k0:= .box cs) hr hF hN (Array.getElem?_eq_some_iff.1 hg).1 (fun {fs pl} hp _=>⟨b,cells,hp,hg,hc,hd⟩)
 exact ⟨pl',h1,⟨rfl,_,h2,Nat.le_refl _,fun _=>⟨b,cs.length,h3,by simp⟩⟩,h4,h5⟩
theorem zDx {b n sz ty m:Nat} {cells:Array Value} {rs:List (List PV)} (hr:Rel (fun k=>F k∨k=b) N0 T pl st a w) (hF:¬F b) (hN:N0.n≤b) (hg:w.heap[b]?=some (.cells cells ty (0,0)))
  (hm:rs.length=m) (hmax:m≤maxLen) (hs:∀e∈rs,e.length=sz) (hc:∀{pl:Pl},RepPs (Own F pl) w cells.toList rs.flatten):
  ∃pl',Rel F N0 T pl' (st.new n sz ty (.row rs)).2 a w∧zR F ((st.new n sz ty (.row rs)).2.fr::st.up) pl' w (.slice (some ⟨b,0,none⟩) m m) (.c (.own st.up.length n (st.fresh n) m))∧
   (∀d n,d<st.up.length→pl' d n=pl d n)∧(∀d n k s,pl' d n=some (k,s)→k=b∨∃d0 n0,pl d0 n0=some (k,s)):=by
 obtain ⟨g1,g2⟩:=zi hs
 have hul:cells.size=rs.length*sz:=by have:=(hc (pl:=pl)).1;simp [g1] at this;simpa using this
 obtain ⟨pl',h1,h2,h3,h4,h5⟩:=zDZ (n:=n) (sz:=sz) (ty:=ty) (m:=cells.size) (k0:= .row rs) hr hF hN (Array.getElem?_eq_some_iff.1 hg).1 (fun {fs pl} hp _=> .inr ⟨b,cells.size,cells,hp,hg,rfl,by simp only;omega,hs,fun j e o x he hx=>by
  have ho:o<sz:=by
   rw [←hs e (List.mem_of_getElem? he)]
   by_cases ho:o<e.length
   ·exact ho
   ·rw [List.getElem?_eq_none (by omega)] at hx;cases hx
  have hfl:=g2 j e o he ho
  rw [hx] at hfl
  have hlt:j*sz+o<cells.toList.length:=by
   rw [(hc (pl:=pl)).1]
   by_cases hlt:j*sz+o<rs.flatten.length
   ·exact hlt
   ·rw [List.getElem?_eq_none (by omega)] at hfl;cases hfl
  exact ⟨cells.toList[j*sz+o],by simp,(hc (pl:=pl)).2 _ _ _ (List.getElem?_eq_getElem hlt) hfl⟩⟩)
 refine ⟨pl',h1,⟨rfl,_,h2,Nat.le_refl _,fun _=> .inr ⟨b,cells.size,m,h3,rfl,?_,Nat.le_refl _,hmax⟩⟩,h4,h5⟩
 simp only
 rw [hul,hm]
end
end Go.Eng

