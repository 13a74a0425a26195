import Derived.Test.YtdkoeegcpbaojaaGreatDoorE4
set_option linter.unusedVariables false
set_option linter.unusedSimpArgs false
namespace Go.Eng
open Go.RowKit
def zAe (pl:Pl) (d n:Nat) (x:Option (Nat×Nat)):Pl:=fun d' n'=>if d'=d∧n'=n then x else pl d' n'
theorem zG (pl:Pl) (d n:Nat) (x:Option (Nat×Nat)):zAe pl d n x d n=x:=by simp [zAe]
theorem zAE (pl:Pl) {d n d' n':Nat} (x:Option (Nat×Nat)) (h:¬(d'=d∧n'=n)):zAe pl d n x d' n'=pl d' n':=by simp [zAe,h]
theorem zBy {α:Type} (m n:Nat) (x:α):∀l:List (Nat×α),zF m (upd n x l)=if m=n then some x else zF m l
 | []=>by
  by_cases h:n=m
  ·subst h;simp [upd,zF]
  ·simp [upd,zF,h,Ne.symm h,fun e:m=n=>h e.symm]
 |(k,a)::r=>by
  by_cases h:k=n
  ·subst h
   by_cases h2:m=k
   ·subst h2;simp [upd,zF]
   ·have h3:¬k=m:=fun e=>h2 e.symm
    simp [upd,zF,h2,h3]
  ·by_cases h2:k=m
   ·subst h2;simp [upd,zF,h]
   ·simp [upd,zF,h,h2,zBy m n x r]
theorem zK {d n:Nat}:∀{fs:List Frame} {B:Blk},zB d n fs=some B→d<fs.length
 | [],B,h=>by simp [zB] at h
 |f::r,B,h=>by
  simp only [zB] at h
  split at h
  ·rename_i e;simp;omega
  ·have:=zK h;simp;omega
theorem zy {d n:Nat} {B:Blk} (d' m:Nat):∀{fs:List Frame},d<fs.length→zB d' m (zAo d n B fs)=if d'=d∧m=n then some B else zB d' m fs
 | [],h=>by simp at h
 |f::r,h=>by
  simp only [zAo]
  have hl:∀r:List Frame,(zAo d n B r).length=r.length:=by
   intro r
   induction r with
   |nil=>rfl
   |cons f r ih=>simp only [zAo];split<;>simp [ih]
  by_cases e:d=r.length
  ·rw [if_pos e]
   simp only [zB]
   by_cases e':d'=r.length
   ·rw [if_pos e',if_pos e',zBy]
    by_cases e2:m=n
    ·subst e2;simp [e,e']
    ·simp [e2]
   ·rw [if_neg e',if_neg e',if_neg (by omega)]
  ·rw [if_neg e]
   simp only [zB,hl]
   by_cases e':d'=r.length
   ·rw [if_pos e',if_pos e',if_neg (by omega)]
   ·rw [if_neg e',if_neg e',zy d' m (by simp at h;omega)]
theorem zBj {d n:Nat} {B:Blk}:∀r:List Frame,(zAo d n B r).length=r.length:=by
 intro r
 induction r with
 |nil=>rfl
 |cons f r ih=>simp only [zAo];split<;>simp [ih]
theorem zAJ (st:St) (d n:Nat) (B:Blk):(st.set d n B).fr::(st.set d n B).up=zAo d n B (st.fr::st.up):=by
 unfold St.set
 simp only [zAo]
 by_cases h:d=st.up.length
 ·rw [if_pos h,if_pos h]
 ·rw [if_neg h,if_neg h]
theorem zA9 (st:St) (d n:Nat) (B:Blk):(st.set d n B).t=st.t:=by unfold St.set;split<;>rfl
section
variable {P:Program} {F:Nat→Prop} {G:Nat→Option Obj} {N0:Base G} {T:Nat} {pl pl':Pl} {st:St} {a:Act} {w w':World} {fs fs':List Frame}
structure One (pl:Pl) (d n:Nat) (w w':World):Prop where
 os:w'.os=w.os
 tape:w'.tape=w.tape
 output:w'.output=w.output
 size:w.heap.size≤w'.heap.size
 block:∀k,k<w.heap.size→(∀s,pl d n≠some (k,s))→w'.heap[k]?=w.heap[k]?
theorem zBz (hm:MemOK F N0 fs pl w) {d n:Nat} (hd:d<fs.length) {B:Blk} {x:Option (Nat×Nat)}
  (hg:∀B0,zB d n fs=some B0→B0.g≤B.g∧(B.g=B0.g→x=pl d n∧B.sz=B0.sz)) (hs:One pl d n w w')
  (hx:∀b s,x=some (b,s)→(∃s0,pl d n=some (b,s0))∨w.heap.size≤b):Keep F fs (zAo d n B fs) pl (zAe pl d n x) w w':=by
 refine ⟨⟨hs.os,hs.tape,hs.output,hs.size,fun k hk hn=>hs.block k hk (fun s=>hn d n s)⟩,zBj fs,fun d' n' b hb=>?_,fun d' n' b s hp=>?_⟩
 ·rw [zy d' n' hd]
  by_cases e:d'=d∧n'=n
  ·obtain ⟨rfl,rfl⟩:=e
   obtain ⟨h1,h2⟩:=hg b hb
   exact ⟨B,by simp,h1,fun e=>by rw [zG];exact h2 e⟩
  ·exact ⟨b,by rw [if_neg e];exact hb,Nat.le_refl _,fun _=>⟨zAE pl x e,rfl⟩⟩
 ·by_cases e:d'=d∧n'=n
  ·obtain ⟨rfl,rfl⟩:=e
   rw [zG] at hp
   rcases hx b s hp with ⟨s0,h⟩|h
   ·exact .inl ⟨_,_,s0,h⟩
   ·exact .inr h
  ·rw [zAE pl x e] at hp
   exact .inl ⟨_,_,_,hp⟩
theorem zBH (hk:Keep F fs fs' pl pl' w w') {d n:Nat} {B:Blk} (hp:pl' d n=pl d n) (hw:∀b s,pl d n=some (b,s)→w'.heap[b]?=w.heap[b]?) (h:zAD F fs pl w d n B):zAD F fs' pl' w' d n B:=by
 unfold zAD at h⊢
 cases hB:B.k with
 |box cells=>
  rw [hB] at h
  obtain ⟨b,us,h1,h2,h3,h4⟩:=h
  exact ⟨b,us,hp.trans h1,(hw b _ h1).trans h2,hk.repCs h3,h4⟩
 |row rows=>
  rw [hB] at h
  rcases h with ⟨h1,h2⟩|⟨b,s,us,h1,h2,h3,h4,h5,h6⟩
  ·exact .inl ⟨h1,hp.trans h2⟩
  ·refine .inr ⟨b,s,us,hp.trans h1,(hw b _ h1).trans h2,h3,h4,h5,fun j e o x he hx=>?_⟩
   obtain ⟨v,hv,hr⟩:=h6 j e o x he hx
   exact ⟨v,hv,hk.repP hr⟩
 |dead=>
  rw [hB] at h
  exact hp.trans h
theorem zCi (hm:MemOK F N0 fs pl w) (hN:N0.n≤w.heap.size) {d n:Nat} (hd:d<fs.length) {B:Blk} {x:Option (Nat×Nat)}
  (hk:Keep F fs (zAo d n B fs) pl (zAe pl d n x) w w') (hs:One pl d n w w')
  (hx:∀b s,x=some (b,s)→((∃s0,pl d n=some (b,s0))∨w.heap.size≤b)∧b<w'.heap.size)
  (hblk:zAD F (zAo d n B fs) (zAe pl d n x) w' d n B):MemOK F N0 (zAo d n B fs) (zAe pl d n x) w':=by
 refine ⟨fun d' n' b s hp=>?_,fun d1 n1 d2 n2 b s s' h1 h2=>?_,fun d' n' B' hB=>?_,fun k hF=>Nat.lt_of_lt_of_le (hm.fsz k hF) hs.size,zBa hm (fun k hk hn=>hs.block k hk (fun s=>hn d n s))⟩
 ·by_cases e:d'=d∧n'=n
  ·obtain ⟨rfl,rfl⟩:=e
   rw [zG] at hp
   obtain ⟨h1,h2⟩:=hx b s hp
   rw [zy _ _ hd]
   rcases h1 with ⟨s0,h1⟩|h1
   ·obtain ⟨h3,h4,h5,_⟩:=hm.live _ _ b s0 h1
    exact ⟨h3,h2,h5,B,by simp⟩
   ·exact ⟨by omega,h2,fun hF=>by have:=hm.fsz b hF;omega,B,by simp⟩
  ·rw [zAE pl x e] at hp
   obtain ⟨h3,h4,h5,B0,h6⟩:=hm.live _ _ b s hp
   exact ⟨h3,Nat.lt_of_lt_of_le h4 hs.size,h5,B0,by rw [zy _ _ hd,if_neg e];exact h6⟩
 ·by_cases e1:d1=d∧n1=n
  ·obtain ⟨rfl,rfl⟩:=e1
   by_cases e2:d2=d1∧n2=n1
   ·exact ⟨e2.1.symm,e2.2.symm⟩
   ·rw [zG] at h1
    rw [zAE pl x e2] at h2
    rcases (hx b s h1).1 with ⟨s0,h3⟩|h3
    ·exact hm.inj _ _ _ _ b s0 s' h3 h2
    ·have:=(hm.live _ _ b s' h2).2.1;omega
  ·rw [zAE pl x e1] at h1
   by_cases e2:d2=d∧n2=n
   ·obtain ⟨rfl,rfl⟩:=e2
    rw [zG] at h2
    rcases (hx b s' h2).1 with ⟨s0,h3⟩|h3
    ·exact hm.inj _ _ _ _ b s s0 h1 h3
    ·have:=(hm.live _ _ b s h1).2.1;omega
   ·rw [zAE pl x e2] at h2
    exact hm.inj _ _ _ _ b s s' h1 h2
 ·rw [zy _ _ hd] at hB
  by_cases e:d'=d∧n'=n
  ·rw [if_pos e] at hB
   obtain ⟨rfl,rfl⟩:=e
   cases hB
   exact hblk
  ·rw [if_neg e] at hB
   refine zBH hk (zAE pl x e) (fun b s hp=>hs.block b (hm.live _ _ b s hp).2.1 (fun s' h=>?_)) (hm.blk _ _ _ hB)
   obtain ⟨h1,h2⟩:=hm.inj _ _ _ _ b s s' hp h
   exact e ⟨h1,h2⟩
theorem zCj {d n:Nat} (h:Below w.heap.size w w'):One pl d n w w':=⟨h.os,h.tape,h.output,h.size,fun k hk _=>h.block k hk⟩
theorem zHV (hr:Rel F N0 T pl st a w) {n sz ty:Nat} {k:BK} {x:Option (Nat×Nat)} (hb:Below w.heap.size w w') (hx:∀b s,x=some (b,s)→w.heap.size≤b∧b<w'.heap.size)
  (hblk:Keep F (st.fr::st.up) ((st.new n sz ty k).2.fr::(st.new n sz ty k).2.up) pl (zAe pl st.up.length n x) w w'→zAD F ((st.new n sz ty k).2.fr::(st.new n sz ty k).2.up) (zAe pl st.up.length n x) w' st.up.length n ⟨st.fresh n,sz,ty,k⟩):
  MemOK F N0 ((st.new n sz ty k).2.fr::(st.new n sz ty k).2.up) (zAe pl st.up.length n x) w'∧Keep F (st.fr::st.up) ((st.new n sz ty k).2.fr::(st.new n sz ty k).2.up) pl (zAe pl st.up.length n x) w w'∧
   zB st.up.length n ((st.new n sz ty k).2.fr::(st.new n sz ty k).2.up)=some ⟨st.fresh n,sz,ty,k⟩:=by
 have hf:(st.new n sz ty k).2.fr::(st.new n sz ty k).2.up=zAo st.up.length n ⟨st.fresh n,sz,ty,k⟩ (st.fr::st.up):=by simp [St.new,zAo]
 rw [hf] at hblk⊢
 have hd:st.up.length<(st.fr::st.up).length:=by simp
 have hk:=zBz (B:=⟨st.fresh n,sz,ty,k⟩) (x:=x) hr.mem hd (fun B0 h0=>by
  have:zF n st.fr=some B0:=by simpa [zB] using h0
  have e:st.fresh n=B0.g+1:=by simp [St.fresh,this]
  exact ⟨by show B0.g≤st.fresh n;omega,fun h=>by have h':st.fresh n=B0.g:=h;omega⟩) (zCj hb) (fun b s h=> .inr (hx b s h).1)
 exact ⟨zCi hr.mem hr.low hd hk (zCj hb) (fun b s h=>⟨.inr (hx b s h).1,(hx b s h).2⟩) (hblk hk),hk,by rw [zy _ _ hd];simp⟩
theorem zB0 (hr:Rel F N0 T pl st a w) {n sz ty:Nat} {k:BK} {x:Option (Nat×Nat)} {u:Value} {v:AV} (hb:Below w.heap.size w w') (hx:∀b s,x=some (b,s)→w.heap.size≤b∧b<w'.heap.size)
  (hblk:Keep F (st.fr::st.up) ((st.new n sz ty k).2.fr::(st.new n sz ty k).2.up) pl (zAe pl st.up.length n x) w w'→zAD F ((st.new n sz ty k).2.fr::(st.new n sz ty k).2.up) (zAe pl st.up.length n x) w' st.up.length n ⟨st.fresh n,sz,ty,k⟩)
  (hv:zB st.up.length n ((st.new n sz ty k).2.fr::(st.new n sz ty k).2.up)=some ⟨st.fresh n,sz,ty,k⟩→zU F ((st.new n sz ty k).2.fr::(st.new n sz ty k).2.up) (zAe pl st.up.length n x) w' u v):
  Post F N0 pl st w v (st.new n sz ty k).2 u w':=by
 obtain ⟨h1,h2,h3⟩:=zHV hr hb hx hblk
 exact ⟨⟨_,hv h3,h1,h2⟩,rfl⟩
theorem zBk (w:World) (o:Obj):Below w.heap.size w {w with heap:=w.heap.push o}:=
 ⟨rfl,rfl,rfl,by simp,fun k hk=>by simp [Array.getElem?_push,Nat.ne_of_lt hk]⟩
theorem zKq {o:Oper} {t e:TypeId} {sz dst:Nat} (ho:o.op= .assign (.const (.slice none 0 0))) (hr:Rel F N0 T pl st a w):
  Runs1 P o a w (Post F N0 pl st w (.c (.own st.up.length (dst*64) (st.fresh (dst*64)) 0)) (st.new (dst*64) sz e (.row [])).2):=by
 refine za (u:= .slice none 0 0) (w':=w) (by simp [execOp,ho,Act.eval]) ?_
 refine zB0 (x:=none) hr (Below.refl _ _) (fun b s h=>by cases h) (fun _=> .inl ⟨rfl,zG ..⟩) (fun hg=>?_)
 exact ⟨rfl,_,hg,Nat.le_refl _,fun _=> .inl ⟨rfl,rfl,zG ..⟩⟩
theorem zEs {v:Value} (h:v.oneCell'=true):v.cells= #[v]:=by cases v<;>first|rfl|cases h
theorem zAx {v:Value} {x:AV} (h:zU F fs pl w v x) (hx:∀vs,x≠ .tup vs) (hk:x.cvs.all (·.known)=true):zM F fs pl w v.cells.toList x.cvs:=by
 cases x with
 |tup vs=>exact absurd rfl (hx vs)
 |agg cs=>
  obtain ⟨us,rfl,h2⟩:=h
  exact h2
 |c y=>
  have h1:v.oneCell'=true∧v.cells= #[v]:=by
   have h0:zAv F fs pl w v y:=h
   cases y with
   |p z=>exact RepP.one h0
   |own d n g m=>exact ⟨h0.1,zEs h0.1⟩
   |ptr d n g j o=>exact ⟨h0.1,zEs h0.1⟩
   |rp row o=>obtain ⟨a,rfl,_⟩:=h0;exact ⟨rfl,rfl⟩
   |fn f caps=>obtain ⟨vals,rfl,_⟩:=h0;exact ⟨rfl,rfl⟩
   |nfn=>cases h0;exact ⟨rfl,rfl⟩
   |u=>simp [AV.cvs,CV.known] at hk
  rw [h1.2]
  exact ⟨rfl,fun i u c hu hc=>by
   cases i with
   |zero=>
    simp [AV.cvs] at hu hc
    subst hu;subst hc
    exact ⟨h,.inr h1.1⟩
   |succ i=>simp at hu⟩
end
end Go.Eng

