import Derived.Test.YtilkdjfhbahhdaaE4
set_option linter.unusedVariables false
set_option linter.unusedSimpArgs false
namespace Go.Eng
open Go.RowKit
def zx (pl:Pl) (d n:Nat) (x:Pc):Pl:=fun d' n'=>if d'=d∧n'=n then x else pl d' n'
theorem zF (pl:Pl) (d n:Nat) (x:Pc):zx pl d n x d n=x:=by simp [zx]
theorem zr (pl:Pl) {d n d' n':Nat} (x:Pc) (h:¬(d'=d∧n'=n)):zx pl d n x d' n'=pl d' n':=by simp [zx,h]
theorem zBD {α:Type} (m n:Nat) (x:α):∀l:List (Nat×α),look m (upd n x l)=if m=n then some x else look m l
 | []=>by
  by_cases h:n=m
  ·subst h;simp [upd,look]
  ·simp [upd,look,h,Ne.symm h,fun e:m=n=>h e.symm]
 |(k,a)::r=>by
  by_cases h:k=n
  ·subst h
   by_cases h2:m=k
   ·subst h2;simp [upd,look]
   ·have h3:¬k=m:=fun e=>h2 e.symm
    simp [upd,look,h2,h3]
  ·by_cases h2:k=m
   ·subst h2;simp [upd,look,h]
   ·simp [upd,look,h,h2,zBD m n x r]
theorem zH {d n:Nat}:∀{fs:List Frame} {B:Blk},zB d n fs=some B→d<fs.length
 | [],B,h=>by simp [zB] at h
 |f::r,B,h=>by
  simp only [zB] at h
  split at h
  ·rename_i e;simp;omega
  ·have:=zH h;simp;omega
theorem zR {d n:Nat} {B:Blk} (d' m:Nat):∀{fs:List Frame},d<fs.length→zB d' m (zAD d n B fs)=if d'=d∧m=n then some B else zB d' m fs
 | [],h=>by simp at h
 |f::r,h=>by
  simp only [zAD]
  have hl:∀r:List Frame,(zAD d n B r).length=r.length:=by
   intro r
   induction r with
   |nil=>rfl
   |cons f r ih=>simp only [zAD];split<;>simp [ih]
  by_cases e:d=r.length
  ·rw [if_pos e]
   simp only [zB]
   by_cases e':d'=r.length
   ·rw [if_pos e',if_pos e',zBD]
    by_cases e2:m=n
    ·subst e2;simp [e,e']
    ·simp [e2]
   ·rw [if_neg e',if_neg e',if_neg (by omega)]
  ·rw [if_neg e]
   simp only [zB,hl]
   by_cases e':d'=r.length
   ·rw [if_pos e',if_pos e',if_neg (by omega)]
   ·rw [if_neg e',if_neg e',zR d' m (by simp at h;omega)]
theorem ze {d n:Nat} {B:Blk}:∀r:List Frame,(zAD d n B r).length=r.length:=by
 intro r
 induction r with
 |nil=>rfl
 |cons f r ih=>simp only [zAD];split<;>simp [ih]
theorem zJ (st:St) (d n:Nat) (B:Blk):(st.set d n B).fr::(st.set d n B).up=zAD d n B (st.fr::st.up):=by
 unfold St.set
 simp only [zAD]
 by_cases h:d=st.up.length
 ·rw [if_pos h,if_pos h]
 ·rw [if_neg h,if_neg h]
theorem zy (st:St) (d n:Nat) (B:Blk):(st.set d n B).t=st.t:=by unfold St.set;split<;>rfl
section
variable {P:Program} {F:Nat→Prop} {G:Nat→Option Obj} {N0:Base G} {T:Nat} {pl pl':Pl} {st:St} {a:Act} {w w':World} {fs fs':List Frame}
structure One (p:Pc) (w w':World):Prop where
 os:w'.os=w.os
 tape:w'.tape=w.tape
 output:w'.output=w.output
 size:w.heap.size≤w'.heap.size
 block:∀k,k<w.heap.size→(∀j s,p j≠some (k,s))→w'.heap[k]?=w.heap[k]?
theorem zBE (hm:MemOK F N0 fs pl w) {d n:Nat} (hd:d<fs.length) {B:Blk} {x:Pc}
  (hg:∀B0,zB d n fs=some B0→B0.g≤B.g∧(B.g=B0.g→Ext (pl d n) x∧B.sz=B0.sz)) (hs:One (pl d n) w w')
  (hx:∀j b s,x j=some (b,s)→(∃d0 n0 j0 s0,pl d0 n0 j0=some (b,s0))∨w.heap.size≤b):Keep F fs (zAD d n B fs) pl (zx pl d n x) w w':=by
 refine ⟨⟨hs.os,hs.tape,hs.output,hs.size,fun k hk hn=>hs.block k hk (fun j s=>hn d n j s)⟩,ze fs,fun d' n' b hb=>?_,fun d' n' j b s hp=>?_⟩
 ·rw [zR d' n' hd]
  by_cases e:d'=d∧n'=n
  ·obtain ⟨rfl,rfl⟩:=e
   obtain ⟨h1,h2⟩:=hg b hb
   exact ⟨B,by simp,h1,fun e=>by rw [zF];exact h2 e⟩
  ·exact ⟨b,by rw [if_neg e];exact hb,Nat.le_refl _,fun _=>⟨Ext.of (zr pl x e),rfl⟩⟩
 ·by_cases e:d'=d∧n'=n
  ·obtain ⟨rfl,rfl⟩:=e
   rw [zF] at hp
   exact hx j b s hp
  ·rw [zr pl x e] at hp
   exact .inl ⟨_,_,_,_,hp⟩
theorem DeepP.keep {F':Nat→Prop} {q:Option (Nat×Nat)} {esz:Nat} {ety:TypeId} {v:Value} {x:PV} (h:DeepP F w pl q esz ety v x) (hP:∀{u y},RepP (Own F pl) w u y→RepP (Own F' pl') w' u y) (hw:∀b s,q=some (b,s)→w'.heap[b]?=w.heap[b]?):DeepP F' w' pl' q esz ety v x:=by
 rcases h with h|⟨inner,b,s,cap,us,h1,h2,h3,h4,h5,h6,h7,h8,h9,h10⟩
 ·exact .inl h
 ·refine .inr ⟨inner,b,s,cap,us,h1,h2,h3,h4,h5,h6,(hw b s h2).trans h7,h8,h9,fun j e o y he hy=>?_⟩
  obtain ⟨u,hu,hr⟩:=h10 j e o y he hy
  exact ⟨u,hu,hP hr⟩
theorem DCell.keep {F':Nat→Prop} {p:Pc} {cols:List (Nat×Nat×TypeId)} {sz j o:Nat} {v:Value} {x:PV} (h:DCell F w pl p cols sz j o v x) (hP:∀{u y},RepP (Own F pl) w u y→RepP (Own F' pl') w' u y) (hw:∀c b s,p (c+1)=some (b,s)→w'.heap[b]?=w.heap[b]?):DCell F' w' pl' p cols sz j o v x:=by
 unfold DCell at h⊢
 cases hl:look o cols with
 |some q=>
  rw [hl] at h
  exact DeepP.keep h hP (fun b s e=>hw _ b s e)
 |none=>
  rw [hl] at h
  exact hP h
theorem zAN (hk:Keep F fs fs' pl pl' w w') {d n:Nat} {B:Blk} (hp:pl' d n=pl d n) (hw:∀j b s,pl d n j=some (b,s)→w'.heap[b]?=w.heap[b]?) (h:zY F fs pl w d n B):zY F fs' pl' w' d n B:=by
 unfold zY at h⊢
 cases hB:B.k with
 |box cells=>
  rw [hB] at h
  obtain ⟨b,us,h1,h2,h3,h4⟩:=h
  exact ⟨b,us,hp.trans h1,(hw 0 b _ (by rw [h1];rfl)).trans h2,hk.repCs h3,h4⟩
 |row rows=>
  rw [hB] at h
  rcases h with ⟨h1,h2⟩|⟨b,s,us,h1,h2,h3,h4,h5,h6⟩
  ·exact .inl ⟨h1,hp.trans h2⟩
  ·refine .inr ⟨b,s,us,hp.trans h1,(hw 0 b _ (by rw [h1];rfl)).trans h2,h3,h4,h5,fun j e o x he hx=>?_⟩
   obtain ⟨v,hv,hr⟩:=h6 j e o x he hx
   exact ⟨v,hv,hk.repP hr⟩
 |deep cols rows=>
  rw [hB] at h
  rcases h with ⟨h1,h2⟩|⟨b,s,us,h1,h2,h3,h4,h5,h6,h7⟩
  ·exact .inl ⟨h1,hp.trans h2⟩
  ·refine .inr ⟨b,s,us,by rw [hp];exact h1,(hw 0 b _ h1).trans h2,h3,h4,h5,fun j e o x he hx=>?_,fun j hj=>by rw [hp];exact h7 j hj⟩
   obtain ⟨v,hv,hr⟩:=h6 j e o x he hx
   refine ⟨v,hv,?_⟩
   rw [hp]
   exact hr.keep (fun h=>hk.repP h) (fun c b s h=>hw _ b s h)
 |dead=>
  rw [hB] at h
  exact hp.trans h
theorem zIs (hm:MemOK F N0 fs pl w) (hN:N0.n≤w.heap.size) {d n:Nat} (hd:d<fs.length) {B:Blk} {x:Pc}
  (hk:Keep F fs (zAD d n B fs) pl (zx pl d n x) w w') (hs:One (pl d n) w w')
  (hx:∀j b s,x j=some (b,s)→((∃j0 s0,pl d n j0=some (b,s0))∨(N0.n≤b∧¬F b∧∀d' n' j' s',pl d' n' j'≠some (b,s')))∧b<w'.heap.size) (hi:∀j j' b s s',x j=some (b,s)→x j'=some (b,s')→j=j')
  (hblk:zY F (zAD d n B fs) (zx pl d n x) w' d n B):MemOK F N0 (zAD d n B fs) (zx pl d n x) w':=by
 refine ⟨fun d' n' j b s hp=>?_,fun d1 n1 j1 d2 n2 j2 b s s' h1 h2=>?_,fun d' n' B' hB=>?_,fun k hF=>Nat.lt_of_lt_of_le (hm.fsz k hF) hs.size,zAr hm (fun k hk hn=>hs.block k hk (fun j s=>hn d n j s))⟩
 ·by_cases e:d'=d∧n'=n
  ·obtain ⟨rfl,rfl⟩:=e
   rw [zF] at hp
   obtain ⟨h1,h2⟩:=hx j b s hp
   rw [zR _ _ hd]
   rcases h1 with ⟨j0,s0,h1⟩|⟨h1,h3,_⟩
   ·obtain ⟨h3,h4,h5,_⟩:=hm.live _ _ _ b s0 h1
    exact ⟨h3,h2,h5,B,by simp⟩
   ·exact ⟨h1,h2,h3,B,by simp⟩
  ·rw [zr pl x e] at hp
   obtain ⟨h3,h4,h5,B0,h6⟩:=hm.live _ _ _ b s hp
   exact ⟨h3,Nat.lt_of_lt_of_le h4 hs.size,h5,B0,by rw [zR _ _ hd,if_neg e];exact h6⟩
 ·by_cases e1:d1=d∧n1=n
  ·obtain ⟨rfl,rfl⟩:=e1
   by_cases e2:d2=d1∧n2=n1
   ·obtain ⟨rfl,rfl⟩:=e2
    rw [zF] at h1 h2
    exact ⟨rfl,rfl,hi _ _ _ _ _ h1 h2⟩
   ·rw [zF] at h1
    rw [zr pl x e2] at h2
    rcases (hx _ b s h1).1 with ⟨j0,s0,h3⟩|⟨_,_,h3⟩
    ·obtain ⟨q1,q2,_⟩:=hm.inj _ _ _ _ _ _ b s0 s' h3 h2
     exact absurd ⟨q1.symm,q2.symm⟩ e2
    ·exact absurd h2 (h3 _ _ _ _)
  ·rw [zr pl x e1] at h1
   by_cases e2:d2=d∧n2=n
   ·obtain ⟨rfl,rfl⟩:=e2
    rw [zF] at h2
    rcases (hx _ b s' h2).1 with ⟨j0,s0,h3⟩|⟨_,_,h3⟩
    ·obtain ⟨q1,q2,_⟩:=hm.inj _ _ _ _ _ _ b s s0 h1 h3
     exact absurd ⟨q1,q2⟩ e1
    ·exact absurd h1 (h3 _ _ _ _)
   ·rw [zr pl x e2] at h2
    exact hm.inj _ _ _ _ _ _ b s s' h1 h2
 ·rw [zR _ _ hd] at hB
  by_cases e:d'=d∧n'=n
  ·rw [if_pos e] at hB
   obtain ⟨rfl,rfl⟩:=e
   cases hB
   exact hblk
  ·rw [if_neg e] at hB
   refine zAN hk (zr pl x e) (fun j b s hp=>hs.block b (hm.live _ _ _ b s hp).2.1 (fun j' s' h=>?_)) (hm.blk _ _ _ hB)
   obtain ⟨h1,h2,_⟩:=hm.inj _ _ _ _ _ _ b s s' hp h
   exact e ⟨h1,h2⟩
theorem zDs (hm:MemOK F N0 fs pl w) (hN:N0.n≤w.heap.size) {b:Nat} (hb:w.heap.size≤b):N0.n≤b∧¬F b∧∀d' n' j' s',pl d' n' j'≠some (b,s'):=
 ⟨by omega,fun hF=>by have:=hm.fsz b hF;omega,fun d' n' j' s' h=>by have:=(hm.live _ _ _ b s' h).2.1;omega⟩
theorem zBl (hm:MemOK F N0 fs pl w) (hN:N0.n≤w.heap.size) {d n:Nat} (hd:d<fs.length) {B:Blk} {x:Pc}
  (hk:Keep F fs (zAD d n B fs) pl (zx pl d n x) w w') (hs:One (pl d n) w w')
  (hx:∀j b s,x j=some (b,s)→((∃j0 s0,pl d n j0=some (b,s0))∨w.heap.size≤b)∧b<w'.heap.size) (hi:∀j j' b s s',x j=some (b,s)→x j'=some (b,s')→j=j')
  (hblk:zY F (zAD d n B fs) (zx pl d n x) w' d n B):MemOK F N0 (zAD d n B fs) (zx pl d n x) w':=
 zIs hm hN hd hk hs (fun j b s h=>⟨(hx j b s h).1.imp id (fun h=>zDs hm hN h),(hx j b s h).2⟩) hi hblk
theorem zBm {b s:Nat}:∀j j' b' s1 s2,one b s j=some (b',s1)→one b s j'=some (b',s2)→j=j':=fun j j' b' s1 s2 h h'=>(zAE h).1.trans (zAE h').1.symm
theorem zBn:∀j j' b' s1 s2,nop j=some (b',s1)→nop j'=some (b',s2)→j=j':=fun j j' b' s1 s2 h=>by cases h
theorem zCT {p:Pc} (h:Below w.heap.size w w'):One p w w':=⟨h.os,h.tape,h.output,h.size,fun k hk _=>h.block k hk⟩
theorem zHL (hr:Rel F N0 T pl st a w) {n sz ty:Nat} {k:BK} {x:Pc} (hb:Below w.heap.size w w') (hx:∀j b s,x j=some (b,s)→w.heap.size≤b∧b<w'.heap.size) (hi:∀j j' b s s',x j=some (b,s)→x j'=some (b,s')→j=j')
  (hblk:Keep F (st.fr::st.up) ((st.new n sz ty k).2.fr::(st.new n sz ty k).2.up) pl (zx pl st.up.length n x) w w'→zY F ((st.new n sz ty k).2.fr::(st.new n sz ty k).2.up) (zx pl st.up.length n x) w' st.up.length n ⟨st.fresh n,sz,ty,k⟩):
  MemOK F N0 ((st.new n sz ty k).2.fr::(st.new n sz ty k).2.up) (zx pl st.up.length n x) w'∧Keep F (st.fr::st.up) ((st.new n sz ty k).2.fr::(st.new n sz ty k).2.up) pl (zx pl st.up.length n x) w w'∧
   zB st.up.length n ((st.new n sz ty k).2.fr::(st.new n sz ty k).2.up)=some ⟨st.fresh n,sz,ty,k⟩:=by
 have hf:(st.new n sz ty k).2.fr::(st.new n sz ty k).2.up=zAD st.up.length n ⟨st.fresh n,sz,ty,k⟩ (st.fr::st.up):=by simp [St.new,zAD]
 rw [hf] at hblk⊢
 have hd:st.up.length<(st.fr::st.up).length:=by simp
 have hk:=zBE (B:=⟨st.fresh n,sz,ty,k⟩) (x:=x) hr.mem hd (fun B0 h0=>by
  have:look n st.fr=some B0:=by simpa [zB] using h0
  have e:st.fresh n=B0.g+1:=by simp [St.fresh,this]
  exact ⟨by show B0.g≤st.fresh n;omega,fun h=>by have h':st.fresh n=B0.g:=h;omega⟩) (zCT hb) (fun j b s h=> .inr (hx j b s h).1)
 exact ⟨zBl hr.mem hr.low hd hk (zCT hb) (fun j b s h=>⟨.inr (hx j b s h).1,(hx j b s h).2⟩) hi (hblk hk),hk,by rw [zR _ _ hd];simp⟩
theorem zBF (hr:Rel F N0 T pl st a w) {n sz ty:Nat} {k:BK} {x:Pc} {u:Value} {v:AV} (hb:Below w.heap.size w w') (hx:∀j b s,x j=some (b,s)→w.heap.size≤b∧b<w'.heap.size) (hi:∀j j' b s s',x j=some (b,s)→x j'=some (b,s')→j=j')
  (hblk:Keep F (st.fr::st.up) ((st.new n sz ty k).2.fr::(st.new n sz ty k).2.up) pl (zx pl st.up.length n x) w w'→zY F ((st.new n sz ty k).2.fr::(st.new n sz ty k).2.up) (zx pl st.up.length n x) w' st.up.length n ⟨st.fresh n,sz,ty,k⟩)
  (hv:zB st.up.length n ((st.new n sz ty k).2.fr::(st.new n sz ty k).2.up)=some ⟨st.fresh n,sz,ty,k⟩→zd F ((st.new n sz ty k).2.fr::(st.new n sz ty k).2.up) (zx pl st.up.length n x) w' u v):
  Post F N0 pl st w v (st.new n sz ty k).2 u w':=by
 obtain ⟨h1,h2,h3⟩:=zHL hr hb hx hi hblk
 exact ⟨⟨_,hv h3,h1,h2⟩,rfl⟩
theorem zAs (w:World) (o:Obj):Below w.heap.size w {w with heap:=w.heap.push o}:=
 ⟨rfl,rfl,rfl,by simp,fun k hk=>by simp [Array.getElem?_push,Nat.ne_of_lt hk]⟩
theorem zKv {o:Oper} {t e:TypeId} {sz dst:Nat} {cols:List (Nat×Nat×TypeId)} (ho:o.op= .assign (.const (.slice none 0 0))) (hr:Rel F N0 T pl st a w):
  Runs1 P o a w (Post F N0 pl st w (.c (.own st.up.length (dst*64) (st.fresh (dst*64)) 0)) (st.new (dst*64) sz e (zDk cols [])).2):=by
 refine zU (u:= .slice none 0 0) (w':=w) (by simp [execOp,ho,Act.eval]) ?_
 refine zBF (x:=nop) hr (Below.refl _ _) (fun j b s h=>by cases h) zBn (fun _=>by unfold zDk;split<;>exact .inl ⟨rfl,zF ..⟩) (fun hg=>?_)
 exact ⟨rfl,_,hg,Nat.le_refl _,fun _=> .inl ⟨rfl,rfl,by rw [zF];rfl⟩⟩
theorem zCu {v:Value} (h:v.oneCell'=true):v.cells= #[v]:=by cases v<;>first|rfl|cases h
theorem zAb {v:Value} {x:AV} (h:zd F fs pl w v x) (hx:∀vs,x≠ .tup vs) (hk:x.cvs.all (·.known)=true):zK F fs pl w v.cells.toList x.cvs:=by
 cases x with
 |tup vs=>exact absurd rfl (hx vs)
 |agg cs=>
  obtain ⟨us,rfl,h2⟩:=h
  exact h2
 |c y=>
  have h1:v.oneCell'=true∧v.cells= #[v]:=by
   have h0:zAM F fs pl w v y:=h
   cases y with
   |p z=>exact RepP.one h0
   |own d n g m=>exact ⟨h0.1,zCu h0.1⟩
   |ptr d n g j o=>exact ⟨h0.1,zCu h0.1⟩
   |rp row o=>obtain ⟨a,rfl,_⟩:=h0;exact ⟨rfl,rfl⟩
   |sub d n g j o m esz=>exact ⟨h0.1,zCu h0.1⟩
   |fn f caps=>obtain ⟨vals,rfl,_⟩:=h0;exact ⟨rfl,rfl⟩
   |nfn=>cases h0;exact ⟨rfl,rfl⟩
   |u=>simp [AV.cvs,CV.known] at hk
  rw [h1.2]
  exact ⟨rfl,fun i u c hu hc=>by
   cases i with
   |zero=>
    simp [AV.cvs] at hu hc
    subst hu;subst hc
    exact ⟨h,.inr h1.1⟩
   |succ i=>simp at hu⟩
end
end Go.Eng

