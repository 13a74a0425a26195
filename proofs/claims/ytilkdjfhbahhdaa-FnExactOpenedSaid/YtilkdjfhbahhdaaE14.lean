import Derived.Test.YtilkdjfhbahhdaaE13
set_option linter.unusedVariables false
set_option linter.unusedSimpArgs false
namespace Go.Eng
open Go.RowKit
section
variable {P:Program} {F:Nat→Prop} {G:Nat→Option Obj} {N0:Base G} {T:Nat} {pl pl':Pl} {st st':St} {a:Act} {w w':World} {fs fs':List Frame} {f':Frame} {up:List Frame}
def Goes (P:Program) (f:FuncId) (vals:Array Value) (w:World) (R:Value→World→Prop):Prop:=
 (∃u w',(callFunc f vals).run P w= .ok (.value u) w'∧R u w')∨((callFunc f vals).run P w= .ok (.enter f vals) w∧Calls P f vals w fun e w'=>∃u,e= .returned u∧R u w')
theorem Goes.mono {f:FuncId} {vals:Array Value} {R R':Value→World→Prop} (h:Goes P f vals w R) (hr:∀u w',R u w'→R' u w'):Goes P f vals w R':=by
 rcases h with ⟨u,w',h1,h2⟩|⟨h1,h2⟩
 ·exact .inl ⟨u,w',h1,hr _ _ h2⟩
 ·exact .inr ⟨h1,h2.mono fun e w'' ⟨u,he,h⟩=>⟨u,he,hr _ _ h⟩⟩
theorem zHZ {o:Oper} {c:Call} {f:Operand} {fid:FuncId} {caps:Array Value} {R:Value→World→Prop} (ho:o.op= .call c) (hc:c.callee= .value f) (hf:a.eval f= .func (.func fid) #[] caps) (h:Goes P fid (c.args.map a.eval++caps) w R):
  Runs1 P o a w R:=by
 intro next hn
 have hexec:(execOp a.eval o).run P w=(callFunc fid (c.args.map a.eval++caps)).run P w:=by
  simp only [execOp,ho,resolve,hc,Deferred.ofValue,hf,invoke,Sem.run_bind,Sem.run_pure,Result.andThen_ok,Array.empty_append]
 unfold Oper.wp
 rw [hexec]
 rcases h with ⟨u,w',h1,h2⟩|⟨h1,h2⟩
 ·rw [h1];exact hn u w' h2
 ·rw [h1]
  exact h2.mono fun e w'' ⟨u,he,h⟩=>by subst he;exact hn u w'' h
structure Low (m:Nat) (fs:List Frame) (pl:Pl) (fs':List Frame) (pl':Pl):Prop where
 low:∀d n,d<m→zB d n fs'=zB d n fs∧pl' d n=pl d n
 own:∀d n j b s,pl' d n j=some (b,s)→∃d0 n0 j0,pl d0 n0 j0=some (b,s)
theorem Low.repP {m:Nat} (h:Low m fs pl fs' pl') {v:Value} {x:PV} (hr:RepP (Own F pl) w v x):RepP (Own F pl') w v x:=
 hr.step (fun _ _ _=>rfl) (Nat.le_refl _) (fun k hk=>by
  rcases hk with hk|⟨d,n,j,s,hk⟩
  ·exact .inl (.inl hk)
  ·obtain ⟨d0,n0,j0,h0⟩:=h.own d n j k s hk
   exact .inl (.inr ⟨d0,n0,j0,s,h0⟩))
theorem Low.repC {m:Nat} (h:Low m fs pl fs' pl') {v:Value} {c:CV} {d0:Nat} (hd:d0<m) (hc:c.dep d0=true) (hr:zAM F fs pl w v c):zAM F fs' pl' w v c:=by
 cases c with
 |p x=>exact h.repP hr
 |own d n g q=>
  have hd':d<m:=by simp [CV.dep] at hc;omega
  obtain ⟨h1,B,h2,h3,h4⟩:=hr
  obtain ⟨e1,e2⟩:=h.low d n hd'
  exact ⟨h1,B,e1.trans h2,h3,fun e=>by rw [e2];exact h4 e⟩
 |ptr d n g j o=>
  have hd':d<m:=by simp [CV.dep] at hc;omega
  obtain ⟨h1,B,h2,h3,h4⟩:=hr
  obtain ⟨e1,e2⟩:=h.low d n hd'
  exact ⟨h1,B,e1.trans h2,h3,fun e=>by rw [e2];exact h4 e⟩
 |sub d n g j o q esz=>
  have hd':d<m:=by simp [CV.dep] at hc;omega
  obtain ⟨h1,B,h2,h3,h4⟩:=hr
  obtain ⟨e1,e2⟩:=h.low d n hd'
  exact ⟨h1,B,e1.trans h2,h3,fun e=>by rw [e2];exact h4 e⟩
 |rp row o=>exact hr.same (fun k d n j s hp=>let ⟨d0,n0,j0,h0⟩:=h.own d n j k s hp;⟨d0,n0,j0,s,h0⟩) h.repP
 |fn f caps=>
  obtain ⟨vals,h1,h2,h3⟩:=hr
  refine ⟨vals,h1,h2,fun i u c hu hc'=>?_⟩
  have h4:=h3 i u c hu hc'
  cases c with
  |p x=>exact h.repP h4
  |ptr d n g=>
   have hm:=zn hc'
   have hd':d<m:=by
    simp only [CV.dep,List.all_eq_true] at hc
    have:=hc _ hm
    simp at this
    omega
   obtain ⟨h0,B,h5,h6,h7⟩:=h4
   obtain ⟨e1,e2⟩:=h.low d n hd'
   exact ⟨h0,B,e1.trans h5,h6,fun e=>by rw [e2];exact h7 e⟩
  |rp row=>exact RepR.same h4 (fun k d n j s hp=>let ⟨d0,n0,j0,h0⟩:=h.own d n j k s hp;⟨d0,n0,j0,s,h0⟩) h.repP
 |nfn=>exact hr
 |u=>trivial
theorem Low.blk {m:Nat} (h:Low m fs pl fs' pl') {d n:Nat} {B:Blk} (hd:d<m) (hb:zY F fs pl w d n B):zY F fs' pl' w d n B:=by
 have e2:=(h.low d n hd).2
 unfold zY at hb⊢
 cases hk:B.k with
 |box cells=>
  rw [hk] at hb
  obtain ⟨b,us,h1,h2,h3,h4⟩:=hb
  exact ⟨b,us,e2.trans h1,h2,⟨h3.1,fun i u c hu hc=>⟨h.repC hd (h4 c (zn hc)) (h3.2 i u c hu hc).1,(h3.2 i u c hu hc).2⟩⟩,h4⟩
 |row rows=>
  rw [hk] at hb
  rcases hb with ⟨h1,h2⟩|⟨b,s,us,h1,h2,h3,h4,h5,h6⟩
  ·exact .inl ⟨h1,e2.trans h2⟩
  ·exact .inr ⟨b,s,us,e2.trans h1,h2,h3,h4,h5,fun j e o x he hx=>by
    obtain ⟨v,hv,hr⟩:=h6 j e o x he hx
    exact ⟨v,hv,h.repP hr⟩⟩
 |deep cols rows=>
  rw [hk] at hb
  rcases hb with ⟨h1,h2⟩|⟨b,s,us,h1,h2,h3,h4,h5,h6,h7⟩
  ·exact .inl ⟨h1,e2.trans h2⟩
  ·refine .inr ⟨b,s,us,by rw [e2];exact h1,h2,h3,h4,h5,fun j e o x he hx=>?_,fun j hj=>by rw [e2];exact h7 j hj⟩
   obtain ⟨v,hv,hr⟩:=h6 j e o x he hx
   refine ⟨v,hv,?_⟩
   rw [e2]
   exact hr.keep (fun h'=>h.repP h') (fun _ _ _ _=>rfl)
 |dead=>
  rw [hk] at hb
  exact e2.trans hb
theorem zHa (hm:MemOK F N0 fs pl w) (h:Low up.length fs pl (f'::up) pl')
  (hlive:∀n j b s,pl' up.length n j=some (b,s)→(∃B,look n f'=some B)∧∃d0 n0 j0,up.length≤d0∧pl d0 n0 j0=some (b,s))
  (hinj:∀n j n' j' b s s',pl' up.length n j=some (b,s)→pl' up.length n' j'=some (b,s')→n=n'∧j=j') (hhi:∀d n,up.length<d→pl' d n=nop)
  (hblk:∀n B,look n f'=some B→zY F (f'::up) pl' w up.length n B):MemOK F N0 (f'::up) pl' w:=by
 refine ⟨fun d n j b s hp=>?_,fun d n j d' n' j' b s s' h1 h2=>?_,fun d n B hB=>?_,hm.fsz,hm.fix⟩
 ·by_cases hd:d<up.length
  ·obtain ⟨e1,e2⟩:=h.low d n hd
   rw [e2] at hp
   rw [e1]
   exact hm.live d n j b s hp
  ·by_cases hd2:d=up.length
   ·subst hd2
    obtain ⟨⟨B,hB⟩,d0,n0,j0,_,h0⟩:=hlive n j b s hp
    obtain ⟨h1,h2,h3,_⟩:=hm.live d0 n0 j0 b s h0
    exact ⟨h1,h2,h3,B,by simpa [zB] using hB⟩
   ·rw [hhi d n (by omega)] at hp;cases hp
 ·have top:∀d n j b s,pl' d n j=some (b,s)→d<up.length∨d=up.length:=fun d n j b s hp=>by
   rcases Nat.lt_trichotomy d up.length with hl|hl|hl
   ·exact .inl hl
   ·exact .inr hl
   ·rw [hhi d n hl] at hp;cases hp
  rcases top d n j b s h1 with hd|hd<;>rcases top d' n' j' b s' h2 with hd'|hd'
  ·rw [(h.low d n hd).2] at h1
   rw [(h.low d' n' hd').2] at h2
   exact hm.inj d n j d' n' j' b s s' h1 h2
  ·subst hd'
   rw [(h.low d n hd).2] at h1
   obtain ⟨_,d0,n0,j0,hge,h0⟩:=hlive n' j' b s' h2
   have:=(hm.inj _ _ _ _ _ _ b s s' h1 h0).1
   omega
  ·subst hd
   rw [(h.low d' n' hd').2] at h2
   obtain ⟨_,d0,n0,j0,hge,h0⟩:=hlive n j b s h1
   have:=(hm.inj _ _ _ _ _ _ b s' s h2 h0).1
   omega
  ·subst hd;subst hd'
   exact ⟨rfl,hinj n j n' j' b s s' h1 h2⟩
 ·by_cases hd:d<up.length
  ·obtain ⟨e1,e2⟩:=h.low d n hd
   rw [e1] at hB
   exact h.blk hd (hm.blk d n B hB)
  ·have hlt:=zH hB
   simp only [List.length_cons] at hlt
   have hd2:d=up.length:=by omega
   subst hd2
   exact hblk n B (by simpa [zB] using hB)
theorem zH2 {m:Nat} (h:Low m fs pl fs' pl') {d0 n0 d n:Nat} {B B':Blk} {rows:List (List PV)} (hb:zY F fs pl w d0 n0 B) (hk:B.k= .row rows) (hk':B'.k= .row rows) (hs:B'.sz=B.sz) (ht:B'.ty=B.ty) (hp:pl' d n=pl d0 n0):zY F fs' pl' w d n B':=by
 unfold zY at hb⊢
 rw [hk] at hb
 rw [hk']
 rcases hb with ⟨h1,h2⟩|⟨b,s,us,h1,h2,h3,h4,h5,h6⟩
 ·exact .inl ⟨h1,hp.trans h2⟩
 ·rw [←hs] at h4 h5 h6
  exact .inr ⟨b,s,us,hp.trans h1,by rw [ht];exact h2,h3,h4,h5,fun j e o x he hx=>by
   obtain ⟨v,hv,hr⟩:=h6 j e o x he hx
   exact ⟨v,hv,h.repP hr⟩⟩
theorem zGp {m:Nat} (h:Low m fs pl fs' pl') {d0 n0 d n:Nat} {B B':Blk} {cols:List (Nat×Nat×TypeId)} {rows:List (List PV)} (hb:zY F fs pl w d0 n0 B) (hk:B.k= .deep cols rows) (hk':B'.k= .deep cols rows) (hs:B'.sz=B.sz) (ht:B'.ty=B.ty) (hp:pl' d n=pl d0 n0):zY F fs' pl' w d n B':=by
 unfold zY at hb⊢
 rw [hk] at hb
 rw [hk']
 rcases hb with ⟨h1,h2⟩|⟨b,s,us,h1,h2,h3,h4,h5,h6,h7⟩
 ·exact .inl ⟨h1,hp.trans h2⟩
 ·rw [←hs] at h4 h5 h6
  refine .inr ⟨b,s,us,by rw [hp];exact h1,by rw [ht];exact h2,h3,h4,h5,fun j e o x he hx=>?_,fun j hj=>by rw [hp];exact h7 j (by rw [←hs];exact hj)⟩
  obtain ⟨v,hv,hr⟩:=h6 j e o x he hx
  refine ⟨v,hv,?_⟩
  rw [hp]
  exact hr.keep (fun h'=>h.repP h') (fun _ _ _ _=>rfl)
theorem zA4 {own own':Nat→Prop} (h:∀{u x},RepP own w u x→RepP own' w u x) {F F':Nat→Prop} {fs fs':List Frame} {pl pl':Pl} (ho:own=Own F pl) (ho':own'=Own F' pl') {us:List Value} {cs:List CV} (hp:cs.all isP=true) (hr:zK F fs pl w us cs):zK F' fs' pl' w us cs:=by
 subst ho;subst ho'
 refine ⟨hr.1,fun i u c hu hc=>?_⟩
 obtain ⟨h1,h2⟩:=hr.2 i u c hu hc
 have:=List.all_eq_true.1 hp c (zn hc)
 cases c with
 |p x=>exact ⟨h h1,h2⟩
 |_=>simp [isP] at this
theorem zBo {cs:List CV} (hp:cs.all isP=true) (d:Nat):∀c∈cs,c.dep d=true:=fun c hc=>by
 have:=List.all_eq_true.1 hp c hc
 cases c with
 |p x=>rfl
 |_=>simp [isP] at this
theorem zH3 {m:Nat} (h:Low m fs pl fs' pl') {d0 n0 d n:Nat} {B B':Blk} {cells:List CV} (hb:zY F fs pl w d0 n0 B) (hk:B.k= .box cells) (hk':B'.k= .box cells) (hc:cells.all isP=true) (ht:B'.ty=B.ty) (hp:pl' d n=pl d0 n0):zY F fs' pl' w d n B':=by
 unfold zY at hb⊢
 rw [hk] at hb
 rw [hk']
 obtain ⟨b,us,h1,h2,h3,h4⟩:=hb
 exact ⟨b,us,hp.trans h1,by rw [ht];exact h2,zA4 (fun h'=>h.repP h') rfl rfl hc h3,zBo hc _⟩
def BK.okO:BK→Bool
 | .row _=>true
 | .deep ..=>true
 | .box cells=>cells.all isP
 | .dead=>false
theorem zCx {m:Nat} (h:Low m fs pl fs' pl') {d0 n0 d n:Nat} {B B':Blk} (hb:zY F fs pl w d0 n0 B) (hk:B.k.okO=true) (hk':B'.k=B.k) (hs:B'.sz=B.sz) (ht:B'.ty=B.ty) (hp:pl' d n=pl d0 n0):zY F fs' pl' w d n B':=by
 cases hq:B.k with
 |row rows=>exact zH2 h hb hq (hk'.trans hq) hs ht hp
 |deep cols rows=>exact zGp h hb hq (hk'.trans hq) hs ht hp
 |box cells=>rw [hq] at hk;exact zH3 h hb hq (hk'.trans hq) hk ht hp
 |dead=>rw [hq] at hk;cases hk
end
end Go.Eng

