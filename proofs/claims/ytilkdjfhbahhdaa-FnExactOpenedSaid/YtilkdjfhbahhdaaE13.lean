import Derived.Test.YtilkdjfhbahhdaaE12
import Derived.Laws.StructEq
import Derived.Laws.BytesArg
import Derived.Laws.BytesString
set_option linter.unusedVariables false
set_option linter.unusedSimpArgs false
namespace Go.Eng
open Go.RowKit
section
variable {P:Program} {F:Nat→Prop} {G:Nat→Option Obj} {N0:Base G} {T:Nat} {pl pl':Pl} {st st':St} {a:Act} {w w':World} {fs fs':List Frame}
theorem zEh {n:Int} {y:Nat} {code:BoundsCode} (h0:0≤n) (h1:n≤y):(Instr.sliceBound (.int .i64 n) y code).run P w= .ok n.toNat w:=by
 simp [Instr.sliceBound,asIntOf,h0,h1]
theorem zDy {sl:Bool} {len cap:Nat} {lo hi:Option Operand} {klo khi:Option KX} {l h:Int} (hlo:kxo lo=some klo) (hhi:kxo hi=some khi) (hr:Rel F N0 T pl st a w)
  (h1:st.bound 0 klo=some l) (h2:st.bound len khi=some h) (h3:0≤l) (h4:l≤h) (h5:h≤len) (h6:len≤cap) (ww:World):
  (Instr.sliceBounds sl len cap (lo.map a.eval) (hi.map a.eval) none).run P ww= .ok (l.toNat,h.toNat,cap) ww:=by
 have e1:∀x,lo=some x→a.eval x= .int .i64 l:=by
  intro x hx
  subst hx
  simp only [kxo,zL] at hlo
  obtain ⟨k,hk,rfl⟩:=hlo
  exact zAT h1 (zD hr hk)
 have e2:∀x,hi=some x→a.eval x= .int .i64 h:=by
  intro x hx
  subst hx
  simp only [kxo,zL] at hhi
  obtain ⟨k,hk,rfl⟩:=hhi
  exact zAT h2 (zD hr hk)
 have hb:∀code,(Instr.sliceBound (.int .i64 h) cap code).run P ww= .ok h.toNat ww:=fun code=>zEh (by omega) (by omega)
 have hb2:∀code,(Instr.sliceBound (.int .i64 l) h.toNat code).run P ww= .ok l.toNat ww:=fun code=>zEh (by omega) (by omega)
 cases lo with
 |none=>
  simp only [kxo,zM] at hlo
  subst hlo
  simp only [St.bound,zM] at h1
  subst h1
  cases hi with
  |none=>
   simp only [kxo,zM] at hhi
   subst hhi
   simp only [St.bound,zM] at h2
   subst h2
   simp [Instr.sliceBounds]
  |some y=>simp [Instr.sliceBounds,e2 y rfl,hb]
 |some x=>
  cases hi with
  |none=>
   simp only [kxo,zM] at hhi
   subst hhi
   simp only [St.bound,zM] at h2
   subst h2
   simp only [Int.toNat_natCast] at hb2
   simp [Instr.sliceBounds,e1 x rfl,hb2]
  |some y=>simp [Instr.sliceBounds,e2 y rfl,hb,e1 x rfl,hb2]
theorem zKC {o:Oper} {t:TypeId} {x:Operand} {lo hi:Option Operand} {k:KX} {klo khi:Option KX} {s:ByteArray} {l h:Int} (ho:o.op= .slice t x lo hi none) (hu:P.underlying t=some .string) (hx:kx x=some k) (hlo:kxo lo=some klo) (hhi:kxo hi=some khi) (hr:Rel F N0 T pl st a w)
  (h0:st.eval k= .c (.p (.s s))) (h1:st.bound 0 klo=some l) (h2:st.bound s.size khi=some h) (h3:0≤l) (h4:l≤h) (h5:h≤s.size):
  Runs2 P noB o a w (Post F N0 pl st w (.c (.p (.s (s.extract l.toNat h.toNat)))) st):=by
 have e1:=zD hr hx
 rw [h0] at e1
 have e1:=zHK e1
 refine zT (u:= .string (s.extract l.toNat h.toNat)) (fun w' hg'=>?_) (zI hr (.s _))
 have hb:=zDy (P:=P) (sl:=false) (cap:=s.size) hlo hhi hr h1 h2 h3 h4 h5 (Nat.le_refl _) w'
 simp only [execOp,ho,Instr.sliceAt,Instr.slice,Sem.run_bind,run_underlying hu,Result.andThen_ok,e1,Option.map_none,hb,Sem.run_pure,Option.isSome_none,Bool.false_eq_true,if_false]
theorem zK0 {o:Oper} {t e:TypeId} {x:Operand} {lo hi:Option Operand} {k:KX} {klo khi:Option KX} {rows:List (List PV)} {l h:Int} (ho:o.op= .slice t x lo hi none) (hu:P.underlying t=some (.slice e)) (he:∃i,P.info? e=some i) (hx:kx x=some k) (hlo:kxo lo=some klo) (hhi:kxo hi=some khi) (hr:Rel F N0 T pl st a w)
  (h0:st.eval k= .c (.p (.ls rows))) (h1:st.bound 0 klo=some l) (h2:st.bound rows.length khi=some h) (h3:0≤l) (h4:l≤h) (h5:h≤rows.length) (h6:∀e'∈rows,e'.length=P.cellsOf e):
  Runs1 P o a w (Post F N0 pl st w (.c (.p (.ls ((rows.take h.toNat).drop l.toNat)))) st):=by
 obtain ⟨i,hi'⟩:=he
 have hsz:(sizeOf e).run P w= .ok (P.cellsOf e) w:=by rw [run_sizeOf w hi']
 have e1:=zD hr hx
 rw [h0] at e1
 have e1:=zAe e1
 generalize hvx:a.eval x=vx at*
 have fin:∀(ad:Option Addr) (n c:Nat),vx= .slice ad n c→n=rows.length→n≤c→RepP (Own F pl) w (.slice (if c=l.toNat then ad else ad.map (·.add (l.toNat*P.cellsOf e))) (h.toNat-l.toNat) (c-l.toNat)) (.ls ((rows.take h.toNat).drop l.toNat))→
   Runs1 P o a w (Post F N0 pl st w (.c (.p (.ls ((rows.take h.toNat).drop l.toNat)))) st):=by
  intro ad n c hv hn hc hrep
  subst hn
  have hb:=zDy (P:=P) (sl:=true) (cap:=c) hlo hhi hr h1 h2 h3 h4 h5 hc w
  refine zU (u:= .slice (if c=l.toNat then ad else ad.map (·.add (l.toNat*P.cellsOf e))) (h.toNat-l.toNat) (c-l.toNat)) (w':=w) ?_ (zI hr hrep)
  simp only [execOp,ho,Instr.sliceAt,Instr.slice,Sem.run_bind,run_underlying hu,Result.andThen_ok,hvx,hv,Option.map_none,hb,Sem.run_pure,hsz]
 cases e1 with
 |nls=>
  refine fin none 0 0 rfl rfl (Nat.le_refl _) ?_
  simp only [List.length_nil,Int.ofNat_zero] at h5
  have hl0:l.toNat=0:=by omega
  have hh0:h.toNat=0:=by omega
  rw [hl0,hh0]
  exact .nls
 | @ls ad n c sz _ val hn hc hmx hown hcell hrep=>
  subst hn
  refine fin (some ad) _ c rfl rfl hc ?_
  have hlen:((rows.take h.toNat).drop l.toNat).length=h.toNat-l.toNat:=by simp;omega
  have hget:∀j e',((rows.take h.toNat).drop l.toNat)[j]?=some e'→rows[l.toNat+j]?=some e'∧l.toNat+j<h.toNat:=by
   intro j e' hj
   rw [List.getElem?_drop,List.getElem?_take] at hj
   simp only [Option.ite_none_right_eq_some] at hj
   exact ⟨hj.2,hj.1⟩
  by_cases hcl:c=l.toNat
  ·rw [if_pos hcl]
   have:(rows.take h.toNat).drop l.toNat= []:=zAQ (by omega)
   rw [this] at hlen⊢
   exact .ls (sz:=1) (fun _ _=> .nilIface) hlen (by omega) (by rw [←hlen];simp) (by simp) (by simp) (by simp)
  ·rw [if_neg hcl]
   refine .ls (sz:=P.cellsOf e) (fun j o=>val (l.toNat+j) o) hlen (by omega) (by omega) (fun hne=>?_) (fun j e' he'=>?_) (fun j e' o' x' he' hx'=>?_)
   ·rw [zEc]
    exact hown (by rintro rfl;simp at hne)
   ·obtain ⟨g1,g2⟩:=hget j e' he'
    obtain ⟨g3,g4⟩:=hcell _ _ g1
    have g5:=h6 e' (zn g1)
    refine ⟨g5,fun o' x' hx'=>?_⟩
    rw [zBd,←g4 o' x' hx',←g3,g5]
    congr 2
    rw [Nat.add_mul];omega
   ·exact hrep _ _ _ _ (hget j e' he').1 hx'
theorem zDz:∀{ys:List (List PV)} {l:List UInt8},bytesOf ys=some l→∃ns:List Int,ys=ns.map (fun n=> [PV.i .u8 n])∧l=ns.map fun n=>UInt8.ofNat n.toNat
 | [],l,h=>by simp [bytesOf] at h;exact ⟨[],rfl,h.symm▸rfl⟩
 |y::ys,l,h=>by
  unfold bytesOf at h
  split at h
  ·rename_i h';cases h'
  ·rename_i n r h'
   cases h'
   obtain ⟨l',hl,rfl⟩:=Option.map_eq_some_iff.1 h
   obtain ⟨ns,h1,h2⟩:=zDz hl
   exact ⟨n::ns,by simp [h1],by simp [h2]⟩
  ·cases h
theorem zD0:∀ns:List Int,(ns.map fun n=> [PV.i .u8 n]).flatten=ns.map (PV.i .u8)
 | []=>rfl
 |n::ns=>by simp [zD0 ns]
theorem zI3 {o:Oper} {src dst e:TypeId} {x:Operand} {k:KX} {ys:List (List PV)} {l:List UInt8} (ho:o.op= .convert src dst x) (hs:P.underlying src=some (.slice e)) (he:P.underlying e=some (.int .u8)) (hd:P.underlying dst=some .string) (hx:kx x=some k) (hr:Rel F N0 T pl st a w)
  (h1:st.rows (st.eval k)=some ys) (h2:bytesOf ys=some l):Runs1 P o a w (Post F N0 pl st w (.c (.p (.s ⟨l.toArray⟩))) st):=by
 obtain ⟨ns,rfl,rfl⟩:=zDz h2
 have e1:=zD hr hx
 have key:(convert src dst (a.eval x)).run P w= .ok (.string ⟨(ns.map fun n=>UInt8.ofNat n.toNat).toArray⟩) w:=by
  rcases zHS hr.mem h1 (sz:=1) (by omega) (by simp) e1 with ⟨h3,h4⟩|⟨ad,c,news,h3,h4,h5,h6⟩
  ·rw [h3]
   have:ns= []:=by simpa using h4
   subst this
   exact run_convert_bytes_nil w src e hs he 0 0 dst hd
  ·rw [h3,run_convert_bytes_string w src dst e _ _ _ hs he hd]
   have hn:news=ns.map (Value.int .u8):=by
    apply List.ext_getElem?
    intro j
    rw [zD0] at h6
    by_cases hj:j<ns.length
    ·obtain ⟨u,hu⟩:=zz (l:=news) (i:=j) (by rw [h6.1];simpa using hj)
     have hp:=h6.2 j u (.i .u8 ns[j]) hu (by simp [hj])
     cases hp
     rw [hu]
     simp [hj]
    ·rw [List.getElem?_eq_none (by rw [h6.1];simpa using hj),List.getElem?_eq_none (by simpa using hj)]
   have hl:=run_loadCells_list (P:=P) w ad news h5
   rw [h4,hn] at hl
   simp only [List.length_map,Nat.mul_one] at hl⊢
   rw [run_bytesToString w _ _ c ns hl,foldl_push_bytes]
   simp [ByteArray.empty,ByteArray.emptyWithCapacity]
   rfl
 refine zU (u:= .string ⟨(ns.map fun n:Int=>UInt8.ofNat n.toNat).toArray⟩) (w':=w) ?_ (zI hr (RepP.s (own:=Own F pl) (w:=w) _))
 simp only [execOp,ho,Sem.run_bind,key,Result.andThen_ok,Sem.run_pure]
 first|done|rfl
theorem zEi:∀(t1:List Nat) {t2:List Nat} {cs ds:List CV} {r:Bool},eqC (t1++t2) cs ds=some r→∃e f,eqC t1 (cs.take t1.length) (ds.take t1.length)=some e∧eqC t2 (cs.drop t1.length) (ds.drop t1.length)=some f∧r=(e&&f)∧t1.length≤cs.length∧t1.length≤ds.length
 | [],t2,cs,ds,r,h=>⟨true,r,by simp [eqC],by simpa using h,by simp,by simp,by simp⟩
 |t::t1,t2,cs,ds,r,h=>by
  rw [List.cons_append] at h
  unfold eqC at h
  split at h
  ·rename_i h';cases h'
  ·rename_i t' l x rr y q h'
   cases h'
   obtain ⟨e,he,h⟩:=Option.bind_eq_some_iff.1 h
   obtain ⟨f,hf,rfl⟩:=Option.map_eq_some_iff.1 h
   obtain ⟨e2,f2,h1,h2,rfl,h3,h4⟩:=zEi t1 hf
   exact ⟨e&&e2,f2,by simp [eqC,he,h1],by simpa using h2,by simp [Bool.and_assoc],by simpa using h3,by simpa using h4⟩
  ·cases h
theorem zFL:∀{t:List Nat} {cs ds:List CV} {r:Bool},eqC t cs ds=some r→cs.length=t.length∧ds.length=t.length
 | [],cs,ds,r,h=>by unfold eqC at h;split at h<;>first|exact ⟨rfl,rfl⟩|(rename_i h';cases h')|cases h
 |t::l,cs,ds,r,h=>by
  unfold eqC at h
  split at h
  ·rename_i h';cases h'
  ·rename_i h'
   cases h'
   obtain ⟨e,he,h⟩:=Option.bind_eq_some_iff.1 h
   obtain ⟨f,hf,rfl⟩:=Option.map_eq_some_iff.1 h
   obtain ⟨h1,h2⟩:=zFL hf
   exact ⟨by simp [h1],by simp [h2]⟩
  ·cases h
theorem zKD {cs ds:List CV} {r:Bool} (h:eqC [] cs ds=some r):r=true:=by
 unfold eqC at h
 split at h
 ·cases h;rfl
 ·rename_i h';cases h'
 ·cases h
theorem zLU {p q:PV} {r:Bool} (h:eqP 0 p q=some r):∃x y,p= .b x∧q= .b y∧r=(x==y):=by
 cases p<;>cases q<;>simp [eqP] at h<;>exact ⟨_,_,rfl,rfl,h.symm⟩
theorem zLV {p q:PV} {r:Bool} (h:eqP 1 p q=some r):∃k x y,p= .i k x∧q= .i k y∧r=(x==y):=by
 cases p<;>cases q<;>simp [eqP] at h
 obtain ⟨rfl,h⟩:=h
 exact ⟨_,_,_,rfl,rfl,h.symm⟩
theorem zLW {p q:PV} {r:Bool} (h:eqP 2 p q=some r):∃x y,p= .s x∧q= .s y∧r=(x.toList==y.toList):=by
 cases p<;>cases q<;>simp [eqP] at h<;>exact ⟨_,_,rfl,rfl,h.symm⟩
def zLM (P:Program) (w:World) (F:Nat→Prop) (fs:List Frame) (pl:Pl) (t:TypeId) (tags:List Nat) (n:Nat):Prop:=
 ∀d,n≤d→∀(g:Bool) (cs ds:List CV) (A B:AV) (x y:Value) (r:Bool),zAi P t=some g→zBW g cs=some A→zBW g ds=some B→zd F fs pl w x A→zd F fs pl w y B→eqC tags cs ds=some r→(Op.equalIn d t x y).run P w= .ok r w
theorem zEj {g:Bool} {cs:List CV} {n:Nat} (h:cs.length=n) (hg:g=false→n=1):∃v,zBW g cs=some v:=by
 cases g
 ·have:=hg rfl
  match cs,h with
  | [x],_=>exact ⟨_,rfl⟩
  | [],h=>simp at h;omega
  |_::_::_,h=>simp at h;omega
 ·exact ⟨_,rfl⟩
theorem zHX {q:TypeId→Option (List Nat)} {n d:Nat} (hd:n≤d) (hq:∀t tags,q t=some tags→zLM P w F fs pl t tags n∧∃g,zAi P t=some g∧(g=false→tags.length=1)) {us vs:List Value} {cs ds:List CV} (hu:zK F fs pl w us cs) (hv:zK F fs pl w vs ds):
  ∀(l:List Field) (off:Nat) (tags:List Nat) (r:Bool),zIc P q l off=some tags→eqC tags (cs.drop off) (ds.drop off)=some r→(Op.eqFields d us.toArray vs.toArray l).run P w= .ok r w
 | [],off,tags,r,h,hr=>by
  simp only [zIc,zM] at h
  subst h
  have:=zKD hr
  subst this
  simp [Op.eqFields]
 |f::l,off,tags,r,h,hr=>by
  simp only [zIc] at h
  split at h
  ·rename_i hc
   obtain ⟨hn,rfl⟩:=hc
   obtain ⟨a,ha,h⟩:=Option.bind_eq_some_iff.1 h
   split at h
   ·rename_i hal
    obtain ⟨hal,hal0⟩:=hal
    obtain ⟨b,hb,rfl⟩:=Option.map_eq_some_iff.1 h
    obtain ⟨e,f',h1,h2,rfl,h3,h4⟩:=zEi a hr
    obtain ⟨hE,g,hg,hg1⟩:=hq _ _ ha
    simp only [List.length_drop] at h3 h4
    obtain ⟨l1,l2⟩:=zFL h1
    obtain ⟨A,hA⟩:=zEj (g:=g) l1 hg1
    obtain ⟨B,hB⟩:=zEj (g:=g) l2 hg1
    rw [hal] at hA hB
    obtain ⟨x,hx,hxr⟩:=zDw hg hu (off:=f.offset) (by omega) hA
    obtain ⟨y,hy,hyr⟩:=zDw hg hv (off:=f.offset) (by omega) hB
    rw [hal] at h1
    have:=hE d hd g _ _ A B x y e hg hA hB hxr hyr h1
    rw [Op.eqFields,if_pos hn]
    simp only [Sem.run_bind,hx w,hy w,Result.andThen_ok,this,Sem.run_ite]
    have hrec:=zHX hd hq hu hv l _ b f' hb (by rw [List.drop_drop,List.drop_drop,hal] at h2;exact h2)
    cases e
    ·simp
    ·simpa using hrec
   ·cases h
  ·cases h
theorem zKh {o:Oper} {c:Call} {mx:Bool} {ks:List KX} {n:Int} (ho:o.op= .call c) (hc:c.callee= .builtin (if mx then .max else .min)) (hx:c.args.toList.mapM kx=some ks) (hr:Rel F N0 T pl st a w) (h:zB6 mx (ks.map st.eval)=some n):
  Runs1 P o a w (Post F N0 pl st w (.c (.p (.i .i64 n))) st):=by
 obtain ⟨hl,hk⟩:=zAG hx
 have hvals:∀(l:List Operand) (ks:List KX),ks.length=l.length→(∀(i:Nat) x y,l[i]?=some x→ks[i]?=some y→kx x=some y)→∀x n,zB6.go mx x (ks.map st.eval)=some n→
   ((l.map a.eval).foldlM (if mx then Builtin.max2 else Builtin.min2) (.int .i64 x)).run P w= .ok (.int .i64 n) w:=by
  intro l
  induction l with
  |nil=>
   intro ks hl _ x n h
   have:ks= []:=zAQ hl
   subst this
   simp only [List.map_nil,zB6.go,zM] at h
   subst h
   simp
  |cons y l ih=>
   intro ks hl hk x n h
   match ks,hl,hk,h with
   |k::ks,hl,hk,h=>
    simp only [List.map_cons,zB6.go] at h
    obtain ⟨m,hm,h⟩:=Option.bind_eq_some_iff.1 h
    have e1:=zAT hm (zD hr (hk 0 y k rfl rfl))
    have:=ih ks (by simpa using hl) (fun i x y hx hy=>hk (i+1) x y hx hy) _ n h
    cases mx
    ·simpa [List.foldlM_cons,e1,Builtin.min2] using this
    ·simpa [List.foldlM_cons,e1,Builtin.max2] using this
 have key:((if mx then Builtin.max_ else Builtin.min_) c.argTypes o.type (c.args.map a.eval)).run P w= .ok (.int .i64 n) w:=by
  have hal:(c.args.map a.eval).toList=c.args.toList.map a.eval:=by simp
  match hlist:c.args.toList,ks,hl,hk,h with
  | [],[],_,_,h=>simp [zB6] at h
  |y::l,k::ks,hl,hk,h=>
   simp only [List.map_cons,zB6] at h
   obtain ⟨m,hm,h⟩:=Option.bind_eq_some_iff.1 h
   have e1:=zAT hm (zD hr (hk 0 y k rfl rfl))
   have:=hvals l ks (by simpa using hl) (fun i x y hx hy=>hk (i+1) x y hx hy) _ n h
   rw [hlist,List.map_cons,e1] at hal
   cases mx
   ·simp only [Bool.false_eq_true,if_false] at this⊢
    simp only [Builtin.min_,hal]
    exact this
   ·simp only [if_true] at this⊢
    simp only [Builtin.max_,hal]
    exact this
 refine zU (u:= .int .i64 n) (w':=w) ?_ (zI hr (.i _ _))
 cases mx
 ·simp only [Bool.false_eq_true,if_false] at hc key
  simp only [execOp,ho,resolve,hc,invoke,builtin,Sem.run_bind,Sem.run_pure,Result.andThen_ok,key]
 ·simp only [if_true] at hc key
  simp only [execOp,ho,resolve,hc,invoke,builtin,Sem.run_bind,Sem.run_pure,Result.andThen_ok,key]
theorem zHY:∀(n:Nat) (t:TypeId) (tags:List Nat),zHt P n t=some tags→zLM P w F fs pl t tags n∧∃g,zAi P t=some g∧(g=false→tags.length=1)
 |0,t,tags,h=>by simp [zHt] at h
 |n+1,t,tags,h=>by
  have basic:∀g cs A,zBW g cs=some A→zAi P t=some g→g=false→∃x,cs= [x]∧A= .c x:=by
   rintro g cs A hA _ rfl
   unfold zBW at hA
   split at hA
   ·rename_i h';cases h'
   ·cases hA;exact ⟨_,rfl,rfl⟩
   ·cases hA
  have one:∀k cs ds r,eqC [k] cs ds=some r→∃p q,cs= [.p p]∧ds= [.p q]∧eqP k p q=some r:=by
   intro k cs ds r hr
   unfold eqC at hr
   split at hr
   ·rename_i h';cases h'
   ·rename_i h'
    cases h'
    obtain ⟨e,he,hr⟩:=Option.bind_eq_some_iff.1 hr
    obtain ⟨f,hf,rfl⟩:=Option.map_eq_some_iff.1 hr
    obtain ⟨l1,l2⟩:=zFL hf
    have h1:=zAQ l1
    have h2:=zAQ l2
    subst h1;subst h2
    cases hf
    exact ⟨_,_,rfl,rfl,by simpa using he⟩
   ·cases hr
  simp only [zHt] at h
  split at h
  ·rename_i hu
   cases h
   have hag:zAi P t=some false:=by simp [zAi,hu]
   refine ⟨fun d hd g cs ds A B x y r hg hA hB hx hy hr=>?_,false,hag,fun _=>rfl⟩
   rw [hag] at hg;cases hg
   obtain ⟨p,q,rfl,rfl,hpq⟩:=one _ _ _ _ hr
   cases hA;cases hB
   obtain ⟨d,rfl⟩:∃k,d=k+1:=⟨d-1,by omega⟩
   have hx:=zAe hx
   have hy:=zAe hy
   obtain ⟨x',y',rfl,rfl,rfl⟩:=zLU hpq
   cases hx;cases hy
   simp [Op.equalIn,run_underlying hu]
  ·rename_i k hu
   cases h
   have hag:zAi P t=some false:=by simp [zAi,hu]
   refine ⟨fun d hd g cs ds A B x y r hg hA hB hx hy hr=>?_,false,hag,fun _=>rfl⟩
   rw [hag] at hg;cases hg
   obtain ⟨p,q,rfl,rfl,hpq⟩:=one _ _ _ _ hr
   cases hA;cases hB
   obtain ⟨d,rfl⟩:∃k,d=k+1:=⟨d-1,by omega⟩
   have hx:=zAe hx
   have hy:=zAe hy
   obtain ⟨k',x',y',rfl,rfl,rfl⟩:=zLV hpq
   cases hx;cases hy
   simp [Op.equalIn,run_underlying hu]
  ·rename_i hu
   cases h
   have hag:zAi P t=some false:=by simp [zAi,hu]
   refine ⟨fun d hd g cs ds A B x y r hg hA hB hx hy hr=>?_,false,hag,fun _=>rfl⟩
   rw [hag] at hg;cases hg
   obtain ⟨p,q,rfl,rfl,hpq⟩:=one _ _ _ _ hr
   cases hA;cases hB
   obtain ⟨d,rfl⟩:∃k,d=k+1:=⟨d-1,by omega⟩
   have hx:=zAe hx
   have hy:=zAe hy
   obtain ⟨x',y',rfl,rfl,rfl⟩:=zLW hpq
   cases hx;cases hy
   exact run_equalIn_string w d t _ _ hu
  ·rename_i fds hu
   split at h
   ·cases h
   ·rename_i hst
    have hst:P.stoodInHeld t=false:=by simpa using hst
    have hag:zAi P t=some true:=by simp [zAi,hu]
    refine ⟨fun d hd g cs ds A B x y r hg hA hB hx hy hr=>?_,true,hag,fun h=>by cases h⟩
    rw [hag] at hg;cases hg
    cases hA;cases hB
    obtain ⟨d,rfl⟩:∃k,d=k+1:=⟨d-1,by omega⟩
    obtain ⟨us,rfl,hus⟩:=hx
    obtain ⟨vs,rfl,hvs⟩:=hy
    have hfo:P.fieldsOf t=fds:=by simp [Program.fieldsOf,hu]
    rw [run_equalIn_struct w d t _ _ (by rw [hfo];exact hu) hst,hfo]
    exact zHX (n:=n) (by omega) (fun t' tags' h'=>zHY n t' tags' h') hus hvs _ 0 _ r h (by simpa using hr)
  ·cases h
theorem zK1 {o:Oper} {op:BinOp} {xt yt:TypeId} {x y:Operand} {kx' ky:KX} {tags:List Nat} {cs ds:List CV} {r:Bool} (ho:o.op= .binOp op xt x y yt) (hop:op= .eql∨op= .neq) (hg:P.eqGuardType P.depth xt=false) (ht:zHt P 20 xt=some tags) {fds:Array Field} (hu:P.underlying xt=some (.struct fds)) (hx:kx x=some kx') (hy:kx y=some ky) (hr:Rel F N0 T pl st a w)
  (h1:st.eval kx'= .agg cs) (h2:st.eval ky= .agg ds) (h:eqC tags cs ds=some r):Runs1 P o a w (Post F N0 pl st w (.c (.p (.b (if op== .neq then !r else r)))) st):=by
 have e1:=zD hr hx
 have e2:=zD hr hy
 rw [h1] at e1
 rw [h2] at e2
 have hag:zAi P xt=some true:=by simp [zAi,hu]
 have hE:=(zHY (w:=w) (F:=F) (fs:=st.fr::st.up) (pl:=pl) 20 xt tags ht).1 10000 (by omega) true cs ds _ _ _ _ r hag rfl rfl e1 e2 h
 obtain ⟨us,e1,_⟩:=e1
 obtain ⟨vs,e2,_⟩:=e2
 rw [e1,e2] at hE
 refine zU (u:= .bool (if op== .neq then !r else r)) (w':=w) ?_ (zI hr (.b _))
 refine zp (u:= .agg us.toArray) (v:= .agg vs.toArray) (run_eqGuard_agg w op xt x y _ _ hg) ?_ ho e1 e2
 rcases hop with rfl|rfl
 ·rw [run_eql_struct,hE];rfl
 ·rw [run_neq_struct,hE];rfl
end
end Go.Eng

