import Derived.Test.YtilkdjfhbahhdaaE7
import Derived.Laws.StructEq
import Derived.Laws.BytesArg
set_option linter.unusedVariables false
set_option linter.unusedSimpArgs false
namespace Go.Eng
open Go.RowKit
section
variable {P:Program} {F:Nat→Prop} {G:Nat→Option Obj} {N0:Base G} {T:Nat} {pl pl':Pl} {st st':St} {a:Act} {w w':World} {fs fs':List Frame}
theorem zCw {o:Oper} {R:Value→World→Prop} {w':World} (h:(execOp a.eval o).run P w= .ok .skip w') (hr:R undef w'):Runs1 P o a w R:=by
 intro next hn
 unfold Oper.wp
 rw [h]
 exact hn undef w' hr
theorem zAe {v:Value} {x:PV} (h:zd F fs pl w v (.c (.p x))):RepP (Own F pl) w v x:=h
theorem zIw {o:Oper} {t:TypeId} {x y:Operand} {kx' ky:KX} (ho:o.op= .store t x y) (hx:kx x=some kx') (hy:kx y=some ky) (hi:∃i,P.info? t=some i) (hr:Rel F N0 T pl st a w)
  (ht:∀vs,st.eval ky≠ .tup vs) (hl:(st.eval ky).cvs.length=P.cellsOf t) (hk:(st.eval ky).cvs.all (·.known)=true) (hw:st.write (st.eval kx') (st.eval ky).cvs=some st'):Runs1 P o a w (fun u w'=>Post F N0 pl st w (.c .u) st' u w'∧KeepB (fun b=>∃ad:Addr,a.eval x= .pointer (some ad)∧b≠ad.block) w w'):=by
 obtain ⟨i,hi⟩:=hi
 have hc:=zAb (zD hr hy) ht hk
 obtain ⟨ad,w',pl',h1,h2,h3,h4,h5,h6⟩:=zDv (P:=P) hr.mem hr.low hw (zD hr hx) hc
 refine zCw (w':=w') ?_ ⟨⟨⟨pl',trivial,h3,h4⟩,h5⟩,h6.sub fun b ⟨ad',e,hb⟩=>by rw [h1] at e;cases e;exact hb⟩
 have hsz:(a.eval y).cells.size=P.cellsOf t:=by rw [←hl,←hc.1];simp
 simp [execOp,ho,Instr.storeAt,h1,Instr.sureAddr,storeVar,run_sizeOf _ hi,hsz,h2]
theorem zAf {op:BinOp} {t:TypeId} {x y:Operand} {u v:Value} (h1:u≠ .nilIface∨v≠ .nilIface) (h2:∀cs,u≠ .agg cs):(eqGuard op t x y u v).run P w= .ok () w:=by
 unfold eqGuard
 cases op<;>simp
 all_goals
  split
  ·simp at h1
  ·exact absurd rfl (h2 _)
  ·rfl
theorem zp {op:BinOp} {t:TypeId} {x y:Operand} {u v r:Value} (hg:(eqGuard op t x y u v).run P w= .ok () w) (hb:(binOp op t u v).run P w= .ok r w) {o:Oper} {yt:TypeId} (ho:o.op= .binOp op t x y yt) (hx:a.eval x=u) (hy:a.eval y=v):
  (execOp a.eval o).run P w= .ok (.value r) w:=by
 simp only [execOp,ho,hx,hy,Sem.run_bind,hg,hb,Result.andThen_ok,Sem.run_pure]
theorem zKw {o:Oper} {op:BinOp} {xt yt:TypeId} {x y:Operand} {kx' ky:KX} {p q r:PV} (ho:o.op= .binOp op xt x y yt) (hx:kx x=some kx') (hy:kx y=some ky) (hr:Rel F N0 T pl st a w)
  (h1:st.eval kx'= .c (.p p)) (h2:st.eval ky= .c (.p q)) (hb:zGb op p q=some r):Runs2 P noB o a w (Post F N0 pl st w (.c (.p r)) st):=by
 have e1:=zD hr hx
 have e2:=zD hr hy
 rw [h1] at e1
 rw [h2] at e2
 replace e1:=zAe e1
 replace e2:=zAe e2
 cases p with
 |i k n=>
  cases q with
  |i k' m=>
   simp only [zGb] at hb
   split at hb
   ·rename_i ek
    subst ek
    generalize hvx:a.eval x=vx at*
    generalize hvy:a.eval y=vy at*
    cases e1;cases e2
    obtain ⟨u,h3,h4⟩:=zIq (P:=P) (t:=xt) hb
    exact zT (fun w' hg'=>zp (zAf (.inl (by simp)) (by simp)) (h3 w') ho hvx hvy) (zI hr (h4 _ _))
   ·cases hb
  |_=>cases hb
 |s t=>
  cases q with
  |s t'=>
   simp only [zGb] at hb
   generalize hvx:a.eval x=vx at*
   generalize hvy:a.eval y=vy at*
   cases e1;cases e2
   obtain ⟨u,h3,h4⟩:=zIr (P:=P) (t:=xt) hb
   exact zT (fun w' hg'=>zp (zAf (.inl (by simp)) (by simp)) (h3 w') ho hvx hvy) (zI hr (h4 _ _))
  |_=>cases hb
 |_=>cases q<;>cases hb
theorem zKx {o:Oper} {op:BinOp} {xt yt:TypeId} {x y:Operand} {kx' ky:KX} {p q:Bool} (ho:o.op= .binOp op xt x y yt) (hu:P.underlying xt=some .bool) (hop:op= .eql∨op= .neq) (hx:kx x=some kx') (hy:kx y=some ky) (hr:Rel F N0 T pl st a w)
  (h1:st.eval kx'= .c (.p (.b p))) (h2:st.eval ky= .c (.p (.b q))):Runs2 P noB o a w (Post F N0 pl st w (.c (.p (.b (if op== .neq then !(p==q) else p==q)))) st):=by
 have e1:=zD hr hx
 have e2:=zD hr hy
 rw [h1] at e1
 rw [h2] at e2
 have e1:=zDr e1
 have e2:=zDr e2
 refine zT (u:= .bool (if op== .neq then !(p==q) else p==q)) (fun w' hg'=>zp (zAf (.inl (by simp)) (by simp)) ?_ ho e1 e2) (zI hr (.b _))
 rcases hop with rfl|rfl
 ·simp [binOp,Op.equal,Op.maxDepth,run_equalIn_bool _ 9999 xt p q hu]
 ·simp [binOp,Op.equal,Op.maxDepth,run_equalIn_bool _ 9999 xt p q hu]
theorem zHP {o:Oper} {op:BinOp} {xt yt:TypeId} {ms:Array (String×TypeId)} {x:Operand} {kx':KX} {r:Bool} (ho:o.op= .binOp op xt x (.const .nilIface) yt) (hu:P.underlying xt=some (.interface ms)) (hop:op= .eql∨op= .neq) (hx:kx x=some kx') (hr:Rel F N0 T pl st a w)
  (h1:(st.eval kx'= .c (.p .nif)∧r=!(op== .neq))∨(st.eval kx'= .c (.p .ifc)∧r=(op== .neq))):Runs2 P noB o a w (Post F N0 pl st w (.c (.p (.b r))) st):=by
 have e1:=zD hr hx
 rcases h1 with ⟨h1,rfl⟩|⟨h1,rfl⟩
 ·rw [h1] at e1
  have e1:=zAe e1
  generalize hvx:a.eval x=vx at*
  cases e1
  refine zT (u:= .bool (!(op== .neq))) (fun w' hg'=>zp (v:= .nilIface) ?_ ?_ ho hvx rfl) (zI hr (.b _))
  ·rcases hop with rfl|rfl<;>simp [eqGuard]
  ·have hm:P.underlying xt=some (.interface (P.methodsAt xt)):=by simp [Program.methodsAt,hu]
   rcases hop with rfl|rfl
   ·rw [run_eql_nil_nil _ xt hm];rfl
   ·rw [run_neq_nil_nil _ xt hm];rfl
 ·rw [h1] at e1
  have e1:=zAe e1
  generalize hvx:a.eval x=vx at*
  cases e1
  refine zT (u:= .bool (op== .neq)) (fun w' hg'=>zp (v:= .nilIface) (zAf (.inl (by simp)) (by simp)) ?_ ho hvx rfl) (zI hr (.b _))
  have hm:P.underlying xt=some (.interface (P.methodsAt xt)):=by simp [Program.methodsAt,hu]
  rcases hop with rfl|rfl
  ·rw [run_eql_held_nil _ xt _ _ hm];rfl
  ·rw [run_neq_held_nil _ xt _ _ hm];rfl
theorem zLL {o:Oper} {op:UnOp} {t:TypeId} {x:Operand} {k:KX} {p r:PV} (ho:o.op= .unOp op t x) (hx:kx x=some k) (hr:Rel F N0 T pl st a w) (h1:st.eval k= .c (.p p)) (hb:unP op p=some r):Runs2 P noB o a w (Post F N0 pl st w (.c (.p r)) st):=by
 have e1:=zD hr hx
 rw [h1] at e1
 cases p with
 |b v=>
  cases op<;>simp only [unP] at hb<;>cases hb
  have e1:=zDr e1
  exact zT (u:= .bool !v) (fun w' hg'=>by simp [execOp,ho,e1,Op.unary]) (zI hr (.b _))
 |i k n=>
  cases op<;>simp only [unP] at hb<;>cases hb
  have e1:=zIp e1
  exact zT (u:= .int k (k.wrap (0-n))) (fun w' hg'=>by simp [execOp,ho,e1,Op.unary,Op.intArith]) (zI hr (.i _ _))
 |_=>cases op<;>cases hb
theorem zJ8 {o:Oper} {src dst:TypeId} {k k':IntKind} {q:IntKind} {n:Int} {x:Operand} {kk:KX} (ho:o.op= .convert src dst x) (hs:P.underlying src=some (.int k')) (hd:P.underlying dst=some (.int k)) (hx:kx x=some kk) (hr:Rel F N0 T pl st a w)
  (h1:st.eval kk= .c (.p (.i q n))):Runs2 P noB o a w (Post F N0 pl st w (.c (.p (.i k (k.wrap n)))) st):=by
 have e1:=zD hr hx
 rw [h1] at e1
 have e1:=zIp e1
 exact zT (u:= .int k (k.wrap n)) (fun w' hg'=>by simp [execOp,ho,e1,convert,run_underlying hs,run_underlying hd,Conv.intToInt]) (zI hr (.i _ _))
theorem zIx {o:Oper} {src dst:TypeId} {x:Operand} {kk:KX} {s:ByteArray} (ho:o.op= .convert src dst x) (hs:P.underlying src=some .string) (hd:P.underlying dst=some .string) (hx:kx x=some kk) (hr:Rel F N0 T pl st a w)
  (h1:st.eval kk= .c (.p (.s s))):Runs2 P noB o a w (Post F N0 pl st w (.c (.p (.s s))) st):=by
 have e1:=zD hr hx
 rw [h1] at e1
 have e1:=zHK e1
 exact zT (u:= .string s) (fun w' hg'=>by simp [execOp,ho,e1,convert,run_underlying hs,run_underlying hd]) (zI hr (.s _))
theorem zGn {o:Oper} {x:Operand} {k:KX} {v:AV} (ho:o.op= .nilCheck x) (hx:kx x=some k) (hr:Rel F N0 T pl st a w)
  (h:(∃e q,st.eval k= .c (.rp e q)∧v= .c (.rp e q))∨(∃f cs,st.eval k= .c (.fn f cs)∧v= .c (.fn f cs))∨(∃d n g j q B,st.eval k= .c (.ptr d n g j q)∧v= .c (.ptr d n g j q)∧st.get d n=some B∧B.g=g∧q≠KO)):
  Runs2 P noB o a w (Post F N0 pl st w v st):=by
 have e1:=zD hr hx
 refine zT (u:=a.eval x) (fun w' hg'=>?_) (zI hr ?_)
 ·rcases h with ⟨e,q,h1,rfl⟩|⟨f,cs,h1,rfl⟩|⟨d,n,g,j,q,B,h1,rfl,hB,hg,hko⟩
  ·rw [h1] at e1
   obtain ⟨ad,h2,_⟩:=e1
   simp [execOp,ho,h2]
  ·rw [h1] at e1
   obtain ⟨vals,h2,_⟩:=e1
   simp [execOp,ho,h2]
  ·rw [h1] at e1
   obtain ⟨_,B',h2,_,h3⟩:=e1
   have:B'=B:=by
    have hB':zB d n (st.fr::st.up)=some B:=hB
    rw [hB'] at h2;cases h2;rfl
   subst this
   obtain ⟨b,s,_,⟨_,h4⟩|⟨hk2,_⟩⟩:=h3 hg.symm
   rotate_left
   ·exact absurd hk2 hko
   simp [execOp,ho,h4]
 ·rcases h with ⟨e,q,h1,rfl⟩|⟨f,cs,h1,rfl⟩|⟨d,n,g,j,q,B,h1,rfl,hB,hg,hko⟩<;>rw [h1] at e1<;>exact e1
theorem zFt {o:Oper} {s:TypeId} {x:Operand} {k:KX} {i:Nat} {fs:Array Field} {f:Field} {v:AV} (ho:o.op= .fieldAddr s x i) (hu:P.underlying s=some (.struct fs)) (hf:fs[i]?=some f) (hz:P.cellsOf f.type≠0) (hx:kx x=some k) (hr:Rel F N0 T pl st a w)
  (h:(∃e q,st.eval k= .c (.rp e q)∧v= .c (.rp e (q+f.offset)))∨(∃d n g j q B,st.eval k= .c (.ptr d n g j q)∧v= .c (.ptr d n g j (q+f.offset))∧st.get d n=some B∧B.g=g∧q≠KO∧q+f.offset≠KO)):
  Runs2 P noB o a w (Post F N0 pl st w v st):=by
 have e1:=zD hr hx
 obtain ⟨inf,hinf⟩:∃inf,P.info? f.type=some inf:=by
  cases hi:P.info? f.type with
  |some inf=>exact ⟨inf,rfl⟩
  |none=>simp [Program.cellsOf,hi] at hz
 have hrun:∀ad:Addr,a.eval x= .pointer (some ad)→∀w,(execOp a.eval o).run P w= .ok (.value (.pointer (some (ad.add f.offset)))) w:=by
  intro ad e w
  simp [execOp,ho,e,Instr.fieldAt,run_underlying hu,hf,Instr.sureAddr,fieldPlace,run_sizeOf _ hinf,hz]
 rcases h with ⟨e,q,h1,rfl⟩|⟨d,n,g,j,q,B,h1,rfl,hB,hg,hko,hko2⟩
 ·rw [h1] at e1
  obtain ⟨ad,h2,h3,h4⟩:=e1
  have:=hrun (ad.add q) h2
  exact zT (fun w' hg'=>this w') (zI hr ⟨ad,by rw [zBd],h3,h4⟩)
 ·rw [h1] at e1
  obtain ⟨_,B',h2,hle,h3⟩:=e1
  have:B'=B:=by
   have hB':zB d n (st.fr::st.up)=some B:=hB
   rw [hB'] at h2;cases h2;rfl
  subst this
  obtain ⟨b,s',h5,⟨_,h4⟩|⟨hk2,_⟩⟩:=h3 hg.symm
  rotate_left
  ·exact absurd hk2 hko
  have:=hrun ⟨b,j*B'.sz+q,none⟩ h4
  exact zT (fun w' hg'=>this w') (zI hr ⟨rfl,B',h2,hle,fun _=>⟨b,s',h5,.inl ⟨hko2,by rw [zAV,Nat.add_assoc]⟩⟩⟩)
end
end Go.Eng

