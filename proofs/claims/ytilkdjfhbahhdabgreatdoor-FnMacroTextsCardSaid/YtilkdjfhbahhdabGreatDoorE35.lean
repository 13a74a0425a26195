import Derived.Test.YtilkdjfhbahhdabGreatDoorE32
import Derived.Shelf.Strconv.Itoa4
import Derived.Shelf.Strconv.ParseIntPublic10
import Derived.Shelf.Small.Wraps
import Derived.Shelf.Strings.SlTrimAscii
import Derived.Shelf.Strings.OnBuilder
import Derived.Shelf.Strings.Replace
import Derived.Shelf.Strings.Cut
import Derived.HandedShaped
import Derived.Lib.LaidTab
import Derived.Stop.LaidErr
import Derived.JoinedOf
import Derived.Shelf.Strings.Builder1
import Derived.Shelf.Strings.SplitShaped
set_option linter.unusedVariables false
namespace Go.Eng
open Go.Shelf Go.RowKit Go.Proofs
section
variable {P:Program} {G:Nat->Option Obj} {ρ:Ren} {F:Nat->Prop} {fs:List Frame} {pl:Pl} {w:World}
def eS (G:Nat->Option Obj) (P:Program) (f:FuncId) (q:List AV->Option AV):Prop:=
 ∀args v,q args=some v->(∀c∈v.cvs,∃p,c= .p p)/\∀F (N0:Base G) up pl w vals,MemOK F N0 up pl w->N0.n<=w.heap.size->cA F up pl w vals args->Goes P f vals.toArray w λu w'=>Step cE w w'/\zf F up pl w' u v
def B5:zo:=λ_ _ _=>none
def cX (f:FuncId) (q:List AV->Option AV) (r:zo):zo:=λg xs up=>if g=f then tH q xs up else r g xs up
def jT (f:FuncId) (q:List AV->List Frame->Option Res) (r:zo):zo:=λg xs up=>if g=f then q xs up else r g xs up
theorem AA:lJ G P B5:=λf args up r h=>by cases h
def vU (G:Nat->Option Obj) (P:Program) (f:FuncId) (q:List AV->List Frame->Option Res):Prop:=
 ∀args up r,q args up=some r->∀F (N0:Base G) pl w vals,MemOK F N0 up pl w->N0.n<=w.heap.size->cA F up pl w vals args->Goes P f vals.toArray w (RetOK F N0 up pl w r)
theorem lO {f:FuncId} {q:List AV->List Frame->Option Res} {r:zo} (h1:vU G P f q) (h2:lJ G P r):lJ G P (jT f q r):=by
 intro g args up v h;unfold jT at h;split at h
 ·rename_i e;subst e;exact h1 args up v h
 ·exact h2 g args up v h
theorem bO {f:FuncId} {q:List AV->Option AV} {r:zo} (h1:eS G P f q) (h2:lJ G P r):lJ G P (cX f q r):=by
 intro g args up x h;unfold cX at h;split at h
 ·rename_i e;subst e;intro F N0 pl w vals hm hN hv;obtain ⟨v,h3,rfl⟩:=zD.1 h;obtain ⟨hp,hg⟩:=h1 args v h3;exact (hg F N0 up pl w vals hm hN hv).mono λu w' ⟨hs,hr'⟩=>BW hp hm hs hr'
 ·exact h2 g args up x h
theorem zM {us:List Value} {x:AV} {xs:List AV} (h:cA F fs pl w us (x::xs)):∃u r,us=u::r/\zf F fs pl w u x/\cA F fs pl w r xs:=by
 obtain ⟨h1,h2⟩:=h;cases us with
 |nil=>simp at h1
 |cons u r=>exact ⟨u,r,rfl,h2 0 u x rfl rfl,by simpa using h1,λi a b ha hb=>h2 (i+1) a b (by simpa using ha) (by simpa using hb)⟩
theorem aT {us:List Value} (h:cA F fs pl w us []):us= []:=bR h.1
theorem bU {u:Value} {b:ByteArray} (h:zf F fs pl w u (.c (.p (.s b)))):u= .string b:=by
 have h:RepP _ w u (.s b):=h;cases h;rfl
theorem fM {u:Value} {k:IntKind} {n:Int} (h:zf F fs pl w u (.c (.p (.i k n)))):u= .int k n:=by
 have h:RepP _ w u (.i k n):=h;cases h;rfl
theorem gK {a b:Value} {p q:PV} (h1:RepP (Own F pl) w a p) (h2:RepP (Own F pl) w b q):zf F fs pl w (.tuple #[a,b]) (.tup [(false,[.p p]),(false,[.p q])]):=by
 refine ⟨[a,b],rfl,rfl,λi u c hu hc=> .inr ?_⟩
 match i with
 |0=>cases hu;cases hc;exact ⟨rfl,_,rfl,h1⟩
 |1=>cases hu;cases hc;exact ⟨rfl,_,rfl,h2⟩
 |i+2=>simp at hu
theorem cG {f:FuncId} {vals:Array Value} {R:Value->World->Prop} (hf:Enters P f) (h:Calls P f vals w λe w'=>∃u,e= .returned u/\R u w'):Goes P f vals w R:= .inr ⟨hf vals w,h⟩
theorem cQ {w':World} (h:Below w.heap.size w w'):Step cE w w':=⟨h.os,h.tape,h.output,h.size,λk hk _=>h.block k hk⟩
theorem AB (k:Nat) (os:Array Obj):Step cE w (Sort.grow (w.drewN k) os):=⟨rfl,rfl,rfl,by simp [Sort.grow],λk hk _=>by simp [Sort.grow,Array.getElem?_append_left,hk]⟩
def aO (x b:Int):Option ByteArray:=if b=10/\-9223372036854775808<=x/\x<=9223372036854775807 then some ⟨(Lib.itoa x).toArray⟩ else none
def bI:List AV->Option AV
 | [.c (.p (.i .i64 x)),.c (.p (.i .i64 b))]=>(aO x b).map λr=> .c (.p (.s r))
 |_=>none
theorem gL (L : LaysM.n173 P ρ) (hT : ∀ w : World, (∀ k o, G k = some o → w.heap[k]? = some o) → Lib.TabIs P w "internal/strconv.uint64pow10" .u64 Lib.pow10Tab) : eS G P (ρ.f 173) bI := by
 intro args v h;unfold bI at h;split at h
 ·obtain ⟨r,h1,rfl⟩:=zD.1 h;unfold aO at h1;split at h1
  ·rename_i hc;cases h1;refine ⟨λc hc=>⟨_,by simpa [AV.cvs] using hc⟩,λF N0 up pl w vals hm hN hv=>?_⟩;obtain ⟨u,r1,rfl,hu,hv⟩:=zM hv;obtain ⟨u',r2,rfl,hu',hv⟩:=zM hv;obtain rfl:=aT hv;obtain rfl:=fM hu;obtain rfl:=fM hu';obtain ⟨rfl,h2,h3⟩:=hc;exact cG (enters_of L.f173 (by kernel_rfl) rfl) ((Any.strconv_FormatInt_10 L _ h2 h3 w (hT w λk o h=>(hm.fix k o h).2)).mono λe w' ⟨he,k,os,hw⟩=>⟨_,he,by rw [hw];exact AB k os,.s _⟩)
  ·cases h1
 ·cases h
def zN (s:ByteArray) (b k:Int):Option (Int⊕Int):=if b=10/\k=64/\s.size<=281474976710656 then (match Lib.parseIntB 64 s.data.toList with
 | .ok v=>some (.inl v)
 | .range=>some (.inr (Lib.intSat 64 s.data.toList))
 |_=>some (.inr 0)) else none
def bV:Int⊕Int->AV
 | .inl v=> .tup [(false,[.p (.i .i64 v)]),(false,[.p .nif])]
 | .inr v=> .tup [(false,[.p (.i .i64 v)]),(false,[.p .ifc])]
def bP:List AV->Option AV
 | [.c (.p (.s s)),.c (.p (.i .i64 b)),.c (.p (.i .i64 k))]=>(zN s b k).map bV
 |_=>none
def ErrCell (G:Nat->Option Obj) (g:Nat):Prop:=∀w:World,(∀k o,G k=some o->w.heap[k]?=some o)->∃ev,w.cell? ⟨g,0,none⟩=some ev/\(ev= .nilIface\/∃te pe,ev= .iface te pe)
theorem hH (L:LaysC.n174 P ρ) (h15:ErrCell G (ρ.g 15)) (h16:ErrCell G (ρ.g 16)):eS G P (ρ.f 174) bP:=by
 intro args v h;unfold bP at h;split at h
 ·rename_i s b k;obtain ⟨r,h1,rfl⟩:=zD.1 h;unfold zN at h1;split at h1
  ·rename_i hc;obtain ⟨rfl,rfl,hs⟩:=hc;have hcv:∀(n:Int) (q:PV),∀c∈(AV.tup [(false,[.p (.i .i64 n)]),(false,[.p q])]).cvs,∃p,c= .p p:=λn q c hc=>by
    simp only [AV.cvs,List.flatMap_cons,List.flatMap_nil,List.append_nil,List.cons_append,List.nil_append,zamT,List.not_mem_nil,or_false] at hc;rcases hc with rfl|rfl<;>exact ⟨_,rfl⟩
   rcases hx:Lib.parseIntB 64 s.data.toList with x|_|_
   ·rw [hx] at h1;cases h1;refine ⟨hcv _ _,λF N0 up pl w vals hm hN hv=>?_⟩;obtain ⟨u,r1,rfl,hu,hv⟩:=zM hv;obtain ⟨u',r2,rfl,hu',hv⟩:=zM hv;obtain ⟨u'',r3,rfl,hu'',hv⟩:=zM hv;obtain rfl:=aT hv;obtain rfl:=bU hu;obtain rfl:=fM hu';obtain rfl:=fM hu'';refine cG (enters_of L.f174 (by kernel_rfl) rfl) ((Any.strconv_ParseInt_10_at64_ok L _ (by omega) _ hx w).mono λe w' ⟨he,hw⟩=>⟨_,he,?_,gK (.i _ _) .nif⟩);rcases hw with rfl|⟨t,rfl⟩
    ·exact ⟨rfl,rfl,rfl,zH _,λ_ _ _=>rfl⟩
    ·exact cQ (Lib.bytesWorld_below _ _ _)
   ·rw [hx] at h1;cases h1;refine ⟨hcv _ _,λF N0 up pl w vals hm hN hv=>?_⟩;obtain ⟨u,r1,rfl,hu,hv⟩:=zM hv;obtain ⟨u',r2,rfl,hu',hv⟩:=zM hv;obtain ⟨u'',r3,rfl,hu'',hv⟩:=zM hv;obtain rfl:=aT hv;obtain rfl:=bU hu;obtain rfl:=fM hu';obtain rfl:=fM hu'';obtain ⟨ev,e1,e2⟩:=h15 w λk o h=>(hm.fix k o h).2
    exact cG (enters_of L.f174 (by kernel_rfl) rfl) ((Any.strconv_ParseInt_10_at64_syntax L _ hs hx ev w e1 e2).mono λe w' ⟨N,he,_,_,hb⟩=>⟨_,he,cQ hb,gK (.i _ _) (.ifc _ _)⟩)
   ·rw [hx] at h1;cases h1;refine ⟨hcv _ _,λF N0 up pl w vals hm hN hv=>?_⟩;obtain ⟨u,r1,rfl,hu,hv⟩:=zM hv;obtain ⟨u',r2,rfl,hu',hv⟩:=zM hv;obtain ⟨u'',r3,rfl,hu'',hv⟩:=zM hv;obtain rfl:=aT hv;obtain rfl:=bU hu;obtain rfl:=fM hu';obtain rfl:=fM hu'';obtain ⟨ev,e1,e2⟩:=h16 w λk o h=>(hm.fix k o h).2
    exact cG (enters_of L.f174 (by kernel_rfl) rfl) ((Any.strconv_ParseInt_10_at64_range L _ hs hx ev w e1 e2).mono λe w' ⟨N,he,_,_,hb⟩=>⟨_,he,cQ hb,gK (.i _ _) (.ifc _ _)⟩)
  ·cases h1
 ·cases h
def zy (s p:ByteArray):Option (ByteArray×Bool):=some (⟨(Lib.trimPrefix s.data.toList p.data.toList).toArray⟩,Lib.hasPrefix s.data.toList p.data.toList)
def bJ:List AV->Option AV
 | [.c (.p (.s s)),.c (.p (.s p))]=>(zy s p).map λr=> .tup [(false,[.p (.s r.1)]),(false,[.p (.b r.2)])]
 |_=>none
theorem gM (L:Lays.n103 P ρ):eS G P (ρ.f 103) bJ:=by
 intro args v h;unfold bJ at h;split at h
 ·cases h;refine ⟨λc hc=>?_,λF N0 up pl w vals hm hN hv=>?_⟩
  ·simp only [AV.cvs,List.flatMap_cons,List.flatMap_nil,List.append_nil,List.cons_append,List.nil_append,zamT,List.not_mem_nil,or_false] at hc;rcases hc with rfl|rfl<;>exact ⟨_,rfl⟩
  obtain ⟨u,r1,rfl,hu,hv⟩:=zM hv;obtain ⟨u',r2,rfl,hu',hv⟩:=zM hv;obtain rfl:=aT hv;obtain rfl:=bU hu;obtain rfl:=bU hu';exact cG (enters_of L.f103 (by kernel_rfl) rfl) ((Any.strings_CutPrefix L _ _ w).mono λe w' ⟨he,hw⟩=>⟨_,he,by rw [hw];exact ⟨rfl,rfl,rfl,zH _,λ_ _ _=>rfl⟩,gK (.s _) (.b _)⟩)
 ·cases h
def za (s p:ByteArray):Option ByteArray:=if p.size<4294967281/\p.data.toList.all (λb=>decide (b.toNat<128))=true then some ⟨(Lib.trimLeftS s.data.toList p.data.toList).toArray⟩ else none
def bQ:List AV->Option AV
 | [.c (.p (.s s)),.c (.p (.s p))]=>(za s p).map λr=> .c (.p (.s r))
 |_=>none
theorem hI (L:Lays.n161 P ρ) (h116:(P.info? (ρ.t 116)).map (λi=>(i.zero,i.size))=some (some (.agg (Array.replicate 256 (.bool false))),256)):eS G P (ρ.f 161) bQ:=by
 intro args v h;unfold bQ at h;split at h
 ·obtain ⟨r,h1,rfl⟩:=zD.1 h;unfold za at h1;split at h1
  ·rename_i hc;cases h1;refine ⟨λc hc=>⟨_,by simpa [AV.cvs] using hc⟩,λF N0 up pl w vals hm hN hv=>?_⟩;obtain ⟨u,r1,rfl,hu,hv⟩:=zM hv;obtain ⟨u',r2,rfl,hu',hv⟩:=zM hv;obtain rfl:=aT hv;obtain rfl:=bU hu;obtain rfl:=bU hu';exact cG (enters_of L.f161 (by kernel_rfl) rfl) ((Any.strings_TrimLeft_laid L h116 _ _ w hc.1 (ascii_of_all hc.2)).mono λe w' ⟨he,hw⟩=>⟨_,he,cQ hw,.s _⟩)
  ·cases h1
 ·cases h
def cC (s p:ByteArray):Option ByteArray:=if s.size<=9223372036854775807/\p.size<4294967281/\p.data.toList.all (λb=>decide (b.toNat<128))=true then some ⟨(Lib.trimS s.data.toList p.data.toList).toArray⟩ else none
def cY:List AV->Option AV
 | [.c (.p (.s s)),.c (.p (.s p))]=>(cC s p).map λr=> .c (.p (.s r))
 |_=>none
theorem lS (L:Lays.n160 P ρ) (h116:(P.info? (ρ.t 116)).map (λi=>(i.zero,i.size))=some (some (.agg (Array.replicate 256 (.bool false))),256)):eS G P (ρ.f 160) cY:=by
 intro args v h;unfold cY at h;split at h
 ·obtain ⟨r,h1,rfl⟩:=zD.1 h;unfold cC at h1;split at h1
  ·rename_i hc;cases h1;refine ⟨λc hc=>⟨_,by simpa [AV.cvs] using hc⟩,λF N0 up pl w vals hm hN hv=>?_⟩;obtain ⟨u,r1,rfl,hu,hv⟩:=zM hv;obtain ⟨u',r2,rfl,hu',hv⟩:=zM hv;obtain rfl:=aT hv;obtain rfl:=bU hu;obtain rfl:=bU hu';exact cG (enters_of L.f160 (by kernel_rfl) rfl) ((Any.strings_Trim_laid L h116 _ _ w hc.1 hc.2.1 (ascii_of_all hc.2.2)).mono λe w' ⟨he,hw⟩=>⟨_,he,cQ hw,.s _⟩)
  ·cases h1
 ·cases h
def mF (G:Nat->Option Obj) (g:Nat):Prop:=∀w:World,(∀k o,G k=some o->w.heap[k]?=some o)->∃m,w.cell? ⟨g,0,none⟩=some (.int .i64 m)
def aH (s o n:ByteArray):Option ByteArray:=if s.size<4294967281/\1<=o.size/\s.size+Lib.countB s o*n.size<=140737488355328 then some ⟨(Lib.replaceAll s.data.toList o.data.toList n.data.toList).toArray⟩ else none
def bC:List AV->Option AV
 | [.c (.p (.s s)),.c (.p (.s o)),.c (.p (.s n))]=>(aH s o n).map λr=> .c (.p (.s r))
 |_=>none
theorem fS (L:Lays.n155 P ρ) (X:Builder.Extra P ρ) (hM:mF G (ρ.g 1)):eS G P (ρ.f 155) bC:=by
 intro args v h;unfold bC at h;split at h
 ·obtain ⟨r,h1,rfl⟩:=zD.1 h;unfold aH at h1;split at h1
  ·rename_i hc;cases h1;refine ⟨λc hc=>⟨_,by simpa [AV.cvs] using hc⟩,λF N0 up pl w vals hm hN hv=>?_⟩;obtain ⟨u,r1,rfl,hu,hv⟩:=zM hv;obtain ⟨u',r2,rfl,hu',hv⟩:=zM hv;obtain ⟨u'',r3,rfl,hu'',hv⟩:=zM hv;obtain rfl:=aT hv;obtain rfl:=bU hu;obtain rfl:=bU hu';obtain rfl:=bU hu'';obtain ⟨m,hm1⟩:=hM w λk o h=>(hm.fix k o h).2
   exact cG (enters_of L.f155 (by kernel_rfl) rfl) ((Any.strings_ReplaceAll L X _ _ _ m w hc.1 hm1 hc.2.1 hc.2.2).mono λe w' ⟨he,hw⟩=>⟨_,he,cQ hw,.s _⟩)
  ·cases h1
 ·cases h
theorem B6 {a b c:Value} {p q r:PV} (h1:RepP (Own F pl) w a p) (h2:RepP (Own F pl) w b q) (h3:RepP (Own F pl) w c r):zf F fs pl w (.tuple #[a,b,c]) (.tup [(false,[.p p]),(false,[.p q]),(false,[.p r])]):=by
 refine ⟨[a,b,c],rfl,rfl,λi u c hu hc=> .inr ?_⟩
 match i with
 |0=>cases hu;cases hc;exact ⟨rfl,_,rfl,h1⟩
 |1=>cases hu;cases hc;exact ⟨rfl,_,rfl,h2⟩
 |2=>cases hu;cases hc;exact ⟨rfl,_,rfl,h3⟩
 |i+3=>simp at hu
def bE (s p:ByteArray):Option (ByteArray×ByteArray×Bool):=if s.size<4294967281 then some (⟨(Lib.cut s.data.toList p.data.toList).1.toArray⟩,⟨(Lib.cut s.data.toList p.data.toList).2.1.toArray⟩,(Lib.cut s.data.toList p.data.toList).2.2) else none
def dI:List AV->Option AV
 | [.c (.p (.s s)),.c (.p (.s p))]=>(bE s p).map λr=> .tup [(false,[.p (.s r.1)]),(false,[.p (.s r.2.1)]),(false,[.p (.b r.2.2)])]
 |_=>none
theorem oH (L:Lays.n145 P ρ) (hM:mF G (ρ.g 1)):eS G P (ρ.f 145) dI:=by
 intro args v h;unfold dI at h;split at h
 ·obtain ⟨r,h1,rfl⟩:=zD.1 h;unfold bE at h1;split at h1
  ·rename_i hc;cases h1;refine ⟨λc hc=>?_,λF N0 up pl w vals hm hN hv=>?_⟩
   ·simp only [AV.cvs,List.flatMap_cons,List.flatMap_nil,List.append_nil,List.cons_append,List.nil_append,zamT,List.not_mem_nil,or_false] at hc;rcases hc with rfl|rfl|rfl<;>exact ⟨_,rfl⟩
   obtain ⟨u,r1,rfl,hu,hv⟩:=zM hv;obtain ⟨u',r2,rfl,hu',hv⟩:=zM hv;obtain rfl:=aT hv;obtain rfl:=bU hu;obtain rfl:=bU hu';obtain ⟨m,hm1⟩:=hM w λk o h=>(hm.fix k o h).2
   exact cG (enters_of L.f145 (by kernel_rfl) rfl) ((Any.strings_Cut L _ _ m w hc hm1).mono λe w' ⟨he,n,hw⟩=>⟨_,he,by rw [hw];exact ⟨rfl,rfl,rfl,zH _,λ_ _ _=>rfl⟩,B6 (.s _) (.s _) (.b _)⟩)
  ·cases h1
 ·cases h
def fN:List (List PV)->Option (List ByteArray)
 | []=>some []
 | [.s x]::r=>(fN r).map (x:: ·)
 |_=>none
theorem qG:∀{rows:List (List PV)} {xs:List ByteArray},fN rows=some xs->rows.length=xs.length/\∀(j:Nat) (x:ByteArray),xs[j]?=some x->rows[j]?=some [PV.s x]
 | [],xs,h=>by
  simp only [fN,zS] at h;subst h;exact ⟨rfl,λj x h=>by simp at h⟩
 |r::rows,xs,h=>by
  unfold fN at h;split at h
  ·rename_i heq;cases heq
  ·rename_i x rs heq;cases heq;obtain ⟨q,hq,rfl⟩:=zD.1 h;obtain ⟨h1,h2⟩:=qG hq;refine ⟨by simp [h1],λj y hy=>?_⟩;cases j with
   |zero=>simp at hy;subst hy;rfl
   |succ j=>simpa using h2 j y (by simpa using hy)
  ·cases h
def cZ (rows:List (List PV)) (sep:ByteArray):Option ByteArray:=(fN rows).bind λxs=>if xs.length<=140737488355328/\(Lib.join (xs.map (·.data.toList)) sep.data.toList).length<=140737488355328 then some ⟨(Lib.join (xs.map (·.data.toList)) sep.data.toList).toArray⟩ else none
def dA:List AV->Option AV
 | [.c (.p (.ls rows)),.c (.p (.s sep))]=>(cZ rows sep).map λr=> .c (.p (.s r))
 |_=>none
theorem lT (L:Lays.n156 P ρ) (X:Builder.Extra P ρ):eS G P (ρ.f 156) dA:=by
 intro args v h;unfold dA at h;split at h
 ·rename_i rows sep;obtain ⟨r,h1,rfl⟩:=zD.1 h;obtain ⟨xs,hx,h1⟩:=zK.1 h1;split at h1
  ·rename_i hc;cases h1;obtain ⟨hl,hg⟩:=qG hx;refine ⟨λc hc=>⟨_,by simpa [AV.cvs] using hc⟩,λF N0 up pl w vals hm hN hv=>?_⟩;obtain ⟨u,r1,rfl,hu,hv⟩:=zM hv;obtain ⟨u',r2,rfl,hu',hv⟩:=zM hv;obtain rfl:=aT hv;obtain rfl:=bU hu';have hu:RepP _ w u (.ls rows):=hu;have fin:∀{u:Value},(Calls P (ρ.f 156) #[u,.string sep] w λe w'=>e= .returned (.string ⟨(Lib.join (xs.map (·.data.toList)) sep.data.toList).toArray⟩)/\Below w.heap.size w w')->Goes P (ρ.f 156) [u,.string sep].toArray w λu w'=>Step cE w w'/\zf F up pl w' u (.c (.p (.s ⟨(Lib.join (xs.map (·.data.toList)) sep.data.toList).toArray⟩))):=λh=>
    cG (enters_of L.f156 (by kernel_rfl) rfl) (h.mono λe w' ⟨he,hw⟩=>⟨_,he,cQ hw,.s _⟩)
   cases hu with
   |nls=>
    obtain rfl:xs= []:=bR (by simpa using hl.symm);exact fin ((Any.strings_Join_none L X none 0 sep w).mono λe w' ⟨he,hw⟩=>⟨he,hw▸Below.refl _ _⟩)
   | @ls a n c sz _ val hl2 hcap hmax ho hcell hrep=>
    cases xs with
    |nil=>
     obtain rfl:n=0:=by rw [<-hl2,hl];rfl
     exact fin ((Any.strings_Join_none L X (some a) c sep w).mono λe w' ⟨he,hw⟩=>⟨he,hw▸Below.refl _ _⟩)
    |cons x0 xs=>
     obtain ⟨ab,ao,ap⟩:=a;have hne:rows≠ []:=λe=>by rw [e] at hl;simp at hl
     have hn:n=(x0::xs).length:=by rw [<-hl2,hl]
     have hsz:sz=1:=((hcell 0 _ (hg 0 x0 rfl)).1).symm;have hcl:∀(j:Nat) x,(x0::xs)[j]?=some x->w.cell? ((⟨ab,ao,ap⟩:Addr).add j)=some (.string x):=λj x hj=>by
      obtain ⟨c1,c2⟩:=hcell j _ (hg j x hj);have c3:=c2 0 _ rfl;have c4:=hrep j _ 0 _ (hg j x hj) rfl;rw [hsz,Nat.mul_one,Nat.add_zero] at c3;rw [c3];generalize val j 0=q at c4;cases c4;rfl
     subst hn;have h0:=hcl 0 x0 rfl;obtain rfl:ap=none:=by
      cases ap with
      |none=>rfl
      |some k=>
       simp only [Addr.add,if_true,World.cell?] at h0;split at h0
       ·simp at h0
       ·cases h0
     exact fin (Any.strings_Join L X ab ao c (x0::xs) sep w (λj x hj=>by
      have h3:=hcl j x hj;by_cases hj0:j=0
      ·subst hj0;simpa [Addr.add] using h3
      ·simpa [Addr.add,hj0] using h3) (ho hne).2 hc.1 hcap hc.2)
  ·cases h1
 ·cases h
theorem AC {W:World} {name:String} {k:IntKind} {zs:List Int} {g:Nat} (hg:P.globalNamed name=some g) (h:Lib.TabIs P W name k zs) (hk:∀o,W.heap[g]?=some o->w.heap[g]?=some o):Lib.TabIs P w name k zs:=by
 unfold Lib.TabIs World.var? at h⊢;simp only [hg,aN] at h⊢;cases ho:W.heap[g]? with
 |none=>rw [ho] at h;cases h
 |some o=>rw [hk o ho];rw [ho] at h;exact h
theorem oI {W:World} {g:Nat} {v:Value} (h:W.cell? ⟨g,0,none⟩=some v) (hk:∀o,W.heap[g]?=some o->w.heap[g]?=some o):w.cell? ⟨g,0,none⟩=some v:=by
 cases ho:W.heap[g]? with
 |none=>simp [World.cell?,ho] at h
 |some o=>
  rw [<-h];exact World.cell?_of_block (by show w.heap[g]?=W.heap[g]?;rw [hk o ho,ho])
def GOf (n:Nat) (W:World):Nat->Option Obj:=λk=>if k<n then W.heap[k]? else none
theorem gof_self {n:Nat} {W:World}:∀k o,GOf n W k=some o->W.heap[k]?=some o:=λk o h=>by
 unfold GOf at h;split at h
 ·exact h
 ·cases h
theorem vV {n:Nat} {W:World} (h:∀k o,GOf n W k=some o->w.heap[k]?=some o) {g:Nat} (hg:g<n):∀o,W.heap[g]?=some o->w.heap[g]?=some o:=λo ho=>h g o (by unfold GOf;rw [if_pos hg];exact ho)
theorem errCell_of {n nm:String} {d:DataW Unit} {r:List (String×DataW Unit)} {W:World} {g N:Nat} {ti:TypeId} {ms:Array (String×TypeId)} (h:laidMet P ((n,.iface nm d)::r) W)
  (hg:P.globalNamed n=some g) (ht:(P.globals[g]?).map (·.type)=some ti) (hi:P.underlying ti=some (.interface ms)) (hN:g<N):ErrCell (GOf N W) g:=by
 obtain ⟨ps,⟨g0,t0,cs0,f0,p0,q0,hg0,ht0,hv0,hd0,_,e0⟩,_,hrows⟩:=h;obtain rfl:=Option.some.inj (hg.symm.trans hg0);obtain rfl:=Option.some.inj (ht.symm.trans ht0);obtain ⟨l0⟩:=cs0;obtain ⟨f1,u,v,rfl,hn,h1⟩:=iface_of_trod hi hd0;intro w hw;exact ⟨.iface u v,oI (by simpa using World.var?_cell hg0 hv0 0) (vV hw hN),.inr ⟨_,_,rfl⟩⟩
theorem returnsInHanded_of_change_both {H:Type} {enc:TypeId×Value->H} {a:Assume} {C:Checked} {os:Os} {f:FuncId} {fn:Func} {s:ChangeSpec} {conds:List PathCond} {apart fresh handsOn again:Bool} {X:World->Array Value->Prop}
  (hX:∀(w w':World) (args:Array Value),w.heap=w'.heap->X w args->X w' args)
  (own:ownKnob C.prog.godebug=none) (started:os.Started) (noInit:C.prog.inits.idxOf? f=none) (hfn:C.prog.funcs[f]?=some fn)
  (witness:∃(w:World) (tape:Tape) (i:Input),w.os=os/\(w.forCall tape i).Shaped C.prog/\i.vars= []/\Input.okWide C.prog (w.forCall tape i) .any w.heap.size f i/\
   ((s.pre enc C.prog fn conds apart (w.forCall tape i).memory i.args/\X (w.forCall tape i).memory i.args)/\sizedMet enc C.prog fn (OpenSpec.ofChange s) apart (w.forCall tape i).memory i.args)/\a.holds C.prog (lone (Frame.enter C.prog f i.args .normal) [] (w.forCall tape i)))
  (contract:∀(W:World) (base:Nat) (args:Array Value) (ds gs:List (DataW H)) (before:List MemPlace),
   (∀(j:Nat) t v,fn.params[j]?=some t->args[j]?=some v->Value.okWide C.prog W .any base t v)->
   DataW.Whole enc C.prog fn.params.toList s.vars apart W args.toList ds gs before->
   conds.all (PathCond.test C.prog ⟨fn.params.toList,ds,s.plain.varTypes C.prog,gs⟩)=true->
   (DataW.weightsEach C.prog (fn.params.toList++s.plain.varTypes C.prog) (ds++gs)).all (· <=reachBytes)=true->X W args->W.ShapedOpen C.prog->
   a.holds C.prog (lone (Frame.enter C.prog f args .normal) [] W)->
   Calls C.prog f args W λe W'=>∃v,e= .returned v/\s.post enc C.prog fn apart fresh handsOn again W args v W'):
  ReturnsInHanded a C os f .any (λw args=>(s.pre enc C.prog fn conds apart w args/\X w args)/\sizedMet enc C.prog fn (OpenSpec.ofChange s) apart w args) (s.post enc C.prog fn apart fresh handsOn again):=by
 refine returnsInHanded_of_calls own started noInit witness ?_;intro w tape i _ hsh _ hok hpre hholds;obtain ⟨_,_,_,fn',hfn',_,_,_,_,hval⟩:=hok;have e:fn'=fn:=Option.some.inj (hfn'.symm.trans hfn);subst e;obtain ⟨⟨⟨ds,gs,before,hw,hc⟩,hx⟩,hz⟩:=hpre;have hw':=DataW.Whole.of_heap (w':=w.forCall tape i) (by rfl) hw;refine (contract (w.forCall tape i) w.heap.size i.args ds gs before hval hw' hc (hz.weights hw) (hX _ _ _ (by rfl) hx) hsh hholds).mono λe W' ⟨v,he,hp⟩=>?_
 subst he;exact ChangeSpec.post_blind hp
theorem iS {W:World} {g N:Nat} (h:∃m,W.cell? ⟨g,0,none⟩=some (.int .i64 m)) (hN:g<N):mF (GOf N W) g:=λw hw=>by
 obtain ⟨m,hm⟩:=h;exact ⟨m,oI hm (vV hw hN)⟩
end
end Go.Eng
namespace Go.Eng
def restFacts (P:Program) (fn:Func) (s:ChangeSpec) (c:OpenClaim):Bool:=
 c.wf (OpenSpec.ofChange s)&&laidOutB P&&mapsRowed P&&
 fn.params.all (P.readableRec ·)&&namedTie P c.named s.vars&&
 (c.stops== [])&&(P.stops== [])&&(c.knobs== [])&&(P.stopKnobs== [])&&
 (c.maps==(fn.params.toList++s.plain.varTypes P).any (P.mapsRec ·))&&(c.ifaces==(fn.params.toList++s.plain.varTypes P).any (P.ifacesRec ·))&&(c.mapsOut==P.mapsAmong fn.resultTypes.toList)&&
 (c.loops==(fn.params.toList++s.plain.varTypes P).any (P.loopsFrom ·))&&(c.wideKeys==(fn.params.toList++s.plain.varTypes P++fn.resultTypes.toList).any (P.wideKeysFrom ·))&&
 s.vars.all (P.varReadable ·)&&fn.resultTypes.all (λt=>P.readableRec t&&decide (t<P.types.size))&&(c.ifacesOut==fn.resultTypes.toList.any (P.ifacesRec ·))&&(c.loopsOut==fn.resultTypes.toList.any (P.loopsFrom ·))&&(c.plainKeys==P.plainKeys)&&c.shortTexts.isNone&&(P.make==some c.make)&&(c.kinds==(if c.domain.isEmpty then [] else fn.params.toList.map λt=>match P.underlying t with|some (.int k)=>some k|_=>none))&&(c.pinned==c.pinnedBy)&&
 (c.veiled==(fn.params.toList++s.plain.varTypes P++fn.resultTypes.toList).any (P.veiledRec ·))&&c.veiledFits P fn.params.toList (fn.params.toList++s.plain.varTypes P++fn.resultTypes.toList)
theorem joined_of {P:Program} {f:FuncId} {fn:Func} {s:ChangeSpec} {c:OpenClaim} (h1:(c.inPlace==P.inPlace f)=true) (h2:(c.unfollowed==P.unfollowed f)=true) (h3:(c.recurses==P.recurses f)=true) (h4:(c.named==P.varsNamed f)=true)
  (h5:(c.lifted==P.liftsFinal)=true) (h6:P.mayEnter=true) (h7:P.stopsHeard=true) (h8:restFacts P fn s c=true):joinedFacts P f fn s c=true:=by
 unfold joinedFacts;unfold restFacts at h8;rw [h1,h2,h3,h4,h5,h6,h7];simp only [Bool.and_true];exact h8
end Go.Eng
namespace Go.Eng
open Go.Shelf Go.RowKit Go.Proofs
section
variable {P:Program} {G:Nat->Option Obj} {ρ:Ren} {F:Nat->Prop} {pl:Pl} {w w':World} {N0:Base G}
structure AppOK (e:TypeId) (v:Value) (n:Nat) (xs:List Value) (s:ByteArray) (w:World) (v':Value) (w':World):Prop where
 own:w'.ownsRow 0 e 1 v' (n+s.size) (xs++Lib.strCells s)
 grown:w.grownBy w' v.ownBlock
 place:∀k,v'.ownBlock=some k->v.ownBlock=some k\/w.heap.size<=k
theorem Cs (t u ty e:TypeId) (i:TypeInfo) (ht:P.underlying t=some (.slice e)) (hu:P.underlying u=some .string) (hi:P.info? e=some i) (hz:i.zero=some (.int .u8 0)) (hsize:i.size=1) (hby:i.bytes=1)
  (v:Value) (n:Nat) (xs:List Value) (hown:w.ownsRow 0 e 1 v n xs) (s:ByteArray) (hb:n+s.size<=140737488355328):
  ∃v' w',(Builtin.append_ #[t,u] ty #[v,.string s]).run P w= .ok v' w'/\AppOK e v n xs s w v' w':=by
 have h63:n+s.size<=maxLen:=by unfold maxLen;omega
 have hxl:xs.length=n:=by simpa using hown.1
 have hlen:(xs++Lib.strCells s).length=(n+s.size)*1:=by rw [zamO,hxl,Lib.strCells_length,Nat.mul_one]
 rcases hown.2 with ⟨rfl,rfl⟩|⟨g,cap,cur,rfl,_,hg,hnc,hcm,hcs,htake⟩
 ·obtain ⟨v',w',h1,h2,h3,_⟩:=Lib.run_append_own_string (P:=P) w w.heap.size t u ty e i ht hu hi hz hsize hby (.slice none 0 0) 0 xs ⟨hown.1,.inl ⟨rfl,rfl⟩⟩ s h63 hb (zH _);refine ⟨v',w',h1,⟨h2.1,?_⟩,h3,λk hk=> .inr (h2.lt k hk).1⟩;rcases h2.2 with h|⟨g,cap,cur,q1,_,q3⟩
  ·exact .inl h
  ·exact .inr ⟨g,cap,cur,q1,Nat.zero_le _,q3⟩
 ·by_cases hroom:n+s.size<=cap
  ·have hcs':cur.size=cap:=by simpa using hcs
   refine ⟨_,_,Lib.run_append_room_string (P:=P) w t u ty e i ht hu hi hsize g n cap cur hg s hroom (by omega),⟨hlen,.inr ⟨g,cap,_,rfl,Nat.zero_le _,setRow_heap w g cur _ e _ hg,hroom,hcm,?_,?_⟩⟩,
    ⟨rfl,rfl,rfl,by simp,λk _ hk=>setRow_other w g k _ (λe=>hk (by simp [Value.ownBlock,e]))⟩,λk hk=> .inl hk⟩
   ·simp only [List.size_toArray,zamO,List.length_take,List.length_drop,Array.length_toList,Lib.strCells_length];omega
   ·have ht':cur.toList.take n=xs:=by simpa using htake
    rw [ht',<-hlen];exact List.take_left
  ·have holds:∀j u,xs[j]?=some u->w.cell? ((⟨g,0,none⟩:Addr).add j)=some u:=hown.cells (g:=g) rfl;have hr:=Lib.run_append_grow_string (P:=P) w t u ty e i (.int .u8 0) ht hu hi hz ⟨g,0,none⟩ n cap xs (by rw [hsize];simpa using hxl) holds s (by omega) (by omega) (by rw [hby];exact growslice_fits (by omega) (by omega));refine ⟨_,_,hr,⟨hlen,.inr ⟨w.heap.size,_,_,rfl,Nat.zero_le _,heap_alloc_new w.drew _,grownCap_ge w (n+s.size) cap e,grownCap_le_maxLen w (n+s.size) cap e h63,?_,?_⟩⟩,
    ⟨rfl,rfl,rfl,by simp,λk hk _=>heap_alloc_old w.drew _ hk⟩,λk hk=> .inr (by simp only [Value.ownBlock,zS] at hk;omega)⟩
   ·have hz1:(Value.int IntKind.u8 0).cells.size=1:=rfl;have hge:=grownCap_ge w (n+s.size) cap e;simp only [Array.size_append,List.size_toArray,size_zeroCells,hz1,hxl,Lib.strCells_length];omega
   ·simp only [Array.toList_append,List.append_assoc];rw [<-List.append_assoc,<-hlen];exact List.take_left
theorem Db {ops:Array Oper} {rest:List Oper} {o:Oper} {a:Act} {Q:Exit->Act->World->Prop} (hgd:o.guard=none) (sl x:Operand) (t u:TypeId) (ho:o.op= .call {callee:= .builtin .append,args:= #[sl,x],argTypes:= #[t,u]})
  (e:TypeId) (i:TypeInfo) (ht:P.underlying t=some (.slice e)) (hu:P.underlying u=some .string) (hi:P.info? e=some i) (hz:i.zero=some (.int .u8 0)) (hsize:i.size=1) (hby:i.bytes=1)
  (v:Value) (n:Nat) (xs:List Value) (hs:a.eval sl=v) (hown:w.ownsRow 0 e 1 v n xs) (s:ByteArray) (hx:a.eval x= .string s) (hb:n+s.size<=140737488355328)
  (h:∀v' w',AppOK e v n xs s w v' w'->wpList P ops Q rest (a.put o.dst v') w'):wpList P ops Q (o::rest) a w:=by
 refine wpList_plain hgd λK hK=>?_
 obtain ⟨v',w',hr,h2⟩:=Cs (P:=P) (w:=w) t u o.type e i ht hu hi hz hsize hby v n xs hown s hb;unfold Oper.wp execOp;simp only [ho,resolve,invoke,builtin,Sem.run_bind,Sem.run_pure,Result.andThen_ok,List.map_toArray,zanE,List.map_nil,hs,hx,hr];exact hK _ _ (h v' w' h2)
structure Bld (T e:TypeId) (b:Nat) (v:Value) (bs:List Value) (w:World):Prop where
 blk:∃p,(p= .pointer none\/p= .pointer (some ⟨b,0,none⟩))/\w.heap[b]?=some (.cells #[p,v] T (0,0))
 own:w.ownsRow 0 e 1 v bs.length bs
 ne:v.ownBlock≠some b
theorem Bld.lt {T e:TypeId} {b:Nat} {v:Value} {bs:List Value} (h:Bld T e b v bs w):b<w.heap.size:=by
 obtain ⟨p,_,hb⟩:=h.blk;exact (zamX.1 hb).1
structure BStep (b:Nat) (v:Value) (w w':World):Prop where
 os:w'.os=w.os
 tape:w'.tape=w.tape
 output:w'.output=w.output
 size:w.heap.size<=w'.heap.size
 block:∀k,k<w.heap.size->k≠b->v.ownBlock≠some k->w'.heap[k]?=w.heap[k]?
theorem BStep.refl (b:Nat) (v:Value) (w:World):BStep b v w w:=⟨rfl,rfl,rfl,zH _,λ_ _ _ _=>rfl⟩
theorem BStep.set {b:Nat} {v:Value} (h:BStep b v w w') (j:Nat) (x:Value):BStep b v w (w'.setCell ⟨b,j,none⟩ x):=
 ⟨h.os,h.tape,h.output,by simpa [World.setCell] using h.size,λk hk hb hv=>(Below.heap_setCell _ _ _ _ (λe=>hb (by simp [e]))).trans (h.block k hk hb hv)⟩
theorem AD (L:Lays.n240 P ρ) (X:Builder.X72 P ρ) {b:Nat} {v:Value} {bs:List Value} (h:Bld (ρ.t 72) (ρ.t 5) b v bs w):
  Calls P (ρ.f 240) #[.pointer (some ⟨b,0,none⟩)] w λe w'=>e= .returned (.tuple #[])/\w'.heap[b]?=some (.cells #[.pointer (some ⟨b,0,none⟩),v] (ρ.t 72) (0,0))/\w'.ownsRow 0 (ρ.t 5) 1 v bs.length bs/\BStep b v w w'/\w'.heap.size=w.heap.size:=by
 obtain ⟨p,hp,hb⟩:=h.blk;have hat:Lib.BuilderAt (ρ.t 72) (ρ.t 5) 0 b p bs w:=⟨Nat.zero_le _,v,hb,h.own,h.ne⟩;rcases hp with rfl|rfl
 ·refine (Any.Builder_copyCheck_fresh L X b w hat.cell0 hat.shape hat.frozen0).mono ?_;rintro e w' ⟨rfl,rfl⟩;refine ⟨rfl,?_,?_,(BStep.refl b v w).set 0 _,by simp [World.setCell]⟩
  ·simp [World.setCell,Array.getElem?_modify,hb]
  ·exact h.own.kept (row:=some b) ⟨rfl,rfl,rfl,by simp [World.setCell],λk _ hk=>Below.heap_setCell _ _ _ _ (λe=>hk (by simp [e]))⟩ (.inr h.ne)
 ·refine (Any.Builder_copyCheck_used L X b w hat.cell0).mono ?_;rintro e w' ⟨rfl,rfl⟩;exact ⟨rfl,hb,h.own,BStep.refl _ _ _,rfl⟩
set_option maxHeartbeats 2000000 in
set_option maxRecDepth 100000 in
theorem AE (L:Lays.n166 P ρ) (X:Builder.Extra P ρ) {b:Nat} {v:Value} {bs:List Value} (s:ByteArray) (h:Bld (ρ.t 72) (ρ.t 5) b v bs w) (hlen:bs.length+s.size<=140737488355328):
  Calls P (ρ.f 166) #[.pointer (some ⟨b,0,none⟩),.string s] w λe w'=>e= .returned (.tuple #[.int .i64 s.size,.nilIface])/\∃v',Bld (ρ.t 72) (ρ.t 5) b v' (bs++Lib.strCells s) w'/\BStep b v w w'/\∀k,v'.ownBlock=some k->v.ownBlock=some k\/w.heap.size<=k:=by
 obtain ⟨i0,hi,hz0,hz1,hz2⟩:=info_parts X.infoByte;have mixed:=L.mixed;have t72:=L.t72;have a72:=L.a72;have z72:=L.z72;have v72:=L.v72;have u72:=run_underlying L.t72;have t70:=L.t70;have a70:=L.a70;have z70:=L.z70;have v70:=L.v70;have u70:=run_underlying L.t70;have t37:=L.t37;have a37:=L.a37;have z37:=L.z37;have v37:=L.v37;have u37:=run_underlying L.t37;have t3:=L.t3;have a3:=L.a3;have z3:=L.z3;have v3:=L.v3;have u3:=run_underlying L.t3;have t9:=L.t9;have a9:=L.a9;have z9:=L.z9;have v9:=L.v9;have u9:=run_underlying L.t9;have t4:=L.t4;have a4:=L.a4;have z4:=L.z4;have v4:=L.v4;have u4:=run_underlying L.t4;have t164:=L.t164;have a164:=L.a164;have z164:=L.z164;have v164:=L.v164;have u164:=run_underlying L.t164;have t5:=X.t5;have a5:=X.a5;have z5:=X.z5;have v5:=X.v5;have u5:=run_underlying X.t5;have e240:∀args w,(callFunc (ρ.f 240) args).run P w= .ok (.enter (ρ.f 240) args) w:=enters_of L.f240 (by kernel_rfl) rfl
 go_enter L.f166,Body.n166_ntmps ρ
 go_wp2_with (go_at_fn (ρ.f 240);refine (AD {L with} X.toX72 h).mono ?_)
 rintro e w1 ⟨rfl,hbk,hown,hst,hsz⟩;have c0:w1.cell? ⟨b,0,none⟩=some (.pointer (some ⟨b,0,none⟩)):=by rw [Lib.cell_of_heap hbk];rfl
 have c1:w1.cell? ⟨b,1,none⟩=some v:=by rw [Lib.cell_of_heap hbk];rfl
 go_wp2_with (at_builtin;refine Db rfl _ _ (ρ.t 37) (ρ.t 9) rfl (ρ.t 5) i0 L.t37 L.t9 hi hz0 hz1 hz2 _ _ _ rfl hown s rfl hlen ?_)
 intro v' w2 hA;have hlt:b<w1.heap.size:=(zamX.1 hbk).1;have hb2:w2.heap[b]?=some (.cells #[.pointer (some ⟨b,0,none⟩),v] (ρ.t 72) (0,0)):=by
  rw [hA.grown.block b hlt (λe=>h.ne e.symm)];exact hbk
 have d0:w2.cell? ⟨b,0,none⟩=some (.pointer (some ⟨b,0,none⟩)):=by rw [Lib.cell_of_heap hb2];rfl
 have d1:w2.cell? ⟨b,1,none⟩=some v:=by rw [Lib.cell_of_heap hb2];rfl
 have f1:w2.frozen? ⟨b,1,none⟩=false:=Lib.frozen_of_heap hb2 1;have hwr:=Lib.BuilderAt.put (T:=(ρ.t 72)) (e:=(ρ.t 5)) (Nat.zero_le b) hb2 (bs':=bs++Lib.strCells s) (v':=v') (by simpa [Lib.strCells_length] using hA.own) X.neB5;have hst2:BStep b v w w2:=⟨hA.grown.os.trans hst.os,hA.grown.tape.trans hst.tape,hA.grown.output.trans hst.output,zU hst.size hA.grown.size,λk hk h1 h2=>(hA.grown.block k (by omega) (λe=>h2 e.symm)).trans (hst.block k hk h1 h2)⟩;obtain ⟨ao,n',cap,rfl⟩:∃ao n' cap,v'= .slice ao n' cap:=by
  rcases hA.own.2 with ⟨hv,_⟩|⟨g,cap,cur,hv,_⟩
  ·exact ⟨_,_,_,hv⟩
  ·exact ⟨_,_,_,hv⟩
 go_wp2
 go_ret2
 obtain ⟨_,vv,q1,q2,q3⟩:=hwr;have hvv:vv= .slice ao n' cap:=by
  have q4:(w2.setCell ⟨b,1,none⟩ (.slice ao n' cap)).cell? ⟨b,1,none⟩=some vv:=by rw [Lib.cell_of_heap q1];rfl
  have q5:(w2.setCell ⟨b,1,none⟩ (.slice ao n' cap)).heap[b]?=some (.cells #[.pointer (some ⟨b,0,none⟩),.slice ao n' cap] (ρ.t 72) (0,0)):=by simp [World.setCell,Array.getElem?_modify,hb2]
  rw [Lib.cell_of_heap q5] at q4;exact (Option.some.inj q4).symm
 subst hvv;exact ⟨rfl,_,⟨⟨_,.inr rfl,q1⟩,q2,q3⟩,hst2.set 1 _,λk hk=>(hA.place k hk).imp id (λh=>by omega)⟩
set_option maxHeartbeats 2000000 in
set_option maxRecDepth 100000 in
theorem vW (L:Lays.n169 P ρ) (X:Builder.Extra P ρ) {b:Nat} {v:Value} (l:List UInt8) (h:Bld (ρ.t 72) (ρ.t 5) b v (Lib.byteCells l) w):
  Calls P (ρ.f 169) #[.pointer (some ⟨b,0,none⟩)] w λe w'=>e= .returned (.string ⟨l.toArray⟩)/\BStep b v w w'/\w'.heap[b]?=w.heap[b]?:=by
 obtain ⟨p,hp,hbk⟩:=h.blk;have below:∀{w'},Below w.heap.size w w'->BStep b v w w'/\w'.heap[b]?=w.heap[b]?:=λhb=>⟨⟨hb.os,hb.tape,hb.output,hb.size,λk hk _ _=>hb.block k hk⟩,hb.block b h.lt⟩
 cases hl:l with
 |nil=>
  subst hl;rcases h.own.2 with ⟨rfl,_⟩|⟨g,cap,cur,rfl,_,hg,_,_,_,_⟩
  ·exact (Any.Builder_String_nil L X w.heap.size b p w hbk).mono λe w' ⟨he,hw⟩=>⟨he,below hw⟩
  ·by_cases hc0:cap=0
   ·subst hc0;exact (Any.Builder_String_noroom L X w.heap.size b g p cur w (zH _) hbk hg).mono λe w' ⟨he,hw⟩=>⟨he,below hw⟩
   ·exact (Any.Builder_String_room L X w.heap.size b g cap p w hc0 hbk).mono λe w' ⟨he,hw⟩=>⟨he,below hw⟩
 |cons x0 l0=>
  have h0:l≠ []:=by rw [hl];simp
  rw [<-hl];have hl0:l.length≠0:=by simpa using h0
  have hown:=h.own;rw [Lib.byteCells_length] at hown;obtain ⟨g,cap,cur,rfl,hg,hnc,hcm,hcs⟩:∃g cap cur,v= .slice (some ⟨g,0,none⟩) l.length cap/\w.heap[g]?=some (.cells cur (ρ.t 5) (0,0))/\l.length<=cap/\cap<=maxLen/\cur.size=cap*1:=by
   rcases hown.2 with ⟨_,hz⟩|⟨g,cap,cur,hv,_,q1,q2,q3,q4,_⟩
   ·exact absurd hz hl0
   ·exact ⟨g,cap,cur,hv,q1,q2,q3,q4⟩
  have c1:w.drew.cell? ⟨b,1,none⟩=some (.slice (some ⟨g,0,none⟩) l.length cap):=by
   have:w.drew.heap[b]?=some (.cells #[p,.slice (some ⟨g,0,none⟩) l.length cap] (ρ.t 72) (0,0)):=hbk;rw [Lib.cell_of_heap this];rfl
  have hSD:(Builtin.unsafeSliceData_ #[(ρ.t 37)] (ρ.t 127) #[.slice (some ⟨g,0,none⟩) l.length cap]).run P w.drew= .ok (.pointer (some ⟨g,0,none⟩)) w.drew:=
   Lib.run_unsafeSliceData_row _ _ _ _ _ _ (by omega)
  have hUS:(Builtin.unsafeString_ #[(ρ.t 127),(ρ.t 3)] (ρ.t 9) #[.pointer (some ⟨g,0,none⟩),.int .i64 l.length]).run P w.drew= .ok (.string ⟨l.toArray⟩) (w.drew.freeze ⟨g,0,none⟩ l.length):=by
   refine Lib.run_unsafeString_row w.drew (ρ.t 127) (ρ.t 3) (ρ.t 9) (ρ.t 5) L.t127 X.cellsByte g cur.size (by have hg':w.drew.heap[g]?=some (.cells cur (ρ.t 5) (0,0)):=hg;simp [World.shape?,hg']) l h0 (by omega) (by unfold maxLen at hcm;omega) ?_;intro j x hx;exact hown.cells (g:=g) rfl j (.int .u8 x.toNat) (by simp [Lib.byteCells,hx])
  have hfr:∀k,k≠g->(w.drew.freeze ⟨g,0,none⟩ l.length).heap[k]?=w.heap[k]?:=λk hk=>by
   unfold World.freeze;rw [if_neg hl0];show (w.heap.modify g _)[k]?=_;rw [Array.getElem?_modify,if_neg (λe=>hk e.symm)]
  have hfin:BStep b (.slice (some ⟨g,0,none⟩) l.length cap) w (w.drew.freeze ⟨g,0,none⟩ l.length)/\(w.drew.freeze ⟨g,0,none⟩ l.length).heap[b]?=w.heap[b]?:=by
   refine ⟨⟨?_,?_,?_,?_,λk hk _ hv=>hfr k (λe=>hv (by simp [Value.ownBlock,e]))⟩,hfr b (λe=>h.ne (by simp [Value.ownBlock,e]))⟩
   ·unfold World.freeze;rw [if_neg hl0];rfl
   ·unfold World.freeze;rw [if_neg hl0];rfl
   ·unfold World.freeze;rw [if_neg hl0];rfl
   ·unfold World.freeze;rw [if_neg hl0];show w.heap.size<=(w.heap.modify g _).size;rw [Array.size_modify];exact zH _
  have mixed:=L.mixed;have t72:=L.t72;have a72:=L.a72;have z72:=L.z72;have v72:=L.v72;have u72:=run_underlying L.t72;have t70:=L.t70;have a70:=L.a70;have z70:=L.z70;have v70:=L.v70;have u70:=run_underlying L.t70;have t37:=L.t37;have a37:=L.a37;have z37:=L.z37;have v37:=L.v37;have u37:=run_underlying L.t37;have t127:=L.t127;have a127:=L.a127;have z127:=L.z127;have v127:=L.v127;have u127:=run_underlying L.t127;have t3:=L.t3;have a3:=L.a3;have z3:=L.z3;have v3:=L.v3;have u3:=run_underlying L.t3;have t9:=L.t9;have a9:=L.a9;have z9:=L.z9;have v9:=L.v9;have u9:=run_underlying L.t9;have t5:=X.t5;have a5:=X.a5;have z5:=X.z5;have v5:=X.v5;have u5:=run_underlying X.t5
  clear hl
  go_enter L.f169,Body.n169_ntmps ρ
  go_wp2
  go_region_o
  all_goals (go_wp2;go_ret;exact ⟨rfl,hfin⟩)
abbrev fB (T e:TypeId) (g:Nat) (c:List CV) (rows:List (List PV)):List Frame:= [[(0,⟨0,2,T,.box c⟩),(1,⟨g,1,e,.row rows⟩)]]
abbrev cB (g m:Nat):List CV:= [.ptr 0 0 0 0 KO,.own 0 1 g m]
theorem Dt {T e:TypeId} {g:Nat} {c:List CV} {rows:List (List PV)} {n:Nat} {B:Blk} (h:zA 0 n (fB T e g c rows)=some B):(n=0/\B=⟨0,2,T,.box c⟩)\/(n=1/\B=⟨g,1,e,.row rows⟩):=by
 simp only [zA,zanD,if_true,zE] at h;split at h
 ·rename_i e;cases h;exact .inl ⟨e.symm,rfl⟩
 ·split at h
  ·rename_i e;cases h;exact .inr ⟨e.symm,rfl⟩
  ·cases h
theorem oJ {T e:TypeId} {g:Nat} {c:List CV} {rows:List (List PV)}:zA 0 0 (fB T e g c rows)=some ⟨0,2,T,.box c⟩:=by simp [zA,zE]
theorem tZ {T e:TypeId} {g:Nat} {c:List CV} {rows:List (List PV)}:zA 0 1 (fB T e g c rows)=some ⟨g,1,e,.row rows⟩:=by simp [zA,zE]
theorem B7 {T e:TypeId} {m:Nat} {rows:List (List PV)} (hm:MemOK F N0 (fB T e 1 (cB 1 m) rows) pl w) (hl:m=rows.length):
  ∃(b:Nat) (v:Value) (xs:List Value),pl 0 0=one b 2/\Bld T e b v xs w/\xs.length=m/\(∀k,v.ownBlock=some k->∃s,pl 0 1 0=some (k,s))/\(∀(j:Nat) (r:List PV),rows[j]?=some r->∃u x,r= [x]/\xs[j]?=some u/\RepP (Own F pl) w u x)/\
   ∃us,w.heap[b]?=some (.cells us T (0,0))/\zT F (fB T e 1 (cB 1 m) rows) pl w us.toList (cB 1 m):=by
 obtain ⟨b,us,h1,h2,h3,h4⟩:=hm.blk 0 0 _ oJ;simp only at h1 h2 h3;obtain ⟨v0,v,hus⟩:∃v0 v,us= #[v0,v]:=by
  have hlen:us.toList.length=2:=h3.1
  match hq:us.toList,hlen with
  | [v0,v],_=>exact ⟨v0,v,by apply Array.toList_inj.1;rw [hq]⟩
 subst hus;obtain ⟨⟨q1,B0,q2,q3,q4⟩,_⟩:=h3.2 0 v0 _ rfl rfl;rw [oJ] at q2;cases q2;obtain ⟨b',s',q5,q6⟩:=q4 rfl;obtain rfl:b'=b:=by rw [h1] at q5;cases (aW q5).2;rfl
 have hp:v0= .pointer none\/v0= .pointer (some ⟨b',0,none⟩):=by
  rcases q6 with ⟨q,_⟩|⟨_,q⟩
  ·exact absurd rfl q
  ·exact q
 obtain ⟨⟨r1,R0,r2,r3,r4⟩,_⟩:=h3.2 1 v _ rfl rfl;rw [tZ] at r2;cases r2;have hr:=hm.blk 0 1 _ tZ;have fin:∀xs:List Value,xs.length=m->w.ownsRow 0 e 1 v m xs->(∀k,v.ownBlock=some k->∃s,pl 0 1 0=some (k,s))->(∀(j:Nat) (r:List PV),rows[j]?=some r->∃u x,r= [x]/\xs[j]?=some u/\RepP (Own F pl) w u x)->_:=λxs e1 e2 e3 e4=>
  (⟨b',v,xs,h1,⟨⟨v0,hp,h2⟩,by rw [e1];exact e2,λe5=>by
   obtain ⟨s,e6⟩:=e3 b' e5;have:=(hm.inj _ _ _ _ _ _ b' _ _ (show pl 0 0 0=some (b',_) by rw [h1];rfl) e6).2.1;omega⟩,e1,e3,e4,_,h2,h3⟩:∃(b:Nat) (v:Value) (xs:List Value),pl 0 0=one b 2/\Bld T e b v xs w/\xs.length=m/\(∀k,v.ownBlock=some k->∃s,pl 0 1 0=some (k,s))/\(∀(j:Nat) (r:List PV),rows[j]?=some r->∃u x,r= [x]/\xs[j]?=some u/\RepP (Own F pl) w u x)/\
   ∃us,w.heap[b]?=some (.cells us T (0,0))/\zT F (fB T e 1 (cB 1 m) rows) pl w us.toList (cB 1 m))
 rcases r4 rfl with ⟨rfl,hm0,hpn⟩|⟨g,s,cap,hpg,rfl,hs,hmc,hcm⟩
 ·have:rows= []:=bR (by omega);subst this;exact fin [] (by simpa using hm0.symm) ⟨by simp [hm0],.inl ⟨rfl,hm0⟩⟩ (λk hk=>by cases hk) (λj r hr=>by simp at hr)
 ·rcases hr with ⟨_,h5⟩|⟨g',s',us1,h5,h6,h7,h8,h9,h10⟩
  ·exact (dS hpg h5).elim
  ·have h5:pl 0 1 0=some (g',s'):=by rw [show pl 0 1=one g' s' from h5];rfl
   have h6:w.heap[g']?=some (.cells us1 e (0,0)):=h6;have h8:rows.length*1<=s':=h8;have h9:∀r∈rows,r.length=1:=h9;rw [hpg] at h5;cases h5;have hsz:us1.toList.length=cap:=by rw [Array.length_toList,h7,hs];simp
   refine fin (us1.toList.take m) (by rw [List.length_take];omega) ⟨by rw [List.length_take];omega,.inr ⟨g,cap,us1,rfl,Nat.zero_le _,h6,hmc,hcm,by simpa using hsz,by simp⟩⟩ (λk hk=>by cases hk;exact ⟨_,hpg⟩) (λj r hr=>?_);have hj:j<m:=by rw [hl];exact (zamJ.1 hr).1
   have hr1:=h9 r (aC hr);obtain ⟨x,rfl⟩:∃x,r= [x]:=by
    match r,hr1 with
    | [x],_=>exact ⟨x,rfl⟩
   obtain ⟨u,h11,h12⟩:=h10 j [x] 0 x hr rfl;refine ⟨u,x,rfl,?_,h12⟩;rw [List.getElem?_take_of_lt hj];simpa using h11
theorem rO {T e:TypeId} {m:Nat} {rows rows':List (List PV)} {b:Nat} {v u:Value} {c:List CV} {us:Array Value} {x:AV} {y:Option (Nat×Nat)} (hm:MemOK F N0 (fB T e 1 (cB 1 m) rows) pl w) (hN:N0.n<=w.heap.size) (hb:pl 0 0=one b 2) (hs:BStep b v w w')
  (hown:∀k,v.ownBlock=some k->∃s,pl 0 1 0=some (k,s)) (hy:∀k s,y=some (k,s)->k<w'.heap.size/\k≠b/\((∃s0,pl 0 1 0=some (k,s0))\/w.heap.size<=k)) (hus:w'.heap[b]?=some (.cells us T (0,0))) (hc2:c.length=2)
  (hc:∀pl':Pl,pl' 0 0=one b 2->pl' 0 1 0=y->zT F ([]::fB T e 2 c rows') pl' w' us.toList c) (hd:∀x∈c,x.dep 0=true)
  (hrow:∀pl':Pl,(∀k,Own F pl' k->Own F pl k\/w.heap.size<=k)->(rows'= []/\y=none)\/∃g s us1,y=some (g,s)/\w'.heap[g]?=some (.cells us1 e (0,0))/\us1.size=s/\rows'.length*1<=s/\(∀r∈rows',r.length=1)/\∀j r o z,rows'[j]?=some r->r[o]?=some z->∃v,us1[j*1+o]?=some v/\RepP (Own F pl') w' v z)
  (hx:∀q∈x.cvs,isP q=true) (hv:∀pl',zf F ([]::fB T e 2 c rows') pl' w' u x):RetOK F N0 (fB T e 1 (cB 1 m) rows) pl w ⟨x,fB T e 2 c rows',[]⟩ u w':=by
 let pl':Pl:=λd n=>if d=0/\n=0 then one b 2 else if d=0/\n=1 then pcO y else nop
 have p0:pl' 0 0=one b 2:=by simp [pl']
 have p1:pl' 0 1=pcO y:=by simp [pl']
 have p1':pl' 0 1 0=y:=by rw [p1];rcases y with _|⟨_,_⟩<;>rfl
 have hb0:pl 0 0 0=some (b,2):=by rw [hb];rfl
 have px:∀{d n j k s},pl' d n j=some (k,s)->(d=0/\n=0/\j=0/\k=b/\s=2)\/(d=0/\n=1/\j=0/\y=some (k,s)):=fun {d n j k s} h=>by
  simp only [pl'] at h;split at h
  ·rename_i e;obtain ⟨e3,e4⟩:=aW h;cases e4;exact .inl ⟨e.1,e.2,e3,rfl,rfl⟩
  ·split at h
   ·rename_i e;rcases y with _|⟨_,_⟩
    ·cases h
    ·obtain ⟨e3,e4⟩:=aW h;exact .inr ⟨e.1,e.2,e3,congrArg some e4.symm⟩
   ·cases h
 have hstep:Step pl w w':=⟨hs.os,hs.tape,hs.output,hs.size,λk hk hn=>hs.block k hk (λe=>hn 0 0 0 2 (by rw [e];exact hb0)) (λe=>by obtain ⟨s,h⟩:=hown k e;exact hn 0 1 0 s h)⟩;have old:∀{d n j k s},pl' d n j=some (k,s)->(∃d0 n0 j0 s0,pl d0 n0 j0=some (k,s0))\/w.heap.size<=k:=fun {d n j k s} h=>by
  rcases px h with ⟨_,_,_,rfl,_⟩|⟨_,_,_,h⟩
  ·exact .inl ⟨0,0,0,2,hb0⟩
  ·rcases (hy k s h).2.2 with ⟨s0,h0⟩|h0
   ·exact .inl ⟨0,1,0,s0,h0⟩
   ·exact .inr h0
 have hbl:b<w'.heap.size:=(zamX.1 hus).1;have gt:∀d n B,zA d n ([]::fB T e 2 c rows')=some B->d=0/\((n=0/\B=⟨0,2,T,.box c⟩)\/(n=1/\B=⟨2,1,e,.row rows'⟩)):=λd n B h=>by
  rw [cF] at h;have hlt:=zO h;have hd0:d=0:=by simp at hlt;exact hlt
  subst hd0;exact ⟨rfl,Dt h⟩
 have hmem:MemOK F N0 ([]::fB T e 2 c rows') pl' w':=by
  refine ⟨λd n j k s h=>?_,λd n j d2 n2 j2 k s s2 h h2=>?_,λd n B hB=>?_,λk hk=>dV (hm.fsz k hk) hs.size,cU hm hstep.block⟩
  ·rcases px h with ⟨rfl,rfl,rfl,rfl,rfl⟩|⟨rfl,rfl,rfl,hy1⟩
   ·obtain ⟨x1,x2,x3,_⟩:=hm.live 0 0 0 _ _ hb0;exact ⟨x1,hbl,x3,_,by rw [cF];exact oJ⟩
   ·obtain ⟨x1,_,x2⟩:=hy k s hy1;refine ⟨?_,x1,?_,_,by rw [cF];exact tZ⟩
    ·rcases x2 with ⟨s0,h0⟩|h0
     ·exact (hm.live _ _ _ _ _ h0).1
     ·omega
    ·rcases x2 with ⟨s0,h0⟩|h0
     ·exact (hm.live _ _ _ _ _ h0).2.2.1
     ·intro hF;have:=hm.fsz k hF;omega
  ·rcases px h with ⟨rfl,rfl,rfl,rfl,rfl⟩|⟨rfl,rfl,rfl,hy1⟩<;>rcases px h2 with ⟨rfl,rfl,rfl,e1,rfl⟩|⟨rfl,rfl,rfl,hy2⟩
   ·exact ⟨rfl,rfl,rfl⟩
   ·exact absurd rfl (hy _ _ hy2).2.1
   ·exact absurd e1 (hy _ _ hy1).2.1
   ·exact ⟨rfl,rfl,rfl⟩
  ·obtain ⟨hd0,hB2⟩:=gt d n B hB
   clear hB
   subst hd0;rcases hB2 with ⟨rfl,rfl⟩|⟨rfl,rfl⟩
   ·exact ⟨b,us,by rw [p0,hc2],hus,hc pl' p0 p1',hd⟩
   ·rcases hrow pl' (λk hk=>by
     rcases hk with hk|⟨d,n,j,s,hk⟩
     ·exact .inl (.inl hk)
     ·rcases old hk with ⟨d0,n0,j0,s0,h0⟩|h0
      ·exact .inl (.inr ⟨d0,n0,j0,s0,h0⟩)
      ·exact .inr h0) with ⟨h1,h2⟩|⟨g,s,us1,h1,h2,h3,h4,h5,h6⟩
    ·exact .inl ⟨h1,p1.trans (by rw [h2];rfl)⟩
    ·exact .inr ⟨g,s,us1,p1.trans (by rw [h1];rfl),h2,h3,h4,h5,h6⟩
 refine ⟨⟨pl',?_,hmem,hstep,rfl,λd n B hB=>?_,λd n j k s h=>old h⟩,λq hq=>?_,λB hB=>by cases hB⟩
 ·rw [gT (λ_=>rfl) hx];exact hv pl'
 ·have hlt:=zO hB;have hd0:d=0:=by simp at hlt;exact hlt
  subst hd0;rcases Dt hB with ⟨rfl,rfl⟩|⟨rfl,rfl⟩
  ·exact ⟨_,oJ,λ_=>⟨rfl,Ext.of (by rw [p0,hb]),rfl⟩⟩
  ·exact ⟨_,tZ,λh=>by cases h⟩
 ·have:=hx q hq;cases q with
  |p z=>rfl
  |_=>simp [isP] at this
def byR (c:UInt8):List PV:= [.i .u8 c.toNat]
def zY (s:ByteArray) (m:Nat) (rows:List (List PV)):Option (Int×Nat×List (List PV)):=if m=rows.length/\m+s.size<=140737488355328 then some (s.size,m+s.size,rows++s.data.toList.map byR) else none
def inB (T e:TypeId) (l:List Nat):Bool:=l== [0,0,2,T,0,0,0,0,KO,0,1,1,1,1,1,e]
def aJ (T e:TypeId):List AV->List Frame->Option Res
 | [.c (.ptr a0 a1 a2 a3 a4),.c (.p (.s s))],[[(n0,⟨g0,z0,t0,.box [.ptr d1 n1 g1 j1 o1,.own d2 n2 g2 m]⟩),(n3,⟨g3,z3,t3,.row rows⟩)]]=>if (inB T e [n0,g0,z0,t0,d1,n1,g1,j1,o1,d2,n2,g2,n3,g3,z3,t3]&& [a0,a1,a2,a3,a4]== [0,0,0,0,0])=true then
   (zY s m rows).map λr=>⟨.tup [(false,[.p (.i .i64 r.1)]),(false,[.p .nif])],fB T e 2 (cB 2 r.2.1) r.2.2,[]⟩ else none
 |_,_=>none
theorem B8 {T e:TypeId} {n0 g0 z0 t0 d1 n1 g1 j1 o1 d2 n2 g2 n3 g3 z3 t3:Nat} (h:inB T e [n0,g0,z0,t0,d1,n1,g1,j1,o1,d2,n2,g2,n3,g3,z3,t3]=true):
  n0=0/\g0=0/\z0=2/\t0=T/\d1=0/\n1=0/\g1=0/\j1=0/\o1=KO/\d2=0/\n2=1/\g2=1/\n3=1/\g3=1/\z3=1/\t3=e:=by
 have h:=eq_of_beq h;simp only [List.cons.injEq,and_true] at h;exact h
theorem vX {T e:TypeId} {m:Nat} {rows:List (List PV)} {b:Nat} {v:Value} (hm:MemOK F N0 (fB T e 1 (cB 1 m) rows) pl w) (hb:pl 0 0=one b 2) (hs:BStep b v w w') (hown:∀k,v.ownBlock=some k->∃s,pl 0 1 0=some (k,s)) {pl':Pl} (ho:∀k,Own F pl' k->Own F pl k\/w.heap.size<=k)
  {u:Value} {x:PV} (h:RepP (Own F pl) w u x):RepP (Own F pl') w' u x:=
 h.step (λk hk hn=>hs.block k hk (λe=>hn (.inr ⟨0,0,0,2,by rw [e,hb];rfl⟩)) (λe=>by obtain ⟨s,h⟩:=hown k e;exact hn (.inr ⟨0,1,0,s,h⟩))) hs.size ho
theorem dG (L:Lays.n166 P ρ) (X:Builder.Extra P ρ):vU G P (ρ.f 166) (aJ (ρ.t 72) (ρ.t 5)):=by
 intro args up r h;unfold aJ at h;split at h
 ·rename_i a0 a1 a2 a3 a4 s n0 g0 z0 t0 d1 n1 g1 j1 o1 d2 n2 g2 m n3 g3 z3 t3 rows;split at h
  ·rename_i hc;rw [zL] at hc;obtain ⟨hc1,hc2⟩:=hc;obtain ⟨rfl,rfl,rfl,rfl,rfl,rfl,rfl,rfl,rfl,rfl,rfl,rfl,rfl,rfl,rfl,rfl⟩:=B8 hc1;have hc2:=eq_of_beq hc2;simp only [List.cons.injEq,and_true] at hc2;obtain ⟨rfl,rfl,rfl,rfl,rfl⟩:=hc2;obtain ⟨q,hq,rfl⟩:=zD.1 h;unfold zY at hq;split at hq
   ·rename_i hl;cases hq;intro F N0 pl w vals hm hN hv;obtain ⟨u,r1,rfl,hu,hv⟩:=zM hv;obtain ⟨u',r2,rfl,hu',hv⟩:=zM hv;obtain rfl:=aT hv;obtain rfl:=bU hu';obtain ⟨b,v,xs,hb,hB,hxl,hown,hcell,us,hus,hrus⟩:=B7 hm hl.1;obtain ⟨_,B0,q2,_,q4⟩:=hu;rw [oJ] at q2;cases q2;obtain ⟨b',s',q5,q6⟩:=q4 rfl;obtain rfl:b'=b:=by rw [hb] at q5;cases q5;rfl
    obtain rfl:u= .pointer (some ⟨b',0,none⟩):=by
     rcases q6 with ⟨_,q⟩|⟨q,_⟩
     ·exact q
     ·exact absurd q (by decide)
    refine cG (enters_of L.f166 (by kernel_rfl) rfl) ((AE L X s hB (by rw [hxl];exact hl.2)).mono λe w' ⟨he,v',hB',hst,hpl⟩=>⟨_,he,?_⟩);obtain ⟨p',hp',hbk'⟩:=hB'.blk;have hn':(xs++Lib.strCells s).length=m+s.size:=by rw [zamO,hxl,Lib.strCells_length]
    have hown':=hB'.own;rw [hn'] at hown';have rep1:∀{pl':Pl},(∀k,Own F pl' k->Own F pl k\/w.heap.size<=k)->∀j r,(rows++s.data.toList.map byR)[j]?=some r->∃u x,r= [x]/\(xs++Lib.strCells s)[j]?=some u/\RepP (Own F pl') w' u x:=fun {pl'} ho j r hr=>by
     by_cases hj:j<rows.length
     ·rw [zanA hj] at hr;obtain ⟨u,x,h1,h2,h3⟩:=hcell j r hr;exact ⟨u,x,h1,by rw [zanA (by omega)];exact h2,vX hm hb hst hown ho h3⟩
     ·rw [zanB (by omega),zamS] at hr;obtain ⟨c,hc,rfl⟩:=zD.1 hr;refine ⟨.int .u8 c.toNat,_,rfl,?_,.i _ _⟩;rw [zanB (by omega),Lib.strCells,zamS,show j-xs.length=j-rows.length by omega,hc];rfl
    have hval:∀pl',zf F ([]::fB (ρ.t 72) (ρ.t 5) 2 (cB 2 (m+s.size)) (rows++s.data.toList.map byR)) pl' w' (.tuple #[.int .i64 s.size,.nilIface]) (.tup [(false,[.p (.i .i64 s.size)]),(false,[.p .nif])]):=λpl'=>gK (.i _ _) .nif
    have hx:∀q∈(AV.tup [(false,[.p (.i .i64 s.size)]),(false,[.p .nif])]).cvs,isP q=true:=λq hq=>by
     simp only [AV.cvs,List.flatMap_cons,List.flatMap_nil,List.append_nil,List.cons_append,List.nil_append,zamT,List.not_mem_nil,or_false] at hq;rcases hq with rfl|rfl<;>rfl
    have hdep:∀q∈cB 2 (m+s.size),q.dep 0=true:=λq hq=>by
     simp only [zamT,List.not_mem_nil,or_false] at hq;rcases hq with rfl|rfl<;>simp [CV.dep]
    have hp2:p'.oneCell'=true:=by rcases hp' with rfl|rfl<;>rfl
    have box:∀(y:Option (Nat×Nat)),v'.oneCell'=true->((v'= .slice none 0 0/\m+s.size=0/\y=none)\/∃g sz cap,y=some (g,sz)/\v'= .slice (some ⟨g,0,none⟩) (m+s.size) cap/\sz=cap*1/\m+s.size<=cap/\cap<=maxLen)->
      ∀pl':Pl,pl' 0 0=one b' 2->pl' 0 1 0=y->zT F ([]::fB (ρ.t 72) (ρ.t 5) 2 (cB 2 (m+s.size)) (rows++s.data.toList.map byR)) pl' w' (#[p',v']:Array Value).toList (cB 2 (m+s.size)):=λy h1 h2 pl' g0 g1=>by
     refine ⟨rfl,λi u c hu hc=>?_⟩
     match i with
     |0=>
      cases hu;cases hc;exact ⟨⟨hp2,_,by rw [cF];exact oJ,zH _,λ_=>⟨b',2,by rw [g0];rfl,.inr ⟨rfl,hp'⟩⟩⟩,.inr hp2⟩
     |1=>
      cases hu;cases hc;refine ⟨⟨h1,_,by rw [cF];exact tZ,zH _,λ_=>?_⟩,.inr h1⟩;rcases h2 with ⟨e1,e2,e3⟩|⟨g,sz,cap,e1,e2,e3,e4,e5⟩
      ·exact .inl ⟨e1,e2,g1.trans e3⟩
      ·exact .inr ⟨g,sz,cap,g1.trans e1,e2,e3,e4,e5⟩
     |i+2=>simp at hu
    rcases hown'.2 with ⟨rfl,h0⟩|⟨g,cap,cur,rfl,_,hg,hnc,hcm,hcs,htake⟩
    ·have hr0:rows++s.data.toList.map byR= []:=by
      have h1:rows= []:=bR (by omega);have h2:s.data.toList= []:=bR (by have h3:s.data.toList.length=s.size:=Array.length_toList;omega);rw [h1,h2];rfl
     exact rO (y:=none) hm hN hb hst hown (λk s h=>by cases h) hbk' rfl (box none rfl (.inl ⟨rfl,h0,rfl⟩)) hdep (λpl' _=> .inl ⟨hr0,rfl⟩) hx hval
    ·refine rO (y:=some (g,cap*1)) hm hN hb hst hown (λk s h=>?_) hbk' rfl (box _ rfl (.inr ⟨g,_,cap,rfl,rfl,rfl,hnc,hcm⟩)) hdep (λpl' ho=> .inr ⟨g,cap*1,cur,rfl,hg,hcs,?_,?_,?_⟩) hx hval
     ·cases h;refine ⟨(zamX.1 hg).1,λe=>hB'.ne (by rw [e];rfl),?_⟩;rcases hpl g rfl with h1|h1
      ·exact .inl (hown g h1)
      ·exact .inr h1
     ·have:s.data.toList.length=s.size:=Array.length_toList;simp only [zamO,zamV,this];omega
     ·intro r hr;obtain ⟨j,hj⟩:=List.getElem?_of_mem hr;obtain ⟨_,x,rfl,_⟩:=rep1 ho j r hj;rfl
     ·intro j r o z hr hz;obtain ⟨u,x,rfl,h1,h2⟩:=rep1 ho j r hr;obtain rfl:o=0:=by
       cases o with
       |zero=>rfl
       |succ o=>simp at hz
      cases hz;refine ⟨u,?_,h2⟩;have h3:=congrArg (·[j]?) htake;simp only [h1] at h3;rw [List.getElem?_take] at h3;split at h3
      ·simpa using h3
      ·cases h3
   ·cases hq
  ·cases h
 ·cases h
def uA (rows:List (List PV)):Bool:=rows.all λr=>match r with| [.i .u8 n]=>decide (0<=n/\n<256)|_=>false
theorem uB:∀{rows:List (List PV)},uA rows=true->∃l:List UInt8,bytesOf rows=some l/\rows=l.map byR
 | [],_=>⟨[],rfl,rfl⟩
 |r::rows,h=>by
  simp only [uA,zanC,zL] at h;obtain ⟨l,h1,h2⟩:=uB (rows:=rows) h.2;have h3:=h.1;split at h3
  ·rename_i n;have h3:=of_decide_eq_true h3;refine ⟨UInt8.ofNat n.toNat::l,by simp [bytesOf,h1],?_⟩;rw [zanE,<-h2]
   congr 1
   simp only [byR,UInt8.toNat_ofNat',List.cons.injEq,PV.i.injEq,true_and,and_true];omega
  ·cases h3
def zk (m:Nat) (rows:List (List PV)):Option (ByteArray×List (List PV)):=if m=rows.length/\uA rows=true then (bytesOf rows).map λl=>(⟨l.toArray⟩,[]) else none
def bG (T e:TypeId):List AV->List Frame->Option Res
 | [.c (.ptr a0 a1 a2 a3 a4)],[[(n0,⟨g0,z0,t0,.box [.ptr d1 n1 g1 j1 o1,.own d2 n2 g2 m]⟩),(n3,⟨g3,z3,t3,.row rows⟩)]]=>if (inB T e [n0,g0,z0,t0,d1,n1,g1,j1,o1,d2,n2,g2,n3,g3,z3,t3]&& [a0,a1,a2,a3,a4]== [0,0,0,0,0])=true then
   (zk m rows).map λr=>⟨.c (.p (.s r.1)),fB T e 2 [.p .op,.p .op] r.2,[]⟩ else none
 |_,_=>none
theorem eG (L:Lays.n169 P ρ) (X:Builder.Extra P ρ):vU G P (ρ.f 169) (bG (ρ.t 72) (ρ.t 5)):=by
 intro args up r h;unfold bG at h;split at h
 ·rename_i a0 a1 a2 a3 a4 n0 g0 z0 t0 d1 n1 g1 j1 o1 d2 n2 g2 m n3 g3 z3 t3 rows;split at h
  ·rename_i hc;rw [zL] at hc;obtain ⟨hc1,hc2⟩:=hc;obtain ⟨rfl,rfl,rfl,rfl,rfl,rfl,rfl,rfl,rfl,rfl,rfl,rfl,rfl,rfl,rfl,rfl⟩:=B8 hc1;have hc2:=eq_of_beq hc2;simp only [List.cons.injEq,and_true] at hc2;obtain ⟨rfl,rfl,rfl,rfl,rfl⟩:=hc2;obtain ⟨q,hq,rfl⟩:=zD.1 h;unfold zk at hq;split at hq
   ·rename_i hl;obtain ⟨l,hby,rfl⟩:=zD.1 hq;obtain ⟨l',hl1,hl2⟩:=uB hl.2;obtain rfl:l'=l:=by rw [hby] at hl1;exact (Option.some.inj hl1).symm
    intro F N0 pl w vals hm hN hv;obtain ⟨u,r1,rfl,hu,hv⟩:=zM hv;obtain rfl:=aT hv;obtain ⟨b,v,xs,hb,hB,hxl,hown,hcell,us,hus,hrus⟩:=B7 hm hl.1;obtain ⟨_,B0,q2,_,q4⟩:=hu;rw [oJ] at q2;cases q2;obtain ⟨b',s',q5,q6⟩:=q4 rfl;obtain rfl:b'=b:=by rw [hb] at q5;cases q5;rfl
    obtain rfl:u= .pointer (some ⟨b',0,none⟩):=by
     rcases q6 with ⟨_,q⟩|⟨q,_⟩
     ·exact q
     ·exact absurd q (by decide)
    have hxs:xs=Lib.byteCells l':=by
     apply List.ext_getElem?;intro j;by_cases hj:j<xs.length
     ·have hj2:j<rows.length:=by omega
      obtain ⟨u,x,h1,h2,h3⟩:=hcell j _ (zh hj2);have h4:rows[j]?=some [x]:=by rw [zh hj2,h1]
      rw [hl2,zamS] at h4;obtain ⟨c,hc,hc2⟩:=zD.1 h4;simp only [byR,List.cons.injEq,and_true] at hc2;subst hc2;rw [h2,Lib.byteCells,zamS,hc];generalize hp:PV.i IntKind.u8 (c.toNat:Int)=p at h3;cases h3<;>cases hp;rfl
     ·rw [zamY (by omega),zamY (by rw [Lib.byteCells_length];have:=congrArg List.length hl2;rw [zamV] at this;omega)]
    subst hxs;refine cG (enters_of L.f169 (by kernel_rfl) rfl) ((vW L X l' hB).mono λe w' ⟨he,hst,hsame⟩=>⟨_,he,?_⟩);obtain ⟨p',hp',hbk'⟩:=hB.blk;have hone:v.oneCell'=true:=by rcases hB.own.2 with ⟨rfl,_⟩|⟨g,cap,cur,rfl,_⟩<;>rfl
    refine rO (y:=none) (us:= #[p',v]) hm hN hb hst hown (λk s h=>by cases h) (hsame.trans hbk') rfl (λpl' _ _=>⟨rfl,λi u c hu hc=>?_⟩) (λq hq=>?_) (λpl' _=> .inl ⟨rfl,rfl⟩) (λq hq=>?_) (λpl'=>RepP.s _)
    ·match i with
     |0=>cases hu;cases hc;exact ⟨RepP.op _ (by rcases hp' with rfl|rfl<;>rfl),.inr (by rcases hp' with rfl|rfl<;>rfl)⟩
     |1=>cases hu;cases hc;exact ⟨RepP.op _ hone,.inr hone⟩
     |i+2=>simp at hu
    ·simp only [zamT,List.not_mem_nil,or_false] at hq;rcases hq with rfl|rfl<;>rfl
    ·simp only [AV.cvs,zamQ] at hq;subst hq;rfl
   ·cases hq
  ·cases h
 ·cases h
def bL (s sep:ByteArray) (n:Int):Option (List (List PV)):=if s.size<4294967281/\1<=sep.size/\1<=n/\n<=9223372036854775807 then some ((Lib.splitB sep 0 (min n.toNat (s.size+1)-1) s).map λx=> [PV.s x]) else none
def cH:List AV->Option AV
 | [.c (.p (.s s)),.c (.p (.s sep)),.c (.p (.i .i64 n))]=>(bL s sep n).map λr=> .c (.p (.ls r))
 |_=>none
theorem AF {own:Nat->Prop} {xs:List ByteArray} {b cap:Nat} {cs:Array Value} {T:TypeId} (hown:¬own b) (hb:w.heap[b]?=some (.cells cs T (0,0))) (hc:xs.length<=cap) (hn:xs.length<=maxLen) (hcell:∀(j:Nat) (x:ByteArray),xs[j]?=some x->cs[j]?=some (Value.string x)):
  RepP own w (.slice (some ⟨b,0,none⟩) xs.length cap) (.ls (xs.map λx=> [PV.s x])):=by
 refine .ls (sz:=1) (λj _=> .string (xs.getD j default)) (by simp) hc hn (λ_=>⟨hown,(zamX.1 hb).1⟩) (λj e he=>?_) (λj e o x he hx=>?_)
 ·rw [zamS] at he;obtain ⟨x,hx,rfl⟩:=zD.1 he;refine ⟨rfl,λo y hy=>?_⟩;obtain rfl:o=0:=by
   cases o with
   |zero=>rfl
   |succ o=>simp at hy
  rw [cO,dR hb];simp only [Nat.mul_one,Nat.add_zero,Nat.zero_add];rw [hcell j x hx];simp [List.getD,hx]
 ·rw [zamS] at he;obtain ⟨y,hy,rfl⟩:=zD.1 he;obtain rfl:o=0:=by
   cases o with
   |zero=>rfl
   |succ o=>simp at hx
  cases hx;simp only [List.getD,hy,Option.getD_some];exact .s _
theorem AG {pl:Pl} {fs:List Frame} (hm:MemOK F N0 fs pl w):¬Own F pl w.heap.size:=λh=>by
 rcases h with h|⟨d,n,j,s,h⟩
 ·exact absurd (hm.fsz _ h) (Nat.lt_irrefl _)
 ·exact absurd (hm.live _ _ _ _ _ h).2.1 (Nat.lt_irrefl _)
theorem vY (o:Obj):Step cE w (w.alloc o):=⟨rfl,rfl,rfl,by simp,λk hk _=>heap_alloc_old w o hk⟩
theorem jU (L:Lays.n147 P ρ) (hi9:(P.info? (ρ.t 9)).map (λi=>(i.zero,i.size,i.bytes))=some (some (.string ByteArray.empty),1,16)) (hM:mF G (ρ.g 1)):eS G P (ρ.f 147) cH:=by
 intro args v h;unfold cH at h;split at h
 ·rename_i s sep n;obtain ⟨r,h1,rfl⟩:=zD.1 h;unfold bL at h1;split at h1
  ·rename_i hc;cases h1;obtain ⟨c1,c2,c3,c4⟩:=hc;obtain ⟨k,rfl⟩:∃k:Nat,n=k:=⟨n.toNat,by omega⟩;simp only [cT];refine ⟨λc hc=>⟨_,by simpa [AV.cvs] using hc⟩,λF N0 up pl w vals hm hN hv=>?_⟩;obtain ⟨u,r1,rfl,hu,hv⟩:=zM hv;obtain ⟨u',r2,rfl,hu',hv⟩:=zM hv;obtain ⟨u'',r3,rfl,hu'',hv⟩:=zM hv;obtain rfl:=aT hv;obtain rfl:=bU hu;obtain rfl:=bU hu';obtain rfl:=fM hu'';obtain ⟨m,hm1⟩:=hM w λk o h=>(hm.fix k o h).2
   refine cG (enters_of L.f147 (by kernel_rfl) rfl) ((Any.strings_SplitN L hi9 s sep k m w c1 hm1 c2 (by omega) (by omega)).mono λe w' ⟨he,hw⟩=>⟨_,he,?_⟩);subst hw;have hlen:=Lib.splitB_length_le sep 0 (min k (s.size+1)-1) s;refine ⟨vY _,AF (AG hm) (heap_alloc_new w _) (by omega) (by unfold maxLen;omega) λj x hx=>?_⟩;simp only [Lib.cellsOf,List.getElem?_toArray];rw [zanA (by rw [zamV];exact (zamJ.1 hx).1),zamS,hx];rfl
  ·cases h1
 ·cases h
end
end Go.Eng
