import Derived.Test.YtilkdjfhbahhdabGreatDoorE32
import Derived.Shelf.Strconv.Itoa4
import Derived.Shelf.Strconv.ParseIntPublic10
import Derived.Shelf.Small.Wraps
import Derived.Shelf.Strings.SlTrimAscii
import Derived.Shelf.Strings.OnBuilder
import Derived.Shelf.Strings.Replace
import Derived.Shelf.Strings.Cut
import Derived.HandedShaped
import Derived.Lib.LaidTab
import Derived.Stop.LaidErr
import Derived.JoinedOf
set_option linter.unusedVariables false
namespace Go.Eng
open Go.Shelf Go.RowKit Go.Proofs
section
variable {P:Program} {G:Nat->Option Obj} {ρ:Ren} {F:Nat->Prop} {fs:List Frame} {pl:Pl} {w:World}
def eS (G:Nat->Option Obj) (P:Program) (f:FuncId) (q:List AV->Option AV):Prop:=
 ∀args v,q args=some v->(∀c∈v.cvs,∃p,c= .p p)/\∀F (N0:Base G) up pl w vals,MemOK F N0 up pl w->N0.n<=w.heap.size->bQ F up pl w vals args->Goes P f vals.toArray w λu w'=>Step bS w w'/\zg F up pl w' u v
def BN:zo:=λ_ _ _=>none
def cQ (f:FuncId) (q:List AV->Option AV) (r:zo):zo:=λg xs up=>if g=f then sI q xs up else r g xs up
theorem xX:oW G P BN:=λf args up r h=>by cases h
theorem bM {f:FuncId} {q:List AV->Option AV} {r:zo} (h1:eS G P f q) (h2:oW G P r):oW G P (cQ f q r):=by
 intro g args up x h;unfold cQ at h;split at h
 ·rename_i e;subst e;intro F N0 pl w vals hm hN hv;obtain ⟨v,h3,rfl⟩:=zF.1 h;obtain ⟨hp,hg⟩:=h1 args v h3;exact (hg F N0 up pl w vals hm hN hv).mono λu w' ⟨hs,hr'⟩=>Av hp hm hs hr'
 ·exact h2 g args up x h
theorem zQ {us:List Value} {x:AV} {xs:List AV} (h:bQ F fs pl w us (x::xs)):∃u r,us=u::r/\zg F fs pl w u x/\bQ F fs pl w r xs:=by
 obtain ⟨h1,h2⟩:=h;cases us with
 |nil=>simp at h1
 |cons u r=>exact ⟨u,r,rfl,h2 0 u x rfl rfl,by simpa using h1,λi a b ha hb=>h2 (i+1) a b (by simpa using ha) (by simpa using hb)⟩
theorem bG {us:List Value} (h:bQ F fs pl w us []):us= []:=bJ h.1
theorem cB {u:Value} {b:ByteArray} (h:zg F fs pl w u (.c (.p (.s b)))):u= .string b:=by
 have h:RepP _ w u (.s b):=h;cases h;rfl
theorem fP {u:Value} {k:IntKind} {n:Int} (h:zg F fs pl w u (.c (.p (.i k n)))):u= .int k n:=by
 have h:RepP _ w u (.i k n):=h;cases h;rfl
theorem jC {a b:Value} {p q:PV} (h1:RepP (Own F pl) w a p) (h2:RepP (Own F pl) w b q):zg F fs pl w (.tuple #[a,b]) (.tup [(false,[.p p]),(false,[.p q])]):=by
 refine ⟨[a,b],rfl,rfl,λi u c hu hc=> .inr ?_⟩
 match i with
 |0=>cases hu;cases hc;exact ⟨rfl,_,rfl,h1⟩
 |1=>cases hu;cases hc;exact ⟨rfl,_,rfl,h2⟩
 |i+2=>simp at hu
theorem cR {f:FuncId} {vals:Array Value} {R:Value->World->Prop} (hf:Enters P f) (h:Calls P f vals w λe w'=>∃u,e= .returned u/\R u w'):Goes P f vals w R:= .inr ⟨hf vals w,h⟩
theorem cC {w':World} (h:Below w.heap.size w w'):Step bS w w':=⟨h.os,h.tape,h.output,h.size,λk hk _=>h.block k hk⟩
theorem xY (k:Nat) (os:Array Obj):Step bS w (Sort.grow (w.drewN k) os):=⟨rfl,rfl,rfl,by simp [Sort.grow],λk hk _=>by simp [Sort.grow,Array.getElem?_append_left,hk]⟩
def aD (x b:Int):Option ByteArray:=if b=10/\-9223372036854775808<=x/\x<=9223372036854775807 then some ⟨(Lib.itoa x).toArray⟩ else none
def aW:List AV->Option AV
 | [.c (.p (.i .i64 x)),.c (.p (.i .i64 b))]=>(aD x b).map λr=> .c (.p (.s r))
 |_=>none
theorem fQ (L : LaysM.n173 P ρ) (hT : ∀ w : World, (∀ k o, G k = some o → w.heap[k]? = some o) → Lib.TabIs P w "internal/strconv.uint64pow10" .u64 Lib.pow10Tab) : eS G P (ρ.f 173) aW := by
 intro args v h;unfold aW at h;split at h
 ·obtain ⟨r,h1,rfl⟩:=zF.1 h;unfold aD at h1;split at h1
  ·rename_i hc;cases h1;refine ⟨λc hc=>⟨_,by simpa [AV.cvs] using hc⟩,λF N0 up pl w vals hm hN hv=>?_⟩;obtain ⟨u,r1,rfl,hu,hv⟩:=zQ hv;obtain ⟨u',r2,rfl,hu',hv⟩:=zQ hv;obtain rfl:=bG hv;obtain rfl:=fP hu;obtain rfl:=fP hu';obtain ⟨rfl,h2,h3⟩:=hc;exact cR (enters_of L.f173 (by kernel_rfl) rfl) ((Any.strconv_FormatInt_10 L _ h2 h3 w (hT w λk o h=>(hm.fix k o h).2)).mono λe w' ⟨he,k,os,hw⟩=>⟨_,he,by rw [hw];exact xY k os,.s _⟩)
  ·cases h1
 ·cases h
def zX (s:ByteArray) (b k:Int):Option (Int⊕Int):=if b=10/\k=64/\s.size<=281474976710656 then (match Lib.parseIntB 64 s.data.toList with
 | .ok v=>some (.inl v)
 | .range=>some (.inr (Lib.intSat 64 s.data.toList))
 |_=>some (.inr 0)) else none
def bI:Int⊕Int->AV
 | .inl v=> .tup [(false,[.p (.i .i64 v)]),(false,[.p .nif])]
 | .inr v=> .tup [(false,[.p (.i .i64 v)]),(false,[.p .ifc])]
def bC:List AV->Option AV
 | [.c (.p (.s s)),.c (.p (.i .i64 b)),.c (.p (.i .i64 k))]=>(zX s b k).map bI
 |_=>none
def ErrCell (G:Nat->Option Obj) (g:Nat):Prop:=∀w:World,(∀k o,G k=some o->w.heap[k]?=some o)->∃ev,w.cell? ⟨g,0,none⟩=some ev/\(ev= .nilIface\/∃te pe,ev= .iface te pe)
theorem gG (L:LaysC.n174 P ρ) (h15:ErrCell G (ρ.g 15)) (h16:ErrCell G (ρ.g 16)):eS G P (ρ.f 174) bC:=by
 intro args v h;unfold bC at h;split at h
 ·rename_i s b k;obtain ⟨r,h1,rfl⟩:=zF.1 h;unfold zX at h1;split at h1
  ·rename_i hc;obtain ⟨rfl,rfl,hs⟩:=hc;have hcv:∀(n:Int) (q:PV),∀c∈(AV.tup [(false,[.p (.i .i64 n)]),(false,[.p q])]).cvs,∃p,c= .p p:=λn q c hc=>by
    simp only [AV.cvs,List.flatMap_cons,List.flatMap_nil,List.append_nil,List.cons_append,List.nil_append,zamT,List.not_mem_nil,or_false] at hc;rcases hc with rfl|rfl<;>exact ⟨_,rfl⟩
   rcases hx:Lib.parseIntB 64 s.data.toList with x|_|_
   ·rw [hx] at h1;cases h1;refine ⟨hcv _ _,λF N0 up pl w vals hm hN hv=>?_⟩;obtain ⟨u,r1,rfl,hu,hv⟩:=zQ hv;obtain ⟨u',r2,rfl,hu',hv⟩:=zQ hv;obtain ⟨u'',r3,rfl,hu'',hv⟩:=zQ hv;obtain rfl:=bG hv;obtain rfl:=cB hu;obtain rfl:=fP hu';obtain rfl:=fP hu'';refine cR (enters_of L.f174 (by kernel_rfl) rfl) ((Any.strconv_ParseInt_10_at64_ok L _ (by omega) _ hx w).mono λe w' ⟨he,hw⟩=>⟨_,he,?_,jC (.i _ _) .nif⟩);rcases hw with rfl|⟨t,rfl⟩
    ·exact ⟨rfl,rfl,rfl,zK _,λ_ _ _=>rfl⟩
    ·exact cC (Lib.bytesWorld_below _ _ _)
   ·rw [hx] at h1;cases h1;refine ⟨hcv _ _,λF N0 up pl w vals hm hN hv=>?_⟩;obtain ⟨u,r1,rfl,hu,hv⟩:=zQ hv;obtain ⟨u',r2,rfl,hu',hv⟩:=zQ hv;obtain ⟨u'',r3,rfl,hu'',hv⟩:=zQ hv;obtain rfl:=bG hv;obtain rfl:=cB hu;obtain rfl:=fP hu';obtain rfl:=fP hu'';obtain ⟨ev,e1,e2⟩:=h15 w λk o h=>(hm.fix k o h).2
    exact cR (enters_of L.f174 (by kernel_rfl) rfl) ((Any.strconv_ParseInt_10_at64_syntax L _ hs hx ev w e1 e2).mono λe w' ⟨N,he,_,_,hb⟩=>⟨_,he,cC hb,jC (.i _ _) (.ifc _ _)⟩)
   ·rw [hx] at h1;cases h1;refine ⟨hcv _ _,λF N0 up pl w vals hm hN hv=>?_⟩;obtain ⟨u,r1,rfl,hu,hv⟩:=zQ hv;obtain ⟨u',r2,rfl,hu',hv⟩:=zQ hv;obtain ⟨u'',r3,rfl,hu'',hv⟩:=zQ hv;obtain rfl:=bG hv;obtain rfl:=cB hu;obtain rfl:=fP hu';obtain rfl:=fP hu'';obtain ⟨ev,e1,e2⟩:=h16 w λk o h=>(hm.fix k o h).2
    exact cR (enters_of L.f174 (by kernel_rfl) rfl) ((Any.strconv_ParseInt_10_at64_range L _ hs hx ev w e1 e2).mono λe w' ⟨N,he,_,_,hb⟩=>⟨_,he,cC hb,jC (.i _ _) (.ifc _ _)⟩)
  ·cases h1
 ·cases h
def zt (s p:ByteArray):Option (ByteArray×Bool):=some (⟨(Lib.trimPrefix s.data.toList p.data.toList).toArray⟩,Lib.hasPrefix s.data.toList p.data.toList)
def aX:List AV->Option AV
 | [.c (.p (.s s)),.c (.p (.s p))]=>(zt s p).map λr=> .tup [(false,[.p (.s r.1)]),(false,[.p (.b r.2)])]
 |_=>none
theorem fR (L:Lays.n103 P ρ):eS G P (ρ.f 103) aX:=by
 intro args v h;unfold aX at h;split at h
 ·cases h;refine ⟨λc hc=>?_,λF N0 up pl w vals hm hN hv=>?_⟩
  ·simp only [AV.cvs,List.flatMap_cons,List.flatMap_nil,List.append_nil,List.cons_append,List.nil_append,zamT,List.not_mem_nil,or_false] at hc;rcases hc with rfl|rfl<;>exact ⟨_,rfl⟩
  obtain ⟨u,r1,rfl,hu,hv⟩:=zQ hv;obtain ⟨u',r2,rfl,hu',hv⟩:=zQ hv;obtain rfl:=bG hv;obtain rfl:=cB hu;obtain rfl:=cB hu';exact cR (enters_of L.f103 (by kernel_rfl) rfl) ((Any.strings_CutPrefix L _ _ w).mono λe w' ⟨he,hw⟩=>⟨_,he,by rw [hw];exact ⟨rfl,rfl,rfl,zK _,λ_ _ _=>rfl⟩,jC (.s _) (.b _)⟩)
 ·cases h
def zb (s p:ByteArray):Option ByteArray:=if p.size<4294967281/\p.data.toList.all (λb=>decide (b.toNat<128))=true then some ⟨(Lib.trimLeftS s.data.toList p.data.toList).toArray⟩ else none
def bD:List AV->Option AV
 | [.c (.p (.s s)),.c (.p (.s p))]=>(zb s p).map λr=> .c (.p (.s r))
 |_=>none
theorem gH (L:Lays.n161 P ρ) (h116:(P.info? (ρ.t 116)).map (λi=>(i.zero,i.size))=some (some (.agg (Array.replicate 256 (.bool false))),256)):eS G P (ρ.f 161) bD:=by
 intro args v h;unfold bD at h;split at h
 ·obtain ⟨r,h1,rfl⟩:=zF.1 h;unfold zb at h1;split at h1
  ·rename_i hc;cases h1;refine ⟨λc hc=>⟨_,by simpa [AV.cvs] using hc⟩,λF N0 up pl w vals hm hN hv=>?_⟩;obtain ⟨u,r1,rfl,hu,hv⟩:=zQ hv;obtain ⟨u',r2,rfl,hu',hv⟩:=zQ hv;obtain rfl:=bG hv;obtain rfl:=cB hu;obtain rfl:=cB hu';exact cR (enters_of L.f161 (by kernel_rfl) rfl) ((Any.strings_TrimLeft_laid L h116 _ _ w hc.1 (ascii_of_all hc.2)).mono λe w' ⟨he,hw⟩=>⟨_,he,cC hw,.s _⟩)
  ·cases h1
 ·cases h
def bN (s p:ByteArray):Option ByteArray:=if s.size<=9223372036854775807/\p.size<4294967281/\p.data.toList.all (λb=>decide (b.toNat<128))=true then some ⟨(Lib.trimS s.data.toList p.data.toList).toArray⟩ else none
def cH:List AV->Option AV
 | [.c (.p (.s s)),.c (.p (.s p))]=>(bN s p).map λr=> .c (.p (.s r))
 |_=>none
theorem kW (L:Lays.n160 P ρ) (h116:(P.info? (ρ.t 116)).map (λi=>(i.zero,i.size))=some (some (.agg (Array.replicate 256 (.bool false))),256)):eS G P (ρ.f 160) cH:=by
 intro args v h;unfold cH at h;split at h
 ·obtain ⟨r,h1,rfl⟩:=zF.1 h;unfold bN at h1;split at h1
  ·rename_i hc;cases h1;refine ⟨λc hc=>⟨_,by simpa [AV.cvs] using hc⟩,λF N0 up pl w vals hm hN hv=>?_⟩;obtain ⟨u,r1,rfl,hu,hv⟩:=zQ hv;obtain ⟨u',r2,rfl,hu',hv⟩:=zQ hv;obtain rfl:=bG hv;obtain rfl:=cB hu;obtain rfl:=cB hu';exact cR (enters_of L.f160 (by kernel_rfl) rfl) ((Any.strings_Trim_laid L h116 _ _ w hc.1 hc.2.1 (ascii_of_all hc.2.2)).mono λe w' ⟨he,hw⟩=>⟨_,he,cC hw,.s _⟩)
  ·cases h1
 ·cases h
def qQ (G:Nat->Option Obj) (g:Nat):Prop:=∀w:World,(∀k o,G k=some o->w.heap[k]?=some o)->∃m,w.cell? ⟨g,0,none⟩=some (.int .i64 m)
def zz (s o n:ByteArray):Option ByteArray:=if s.size<4294967281/\1<=o.size/\s.size+Lib.countB s o*n.size<=140737488355328 then some ⟨(Lib.replaceAll s.data.toList o.data.toList n.data.toList).toArray⟩ else none
def aT:List AV->Option AV
 | [.c (.p (.s s)),.c (.p (.s o)),.c (.p (.s n))]=>(zz s o n).map λr=> .c (.p (.s r))
 |_=>none
theorem eZ (L:Lays.n155 P ρ) (X:Builder.Extra P ρ) (hM:qQ G (ρ.g 1)):eS G P (ρ.f 155) aT:=by
 intro args v h;unfold aT at h;split at h
 ·obtain ⟨r,h1,rfl⟩:=zF.1 h;unfold zz at h1;split at h1
  ·rename_i hc;cases h1;refine ⟨λc hc=>⟨_,by simpa [AV.cvs] using hc⟩,λF N0 up pl w vals hm hN hv=>?_⟩;obtain ⟨u,r1,rfl,hu,hv⟩:=zQ hv;obtain ⟨u',r2,rfl,hu',hv⟩:=zQ hv;obtain ⟨u'',r3,rfl,hu'',hv⟩:=zQ hv;obtain rfl:=bG hv;obtain rfl:=cB hu;obtain rfl:=cB hu';obtain rfl:=cB hu'';obtain ⟨m,hm1⟩:=hM w λk o h=>(hm.fix k o h).2
   exact cR (enters_of L.f155 (by kernel_rfl) rfl) ((Any.strings_ReplaceAll L X _ _ _ m w hc.1 hm1 hc.2.1 hc.2.2).mono λe w' ⟨he,hw⟩=>⟨_,he,cC hw,.s _⟩)
  ·cases h1
 ·cases h
theorem BO {a b c:Value} {p q r:PV} (h1:RepP (Own F pl) w a p) (h2:RepP (Own F pl) w b q) (h3:RepP (Own F pl) w c r):zg F fs pl w (.tuple #[a,b,c]) (.tup [(false,[.p p]),(false,[.p q]),(false,[.p r])]):=by
 refine ⟨[a,b,c],rfl,rfl,λi u c hu hc=> .inr ?_⟩
 match i with
 |0=>cases hu;cases hc;exact ⟨rfl,_,rfl,h1⟩
 |1=>cases hu;cases hc;exact ⟨rfl,_,rfl,h2⟩
 |2=>cases hu;cases hc;exact ⟨rfl,_,rfl,h3⟩
 |i+3=>simp at hu
def bY (s p:ByteArray):Option (ByteArray×ByteArray×Bool):=if s.size<4294967281 then some (⟨(Lib.cut s.data.toList p.data.toList).1.toArray⟩,⟨(Lib.cut s.data.toList p.data.toList).2.1.toArray⟩,(Lib.cut s.data.toList p.data.toList).2.2) else none
def cS:List AV->Option AV
 | [.c (.p (.s s)),.c (.p (.s p))]=>(bY s p).map λr=> .tup [(false,[.p (.s r.1)]),(false,[.p (.s r.2.1)]),(false,[.p (.b r.2.2)])]
 |_=>none
theorem nJ (L:Lays.n145 P ρ) (hM:qQ G (ρ.g 1)):eS G P (ρ.f 145) cS:=by
 intro args v h;unfold cS at h;split at h
 ·obtain ⟨r,h1,rfl⟩:=zF.1 h;unfold bY at h1;split at h1
  ·rename_i hc;cases h1;refine ⟨λc hc=>?_,λF N0 up pl w vals hm hN hv=>?_⟩
   ·simp only [AV.cvs,List.flatMap_cons,List.flatMap_nil,List.append_nil,List.cons_append,List.nil_append,zamT,List.not_mem_nil,or_false] at hc;rcases hc with rfl|rfl|rfl<;>exact ⟨_,rfl⟩
   obtain ⟨u,r1,rfl,hu,hv⟩:=zQ hv;obtain ⟨u',r2,rfl,hu',hv⟩:=zQ hv;obtain rfl:=bG hv;obtain rfl:=cB hu;obtain rfl:=cB hu';obtain ⟨m,hm1⟩:=hM w λk o h=>(hm.fix k o h).2
   exact cR (enters_of L.f145 (by kernel_rfl) rfl) ((Any.strings_Cut L _ _ m w hc hm1).mono λe w' ⟨he,n,hw⟩=>⟨_,he,by rw [hw];exact ⟨rfl,rfl,rfl,zK _,λ_ _ _=>rfl⟩,BO (.s _) (.s _) (.b _)⟩)
  ·cases h1
 ·cases h
def eT:List (List PV)->Option (List ByteArray)
 | []=>some []
 | [.s x]::r=>(eT r).map (x:: ·)
 |_=>none
theorem pH:∀{rows:List (List PV)} {xs:List ByteArray},eT rows=some xs->rows.length=xs.length/\∀(j:Nat) (x:ByteArray),xs[j]?=some x->rows[j]?=some [PV.s x]
 | [],xs,h=>by
  simp only [eT,zR] at h;subst h;exact ⟨rfl,λj x h=>by simp at h⟩
 |r::rows,xs,h=>by
  unfold eT at h;split at h
  ·rename_i heq;cases heq
  ·rename_i x rs heq;cases heq;obtain ⟨q,hq,rfl⟩:=zF.1 h;obtain ⟨h1,h2⟩:=pH hq;refine ⟨by simp [h1],λj y hy=>?_⟩;cases j with
   |zero=>simp at hy;subst hy;rfl
   |succ j=>simpa using h2 j y (by simpa using hy)
  ·cases h
def cI (rows:List (List PV)) (sep:ByteArray):Option ByteArray:=(eT rows).bind λxs=>if xs.length<=140737488355328/\(Lib.join (xs.map (·.data.toList)) sep.data.toList).length<=140737488355328 then some ⟨(Lib.join (xs.map (·.data.toList)) sep.data.toList).toArray⟩ else none
def cJ:List AV->Option AV
 | [.c (.p (.ls rows)),.c (.p (.s sep))]=>(cI rows sep).map λr=> .c (.p (.s r))
 |_=>none
theorem kX (L:Lays.n156 P ρ) (X:Builder.Extra P ρ):eS G P (ρ.f 156) cJ:=by
 intro args v h;unfold cJ at h;split at h
 ·rename_i rows sep;obtain ⟨r,h1,rfl⟩:=zF.1 h;obtain ⟨xs,hx,h1⟩:=zJ.1 h1;split at h1
  ·rename_i hc;cases h1;obtain ⟨hl,hg⟩:=pH hx;refine ⟨λc hc=>⟨_,by simpa [AV.cvs] using hc⟩,λF N0 up pl w vals hm hN hv=>?_⟩;obtain ⟨u,r1,rfl,hu,hv⟩:=zQ hv;obtain ⟨u',r2,rfl,hu',hv⟩:=zQ hv;obtain rfl:=bG hv;obtain rfl:=cB hu';have hu:RepP _ w u (.ls rows):=hu;have fin:∀{u:Value},(Calls P (ρ.f 156) #[u,.string sep] w λe w'=>e= .returned (.string ⟨(Lib.join (xs.map (·.data.toList)) sep.data.toList).toArray⟩)/\Below w.heap.size w w')->Goes P (ρ.f 156) [u,.string sep].toArray w λu w'=>Step bS w w'/\zg F up pl w' u (.c (.p (.s ⟨(Lib.join (xs.map (·.data.toList)) sep.data.toList).toArray⟩))):=λh=>
    cR (enters_of L.f156 (by kernel_rfl) rfl) (h.mono λe w' ⟨he,hw⟩=>⟨_,he,cC hw,.s _⟩)
   cases hu with
   |nls=>
    obtain rfl:xs= []:=bJ (by simpa using hl.symm);exact fin ((Any.strings_Join_none L X none 0 sep w).mono λe w' ⟨he,hw⟩=>⟨he,hw▸Below.refl _ _⟩)
   | @ls a n c sz _ val hl2 hcap hmax ho hcell hrep=>
    cases xs with
    |nil=>
     obtain rfl:n=0:=by rw [<-hl2,hl];rfl
     exact fin ((Any.strings_Join_none L X (some a) c sep w).mono λe w' ⟨he,hw⟩=>⟨he,hw▸Below.refl _ _⟩)
    |cons x0 xs=>
     obtain ⟨ab,ao,ap⟩:=a;have hne:rows≠ []:=λe=>by rw [e] at hl;simp at hl
     have hn:n=(x0::xs).length:=by rw [<-hl2,hl]
     have hsz:sz=1:=((hcell 0 _ (hg 0 x0 rfl)).1).symm;have hcl:∀(j:Nat) x,(x0::xs)[j]?=some x->w.cell? ((⟨ab,ao,ap⟩:Addr).add j)=some (.string x):=λj x hj=>by
      obtain ⟨c1,c2⟩:=hcell j _ (hg j x hj);have c3:=c2 0 _ rfl;have c4:=hrep j _ 0 _ (hg j x hj) rfl;rw [hsz,Nat.mul_one,Nat.add_zero] at c3;rw [c3];generalize val j 0=q at c4;cases c4;rfl
     subst hn;have h0:=hcl 0 x0 rfl;obtain rfl:ap=none:=by
      cases ap with
      |none=>rfl
      |some k=>
       simp only [Addr.add,if_true,World.cell?] at h0;split at h0
       ·simp at h0
       ·cases h0
     exact fin (Any.strings_Join L X ab ao c (x0::xs) sep w (λj x hj=>by
      have h3:=hcl j x hj;by_cases hj0:j=0
      ·subst hj0;simpa [Addr.add] using h3
      ·simpa [Addr.add,hj0] using h3) (ho hne).2 hc.1 hcap hc.2)
  ·cases h1
 ·cases h
theorem xZ {W:World} {name:String} {k:IntKind} {zs:List Int} {g:Nat} (hg:P.globalNamed name=some g) (h:Lib.TabIs P W name k zs) (hk:∀o,W.heap[g]?=some o->w.heap[g]?=some o):Lib.TabIs P w name k zs:=by
 unfold Lib.TabIs World.var? at h⊢;simp only [hg,aA] at h⊢;cases ho:W.heap[g]? with
 |none=>rw [ho] at h;cases h
 |some o=>rw [hk o ho];rw [ho] at h;exact h
theorem nK {W:World} {g:Nat} {v:Value} (h:W.cell? ⟨g,0,none⟩=some v) (hk:∀o,W.heap[g]?=some o->w.heap[g]?=some o):w.cell? ⟨g,0,none⟩=some v:=by
 cases ho:W.heap[g]? with
 |none=>simp [World.cell?,ho] at h
 |some o=>
  rw [<-h];exact World.cell?_of_block (by show w.heap[g]?=W.heap[g]?;rw [hk o ho,ho])
def GOf (n:Nat) (W:World):Nat->Option Obj:=λk=>if k<n then W.heap[k]? else none
theorem gof_self {n:Nat} {W:World}:∀k o,GOf n W k=some o->W.heap[k]?=some o:=λk o h=>by
 unfold GOf at h;split at h
 ·exact h
 ·cases h
theorem uR {n:Nat} {W:World} (h:∀k o,GOf n W k=some o->w.heap[k]?=some o) {g:Nat} (hg:g<n):∀o,W.heap[g]?=some o->w.heap[g]?=some o:=λo ho=>h g o (by unfold GOf;rw [if_pos hg];exact ho)
theorem errCell_of {n nm:String} {d:DataW Unit} {r:List (String×DataW Unit)} {W:World} {g N:Nat} {ti:TypeId} {ms:Array (String×TypeId)} (h:laidMet P ((n,.iface nm d)::r) W)
  (hg:P.globalNamed n=some g) (ht:(P.globals[g]?).map (·.type)=some ti) (hi:P.underlying ti=some (.interface ms)) (hN:g<N):ErrCell (GOf N W) g:=by
 obtain ⟨ps,⟨g0,t0,cs0,f0,p0,q0,hg0,ht0,hv0,hd0,_,e0⟩,_,hrows⟩:=h;obtain rfl:=Option.some.inj (hg.symm.trans hg0);obtain rfl:=Option.some.inj (ht.symm.trans ht0);obtain ⟨l0⟩:=cs0;obtain ⟨f1,u,v,rfl,hn,h1⟩:=iface_of_trod hi hd0;intro w hw;exact ⟨.iface u v,nK (by simpa using World.var?_cell hg0 hv0 0) (uR hw hN),.inr ⟨_,_,rfl⟩⟩
theorem returnsInHanded_of_change_both {H:Type} {enc:TypeId×Value->H} {a:Assume} {C:Checked} {os:Os} {f:FuncId} {fn:Func} {s:ChangeSpec} {conds:List PathCond} {apart fresh handsOn again:Bool} {X:World->Array Value->Prop}
  (hX:∀(w w':World) (args:Array Value),w.heap=w'.heap->X w args->X w' args)
  (own:ownKnob C.prog.godebug=none) (started:os.Started) (noInit:C.prog.inits.idxOf? f=none) (hfn:C.prog.funcs[f]?=some fn)
  (witness:∃(w:World) (tape:Tape) (i:Input),w.os=os/\(w.forCall tape i).Shaped C.prog/\i.vars= []/\Input.okWide C.prog (w.forCall tape i) .any w.heap.size f i/\
   ((s.pre enc C.prog fn conds apart (w.forCall tape i).memory i.args/\X (w.forCall tape i).memory i.args)/\sizedMet enc C.prog fn (OpenSpec.ofChange s) apart (w.forCall tape i).memory i.args)/\a.holds C.prog (lone (Frame.enter C.prog f i.args .normal) [] (w.forCall tape i)))
  (contract:∀(W:World) (base:Nat) (args:Array Value) (ds gs:List (DataW H)) (before:List MemPlace),
   (∀(j:Nat) t v,fn.params[j]?=some t->args[j]?=some v->Value.okWide C.prog W .any base t v)->
   DataW.Whole enc C.prog fn.params.toList s.vars apart W args.toList ds gs before->
   conds.all (PathCond.test C.prog ⟨fn.params.toList,ds,s.plain.varTypes C.prog,gs⟩)=true->
   (DataW.weightsEach C.prog (fn.params.toList++s.plain.varTypes C.prog) (ds++gs)).all (· <=reachBytes)=true->X W args->W.ShapedOpen C.prog->
   a.holds C.prog (lone (Frame.enter C.prog f args .normal) [] W)->
   Calls C.prog f args W λe W'=>∃v,e= .returned v/\s.post enc C.prog fn apart fresh handsOn again W args v W'):
  ReturnsInHanded a C os f .any (λw args=>(s.pre enc C.prog fn conds apart w args/\X w args)/\sizedMet enc C.prog fn (OpenSpec.ofChange s) apart w args) (s.post enc C.prog fn apart fresh handsOn again):=by
 refine returnsInHanded_of_calls own started noInit witness ?_;intro w tape i _ hsh _ hok hpre hholds;obtain ⟨_,_,_,fn',hfn',_,_,_,_,hval⟩:=hok;have e:fn'=fn:=Option.some.inj (hfn'.symm.trans hfn);subst e;obtain ⟨⟨⟨ds,gs,before,hw,hc⟩,hx⟩,hz⟩:=hpre;have hw':=DataW.Whole.of_heap (w':=w.forCall tape i) (by rfl) hw;refine (contract (w.forCall tape i) w.heap.size i.args ds gs before hval hw' hc (hz.weights hw) (hX _ _ _ (by rfl) hx) hsh hholds).mono λe W' ⟨v,he,hp⟩=>?_
 subst he;exact ChangeSpec.post_blind hp
theorem nL {W:World} {g N:Nat} (h:∃m,W.cell? ⟨g,0,none⟩=some (.int .i64 m)) (hN:g<N):qQ (GOf N W) g:=λw hw=>by
 obtain ⟨m,hm⟩:=h;exact ⟨m,nK hm (uR hw hN)⟩
end
end Go.Eng
namespace Go.Eng
def restFacts (P:Program) (fn:Func) (s:ChangeSpec) (c:OpenClaim):Bool:=
 c.wf (OpenSpec.ofChange s)&&laidOutB P&&mapsRowed P&&
 fn.params.all (P.readableRec ·)&&namedTie P c.named s.vars&&
 (c.stops== [])&&(P.stops== [])&&(c.knobs== [])&&(P.stopKnobs== [])&&
 (c.maps==(fn.params.toList++s.plain.varTypes P).any (P.mapsRec ·))&&(c.ifaces==(fn.params.toList++s.plain.varTypes P).any (P.ifacesRec ·))&&(c.mapsOut==P.mapsAmong fn.resultTypes.toList)&&
 (c.loops==(fn.params.toList++s.plain.varTypes P).any (P.loopsFrom ·))&&(c.wideKeys==(fn.params.toList++s.plain.varTypes P++fn.resultTypes.toList).any (P.wideKeysFrom ·))&&
 s.vars.all (P.varReadable ·)&&fn.resultTypes.all (λt=>P.readableRec t&&decide (t<P.types.size))&&(c.ifacesOut==fn.resultTypes.toList.any (P.ifacesRec ·))&&(c.loopsOut==fn.resultTypes.toList.any (P.loopsFrom ·))&&(c.plainKeys==P.plainKeys)&&c.shortTexts.isNone&&(P.make==some c.make)&&(c.kinds==(if c.domain.isEmpty then [] else fn.params.toList.map λt=>match P.underlying t with|some (.int k)=>some k|_=>none))&&(c.pinned==c.pinnedBy)&&
 (c.veiled==(fn.params.toList++s.plain.varTypes P++fn.resultTypes.toList).any (P.veiledRec ·))&&c.veiledFits P fn.params.toList (fn.params.toList++s.plain.varTypes P++fn.resultTypes.toList)
theorem joined_of {P:Program} {f:FuncId} {fn:Func} {s:ChangeSpec} {c:OpenClaim} (h1:(c.inPlace==P.inPlace f)=true) (h2:(c.unfollowed==P.unfollowed f)=true) (h3:(c.recurses==P.recurses f)=true) (h4:(c.named==P.varsNamed f)=true)
  (h5:(c.lifted==P.liftsFinal)=true) (h6:P.mayEnter=true) (h7:P.stopsHeard=true) (h8:restFacts P fn s c=true):joinedFacts P f fn s c=true:=by
 unfold joinedFacts;unfold restFacts at h8;rw [h1,h2,h3,h4,h5,h6,h7];simp only [Bool.and_true];exact h8
end Go.Eng
