import Derived.Test.YtilkdjfhbahhdabGreatDoorKFnCircles
namespace Go.Proofs.YtilkdjfhbahhdabGreatDoor.KFnCircles
open Go.Eng
set_option linter.unusedVariables false
set_option maxRecDepth 100000
noncomputable section
abbrev RW:=List (List PV)
abbrev BA:=ByteArray
abbrev FH:List (Nat×Blk):= [(0,⟨0,4,235,(.box [qS,qI,qB,(.own 0 1 1 0)])⟩),(1,⟨1,14,191,(.row [])⟩)]
abbrev FI:List (Nat×Blk):= [(0,⟨0,3,205,(.box [qS,(.own 0 1 1 0),qB])⟩),(1,⟨1,14,191,(.row [])⟩)]
abbrev Hq:List (Nat×Blk):= [(0,⟨0,2,175,(.box [qL,qI])⟩)]
abbrev oe:List (Nat×Blk):= [(128,⟨0,3,118,(.box [(.p .nl),(.p .nl),(.p .nl)])⟩),(192,⟨0,3,118,(.box [qL,(.own 0 194 0 0),(.own 0 195 0 0)])⟩),(1792,⟨0,1,3,(.row [])⟩),(194,⟨0,1,120,(.row [])⟩),(195,⟨0,1,187,(.row [])⟩)]
abbrev og:List (Nat×Blk):= [(128,⟨0,3,118,(.box [(.p .nl),(.p .nl),(.p .nl)])⟩),(192,⟨0,3,118,(.box [qL,(.own 0 194 0 0),(.own 0 195 0 0)])⟩),(194,⟨0,1,120,(.row [])⟩),(195,⟨0,1,187,(.row [])⟩)]
abbrev bh:List (Nat×Blk):= [(128,⟨0,3,144,(.box [qI,qI,qS])⟩),(256,⟨0,3,144,(.box [qI,qI,qS])⟩)]
abbrev oh:List (Nat×Blk):= [(448,⟨0,14,191,(.box [qI,qI,qI,qI,qS,qI,qI,qB,qB,qI,qI,qB,qB,qL])⟩),(5760,⟨0,1,9,(.row [])⟩)]
abbrev fm:List (Nat×Blk):= [(256,⟨0,2,34,(.box [qI,qI])⟩),(2408,⟨0,2,34,(.row [])⟩)]
abbrev oj:List (Nat×Blk):= [(128,⟨0,4,96,(.box [qI,qI,qB,qB])⟩),(256,⟨0,4,96,(.box [qI,qI,qB,qB])⟩)]
abbrev bi:List (Nat×Blk):= [(192,⟨0,2,34,(.box [qI,qI])⟩)]
abbrev fo:List (Nat×Blk):= [(256,⟨0,2,34,(.box [qI,qI])⟩),(640,⟨0,3,59,(.row [])⟩)]
abbrev fp:List (Nat×Blk):= [(192,⟨0,2,34,(.box [qI,qI])⟩),(744,⟨0,2,34,(.row [])⟩)]
abbrev ZA:List (Nat×Blk):= [(640,⟨0,2,34,(.row [])⟩)]
abbrev fq:List (Nat×Blk):= [(128,⟨0,3,144,(.box [qI,qI,qS])⟩)]
abbrev ft:List (Nat×Blk):= [(384,⟨0,4,193,(.row [])⟩)]
abbrev fu:List (Nat×Blk):= [(320,⟨0,4,193,(.row [])⟩)]
abbrev fv:List (Nat×Blk):= [(1600,⟨0,2,34,(.row [])⟩)]
abbrev fw:List (Nat×Blk):= [(320,⟨0,3,59,(.row [])⟩)]
abbrev fx:List (Nat×Blk):= [(640,⟨0,1,2,(.row [])⟩)]
def y7:Sg:=⟨10,[aL],[],⟨aB,[],[]⟩⟩
def SC (n:Nat) (x0:RW):Tr (Bool):=(.done (decide ((x0.length:Int)>(1048576:Int))))
def Oc:Nat->RW->Option (Bool)
 |0,_=>none
 |n+1,x0=>(SC n x0).run
theorem Zx:∀n,Ok (Rn n) y7 (Oc n)
 |0=>ok0 λ_=>rfl
 |n+1=>stO (T:=SC n) (by kernel_rfl) [] [] (λ_=>(by kernel_rfl)) λ_=>(by kernel_rfl)
def X7:Sg:=⟨54,[aL],[],⟨(.c (.ptr 0 0 0 0 0)),[],[⟨0,2,175,(.box [qL,qI])⟩]⟩⟩
def Na (n:Nat) (x0:RW):Tr (RW×Int):=(.done (x0,(0:Int)))
def Kt:Nat->RW->Option (RW×Int)
 |0,_=>none
 |n+1,x0=>(Na n x0).run
theorem Wl:∀n,Ok (Rn n) X7 (Kt n)
 |0=>ok0 λ_=>rfl
 |n+1=>stO (T:=Na n) (by kernel_rfl) [] [] (λ_=>(by kernel_rfl)) λ_=>(by kernel_rfl)
def UF:Sg:=⟨151,[(.c (.ptr 0 0 0 0 0))],[Hq],⟨aI,[Hq],[]⟩⟩
def Io (n:Nat) (x0:RW) (x1:Int):Tr (Int×RW×Int):=(.ask ((decide (x1≥(x0.length:Int)))) (.done ((0:Int),x0,x1)) (.ask (decide (0<=(IntKind.i64.wrap ((IntKind.i64.wrap (x1+(1:Int)))-(1:Int)))/\(IntKind.i64.wrap ((IntKind.i64.wrap (x1+(1:Int)))-(1:Int)))<x0.length)) (.opt (x0[((IntKind.i64.wrap ((IntKind.i64.wrap (x1+(1:Int)))-(1:Int)))).toNat]?) λa=>(.ask (decide (a.length=1)) (.opt (zC .u8 a 0) λb=>(.done ((IntKind.i64.wrap b),x0,(IntKind.i64.wrap (x1+(1:Int)))))) .fail)) .fail))
def FL:Nat->RW->Int->Option (Int×RW×Int)
 |0,_,_=>none
 |n+1,x0,x1=>(Io n x0 x1).run
theorem M7:∀n,Ok (Rn n) UF (FL n)
 |0=>ok0 λ_=>rfl
 |n+1=>stO (T:=Io n) (by kernel_rfl) [] [] (λ_=>(by kernel_rfl)) λ_=>(by kernel_rfl)
def S7:Sg:=⟨76,[(.c (.ptr 0 0 0 0 0)),aI],[Hq],⟨aI,[Hq],[]⟩⟩
def G9 (n:Nat) (x0:Int) (x1:RW) (x2:Int):Tr (Int×RW×Int):=(.ask ((decide (x0<=(1:Int)))) (.done ((0:Int),x1,x2)) (.ask ((decide (x0<=(256:Int)))) (.opt (FL n x1 x2) λa=>(.ask (decide (x0=0)) .fail (.done ((Int.tmod a.1 x0),a.2.1,a.2.2)))) (.opt (FL n x1 x2) λb=>(.opt (FL n b.2.1 b.2.2) λc=>(.ask (decide (x0=0)) .fail (.done ((Int.tmod (IntKind.i64.wrap ((IntKind.i64.wrap (b.1*(256:Int)))+c.1)) x0),c.2.1,c.2.2)))))))
def qi:Nat->Int->RW->Int->Option (Int×RW×Int)
 |0,_,_,_=>none
 |n+1,x0,x1,x2=>(G9 n x0 x1 x2).run
abbrev S8 (n:Nat):List (Ent (Rn n)):= [en (M7 n)]
theorem Ew:∀n,Ok (Rn n) S7 (qi n)
 |0=>ok0 λ_=>rfl
 |n+1=>stO (T:=G9 n) (by kernel_rfl) (S8 n) [] (λ_=>(by kernel_rfl)) λ_=>(by kernel_rfl)
def Vh:Sg:=⟨77,[(.c (.ptr 0 0 0 0 0))],[Hq],⟨(.agg [qI,qI]),[Hq],[]⟩⟩
def LL (n:Nat) (x0:RW) (x1:Int):Tr (Int×Int×RW×Int):=(.opt (qi n (3:Int) x0 x1) λa=>(.opt (qi n (4:Int) a.2.1 a.2.2) λb=>(.done ((IntKind.i64.wrap ((1:Int)+a.1)),(IntKind.i64.wrap ((1:Int)+b.1)),b.2.1,b.2.2))))
def D1:Nat->RW->Int->Option (Int×Int×RW×Int)
 |0,_,_=>none
 |n+1,x0,x1=>(LL n x0 x1).run
abbrev Vi (n:Nat):List (Ent (Rn n)):= [en (Ew n)]
theorem Ip:∀n,Ok (Rn n) Vh (D1 n)
 |0=>ok0 λ_=>rfl
 |n+1=>stO (T:=LL n) (by kernel_rfl) (Vi n) [] (λ_=>(by kernel_rfl)) λ_=>(by kernel_rfl)
def UG:Sg:=⟨75,[(.c (.ptr 0 0 0 0 0)),aI],[Hq],⟨aB,[Hq],[]⟩⟩
def Ka (n:Nat) (x0:Int) (x1:RW) (x2:Int):Tr (Bool×RW×Int):=(.opt (qi n x0 x1 x2) λa=>(.done ((a.1==(IntKind.i64.wrap (x0-(1:Int)))),a.2.1,a.2.2)))
def DR:Nat->Int->RW->Int->Option (Bool×RW×Int)
 |0,_,_,_=>none
 |n+1,x0,x1,x2=>(Ka n x0 x1 x2).run
abbrev UH (n:Nat):List (Ent (Rn n)):= [en (Ew n)]
theorem HA:∀n,Ok (Rn n) UG (DR n)
 |0=>ok0 λ_=>rfl
 |n+1=>stO (T:=Ka n) (by kernel_rfl) (UH n) [] (λ_=>(by kernel_rfl)) λ_=>(by kernel_rfl)
def Zy:Sg:=⟨68,[aI,aI,aI],[],⟨aB,[],[]⟩⟩
def M8 (n:Nat) (x0 x1 x2:Int):Tr (Bool):=(.ask ((decide (x0≥x1))) (.done (decide (x0<=x2))) (.done false))
def FM:Nat->Int->Int->Int->Option (Bool)
 |0,_,_,_=>none
 |n+1,x0,x1,x2=>(M8 n x0 x1 x2).run
theorem Iq:∀n,Ok (Rn n) Zy (FM n)
 |0=>ok0 λ_=>rfl
 |n+1=>stO (T:=M8 n) (by kernel_rfl) [] [] (λ_=>(by kernel_rfl)) λ_=>(by kernel_rfl)
def ZB:Sg:=⟨65,[(.agg [qI,qI])],[],⟨aB,[],[]⟩⟩
def Od (n:Nat) (x0 x1:Int):Tr (Bool):=(.opt (FM n x0 (1:Int) (52:Int)) λa=>(.ask (a) (.opt (FM n x1 (1:Int) (99:Int)) λb=>(.done b)) (.done false)))
def E1:Nat->Int->Int->Option (Bool)
 |0,_,_=>none
 |n+1,x0,x1=>(Od n x0 x1).run
abbrev ZC (n:Nat):List (Ent (Rn n)):= [en (Iq n)]
theorem IC:∀n,Ok (Rn n) ZB (E1 n)
 |0=>ok0 λ_=>rfl
 |n+1=>stO (T:=Od n) (by kernel_rfl) (ZC n) [] (λ_=>(by kernel_rfl)) λ_=>(by kernel_rfl)
def Wm:Sg:=⟨140,[aI],[],⟨aS,[],[]⟩⟩
def FX (n:Nat) (v:Int×BA):Tr ((Int×BA)⊕((BA))):=(.ask ((decide (v.1>(0:Int)))) (.ask (decide (1=([[(.i .u8 (IntKind.u8.wrap (IntKind.i64.wrap ((65:Int)+(Int.tmod (IntKind.i64.wrap (v.1-(1:Int))) (26:Int))))))]]:RW).length)) (.opt (bytesOf ([[(.i .u8 (IntKind.u8.wrap (IntKind.i64.wrap ((65:Int)+(Int.tmod (IntKind.i64.wrap (v.1-(1:Int))) (26:Int))))))]]:RW)) λa=>(.ask (decide ((⟨a.toArray⟩:BA).size+v.2.size<=9223372036854775807)) (.done (.inl ((IntKind.i64.wrap (Int.tdiv (IntKind.i64.wrap (v.1-(1:Int))) (26:Int))),((⟨a.toArray⟩:BA)++v.2)))) .fail)) .fail) (.done (.inr (v.2))))
def Jt (n:Nat) (x0:Int):Tr (BA):=(.opt (FM n x0 (1:Int) (52:Int)) λa=>(.ask ((!a)) (.done (⟨#[]⟩:BA)) (.opt (zE (FX n) n (x0,(⟨#[]⟩:BA))) λb=>(.done b))))
def Ha:Nat->Int->Option (BA)
 |0,_=>none
 |n+1,x0=>(Jt n x0).run
abbrev QA (n:Nat):List (Ent (Rn n)):= [en (Iq n)]
def S9 (n:Nat):LEnt (KB 140) (Rn n) n:=lok (zU 140) 30 ⟨⟨[(0,aI),(3,aS)],[],[]⟩,[(.exit 0,⟨[(3,aS)],[],[]⟩)]⟩ (FX n) (QA n) [] λ_=>(by kernel_rfl)
theorem PN:∀n,Ok (Rn n) Wm (Ha n)
 |0=>ok0 λ_=>rfl
 |n+1=>stO (T:=Jt n) (by kernel_rfl) (QA n) [S9 n] (λ_=>(by kernel_rfl)) λ_=>(by kernel_rfl)
def Oe:Sg:=⟨63,[aI],[],⟨aS,[],[]⟩⟩
def H7 (n:Nat) (v:Int×BA):Tr ((Int×BA)⊕((Int×BA))):=(.ask ((decide (v.1≥(10:Int)))) (.ask (decide (1=([[(.i .u8 (IntKind.u8.wrap (IntKind.i64.wrap ((48:Int)+(Int.tmod v.1 (10:Int))))))]]:RW).length)) (.opt (bytesOf ([[(.i .u8 (IntKind.u8.wrap (IntKind.i64.wrap ((48:Int)+(Int.tmod v.1 (10:Int))))))]]:RW)) λa=>(.ask (decide ((⟨a.toArray⟩:BA).size+v.2.size<=9223372036854775807)) (.done (.inl ((IntKind.i64.wrap (Int.tdiv v.1 (10:Int))),((⟨a.toArray⟩:BA)++v.2)))) .fail)) .fail) (.done (.inr ((v.1,v.2)))))
def L3 (rec:Int->Option (BA)) (n:Nat) (x0:Int):Tr (BA):=(.ask ((decide (x0<(0:Int)))) (.opt (rec (IntKind.i64.wrap (0-x0))) λb=>(.ask (decide ((⟨#[45]⟩:BA).size+b.size<=9223372036854775807)) (.done ((⟨#[45]⟩:BA)++b)) .fail)) (.opt (zE (H7 n) n (x0,(⟨#[]⟩:BA))) λa=>(.ask (decide (1=([[(.i .u8 (IntKind.u8.wrap (IntKind.i64.wrap ((48:Int)+a.1))))]]:RW).length)) (.opt (bytesOf ([[(.i .u8 (IntKind.u8.wrap (IntKind.i64.wrap ((48:Int)+a.1))))]]:RW)) λc=>(.ask (decide ((⟨c.toArray⟩:BA).size+a.2.size<=9223372036854775807)) (.done ((⟨c.toArray⟩:BA)++a.2)) .fail)) .fail)))
def Du:Nat->Int->Option (BA)
 |0,_=>none
 |n+1,x0=>(L3 (Du n) n x0).run
abbrev TA (n:Nat) (ih:Ok (Rn n) Oe (Du n)):List (Ent (Rn n)):= [en ih]
def Vj (n:Nat) (ih:Ok (Rn n) Oe (Du n)):LEnt (KB 63) (Rn n) n:=lok (zU 63) 30 ⟨⟨[(0,aI),(3,aS)],[],[]⟩,[(.exit 0,⟨[(0,aI),(3,aS)],[],[]⟩)]⟩ (H7 n) (TA n ih) [] λ_=>(by kernel_rfl)
theorem ID:∀n,Ok (Rn n) Oe (Du n)
 |0=>ok0 λ_=>rfl
 |n+1=>stO (T:=L3 (Du n) n) (by kernel_rfl) (TA n (ID n)) [Vj n (ID n)] (λ_=>(by kernel_rfl)) λ_=>(by kernel_rfl)
def UI:Sg:=⟨62,[(.agg [qI,qI,qB,qB])],[],⟨aS,[],[]⟩⟩
def Ir (n:Nat) (x0 x1:Int) (x2 x3:Bool):Tr (BA):=(.opt (E1 n x0 x1) λg=>(.ask ((!g)) (.done (⟨#[]⟩:BA)) (.opt (Ha n x0) λa=>(.ask (x2) (.ask (decide ((⟨#[36]⟩:BA).size+a.size<=9223372036854775807)) (.ask (x3) (.ask (decide (((⟨#[36]⟩:BA)++a).size+(⟨#[36]⟩:BA).size<=9223372036854775807)) (.opt (Du n x1) λb=>(.ask (decide ((((⟨#[36]⟩:BA)++a)++(⟨#[36]⟩:BA)).size+b.size<=9223372036854775807)) (.done ((((⟨#[36]⟩:BA)++a)++(⟨#[36]⟩:BA))++b)) .fail)) .fail) (.opt (Du n x1) λc=>(.ask (decide (((⟨#[36]⟩:BA)++a).size+c.size<=9223372036854775807)) (.done (((⟨#[36]⟩:BA)++a)++c)) .fail))) .fail) (.ask (x3) (.ask (decide (a.size+(⟨#[36]⟩:BA).size<=9223372036854775807)) (.opt (Du n x1) λd=>(.ask (decide ((a++(⟨#[36]⟩:BA)).size+d.size<=9223372036854775807)) (.done ((a++(⟨#[36]⟩:BA))++d)) .fail)) .fail) (.opt (Du n x1) λf=>(.ask (decide (a.size+f.size<=9223372036854775807)) (.done (a++f)) .fail)))))))
def DN:Nat->Int->Int->Bool->Bool->Option (BA)
 |0,_,_,_,_=>none
 |n+1,x0,x1,x2,x3=>(Ir n x0 x1 x2 x3).run
abbrev UJ (n:Nat):List (Ent (Rn n)):= [en (IC n),en (PN n),en (ID n)]
theorem M9:∀n,Ok (Rn n) UI (DN n)
 |0=>ok0 λ_=>rfl
 |n+1=>stO (T:=Ir n) (by kernel_rfl) (UJ n) [] (λ_=>(by kernel_rfl)) λ_=>(by kernel_rfl)
def UK:Sg:=⟨222,[(.c (.ptr 0 0 0 0 0))],[Hq],⟨(.c (.p (.i .u64 0))),[Hq],[]⟩⟩
def GT (n:Nat) (v:Int×Int×RW×Int):Tr ((Int×Int×RW×Int)⊕((Int×RW×Int))):=(.ask ((decide (v.2.1<(8:Int)))) (.opt (FL n v.2.2.1 v.2.2.2) λa=>(.done (.inl ((IntKind.u64.wrap ((BitVec.ofInt IntKind.u64.bits (IntKind.u64.wrap (v.1*(2:Int)^(8:Nat)))|||BitVec.ofInt IntKind.u64.bits (IntKind.u64.wrap a.1)).toNat:Int)),(IntKind.i64.wrap (v.2.1+(1:Int))),a.2.1,a.2.2)))) (.done (.inr ((v.1,v.2.2.1,v.2.2.2)))))
def Kb (n:Nat) (x0:RW) (x1:Int):Tr (Int×RW×Int):=(.opt (zE (GT n) n ((0:Int),(0:Int),x0,x1)) λa=>(.done (a.1,a.2.1,a.2.2)))
def Is:Nat->RW->Int->Option (Int×RW×Int)
 |0,_,_=>none
 |n+1,x0,x1=>(Kb n x0 x1).run
abbrev N9 (n:Nat):List (Ent (Rn n)):= [en (M7 n)]
def RO (n:Nat):LEnt (KB 222) (Rn n) n:=lok (zU 222) 29 ⟨⟨[(0,(.c (.ptr 0 0 0 0 0))),(3,(.c (.p (.i .u64 0)))),(4,aI)],[],[Hq]⟩,[(.exit 0,⟨[(3,(.c (.p (.i .u64 0))))],[],[Hq]⟩)]⟩ (GT n) (N9 n) [] λ_=>(by kernel_rfl)
theorem TB:∀n,Ok (Rn n) UK (Is n)
 |0=>ok0 λ_=>rfl
 |n+1=>stO (T:=Kb n) (by kernel_rfl) (N9 n) [RO n] (λ_=>(by kernel_rfl)) λ_=>(by kernel_rfl)
def UL:Sg:=⟨167,[(.c (.ptr 0 0 0 0 0)),aI,aI],[Hq],⟨aI,[Hq],[]⟩⟩
def Hb (n:Nat) (x0 x1:Int) (x2:RW) (x3:Int):Tr (Int×RW×Int):=(.opt (qi n (8:Int) x2 x3) λa=>(.ask ((a.1==(0:Int))) (.done (x0,a.2.1,a.2.2)) (.ask ((a.1==(1:Int))) (.done (x1,a.2.1,a.2.2)) (.ask ((decide (x1<x0))) (.done (x0,a.2.1,a.2.2)) (.opt (Is n a.2.1 a.2.2) λb=>(.ask (decide ((IntKind.u64.wrap (IntKind.i64.wrap ((IntKind.i64.wrap (x1-x0))+(1:Int))))=0)) .fail (.done ((IntKind.i64.wrap (x0+(IntKind.i64.wrap (Int.tmod (Int.fdiv b.1 ((2:Int)^(1:Nat))) (IntKind.u64.wrap (IntKind.i64.wrap ((IntKind.i64.wrap (x1-x0))+(1:Int)))))))),b.2.1,b.2.2))))))))
def Gk:Nat->Int->Int->RW->Int->Option (Int×RW×Int)
 |0,_,_,_,_=>none
 |n+1,x0,x1,x2,x3=>(Hb n x0 x1 x2 x3).run
abbrev UM (n:Nat):List (Ent (Rn n)):= [en (Ew n),en (TB n)]
theorem TC:∀n,Ok (Rn n) UL (Gk n)
 |0=>ok0 λ_=>rfl
 |n+1=>stO (T:=Hb n) (by kernel_rfl) (UM n) [] (λ_=>(by kernel_rfl)) λ_=>(by kernel_rfl)
def Vk:Sg:=⟨96,[(.c (.ptr 0 0 0 0 0)),aI,aI],[Hq],⟨aI,[Hq],[]⟩⟩
def GO (n:Nat) (x0 x1:Int) (x2:RW) (x3:Int):Tr (Int×RW×Int):=(.opt (DR n (24:Int) x2 x3) λa=>(.ask (a.1) (.opt (qi n (4:Int) a.2.1 a.2.2) λb=>(.ask (decide (4=([[(.i .i64 (IntKind.i64.wrap (x0-(1:Int))))],[(.i .i64 (IntKind.i64.wrap (x1+(1:Int))))],[(.i .i64 (-9223372036854775808:Int))],[(.i .i64 (9223372036854775807:Int))]]:RW).length/\0<=b.1/\b.1<((4:Nat):Int))) (.opt (([[(.i .i64 (IntKind.i64.wrap (x0-(1:Int))))],[(.i .i64 (IntKind.i64.wrap (x1+(1:Int))))],[(.i .i64 (-9223372036854775808:Int))],[(.i .i64 (9223372036854775807:Int))]]:RW)[(b.1).toNat]?) λd=>(.opt (zC .i64 d 0) λf=>(.done (f,b.2.1,b.2.2)))) .fail)) (.opt (Gk n x0 x1 a.2.1 a.2.2) λc=>(.done (c.1,c.2.1,c.2.2)))))
def Fi:Nat->Int->Int->RW->Int->Option (Int×RW×Int)
 |0,_,_,_,_=>none
 |n+1,x0,x1,x2,x3=>(GO n x0 x1 x2 x3).run
abbrev Vl (n:Nat):List (Ent (Rn n)):= [en (HA n),en (Ew n),en (TC n)]
theorem UN:∀n,Ok (Rn n) Vk (Fi n)
 |0=>ok0 λ_=>rfl
 |n+1=>stO (T:=GO n) (by kernel_rfl) (Vl n) [] (λ_=>(by kernel_rfl)) λ_=>(by kernel_rfl)
def UO:Sg:=⟨223,[(.c (.ptr 0 0 0 0 0))],[Hq],⟨(.agg [qI,qI,qI,qI]),[Hq],[]⟩⟩
def It (n:Nat) (x0:RW) (x1:Int):Tr (Int×Int×Int×Int×RW×Int):=(.opt (D1 n x0 x1) λa=>(.opt (D1 n a.2.2.1 a.2.2.2) λb=>(.opt (DR n (20:Int) b.2.2.1 b.2.2.2) λc=>(.ask (c.1) (.opt (Fi n (1:Int) (99:Int) c.2.1 c.2.2) λd=>(.done ((if b.1<a.1 then b.1 else a.1),(if b.2.1<a.2.1 then b.2.1 else a.2.1),(if b.1>a.1 then b.1 else a.1),d.1,d.2.1,d.2.2))) (.done ((if b.1<a.1 then b.1 else a.1),(if b.2.1<a.2.1 then b.2.1 else a.2.1),(if b.1>a.1 then b.1 else a.1),(if b.2.1>a.2.1 then b.2.1 else a.2.1),c.2.1,c.2.2))))))
def Gl:Nat->RW->Int->Option (Int×Int×Int×Int×RW×Int)
 |0,_,_=>none
 |n+1,x0,x1=>(It n x0 x1).run
abbrev UP (n:Nat):List (Ent (Rn n)):= [en (Ip n),en (HA n),en (UN n)]
theorem TD:∀n,Ok (Rn n) UO (Gl n)
 |0=>ok0 λ_=>rfl
 |n+1=>stO (T:=It n) (by kernel_rfl) (UP n) [] (λ_=>(by kernel_rfl)) λ_=>(by kernel_rfl)
def X8:Sg:=⟨224,[aI],[],⟨aS,[],[]⟩⟩
def Nb (n:Nat) (x0:Int):Tr (BA):=(.ask (decide (12=([[(.s (⟨#[]⟩:BA))],[(.s (⟨#[43]⟩:BA))],[(.s (⟨#[45]⟩:BA))],[(.s (⟨#[42]⟩:BA))],[(.s (⟨#[47]⟩:BA))],[(.s (⟨#[38]⟩:BA))],[(.s (⟨#[61]⟩:BA))],[(.s (⟨#[60,62]⟩:BA))],[(.s (⟨#[60]⟩:BA))],[(.s (⟨#[60,61]⟩:BA))],[(.s (⟨#[62]⟩:BA))],[(.s (⟨#[62,61]⟩:BA))]]:RW).length/\0<=x0/\x0<((12:Nat):Int))) (.opt (([[(.s (⟨#[]⟩:BA))],[(.s (⟨#[43]⟩:BA))],[(.s (⟨#[45]⟩:BA))],[(.s (⟨#[42]⟩:BA))],[(.s (⟨#[47]⟩:BA))],[(.s (⟨#[38]⟩:BA))],[(.s (⟨#[61]⟩:BA))],[(.s (⟨#[60,62]⟩:BA))],[(.s (⟨#[60]⟩:BA))],[(.s (⟨#[60,61]⟩:BA))],[(.s (⟨#[62]⟩:BA))],[(.s (⟨#[62,61]⟩:BA))]]:RW)[(x0).toNat]?) λa=>(.opt (zk a 0) λb=>(.done b))) .fail)
def Gh:Nat->Int->Option (BA)
 |0,_=>none
 |n+1,x0=>(Nb n x0).run
theorem MD:∀n,Ok (Rn n) X8 (Gh n)
 |0=>ok0 λ_=>rfl
 |n+1=>stO (T:=Nb n) (by kernel_rfl) [] [] (λ_=>(by kernel_rfl)) λ_=>(by kernel_rfl)
def NA:Sg:=⟨168,[(.c (.ptr 0 0 0 0 0)),aI],[Hq],⟨aS,[Hq],[]⟩⟩
def IV (n:Nat) (a:(Int×RW×Int)):Tr (BA×RW×Int):=(.ask ((a.1==(0:Int))) (.opt (D1 n a.2.1 a.2.2) λc=>(.opt (DR n (5:Int) c.2.2.1 c.2.2.2) λg=>(.opt (DR n (5:Int) g.2.1 g.2.2) λh=>(.opt (DN n c.1 c.2.1 g.1 h.1) λp=>(.done (p,h.2.1,h.2.2)))))) (.ask ((a.1==(1:Int))) (.opt (D1 n a.2.1 a.2.2) λd=>(.opt (DR n (5:Int) d.2.2.1 d.2.2.2) λj=>(.opt (DR n (5:Int) j.2.1 j.2.2) λk=>(.opt (DN n d.1 d.2.1 j.1 k.1) λq=>(.done (q,k.2.1,k.2.2)))))) (.ask ((a.1==(2:Int))) (.opt (D1 n a.2.1 a.2.2) λf=>(.opt (DR n (5:Int) f.2.2.1 f.2.2.2) λl=>(.opt (DR n (5:Int) l.2.1 l.2.2) λm=>(.opt (DN n f.1 f.2.1 l.1 m.1) λt=>(.done (t,m.2.1,m.2.2)))))) (.ask ((a.1==(3:Int))) (.opt (qi n (6:Int) a.2.1 a.2.2) λb=>(.ask (decide (6=([[(.s (⟨#[34,97,34]⟩:BA))],[(.s (⟨#[34,34]⟩:BA))],[(.s (⟨#[84,82,85,69]⟩:BA))],[(.s (⟨#[70,65,76,83,69]⟩:BA))],[(.s (⟨#[35,82,69,70,33]⟩:BA))],[(.s (⟨#[34,113,34,34,34]⟩:BA))]]:RW).length/\0<=b.1/\b.1<((6:Nat):Int))) (.opt (([[(.s (⟨#[34,97,34]⟩:BA))],[(.s (⟨#[34,34]⟩:BA))],[(.s (⟨#[84,82,85,69]⟩:BA))],[(.s (⟨#[70,65,76,83,69]⟩:BA))],[(.s (⟨#[35,82,69,70,33]⟩:BA))],[(.s (⟨#[34,113,34,34,34]⟩:BA))]]:RW)[(b.1).toNat]?) λu=>(.opt (zk u 0) λw=>(.done (w,b.2.1,b.2.2)))) .fail)) (.opt (qi n (12:Int) a.2.1 a.2.2) λo=>(.opt (Du n o.1) λz=>(.done (z,o.2.1,o.2.2))))))))
def HB (rec:Int->RW->Int->Option (BA×RW×Int)) (n:Nat) (x0:Int) (x1:RW) (x2:Int):Tr (BA×RW×Int):=(.ask ((x0==(0:Int))) (.opt (qi n (7:Int) x1 x2) λa8=>(IV n a8)) (.opt (DR n (3:Int) x1 x2) λl=>(.ask (l.1) (.opt (qi n (7:Int) l.2.1 l.2.2) λa9=>(IV n a9)) (.opt (qi n (8:Int) l.2.1 l.2.2) λa=>(.ask ((a.1==(0:Int))) (.opt (rec (IntKind.i64.wrap (x0-(1:Int))) a.2.1 a.2.2) λa3=>(.ask (decide ((⟨#[45]⟩:BA).size+a3.1.size<=9223372036854775807)) (.done (((⟨#[45]⟩:BA)++a3.1),a3.2.1,a3.2.2)) .fail)) (.ask ((a.1==(1:Int))) (.opt (rec (IntKind.i64.wrap (x0-(1:Int))) a.2.1 a.2.2) λm=>(.ask (decide ((⟨#[40]⟩:BA).size+m.1.size<=9223372036854775807)) (.ask (decide (((⟨#[40]⟩:BA)++m.1).size+(⟨#[41]⟩:BA).size<=9223372036854775807)) (.done ((((⟨#[40]⟩:BA)++m.1)++(⟨#[41]⟩:BA)),m.2.1,m.2.2)) .fail) .fail)) (.ask ((a.1==(2:Int))) (.opt (Gl n a.2.1 a.2.2) λj=>(.opt (qi n (6:Int) j.2.2.2.2.1 j.2.2.2.2.2) λo=>(.ask (decide (6=([[(.s (⟨#[83,85,77]⟩:BA))],[(.s (⟨#[77,73,78]⟩:BA))],[(.s (⟨#[77,65,88]⟩:BA))],[(.s (⟨#[67,79,85,78,84]⟩:BA))],[(.s (⟨#[65,78,68]⟩:BA))],[(.s (⟨#[79,82]⟩:BA))]]:RW).length/\0<=o.1/\o.1<((6:Nat):Int))) (.opt (([[(.s (⟨#[83,85,77]⟩:BA))],[(.s (⟨#[77,73,78]⟩:BA))],[(.s (⟨#[77,65,88]⟩:BA))],[(.s (⟨#[67,79,85,78,84]⟩:BA))],[(.s (⟨#[65,78,68]⟩:BA))],[(.s (⟨#[79,82]⟩:BA))]]:RW)[(o.1).toNat]?) λb0=>(.opt (zk b0 0) λc=>(.ask (decide (c.size+(⟨#[40]⟩:BA).size<=9223372036854775807)) (.opt (DN n j.1 j.2.1 false false) λf=>(.ask (decide ((c++(⟨#[40]⟩:BA)).size+f.size<=9223372036854775807)) (.ask (decide (((c++(⟨#[40]⟩:BA))++f).size+(⟨#[58]⟩:BA).size<=9223372036854775807)) (.opt (DN n j.2.2.1 j.2.2.2.1 false false) λp=>(.ask (decide ((((c++(⟨#[40]⟩:BA))++f)++(⟨#[58]⟩:BA)).size+p.size<=9223372036854775807)) (.ask (decide (((((c++(⟨#[40]⟩:BA))++f)++(⟨#[58]⟩:BA))++p).size+(⟨#[44]⟩:BA).size<=9223372036854775807)) (.opt (rec (IntKind.i64.wrap (x0-(1:Int))) o.2.1 o.2.2) λq=>(.ask (decide ((((((c++(⟨#[40]⟩:BA))++f)++(⟨#[58]⟩:BA))++p)++(⟨#[44]⟩:BA)).size+q.1.size<=9223372036854775807)) (.ask (decide (((((((c++(⟨#[40]⟩:BA))++f)++(⟨#[58]⟩:BA))++p)++(⟨#[44]⟩:BA))++q.1).size+(⟨#[41]⟩:BA).size<=9223372036854775807)) (.done ((((((((c++(⟨#[40]⟩:BA))++f)++(⟨#[58]⟩:BA))++p)++(⟨#[44]⟩:BA))++q.1)++(⟨#[41]⟩:BA)),q.2.1,q.2.2)) .fail) .fail)) .fail) .fail)) .fail) .fail)) .fail))) .fail))) (.ask ((a.1==(3:Int))) (.opt (Gl n a.2.1 a.2.2) λk=>(.opt (qi n (6:Int) k.2.2.2.2.1 k.2.2.2.2.2) λt=>(.ask (decide (6=([[(.s (⟨#[83,85,77]⟩:BA))],[(.s (⟨#[77,73,78]⟩:BA))],[(.s (⟨#[77,65,88]⟩:BA))],[(.s (⟨#[67,79,85,78,84]⟩:BA))],[(.s (⟨#[65,78,68]⟩:BA))],[(.s (⟨#[79,82]⟩:BA))]]:RW).length/\0<=t.1/\t.1<((6:Nat):Int))) (.opt (([[(.s (⟨#[83,85,77]⟩:BA))],[(.s (⟨#[77,73,78]⟩:BA))],[(.s (⟨#[77,65,88]⟩:BA))],[(.s (⟨#[67,79,85,78,84]⟩:BA))],[(.s (⟨#[65,78,68]⟩:BA))],[(.s (⟨#[79,82]⟩:BA))]]:RW)[(t.1).toNat]?) λb1=>(.opt (zk b1 0) λd=>(.ask (decide (d.size+(⟨#[40]⟩:BA).size<=9223372036854775807)) (.opt (DN n k.1 k.2.1 false false) λg=>(.ask (decide ((d++(⟨#[40]⟩:BA)).size+g.size<=9223372036854775807)) (.ask (decide (((d++(⟨#[40]⟩:BA))++g).size+(⟨#[58]⟩:BA).size<=9223372036854775807)) (.opt (DN n k.2.2.1 k.2.2.2.1 false false) λu=>(.ask (decide ((((d++(⟨#[40]⟩:BA))++g)++(⟨#[58]⟩:BA)).size+u.size<=9223372036854775807)) (.ask (decide (((((d++(⟨#[40]⟩:BA))++g)++(⟨#[58]⟩:BA))++u).size+(⟨#[44]⟩:BA).size<=9223372036854775807)) (.opt (rec (IntKind.i64.wrap (x0-(1:Int))) t.2.1 t.2.2) λw=>(.ask (decide ((((((d++(⟨#[40]⟩:BA))++g)++(⟨#[58]⟩:BA))++u)++(⟨#[44]⟩:BA)).size+w.1.size<=9223372036854775807)) (.ask (decide (((((((d++(⟨#[40]⟩:BA))++g)++(⟨#[58]⟩:BA))++u)++(⟨#[44]⟩:BA))++w.1).size+(⟨#[41]⟩:BA).size<=9223372036854775807)) (.done ((((((((d++(⟨#[40]⟩:BA))++g)++(⟨#[58]⟩:BA))++u)++(⟨#[44]⟩:BA))++w.1)++(⟨#[41]⟩:BA)),w.2.1,w.2.2)) .fail) .fail)) .fail) .fail)) .fail) .fail)) .fail))) .fail))) (.ask ((a.1==(4:Int))) (.opt (rec (IntKind.i64.wrap (x0-(1:Int))) a.2.1 a.2.2) λb=>(.ask (decide ((⟨#[73,70,40]⟩:BA).size+b.1.size<=9223372036854775807)) (.ask (decide (((⟨#[73,70,40]⟩:BA)++b.1).size+(⟨#[44]⟩:BA).size<=9223372036854775807)) (.opt (rec (IntKind.i64.wrap (x0-(1:Int))) b.2.1 b.2.2) λh=>(.ask (decide ((((⟨#[73,70,40]⟩:BA)++b.1)++(⟨#[44]⟩:BA)).size+h.1.size<=9223372036854775807)) (.ask (decide (((((⟨#[73,70,40]⟩:BA)++b.1)++(⟨#[44]⟩:BA))++h.1).size+(⟨#[44]⟩:BA).size<=9223372036854775807)) (.opt (rec (IntKind.i64.wrap (x0-(1:Int))) h.2.1 h.2.2) λz=>(.ask (decide ((((((⟨#[73,70,40]⟩:BA)++b.1)++(⟨#[44]⟩:BA))++h.1)++(⟨#[44]⟩:BA)).size+z.1.size<=9223372036854775807)) (.ask (decide (((((((⟨#[73,70,40]⟩:BA)++b.1)++(⟨#[44]⟩:BA))++h.1)++(⟨#[44]⟩:BA))++z.1).size+(⟨#[41]⟩:BA).size<=9223372036854775807)) (.done ((((((((⟨#[73,70,40]⟩:BA)++b.1)++(⟨#[44]⟩:BA))++h.1)++(⟨#[44]⟩:BA))++z.1)++(⟨#[41]⟩:BA)),z.2.1,z.2.2)) .fail) .fail)) .fail) .fail)) .fail) .fail)) (.ask ((a.1==(5:Int))) (.opt (qi n (3:Int) a.2.1 a.2.2) λa0=>(.ask (decide (3=([[(.s (⟨#[78,79,84]⟩:BA))],[(.s (⟨#[65,66,83]⟩:BA))],[(.s (⟨#[76,69,78]⟩:BA))]]:RW).length/\0<=a0.1/\a0.1<((3:Nat):Int))) (.opt (([[(.s (⟨#[78,79,84]⟩:BA))],[(.s (⟨#[65,66,83]⟩:BA))],[(.s (⟨#[76,69,78]⟩:BA))]]:RW)[(a0.1).toNat]?) λb2=>(.opt (zk b2 0) λa4=>(.ask (decide (a4.size+(⟨#[40]⟩:BA).size<=9223372036854775807)) (.opt (rec (IntKind.i64.wrap (x0-(1:Int))) a0.2.1 a0.2.2) λa1=>(.ask (decide ((a4++(⟨#[40]⟩:BA)).size+a1.1.size<=9223372036854775807)) (.ask (decide (((a4++(⟨#[40]⟩:BA))++a1.1).size+(⟨#[41]⟩:BA).size<=9223372036854775807)) (.done ((((a4++(⟨#[40]⟩:BA))++a1.1)++(⟨#[41]⟩:BA)),a1.2.1,a1.2.2)) .fail) .fail)) .fail))) .fail)) (.opt (rec (IntKind.i64.wrap (x0-(1:Int))) a.2.1 a.2.2) λa2=>(.opt (qi n (11:Int) a2.2.1 a2.2.2) λa6=>(.opt (Gh n (IntKind.i64.wrap ((1:Int)+a6.1))) λa7=>(.ask (decide (a2.1.size+a7.size<=9223372036854775807)) (.opt (rec (IntKind.i64.wrap (x0-(1:Int))) a6.2.1 a6.2.2) λa5=>(.ask (decide ((a2.1++a7).size+a5.1.size<=9223372036854775807)) (.done (((a2.1++a7)++a5.1),a5.2.1,a5.2.2)) .fail)) .fail))))))))))))))
def D2:Nat->Int->RW->Int->Option (BA×RW×Int)
 |0,_,_,_=>none
 |n+1,x0,x1,x2=>(HB (D2 n) n x0 x1 x2).run
abbrev TE (n:Nat) (ih:Ok (Rn n) NA (D2 n)):List (Ent (Rn n)):= [en (Ew n),en (Ip n),en (HA n),en (M9 n),en (ID n),en ih,en (TD n),en (MD n)]
theorem ME:∀n,Ok (Rn n) NA (D2 n)
 |0=>ok0 λ_=>rfl
 |n+1=>stO (T:=HB (D2 n) n) (by kernel_rfl) (TE n (ME n)) [] (λ_=>(by kernel_rfl)) λ_=>(by kernel_rfl)
def TF:Sg:=⟨97,[(.c (.ptr 0 0 0 0 0))],[Hq],⟨aS,[Hq],[]⟩⟩
def HC (n:Nat) (b:(Int×RW×Int)) (k0:Int):Tr (BA×RW×Int):=(.opt (D2 n k0 b.2.1 b.2.2) λa=>(.ask (decide ((⟨#[61]⟩:BA).size+a.1.size<=9223372036854775807)) (.done (((⟨#[61]⟩:BA)++a.1),a.2.1,a.2.2)) .fail))
def Ju (n:Nat) (x0:RW) (x1:Int):Tr (BA×RW×Int):=(.opt (qi n (8:Int) x0 x1) λa=>(.ask ((a.1==(0:Int))) (HC n a (2:Int)) (.ask ((a.1==(1:Int))) (HC n a (2:Int)) (.ask ((a.1==(2:Int))) (HC n a (2:Int)) (.ask ((a.1==(3:Int))) (.opt (qi n (20:Int) a.2.1 a.2.2) λc=>(.opt (Du n c.1) λf=>(.done (f,c.2.1,c.2.2)))) (.ask ((a.1==(4:Int))) (.opt (qi n (20:Int) a.2.1 a.2.2) λd=>(.opt (Du n d.1) λg=>(.done (g,d.2.1,d.2.2)))) (.ask ((a.1==(5:Int))) (.opt (qi n (8:Int) a.2.1 a.2.2) λb=>(.ask (decide (8=([[(.s (⟨#[84,82,85,69]⟩:BA))],[(.s (⟨#[104,101,108,108,111]⟩:BA))],[(.s (⟨#[39,49,50]⟩:BA))],[(.s (⟨#[35,68,73,86,33]⟩:BA))],[(.s (⟨#[45,53]⟩:BA))],[(.s (⟨#[48,48,55]⟩:BA))],[(.s (⟨#[39]⟩:BA))],[(.s (⟨#[35,120]⟩:BA))]]:RW).length/\0<=b.1/\b.1<((8:Nat):Int))) (.opt (([[(.s (⟨#[84,82,85,69]⟩:BA))],[(.s (⟨#[104,101,108,108,111]⟩:BA))],[(.s (⟨#[39,49,50]⟩:BA))],[(.s (⟨#[35,68,73,86,33]⟩:BA))],[(.s (⟨#[45,53]⟩:BA))],[(.s (⟨#[48,48,55]⟩:BA))],[(.s (⟨#[39]⟩:BA))],[(.s (⟨#[35,120]⟩:BA))]]:RW)[(b.1).toNat]?) λh=>(.opt (zk h 0) λj=>(.done (j,b.2.1,b.2.2)))) .fail)) (.ask ((a.1==(6:Int))) (.done ((⟨#[]⟩:BA),a.2.1,a.2.2)) (HC n a (1:Int))))))))))
def HD:Nat->RW->Int->Option (BA×RW×Int)
 |0,_,_=>none
 |n+1,x0,x1=>(Ju n x0 x1).run
abbrev TG (n:Nat):List (Ent (Rn n)):= [en (Ew n),en (ME n),en (ID n)]
theorem SD:∀n,Ok (Rn n) TF (HD n)
 |0=>ok0 λ_=>rfl
 |n+1=>stO (T:=Ju n) (by kernel_rfl) (TG n) [] (λ_=>(by kernel_rfl)) λ_=>(by kernel_rfl)
def Wn:Sg:=⟨143,[aS],[],⟨aB,[],[]⟩⟩
def FY (n:Nat) (v:BA×Int):Tr ((BA×Int)⊕((Bool)⊕(BA))):=(.ask ((decide (v.2<(v.1.size:Int)))) (.ask (decide (0<=v.2)) (.opt (v.1.toList[(v.2).toNat]?) λa=>(.ask ((decide ((a.toNat:Int)<(32:Int)))) (.done (.inr (.inl (false)))) (.ask (decide (0<=v.2)) (.opt (v.1.toList[(v.2).toNat]?) λb=>(.ask ((decide ((b.toNat:Int)>(126:Int)))) (.done (.inr (.inl (false)))) (.done (.inl (v.1,(IntKind.i64.wrap (v.2+(1:Int)))))))) .fail))) .fail) (.done (.inr (.inr (v.1)))))
def MF (n:Nat) (x0:BA):Tr (Bool):=(.opt (zE (FY n) n (x0,(0:Int))) λa=>(.alt a (λb=>(.done b)) (λc=>(.done (decide ((c.size:Int)<=(200:Int)))))))
def Gn:Nat->BA->Option (Bool)
 |0,_=>none
 |n+1,x0=>(MF n x0).run
def TH (n:Nat):LEnt (KB 143) (Rn n) n:=lok (zU 143) 13 ⟨⟨[(0,aS),(3,aI)],[],[]⟩,[(.ret,⟨[(2,aB)],[],[]⟩),(.exit 0,⟨[(0,aS)],[],[]⟩)]⟩ (FY n) [] [] λ_=>(by kernel_rfl)
theorem LM:∀n,Ok (Rn n) Wn (Gn n)
 |0=>ok0 λ_=>rfl
 |n+1=>stO (T:=MF n) (by kernel_rfl) [] [TH n] (λ_=>(by kernel_rfl)) λ_=>(by kernel_rfl)
def SE:Sg:=⟨211,[(.c (.ptr 0 0 0 0 0))],[FH],⟨(.tup []),[FH],[]⟩⟩
def IW (n:Nat) (v:BA×Int×Bool×Nat×RW):Tr ((BA×Int×Bool×Nat×RW)⊕((BA×Int×Bool×Nat×RW))):=(.ask ((decide (v.2.1<(v.1.size:Int)))) (.ask (decide (0<=v.2.1)) (.opt (v.1.toList[(v.2.1).toNat]?) λa=>(.ask (((a.toNat:Int)==(32:Int))) (.done (.inl (v.1,(IntKind.i64.wrap (v.2.1+(1:Int))),v.2.2.1,v.2.2.2.1,v.2.2.2.2))) (.done (.inr ((v.1,v.2.1,v.2.2.1,v.2.2.2.1,v.2.2.2.2)))))) .fail) (.done (.inr ((v.1,v.2.1,v.2.2.1,v.2.2.2.1,v.2.2.2.2)))))
def MG (n:Nat) (x0:BA) (x1:Int) (x2:Bool) (x3:Nat) (x4:RW):Tr (BA×Int×Bool×Nat×RW):=(.opt (zE (IW n) n (x0,x1,x2,x3,x4)) λa=>(.done (a.1,a.2.1,a.2.2.1,a.2.2.2.1,a.2.2.2.2)))
def Fp:Nat->BA->Int->Bool->Nat->RW->Option (BA×Int×Bool×Nat×RW)
 |0,_,_,_,_,_=>none
 |n+1,x0,x1,x2,x3,x4=>(MG n x0 x1 x2 x3 x4).run
def QB (n:Nat):LEnt (KB 211) (Rn n) n:=lok (zU 211) 1 ⟨⟨[(0,(.c (.ptr 0 0 0 0 0)))],[],[FH]⟩,[(.exit 0,⟨[],[],[FH]⟩)]⟩ (IW n) [] [] λ_=>(by kernel_rfl)
theorem I3:∀n,Ok (Rn n) SE (Fp n)
 |0=>ok0 λ_=>rfl
 |n+1=>stO (T:=MG n) (by kernel_rfl) [] [QB n] (λ_=>(by kernel_rfl)) λ_=>(by kernel_rfl)
def Wo:Sg:=⟨301,[(.c (.ptr 0 0 0 0 0)),aS],[FH],⟨aB,[FH],[]⟩⟩
def QC (n:Nat) (x0 x1:BA) (x2:Int) (x3:Bool) (x4:Nat) (x5:RW):Tr (Bool×BA×Int×Bool×Nat×RW):=(.opt (Fp n x1 x2 x3 x4 x5) λa=>(.ask (a.2.2.1) (.done (false,a.1,a.2.1,a.2.2.1,a.2.2.2.1,a.2.2.2.2)) (.ask ((decide ((IntKind.i64.wrap (a.2.1+(x0.size:Int)))>(a.1.size:Int)))) (.done (false,a.1,a.2.1,a.2.2.1,a.2.2.2.1,a.2.2.2.2)) (.ask (decide (0<=a.2.1/\a.2.1<=(IntKind.i64.wrap (a.2.1+(x0.size:Int)))/\(IntKind.i64.wrap (a.2.1+(x0.size:Int)))<=a.1.size)) (.ask ((!((a.1.extract (a.2.1).toNat ((IntKind.i64.wrap (a.2.1+(x0.size:Int)))).toNat).toList==x0.toList))) (.done (false,a.1,a.2.1,a.2.2.1,a.2.2.2.1,a.2.2.2.2)) (.done (true,a.1,(IntKind.i64.wrap (a.2.1+(x0.size:Int))),a.2.2.1,a.2.2.2.1,a.2.2.2.2))) .fail))))
def Dn:Nat->BA->BA->Int->Bool->Nat->RW->Option (Bool×BA×Int×Bool×Nat×RW)
 |0,_,_,_,_,_,_=>none
 |n+1,x0,x1,x2,x3,x4,x5=>(QC n x0 x1 x2 x3 x4 x5).run
abbrev Wp (n:Nat):List (Ent (Rn n)):= [en (I3 n)]
theorem JL:∀n,Ok (Rn n) Wo (Dn n)
 |0=>ok0 λ_=>rfl
 |n+1=>stO (T:=QC n) (by kernel_rfl) (Wp n) [] (λ_=>(by kernel_rfl)) λ_=>(by kernel_rfl)
def Wq:Sg:=⟨214,[(.agg [qI,qI,qS])],[],⟨aB,[],[]⟩⟩
def IL (n:Nat) (x1:Int) (x2:BA) (k0 k1:Int):Tr (Bool):=(.opt (FM n x1 k0 k1) λa=>(.ask (a) (.done (x2.toList==(⟨#[]⟩:BA).toList)) (.done false)))
def MH (n:Nat) (x0 x1:Int) (x2:BA):Tr (Bool):=(.ask ((x0==(0:Int))) (.ask ((x1==(0:Int))) (.done (x2.toList==(⟨#[]⟩:BA).toList)) (.done false)) (.ask ((x0==(1:Int))) (IL n x1 x2 (-1000000000000000:Int) (1000000000000000:Int)) (.ask ((x0==(2:Int))) (.ask ((x1==(0:Int))) (.opt (Gn n x2) λa=>(.done a)) (.done false)) (.ask ((x0==(3:Int))) (IL n x1 x2 (0:Int) (1:Int)) (.ask ((x0==(4:Int))) (IL n x1 x2 (1:Int) (5:Int)) (.done false))))))
def EA:Nat->Int->Int->BA->Option (Bool)
 |0,_,_,_=>none
 |n+1,x0,x1,x2=>(MH n x0 x1 x2).run
abbrev Wr (n:Nat):List (Ent (Rn n)):= [en (Iq n),en (LM n)]
theorem JM:∀n,Ok (Rn n) Wq (EA n)
 |0=>ok0 λ_=>rfl
 |n+1=>stO (T:=MH n) (by kernel_rfl) (Wr n) [] (λ_=>(by kernel_rfl)) λ_=>(by kernel_rfl)
def X9:Sg:=⟨306,[(.agg [qI,qI,qI,qI])],[],⟨aB,[],[]⟩⟩
def Nc (n:Nat) (x0 x1 x2 x3:Int):Tr (Bool):=(.opt (E1 n x0 x1) λa=>(.ask (a) (.opt (E1 n x2 x3) λb=>(.ask (b) (.ask ((decide (x0<=x2))) (.done (decide (x1<=x3))) (.done false)) (.done false))) (.done false)))
def Ku:Nat->Int->Int->Int->Int->Option (Bool)
 |0,_,_,_,_=>none
 |n+1,x0,x1,x2,x3=>(Nc n x0 x1 x2 x3).run
abbrev YA (n:Nat):List (Ent (Rn n)):= [en (IC n)]
theorem Wt:∀n,Ok (Rn n) X9 (Ku n)
 |0=>ok0 λ_=>rfl
 |n+1=>stO (T:=Nc n) (by kernel_rfl) (YA n) [] (λ_=>(by kernel_rfl)) λ_=>(by kernel_rfl)
def YB:Sg:=⟨307,[aI,aI],[],⟨aB,[],[]⟩⟩
def Nf (n:Nat) (x0 x1:Int):Tr (Bool):=(.ask ((x0==(1:Int))) (.ask ((decide (x1≥(1:Int)))) (.done (decide (x1<=(10:Int)))) (.done false)) (.ask ((x0==(2:Int))) (.ask ((decide (x1≥(1:Int)))) (.done (decide (x1<=(10:Int)))) (.done false)) (.ask ((x0==(3:Int))) (.ask ((decide (x1≥(1:Int)))) (.done (decide (x1<=(10:Int)))) (.done false)) (.ask ((x0==(4:Int))) (.ask ((decide (x1≥(1:Int)))) (.done (decide (x1<=(10:Int)))) (.done false)) (.ask ((x0==(6:Int))) (.ask ((decide (x1≥(1:Int)))) (.done (decide (x1<=(10:Int)))) (.done false)) (.ask ((x0==(7:Int))) (.ask ((decide (x1≥(1:Int)))) (.done (decide (x1<=(10:Int)))) (.done false)) (.ask ((x0==(5:Int))) (.ask ((x1==(2:Int))) (.done true) (.done (x1==(3:Int)))) (.ask ((x0==(8:Int))) (.done (x1==(1:Int))) (.ask ((x0==(9:Int))) (.done (x1==(1:Int))) (.ask ((x0==(10:Int))) (.done (x1==(1:Int))) (.done false)))))))))))
def Kv:Nat->Int->Int->Option (Bool)
 |0,_,_=>none
 |n+1,x0,x1=>(Nf n x0 x1).run
theorem Wu:∀n,Ok (Rn n) YB (Kv n)
 |0=>ok0 λ_=>rfl
 |n+1=>stO (T:=Nf n) (by kernel_rfl) [] [] (λ_=>(by kernel_rfl)) λ_=>(by kernel_rfl)
def Vm:Sg:=⟨264,[(.agg [qI,qI,qI,qI,qS,qI,qI,qB,qB,qI,qI,qB,qB,qL])],[],⟨aB,[],[]⟩⟩
def JU (n:Nat) (x2 x3:Int) (x4:BA) (x5 x6:Int) (x7 x8:Bool) (x9 x10:Int) (x11 x12:Bool) (x13:RW) (k0:Int):Tr (Bool):=(.ask (((x2==(0:Int))&&((x3==(0:Int))&&((x4.toList==(⟨#[]⟩:BA).toList)&&true)))) (.ask (((x5==(0:Int))&&((x6==(0:Int))&&((x7==false)&&((x8==false)&&true))))) (.ask (((x9==(0:Int))&&((x10==(0:Int))&&((x11==false)&&((x12==false)&&true))))) (.done ((x13.length:Int)==k0)) (.done false)) (.done false)) (.done false))
def LN (n:Nat) (x0 x1 x2 x3:Int) (x4:BA) (x5 x6:Int) (x7 x8:Bool) (x9 x10:Int) (x11 x12:Bool) (x13:RW):Tr (Bool):=(.ask ((x0==(1:Int))) (.ask ((x1==(0:Int))) (.ask (((x5==(0:Int))&&((x6==(0:Int))&&((x7==false)&&((x8==false)&&true))))) (.ask (((x9==(0:Int))&&((x10==(0:Int))&&((x11==false)&&((x12==false)&&true))))) (.ask (((x13.length:Int)==(0:Int))) (.opt (EA n x2 x3 x4) λa=>(.ask (a) (.ask ((x2 !=(0:Int))) (.ask ((x2 !=(1:Int))) (.done true) (.done (decide (x3≥(0:Int))))) (.done false)) (.done false))) (.done false)) (.done false)) (.done false)) (.done false)) (.ask ((x0==(2:Int))) (.ask ((x1==(0:Int))) (.ask (((x2==(0:Int))&&((x3==(0:Int))&&((x4.toList==(⟨#[]⟩:BA).toList)&&true)))) (.ask (((x9==(0:Int))&&((x10==(0:Int))&&((x11==false)&&((x12==false)&&true))))) (.ask (((x13.length:Int)==(0:Int))) (.opt (E1 n x5 x6) λb=>(.done b)) (.done false)) (.done false)) (.done false)) (.done false)) (.ask ((x0==(3:Int))) (.ask ((x1==(0:Int))) (.ask (((x2==(0:Int))&&((x3==(0:Int))&&((x4.toList==(⟨#[]⟩:BA).toList)&&true)))) (.ask (((x13.length:Int)==(0:Int))) (.opt (Ku n x5 x6 x9 x10) λc=>(.done c)) (.done false)) (.done false)) (.done false)) (.ask ((x0==(4:Int))) (.ask ((x1==(0:Int))) (JU n x2 x3 x4 x5 x6 x7 x8 x9 x10 x11 x12 x13 (1:Int)) (.done false)) (.ask ((x0==(5:Int))) (.opt (FM n x1 (1:Int) (11:Int)) λd=>(.ask (d) (JU n x2 x3 x4 x5 x6 x7 x8 x9 x10 x11 x12 x13 (2:Int)) (.done false))) (.ask ((x0==(6:Int))) (.opt (Kv n x1 (x13.length:Int)) λf=>(.ask (f) (.ask (((x2==(0:Int))&&((x3==(0:Int))&&((x4.toList==(⟨#[]⟩:BA).toList)&&true)))) (.ask (((x5==(0:Int))&&((x6==(0:Int))&&((x7==false)&&((x8==false)&&true))))) (.done ((x9==(0:Int))&&((x10==(0:Int))&&((x11==false)&&((x12==false)&&true))))) (.done false)) (.done false)) (.done false))) (.done false)))))))
def GP:Nat->Int->Int->Int->Int->BA->Int->Int->Bool->Bool->Int->Int->Bool->Bool->RW->Option (Bool)
 |0,_,_,_,_,_,_,_,_,_,_,_,_,_,_=>none
 |n+1,x0,x1,x2,x3,x4,x5,x6,x7,x8,x9,x10,x11,x12,x13=>(LN n x0 x1 x2 x3 x4 x5 x6 x7 x8 x9 x10 x11 x12 x13).run
abbrev Vn (n:Nat):List (Ent (Rn n)):= [en (JM n),en (IC n),en (Wt n),en (Iq n),en (Wu n)]
theorem OA:∀n,Ok (Rn n) Vm (GP n)
 |0=>ok0 λ_=>rfl
 |n+1=>stO (T:=LN n) (by kernel_rfl) (Vn n) [] (λ_=>(by kernel_rfl)) λ_=>(by kernel_rfl)
def Vo:Sg:=⟨263,[(.c (.ptr 0 0 0 0 0)),(.agg [qI,qI,qI,qI,qS,qI,qI,qB,qB,qI,qI,qB,qB,qL])],[FH],⟨aI,[FH],[]⟩⟩
def PO (n:Nat) (x0 x1 x2 x3:Int) (x4:BA) (x5 x6:Int) (x7 x8:Bool) (x9 x10:Int) (x11 x12:Bool) (x13:RW) (x14:BA) (x15:Int) (x16:Bool) (x17:Nat) (x18:RW):Tr (Int×BA×Int×Bool×Nat×RW):=(.ask (decide (1=([[(.i .i64 x0),(.i .i64 x1),(.i .i64 x2),(.i .i64 x3),(.s x4),(.i .i64 x5),(.i .i64 x6),(.b x7),(.b x8),(.i .i64 x9),(.i .i64 x10),(.b x11),(.b x12),(.ls x13)]]:RW).length)) (.ask (decide (x17=x18.length/\0<14/\0<120/\(x17+([[(.i .i64 x0),(.i .i64 x1),(.i .i64 x2),(.i .i64 x3),(.s x4),(.i .i64 x5),(.i .i64 x6),(.b x7),(.b x8),(.i .i64 x9),(.i .i64 x10),(.b x11),(.b x12),(.ls x13)]]:RW).length)*120<=140737488355328/\([[(.i .i64 x0),(.i .i64 x1),(.i .i64 x2),(.i .i64 x3),(.s x4),(.i .i64 x5),(.i .i64 x6),(.b x7),(.b x8),(.i .i64 x9),(.i .i64 x10),(.b x11),(.b x12),(.ls x13)]]:RW).all (λe=>e.length==14)=true)) (.ask ((decide ((((x17+1):Nat):Int)>(60:Int)))) (.done ((IntKind.i64.wrap ((((x17+1):Nat):Int)-(1:Int))),x14,x15,true,(x17+1),(x18++([[(.i .i64 x0),(.i .i64 x1),(.i .i64 x2),(.i .i64 x3),(.s x4),(.i .i64 x5),(.i .i64 x6),(.b x7),(.b x8),(.i .i64 x9),(.i .i64 x10),(.b x11),(.b x12),(.ls x13)]]:RW)))) (.opt (GP n x0 x1 x2 x3 x4 x5 x6 x7 x8 x9 x10 x11 x12 x13) λa=>(.ask ((!a)) (.done ((IntKind.i64.wrap ((((x17+1):Nat):Int)-(1:Int))),x14,x15,true,(x17+1),(x18++([[(.i .i64 x0),(.i .i64 x1),(.i .i64 x2),(.i .i64 x3),(.s x4),(.i .i64 x5),(.i .i64 x6),(.b x7),(.b x8),(.i .i64 x9),(.i .i64 x10),(.b x11),(.b x12),(.ls x13)]]:RW)))) (.done ((IntKind.i64.wrap ((((x17+1):Nat):Int)-(1:Int))),x14,x15,x16,(x17+1),(x18++([[(.i .i64 x0),(.i .i64 x1),(.i .i64 x2),(.i .i64 x3),(.s x4),(.i .i64 x5),(.i .i64 x6),(.b x7),(.b x8),(.i .i64 x9),(.i .i64 x10),(.b x11),(.b x12),(.ls x13)]]:RW))))))) .fail) .fail)
def DX:Nat->Int->Int->Int->Int->BA->Int->Int->Bool->Bool->Int->Int->Bool->Bool->RW->BA->Int->Bool->Nat->RW->Option (Int×BA×Int×Bool×Nat×RW)
 |0,_,_,_,_,_,_,_,_,_,_,_,_,_,_,_,_,_,_,_=>none
 |n+1,x0,x1,x2,x3,x4,x5,x6,x7,x8,x9,x10,x11,x12,x13,x14,x15,x16,x17,x18=>(PO n x0 x1 x2 x3 x4 x5 x6 x7 x8 x9 x10 x11 x12 x13 x14 x15 x16 x17 x18).run
abbrev Vp (n:Nat):List (Ent (Rn n)):= [en (OA n)]
theorem Hc:∀n,Ok (Rn n) Vo (DX n)
 |0=>ok0 λ_=>rfl
 |n+1=>stO (T:=PO n) (by kernel_rfl) (Vp n) [] (λ_=>(by kernel_rfl)) λ_=>(by kernel_rfl)
def UQ:Sg:=⟨302,[(.c (.ptr 0 0 0 0 0))],[FH],⟨aI,[FH],[]⟩⟩
def I4 (n:Nat) (v:BA×BA×Int×Bool×Nat×RW):Tr ((BA×BA×Int×Bool×Nat×RW)⊕((Int×BA×Int×Bool×Nat×RW)⊕(BA×Int×Bool×Nat×RW))):=(.ask ((decide (v.2.2.1<(v.2.1.size:Int)))) (.ask (decide (0<=v.2.2.1)) (.opt (v.2.1.toList[(v.2.2.1).toNat]?) λc=>(.ask (((c.toNat:Int) !=(34:Int))) (.ask (decide (0<=v.2.2.1/\v.2.2.1<=(IntKind.i64.wrap (v.2.2.1+(1:Int)))/\(IntKind.i64.wrap (v.2.2.1+(1:Int)))<=v.2.1.size)) (.ask (decide (v.1.size+(v.2.1.extract (v.2.2.1).toNat ((IntKind.i64.wrap (v.2.2.1+(1:Int)))).toNat).size<=9223372036854775807)) (.done (.inl ((v.1++(v.2.1.extract (v.2.2.1).toNat ((IntKind.i64.wrap (v.2.2.1+(1:Int)))).toNat)),v.2.1,(IntKind.i64.wrap (v.2.2.1+(1:Int))),v.2.2.2.1,v.2.2.2.2.1,v.2.2.2.2.2))) .fail) .fail) (.ask ((decide ((IntKind.i64.wrap (v.2.2.1+(1:Int)))≥(v.2.1.size:Int)))) (.opt (DX n (1:Int) (0:Int) (2:Int) (0:Int) v.1 (0:Int) (0:Int) false false (0:Int) (0:Int) false false ([]:RW) v.2.1 (IntKind.i64.wrap (v.2.2.1+(1:Int))) v.2.2.2.1 v.2.2.2.2.1 v.2.2.2.2.2) λa=>(.done (.inr (.inl ((a.1,a.2.1,a.2.2.1,a.2.2.2.1,a.2.2.2.2.1,a.2.2.2.2.2)))))) (.ask (decide (0<=(IntKind.i64.wrap (v.2.2.1+(1:Int))))) (.opt (v.2.1.toList[((IntKind.i64.wrap (v.2.2.1+(1:Int)))).toNat]?) λd=>(.ask (((d.toNat:Int) !=(34:Int))) (.opt (DX n (1:Int) (0:Int) (2:Int) (0:Int) v.1 (0:Int) (0:Int) false false (0:Int) (0:Int) false false ([]:RW) v.2.1 (IntKind.i64.wrap (v.2.2.1+(1:Int))) v.2.2.2.1 v.2.2.2.2.1 v.2.2.2.2.2) λb=>(.done (.inr (.inl ((b.1,b.2.1,b.2.2.1,b.2.2.2.1,b.2.2.2.2.1,b.2.2.2.2.2)))))) (.ask (decide (v.1.size+(⟨#[34]⟩:BA).size<=9223372036854775807)) (.done (.inl ((v.1++(⟨#[34]⟩:BA)),v.2.1,(IntKind.i64.wrap ((IntKind.i64.wrap (v.2.2.1+(1:Int)))+(1:Int))),v.2.2.2.1,v.2.2.2.2.1,v.2.2.2.2.2))) .fail))) .fail)))) .fail) (.done (.inr (.inr ((v.2.1,v.2.2.1,v.2.2.2.1,v.2.2.2.2.1,v.2.2.2.2.2))))))
def OB (n:Nat) (x0:BA) (x1:Int) (x2:Bool) (x3:Nat) (x4:RW):Tr (Int×BA×Int×Bool×Nat×RW):=(.opt (zE (I4 n) n ((⟨#[]⟩:BA),x0,x1,x2,x3,x4)) λc=>(.alt c (λa=>(.done (a.1,a.2.1,a.2.2.1,a.2.2.2.1,a.2.2.2.2.1,a.2.2.2.2.2))) (λb=>(.done ((0:Int),b.1,b.2.1,true,b.2.2.2.1,b.2.2.2.2)))))
def Kc:Nat->BA->Int->Bool->Nat->RW->Option (Int×BA×Int×Bool×Nat×RW)
 |0,_,_,_,_,_=>none
 |n+1,x0,x1,x2,x3,x4=>(OB n x0 x1 x2 x3 x4).run
abbrev OC (n:Nat):List (Ent (Rn n)):= [en (Hc n)]
def RP (n:Nat):LEnt (KB 302) (Rn n) n:=lok (zU 302) 14 ⟨⟨[(0,(.c (.ptr 0 0 0 0 0))),(3,aS)],[],[FH]⟩,[(.ret,⟨[(2,aI)],[],[FH]⟩),(.exit 0,⟨[(0,(.c (.ptr 0 0 0 0 0)))],[],[FH]⟩)]⟩ (I4 n) (OC n) [] λ_=>(by kernel_rfl)
theorem TJ:∀n,Ok (Rn n) UQ (Kc n)
 |0=>ok0 λ_=>rfl
 |n+1=>stO (T:=OB n) (by kernel_rfl) (OC n) [RP n] (λ_=>(by kernel_rfl)) λ_=>(by kernel_rfl)
def YC:Sg:=⟨216,[aI],[],⟨aS,[],[]⟩⟩
def Ng (n:Nat) (x0:Int):Tr (BA):=(.ask (decide (6=([[(.s (⟨#[]⟩:BA))],[(.s (⟨#[35,68,73,86,33]⟩:BA))],[(.s (⟨#[35,84,89,80,69,33]⟩:BA))],[(.s (⟨#[35,82,69,70,33]⟩:BA))],[(.s (⟨#[35,79,86,69,82,33]⟩:BA))],[(.s (⟨#[35,67,89,67,76,69,33]⟩:BA))]]:RW).length/\0<=x0/\x0<((6:Nat):Int))) (.opt (([[(.s (⟨#[]⟩:BA))],[(.s (⟨#[35,68,73,86,33]⟩:BA))],[(.s (⟨#[35,84,89,80,69,33]⟩:BA))],[(.s (⟨#[35,82,69,70,33]⟩:BA))],[(.s (⟨#[35,79,86,69,82,33]⟩:BA))],[(.s (⟨#[35,67,89,67,76,69,33]⟩:BA))]]:RW)[(x0).toNat]?) λa=>(.opt (zk a 0) λb=>(.done b))) .fail)
def FV:Nat->Int->Option (BA)
 |0,_=>none
 |n+1,x0=>(Ng n x0).run
theorem MJ:∀n,Ok (Rn n) YC (FV n)
 |0=>ok0 λ_=>rfl
 |n+1=>stO (T:=Ng n) (by kernel_rfl) [] [] (λ_=>(by kernel_rfl)) λ_=>(by kernel_rfl)
def Wv:Sg:=⟨303,[aI],[],⟨(.agg [qI,qI,qS]),[],[]⟩⟩
def MK (n:Nat) (x0:Int):Tr (Int×Int×BA):=(.done ((4:Int),x0,(⟨#[]⟩:BA)))
def Hd:Nat->Int->Option (Int×Int×BA)
 |0,_=>none
 |n+1,x0=>(MK n x0).run
theorem Vq:∀n,Ok (Rn n) Wv (Hd n)
 |0=>ok0 λ_=>rfl
 |n+1=>stO (T:=MK n) (by kernel_rfl) [] [] (λ_=>(by kernel_rfl)) λ_=>(by kernel_rfl)
def UR:Sg:=⟨304,[(.c (.ptr 0 0 0 0 0))],[FH],⟨aS,[FH],[]⟩⟩
def GU (n:Nat) (v:Int×BA×Int×Bool×Nat×RW):Tr ((Int×BA×Int×Bool×Nat×RW)⊕((Int×BA×Int×Bool×Nat×RW))):=(.ask ((decide (v.2.2.1<(v.2.1.size:Int)))) (.ask (decide (0<=v.2.2.1)) (.opt (v.2.1.toList[(v.2.2.1).toNat]?) λa=>(.ask ((decide ((a.toNat:Int)≥(65:Int)))) (.ask (decide (0<=v.2.2.1)) (.opt (v.2.1.toList[(v.2.2.1).toNat]?) λb=>(.ask ((decide ((b.toNat:Int)<=(90:Int)))) (.done (.inl (v.1,v.2.1,(IntKind.i64.wrap (v.2.2.1+(1:Int))),v.2.2.2.1,v.2.2.2.2.1,v.2.2.2.2.2))) (.ask (decide (0<=v.2.2.1)) (.opt (v.2.1.toList[(v.2.2.1).toNat]?) λc=>(.ask ((decide ((c.toNat:Int)≥(48:Int)))) (.ask (decide (0<=v.2.2.1)) (.opt (v.2.1.toList[(v.2.2.1).toNat]?) λd=>(.ask ((decide ((d.toNat:Int)<=(57:Int)))) (.done (.inl (v.1,v.2.1,(IntKind.i64.wrap (v.2.2.1+(1:Int))),v.2.2.2.1,v.2.2.2.2.1,v.2.2.2.2.2))) (.ask (decide (0<=v.2.2.1)) (.opt (v.2.1.toList[(v.2.2.1).toNat]?) λf=>(.ask (((f.toNat:Int)==(36:Int))) (.done (.inl (v.1,v.2.1,(IntKind.i64.wrap (v.2.2.1+(1:Int))),v.2.2.2.1,v.2.2.2.2.1,v.2.2.2.2.2))) (.done (.inr ((v.1,v.2.1,v.2.2.1,v.2.2.2.1,v.2.2.2.2.1,v.2.2.2.2.2)))))) .fail))) .fail) (.ask (decide (0<=v.2.2.1)) (.opt (v.2.1.toList[(v.2.2.1).toNat]?) λg=>(.ask (((g.toNat:Int)==(36:Int))) (.done (.inl (v.1,v.2.1,(IntKind.i64.wrap (v.2.2.1+(1:Int))),v.2.2.2.1,v.2.2.2.2.1,v.2.2.2.2.2))) (.done (.inr ((v.1,v.2.1,v.2.2.1,v.2.2.2.1,v.2.2.2.2.1,v.2.2.2.2.2)))))) .fail))) .fail))) .fail) (.ask (decide (0<=v.2.2.1)) (.opt (v.2.1.toList[(v.2.2.1).toNat]?) λh=>(.ask ((decide ((h.toNat:Int)≥(48:Int)))) (.ask (decide (0<=v.2.2.1)) (.opt (v.2.1.toList[(v.2.2.1).toNat]?) λj=>(.ask ((decide ((j.toNat:Int)<=(57:Int)))) (.done (.inl (v.1,v.2.1,(IntKind.i64.wrap (v.2.2.1+(1:Int))),v.2.2.2.1,v.2.2.2.2.1,v.2.2.2.2.2))) (.ask (decide (0<=v.2.2.1)) (.opt (v.2.1.toList[(v.2.2.1).toNat]?) λk=>(.ask (((k.toNat:Int)==(36:Int))) (.done (.inl (v.1,v.2.1,(IntKind.i64.wrap (v.2.2.1+(1:Int))),v.2.2.2.1,v.2.2.2.2.1,v.2.2.2.2.2))) (.done (.inr ((v.1,v.2.1,v.2.2.1,v.2.2.2.1,v.2.2.2.2.1,v.2.2.2.2.2)))))) .fail))) .fail) (.ask (decide (0<=v.2.2.1)) (.opt (v.2.1.toList[(v.2.2.1).toNat]?) λl=>(.ask (((l.toNat:Int)==(36:Int))) (.done (.inl (v.1,v.2.1,(IntKind.i64.wrap (v.2.2.1+(1:Int))),v.2.2.2.1,v.2.2.2.2.1,v.2.2.2.2.2))) (.done (.inr ((v.1,v.2.1,v.2.2.1,v.2.2.2.1,v.2.2.2.2.1,v.2.2.2.2.2)))))) .fail))) .fail))) .fail) (.done (.inr ((v.1,v.2.1,v.2.2.1,v.2.2.2.1,v.2.2.2.2.1,v.2.2.2.2.2)))))
def OD (n:Nat) (x0:BA) (x1:Int) (x2:Bool) (x3:Nat) (x4:RW):Tr (BA×BA×Int×Bool×Nat×RW):=(.opt (zE (GU n) n (x1,x0,x1,x2,x3,x4)) λa=>(.ask (decide (0<=a.1/\a.1<=a.2.2.1/\a.2.2.1<=a.2.1.size)) (.done ((a.2.1.extract (a.1).toNat (a.2.2.1).toNat),a.2.1,a.2.2.1,a.2.2.2.1,a.2.2.2.2.1,a.2.2.2.2.2)) .fail))
def He:Nat->BA->Int->Bool->Nat->RW->Option (BA×BA×Int×Bool×Nat×RW)
 |0,_,_,_,_,_=>none
 |n+1,x0,x1,x2,x3,x4=>(OD n x0 x1 x2 x3 x4).run
def RQ (n:Nat):LEnt (KB 304) (Rn n) n:=lok (zU 304) 14 ⟨⟨[(0,(.c (.ptr 0 0 0 0 0))),(3,aI)],[],[FH]⟩,[(.exit 0,⟨[(0,(.c (.ptr 0 0 0 0 0))),(3,aI)],[],[FH]⟩)]⟩ (GU n) [] [] λ_=>(by kernel_rfl)
theorem NB:∀n,Ok (Rn n) UR (He n)
 |0=>ok0 λ_=>rfl
 |n+1=>stO (T:=OD n) (by kernel_rfl) [] [RQ n] (λ_=>(by kernel_rfl)) λ_=>(by kernel_rfl)
def Zz:Sg:=⟨269,[aI],[],⟨aS,[],[]⟩⟩
def QD (n:Nat) (x0:Int):Tr (BA):=(.ask (decide (11=([[(.s (⟨#[]⟩:BA))],[(.s (⟨#[83,85,77]⟩:BA))],[(.s (⟨#[77,73,78]⟩:BA))],[(.s (⟨#[77,65,88]⟩:BA))],[(.s (⟨#[67,79,85,78,84]⟩:BA))],[(.s (⟨#[73,70]⟩:BA))],[(.s (⟨#[65,78,68]⟩:BA))],[(.s (⟨#[79,82]⟩:BA))],[(.s (⟨#[78,79,84]⟩:BA))],[(.s (⟨#[65,66,83]⟩:BA))],[(.s (⟨#[76,69,78]⟩:BA))]]:RW).length/\0<=x0/\x0<((11:Nat):Int))) (.opt (([[(.s (⟨#[]⟩:BA))],[(.s (⟨#[83,85,77]⟩:BA))],[(.s (⟨#[77,73,78]⟩:BA))],[(.s (⟨#[77,65,88]⟩:BA))],[(.s (⟨#[67,79,85,78,84]⟩:BA))],[(.s (⟨#[73,70]⟩:BA))],[(.s (⟨#[65,78,68]⟩:BA))],[(.s (⟨#[79,82]⟩:BA))],[(.s (⟨#[78,79,84]⟩:BA))],[(.s (⟨#[65,66,83]⟩:BA))],[(.s (⟨#[76,69,78]⟩:BA))]]:RW)[(x0).toNat]?) λa=>(.opt (zk a 0) λb=>(.done b))) .fail)
def HE:Nat->Int->Option (BA)
 |0,_=>none
 |n+1,x0=>(QD n x0).run
theorem TK:∀n,Ok (Rn n) Zz (HE n)
 |0=>ok0 λ_=>rfl
 |n+1=>stO (T:=QD n) (by kernel_rfl) [] [] (λ_=>(by kernel_rfl)) λ_=>(by kernel_rfl)
def Ww:Sg:=⟨150,[aS],[],⟨aI,[],[]⟩⟩
def HF (n:Nat) (v:BA×Int):Tr ((BA×Int)⊕((Int)⊕(Unit))):=(.ask ((decide (v.2<=(52:Int)))) (.opt (Ha n v.2) λa=>(.ask ((a.toList==v.1.toList)) (.done (.inr (.inl (v.2)))) (.done (.inl (v.1,(IntKind.i64.wrap (v.2+(1:Int)))))))) (.done (.inr (.inr (())))))
def ML (n:Nat) (x0:BA):Tr (Int):=(.opt (zE (HF n) n (x0,(1:Int))) λa=>(.alt a (λb=>(.done b)) (λc=>(.done (0:Int)))))
def IX:Nat->BA->Option (Int)
 |0,_=>none
 |n+1,x0=>(ML n x0).run
abbrev QE (n:Nat):List (Ent (Rn n)):= [en (PN n)]
def TL (n:Nat):LEnt (KB 150) (Rn n) n:=lok (zU 150) 13 ⟨⟨[(0,aS),(3,aI)],[],[]⟩,[(.ret,⟨[(2,aI)],[],[]⟩),(.exit 0,⟨[],[],[]⟩)]⟩ (HF n) (QE n) [] λ_=>(by kernel_rfl)
theorem Vr:∀n,Ok (Rn n) Ww (IX n)
 |0=>ok0 λ_=>rfl
 |n+1=>stO (T:=ML n) (by kernel_rfl) (QE n) [TL n] (λ_=>(by kernel_rfl)) λ_=>(by kernel_rfl)
def ZD:Sg:=⟨73,[aS,aI],[],⟨(.tup [(false,[qI]),(false,[qB])]),[],[]⟩⟩
def GQ (n:Nat) (v:BA×Int×Int):Tr ((BA×Int×Int)⊕((Int×Bool)⊕(Int))):=(.ask ((decide (v.2.2<(v.1.size:Int)))) (.ask (decide (0<=v.2.2)) (.opt (v.1.toList[(v.2.2).toNat]?) λa=>(.ask ((decide ((a.toNat:Int)<(48:Int)))) (.done (.inr (.inl (((0:Int),false))))) (.ask (decide (0<=v.2.2)) (.opt (v.1.toList[(v.2.2).toNat]?) λb=>(.ask ((decide ((b.toNat:Int)>(57:Int)))) (.done (.inr (.inl (((0:Int),false))))) (.ask (decide (0<=v.2.2)) (.opt (v.1.toList[(v.2.2).toNat]?) λc=>(.done (.inl (v.1,(IntKind.i64.wrap ((IntKind.i64.wrap (v.2.1*(10:Int)))+(IntKind.i64.wrap (IntKind.u8.wrap ((c.toNat:Int)-(48:Int)))))),(IntKind.i64.wrap (v.2.2+(1:Int))))))) .fail))) .fail))) .fail) (.done (.inr (.inr (v.2.1)))))
def H8 (n:Nat) (x0:BA):Tr (Int×Bool):=(.opt (zE (GQ n) n (x0,(0:Int),(0:Int))) λb=>(.alt b (λa=>(.done (a.1,a.2))) (λc=>(.done (c,true)))))
def Jv (n:Nat) (x0:BA) (x1:Int):Tr (Int×Bool):=(.ask ((decide ((x0.size:Int)<(1:Int)))) (.done ((0:Int),false)) (.ask ((decide ((x0.size:Int)>x1))) (.done ((0:Int),false)) (.ask (decide (0<=(0:Int))) (.opt (x0.toList[((0:Int)).toNat]?) λa=>(.ask (((a.toNat:Int)==(48:Int))) (.ask ((decide ((x0.size:Int)>(1:Int)))) (.done ((0:Int),false)) (H8 n x0)) (H8 n x0))) .fail)))
def El:Nat->BA->Int->Option (Int×Bool)
 |0,_,_=>none
 |n+1,x0,x1=>(Jv n x0 x1).run
def Vt (n:Nat):LEnt (KB 73) (Rn n) n:=lok (zU 73) 61 ⟨⟨[(0,aS),(6,aI),(7,aI)],[],[]⟩,[(.ret,⟨[(4,aI),(5,aB)],[],[]⟩),(.exit 0,⟨[(6,aI)],[],[]⟩)]⟩ (GQ n) [] [] λ_=>(by kernel_rfl)
theorem Nh:∀n,Ok (Rn n) ZD (El n)
 |0=>ok0 λ_=>rfl
 |n+1=>stO (T:=Jv n) (by kernel_rfl) [] [Vt n] (λ_=>(by kernel_rfl)) λ_=>(by kernel_rfl)
def US:Sg:=⟨72,[aS],[],⟨(.tup [(true,[qI,qI,qB,qB]),(false,[qB])]),[],[]⟩⟩
def EV (n:Nat) (v:BA×Int×Int×Int×Bool×Bool×Int×Int×Bool×Bool):Tr ((BA×Int×Int×Int×Bool×Bool×Int×Int×Bool×Bool)⊕((BA×Int×Int×Int×Bool×Bool×Int×Int×Bool×Bool))):=(.ask ((decide (v.2.1<(v.1.size:Int)))) (.ask (decide (0<=v.2.1)) (.opt (v.1.toList[(v.2.1).toNat]?) λa=>(.ask ((decide ((a.toNat:Int)≥(65:Int)))) (.ask (decide (0<=v.2.1)) (.opt (v.1.toList[(v.2.1).toNat]?) λb=>(.ask ((decide ((b.toNat:Int)<=(90:Int)))) (.done (.inl (v.1,(IntKind.i64.wrap (v.2.1+(1:Int))),v.2.2.1,v.2.2.2.1,v.2.2.2.2.1,v.2.2.2.2.2.1,v.2.2.2.2.2.2.1,v.2.2.2.2.2.2.2.1,v.2.2.2.2.2.2.2.2.1,v.2.2.2.2.2.2.2.2.2))) (.done (.inr ((v.1,v.2.1,v.2.2.1,v.2.2.2.1,v.2.2.2.2.1,v.2.2.2.2.2.1,v.2.2.2.2.2.2.1,v.2.2.2.2.2.2.2.1,v.2.2.2.2.2.2.2.2.1,v.2.2.2.2.2.2.2.2.2)))))) .fail) (.done (.inr ((v.1,v.2.1,v.2.2.1,v.2.2.2.1,v.2.2.2.2.1,v.2.2.2.2.2.1,v.2.2.2.2.2.2.1,v.2.2.2.2.2.2.2.1,v.2.2.2.2.2.2.2.2.1,v.2.2.2.2.2.2.2.2.2)))))) .fail) (.done (.inr ((v.1,v.2.1,v.2.2.1,v.2.2.2.1,v.2.2.2.2.1,v.2.2.2.2.2.1,v.2.2.2.2.2.2.1,v.2.2.2.2.2.2.2.1,v.2.2.2.2.2.2.2.2.1,v.2.2.2.2.2.2.2.2.2)))))
def GV (n:Nat) (a:((BA×Int×Int×Int×Bool×Bool×Int×Int×Bool×Bool))):Tr (Int×Int×Bool×Bool×Bool):=(.ask (decide (0<=(0:Int)/\(0:Int)<=a.2.1/\a.2.1<=a.1.size)) (.opt (IX n (a.1.extract ((0:Int)).toNat (a.2.1).toNat)) λb=>(.ask (decide (0<=a.2.1/\a.2.1<=(a.1.size:Int)/\(a.1.size:Int)<=a.1.size)) (.ask ((decide (((a.1.extract (a.2.1).toNat ((a.1.size:Int)).toNat).size:Int)>(0:Int)))) (.ask (decide (0<=(0:Int))) (.opt ((a.1.extract (a.2.1).toNat ((a.1.size:Int)).toNat).toList[((0:Int)).toNat]?) λg=>(.ask (((g.toNat:Int)==(36:Int))) (.ask (decide (0<=(1:Int)/\(1:Int)<=((a.1.extract (a.2.1).toNat ((a.1.size:Int)).toNat).size:Int)/\((a.1.extract (a.2.1).toNat ((a.1.size:Int)).toNat).size:Int)<=(a.1.extract (a.2.1).toNat ((a.1.size:Int)).toNat).size)) (.opt (El n ((a.1.extract (a.2.1).toNat ((a.1.size:Int)).toNat).extract ((1:Int)).toNat (((a.1.extract (a.2.1).toNat ((a.1.size:Int)).toNat).size:Int)).toNat) (2:Int)) λc=>(.ask ((!c.2)) (.done ((0:Int),(0:Int),false,false,false)) (.opt (E1 n b c.1) λh=>(.ask ((!h)) (.done ((0:Int),(0:Int),false,false,false)) (.done (b,c.1,a.2.2.2.2.2.2.2.2.1,true,true)))))) .fail) (.opt (El n (a.1.extract (a.2.1).toNat ((a.1.size:Int)).toNat) (2:Int)) λd=>(.ask ((!d.2)) (.done ((0:Int),(0:Int),false,false,false)) (.opt (E1 n b d.1) λj=>(.ask ((!j)) (.done ((0:Int),(0:Int),false,false,false)) (.done (b,d.1,a.2.2.2.2.2.2.2.2.1,a.2.2.2.2.2.2.2.2.2,true)))))))) .fail) (.opt (El n (a.1.extract (a.2.1).toNat ((a.1.size:Int)).toNat) (2:Int)) λf=>(.ask ((!f.2)) (.done ((0:Int),(0:Int),false,false,false)) (.opt (E1 n b f.1) λk=>(.ask ((!k)) (.done ((0:Int),(0:Int),false,false,false)) (.done (b,f.1,a.2.2.2.2.2.2.2.2.1,a.2.2.2.2.2.2.2.2.2,true))))))) .fail)) .fail)
def GW (n:Nat) (x0:BA):Tr (Int×Int×Bool×Bool×Bool):=(.opt (zE (EV n) n (x0,(0:Int),(0:Int),(0:Int),false,false,(0:Int),(0:Int),false,false)) λa=>(GV n a))
def Gm (n:Nat) (x0:BA):Tr (Int×Int×Bool×Bool×Bool):=(.ask ((decide ((x0.size:Int)>(0:Int)))) (.ask (decide (0<=(0:Int))) (.opt (x0.toList[((0:Int)).toNat]?) λa=>(.ask (((a.toNat:Int)==(36:Int))) (.ask (decide (0<=(1:Int)/\(1:Int)<=(x0.size:Int)/\(x0.size:Int)<=x0.size)) (.opt (zE (EV n) n ((x0.extract ((1:Int)).toNat ((x0.size:Int)).toNat),(0:Int),(0:Int),(0:Int),false,false,(0:Int),(0:Int),true,false)) λb=>(GV n b)) .fail) (GW n x0))) .fail) (GW n x0))
def E2:Nat->BA->Option (Int×Int×Bool×Bool×Bool)
 |0,_=>none
 |n+1,x0=>(Gm n x0).run
abbrev OE (n:Nat):List (Ent (Rn n)):= [en (Vr n),en (Nh n),en (IC n)]
def RR (n:Nat):LEnt (KB 72) (Rn n) n:=lok (zU 72) 62 ⟨⟨[(0,aS),(2,(.c (.ptr 0 128 0 0 0))),(4,(.c (.ptr 0 256 0 0 0))),(5,aI)],oj,[]⟩,[(.exit 0,⟨[(0,aS),(2,(.c (.ptr 0 128 0 0 0))),(4,(.c (.ptr 0 256 0 0 0))),(5,aI)],oj,[]⟩)]⟩ (EV n) (OE n) [] λ_=>(by kernel_rfl)
theorem NC:∀n,Ok (Rn n) US (E2 n)
 |0=>ok0 λ_=>rfl
 |n+1=>stO (T:=Gm n) (by kernel_rfl) (OE n) [RR n] (λ_=>(by kernel_rfl)) λ_=>(by kernel_rfl)
def UT:Sg:=⟨148,[aS],[],⟨(.tup [(true,[qI,qI,qS]),(false,[qB])]),[],[]⟩⟩
def FZ (n:Nat) (v:BA×Int×Int×Int×BA×Int×Int×BA):Tr ((BA×Int×Int×Int×BA×Int×Int×BA)⊕((Int×Int×BA×Int×Int×BA))):=(.ask ((decide (v.2.1<=(5:Int)))) (.opt (FV n v.2.1) λa=>(.ask ((a.toList==v.1.toList)) (.done (.inl (v.1,(IntKind.i64.wrap (v.2.1+(1:Int))),v.2.2.1,v.2.2.2.1,v.2.2.2.2.1,v.2.2.2.2.2.1,v.2.1,v.2.2.2.2.2.2.2))) (.done (.inl (v.1,(IntKind.i64.wrap (v.2.1+(1:Int))),v.2.2.1,v.2.2.2.1,v.2.2.2.2.1,v.2.2.2.2.2.1,v.2.2.2.2.2.2.1,v.2.2.2.2.2.2.2))))) (.done (.inr ((v.2.2.1,v.2.2.2.1,v.2.2.2.2.1,v.2.2.2.2.2.1,v.2.2.2.2.2.2.1,v.2.2.2.2.2.2.2)))))
def Do (n:Nat) (a:(Int×Bool)):Tr (Int×Int×BA×Bool):=(.opt (EA n (1:Int) (IntKind.i64.wrap (0-a.1)) (⟨#[]⟩:BA)) λb=>(.ask ((!b)) (.done ((0:Int),(0:Int),(⟨#[]⟩:BA),false)) (.done ((1:Int),(IntKind.i64.wrap (0-a.1)),(⟨#[]⟩:BA),true))))
def Dp (n:Nat) (a:(Int×Bool)):Tr (Int×Int×BA×Bool):=(.opt (EA n (1:Int) a.1 (⟨#[]⟩:BA)) λb=>(.ask ((!b)) (.done ((0:Int),(0:Int),(⟨#[]⟩:BA),false)) (.done ((1:Int),a.1,(⟨#[]⟩:BA),true))))
def Dq (n:Nat) (k0 k1:Int):Tr (Int×Int×BA×Bool):=(.opt (EA n (3:Int) k0 (⟨#[]⟩:BA)) λa=>(.ask ((!a)) (.done ((0:Int),(0:Int),(⟨#[]⟩:BA),false)) (.done ((3:Int),k1,(⟨#[]⟩:BA),true))))
def E3 (n:Nat) (x0:BA):Tr (Int×Int×BA×Bool):=(.ask ((x0.toList==(⟨#[]⟩:BA).toList)) (.done ((0:Int),(0:Int),(⟨#[]⟩:BA),true)) (.ask (decide (0<=(0:Int))) (.opt (x0.toList[((0:Int)).toNat]?) λf=>(.ask (((f.toNat:Int)==(39:Int))) (.ask (decide (0<=(1:Int)/\(1:Int)<=(x0.size:Int)/\(x0.size:Int)<=x0.size)) (.opt (EA n (2:Int) (0:Int) (x0.extract ((1:Int)).toNat ((x0.size:Int)).toNat)) λg=>(.ask ((!g)) (.done ((0:Int),(0:Int),(⟨#[]⟩:BA),false)) (.done ((2:Int),(0:Int),(x0.extract ((1:Int)).toNat ((x0.size:Int)).toNat),true)))) .fail) (.ask ((x0.toList==(⟨#[84,82,85,69]⟩:BA).toList)) (.ask ((x0.toList==(⟨#[84,82,85,69]⟩:BA).toList)) (Dq n (1:Int) (1:Int)) (Dq n (0:Int) (0:Int))) (.ask ((x0.toList==(⟨#[70,65,76,83,69]⟩:BA).toList)) (.ask ((x0.toList==(⟨#[84,82,85,69]⟩:BA).toList)) (Dq n (1:Int) (1:Int)) (Dq n (0:Int) (0:Int))) (.ask (decide (0<=(0:Int))) (.opt (x0.toList[((0:Int)).toNat]?) λh=>(.ask (((h.toNat:Int)==(35:Int))) (.opt (zE (FZ n) n (x0,(1:Int),(0:Int),(0:Int),(⟨#[]⟩:BA),(4:Int),(0:Int),(⟨#[]⟩:BA))) λb=>(.opt (EA n b.2.2.2.1 b.2.2.2.2.1 b.2.2.2.2.2) λj=>(.ask ((!j)) (.done ((0:Int),(0:Int),(⟨#[]⟩:BA),false)) (.done (b.2.2.2.1,b.2.2.2.2.1,b.2.2.2.2.2,true))))) (.ask (decide (0<=(0:Int))) (.opt (x0.toList[((0:Int)).toNat]?) λa=>(.ask (((a.toNat:Int)==(45:Int))) (.ask (decide (0<=(1:Int)/\(1:Int)<=(x0.size:Int)/\(x0.size:Int)<=x0.size)) (.opt (El n (x0.extract ((1:Int)).toNat ((x0.size:Int)).toNat) (16:Int)) λc=>(.ask ((!c.2)) (.done ((0:Int),(0:Int),(⟨#[]⟩:BA),false)) (.ask (((a.toNat:Int)==(45:Int))) (.ask ((c.1==(0:Int))) (.done ((0:Int),(0:Int),(⟨#[]⟩:BA),false)) (.ask (((a.toNat:Int)==(45:Int))) (Do n c) (Dp n c))) (.ask (((a.toNat:Int)==(45:Int))) (Do n c) (Dp n c))))) .fail) (.opt (El n x0 (16:Int)) λd=>(.ask ((!d.2)) (.done ((0:Int),(0:Int),(⟨#[]⟩:BA),false)) (.ask (((a.toNat:Int)==(45:Int))) (.ask ((d.1==(0:Int))) (.done ((0:Int),(0:Int),(⟨#[]⟩:BA),false)) (.ask (((a.toNat:Int)==(45:Int))) (Do n d) (Dp n d))) (.ask (((a.toNat:Int)==(45:Int))) (Do n d) (Dp n d))))))) .fail))) .fail))))) .fail))
def Dw:Nat->BA->Option (Int×Int×BA×Bool)
 |0,_=>none
 |n+1,x0=>(E3 n x0).run
abbrev OF (n:Nat):List (Ent (Rn n)):= [en (JM n),en (MJ n),en (Nh n)]
def Og (n:Nat):LEnt (KB 148) (Rn n) n:=lok (zU 148) 15355 ⟨⟨[(0,aS),(2,(.c (.ptr 0 128 0 0 0))),(4,(.c (.ptr 0 256 0 0 0))),(5,aI)],bh,[]⟩,[(.exit 1,⟨[(2,(.c (.ptr 0 128 0 0 0))),(4,(.c (.ptr 0 256 0 0 0)))],bh,[]⟩)]⟩ (FZ n) (OF n) [] λ_=>(by kernel_rfl)
theorem ND:∀n,Ok (Rn n) UT (Dw n)
 |0=>ok0 λ_=>rfl
 |n+1=>stO (T:=E3 n) (by kernel_rfl) (OF n) [Og n] (λ_=>(by kernel_rfl)) λ_=>(by kernel_rfl)
def Wx:Sg:=⟨268,[aI],[],⟨aI,[],[]⟩⟩
def MM (n:Nat) (x0:Int):Tr (Int):=(.ask ((decide (x0≥(6:Int)))) (.done (1:Int)) (.ask ((x0==(5:Int))) (.done (2:Int)) (.ask ((decide (x0≥(3:Int)))) (.done (4:Int)) (.done (3:Int)))))
def Gp:Nat->Int->Option (Int)
 |0,_=>none
 |n+1,x0=>(MM n x0).run
theorem PP:∀n,Ok (Rn n) Wx (Gp n)
 |0=>ok0 λ_=>rfl
 |n+1=>stO (T:=MM n) (by kernel_rfl) [] [] (λ_=>(by kernel_rfl)) λ_=>(by kernel_rfl)
def Wy:Sg:=⟨262,[(.c (.ptr 0 0 0 0 0)),aI],[FH],⟨aI,[FH],[]⟩⟩
def Jw (n:Nat) (v:Int×Nat×Int×RW×BA×Int×Bool×Nat×RW):Tr ((Int×Nat×Int×RW×BA×Int×Bool×Nat×RW)⊕((Int×BA×Int×Bool×Nat×RW)⊕(BA×Int×Bool×Nat×RW))):=(.ask ((decide (v.2.2.1<((v.2.1:Nat):Int)))) (.ask (decide (v.2.1=v.2.2.2.1.length/\0<=v.2.2.1/\v.2.2.1<((v.2.1:Nat):Int))) (.opt (v.2.2.2.1[(v.2.2.1).toNat]?) λb=>(.opt (zC .i64 b 0) λc=>(.opt (Gp n c) λd=>(.ask ((d==v.1)) (.ask (decide (v.2.1=v.2.2.2.1.length/\0<=v.2.2.1/\v.2.2.1<((v.2.1:Nat):Int))) (.opt (v.2.2.2.1[(v.2.2.1).toNat]?) λf=>(.opt (zC .i64 f 0) λg=>(.opt (Gh n g) λh=>(.opt (Dn n h v.2.2.2.2.1 v.2.2.2.2.2.1 v.2.2.2.2.2.2.1 v.2.2.2.2.2.2.2.1 v.2.2.2.2.2.2.2.2) λa=>(.ask (a.1) (.ask (decide (v.2.1=v.2.2.2.1.length/\0<=v.2.2.1/\v.2.2.1<((v.2.1:Nat):Int))) (.opt (v.2.2.2.1[(v.2.2.1).toNat]?) λj=>(.opt (zC .i64 j 0) λk=>(.done (.inr (.inl ((k,a.2.1,a.2.2.1,a.2.2.2.1,a.2.2.2.2.1,a.2.2.2.2.2))))))) .fail) (.done (.inl (v.1,v.2.1,(IntKind.i64.wrap (v.2.2.1+(1:Int))),v.2.2.2.1,a.2.1,a.2.2.1,a.2.2.2.1,a.2.2.2.2.1,a.2.2.2.2.2)))))))) .fail) (.done (.inl (v.1,v.2.1,(IntKind.i64.wrap (v.2.2.1+(1:Int))),v.2.2.2.1,v.2.2.2.2.1,v.2.2.2.2.2.1,v.2.2.2.2.2.2.1,v.2.2.2.2.2.2.2.1,v.2.2.2.2.2.2.2.2))))))) .fail) (.done (.inr (.inr ((v.2.2.2.2.1,v.2.2.2.2.2.1,v.2.2.2.2.2.2.1,v.2.2.2.2.2.2.2.1,v.2.2.2.2.2.2.2.2))))))
def QF (n:Nat) (x0:Int) (x1:BA) (x2:Int) (x3:Bool) (x4:Nat) (x5:RW):Tr (Int×BA×Int×Bool×Nat×RW):=(.opt (zE (Jw n) n (x0,(11:Nat),(0:Int),([[(.i .i64 (7:Int))],[(.i .i64 (9:Int))],[(.i .i64 (11:Int))],[(.i .i64 (6:Int))],[(.i .i64 (8:Int))],[(.i .i64 (10:Int))],[(.i .i64 (1:Int))],[(.i .i64 (2:Int))],[(.i .i64 (3:Int))],[(.i .i64 (4:Int))],[(.i .i64 (5:Int))]]:RW),x1,x2,x3,x4,x5)) λc=>(.alt c (λa=>(.done (a.1,a.2.1,a.2.2.1,a.2.2.2.1,a.2.2.2.2.1,a.2.2.2.2.2))) (λb=>(.done ((0:Int),b.1,b.2.1,b.2.2.1,b.2.2.2.1,b.2.2.2.2)))))
def Jx:Nat->Int->BA->Int->Bool->Nat->RW->Option (Int×BA×Int×Bool×Nat×RW)
 |0,_,_,_,_,_,_=>none
 |n+1,x0,x1,x2,x3,x4,x5=>(QF n x0 x1 x2 x3 x4 x5).run
abbrev QG (n:Nat):List (Ent (Rn n)):= [en (PP n),en (MD n),en (JL n)]
def TM (n:Nat):LEnt (KB 262) (Rn n) n:=lok (zU 262) 29 ⟨⟨[(0,(.c (.ptr 0 0 0 0 0))),(1,aI),(5,(.c (.own 1 448 0 0))),(6,aI)],[(448,⟨0,1,2,(.row [])⟩)],[FH]⟩,[(.ret,⟨[(4,aI)],[],[FH]⟩),(.exit 0,⟨[],[],[FH]⟩)]⟩ (Jw n) (QG n) [] λ_=>(by kernel_rfl)
theorem Vu:∀n,Ok (Rn n) Wy (Jx n)
 |0=>ok0 λ_=>rfl
 |n+1=>stO (T:=QF n) (by kernel_rfl) (QG n) [TM n] (λ_=>(by kernel_rfl)) λ_=>(by kernel_rfl)
def PQ:Sg:=⟨210,[(.c (.ptr 0 0 0 0 0)),aI],[FH],⟨aI,[FH],[]⟩⟩
def Vv:Sg:=⟨261,[(.c (.ptr 0 0 0 0 0))],[FH],⟨aI,[FH],[]⟩⟩
def UU:Sg:=⟨305,[(.c (.ptr 0 0 0 0 0)),aI],[FH],⟨aI,[FH],[]⟩⟩
def Vw:Sg:=⟨336,[(.c (.ptr 0 0 0 0 0))],[FH],⟨aI,[FH],[]⟩⟩
structure G_spec_l3Rd_row where
 spec_l3Rd_row:Int->BA->Int->Bool->Nat->RW->Option (Int×BA×Int×Bool×Nat×RW)
 spec_l3Rd_one:BA->Int->Bool->Nat->RW->Option (Int×BA×Int×Bool×Nat×RW)
 spec_l3Rd_call:Int->BA->Int->Bool->Nat->RW->Option (Int×BA×Int×Bool×Nat×RW)
 spec_l3Rd_arg:BA->Int->Bool->Nat->RW->Option (Int×BA×Int×Bool×Nat×RW)
def JV (rec:G_spec_l3Rd_row) (n:Nat) (v:Int×Int×BA×Int×Bool×Nat×RW):Tr ((Int×Int×BA×Int×Bool×Nat×RW)⊕((Int×BA×Int×Bool×Nat×RW)⊕(Int×BA×Int×Bool×Nat×RW))):=(.ask ((!v.2.2.2.2.1)) (.opt (Jx n v.1 v.2.2.1 v.2.2.2.1 v.2.2.2.2.1 v.2.2.2.2.2.1 v.2.2.2.2.2.2) λa=>(.ask ((a.1==(0:Int))) (.done (.inr (.inl ((v.2.1,a.2.1,a.2.2.1,a.2.2.2.1,a.2.2.2.2.1,a.2.2.2.2.2))))) (.opt (rec.spec_l3Rd_row (IntKind.i64.wrap (v.1+(1:Int))) a.2.1 a.2.2.1 a.2.2.2.1 a.2.2.2.2.1 a.2.2.2.2.2) λb=>(.ask (decide (2=([[(.i .i64 v.2.1)],[(.i .i64 b.1)]]:RW).length)) (.opt (DX n (5:Int) a.1 (0:Int) (0:Int) (⟨#[]⟩:BA) (0:Int) (0:Int) false false (0:Int) (0:Int) false false ([[(.i .i64 v.2.1)],[(.i .i64 b.1)]]:RW) b.2.1 b.2.2.1 b.2.2.2.1 b.2.2.2.2.1 b.2.2.2.2.2) λc=>(.done (.inl (v.1,c.1,c.2.1,c.2.2.1,c.2.2.2.1,c.2.2.2.2.1,c.2.2.2.2.2)))) .fail)))) (.done (.inr (.inr ((v.2.1,v.2.2.1,v.2.2.2.1,v.2.2.2.2.1,v.2.2.2.2.2.1,v.2.2.2.2.2.2))))))
def PR (rec:G_spec_l3Rd_row) (n:Nat) (x0:Int) (x1:BA) (x2:Int) (x3:Bool) (x4:Nat) (x5:RW):Tr (Int×BA×Int×Bool×Nat×RW):=(.ask (x3) (.done ((0:Int),x1,x2,x3,x4,x5)) (.ask ((x0==(5:Int))) (.opt (rec.spec_l3Rd_one x1 x2 x3 x4 x5) λa=>(.done (a.1,a.2.1,a.2.2.1,a.2.2.2.1,a.2.2.2.2.1,a.2.2.2.2.2))) (.opt (rec.spec_l3Rd_row (IntKind.i64.wrap (x0+(1:Int))) x1 x2 x3 x4 x5) λb=>(.opt (zE (JV rec n) n (x0,b.1,b.2.1,b.2.2.1,b.2.2.2.1,b.2.2.2.2.1,b.2.2.2.2.2)) λf=>(.alt f (λc=>(.done (c.1,c.2.1,c.2.2.1,c.2.2.2.1,c.2.2.2.2.1,c.2.2.2.2.2))) (λd=>(.done (d.1,d.2.1,d.2.2.1,d.2.2.2.1,d.2.2.2.2.1,d.2.2.2.2.2))))))))
def HG (n:Nat) (v:Int×BA×Int×Bool×Nat×RW):Tr ((Int×BA×Int×Bool×Nat×RW)⊕((Int×BA×Int×Bool×Nat×RW)⊕(BA×Int×Bool×Nat×RW))):=(.ask ((decide (v.1<=(5:Int)))) (.opt (FV n v.1) λa=>(.ask (decide (0<=(1:Int)/\(1:Int)<=(a.size:Int)/\(a.size:Int)<=a.size)) (.ask ((decide ((IntKind.i64.wrap (v.2.2.1+((a.extract ((1:Int)).toNat ((a.size:Int)).toNat).size:Int)))<=(v.2.1.size:Int)))) (.ask (decide (0<=v.2.2.1/\v.2.2.1<=(IntKind.i64.wrap (v.2.2.1+((a.extract ((1:Int)).toNat ((a.size:Int)).toNat).size:Int)))/\(IntKind.i64.wrap (v.2.2.1+((a.extract ((1:Int)).toNat ((a.size:Int)).toNat).size:Int)))<=v.2.1.size)) (.ask (((v.2.1.extract (v.2.2.1).toNat ((IntKind.i64.wrap (v.2.2.1+((a.extract ((1:Int)).toNat ((a.size:Int)).toNat).size:Int)))).toNat).toList==(a.extract ((1:Int)).toNat ((a.size:Int)).toNat).toList)) (.opt (Hd n v.1) λc=>(.opt (DX n (1:Int) (0:Int) c.1 c.2.1 c.2.2 (0:Int) (0:Int) false false (0:Int) (0:Int) false false ([]:RW) v.2.1 (IntKind.i64.wrap (v.2.2.1+((a.extract ((1:Int)).toNat ((a.size:Int)).toNat).size:Int))) v.2.2.2.1 v.2.2.2.2.1 v.2.2.2.2.2) λb=>(.done (.inr (.inl ((b.1,b.2.1,b.2.2.1,b.2.2.2.1,b.2.2.2.2.1,b.2.2.2.2.2))))))) (.done (.inl ((IntKind.i64.wrap (v.1+(1:Int))),v.2.1,v.2.2.1,v.2.2.2.1,v.2.2.2.2.1,v.2.2.2.2.2)))) .fail) (.done (.inl ((IntKind.i64.wrap (v.1+(1:Int))),v.2.1,v.2.2.1,v.2.2.2.1,v.2.2.2.2.1,v.2.2.2.2.2)))) .fail)) (.done (.inr (.inr ((v.2.1,v.2.2.1,v.2.2.2.1,v.2.2.2.2.1,v.2.2.2.2.2))))))
def Hr (rec:G_spec_l3Rd_row) (n:Nat) (v:BA×Int×BA×Int×Bool×Nat×RW):Tr ((BA×Int×BA×Int×Bool×Nat×RW)⊕((Int×BA×Int×Bool×Nat×RW)⊕(BA×BA×Int×Bool×Nat×RW))):=(.ask ((decide (v.2.1<=(10:Int)))) (.opt (HE n v.2.1) λc=>(.ask ((c.toList==v.1.toList)) (.opt (Dn n (⟨#[40]⟩:BA) v.2.2.1 v.2.2.2.1 v.2.2.2.2.1 v.2.2.2.2.2.1 v.2.2.2.2.2.2) λa=>(.ask (a.1) (.opt (rec.spec_l3Rd_call v.2.1 a.2.1 a.2.2.1 a.2.2.2.1 a.2.2.2.2.1 a.2.2.2.2.2) λb=>(.done (.inr (.inl ((b.1,b.2.1,b.2.2.1,b.2.2.2.1,b.2.2.2.2.1,b.2.2.2.2.2)))))) (.done (.inl (v.1,(IntKind.i64.wrap (v.2.1+(1:Int))),a.2.1,a.2.2.1,a.2.2.2.1,a.2.2.2.2.1,a.2.2.2.2.2))))) (.done (.inl (v.1,(IntKind.i64.wrap (v.2.1+(1:Int))),v.2.2.1,v.2.2.2.1,v.2.2.2.2.1,v.2.2.2.2.2.1,v.2.2.2.2.2.2))))) (.done (.inr (.inr ((v.1,v.2.2.1,v.2.2.2.1,v.2.2.2.2.1,v.2.2.2.2.2.1,v.2.2.2.2.2.2))))))
def MN (n:Nat) (a:(BA×BA×Int×Bool×Nat×RW)):Tr (Int×BA×Int×Bool×Nat×RW):=(.opt (E2 n a.1) λc=>(.ask ((!c.2.2.2.2)) (.done ((0:Int),a.2.1,a.2.2.1,true,a.2.2.2.2.1,a.2.2.2.2.2)) (.opt (DX n (2:Int) (0:Int) (0:Int) (0:Int) (⟨#[]⟩:BA) c.1 c.2.1 c.2.2.1 c.2.2.2.1 (0:Int) (0:Int) false false ([]:RW) a.2.1 a.2.2.1 a.2.2.2.1 a.2.2.2.2.1 a.2.2.2.2.2) λb=>(.done (b.1,b.2.1,b.2.2.1,b.2.2.2.1,b.2.2.2.2.1,b.2.2.2.2.2)))))
def PT (rec:G_spec_l3Rd_row) (n:Nat) (x0:BA) (x1:Int) (x2:Bool) (x3:Nat) (x4:RW):Tr (Int×BA×Int×Bool×Nat×RW):=(.opt (Dn n (⟨#[45]⟩:BA) x0 x1 x2 x3 x4) λa=>(.ask (a.1) (.opt (rec.spec_l3Rd_row (5:Int) a.2.1 a.2.2.1 a.2.2.2.1 a.2.2.2.2.1 a.2.2.2.2.2) λh=>(.ask (decide (1=([[(.i .i64 h.1)]]:RW).length)) (.opt (DX n (4:Int) (0:Int) (0:Int) (0:Int) (⟨#[]⟩:BA) (0:Int) (0:Int) false false (0:Int) (0:Int) false false ([[(.i .i64 h.1)]]:RW) h.2.1 h.2.2.1 h.2.2.2.1 h.2.2.2.2.1 h.2.2.2.2.2) λk=>(.done (k.1,k.2.1,k.2.2.1,k.2.2.2.1,k.2.2.2.2.1,k.2.2.2.2.2))) .fail)) (.opt (Dn n (⟨#[40]⟩:BA) a.2.1 a.2.2.1 a.2.2.2.1 a.2.2.2.2.1 a.2.2.2.2.2) λb=>(.ask (b.1) (.opt (rec.spec_l3Rd_row (1:Int) b.2.1 b.2.2.1 b.2.2.2.1 b.2.2.2.2.1 b.2.2.2.2.2) λj=>(.opt (Dn n (⟨#[41]⟩:BA) j.2.1 j.2.2.1 j.2.2.2.1 j.2.2.2.2.1 j.2.2.2.2.2) λf=>(.ask ((!f.1)) (.done (j.1,f.2.1,f.2.2.1,true,f.2.2.2.2.1,f.2.2.2.2.2)) (.done (j.1,f.2.1,f.2.2.1,f.2.2.2.1,f.2.2.2.2.1,f.2.2.2.2.2))))) (.opt (Dn n (⟨#[34]⟩:BA) b.2.1 b.2.2.1 b.2.2.2.1 b.2.2.2.2.1 b.2.2.2.2.2) λc=>(.ask (c.1) (.opt (Kc n c.2.1 c.2.2.1 c.2.2.2.1 c.2.2.2.2.1 c.2.2.2.2.2) λl=>(.done (l.1,l.2.1,l.2.2.1,l.2.2.2.1,l.2.2.2.2.1,l.2.2.2.2.2))) (.opt (Dn n (⟨#[35]⟩:BA) c.2.1 c.2.2.1 c.2.2.2.1 c.2.2.2.2.1 c.2.2.2.2.2) λd=>(.ask (d.1) (.opt (zE (HG n) n ((1:Int),d.2.1,d.2.2.1,d.2.2.2.1,d.2.2.2.2.1,d.2.2.2.2.2)) λu=>(.alt u (λm=>(.done (m.1,m.2.1,m.2.2.1,m.2.2.2.1,m.2.2.2.2.1,m.2.2.2.2.2))) (λs=>(.done ((0:Int),s.1,s.2.1,true,s.2.2.2.1,s.2.2.2.2))))) (.opt (He n d.2.1 d.2.2.1 d.2.2.2.1 d.2.2.2.2.1 d.2.2.2.2.2) λo=>(.opt (zE (Hr rec n) n (o.1,(1:Int),o.2.1,o.2.2.1,o.2.2.2.1,o.2.2.2.2.1,o.2.2.2.2.2)) λw=>(.alt w (λp=>(.done (p.1,p.2.1,p.2.2.1,p.2.2.2.1,p.2.2.2.2.1,p.2.2.2.2.2))) (λg=>(.opt (Dw n g.1) λt=>(.ask (t.2.2.2) (.ask ((!(g.1.toList==(⟨#[]⟩:BA).toList))) (.opt (DX n (1:Int) (0:Int) t.1 t.2.1 t.2.2.1 (0:Int) (0:Int) false false (0:Int) (0:Int) false false ([]:RW) g.2.1 g.2.2.1 g.2.2.2.1 g.2.2.2.2.1 g.2.2.2.2.2) λq=>(.done (q.1,q.2.1,q.2.2.1,q.2.2.2.1,q.2.2.2.2.1,q.2.2.2.2.2))) (MN n g)) (MN n g)))))))))))))))
def I5 (rec:G_spec_l3Rd_row) (n:Nat) (v:Int×Nat×RW×BA×Int×Bool×Nat×RW):Tr ((Int×Nat×RW×BA×Int×Bool×Nat×RW)⊕((Int×BA×Int×Bool×Nat×RW)⊕(BA×Int×Bool×Nat×RW))):=(.ask ((!v.2.2.2.2.2.1)) (.opt (rec.spec_l3Rd_arg v.2.2.2.1 v.2.2.2.2.1 v.2.2.2.2.2.1 v.2.2.2.2.2.2.1 v.2.2.2.2.2.2.2) λa=>(.ask (decide (1=([[(.i .i64 a.1)]]:RW).length)) (.ask (decide (v.2.1=v.2.2.1.length/\0<1/\0<8/\(v.2.1+([[(.i .i64 a.1)]]:RW).length)*8<=140737488355328/\([[(.i .i64 a.1)]]:RW).all (λe=>e.length==1)=true)) (.opt (Dn n (⟨#[41]⟩:BA) a.2.1 a.2.2.1 a.2.2.2.1 a.2.2.2.2.1 a.2.2.2.2.2) λb=>(.ask (b.1) (.ask (decide ((v.2.1+1)=(v.2.2.1++([[(.i .i64 a.1)]]:RW)).length)) (.opt (DX n (6:Int) v.1 (0:Int) (0:Int) (⟨#[]⟩:BA) (0:Int) (0:Int) false false (0:Int) (0:Int) false false (v.2.2.1++([[(.i .i64 a.1)]]:RW)) b.2.1 b.2.2.1 b.2.2.2.1 b.2.2.2.2.1 b.2.2.2.2.2) λd=>(.done (.inr (.inl ((d.1,d.2.1,d.2.2.1,d.2.2.2.1,d.2.2.2.2.1,d.2.2.2.2.2)))))) .fail) (.opt (Dn n (⟨#[44]⟩:BA) b.2.1 b.2.2.1 b.2.2.2.1 b.2.2.2.2.1 b.2.2.2.2.2) λc=>(.ask ((!c.1)) (.done (.inl (v.1,(v.2.1+1),(v.2.2.1++([[(.i .i64 a.1)]]:RW)),c.2.1,c.2.2.1,true,c.2.2.2.2.1,c.2.2.2.2.2))) (.done (.inl (v.1,(v.2.1+1),(v.2.2.1++([[(.i .i64 a.1)]]:RW)),c.2.1,c.2.2.1,c.2.2.2.1,c.2.2.2.2.1,c.2.2.2.2.2))))))) .fail) .fail)) (.done (.inr (.inr ((v.2.2.2.1,v.2.2.2.2.1,v.2.2.2.2.2.1,v.2.2.2.2.2.2.1,v.2.2.2.2.2.2.2))))))
def OG (rec:G_spec_l3Rd_row) (n:Nat) (x0:Int) (x1:BA) (x2:Int) (x3:Bool) (x4:Nat) (x5:RW):Tr (Int×BA×Int×Bool×Nat×RW):=(.opt (zE (I5 rec n) n (x0,(0:Nat),([]:RW),x1,x2,x3,x4,x5)) λc=>(.alt c (λa=>(.done (a.1,a.2.1,a.2.2.1,a.2.2.2.1,a.2.2.2.2.1,a.2.2.2.2.2))) (λb=>(.done ((0:Int),b.1,b.2.1,b.2.2.1,b.2.2.2.1,b.2.2.2.2)))))
def PU (rec:G_spec_l3Rd_row) (n:Nat) (x0:BA) (x1:Int) (x2:Bool) (x3:Nat) (x4:RW):Tr (Int×BA×Int×Bool×Nat×RW):=(.opt (Fp n x0 x1 x2 x3 x4) λd=>(.opt (He n d.1 d.2.1 d.2.2.1 d.2.2.2.1 d.2.2.2.2) λa=>(.opt (E2 n a.1) λj=>(.ask (j.2.2.2.2) (.opt (Dn n (⟨#[58]⟩:BA) a.2.1 a.2.2.1 a.2.2.2.1 a.2.2.2.2.1 a.2.2.2.2.2) λb=>(.ask (b.1) (.opt (Fp n b.2.1 b.2.2.1 b.2.2.2.1 b.2.2.2.2.1 b.2.2.2.2.2) λk=>(.opt (He n k.1 k.2.1 k.2.2.1 k.2.2.2.1 k.2.2.2.2) λc=>(.opt (E2 n c.1) λl=>(.ask ((!l.2.2.2.2)) (.done ((0:Int),c.2.1,c.2.2.1,true,c.2.2.2.2.1,c.2.2.2.2.2)) (.opt (DX n (3:Int) (0:Int) (0:Int) (0:Int) (⟨#[]⟩:BA) j.1 j.2.1 j.2.2.1 j.2.2.2.1 l.1 l.2.1 l.2.2.1 l.2.2.2.1 ([]:RW) c.2.1 c.2.2.1 c.2.2.2.1 c.2.2.2.2.1 c.2.2.2.2.2) λf=>(.done (f.1,f.2.1,f.2.2.1,f.2.2.2.1,f.2.2.2.2.1,f.2.2.2.2.2))))))) (.opt (rec.spec_l3Rd_row (1:Int) b.2.1 d.2.1 b.2.2.2.1 b.2.2.2.2.1 b.2.2.2.2.2) λg=>(.done (g.1,g.2.1,g.2.2.1,g.2.2.2.1,g.2.2.2.2.1,g.2.2.2.2.2))))) (.opt (rec.spec_l3Rd_row (1:Int) a.2.1 d.2.1 a.2.2.2.1 a.2.2.2.2.1 a.2.2.2.2.2) λh=>(.done (h.1,h.2.1,h.2.2.1,h.2.2.2.1,h.2.2.2.2.1,h.2.2.2.2.2)))))))
def qy:Nat->G_spec_l3Rd_row
 |0=>⟨λ_ _ _ _ _ _=>none,λ_ _ _ _ _=>none,λ_ _ _ _ _ _=>none,λ_ _ _ _ _=>none⟩
 |n+1=>⟨λx0 x1 x2 x3 x4 x5=>(PR (qy n) n x0 x1 x2 x3 x4 x5).run,λx0 x1 x2 x3 x4=>(PT (qy n) n x0 x1 x2 x3 x4).run,λx0 x1 x2 x3 x4 x5=>(OG (qy n) n x0 x1 x2 x3 x4 x5).run,λx0 x1 x2 x3 x4=>(PU (qy n) n x0 x1 x2 x3 x4).run⟩
def JN (n:Nat) (x0:Int) (x1:BA) (x2:Int) (x3:Bool) (x4:Nat) (x5:RW):Option (Int×BA×Int×Bool×Nat×RW):=(qy n).spec_l3Rd_row x0 x1 x2 x3 x4 x5
def PW (n:Nat) (x0:BA) (x1:Int) (x2:Bool) (x3:Nat) (x4:RW):Option (Int×BA×Int×Bool×Nat×RW):=(qy n).spec_l3Rd_one x0 x1 x2 x3 x4
def OH (n:Nat) (x0:Int) (x1:BA) (x2:Int) (x3:Bool) (x4:Nat) (x5:RW):Option (Int×BA×Int×Bool×Nat×RW):=(qy n).spec_l3Rd_call x0 x1 x2 x3 x4 x5
def PX (n:Nat) (x0:BA) (x1:Int) (x2:Bool) (x3:Nat) (x4:RW):Option (Int×BA×Int×Bool×Nat×RW):=(qy n).spec_l3Rd_arg x0 x1 x2 x3 x4
def E4 (n:Nat):Prop:=
 Ok (Rn n) PQ (JN n)/\
 Ok (Rn n) Vv (PW n)/\
 Ok (Rn n) UU (OH n)/\
 Ok (Rn n) Vw (PX n)
abbrev PY (n:Nat) (ih:E4 n):List (Ent (Rn n)):= [en ih.2.1,en ih.1,en (Vu n),en (Hc n)]
def SF (n:Nat) (ih:E4 n):LEnt (KB 210) (Rn n) n:=lok (zU 210) 62 ⟨⟨[(0,(.c (.ptr 0 0 0 0 0))),(1,aI),(5,aI)],[],[FH]⟩,[(.ret,⟨[(4,aI)],[],[FH]⟩),(.exit 0,⟨[(5,aI)],[],[FH]⟩)]⟩ (JV (qy n) n) (PY n ih) [] λ_=>(by kernel_rfl)
abbrev LO (n:Nat) (ih:E4 n):List (Ent (Rn n)):= [en (JL n),en ih.1,en (Hc n),en (TJ n),en (MJ n),en (Vq n),en (NB n),en (TK n),en ih.2.2.1,en (ND n),en (NC n)]
def QH (n:Nat) (ih:E4 n):LEnt (KB 261) (Rn n) n:=lok (zU 261) 7161 ⟨⟨[(0,(.c (.ptr 0 0 0 0 0))),(5,aI)],[],[FH]⟩,[(.ret,⟨[(2,aI)],[],[FH]⟩),(.exit 1,⟨[(0,(.c (.ptr 0 0 0 0 0)))],[],[FH]⟩)]⟩ (HG n) (LO n ih) [] λ_=>(by kernel_rfl)
def SG (n:Nat) (ih:E4 n):LEnt (KB 261) (Rn n) n:=lok (zU 261) 61 ⟨⟨[(0,(.c (.ptr 0 0 0 0 0))),(7,aS),(8,aI)],[],[FH]⟩,[(.ret,⟨[(2,aI)],[],[FH]⟩),(.exit 3,⟨[(0,(.c (.ptr 0 0 0 0 0))),(7,aS)],[],[FH]⟩)]⟩ (Hr (qy n) n) (LO n ih) [] λ_=>(by kernel_rfl)
abbrev OI (n:Nat) (ih:E4 n):List (Ent (Rn n)):= [en ih.2.2.2,en (JL n),en (Hc n)]
def RS (n:Nat) (ih:E4 n):LEnt (KB 305) (Rn n) n:=lok (zU 305) 14 ⟨⟨[(0,(.c (.ptr 0 0 0 0 0))),(1,aI),(5,(.c (.own 1 384 0 0)))],[(384,⟨0,1,2,(.row [])⟩)],[FH]⟩,[(.ret,⟨[(4,aI)],[],[FH]⟩),(.exit 0,⟨[],[],[FH]⟩)]⟩ (I5 (qy n) n) (OI n ih) [] λ_=>(by kernel_rfl)
abbrev Vx (n:Nat) (ih:E4 n):List (Ent (Rn n)):= [en (I3 n),en (NB n),en (NC n),en (JL n),en (Hc n),en ih.1]
theorem E5:∀n,E4 n
 |0=>⟨ok0 λ_=>rfl,ok0 λ_=>rfl,ok0 λ_=>rfl,ok0 λ_=>rfl⟩
 |n+1=>⟨stO (T:=PR (qy n) n) (by kernel_rfl) (PY n (E5 n)) [SF n (E5 n)] (λ_=>(by kernel_rfl)) λ_=>(by kernel_rfl),stO (T:=PT (qy n) n) (by kernel_rfl) (LO n (E5 n)) [QH n (E5 n),SG n (E5 n)] (λ_=>(by kernel_rfl)) λ_=>(by kernel_rfl),stO (T:=OG (qy n) n) (by kernel_rfl) (OI n (E5 n)) [RS n (E5 n)] (λ_=>(by kernel_rfl)) λ_=>(by kernel_rfl),stO (T:=PU (qy n) n) (by kernel_rfl) (Vx n (E5 n)) [] (λ_=>(by kernel_rfl)) λ_=>(by kernel_rfl)⟩
theorem UV (n:Nat):Ok (Rn n) PQ (JN n):=(E5 n).1
def Ni:Sg:=⟨265,[aL,aI],[],⟨aI,[],[]⟩⟩
def E6 (rec:RW->Int->Option (Int)) (n:Nat) (v:RW×Int×Int×Int):Tr ((RW×Int×Int×Int)⊕((Int)⊕(Int))):=(.ask ((decide (v.2.2.2≥(0:Int)))) (.ask ((decide (v.2.2.1<(0:Int)))) (.done (.inr (.inl ((-1:Int))))) (.ask (decide (0<=v.2.1/\v.2.1<v.1.length)) (.opt (v.1[(v.2.1).toNat]?) λa=>(.ask (decide (a.length=14)) (.opt (bR a 13) λb=>(.ask (decide (0<=v.2.2.2/\v.2.2.2<b.length)) (.opt (b[(v.2.2.2).toNat]?) λc=>(.ask (decide (c.length=1)) (.opt (zC .i64 c 0) λf=>(.ask ((f !=v.2.2.1)) (.done (.inr (.inl ((-1:Int))))) (.opt (rec v.1 v.2.2.1) λd=>(.ask ((decide (d<(0:Int)))) (.done (.inr (.inl ((-1:Int))))) (.done (.inl (v.1,v.2.1,(IntKind.i64.wrap (d-(1:Int))),(IntKind.i64.wrap (v.2.2.2-(1:Int)))))))))) .fail)) .fail)) .fail)) .fail)) (.done (.inr (.inr (v.2.2.1)))))
def Nj (rec:RW->Int->Option (Int)) (n:Nat) (x0:RW) (x1:Int):Tr (Int):=(.ask (decide (0<=x1/\x1<x0.length)) (.opt (x0[(x1).toNat]?) λa=>(.ask (decide (a.length=14)) (.opt (bR a 13) λb=>(.opt (zE (E6 rec n) n (x0,x1,(IntKind.i64.wrap (x1-(1:Int))),(IntKind.i64.wrap ((b.length:Int)-(1:Int))))) λc=>(.alt c (λd=>(.done d)) (λf=>(.done (IntKind.i64.wrap (f+(1:Int)))))))) .fail)) .fail)
def Ef:Nat->RW->Int->Option (Int)
 |0,_,_=>none
 |n+1,x0,x1=>(Nj (Ef n) n x0 x1).run
abbrev Rv (n:Nat) (ih:Ok (Rn n) Ni (Ef n)):List (Ent (Rn n)):= [en ih]
def UW (n:Nat) (ih:Ok (Rn n) Ni (Ef n)):LEnt (KB 265) (Rn n) n:=lok (zU 265) 29 ⟨⟨[(0,aL),(1,aI),(5,aI),(6,aI)],[],[]⟩,[(.ret,⟨[(4,aI)],[],[]⟩),(.exit 0,⟨[(5,aI)],[],[]⟩)]⟩ (E6 (Ef n) n) (Rv n ih) [] λ_=>(by kernel_rfl)
theorem MO:∀n,Ok (Rn n) Ni (Ef n)
 |0=>ok0 λ_=>rfl
 |n+1=>stO (T:=Nj (Ef n) n) (by kernel_rfl) (Rv n (MO n)) [UW n (MO n)] (λ_=>(by kernel_rfl)) λ_=>(by kernel_rfl)
def Nk:Sg:=⟨266,[aL,aI],[],⟨aI,[],[]⟩⟩
def Hf (rec:RW->Int->Option (Int)) (n:Nat) (v:RW×Int×Int×Int):Tr ((RW×Int×Int×Int)⊕((Int))):=(.ask (decide (0<=v.2.1/\v.2.1<v.1.length)) (.opt (v.1[(v.2.1).toNat]?) λa=>(.ask (decide (a.length=14)) (.opt (bR a 13) λg=>(.ask ((decide (v.2.2.2<(g.length:Int)))) (.ask (decide (0<=v.2.1/\v.2.1<v.1.length)) (.opt (v.1[(v.2.1).toNat]?) λb=>(.ask (decide (b.length=14)) (.opt (bR b 13) λc=>(.ask (decide (0<=v.2.2.2/\v.2.2.2<c.length)) (.opt (c[(v.2.2.2).toNat]?) λd=>(.ask (decide (d.length=1)) (.opt (zC .i64 d 0) λh=>(.opt (rec v.1 h) λf=>(.done (.inl (v.1,v.2.1,(if f>v.2.2.1 then f else v.2.2.1),(IntKind.i64.wrap (v.2.2.2+(1:Int)))))))) .fail)) .fail)) .fail)) .fail) (.done (.inr (v.2.2.1))))) .fail)) .fail)
def Nl (rec:RW->Int->Option (Int)) (n:Nat) (x0:RW) (x1:Int):Tr (Int):=(.opt (zE (Hf rec n) n (x0,x1,(0:Int),(0:Int))) λa=>(.done (IntKind.i64.wrap (a+(1:Int)))))
def Eg:Nat->RW->Int->Option (Int)
 |0,_,_=>none
 |n+1,x0,x1=>(Nl (Eg n) n x0 x1).run
abbrev Rw (n:Nat) (ih:Ok (Rn n) Nk (Eg n)):List (Ent (Rn n)):= [en ih]
def UX (n:Nat) (ih:Ok (Rn n) Nk (Eg n)):LEnt (KB 266) (Rn n) n:=lok (zU 266) 29 ⟨⟨[(0,aL),(1,aI),(5,aI),(6,aI)],[],[]⟩,[(.exit 0,⟨[(5,aI)],[],[]⟩)]⟩ (Hf (Eg n) n) (Rw n ih) [] λ_=>(by kernel_rfl)
theorem MP:∀n,Ok (Rn n) Nk (Eg n)
 |0=>ok0 λ_=>rfl
 |n+1=>stO (T:=Nl (Eg n) n) (by kernel_rfl) (Rw n (MP n)) [UX n (MP n)] (λ_=>(by kernel_rfl)) λ_=>(by kernel_rfl)
def UY:Sg:=⟨212,[aL],[],⟨aB,[],[]⟩⟩
def EZ (n:Nat) (v:RW×Int×Int):Tr ((RW×Int×Int)⊕((Bool)⊕(RW×Int))):=(.ask (decide (0<=v.2.1/\v.2.1<v.1.length)) (.opt (v.1[(v.2.1).toNat]?) λb=>(.ask (decide (b.length=14)) (.opt (bR b 13) λj=>(.ask ((decide (v.2.2<(j.length:Int)))) (.ask (decide (0<=v.2.1/\v.2.1<v.1.length)) (.opt (v.1[(v.2.1).toNat]?) λc=>(.ask (decide (c.length=14)) (.opt (bR c 13) λd=>(.ask (decide (0<=v.2.2/\v.2.2<d.length)) (.opt (d[(v.2.2).toNat]?) λf=>(.ask (decide (f.length=1)) (.opt (zC .i64 f 0) λa=>(.opt (FM n a (0:Int) (IntKind.i64.wrap (v.2.1-(1:Int)))) λk=>(.ask ((!k)) (.done (.inr (.inl (false)))) (.ask (decide (0<=a/\a<v.1.length)) (.opt (v.1[(a).toNat]?) λg=>(.ask (decide (g.length=14)) (.opt (zC .i64 g 0) λl=>(.ask ((l==(3:Int))) (.ask (decide (0<=v.2.1/\v.2.1<v.1.length)) (.opt (v.1[(v.2.1).toNat]?) λh=>(.ask (decide (h.length=14)) (.opt (zC .i64 h 0) λm=>(.ask ((m !=(6:Int))) (.done (.inr (.inl (false)))) (.done (.inl (v.1,v.2.1,(IntKind.i64.wrap (v.2.2+(1:Int)))))))) .fail)) .fail) (.done (.inl (v.1,v.2.1,(IntKind.i64.wrap (v.2.2+(1:Int)))))))) .fail)) .fail)))) .fail)) .fail)) .fail)) .fail) (.done (.inr (.inr ((v.1,v.2.1))))))) .fail)) .fail)
def E8 (n:Nat) (v:RW×Int):Tr ((RW×Int)⊕((Bool)⊕(RW))):=(.ask ((decide (v.2<(v.1.length:Int)))) (.ask (decide (0<=v.2/\v.2<v.1.length)) (.opt (v.1[(v.2).toNat]?) λa=>(.ask (decide (a.length=14)) (.opt (zC .i64 a 0) λc=>(.opt (zC .i64 a 1) λd=>(.opt (zC .i64 a 2) λf=>(.opt (zC .i64 a 3) λg=>(.opt (zk a 4) λh=>(.opt (zC .i64 a 5) λj=>(.opt (zC .i64 a 6) λk=>(.opt (aR a 7) λl=>(.opt (aR a 8) λm=>(.opt (zC .i64 a 9) λo=>(.opt (zC .i64 a 10) λp=>(.opt (aR a 11) λq=>(.opt (aR a 12) λs=>(.opt (bR a 13) λt=>(.opt (GP n c d f g h j k l m o p q s t) λu=>(.ask ((!u)) (.done (.inr (.inl (false)))) (.opt (zE (EZ n) n (v.1,v.2,(0:Int))) λw=>(.alt w (λz=>(.done (.inr (.inl (z))))) (λb=>(.done (.inl (b.1,(IntKind.i64.wrap (b.2+(1:Int))))))))))))))))))))))))) .fail)) .fail) (.done (.inr (.inr (v.1)))))
def Hg (n:Nat) (x0:RW):Tr (Bool):=(.ask ((decide ((x0.length:Int)<(1:Int)))) (.done false) (.ask ((decide ((x0.length:Int)>(60:Int)))) (.done false) (.opt (zE (E8 n) n (x0,(0:Int))) λc=>(.alt c (λd=>(.done d)) (λa=>(.opt (Ef n a (IntKind.i64.wrap ((a.length:Int)-(1:Int)))) λf=>(.ask ((f==(0:Int))) (.ask (decide (0<=(IntKind.i64.wrap ((a.length:Int)-(1:Int)))/\(IntKind.i64.wrap ((a.length:Int)-(1:Int)))<a.length)) (.opt (a[((IntKind.i64.wrap ((a.length:Int)-(1:Int)))).toNat]?) λb=>(.ask (decide (b.length=14)) (.opt (zC .i64 b 0) λg=>(.ask ((g !=(3:Int))) (.opt (Eg n a (IntKind.i64.wrap ((a.length:Int)-(1:Int)))) λh=>(.done (decide (h<=(12:Int))))) (.done false))) .fail)) .fail) (.done false))))))))
def FN:Nat->RW->Option (Bool)
 |0,_=>none
 |n+1,x0=>(Hg n x0).run
abbrev Kd (n:Nat):List (Ent (Rn n)):= [en (OA n),en (Iq n),en (MO n),en (MP n)]
def QK (n:Nat):LEnt (lb 29 (KB 212)) (Rn n) n:=lok (Uniq.pick (zU 212) 29) 475 ⟨⟨[(0,aL),(3,aI),(4,aI)],[],[]⟩,[(.ret,⟨[(2,aB)],[],[]⟩),(.exit 2,⟨[(0,aL),(3,aI)],[],[]⟩)]⟩ (EZ n) (Kd n) [] λ_=>(by kernel_rfl)
def RU (n:Nat):LEnt (KB 212) (Rn n) n:=lok (zU 212) 29 ⟨⟨[(0,aL),(3,aI)],[],[]⟩,[(.ret,⟨[(2,aB)],[],[]⟩),(.exit 0,⟨[(0,aL)],[],[]⟩)]⟩ (E8 n) (Kd n) [QK n] λ_=>(by kernel_rfl)
theorem Jy:∀n,Ok (Rn n) UY (FN n)
 |0=>ok0 λ_=>rfl
 |n+1=>stO (T:=Hg n) (by kernel_rfl) (Kd n) [RU n] (λ_=>(by kernel_rfl)) λ_=>(by kernel_rfl)
def SH:Sg:=⟨144,[aS],[],⟨(.tup [(false,[qL]),(false,[qB])]),[],[]⟩⟩
def MQ (n:Nat) (x0:BA):Tr (RW×Bool):=(.opt (Gn n x0) λg=>(.ask ((!g)) (.ask (decide (0=([]:RW).length)) (.done (([]:RW),false)) .fail) (.opt (JN n (1:Int) x0 (0:Int) false (0:Nat) ([]:RW)) λd=>(.opt (Fp n d.2.1 d.2.2.1 d.2.2.2.1 d.2.2.2.2.1 d.2.2.2.2.2) λa=>(.ask (a.2.2.1) (.ask (decide (0=([]:RW).length)) (.done (([]:RW),false)) .fail) (.ask ((decide (a.2.1<(x0.size:Int)))) (.ask (decide (0=([]:RW).length)) (.done (([]:RW),false)) .fail) (.ask (decide (a.2.2.2.1=a.2.2.2.2.length)) (.opt (FN n a.2.2.2.2) λf=>(.ask (aZ (⟨(.c (.p (.b f))),[],[]⟩:Res)) (.ask ((!f)) (.ask (decide (0=([]:RW).length)) (.done (([]:RW),false)) .fail) (.ask (decide (a.2.2.2.1=a.2.2.2.2.length)) (.done (a.2.2.2.2,true)) .fail)) .fail)) .fail)))))))
def Hs:Nat->BA->Option (RW×Bool)
 |0,_=>none
 |n+1,x0=>(MQ n x0).run
abbrev SK (n:Nat):List (Ent (Rn n)):= [en (LM n),en (UV n),en (I3 n),en (Jy n)]
theorem Ln:∀n,Ok (Rn n) SH (Hs n)
 |0=>ok0 λ_=>rfl
 |n+1=>stO (T:=MQ n) (by kernel_rfl) (SK n) [] (λ_=>(by kernel_rfl)) λ_=>(by kernel_rfl)
def Wz:Sg:=⟨267,[aS],[],⟨aS,[],[]⟩⟩
def Fa (n:Nat) (v:BA×BA×Int):Tr ((BA×BA×Int)⊕((BA))):=(.ask ((decide (v.2.2<(v.1.size:Int)))) (.ask (decide (0<=v.2.2)) (.opt (v.1.toList[(v.2.2).toNat]?) λa=>(.ask (((a.toNat:Int)==(34:Int))) (.ask (decide (v.2.1.size+(⟨#[34]⟩:BA).size<=9223372036854775807)) (.ask (decide (0<=v.2.2/\v.2.2<=(IntKind.i64.wrap (v.2.2+(1:Int)))/\(IntKind.i64.wrap (v.2.2+(1:Int)))<=v.1.size)) (.ask (decide ((v.2.1++(⟨#[34]⟩:BA)).size+(v.1.extract (v.2.2).toNat ((IntKind.i64.wrap (v.2.2+(1:Int)))).toNat).size<=9223372036854775807)) (.done (.inl (v.1,((v.2.1++(⟨#[34]⟩:BA))++(v.1.extract (v.2.2).toNat ((IntKind.i64.wrap (v.2.2+(1:Int)))).toNat)),(IntKind.i64.wrap (v.2.2+(1:Int)))))) .fail) .fail) .fail) (.ask (decide (0<=v.2.2/\v.2.2<=(IntKind.i64.wrap (v.2.2+(1:Int)))/\(IntKind.i64.wrap (v.2.2+(1:Int)))<=v.1.size)) (.ask (decide (v.2.1.size+(v.1.extract (v.2.2).toNat ((IntKind.i64.wrap (v.2.2+(1:Int)))).toNat).size<=9223372036854775807)) (.done (.inl (v.1,(v.2.1++(v.1.extract (v.2.2).toNat ((IntKind.i64.wrap (v.2.2+(1:Int)))).toNat)),(IntKind.i64.wrap (v.2.2+(1:Int)))))) .fail) .fail))) .fail) (.done (.inr (v.2.1))))
def MR (n:Nat) (x0:BA):Tr (BA):=(.opt (zE (Fa n) n (x0,(⟨#[34]⟩:BA),(0:Int))) λa=>(.ask (decide (a.size+(⟨#[34]⟩:BA).size<=9223372036854775807)) (.done (a++(⟨#[34]⟩:BA))) .fail))
def Jz:Nat->BA->Option (BA)
 |0,_=>none
 |n+1,x0=>(MR n x0).run
def TN (n:Nat):LEnt (KB 267) (Rn n) n:=lok (zU 267) 29 ⟨⟨[(0,aS),(3,aS),(4,aI)],[],[]⟩,[(.exit 0,⟨[(3,aS)],[],[]⟩)]⟩ (Fa n) [] [] λ_=>(by kernel_rfl)
theorem Vy:∀n,Ok (Rn n) Wz (Jz n)
 |0=>ok0 λ_=>rfl
 |n+1=>stO (T:=MR n) (by kernel_rfl) [] [TN n] (λ_=>(by kernel_rfl)) λ_=>(by kernel_rfl)
def YD:Sg:=⟨215,[aI],[],⟨aS,[],[]⟩⟩
def Nm (n:Nat) (x0:Int):Tr (BA):=(.ask ((x0==(1:Int))) (.done (⟨#[84,82,85,69]⟩:BA)) (.done (⟨#[70,65,76,83,69]⟩:BA)))
def Kw:Nat->Int->Option (BA)
 |0,_=>none
 |n+1,x0=>(Nm n x0).run
theorem W0:∀n,Ok (Rn n) YD (Kw n)
 |0=>ok0 λ_=>rfl
 |n+1=>stO (T:=Nm n) (by kernel_rfl) [] [] (λ_=>(by kernel_rfl)) λ_=>(by kernel_rfl)
def UZ:Sg:=⟨147,[(.agg [qI,qI,qS])],[],⟨aS,[],[]⟩⟩
def FO (n:Nat) (x0 x1:Int) (x2:BA):Tr (BA):=(.opt (EA n x0 x1 x2) λa=>(.ask ((!a)) (.done (⟨#[]⟩:BA)) (.ask ((x0==(1:Int))) (.opt (Du n x1) λb=>(.done b)) (.ask ((x0==(2:Int))) (.ask (decide ((⟨#[39]⟩:BA).size+x2.size<=9223372036854775807)) (.done ((⟨#[39]⟩:BA)++x2)) .fail) (.ask ((x0==(3:Int))) (.opt (Kw n x1) λc=>(.done c)) (.ask ((x0==(4:Int))) (.opt (FV n x1) λd=>(.done d)) (.done (⟨#[]⟩:BA))))))))
def D9:Nat->Int->Int->BA->Option (BA)
 |0,_,_,_=>none
 |n+1,x0,x1,x2=>(FO n x0 x1 x2).run
abbrev Ua (n:Nat):List (Ent (Rn n)):= [en (JM n),en (ID n),en (W0 n),en (MJ n)]
theorem NE:∀n,Ok (Rn n) UZ (D9 n)
 |0=>ok0 λ_=>rfl
 |n+1=>stO (T:=FO n) (by kernel_rfl) (Ua n) [] (λ_=>(by kernel_rfl)) λ_=>(by kernel_rfl)
def Nn:Sg:=⟨213,[aL,aI,aI],[],⟨aS,[],[]⟩⟩
def Fb (rec:RW->Int->Int->Option (BA)) (n:Nat) (v:RW×BA×Int×Int×Int×Int×Int×BA×Int×Int×Bool×Bool×Int×Int×Bool×Bool×RW):Tr ((RW×BA×Int×Int×Int×Int×Int×BA×Int×Int×Bool×Bool×Int×Int×Bool×Bool×RW)⊕((BA))):=(.ask ((decide (v.2.2.1<(v.2.2.2.2.2.2.2.2.2.2.2.2.2.2.2.2.length:Int)))) (.ask ((decide (v.2.2.1>(0:Int)))) (.ask (decide (v.2.1.size+(⟨#[44]⟩:BA).size<=9223372036854775807)) (.ask (decide (0<=v.2.2.1/\v.2.2.1<v.2.2.2.2.2.2.2.2.2.2.2.2.2.2.2.2.length)) (.opt (v.2.2.2.2.2.2.2.2.2.2.2.2.2.2.2.2[(v.2.2.1).toNat]?) λa=>(.ask (decide (a.length=1)) (.opt (zC .i64 a 0) λf=>(.opt (rec v.1 f (0:Int)) λb=>(.ask (decide ((v.2.1++(⟨#[44]⟩:BA)).size+b.size<=9223372036854775807)) (.done (.inl (v.1,((v.2.1++(⟨#[44]⟩:BA))++b),(IntKind.i64.wrap (v.2.2.1+(1:Int))),v.2.2.2.1,v.2.2.2.2.1,v.2.2.2.2.2.1,v.2.2.2.2.2.2.1,v.2.2.2.2.2.2.2.1,v.2.2.2.2.2.2.2.2.1,v.2.2.2.2.2.2.2.2.2.1,v.2.2.2.2.2.2.2.2.2.2.1,v.2.2.2.2.2.2.2.2.2.2.2.1,v.2.2.2.2.2.2.2.2.2.2.2.2.1,v.2.2.2.2.2.2.2.2.2.2.2.2.2.1,v.2.2.2.2.2.2.2.2.2.2.2.2.2.2.1,v.2.2.2.2.2.2.2.2.2.2.2.2.2.2.2.1,v.2.2.2.2.2.2.2.2.2.2.2.2.2.2.2.2))) .fail))) .fail)) .fail) .fail) (.ask (decide (0<=v.2.2.1/\v.2.2.1<v.2.2.2.2.2.2.2.2.2.2.2.2.2.2.2.2.length)) (.opt (v.2.2.2.2.2.2.2.2.2.2.2.2.2.2.2.2[(v.2.2.1).toNat]?) λc=>(.ask (decide (c.length=1)) (.opt (zC .i64 c 0) λg=>(.opt (rec v.1 g (0:Int)) λd=>(.ask (decide (v.2.1.size+d.size<=9223372036854775807)) (.done (.inl (v.1,(v.2.1++d),(IntKind.i64.wrap (v.2.2.1+(1:Int))),v.2.2.2.1,v.2.2.2.2.1,v.2.2.2.2.2.1,v.2.2.2.2.2.2.1,v.2.2.2.2.2.2.2.1,v.2.2.2.2.2.2.2.2.1,v.2.2.2.2.2.2.2.2.2.1,v.2.2.2.2.2.2.2.2.2.2.1,v.2.2.2.2.2.2.2.2.2.2.2.1,v.2.2.2.2.2.2.2.2.2.2.2.2.1,v.2.2.2.2.2.2.2.2.2.2.2.2.2.1,v.2.2.2.2.2.2.2.2.2.2.2.2.2.2.1,v.2.2.2.2.2.2.2.2.2.2.2.2.2.2.2.1,v.2.2.2.2.2.2.2.2.2.2.2.2.2.2.2.2))) .fail))) .fail)) .fail)) (.done (.inr (v.2.1))))
def F5 (rec:RW->Int->Int->Option (BA)) (n:Nat) (x0:RW) (x1 x2:Int):Tr (BA):=(.ask (decide (0<=x1/\x1<x0.length)) (.opt (x0[(x1).toNat]?) λa=>(.ask (decide (a.length=14)) (.opt (zC .i64 a 0) λc=>(.opt (zC .i64 a 1) λh=>(.opt (zC .i64 a 2) λj=>(.opt (zC .i64 a 3) λt=>(.opt (zk a 4) λk=>(.opt (zC .i64 a 5) λl=>(.opt (zC .i64 a 6) λm=>(.opt (aR a 7) λo=>(.opt (aR a 8) λp=>(.opt (zC .i64 a 9) λu=>(.opt (zC .i64 a 10) λw=>(.opt (aR a 11) λz=>(.opt (aR a 12) λa0=>(.opt (bR a 13) λb=>(.ask ((c==(1:Int))) (.ask ((j==(2:Int))) (.opt (Jz n k) λa8=>(.done a8)) (.opt (D9 n j t k) λa9=>(.done a9))) (.ask ((c==(2:Int))) (.opt (DN n l m o p) λb0=>(.done b0)) (.ask ((c==(3:Int))) (.opt (DN n l m o p) λq=>(.ask (decide (q.size+(⟨#[58]⟩:BA).size<=9223372036854775807)) (.opt (DN n u w z a0) λa1=>(.ask (decide ((q++(⟨#[58]⟩:BA)).size+a1.size<=9223372036854775807)) (.done ((q++(⟨#[58]⟩:BA))++a1)) .fail)) .fail)) (.ask ((c==(4:Int))) (.ask (decide (0<=(0:Int)/\(0:Int)<b.length)) (.opt (b[((0:Int)).toNat]?) λa2=>(.ask (decide (a2.length=1)) (.opt (zC .i64 a2 0) λb1=>(.opt (rec x0 b1 (5:Int)) λa3=>(.ask (decide ((⟨#[45]⟩:BA).size+a3.size<=9223372036854775807)) (.done ((⟨#[45]⟩:BA)++a3)) .fail))) .fail)) .fail) (.ask ((c==(5:Int))) (.opt (Gp n h) λs=>(.ask (decide (0<=(0:Int)/\(0:Int)<b.length)) (.opt (b[((0:Int)).toNat]?) λa4=>(.ask (decide (a4.length=1)) (.opt (zC .i64 a4 0) λb2=>(.ask (decide (0<=(1:Int)/\(1:Int)<b.length)) (.opt (b[((1:Int)).toNat]?) λa5=>(.ask (decide (a5.length=1)) (.opt (zC .i64 a5 0) λb3=>(.opt (rec x0 b2 s) λd=>(.opt (Gh n h) λf=>(.ask (decide (d.size+f.size<=9223372036854775807)) (.opt (rec x0 b3 (IntKind.i64.wrap (s+(1:Int)))) λg=>(.ask (decide ((d++f).size+g.size<=9223372036854775807)) (.ask ((decide (s<x2))) (.ask (decide ((⟨#[40]⟩:BA).size+((d++f)++g).size<=9223372036854775807)) (.ask (decide (((⟨#[40]⟩:BA)++((d++f)++g)).size+(⟨#[41]⟩:BA).size<=9223372036854775807)) (.done (((⟨#[40]⟩:BA)++((d++f)++g))++(⟨#[41]⟩:BA))) .fail) .fail) (.done ((d++f)++g))) .fail)) .fail)))) .fail)) .fail)) .fail)) .fail)) (.opt (HE n h) λa6=>(.ask (decide (a6.size+(⟨#[40]⟩:BA).size<=9223372036854775807)) (.opt (zE (Fb rec n) n (x0,(a6++(⟨#[40]⟩:BA)),(0:Int),c,h,j,t,k,l,m,o,p,u,w,z,a0,b)) λa7=>(.ask (decide (a7.size+(⟨#[41]⟩:BA).size<=9223372036854775807)) (.done (a7++(⟨#[41]⟩:BA))) .fail)) .fail))))))))))))))))))))) .fail)) .fail)
def DL:Nat->RW->Int->Int->Option (BA)
 |0,_,_,_=>none
 |n+1,x0,x1,x2=>(F5 (DL n) n x0 x1 x2).run
abbrev Rx (n:Nat) (ih:Ok (Rn n) Nn (DL n)):List (Ent (Rn n)):= [en (Vy n),en (NE n),en (M9 n),en ih,en (PP n),en (MD n),en (TK n)]
def TO (n:Nat) (ih:Ok (Rn n) Nn (DL n)):LEnt (KB 213) (Rn n) n:=lok (zU 213) 125 ⟨⟨[(0,aL),(7,(.c (.ptr 0 448 0 0 0))),(10,aS),(11,aI)],[(448,⟨0,14,191,(.box [qI,qI,qI,qI,qS,qI,qI,qB,qB,qI,qI,qB,qB,qL])⟩)],[]⟩,[(.exit 1,⟨[(10,aS)],[],[]⟩)]⟩ (Fb (DL n) n) (Rx n ih) [] λ_=>(by kernel_rfl)
theorem MS:∀n,Ok (Rn n) Nn (DL n)
 |0=>ok0 λ_=>rfl
 |n+1=>stO (T:=F5 (DL n) n) (by kernel_rfl) (Rx n (MS n)) [TO n (MS n)] (λ_=>(by kernel_rfl)) λ_=>(by kernel_rfl)
def SL:Sg:=⟨145,[aL],[],⟨aS,[],[]⟩⟩
def Ht (n:Nat) (x0:RW):Tr (BA):=(.opt (FN n x0) λb=>(.ask ((!b)) (.done (⟨#[]⟩:BA)) (.opt (DL n x0 (IntKind.i64.wrap ((x0.length:Int)-(1:Int))) (0:Int)) λa=>(.ask ((decide ((a.size:Int)>(200:Int)))) (.done (⟨#[]⟩:BA)) (.done a)))))
def Fq:Nat->RW->Option (BA)
 |0,_=>none
 |n+1,x0=>(Ht n x0).run
abbrev SN (n:Nat):List (Ent (Rn n)):= [en (Jy n),en (MS n)]
theorem RV:∀n,Ok (Rn n) SL (Fq n)
 |0=>ok0 λ_=>rfl
 |n+1=>stO (T:=Ht n) (by kernel_rfl) (SN n) [] (λ_=>(by kernel_rfl)) λ_=>(by kernel_rfl)
def Vz:Sg:=⟨146,[aS],[],⟨(.tup [(true,[qI,qI,qS]),(false,[qB])]),[],[]⟩⟩
def Fs (n:Nat) (v:BA×Bool×Int×Int×BA):Tr ((BA×Bool×Int×Int×BA)⊕((BA×Bool×Int×Int×BA))):=(.ask ((decide ((v.1.size:Int)>(1:Int)))) (.ask (decide (0<=(0:Int))) (.opt (v.1.toList[((0:Int)).toNat]?) λa=>(.ask (((a.toNat:Int)==(48:Int))) (.ask (decide (0<=(1:Int)/\(1:Int)<=(v.1.size:Int)/\(v.1.size:Int)<=v.1.size)) (.done (.inl ((v.1.extract ((1:Int)).toNat ((v.1.size:Int)).toNat),v.2.1,v.2.2.1,v.2.2.2.1,v.2.2.2.2))) .fail) (.done (.inr ((v.1,v.2.1,v.2.2.1,v.2.2.2.1,v.2.2.2.2)))))) .fail) (.done (.inr ((v.1,v.2.1,v.2.2.1,v.2.2.2.1,v.2.2.2.2)))))
def JW (n:Nat) (b:((BA×Bool×Int×Int×BA))):Tr (Int×Int×BA×Bool):=(.opt (El n b.1 (16:Int)) λa=>(.ask (b.2.1) (.ask (a.2) (.opt (EA n (1:Int) (IntKind.i64.wrap (0-a.1)) (⟨#[]⟩:BA)) λc=>(.done ((1:Int),(IntKind.i64.wrap (0-a.1)),(⟨#[]⟩:BA),c))) (.done ((1:Int),(IntKind.i64.wrap (0-a.1)),(⟨#[]⟩:BA),false))) (.ask (a.2) (.opt (EA n (1:Int) a.1 (⟨#[]⟩:BA)) λd=>(.done ((1:Int),a.1,(⟨#[]⟩:BA),d))) (.done ((1:Int),a.1,(⟨#[]⟩:BA),false)))))
def PZ (n:Nat) (x0:BA):Tr (Int×Int×BA×Bool):=(.ask ((decide ((x0.size:Int)>(0:Int)))) (.ask (decide (0<=(0:Int))) (.opt (x0.toList[((0:Int)).toNat]?) λa=>(.ask (((a.toNat:Int)==(45:Int))) (.ask (decide (0<=(1:Int)/\(1:Int)<=(x0.size:Int)/\(x0.size:Int)<=x0.size)) (.ask (((x0.extract ((1:Int)).toNat ((x0.size:Int)).toNat).toList==(⟨#[]⟩:BA).toList)) (.done ((0:Int),(0:Int),(⟨#[]⟩:BA),false)) (.opt (zE (Fs n) n ((x0.extract ((1:Int)).toNat ((x0.size:Int)).toNat),((a.toNat:Int)==(45:Int)),(0:Int),(0:Int),(⟨#[]⟩:BA))) λb=>(JW n b))) .fail) (.ask ((x0.toList==(⟨#[]⟩:BA).toList)) (.done ((0:Int),(0:Int),(⟨#[]⟩:BA),false)) (.opt (zE (Fs n) n (x0,((a.toNat:Int)==(45:Int)),(0:Int),(0:Int),(⟨#[]⟩:BA))) λc=>(JW n c))))) .fail) (.ask ((x0.toList==(⟨#[]⟩:BA).toList)) (.done ((0:Int),(0:Int),(⟨#[]⟩:BA),false)) (.opt (zE (Fs n) n (x0,false,(0:Int),(0:Int),(⟨#[]⟩:BA))) λd=>(JW n d))))
def LP:Nat->BA->Option (Int×Int×BA×Bool)
 |0,_=>none
 |n+1,x0=>(PZ n x0).run
abbrev Pb (n:Nat):List (Ent (Rn n)):= [en (Nh n),en (JM n)]
def SO (n:Nat):LEnt (KB 146) (Rn n) n:=lok (zU 146) 62 ⟨⟨[(0,aS),(2,(.c (.ptr 0 128 0 0 0))),(4,aB)],fq,[]⟩,[(.exit 0,⟨[(0,aS),(2,(.c (.ptr 0 128 0 0 0))),(4,aB)],fq,[]⟩)]⟩ (Fs n) (Pb n) [] λ_=>(by kernel_rfl)
theorem Ub:∀n,Ok (Rn n) Vz (LP n)
 |0=>ok0 λ_=>rfl
 |n+1=>stO (T:=PZ n) (by kernel_rfl) (Pb n) [SO n] (λ_=>(by kernel_rfl)) λ_=>(by kernel_rfl)
def W1:Sg:=⟨67,[aS],[],⟨(.tup [(false,[qS]),(false,[qB])]),[],[]⟩⟩
def QL (n:Nat) (x0:BA):Tr (BA×Bool):=(.opt (Gn n x0) λh=>(.ask ((!h)) (.done ((⟨#[]⟩:BA),false)) (.ask ((x0.toList==(⟨#[]⟩:BA).toList)) (.done ((⟨#[]⟩:BA),true)) (.ask (decide (0<=(0:Int))) (.opt (x0.toList[((0:Int)).toNat]?) λj=>(.ask (((j.toNat:Int)==(61:Int))) (.ask (decide (0<=(1:Int)/\(1:Int)<=(x0.size:Int)/\(x0.size:Int)<=x0.size)) (.opt (Hs n (x0.extract ((1:Int)).toNat ((x0.size:Int)).toNat)) λd=>(.opt (Fq n d.1) λa=>(.ask ((!d.2)) (.done ((⟨#[]⟩:BA),false)) (.ask ((a.toList==(⟨#[]⟩:BA).toList)) (.done ((⟨#[]⟩:BA),false)) (.ask ((decide ((IntKind.i64.wrap ((a.size:Int)+(1:Int)))>(200:Int)))) (.done ((⟨#[]⟩:BA),false)) (.ask (decide ((⟨#[61]⟩:BA).size+a.size<=9223372036854775807)) (.done (((⟨#[61]⟩:BA)++a),true)) .fail)))))) .fail) (.opt (LP n x0) λb=>(.ask (b.2.2.2) (.opt (D9 n b.1 b.2.1 b.2.2.1) λk=>(.done (k,true))) (.opt (Dw n x0) λc=>(.ask ((!c.2.2.2)) (.opt (D9 n (2:Int) (0:Int) x0) λf=>(.ask ((decide ((f.size:Int)>(200:Int)))) (.done ((⟨#[]⟩:BA),false)) (.done (f,true)))) (.opt (D9 n c.1 c.2.1 c.2.2.1) λg=>(.ask ((decide ((g.size:Int)>(200:Int)))) (.done ((⟨#[]⟩:BA),false)) (.done (g,true)))))))))) .fail))))
def IY:Nat->BA->Option (BA×Bool)
 |0,_=>none
 |n+1,x0=>(QL n x0).run
abbrev W2 (n:Nat):List (Ent (Rn n)):= [en (LM n),en (Ln n),en (RV n),en (Ub n),en (NE n),en (ND n)]
theorem Pd:∀n,Ok (Rn n) W1 (IY n)
 |0=>ok0 λ_=>rfl
 |n+1=>stO (T:=QL n) (by kernel_rfl) (W2 n) [] (λ_=>(by kernel_rfl)) λ_=>(by kernel_rfl)
def W3:Sg:=⟨110,[(.agg [qI,qI]),(.agg [qI,qI])],[],⟨aB,[],[]⟩⟩
def J0 (n:Nat) (x0 x1 x2 x3:Int):Tr (Bool):=(.ask ((decide (x1<x3))) (.done true) (.ask ((x1==x3)) (.done (decide (x0<x2))) (.done false)))
def Fc:Nat->Int->Int->Int->Int->Option (Bool)
 |0,_,_,_,_=>none
 |n+1,x0,x1,x2,x3=>(J0 n x0 x1 x2 x3).run
theorem Pe:∀n,Ok (Rn n) W3 (Fc n)
 |0=>ok0 λ_=>rfl
 |n+1=>stO (T:=J0 n) (by kernel_rfl) [] [] (λ_=>(by kernel_rfl)) λ_=>(by kernel_rfl)
def W4:Sg:=⟨82,[aL],[],⟨aB,[],[]⟩⟩
def J1 (n:Nat) (v:RW×Int):Tr ((RW×Int)⊕((Bool)⊕(Unit))):=(.ask ((decide (v.2<(v.1.length:Int)))) (.ask (decide (0<=v.2/\v.2<v.1.length)) (.opt (v.1[(v.2).toNat]?) λd=>(.ask (decide (d.length=3)) (.opt (zk d 2) λj=>(.opt (IY n j) λf=>(.ask (decide (0<=v.2/\v.2<v.1.length)) (.opt (v.1[(v.2).toNat]?) λa=>(.ask (decide (a.length=3)) (.opt (zC .i64 a 0) λk=>(.opt (zC .i64 a 1) λl=>(.opt (E1 n k l) λm=>(.ask ((!m)) (.done (.inr (.inl (false)))) (.ask ((!f.2)) (.done (.inr (.inl (false)))) (.ask (decide (0<=v.2/\v.2<v.1.length)) (.opt (v.1[(v.2).toNat]?) λg=>(.ask (decide (g.length=3)) (.opt (zk g 2) λo=>(.ask ((o.toList==(⟨#[]⟩:BA).toList)) (.done (.inr (.inl (false)))) (.ask (decide (0<=v.2/\v.2<v.1.length)) (.opt (v.1[(v.2).toNat]?) λh=>(.ask (decide (h.length=3)) (.opt (zk h 2) λp=>(.ask ((!(f.1.toList==p.toList))) (.done (.inr (.inl (false)))) (.ask ((decide (v.2>(0:Int)))) (.ask (decide (0<=(IntKind.i64.wrap (v.2-(1:Int)))/\(IntKind.i64.wrap (v.2-(1:Int)))<v.1.length)) (.opt (v.1[((IntKind.i64.wrap (v.2-(1:Int)))).toNat]?) λb=>(.ask (decide (b.length=3)) (.opt (zC .i64 b 0) λq=>(.opt (zC .i64 b 1) λs=>(.ask (decide (0<=v.2/\v.2<v.1.length)) (.opt (v.1[(v.2).toNat]?) λc=>(.ask (decide (c.length=3)) (.opt (zC .i64 c 0) λt=>(.opt (zC .i64 c 1) λu=>(.opt (Fc n q s t u) λw=>(.ask ((!w)) (.done (.inr (.inl (false)))) (.done (.inl (v.1,(IntKind.i64.wrap (v.2+(1:Int)))))))))) .fail)) .fail))) .fail)) .fail) (.done (.inl (v.1,(IntKind.i64.wrap (v.2+(1:Int))))))))) .fail)) .fail))) .fail)) .fail)))))) .fail)) .fail))) .fail)) .fail) (.done (.inr (.inr (())))))
def QM (n:Nat) (x0:RW):Tr (Bool):=(.ask ((decide ((x0.length:Int)>(120:Int)))) (.done false) (.opt (zE (J1 n) n (x0,(0:Int))) λa=>(.alt a (λb=>(.done b)) (λc=>(.done true)))))
def IZ:Nat->RW->Option (Bool)
 |0,_=>none
 |n+1,x0=>(QM n x0).run
abbrev QN (n:Nat):List (Ent (Rn n)):= [en (Pd n),en (IC n),en (Pe n)]
def TP (n:Nat):LEnt (KB 82) (Rn n) n:=lok (zU 82) 29 ⟨⟨[(0,aL),(3,aI)],[],[]⟩,[(.ret,⟨[(2,aB)],[],[]⟩),(.exit 0,⟨[],[],[]⟩)]⟩ (J1 n) (QN n) [] λ_=>(by kernel_rfl)
theorem LQ:∀n,Ok (Rn n) W4 (IZ n)
 |0=>ok0 λ_=>rfl
 |n+1=>stO (T:=QM n) (by kernel_rfl) (QN n) [TP n] (λ_=>(by kernel_rfl)) λ_=>(by kernel_rfl)
def ZE:Sg:=⟨90,[aL,(.agg [qI,qI]),aS],[],⟨(.c (.own 0 0 0 0)),[],[⟨0,3,59,(.row [])⟩]⟩⟩
def JO (n:Nat) (v:RW×BA×Nat×Bool×Int×Int×Int×RW):Tr ((RW×BA×Nat×Bool×Int×Int×Int×RW)⊕((BA×Nat×Bool×Int×Int×RW))):=(.ask ((decide (v.2.2.2.2.1<(v.1.length:Int)))) (.ask ((!v.2.2.2.1)) (.ask (decide (0<=v.2.2.2.2.1/\v.2.2.2.2.1<v.1.length)) (.opt (v.1[(v.2.2.2.2.1).toNat]?) λp=>(.ask (decide (p.length=3)) (.opt (zC .i64 p 0) λw=>(.opt (zC .i64 p 1) λz=>(.opt (Fc n w z v.2.2.2.2.2.1 v.2.2.2.2.2.2.1) λa0=>(.ask ((!a0)) (.ask (decide (1=([[(.i .i64 v.2.2.2.2.2.1),(.i .i64 v.2.2.2.2.2.2.1),(.s v.2.1)]]:RW).length)) (.ask (decide (v.2.2.1=v.2.2.2.2.2.2.2.length/\0<3/\0<32/\(v.2.2.1+([[(.i .i64 v.2.2.2.2.2.1),(.i .i64 v.2.2.2.2.2.2.1),(.s v.2.1)]]:RW).length)*32<=140737488355328/\([[(.i .i64 v.2.2.2.2.2.1),(.i .i64 v.2.2.2.2.2.2.1),(.s v.2.1)]]:RW).all (λe=>e.length==3)=true)) (.ask (decide (0<=v.2.2.2.2.1/\v.2.2.2.2.1<v.1.length)) (.opt (v.1[(v.2.2.2.2.1).toNat]?) λq=>(.ask (decide (q.length=3)) (.opt (zC .i64 q 0) λa1=>(.opt (zC .i64 q 1) λa2=>(.ask ((!((a1==v.2.2.2.2.2.1)&&((a2==v.2.2.2.2.2.2.1)&&true)))) (.ask (decide (0<=v.2.2.2.2.1/\v.2.2.2.2.1<v.1.length)) (.opt (v.1[(v.2.2.2.2.1).toNat]?) λa=>(.ask (decide (a.length=3)) (.opt (zC .i64 a 0) λb=>(.opt (zC .i64 a 1) λc=>(.opt (zk a 2) λd=>(.ask (decide (1=([[(.i .i64 b),(.i .i64 c),(.s d)]]:RW).length)) (.ask (decide ((v.2.2.1+1)=(v.2.2.2.2.2.2.2++([[(.i .i64 v.2.2.2.2.2.1),(.i .i64 v.2.2.2.2.2.2.1),(.s v.2.1)]]:RW)).length/\0<3/\0<32/\((v.2.2.1+1)+([[(.i .i64 b),(.i .i64 c),(.s d)]]:RW).length)*32<=140737488355328/\([[(.i .i64 b),(.i .i64 c),(.s d)]]:RW).all (λe=>e.length==3)=true)) (.done (.inl (v.1,v.2.1,((v.2.2.1+1)+1),true,(IntKind.i64.wrap (v.2.2.2.2.1+(1:Int))),v.2.2.2.2.2.1,v.2.2.2.2.2.2.1,((v.2.2.2.2.2.2.2++([[(.i .i64 v.2.2.2.2.2.1),(.i .i64 v.2.2.2.2.2.2.1),(.s v.2.1)]]:RW))++([[(.i .i64 b),(.i .i64 c),(.s d)]]:RW))))) .fail) .fail)))) .fail)) .fail) (.done (.inl (v.1,v.2.1,(v.2.2.1+1),true,(IntKind.i64.wrap (v.2.2.2.2.1+(1:Int))),v.2.2.2.2.2.1,v.2.2.2.2.2.2.1,(v.2.2.2.2.2.2.2++([[(.i .i64 v.2.2.2.2.2.1),(.i .i64 v.2.2.2.2.2.2.1),(.s v.2.1)]]:RW)))))))) .fail)) .fail) .fail) .fail) (.ask (decide (0<=v.2.2.2.2.1/\v.2.2.2.2.1<v.1.length)) (.opt (v.1[(v.2.2.2.2.1).toNat]?) λt=>(.ask (decide (t.length=3)) (.opt (zC .i64 t 0) λa3=>(.opt (zC .i64 t 1) λa4=>(.ask ((!((a3==v.2.2.2.2.2.1)&&((a4==v.2.2.2.2.2.2.1)&&true)))) (.ask (decide (0<=v.2.2.2.2.1/\v.2.2.2.2.1<v.1.length)) (.opt (v.1[(v.2.2.2.2.1).toNat]?) λf=>(.ask (decide (f.length=3)) (.opt (zC .i64 f 0) λg=>(.opt (zC .i64 f 1) λh=>(.opt (zk f 2) λj=>(.ask (decide (1=([[(.i .i64 g),(.i .i64 h),(.s j)]]:RW).length)) (.ask (decide (v.2.2.1=v.2.2.2.2.2.2.2.length/\0<3/\0<32/\(v.2.2.1+([[(.i .i64 g),(.i .i64 h),(.s j)]]:RW).length)*32<=140737488355328/\([[(.i .i64 g),(.i .i64 h),(.s j)]]:RW).all (λe=>e.length==3)=true)) (.done (.inl (v.1,v.2.1,(v.2.2.1+1),v.2.2.2.1,(IntKind.i64.wrap (v.2.2.2.2.1+(1:Int))),v.2.2.2.2.2.1,v.2.2.2.2.2.2.1,(v.2.2.2.2.2.2.2++([[(.i .i64 g),(.i .i64 h),(.s j)]]:RW))))) .fail) .fail)))) .fail)) .fail) (.done (.inl (v.1,v.2.1,v.2.2.1,v.2.2.2.1,(IntKind.i64.wrap (v.2.2.2.2.1+(1:Int))),v.2.2.2.2.2.1,v.2.2.2.2.2.2.1,v.2.2.2.2.2.2.2)))))) .fail)) .fail))))) .fail)) .fail) (.ask (decide (0<=v.2.2.2.2.1/\v.2.2.2.2.1<v.1.length)) (.opt (v.1[(v.2.2.2.2.1).toNat]?) λu=>(.ask (decide (u.length=3)) (.opt (zC .i64 u 0) λa5=>(.opt (zC .i64 u 1) λa6=>(.ask ((!((a5==v.2.2.2.2.2.1)&&((a6==v.2.2.2.2.2.2.1)&&true)))) (.ask (decide (0<=v.2.2.2.2.1/\v.2.2.2.2.1<v.1.length)) (.opt (v.1[(v.2.2.2.2.1).toNat]?) λk=>(.ask (decide (k.length=3)) (.opt (zC .i64 k 0) λl=>(.opt (zC .i64 k 1) λm=>(.opt (zk k 2) λo=>(.ask (decide (1=([[(.i .i64 l),(.i .i64 m),(.s o)]]:RW).length)) (.ask (decide (v.2.2.1=v.2.2.2.2.2.2.2.length/\0<3/\0<32/\(v.2.2.1+([[(.i .i64 l),(.i .i64 m),(.s o)]]:RW).length)*32<=140737488355328/\([[(.i .i64 l),(.i .i64 m),(.s o)]]:RW).all (λe=>e.length==3)=true)) (.done (.inl (v.1,v.2.1,(v.2.2.1+1),v.2.2.2.1,(IntKind.i64.wrap (v.2.2.2.2.1+(1:Int))),v.2.2.2.2.2.1,v.2.2.2.2.2.2.1,(v.2.2.2.2.2.2.2++([[(.i .i64 l),(.i .i64 m),(.s o)]]:RW))))) .fail) .fail)))) .fail)) .fail) (.done (.inl (v.1,v.2.1,v.2.2.1,v.2.2.2.1,(IntKind.i64.wrap (v.2.2.2.2.1+(1:Int))),v.2.2.2.2.2.1,v.2.2.2.2.2.2.1,v.2.2.2.2.2.2.2)))))) .fail)) .fail)) (.done (.inr ((v.2.1,v.2.2.1,v.2.2.2.1,v.2.2.2.2.2.1,v.2.2.2.2.2.2.1,v.2.2.2.2.2.2.2)))))
def Oh (n:Nat) (x0:RW) (x1 x2:Int) (x3:BA):Tr (Nat×RW):=(.opt (zE (JO n) n (x0,x3,(0:Nat),(x3.toList==(⟨#[]⟩:BA).toList),(0:Int),x1,x2,([]:RW))) λa=>(.ask ((!a.2.2.1)) (.ask (decide (1=([[(.i .i64 a.2.2.2.1),(.i .i64 a.2.2.2.2.1),(.s a.1)]]:RW).length)) (.ask (decide (a.2.1=a.2.2.2.2.2.length/\0<3/\0<32/\(a.2.1+([[(.i .i64 a.2.2.2.1),(.i .i64 a.2.2.2.2.1),(.s a.1)]]:RW).length)*32<=140737488355328/\([[(.i .i64 a.2.2.2.1),(.i .i64 a.2.2.2.2.1),(.s a.1)]]:RW).all (λe=>e.length==3)=true)) (.done ((a.2.1+1),(a.2.2.2.2.2++([[(.i .i64 a.2.2.2.1),(.i .i64 a.2.2.2.2.1),(.s a.1)]]:RW)))) .fail) .fail) (.done (a.2.1,a.2.2.2.2.2))))
def Oi:Nat->RW->Int->Int->BA->Option (Nat×RW)
 |0,_,_,_,_=>none
 |n+1,x0,x1,x2,x3=>(Oh n x0 x1 x2 x3).run
abbrev TQ (n:Nat):List (Ent (Rn n)):= [en (Pe n)]
def V0 (n:Nat):LEnt (KB 90) (Rn n) n:=lok (zU 90) 61 ⟨⟨[(0,aL),(2,aS),(4,(.c (.ptr 0 256 0 0 0))),(7,(.c (.own 0 640 0 0))),(8,aB),(9,aI)],fo,[]⟩,[(.exit 0,⟨[(2,aS),(4,(.c (.ptr 0 256 0 0 0))),(7,(.c (.own 0 640 0 0))),(8,aB)],fo,[]⟩)]⟩ (JO n) (TQ n) [] λ_=>(by kernel_rfl)
theorem YE:∀n,Ok (Rn n) ZE (Oi n)
 |0=>ok0 λ_=>rfl
 |n+1=>stO (T:=Oh n) (by kernel_rfl) (TQ n) [V0 n] (λ_=>(by kernel_rfl)) λ_=>(by kernel_rfl)
def ZF:Sg:=⟨28,[aL,(.agg [qI,qI]),aS],[],⟨(.tup [(false,[(.own 0 0 0 0)]),(false,[qB])]),[],[⟨0,3,59,(.row [])⟩]⟩⟩
def Oj (n:Nat) (x0:RW) (x1 x2:Int) (x3:BA):Tr (Nat×Bool×RW):=(.opt (IY n x3) λb=>(.opt (IZ n x0) λc=>(.ask ((!c)) (.done ((0:Nat),false,([]:RW))) (.opt (E1 n x1 x2) λd=>(.ask ((!d)) (.done ((0:Nat),false,([]:RW))) (.ask ((!b.2)) (.done ((0:Nat),false,([]:RW))) (.opt (Oi n x0 x1 x2 b.1) λa=>(.ask ((decide (((a.1:Nat):Int)>(120:Int)))) (.done ((0:Nat),false,([]:RW))) (.done (a.1,true,a.2))))))))))
def Ol:Nat->RW->Int->Int->BA->Option (Nat×Bool×RW)
 |0,_,_,_,_=>none
 |n+1,x0,x1,x2,x3=>(Oj n x0 x1 x2 x3).run
abbrev ZG (n:Nat):List (Ent (Rn n)):= [en (Pd n),en (LQ n),en (IC n),en (YE n)]
theorem YF:∀n,Ok (Rn n) ZF (Ol n)
 |0=>ok0 λ_=>rfl
 |n+1=>stO (T:=Oj n) (by kernel_rfl) (ZG n) [] (λ_=>(by kernel_rfl)) λ_=>(by kernel_rfl)
def TR:Sg:=⟨74,[(.c (.ptr 0 0 0 0 0)),aI],[Hq],⟨aL,[Hq],[]⟩⟩
def HH (n:Nat) (v:Nat×Int×RW×RW×Int):Tr ((Nat×Int×RW×RW×Int)⊕((Nat×RW×RW×Int))):=(.ask ((decide (v.2.1>(0:Int)))) (.opt (D1 n v.2.2.2.1 v.2.2.2.2) λd=>(.opt (HD n d.2.2.1 d.2.2.2) λc=>(.ask (decide (v.1=v.2.2.1.length)) (.opt (Ol n v.2.2.1 d.1 d.2.1 c.1) λa=>(.ask (aZ (⟨(.tup [(false,[(.own 0 0 0 a.1)]),(false,[(.p (.b a.2.1))])]),[],[⟨0,3,59,(.row a.2.2)⟩]⟩:Res)) (.ask (a.2.1) (.done (.inl (a.1,(IntKind.i64.wrap (v.2.1-(1:Int))),a.2.2,c.2.1,c.2.2))) (.done (.inl (v.1,(IntKind.i64.wrap (v.2.1-(1:Int))),v.2.2.1,c.2.1,c.2.2)))) .fail)) .fail))) (.done (.inr ((v.1,v.2.2.1,v.2.2.2.1,v.2.2.2.2)))))
def J2 (n:Nat) (x0:Int) (x1:RW) (x2:Int):Tr (RW×RW×Int):=(.opt (qi n (IntKind.i64.wrap (x0+(1:Int))) x1 x2) λf=>(.opt (zE (HH n) n ((0:Nat),f.1,([]:RW),f.2.1,f.2.2)) λb=>(.opt (DR n (40:Int) b.2.2.1 b.2.2.2) λd=>(.ask (d.1) (.opt (D1 n d.2.1 d.2.2) λa=>(.opt (HD n a.2.2.1 a.2.2.2) λc=>(.ask (decide (1=([[(.i .i64 a.1),(.i .i64 a.2.1),(.s c.1)]]:RW).length)) (.ask (decide (b.1=b.2.1.length/\0<3/\0<32/\(b.1+([[(.i .i64 a.1),(.i .i64 a.2.1),(.s c.1)]]:RW).length)*32<=140737488355328/\([[(.i .i64 a.1),(.i .i64 a.2.1),(.s c.1)]]:RW).all (λe=>e.length==3)=true)) (.ask (decide ((b.1+1)=(b.2.1++([[(.i .i64 a.1),(.i .i64 a.2.1),(.s c.1)]]:RW)).length)) (.done ((b.2.1++([[(.i .i64 a.1),(.i .i64 a.2.1),(.s c.1)]]:RW)),c.2.1,c.2.2)) .fail) .fail) .fail))) (.ask (decide (b.1=b.2.1.length)) (.done (b.2.1,d.2.1,d.2.2)) .fail)))))
def IM:Nat->Int->RW->Int->Option (RW×RW×Int)
 |0,_,_,_=>none
 |n+1,x0,x1,x2=>(J2 n x0 x1 x2).run
abbrev NF (n:Nat):List (Ent (Rn n)):= [en (Ew n),en (Ip n),en (SD n),en (YF n),en (HA n)]
def QO (n:Nat):LEnt (KB 74) (Rn n) n:=lok (zU 74) 29 ⟨⟨[(0,(.c (.ptr 0 0 0 0 0))),(5,(.c (.own 1 320 0 0))),(6,aI)],fw,[Hq]⟩,[(.exit 0,⟨[(0,(.c (.ptr 0 0 0 0 0))),(5,(.c (.own 1 320 0 0)))],fw,[Hq]⟩)]⟩ (HH n) (NF n) [] λ_=>(by kernel_rfl)
theorem SP:∀n,Ok (Rn n) TR (IM n)
 |0=>ok0 λ_=>rfl
 |n+1=>stO (T:=J2 n) (by kernel_rfl) (NF n) [QO n] (λ_=>(by kernel_rfl)) λ_=>(by kernel_rfl)
def RX:Sg:=⟨20,[aL],[],⟨(.tup [(false,[qL]),(true,[qI,qI])]),[],[]⟩⟩
def I6 (n:Nat) (x0:RW):Tr (RW×Int×Int):=(.opt (Kt n x0) λf=>(.opt (IM n (10:Int) f.1 f.2) λa=>(.ask ((decide ((a.1.length:Int)>(0:Int)))) (.opt (DR n (4:Int) a.2.1 a.2.2) λb=>(.ask ((!b.1)) (.opt (qi n (a.1.length:Int) b.2.1 b.2.2) λc=>(.ask (decide (0<=c.1/\c.1<a.1.length)) (.opt (a.1[(c.1).toNat]?) λd=>(.ask (decide (d.length=3)) (.opt (zC .i64 d 0) λj=>(.opt (zC .i64 d 1) λk=>(.done (a.1,j,k)))) .fail)) .fail)) (.opt (D1 n b.2.1 b.2.2) λg=>(.done (a.1,g.1,g.2.1))))) (.opt (D1 n a.2.1 a.2.2) λh=>(.done (a.1,h.1,h.2.1))))))
def HV:Nat->RW->Option (RW×Int×Int)
 |0,_=>none
 |n+1,x0=>(I6 n x0).run
abbrev RY (n:Nat):List (Ent (Rn n)):= [en (Wl n),en (SP n),en (HA n),en (Ew n),en (Ip n)]
theorem QP:∀n,Ok (Rn n) RX (HV n)
 |0=>ok0 λ_=>rfl
 |n+1=>stO (T:=I6 n) (by kernel_rfl) (RY n) [] (λ_=>(by kernel_rfl)) λ_=>(by kernel_rfl)
def YG:Sg:=⟨142,[aI,aI,aI],[],⟨aB,[],[]⟩⟩
def No (n:Nat) (x0 x1 x2:Int):Tr (Bool):=(.ask ((decide (x0≥x1))) (.done (decide (x0<=x2))) (.done false))
def D5:Nat->Int->Int->Int->Option (Bool)
 |0,_,_,_=>none
 |n+1,x0,x1,x2=>(No n x0 x1 x2).run
theorem Hh:∀n,Ok (Rn n) YG (D5 n)
 |0=>ok0 λ_=>rfl
 |n+1=>stO (T:=No n) (by kernel_rfl) [] [] (λ_=>(by kernel_rfl)) λ_=>(by kernel_rfl)
def ZH:Sg:=⟨92,[(.agg [qI,qI])],[],⟨aB,[],[]⟩⟩
def Om (n:Nat) (x0 x1:Int):Tr (Bool):=(.opt (D5 n x0 (1:Int) (52:Int)) λa=>(.ask (a) (.opt (D5 n x1 (1:Int) (99:Int)) λb=>(.done b)) (.done false)))
def Ge:Nat->Int->Int->Option (Bool)
 |0,_,_=>none
 |n+1,x0,x1=>(Om n x0 x1).run
abbrev ZI (n:Nat):List (Ent (Rn n)):= [en (Hh n)]
theorem Kx:∀n,Ok (Rn n) ZH (Ge n)
 |0=>ok0 λ_=>rfl
 |n+1=>stO (T:=Om n) (by kernel_rfl) (ZI n) [] (λ_=>(by kernel_rfl)) λ_=>(by kernel_rfl)
def TS:Sg:=⟨248,[aI],[],⟨aB,[],[]⟩⟩
def J3 (n:Nat) (x0:Int):Tr (Bool):=(.done (x0 !=x0))
def HI:Nat->Int->Option (Bool)
 |0,_=>none
 |n+1,x0=>(J3 n x0).run
theorem SQ:∀n,Ok (Rn n) TS (HI n)
 |0=>ok0 λ_=>rfl
 |n+1=>stO (T:=J3 n) (by kernel_rfl) [] [] (λ_=>(by kernel_rfl)) λ_=>(by kernel_rfl)
def RZ:Sg:=⟨185,[aI,aI],[],⟨aI,[],[]⟩⟩
def I7 (n:Nat) (x0 x1:Int):Tr (Int):=(.opt (HI n x0) λb=>(.opt (HI n x1) λa=>(.ask (b) (.ask (a) (.done (0:Int)) (.done (-1:Int))) (.ask (a) (.done (1:Int)) (.ask ((decide (x0<x1))) (.done (-1:Int)) (.ask ((decide (x0>x1))) (.done (1:Int)) (.done (0:Int))))))))
def GX:Nat->Int->Int->Option (Int)
 |0,_,_=>none
 |n+1,x0,x1=>(I7 n x0 x1).run
abbrev Ra (n:Nat):List (Ent (Rn n)):= [en (SQ n)]
theorem QQ:∀n,Ok (Rn n) RZ (GX n)
 |0=>ok0 λ_=>rfl
 |n+1=>stO (T:=I7 n) (by kernel_rfl) (Ra n) [] (λ_=>(by kernel_rfl)) λ_=>(by kernel_rfl)
def ZJ:Sg:=⟨184,[aL],[],⟨aI,[],[]⟩⟩
def G8 (n:Nat) (v:Int×RW×Int×Int):Tr ((Int×RW×Int×Int)⊕((Int)⊕(Int))):=(.ask ((decide (v.2.2.2<v.2.2.1))) (.ask (decide (0<=v.2.2.2/\v.2.2.2<v.2.1.length)) (.opt (v.2.1[(v.2.2.2).toNat]?) λa=>(.ask (decide (a.length=1)) (.opt (zC .i64 a 0) λb=>(.ask ((b !=v.1)) (.done (.inr (.inl (b)))) (.done (.inl (v.1,v.2.1,v.2.2.1,(IntKind.i64.wrap (v.2.2.2+(1:Int)))))))) .fail)) .fail) (.done (.inr (.inr (v.1)))))
def On (n:Nat) (x0:RW):Tr (Int):=(.opt (zE (G8 n) n ((0:Int),x0,(x0.length:Int),(0:Int))) λa=>(.alt a (λb=>(.done b)) (λc=>(.done c))))
def L4:Nat->RW->Option (Int)
 |0,_=>none
 |n+1,x0=>(On n x0).run
def V1 (n:Nat):LEnt (KB 184) (Rn n) n:=lok (zU 184) 29 ⟨⟨[(3,aI),(6,aL),(7,aI),(8,aI)],[],[]⟩,[(.ret,⟨[(2,aI)],[],[]⟩),(.exit 0,⟨[(3,aI)],[],[]⟩)]⟩ (G8 n) [] [] λ_=>(by kernel_rfl)
theorem YH:∀n,Ok (Rn n) ZJ (L4 n)
 |0=>ok0 λ_=>rfl
 |n+1=>stO (T:=On n) (by kernel_rfl) [] [V1 n] (λ_=>(by kernel_rfl)) λ_=>(by kernel_rfl)
def SR:Sg:=⟨108,[(.agg [qI,qI]),(.agg [qI,qI])],[],⟨aI,[],[]⟩⟩
def JX (n:Nat) (x0 x1 x2 x3:Int):Tr (Int):=(.opt (GX n x1 x3) λa=>(.opt (GX n x0 x2) λb=>(.ask (decide (2=([[(.i .i64 a)],[(.i .i64 b)]]:RW).length)) (.opt (L4 n ([[(.i .i64 a)],[(.i .i64 b)]]:RW)) λd=>(.ask (aZ (⟨(.c (.p (.i .i64 d))),[],[]⟩:Res)) (.done d) .fail)) .fail)))
def Ft:Nat->Int->Int->Int->Int->Option (Int)
 |0,_,_,_,_=>none
 |n+1,x0,x1,x2,x3=>(JX n x0 x1 x2 x3).run
abbrev SS (n:Nat):List (Ent (Rn n)):= [en (QQ n),en (YH n)]
theorem Rb:∀n,Ok (Rn n) SR (Ft n)
 |0=>ok0 λ_=>rfl
 |n+1=>stO (T:=JX n) (by kernel_rfl) (SS n) [] (λ_=>(by kernel_rfl)) λ_=>(by kernel_rfl)
def YI:Sg:=⟨98,[aS,aI],[],⟨aB,[],[]⟩⟩
def Fu (n:Nat) (v:BA×Int×Int×Int):Tr ((BA×Int×Int×Int)⊕((Bool)⊕(BA×Int))):=(.ask ((decide (v.2.2.2<v.2.2.1))) (.ask (decide (0<=v.2.2.2)) (.opt (v.1.toList[(v.2.2.2).toNat]?) λa=>(.ask ((decide ((a.toNat:Int)<(32:Int)))) (.done (.inr (.inl (false)))) (.ask (decide (0<=v.2.2.2)) (.opt (v.1.toList[(v.2.2.2).toNat]?) λb=>(.ask ((decide ((b.toNat:Int)>(126:Int)))) (.done (.inr (.inl (false)))) (.done (.inl (v.1,v.2.1,v.2.2.1,(IntKind.i64.wrap (v.2.2.2+(1:Int)))))))) .fail))) .fail) (.done (.inr (.inr ((v.1,v.2.1))))))
def Np (n:Nat) (x0:BA) (x1:Int):Tr (Bool):=(.opt (zE (Fu n) n (x0,x1,(x0.size:Int),(0:Int))) λb=>(.alt b (λc=>(.done c)) (λa=>(.done (decide ((a.1.size:Int)<=a.2))))))
def HT:Nat->BA->Int->Option (Bool)
 |0,_,_=>none
 |n+1,x0,x1=>(Np n x0 x1).run
def Uc (n:Nat):LEnt (KB 98) (Rn n) n:=lok (zU 98) 13 ⟨⟨[(0,aS),(1,aI),(7,aI),(8,aI)],[],[]⟩,[(.ret,⟨[(4,aB)],[],[]⟩),(.exit 0,⟨[(0,aS),(1,aI)],[],[]⟩)]⟩ (Fu n) [] [] λ_=>(by kernel_rfl)
theorem MU:∀n,Ok (Rn n) YI (HT n)
 |0=>ok0 λ_=>rfl
 |n+1=>stO (T:=Np n) (by kernel_rfl) [] [Uc n] (λ_=>(by kernel_rfl)) λ_=>(by kernel_rfl)
def Lp:Sg:=⟨99,[aS,aS],[],⟨(.tup [(false,[qS]),(false,[qB])]),[],[]⟩⟩
def DY:Nat->BA->BA->Option ((BA×Bool))
 |0,_,_=>none
 |n+1,x0,x1=>zt x0 x1
theorem GB:∀n,Ok (Rn n) Lp (DY n)
 |0=>ok0 λ_=>rfl
 |n+1=>stL aX (by kernel_rfl) (λ_ _=>rfl) (λa r e=>congrArg (Option.map λr=>(Lp.Of r).v) e) rfl rfl rfl
def MV:Sg:=⟨208,[aS,aS],[],⟨aS,[],[]⟩⟩
def FJ:Nat->BA->BA->Option ((BA))
 |0,_,_=>none
 |n+1,x0,x1=>zb x0 x1
theorem I8:∀n,Ok (Rn n) MV (FJ n)
 |0=>ok0 λ_=>rfl
 |n+1=>stL bD (by kernel_rfl) (λ_ _=>rfl) (λa r e=>congrArg (Option.map λr=>(MV.Of r).v) e) rfl rfl rfl
def QR:Sg:=⟨171,[(.c (.ptr 0 0 0 0 0))],[FI],⟨(.tup []),[FI],[]⟩⟩
def Ia (n:Nat) (x0:BA) (x1:Nat) (x2:Bool) (x3:RW):Tr (BA×Nat×Bool×RW):=(.opt (FJ n x0 (⟨#[32]⟩:BA)) λa=>(.done (a,x1,x2,x3)))
def Ey:Nat->BA->Nat->Bool->RW->Option (BA×Nat×Bool×RW)
 |0,_,_,_,_=>none
 |n+1,x0,x1,x2,x3=>(Ia n x0 x1 x2 x3).run
abbrev QS (n:Nat):List (Ent (Rn n)):= [en (I8 n)]
theorem Gu:∀n,Ok (Rn n) QR (Ey n)
 |0=>ok0 λ_=>rfl
 |n+1=>stO (T:=Ia n) (by kernel_rfl) (QS n) [] (λ_=>(by kernel_rfl)) λ_=>(by kernel_rfl)
def J4:Sg:=⟨225,[aS,aS],[],⟨aB,[],[]⟩⟩
def Em (n:Nat) (x0 x1:BA):Tr (Bool):=(.ask ((decide ((x0.size:Int)≥(x1.size:Int)))) (.ask (decide (0<=(0:Int)/\(0:Int)<=(x1.size:Int)/\(x1.size:Int)<=x0.size)) (.done ((x0.extract ((0:Int)).toNat ((x1.size:Int)).toNat).toList==x1.toList)) .fail) (.done false))
def Dk:Nat->BA->BA->Option (Bool)
 |0,_,_=>none
 |n+1,x0,x1=>(Em n x0 x1).run
theorem G3:∀n,Ok (Rn n) J4 (Dk n)
 |0=>ok0 λ_=>rfl
 |n+1=>stO (T:=Em n) (by kernel_rfl) [] [] (λ_=>(by kernel_rfl)) λ_=>(by kernel_rfl)
def Rc:Sg:=⟨180,[aS,aS],[],⟨aB,[],[]⟩⟩
def GY (n:Nat) (x0 x1:BA):Tr (Bool):=(.opt (Dk n x0 x1) λa=>(.done a))
def DG:Nat->BA->BA->Option (Bool)
 |0,_,_=>none
 |n+1,x0,x1=>(GY n x0 x1).run
abbrev Re (n:Nat):List (Ent (Rn n)):= [en (G3 n)]
theorem HJ:∀n,Ok (Rn n) Rc (DG n)
 |0=>ok0 λ_=>rfl
 |n+1=>stO (T:=GY n) (by kernel_rfl) (Re n) [] (λ_=>(by kernel_rfl)) λ_=>(by kernel_rfl)
def SU:Sg:=⟨227,[(.c (.ptr 0 0 0 0 0))],[FI],⟨aS,[FI],[]⟩⟩
def Gv (n:Nat) (v:Nat×Int×Int×RW×BA×Nat×Bool×RW):Tr ((Nat×Int×Int×RW×BA×Nat×Bool×RW)⊕((BA×BA×Nat×Bool×RW)⊕(BA×Nat×Bool×RW))):=(.ask ((decide (v.2.2.1<v.2.1))) (.ask (decide (v.1=v.2.2.2.1.length/\0<=v.2.2.1/\v.2.2.1<((v.1:Nat):Int))) (.opt (v.2.2.2.1[(v.2.2.1).toNat]?) λb=>(.opt (zk b 0) λa=>(.opt (DG n v.2.2.2.2.1 a) λc=>(.ask (c) (.done (.inr (.inl ((a,v.2.2.2.2.1,v.2.2.2.2.2.1,v.2.2.2.2.2.2.1,v.2.2.2.2.2.2.2))))) (.done (.inl (v.1,v.2.1,(IntKind.i64.wrap (v.2.2.1+(1:Int))),v.2.2.2.1,v.2.2.2.2.1,v.2.2.2.2.2.1,v.2.2.2.2.2.2.1,v.2.2.2.2.2.2.2))))))) .fail) (.done (.inr (.inr ((v.2.2.2.2.1,v.2.2.2.2.2.1,v.2.2.2.2.2.2.1,v.2.2.2.2.2.2.2))))))
def MW (n:Nat) (x0:BA) (x1:Nat) (x2:Bool) (x3:RW):Tr (BA×BA×Nat×Bool×RW):=(.opt (Ey n x0 x1 x2 x3) λb=>(.opt (zE (Gv n) n ((15:Nat),(15:Int),(0:Int),([[(.s (⟨#[60,62]⟩:BA))],[(.s (⟨#[60,61]⟩:BA))],[(.s (⟨#[62,61]⟩:BA))],[(.s (⟨#[60]⟩:BA))],[(.s (⟨#[62]⟩:BA))],[(.s (⟨#[61]⟩:BA))],[(.s (⟨#[38]⟩:BA))],[(.s (⟨#[43]⟩:BA))],[(.s (⟨#[45]⟩:BA))],[(.s (⟨#[42]⟩:BA))],[(.s (⟨#[47]⟩:BA))],[(.s (⟨#[40]⟩:BA))],[(.s (⟨#[41]⟩:BA))],[(.s (⟨#[44]⟩:BA))],[(.s (⟨#[58]⟩:BA))]]:RW),b.1,b.2.1,b.2.2.1,b.2.2.2)) λd=>(.alt d (λa=>(.done (a.1,a.2.1,a.2.2.1,a.2.2.2.1,a.2.2.2.2))) (λc=>(.done ((⟨#[]⟩:BA),c.1,c.2.1,c.2.2.1,c.2.2.2))))))
def Fv:Nat->BA->Nat->Bool->RW->Option (BA×BA×Nat×Bool×RW)
 |0,_,_,_,_=>none
 |n+1,x0,x1,x2,x3=>(MW n x0 x1 x2 x3).run
abbrev MX (n:Nat):List (Ent (Rn n)):= [en (Gu n),en (HJ n)]
def Py (n:Nat):LEnt (KB 227) (Rn n) n:=lok (zU 227) 29 ⟨⟨[(0,(.c (.ptr 0 0 0 0 0))),(7,(.c (.own 1 448 0 0))),(8,aI),(9,aI)],[(448,⟨0,1,9,(.row [])⟩)],[FI]⟩,[(.ret,⟨[(2,aS)],[],[FI]⟩),(.exit 0,⟨[],[],[FI]⟩)]⟩ (Gv n) (MX n) [] λ_=>(by kernel_rfl)
theorem Lq:∀n,Ok (Rn n) SU (Fv n)
 |0=>ok0 λ_=>rfl
 |n+1=>stO (T:=MW n) (by kernel_rfl) (MX n) [Py n] (λ_=>(by kernel_rfl)) λ_=>(by kernel_rfl)
def SV:Sg:=⟨230,[(.c (.ptr 0 0 0 0 0)),aS],[FI],⟨aB,[FI],[]⟩⟩
def MY (n:Nat) (x0 x1:BA) (x2:Nat) (x3:Bool) (x4:RW):Tr (Bool×BA×Nat×Bool×RW):=(.opt (Fv n x1 x2 x3 x4) λa=>(.ask ((!(a.1.toList==x0.toList))) (.done (false,a.2.1,a.2.2.1,a.2.2.2.1,a.2.2.2.2)) (.ask (decide (0<=(x0.size:Int)/\(x0.size:Int)<=(a.2.1.size:Int)/\(a.2.1.size:Int)<=a.2.1.size)) (.done (true,(a.2.1.extract ((x0.size:Int)).toNat ((a.2.1.size:Int)).toNat),a.2.2.1,a.2.2.2.1,a.2.2.2.2)) .fail)))
def DO:Nat->BA->BA->Nat->Bool->RW->Option (Bool×BA×Nat×Bool×RW)
 |0,_,_,_,_,_=>none
 |n+1,x0,x1,x2,x3,x4=>(MY n x0 x1 x2 x3 x4).run
abbrev SX (n:Nat):List (Ent (Rn n)):= [en (Lq n)]
theorem GZ:∀n,Ok (Rn n) SV (DO n)
 |0=>ok0 λ_=>rfl
 |n+1=>stO (T:=MY n) (by kernel_rfl) (SX n) [] (λ_=>(by kernel_rfl)) λ_=>(by kernel_rfl)
def TT:Sg:=⟨231,[(.c (.ptr 0 0 0 0 0)),(.agg [qI,qI,qI,qI,qS,qI,qI,qB,qB,qI,qI,qB,qB,qL])],[FI],⟨aI,[FI],[]⟩⟩
def NG (n:Nat) (x0 x1 x2 x3:Int) (x4:BA) (x5 x6:Int) (x7 x8:Bool) (x9 x10:Int) (x11 x12:Bool) (x13:RW) (x14:BA) (x15:Nat) (x16:Bool) (x17:RW):Tr (Int×BA×Nat×Bool×RW):=(.ask (x16) (.ask (false) (.ask (decide (1=([[(.i .i64 x0),(.i .i64 x1),(.i .i64 x2),(.i .i64 x3),(.s x4),(.i .i64 x5),(.i .i64 x6),(.b x7),(.b x8),(.i .i64 x9),(.i .i64 x10),(.b x11),(.b x12),(.ls x13)]]:RW).length)) (.ask (decide (x15=x17.length/\0<14/\0<120/\(x15+([[(.i .i64 x0),(.i .i64 x1),(.i .i64 x2),(.i .i64 x3),(.s x4),(.i .i64 x5),(.i .i64 x6),(.b x7),(.b x8),(.i .i64 x9),(.i .i64 x10),(.b x11),(.b x12),(.ls x13)]]:RW).length)*120<=140737488355328/\([[(.i .i64 x0),(.i .i64 x1),(.i .i64 x2),(.i .i64 x3),(.s x4),(.i .i64 x5),(.i .i64 x6),(.b x7),(.b x8),(.i .i64 x9),(.i .i64 x10),(.b x11),(.b x12),(.ls x13)]]:RW).all (λe=>e.length==14)=true)) (.done ((IntKind.i64.wrap ((((x15+1):Nat):Int)-(1:Int))),x14,(x15+1),true,(x17++([[(.i .i64 x0),(.i .i64 x1),(.i .i64 x2),(.i .i64 x3),(.s x4),(.i .i64 x5),(.i .i64 x6),(.b x7),(.b x8),(.i .i64 x9),(.i .i64 x10),(.b x11),(.b x12),(.ls x13)]]:RW)))) .fail) .fail) (.done ((IntKind.i64.wrap (((x15:Nat):Int)-(1:Int))),x14,x15,true,x17))) (.ask ((!(decide (((x15:Nat):Int)≥(60:Int))))) (.ask (decide (1=([[(.i .i64 x0),(.i .i64 x1),(.i .i64 x2),(.i .i64 x3),(.s x4),(.i .i64 x5),(.i .i64 x6),(.b x7),(.b x8),(.i .i64 x9),(.i .i64 x10),(.b x11),(.b x12),(.ls x13)]]:RW).length)) (.ask (decide (x15=x17.length/\0<14/\0<120/\(x15+([[(.i .i64 x0),(.i .i64 x1),(.i .i64 x2),(.i .i64 x3),(.s x4),(.i .i64 x5),(.i .i64 x6),(.b x7),(.b x8),(.i .i64 x9),(.i .i64 x10),(.b x11),(.b x12),(.ls x13)]]:RW).length)*120<=140737488355328/\([[(.i .i64 x0),(.i .i64 x1),(.i .i64 x2),(.i .i64 x3),(.s x4),(.i .i64 x5),(.i .i64 x6),(.b x7),(.b x8),(.i .i64 x9),(.i .i64 x10),(.b x11),(.b x12),(.ls x13)]]:RW).all (λe=>e.length==14)=true)) (.done ((IntKind.i64.wrap ((((x15+1):Nat):Int)-(1:Int))),x14,(x15+1),(decide (((x15:Nat):Int)≥(60:Int))),(x17++([[(.i .i64 x0),(.i .i64 x1),(.i .i64 x2),(.i .i64 x3),(.s x4),(.i .i64 x5),(.i .i64 x6),(.b x7),(.b x8),(.i .i64 x9),(.i .i64 x10),(.b x11),(.b x12),(.ls x13)]]:RW)))) .fail) .fail) (.done ((IntKind.i64.wrap (((x15:Nat):Int)-(1:Int))),x14,x15,(decide (((x15:Nat):Int)≥(60:Int))),x17))))
def EB:Nat->Int->Int->Int->Int->BA->Int->Int->Bool->Bool->Int->Int->Bool->Bool->RW->BA->Nat->Bool->RW->Option (Int×BA×Nat×Bool×RW)
 |0,_,_,_,_,_,_,_,_,_,_,_,_,_,_,_,_,_,_=>none
 |n+1,x0,x1,x2,x3,x4,x5,x6,x7,x8,x9,x10,x11,x12,x13,x14,x15,x16,x17=>(NG n x0 x1 x2 x3 x4 x5 x6 x7 x8 x9 x10 x11 x12 x13 x14 x15 x16 x17).run
theorem Gq:∀n,Ok (Rn n) TT (EB n)
 |0=>ok0 λ_=>rfl
 |n+1=>stO (T:=NG n) (by kernel_rfl) [] [] (λ_=>(by kernel_rfl)) λ_=>(by kernel_rfl)
def Ry:Sg:=⟨58,[aS,aS],[],⟨(.tup [(false,[qS]),(false,[qS]),(false,[qB])]),[],[]⟩⟩
def Nq:Nat->BA->BA->Option ((BA×BA×Bool))
 |0,_,_=>none
 |n+1,x0,x1=>bY x0 x1
theorem W5:∀n,Ok (Rn n) Ry (Nq n)
 |0=>ok0 λ_=>rfl
 |n+1=>stL cS (by kernel_rfl) (λ_ _=>rfl) (λa r e=>congrArg (Option.map λr=>(Ry.Of r).v) e) rfl rfl rfl
def Oo:Sg:=⟨314,[(.c (.ptr 0 0 0 0 0)),(.agg [qI,qI,qS])],[FI],⟨aI,[FI],[]⟩⟩
def J5 (n:Nat) (x0 x1:Int) (x2 x3:BA) (x4:Nat) (x5:Bool) (x6:RW):Tr (Int×BA×Nat×Bool×RW):=(.opt (EB n (1:Int) (0:Int) x0 x1 x2 (0:Int) (0:Int) false false (0:Int) (0:Int) false false ([]:RW) x3 x4 x5 x6) λa=>(.done (a.1,a.2.1,a.2.2.1,a.2.2.2.1,a.2.2.2.2)))
def Dv:Nat->Int->Int->BA->BA->Nat->Bool->RW->Option (Int×BA×Nat×Bool×RW)
 |0,_,_,_,_,_,_,_=>none
 |n+1,x0,x1,x2,x3,x4,x5,x6=>(J5 n x0 x1 x2 x3 x4 x5 x6).run
abbrev Oq (n:Nat):List (Ent (Rn n)):= [en (Gq n)]
theorem Jk:∀n,Ok (Rn n) Oo (Dv n)
 |0=>ok0 λ_=>rfl
 |n+1=>stO (T:=J5 n) (by kernel_rfl) (Oq n) [] (λ_=>(by kernel_rfl)) λ_=>(by kernel_rfl)
def QT:Sg:=⟨313,[(.c (.ptr 0 0 0 0 0))],[FI],⟨aI,[FI],[]⟩⟩
def Hi (n:Nat) (v:BA×BA×BA×Nat×Bool×RW):Tr ((BA×BA×BA×Nat×Bool×RW)⊕((Int×BA×Nat×Bool×RW)⊕(BA×BA×BA×Nat×Bool×RW))):=(.opt (Nq n v.2.1 (⟨#[34]⟩:BA)) λa=>(.ask ((!a.2.2)) (.done (.inr (.inl (((-1:Int),v.2.2.1,v.2.2.2.1,true,v.2.2.2.2.2))))) (.ask (decide (v.1.size+a.1.size<=9223372036854775807)) (.opt (DG n a.2.1 (⟨#[34]⟩:BA)) λb=>(.ask ((!b)) (.done (.inr (.inr (((v.1++a.1),a.2.1,v.2.2.1,v.2.2.2.1,v.2.2.2.2.1,v.2.2.2.2.2))))) (.ask (decide ((v.1++a.1).size+(⟨#[34]⟩:BA).size<=9223372036854775807)) (.ask (decide (0<=(1:Int)/\(1:Int)<=(a.2.1.size:Int)/\(a.2.1.size:Int)<=a.2.1.size)) (.done (.inl (((v.1++a.1)++(⟨#[34]⟩:BA)),(a.2.1.extract ((1:Int)).toNat ((a.2.1.size:Int)).toNat),v.2.2.1,v.2.2.2.1,v.2.2.2.2.1,v.2.2.2.2.2))) .fail) .fail))) .fail)))
def K3 (n:Nat) (x0:BA) (x1:Nat) (x2:Bool) (x3:RW):Tr (Int×BA×Nat×Bool×RW):=(.ask (decide (0<=(1:Int)/\(1:Int)<=(x0.size:Int)/\(x0.size:Int)<=x0.size)) (.opt (zE (Hi n) n ((⟨#[]⟩:BA),(x0.extract ((1:Int)).toNat ((x0.size:Int)).toNat),x0,x1,x2,x3)) λd=>(.alt d (λa=>(.done (a.1,a.2.1,a.2.2.1,a.2.2.2.1,a.2.2.2.2))) (λb=>(.opt (Dv n (2:Int) (0:Int) b.1 b.2.1 b.2.2.2.1 b.2.2.2.2.1 b.2.2.2.2.2) λc=>(.done (c.1,c.2.1,c.2.2.1,c.2.2.2.1,c.2.2.2.2)))))) .fail)
def Ib:Nat->BA->Nat->Bool->RW->Option (Int×BA×Nat×Bool×RW)
 |0,_,_,_,_=>none
 |n+1,x0,x1,x2,x3=>(K3 n x0 x1 x2 x3).run
abbrev K4 (n:Nat):List (Ent (Rn n)):= [en (W5 n),en (HJ n),en (Jk n)]
def OJ (n:Nat):LEnt (KB 313) (Rn n) n:=lok (zU 313) 14 ⟨⟨[(0,(.c (.ptr 0 0 0 0 0))),(3,aS),(4,aS)],[],[FI]⟩,[(.ret,⟨[(2,aI)],[],[FI]⟩),(.exit 0,⟨[(0,(.c (.ptr 0 0 0 0 0))),(3,aS),(4,aS)],[],[FI]⟩)]⟩ (Hi n) (K4 n) [] λ_=>(by kernel_rfl)
theorem Pz:∀n,Ok (Rn n) QT (Ib n)
 |0=>ok0 λ_=>rfl
 |n+1=>stO (T:=K3 n) (by kernel_rfl) (K4 n) [OJ n] (λ_=>(by kernel_rfl)) λ_=>(by kernel_rfl)
def Ud:Sg:=⟨181,[aI],[],⟨aS,[],[]⟩⟩
def Ke (n:Nat) (x0:Int):Tr (BA):=(.ask (decide (6=([[(.s (⟨#[]⟩:BA))],[(.s (⟨#[35,68,73,86,33]⟩:BA))],[(.s (⟨#[35,84,89,80,69,33]⟩:BA))],[(.s (⟨#[35,82,69,70,33]⟩:BA))],[(.s (⟨#[35,79,86,69,82,33]⟩:BA))],[(.s (⟨#[35,67,89,67,76,69,33]⟩:BA))]]:RW).length/\0<=x0/\x0<((6:Nat):Int))) (.opt (([[(.s (⟨#[]⟩:BA))],[(.s (⟨#[35,68,73,86,33]⟩:BA))],[(.s (⟨#[35,84,89,80,69,33]⟩:BA))],[(.s (⟨#[35,82,69,70,33]⟩:BA))],[(.s (⟨#[35,79,86,69,82,33]⟩:BA))],[(.s (⟨#[35,67,89,67,76,69,33]⟩:BA))]]:RW)[(x0).toNat]?) λa=>(.opt (zk a 0) λb=>(.done b))) .fail)
def EW:Nat->Int->Option (BA)
 |0,_=>none
 |n+1,x0=>(Ke n x0).run
theorem J6:∀n,Ok (Rn n) Ud (EW n)
 |0=>ok0 λ_=>rfl
 |n+1=>stO (T:=Ke n) (by kernel_rfl) [] [] (λ_=>(by kernel_rfl)) λ_=>(by kernel_rfl)
def ZK:Sg:=⟨182,[aI],[],⟨(.agg [qI,qI,qS]),[],[]⟩⟩
def Ot (n:Nat) (x0:Int):Tr (Int×Int×BA):=(.done ((4:Int),x0,(⟨#[]⟩:BA)))
def F6:Nat->Int->Option (Int×Int×BA)
 |0,_=>none
 |n+1,x0=>(Ot n x0).run
theorem Rz:∀n,Ok (Rn n) ZK (F6 n)
 |0=>ok0 λ_=>rfl
 |n+1=>stO (T:=Ot n) (by kernel_rfl) [] [] (λ_=>(by kernel_rfl)) λ_=>(by kernel_rfl)
def SY:Sg:=⟨315,[(.c (.ptr 0 0 0 0 0))],[FI],⟨aS,[FI],[]⟩⟩
def MZ (n:Nat) (x0:BA) (x1:Nat) (x2:Bool) (x3:RW):Tr (BA×BA×Nat×Bool×RW):=(.opt (Ey n x0 x1 x2 x3) λa=>(.opt (FJ n a.1 (⟨#[65,66,67,68,69,70,71,72,73,74,75,76,77,78,79,80,81,82,83,84,85,86,87,88,89,90,48,49,50,51,52,53,54,55,56,57,36]⟩:BA)) λb=>(.ask (decide (0<=(0:Int)/\(0:Int)<=(IntKind.i64.wrap ((a.1.size:Int)-(b.size:Int)))/\(IntKind.i64.wrap ((a.1.size:Int)-(b.size:Int)))<=a.1.size)) (.ask (decide (0<=(IntKind.i64.wrap ((a.1.size:Int)-(b.size:Int)))/\(IntKind.i64.wrap ((a.1.size:Int)-(b.size:Int)))<=(a.1.size:Int)/\(a.1.size:Int)<=a.1.size)) (.done ((a.1.extract ((0:Int)).toNat ((IntKind.i64.wrap ((a.1.size:Int)-(b.size:Int)))).toNat),(a.1.extract ((IntKind.i64.wrap ((a.1.size:Int)-(b.size:Int)))).toNat ((a.1.size:Int)).toNat),a.2.1,a.2.2.1,a.2.2.2)) .fail) .fail)))
def FK:Nat->BA->Nat->Bool->RW->Option (BA×BA×Nat×Bool×RW)
 |0,_,_,_,_=>none
 |n+1,x0,x1,x2,x3=>(MZ n x0 x1 x2 x3).run
abbrev SZ (n:Nat):List (Ent (Rn n)):= [en (Gu n),en (I8 n)]
theorem Lr:∀n,Ok (Rn n) SY (FK n)
 |0=>ok0 λ_=>rfl
 |n+1=>stO (T:=MZ n) (by kernel_rfl) (SZ n) [] (λ_=>(by kernel_rfl)) λ_=>(by kernel_rfl)
def W6:Sg:=⟨104,[(.agg [qI,qI,qS])],[],⟨aB,[],[]⟩⟩
def Ma (n:Nat) (x0 x1:Int) (x2:BA):Tr (Bool):=(.ask ((x0==(2:Int))) (.ask ((x1==(0:Int))) (.opt (HT n x2 (200:Int)) λa=>(.done a)) (.done false)) (.ask ((!(x2.toList==(⟨#[]⟩:BA).toList))) (.done false) (.ask ((x0==(0:Int))) (.done (x1==(0:Int))) (.ask ((x0==(1:Int))) (.opt (D5 n x1 (-1000000000000000:Int) (1000000000000000:Int)) λb=>(.done b)) (.ask ((x0==(3:Int))) (.opt (D5 n x1 (0:Int) (1:Int)) λc=>(.done c)) (.ask ((x0==(4:Int))) (.opt (D5 n x1 (1:Int) (5:Int)) λd=>(.done d)) (.done false)))))))
def FC:Nat->Int->Int->BA->Option (Bool)
 |0,_,_,_=>none
 |n+1,x0,x1,x2=>(Ma n x0 x1 x2).run
abbrev W7 (n:Nat):List (Ent (Rn n)):= [en (MU n),en (Hh n)]
theorem LR:∀n,Ok (Rn n) W6 (FC n)
 |0=>ok0 λ_=>rfl
 |n+1=>stO (T:=Ma n) (by kernel_rfl) (W7 n) [] (λ_=>(by kernel_rfl)) λ_=>(by kernel_rfl)
def Ls:Sg:=⟨178,[aI,aI],[],⟨aS,[],[]⟩⟩
def I9:Nat->Int->Int->Option ((BA))
 |0,_,_=>none
 |n+1,x0,x1=>aD x0 x1
theorem QU:∀n,Ok (Rn n) Ls (I9 n)
 |0=>ok0 λ_=>rfl
 |n+1=>stL aW (by kernel_rfl) (λ_ _=>rfl) (λa r e=>congrArg (Option.map λr=>(Ls.Of r).v) e) rfl rfl rfl
def W8:Sg:=⟨106,[aI],[],⟨aS,[],[]⟩⟩
def Mb (n:Nat) (x0:Int):Tr (BA):=(.opt (I9 n x0 (10:Int)) λa=>(.done a))
def Fe:Nat->Int->Option (BA)
 |0,_=>none
 |n+1,x0=>(Mb n x0).run
abbrev W9 (n:Nat):List (Ent (Rn n)):= [en (QU n)]
theorem LS:∀n,Ok (Rn n) W8 (Fe n)
 |0=>ok0 λ_=>rfl
 |n+1=>stO (T:=Mb n) (by kernel_rfl) (W9 n) [] (λ_=>(by kernel_rfl)) λ_=>(by kernel_rfl)
def Ue:Sg:=⟨183,[(.agg [qI,qI,qS])],[],⟨aS,[],[]⟩⟩
def Fw (n:Nat) (x0 x1:Int) (x2:BA):Tr (BA):=(.ask ((x0==(1:Int))) (.opt (Fe n x1) λa=>(.done a)) (.ask ((x0==(2:Int))) (.ask (decide ((⟨#[39]⟩:BA).size+x2.size<=9223372036854775807)) (.done ((⟨#[39]⟩:BA)++x2)) .fail) (.ask ((x0==(3:Int))) (.ask (decide (2=([[(.s (⟨#[70,65,76,83,69]⟩:BA))],[(.s (⟨#[84,82,85,69]⟩:BA))]]:RW).length/\0<=x1/\x1<((2:Nat):Int))) (.opt (([[(.s (⟨#[70,65,76,83,69]⟩:BA))],[(.s (⟨#[84,82,85,69]⟩:BA))]]:RW)[(x1).toNat]?) λb=>(.opt (zk b 0) λc=>(.done c))) .fail) (.ask ((x0==(4:Int))) (.opt (EW n x1) λd=>(.done d)) (.done (⟨#[]⟩:BA))))))
def Dy:Nat->Int->Int->BA->Option (BA)
 |0,_,_,_=>none
 |n+1,x0,x1,x2=>(Fw n x0 x1 x2).run
abbrev Ug (n:Nat):List (Ent (Rn n)):= [en (LS n),en (J6 n)]
theorem NH:∀n,Ok (Rn n) Ue (Dy n)
 |0=>ok0 λ_=>rfl
 |n+1=>stO (T:=Fw n) (by kernel_rfl) (Ug n) [] (λ_=>(by kernel_rfl)) λ_=>(by kernel_rfl)
def ZL:Sg:=⟨179,[aB],[],⟨(.agg [qI,qI,qS]),[],[]⟩⟩
def Ou (n:Nat) (x0:Bool):Tr (Int×Int×BA):=(.ask (x0) (.done ((3:Int),(1:Int),(⟨#[]⟩:BA))) (.done ((3:Int),(0:Int),(⟨#[]⟩:BA))))
def J7:Nat->Bool->Option (Int×Int×BA)
 |0,_=>none
 |n+1,x0=>(Ou n x0).run
theorem YJ:∀n,Ok (Rn n) ZL (J7 n)
 |0=>ok0 λ_=>rfl
 |n+1=>stO (T:=Ou n) (by kernel_rfl) [] [] (λ_=>(by kernel_rfl)) λ_=>(by kernel_rfl)
def Sa:Sg2:=⟨102,[aS,aI,aI],(.tup [(false,[qI]),(false,[(.p .nif)])]),(.tup [(false,[qI]),(false,[(.p .ifc)])])⟩
def Ez:Nat->BA->Int->Int->Option ((Int)⊕(Int))
 |0,_,_,_=>none
 |n+1,x0,x1,x2=>zX x0 x1 x2
theorem JA:∀n,Ok2 (Rn n) Sa (Ez n)
 |0=>λa r e=>by cases e
 |n+1=>DF bC (by kernel_rfl) (λ_ _=>rfl) λa r e=>by
  rcases r with r|r
  ·exact congrArg (Option.map bI) e
  ·exact congrArg (Option.map bI) e
def YK:Sg:=⟨105,[aI],[],⟨(.agg [qI,qI,qS]),[],[]⟩⟩
def Nr (n:Nat) (x0:Int):Tr (Int×Int×BA):=(.done ((1:Int),x0,(⟨#[]⟩:BA)))
def IE:Nat->Int->Option (Int×Int×BA)
 |0,_=>none
 |n+1,x0=>(Nr n x0).run
theorem QV:∀n,Ok (Rn n) YK (IE n)
 |0=>ok0 λ_=>rfl
 |n+1=>stO (T:=Nr n) (by kernel_rfl) [] [] (λ_=>(by kernel_rfl)) λ_=>(by kernel_rfl)
def Uh:Sg:=⟨107,[aS],[],⟨(.tup [(true,[qI,qI,qS]),(false,[qB])]),[],[]⟩⟩
def FB (n:Nat) (v:BA×Int×Int×Int×BA×Int×Int×BA):Tr ((BA×Int×Int×Int×BA×Int×Int×BA)⊕((BA×Int×Int×BA×Int×Int×BA))):=(.ask ((decide (v.2.1<=(5:Int)))) (.opt (EW n v.2.1) λb=>(.ask ((b.toList==v.1.toList)) (.opt (F6 n v.2.1) λa=>(.done (.inl (v.1,(IntKind.i64.wrap (v.2.1+(1:Int))),v.2.2.1,v.2.2.2.1,v.2.2.2.2.1,a.1,a.2.1,a.2.2)))) (.done (.inl (v.1,(IntKind.i64.wrap (v.2.1+(1:Int))),v.2.2.1,v.2.2.2.1,v.2.2.2.2.1,v.2.2.2.2.2.1,v.2.2.2.2.2.2.1,v.2.2.2.2.2.2.2))))) (.done (.inr ((v.1,v.2.2.1,v.2.2.2.1,v.2.2.2.2.1,v.2.2.2.2.2.1,v.2.2.2.2.2.2.1,v.2.2.2.2.2.2.2)))))
def D6 (n:Nat) (a:(Int×Int×BA)) (x0:BA):Tr (Int×Int×BA×Bool):=(.opt (FC n a.1 a.2.1 a.2.2) λb=>(.ask ((!b)) (.done ((0:Int),(0:Int),(⟨#[]⟩:BA),false)) (.opt (Dy n a.1 a.2.1 a.2.2) λc=>(.ask ((!(c.toList==x0.toList))) (.done ((0:Int),(0:Int),(⟨#[]⟩:BA),false)) (.done (a.1,a.2.1,a.2.2,true))))))
def FP (n:Nat) (x0:BA):Tr (Int×Int×BA×Bool):=(.opt (DY n x0 (⟨#[39]⟩:BA)) λb=>(.ask (b.2) (.opt (FC n (2:Int) (0:Int) b.1) λc=>(.ask ((!c)) (.done ((0:Int),(0:Int),(⟨#[]⟩:BA),false)) (.opt (Dy n (2:Int) (0:Int) b.1) λd=>(.ask ((!(d.toList==x0.toList))) (.done ((0:Int),(0:Int),(⟨#[]⟩:BA),false)) (.done ((2:Int),(0:Int),b.1,true)))))) (.ask ((x0.toList==(⟨#[70,65,76,83,69]⟩:BA).toList)) (.opt (J7 n (x0.toList==(⟨#[84,82,85,69]⟩:BA).toList)) λf=>(D6 n f x0)) (.ask ((x0.toList==(⟨#[84,82,85,69]⟩:BA).toList)) (.opt (J7 n (x0.toList==(⟨#[84,82,85,69]⟩:BA).toList)) λg=>(D6 n g x0)) (.opt (DG n x0 (⟨#[35]⟩:BA)) λh=>(.ask (h) (.opt (zE (FB n) n (x0,(1:Int),(0:Int),(0:Int),(⟨#[]⟩:BA),(0:Int),(0:Int),(⟨#[]⟩:BA))) λa=>(.opt (FC n a.2.2.2.2.1 a.2.2.2.2.2.1 a.2.2.2.2.2.2) λj=>(.ask ((!j)) (.done ((0:Int),(0:Int),(⟨#[]⟩:BA),false)) (.opt (Dy n a.2.2.2.2.1 a.2.2.2.2.2.1 a.2.2.2.2.2.2) λk=>(.ask ((!(k.toList==a.1.toList))) (.done ((0:Int),(0:Int),(⟨#[]⟩:BA),false)) (.done (a.2.2.2.2.1,a.2.2.2.2.2.1,a.2.2.2.2.2.2,true))))))) (.ask ((!(x0.toList==(⟨#[]⟩:BA).toList))) (.opt (Ez n x0 (10:Int) (64:Int)) λl=>(.alt l (λm=>(.opt (IE n m) λo=>(D6 n o x0))) (λp=>(.opt (IE n p) λq=>(D6 n q x0))))) (.opt (FC n (0:Int) (0:Int) (⟨#[]⟩:BA)) λs=>(.ask ((!s)) (.done ((0:Int),(0:Int),(⟨#[]⟩:BA),false)) (.opt (Dy n (0:Int) (0:Int) (⟨#[]⟩:BA)) λt=>(.ask ((!(t.toList==x0.toList))) (.done ((0:Int),(0:Int),(⟨#[]⟩:BA),false)) (.done ((0:Int),(0:Int),(⟨#[]⟩:BA),true)))))))))))))
def DW:Nat->BA->Option (Int×Int×BA×Bool)
 |0,_=>none
 |n+1,x0=>(FP n x0).run
abbrev OK (n:Nat):List (Ent (Rn n)):= [en (GB n),en (LR n),en (NH n),en (YJ n),en (HJ n),en (J6 n),en (Rz n),en2 (JA n),en (QV n)]
def P0 (n:Nat):LEnt (KB 107) (Rn n) n:=lok (zU 107) 3837 ⟨⟨[(0,aS),(2,(.c (.ptr 0 128 0 0 0))),(4,(.c (.ptr 0 256 0 0 0))),(7,aI)],bh,[]⟩,[(.exit 1,⟨[(0,aS),(2,(.c (.ptr 0 128 0 0 0))),(4,(.c (.ptr 0 256 0 0 0)))],bh,[]⟩)]⟩ (FB n) (OK n) [] λ_=>(by kernel_rfl)
theorem NI:∀n,Ok (Rn n) Uh (DW n)
 |0=>ok0 λ_=>rfl
 |n+1=>stO (T:=FP n) (by kernel_rfl) (OK n) [P0 n] (λ_=>(by kernel_rfl)) λ_=>(by kernel_rfl)
def XA:Sg:=⟨255,[aI],[],⟨aS,[],[]⟩⟩
def Ic (n:Nat) (x0:Int):Tr (BA):=(.opt (D5 n x0 (1:Int) (52:Int)) λa=>(.ask ((!a)) (.done (⟨#[]⟩:BA)) (.ask ((decide (x0<=(26:Int)))) (.ask (decide (1=([[(.i .u8 (IntKind.u8.wrap (IntKind.i64.wrap ((IntKind.i64.wrap ((65:Int)+x0))-(1:Int)))))]]:RW).length)) (.opt (bytesOf ([[(.i .u8 (IntKind.u8.wrap (IntKind.i64.wrap ((IntKind.i64.wrap ((65:Int)+x0))-(1:Int)))))]]:RW)) λb=>(.done (⟨b.toArray⟩:BA))) .fail) (.ask (decide (2=([[(.i .u8 (IntKind.u8.wrap (IntKind.i64.wrap ((IntKind.i64.wrap ((65:Int)+(IntKind.i64.wrap (Int.tdiv (IntKind.i64.wrap (x0-(1:Int))) (26:Int)))))-(1:Int)))))],[(.i .u8 (IntKind.u8.wrap (IntKind.i64.wrap ((65:Int)+(Int.tmod (IntKind.i64.wrap (x0-(1:Int))) (26:Int))))))]]:RW).length)) (.opt (bytesOf ([[(.i .u8 (IntKind.u8.wrap (IntKind.i64.wrap ((IntKind.i64.wrap ((65:Int)+(IntKind.i64.wrap (Int.tdiv (IntKind.i64.wrap (x0-(1:Int))) (26:Int)))))-(1:Int)))))],[(.i .u8 (IntKind.u8.wrap (IntKind.i64.wrap ((65:Int)+(Int.tmod (IntKind.i64.wrap (x0-(1:Int))) (26:Int))))))]]:RW)) λc=>(.done (⟨c.toArray⟩:BA))) .fail))))
def GC:Nat->Int->Option (BA)
 |0,_=>none
 |n+1,x0=>(Ic n x0).run
abbrev XB (n:Nat):List (Ent (Rn n)):= [en (Hh n)]
theorem Pf:∀n,Ok (Rn n) XA (GC n)
 |0=>ok0 λ_=>rfl
 |n+1=>stO (T:=Ic n) (by kernel_rfl) (XB n) [] (λ_=>(by kernel_rfl)) λ_=>(by kernel_rfl)
def XC:Sg:=⟨209,[aS],[],⟨aI,[],[]⟩⟩
def HK (n:Nat) (v:BA×Int):Tr ((BA×Int)⊕((Int)⊕(Unit))):=(.ask ((decide (v.2<=(52:Int)))) (.opt (GC n v.2) λa=>(.ask ((a.toList==v.1.toList)) (.done (.inr (.inl (v.2)))) (.done (.inl (v.1,(IntKind.i64.wrap (v.2+(1:Int)))))))) (.done (.inr (.inr (())))))
def Mc (n:Nat) (x0:BA):Tr (Int):=(.opt (zE (HK n) n (x0,(1:Int))) λa=>(.alt a (λb=>(.done b)) (λc=>(.done (0:Int)))))
def J8:Nat->BA->Option (Int)
 |0,_=>none
 |n+1,x0=>(Mc n x0).run
abbrev QW (n:Nat):List (Ent (Rn n)):= [en (Pf n)]
def TU (n:Nat):LEnt (KB 209) (Rn n) n:=lok (zU 209) 13 ⟨⟨[(0,aS),(3,aI)],[],[]⟩,[(.ret,⟨[(2,aI)],[],[]⟩),(.exit 0,⟨[],[],[]⟩)]⟩ (HK n) (QW n) [] λ_=>(by kernel_rfl)
theorem V2:∀n,Ok (Rn n) XC (J8 n)
 |0=>ok0 λ_=>rfl
 |n+1=>stO (T:=Mc n) (by kernel_rfl) (QW n) [TU n] (λ_=>(by kernel_rfl)) λ_=>(by kernel_rfl)
def Ui:Sg:=⟨205,[(.agg [qI,qI,qB,qB])],[],⟨aS,[],[]⟩⟩
def Iu (n:Nat) (x0 x1:Int) (x2 x3:Bool):Tr (BA):=(.opt (Ge n x0 x1) λh=>(.ask ((!h)) (.done (⟨#[]⟩:BA)) (.ask (x2) (.opt (GC n x0) λa=>(.ask (decide ((⟨#[36]⟩:BA).size+a.size<=9223372036854775807)) (.ask (x3) (.ask (decide (((⟨#[36]⟩:BA)++a).size+(⟨#[36]⟩:BA).size<=9223372036854775807)) (.opt (Fe n x1) λc=>(.ask (decide ((((⟨#[36]⟩:BA)++a)++(⟨#[36]⟩:BA)).size+c.size<=9223372036854775807)) (.done ((((⟨#[36]⟩:BA)++a)++(⟨#[36]⟩:BA))++c)) .fail)) .fail) (.opt (Fe n x1) λd=>(.ask (decide (((⟨#[36]⟩:BA)++a).size+d.size<=9223372036854775807)) (.done (((⟨#[36]⟩:BA)++a)++d)) .fail))) .fail)) (.opt (GC n x0) λb=>(.ask (decide ((⟨#[]⟩:BA).size+b.size<=9223372036854775807)) (.ask (x3) (.ask (decide (((⟨#[]⟩:BA)++b).size+(⟨#[36]⟩:BA).size<=9223372036854775807)) (.opt (Fe n x1) λf=>(.ask (decide ((((⟨#[]⟩:BA)++b)++(⟨#[36]⟩:BA)).size+f.size<=9223372036854775807)) (.done ((((⟨#[]⟩:BA)++b)++(⟨#[36]⟩:BA))++f)) .fail)) .fail) (.opt (Fe n x1) λg=>(.ask (decide (((⟨#[]⟩:BA)++b).size+g.size<=9223372036854775807)) (.done (((⟨#[]⟩:BA)++b)++g)) .fail))) .fail)))))
def FQ:Nat->Int->Int->Bool->Bool->Option (BA)
 |0,_,_,_,_=>none
 |n+1,x0,x1,x2,x3=>(Iu n x0 x1 x2 x3).run
abbrev Uj (n:Nat):List (Ent (Rn n)):= [en (Kx n),en (Pf n),en (LS n)]
theorem NJ:∀n,Ok (Rn n) Ui (FQ n)
 |0=>ok0 λ_=>rfl
 |n+1=>stO (T:=Iu n) (by kernel_rfl) (Uj n) [] (λ_=>(by kernel_rfl)) λ_=>(by kernel_rfl)
def Uk:Sg:=⟨139,[aS],[],⟨(.tup [(true,[qI,qI,qB,qB]),(false,[qB])]),[],[]⟩⟩
def JB (n:Nat) (a b:(Int)) (c:((BA×Bool))) (d:((BA×Bool))) (x0:BA):Tr (Int×Int×Bool×Bool×Bool):=(.opt (Ge n a b) λf=>(.ask ((!f)) (.done ((0:Int),(0:Int),false,false,false)) (.opt (FQ n a b c.2 d.2) λg=>(.ask ((!(g.toList==x0.toList))) (.done ((0:Int),(0:Int),false,false,false)) (.done (a,b,c.2,d.2,true))))))
def Kf (n:Nat) (x0:BA):Tr (Int×Int×Bool×Bool×Bool):=(.opt (DY n x0 (⟨#[36]⟩:BA)) λa=>(.opt (FJ n a.1 (⟨#[65,66,67,68,69,70,71,72,73,74,75,76,77,78,79,80,81,82,83,84,85,86,87,88,89,90]⟩:BA)) λb=>(.ask (decide (0<=(0:Int)/\(0:Int)<=(IntKind.i64.wrap ((a.1.size:Int)-(b.size:Int)))/\(IntKind.i64.wrap ((a.1.size:Int)-(b.size:Int)))<=a.1.size)) (.opt (J8 n (a.1.extract ((0:Int)).toNat ((IntKind.i64.wrap ((a.1.size:Int)-(b.size:Int)))).toNat)) λd=>(.ask (decide (0<=(IntKind.i64.wrap ((a.1.size:Int)-(b.size:Int)))/\(IntKind.i64.wrap ((a.1.size:Int)-(b.size:Int)))<=(a.1.size:Int)/\(a.1.size:Int)<=a.1.size)) (.opt (DY n (a.1.extract ((IntKind.i64.wrap ((a.1.size:Int)-(b.size:Int)))).toNat ((a.1.size:Int)).toNat) (⟨#[36]⟩:BA)) λc=>(.opt (Ez n c.1 (10:Int) (64:Int)) λf=>(.alt f (λg=>(JB n d g a c x0)) (λh=>(JB n d h a c x0))))) .fail)) .fail)))
def EX:Nat->BA->Option (Int×Int×Bool×Bool×Bool)
 |0,_=>none
 |n+1,x0=>(Kf n x0).run
abbrev Ul (n:Nat):List (Ent (Rn n)):= [en (GB n),en (I8 n),en (V2 n),en2 (JA n),en (Kx n),en (NJ n)]
theorem NK:∀n,Ok (Rn n) Uk (EX n)
 |0=>ok0 λ_=>rfl
 |n+1=>stO (T:=Kf n) (by kernel_rfl) (Ul n) [] (λ_=>(by kernel_rfl)) λ_=>(by kernel_rfl)
def YL:Sg:=⟨283,[aI],[],⟨aS,[],[]⟩⟩
def Ns (n:Nat) (x0:Int):Tr (BA):=(.ask (decide (11=([[(.s (⟨#[]⟩:BA))],[(.s (⟨#[83,85,77]⟩:BA))],[(.s (⟨#[77,73,78]⟩:BA))],[(.s (⟨#[77,65,88]⟩:BA))],[(.s (⟨#[67,79,85,78,84]⟩:BA))],[(.s (⟨#[73,70]⟩:BA))],[(.s (⟨#[65,78,68]⟩:BA))],[(.s (⟨#[79,82]⟩:BA))],[(.s (⟨#[78,79,84]⟩:BA))],[(.s (⟨#[65,66,83]⟩:BA))],[(.s (⟨#[76,69,78]⟩:BA))]]:RW).length/\0<=x0/\x0<((11:Nat):Int))) (.opt (([[(.s (⟨#[]⟩:BA))],[(.s (⟨#[83,85,77]⟩:BA))],[(.s (⟨#[77,73,78]⟩:BA))],[(.s (⟨#[77,65,88]⟩:BA))],[(.s (⟨#[67,79,85,78,84]⟩:BA))],[(.s (⟨#[73,70]⟩:BA))],[(.s (⟨#[65,78,68]⟩:BA))],[(.s (⟨#[79,82]⟩:BA))],[(.s (⟨#[78,79,84]⟩:BA))],[(.s (⟨#[65,66,83]⟩:BA))],[(.s (⟨#[76,69,78]⟩:BA))]]:RW)[(x0).toNat]?) λa=>(.opt (zk a 0) λb=>(.done b))) .fail)
def Gi:Nat->Int->Option (BA)
 |0,_=>none
 |n+1,x0=>(Ns n x0).run
theorem QX:∀n,Ok (Rn n) YL (Gi n)
 |0=>ok0 λ_=>rfl
 |n+1=>stO (T:=Ns n) (by kernel_rfl) [] [] (λ_=>(by kernel_rfl)) λ_=>(by kernel_rfl)
def Ov:Sg:=⟨338,[(.c (.ptr 0 0 0 0 0))],[FI],⟨(.tup [(true,[qI,qI,qI,qI,qS,qI,qI,qB,qB,qI,qI,qB,qB,qL]),(false,[qB])]),[FI],[]⟩⟩
def J9 (n:Nat) (x0:BA) (x1:Nat) (x2:Bool) (x3:RW):Tr (Int×Int×Int×Int×BA×Int×Int×Bool×Bool×Int×Int×Bool×Bool×RW×Bool×BA×Nat×Bool×RW):=(.opt (FK n x0 x1 x2 x3) λc=>(.opt (EX n c.1) λa=>(.ask (a.2.2.2.2) (.opt (DO n (⟨#[58]⟩:BA) c.2.1 c.2.2.1 c.2.2.2.1 c.2.2.2.2) λd=>(.ask ((!d.1)) (.done ((0:Int),(0:Int),(0:Int),(0:Int),(⟨#[]⟩:BA),(0:Int),(0:Int),false,false,(0:Int),(0:Int),false,false,([]:RW),false,x0,d.2.2.1,d.2.2.2.1,d.2.2.2.2)) (.opt (FK n d.2.1 d.2.2.1 d.2.2.2.1 d.2.2.2.2) λf=>(.opt (EX n f.1) λb=>(.ask (f.2.2.2.1) (.done ((3:Int),(0:Int),(0:Int),(0:Int),(⟨#[]⟩:BA),a.1,a.2.1,a.2.2.1,a.2.2.2.1,b.1,b.2.1,b.2.2.1,b.2.2.2.1,([]:RW),true,f.2.1,f.2.2.1,true,f.2.2.2.2)) (.done ((3:Int),(0:Int),(0:Int),(0:Int),(⟨#[]⟩:BA),a.1,a.2.1,a.2.2.1,a.2.2.2.1,b.1,b.2.1,b.2.2.1,b.2.2.2.1,([]:RW),true,f.2.1,f.2.2.1,(!b.2.2.2.2),f.2.2.2.2))))))) (.done ((0:Int),(0:Int),(0:Int),(0:Int),(⟨#[]⟩:BA),(0:Int),(0:Int),false,false,(0:Int),(0:Int),false,false,([]:RW),false,x0,c.2.2.1,c.2.2.2.1,c.2.2.2.2)))))
def Hu:Nat->BA->Nat->Bool->RW->Option (Int×Int×Int×Int×BA×Int×Int×Bool×Bool×Int×Int×Bool×Bool×RW×Bool×BA×Nat×Bool×RW)
 |0,_,_,_,_=>none
 |n+1,x0,x1,x2,x3=>(J9 n x0 x1 x2 x3).run
abbrev Ow (n:Nat):List (Ent (Rn n)):= [en (Lr n),en (NK n),en (GZ n)]
theorem OL:∀n,Ok (Rn n) Ov (Hu n)
 |0=>ok0 λ_=>rfl
 |n+1=>stO (T:=J9 n) (by kernel_rfl) (Ow n) [] (λ_=>(by kernel_rfl)) λ_=>(by kernel_rfl)
def YM:Sg:=⟨228,[aI],[],⟨aS,[],[]⟩⟩
def Nt (n:Nat) (x0:Int):Tr (BA):=(.ask (decide (12=([[(.s (⟨#[]⟩:BA))],[(.s (⟨#[43]⟩:BA))],[(.s (⟨#[45]⟩:BA))],[(.s (⟨#[42]⟩:BA))],[(.s (⟨#[47]⟩:BA))],[(.s (⟨#[38]⟩:BA))],[(.s (⟨#[61]⟩:BA))],[(.s (⟨#[60,62]⟩:BA))],[(.s (⟨#[60]⟩:BA))],[(.s (⟨#[60,61]⟩:BA))],[(.s (⟨#[62]⟩:BA))],[(.s (⟨#[62,61]⟩:BA))]]:RW).length/\0<=x0/\x0<((12:Nat):Int))) (.opt (([[(.s (⟨#[]⟩:BA))],[(.s (⟨#[43]⟩:BA))],[(.s (⟨#[45]⟩:BA))],[(.s (⟨#[42]⟩:BA))],[(.s (⟨#[47]⟩:BA))],[(.s (⟨#[38]⟩:BA))],[(.s (⟨#[61]⟩:BA))],[(.s (⟨#[60,62]⟩:BA))],[(.s (⟨#[60]⟩:BA))],[(.s (⟨#[60,61]⟩:BA))],[(.s (⟨#[62]⟩:BA))],[(.s (⟨#[62,61]⟩:BA))]]:RW)[(x0).toNat]?) λa=>(.opt (zk a 0) λb=>(.done b))) .fail)
def FW:Nat->Int->Option (BA)
 |0,_=>none
 |n+1,x0=>(Nt n x0).run
theorem QY:∀n,Ok (Rn n) YM (FW n)
 |0=>ok0 λ_=>rfl
 |n+1=>stO (T:=Nt n) (by kernel_rfl) [] [] (λ_=>(by kernel_rfl)) λ_=>(by kernel_rfl)
def ZM:Sg:=⟨229,[aI],[],⟨aI,[],[]⟩⟩
def Ox (n:Nat) (x0:Int):Tr (Int):=(.ask ((x0==(3:Int))) (.done (4:Int)) (.ask ((x0==(4:Int))) (.done (4:Int)) (.ask ((x0==(1:Int))) (.done (3:Int)) (.ask ((x0==(2:Int))) (.done (3:Int)) (.ask ((x0==(5:Int))) (.done (2:Int)) (.done (1:Int)))))))
def Iw:Nat->Int->Option (Int)
 |0,_=>none
 |n+1,x0=>(Ox n x0).run
theorem R3:∀n,Ok (Rn n) ZM (Iw n)
 |0=>ok0 λ_=>rfl
 |n+1=>stO (T:=Ox n) (by kernel_rfl) [] [] (λ_=>(by kernel_rfl)) λ_=>(by kernel_rfl)
def K5:Sg:=⟨170,[(.c (.ptr 0 0 0 0 0)),aI,aI],[FI],⟨aI,[FI],[]⟩⟩
def Rf:Sg:=⟨226,[(.c (.ptr 0 0 0 0 0)),aI],[FI],⟨aI,[FI],[]⟩⟩
def Sb:Sg:=⟨280,[(.c (.ptr 0 0 0 0 0)),aI],[FI],⟨aI,[FI],[]⟩⟩
def Sc:Sg:=⟨316,[(.c (.ptr 0 0 0 0 0)),aI,aI],[FI],⟨aI,[FI],[]⟩⟩
structure G_impl_reader_binary where
 impl_reader_binary:Int->Int->BA->Nat->Bool->RW->Option (Int×BA×Nat×Bool×RW)
 impl_reader_unary:Int->BA->Nat->Bool->RW->Option (Int×BA×Nat×Bool×RW)
 impl_reader_atom:Int->BA->Nat->Bool->RW->Option (Int×BA×Nat×Bool×RW)
 impl_reader_call:Int->Int->BA->Nat->Bool->RW->Option (Int×BA×Nat×Bool×RW)
def FD (n:Nat) (v:Int×Int×Int×Int×Int×BA×Nat×Bool×RW):Tr ((Int×Int×Int×Int×Int×BA×Nat×Bool×RW)⊕((Int×Int×Int×Int×BA×Nat×Bool×RW))):=(.ask ((decide (v.2.2.2.2.1<=(11:Int)))) (.opt (Fv n v.2.2.2.2.2.1 v.2.2.2.2.2.2.1 v.2.2.2.2.2.2.2.1 v.2.2.2.2.2.2.2.2) λa=>(.opt (FW n v.2.2.2.2.1) λb=>(.ask ((a.1.toList==b.toList)) (.done (.inl (v.1,v.2.1,v.2.2.1,v.2.2.2.2.1,(IntKind.i64.wrap (v.2.2.2.2.1+(1:Int))),a.2.1,a.2.2.1,a.2.2.2.1,a.2.2.2.2))) (.done (.inl (v.1,v.2.1,v.2.2.1,v.2.2.2.1,(IntKind.i64.wrap (v.2.2.2.2.1+(1:Int))),a.2.1,a.2.2.1,a.2.2.2.1,a.2.2.2.2)))))) (.done (.inr ((v.1,v.2.1,v.2.2.1,v.2.2.2.1,v.2.2.2.2.2.1,v.2.2.2.2.2.2.1,v.2.2.2.2.2.2.2.1,v.2.2.2.2.2.2.2.2)))))
def Hj (rec:G_impl_reader_binary) (n:Nat) (v:Int×Int×Int×BA×Nat×Bool×RW):Tr ((Int×Int×Int×BA×Nat×Bool×RW)⊕((Int×BA×Nat×Bool×RW))):=(.ask ((!v.2.2.2.2.2.1)) (.opt (zE (FD n) n (v.1,v.2.1,v.2.2.1,(0:Int),(1:Int),v.2.2.2.1,v.2.2.2.2.1,v.2.2.2.2.2.1,v.2.2.2.2.2.2)) λa=>(.ask ((a.2.2.2.1==(0:Int))) (.done (.inr ((a.2.2.1,a.2.2.2.2.1,a.2.2.2.2.2.1,a.2.2.2.2.2.2.1,a.2.2.2.2.2.2.2)))) (.opt (Iw n a.2.2.2.1) λf=>(.ask ((decide (f<a.1))) (.done (.inr ((a.2.2.1,a.2.2.2.2.1,a.2.2.2.2.2.1,a.2.2.2.2.2.2.1,a.2.2.2.2.2.2.2)))) (.opt (FW n a.2.2.2.1) λg=>(.opt (DO n g a.2.2.2.2.1 a.2.2.2.2.2.1 a.2.2.2.2.2.2.1 a.2.2.2.2.2.2.2) λd=>(.opt (Iw n a.2.2.2.1) λh=>(.opt (rec.impl_reader_binary (IntKind.i64.wrap (h+(1:Int))) a.2.1 d.2.1 d.2.2.1 d.2.2.2.1 d.2.2.2.2) λb=>(.ask (decide (2=([[(.i .i64 a.2.2.1)],[(.i .i64 b.1)]]:RW).length)) (.opt (EB n (5:Int) a.2.2.2.1 (0:Int) (0:Int) (⟨#[]⟩:BA) (0:Int) (0:Int) false false (0:Int) (0:Int) false false ([[(.i .i64 a.2.2.1)],[(.i .i64 b.1)]]:RW) b.2.1 b.2.2.1 b.2.2.2.1 b.2.2.2.2) λc=>(.done (.inl (a.1,a.2.1,c.1,c.2.1,c.2.2.1,c.2.2.2.1,c.2.2.2.2)))) .fail))))))))) (.done (.inr ((v.2.2.1,v.2.2.2.1,v.2.2.2.2.1,v.2.2.2.2.2.1,v.2.2.2.2.2.2)))))
def K6 (rec:G_impl_reader_binary) (n:Nat) (x0 x1:Int) (x2:BA) (x3:Nat) (x4:Bool) (x5:RW):Tr (Int×BA×Nat×Bool×RW):=(.opt (rec.impl_reader_unary x1 x2 x3 x4 x5) λa=>(.opt (zE (Hj rec n) n (x0,x1,a.1,a.2.1,a.2.2.1,a.2.2.2.1,a.2.2.2.2)) λb=>(.done (b.1,b.2.1,b.2.2.1,b.2.2.2.1,b.2.2.2.2))))
def Lt (rec:G_impl_reader_binary) (n:Nat) (x0:Int) (x1:BA) (x2:Nat) (x3:Bool) (x4:RW):Tr (Int×BA×Nat×Bool×RW):=(.ask ((decide (x0>(400:Int)))) (.ask (true) (.done ((-1:Int),x1,x2,true,x4)) (.opt (DO n (⟨#[45]⟩:BA) x1 x2 true x4) λa=>(.ask (a.1) (.opt (rec.impl_reader_unary (IntKind.i64.wrap (x0+(1:Int))) a.2.1 a.2.2.1 a.2.2.2.1 a.2.2.2.2) λc=>(.ask (decide (1=([[(.i .i64 c.1)]]:RW).length)) (.opt (EB n (4:Int) (0:Int) (0:Int) (0:Int) (⟨#[]⟩:BA) (0:Int) (0:Int) false false (0:Int) (0:Int) false false ([[(.i .i64 c.1)]]:RW) c.2.1 c.2.2.1 c.2.2.2.1 c.2.2.2.2) λf=>(.done (f.1,f.2.1,f.2.2.1,f.2.2.2.1,f.2.2.2.2))) .fail)) (.opt (rec.impl_reader_atom x0 a.2.1 a.2.2.1 a.2.2.2.1 a.2.2.2.2) λg=>(.done (g.1,g.2.1,g.2.2.1,g.2.2.2.1,g.2.2.2.2)))))) (.ask (x3) (.done ((-1:Int),x1,x2,x3,x4)) (.opt (DO n (⟨#[45]⟩:BA) x1 x2 x3 x4) λb=>(.ask (b.1) (.opt (rec.impl_reader_unary (IntKind.i64.wrap (x0+(1:Int))) b.2.1 b.2.2.1 b.2.2.2.1 b.2.2.2.2) λd=>(.ask (decide (1=([[(.i .i64 d.1)]]:RW).length)) (.opt (EB n (4:Int) (0:Int) (0:Int) (0:Int) (⟨#[]⟩:BA) (0:Int) (0:Int) false false (0:Int) (0:Int) false false ([[(.i .i64 d.1)]]:RW) d.2.1 d.2.2.1 d.2.2.2.1 d.2.2.2.2) λh=>(.done (h.1,h.2.1,h.2.2.1,h.2.2.2.1,h.2.2.2.2))) .fail)) (.opt (rec.impl_reader_atom x0 b.2.1 b.2.2.1 b.2.2.2.1 b.2.2.2.2) λj=>(.done (j.1,j.2.1,j.2.2.1,j.2.2.2.1,j.2.2.2.2)))))))
def Gf (n:Nat) (v:Int×Int×BA×Nat×Bool×RW):Tr ((Int×Int×BA×Nat×Bool×RW)⊕((Int×BA×Nat×Bool×RW)⊕(Int×BA×Nat×Bool×RW))):=(.ask ((decide (v.2.1<=(5:Int)))) (.opt (EW n v.2.1) λd=>(.opt (DY n v.2.2.1 d) λc=>(.ask (c.2) (.opt (F6 n v.2.1) λb=>(.opt (Dv n b.1 b.2.1 b.2.2 c.1 v.2.2.2.1 v.2.2.2.2.1 v.2.2.2.2.2) λa=>(.done (.inr (.inl ((a.1,a.2.1,a.2.2.1,a.2.2.2.1,a.2.2.2.2))))))) (.done (.inl (v.1,(IntKind.i64.wrap (v.2.1+(1:Int))),v.2.2.1,v.2.2.2.1,v.2.2.2.2.1,v.2.2.2.2.2)))))) (.done (.inr (.inr ((v.1,v.2.2.1,v.2.2.2.1,v.2.2.2.2.1,v.2.2.2.2.2))))))
def Eb (rec:G_impl_reader_binary) (n:Nat) (v:Int×BA×Int×BA×Nat×Bool×RW):Tr ((Int×BA×Int×BA×Nat×Bool×RW)⊕((Int×BA×Nat×Bool×RW)⊕(BA×Nat×Bool×RW))):=(.ask ((decide (v.2.2.1<=(10:Int)))) (.opt (Gi n v.2.2.1) λb=>(.ask ((v.2.1.toList==b.toList)) (.opt (rec.impl_reader_call v.2.2.1 v.1 v.2.2.2.1 v.2.2.2.2.1 v.2.2.2.2.2.1 v.2.2.2.2.2.2) λa=>(.done (.inr (.inl ((a.1,a.2.1,a.2.2.1,a.2.2.2.1,a.2.2.2.2)))))) (.done (.inl (v.1,v.2.1,(IntKind.i64.wrap (v.2.2.1+(1:Int))),v.2.2.2.1,v.2.2.2.2.1,v.2.2.2.2.2.1,v.2.2.2.2.2.2))))) (.done (.inr (.inr ((v.2.2.2.1,v.2.2.2.2.1,v.2.2.2.2.2.1,v.2.2.2.2.2.2))))))
def Gw (n:Nat) (b:(Int×Int×Bool×Bool×Bool)) (c:(BA×BA×Nat×Bool×RW)):Tr (Int×BA×Nat×Bool×RW):=(.opt (EB n (2:Int) (0:Int) (0:Int) (0:Int) (⟨#[]⟩:BA) b.1 b.2.1 b.2.2.1 b.2.2.2.1 (0:Int) (0:Int) false false ([]:RW) c.2.1 c.2.2.1 c.2.2.2.1 c.2.2.2.2) λa=>(.done (a.1,a.2.1,a.2.2.1,a.2.2.2.1,a.2.2.2.2)))
def Gx (n:Nat) (c:(Int×Int×BA×Bool)) (b:(BA×BA×Nat×Bool×RW)):Tr (Int×BA×Nat×Bool×RW):=(.opt (Dv n c.1 c.2.1 c.2.2.1 b.2.1 b.2.2.1 b.2.2.2.1 b.2.2.2.2) λa=>(.done (a.1,a.2.1,a.2.2.1,a.2.2.2.1,a.2.2.2.2)))
def Gy (n:Nat) (c:((Int×BA×Nat×Bool×RW)⊕(BA×Nat×Bool×RW))):Tr (Int×BA×Nat×Bool×RW):=(.alt c (λa=>(.done (a.1,a.2.1,a.2.2.1,a.2.2.2.1,a.2.2.2.2))) (λb=>(.done ((-1:Int),b.1,b.2.1,true,b.2.2.2))))
def Md (rec:G_impl_reader_binary) (n:Nat) (x0:Int) (x1:BA) (x2:Nat) (x3:Bool) (x4:RW):Tr (Int×BA×Nat×Bool×RW):=(.opt (Ey n x1 x2 x3 x4) λc=>(.opt (DG n c.1 (⟨#[34]⟩:BA)) λt=>(.ask (t) (.opt (Ib n c.1 c.2.1 c.2.2.1 c.2.2.2) λh=>(.done (h.1,h.2.1,h.2.2.1,h.2.2.2.1,h.2.2.2.2))) (.opt (DG n c.1 (⟨#[35]⟩:BA)) λu=>(.ask (u) (.opt (zE (Gf n) n (x0,(1:Int),c.1,c.2.1,c.2.2.1,c.2.2.2)) λw=>(.alt w (λj=>(.done (j.1,j.2.1,j.2.2.1,j.2.2.2.1,j.2.2.2.2))) (λg=>(.opt (FK n g.2.1 g.2.2.1 g.2.2.2.1 g.2.2.2.2) λa=>(.opt (DW n a.1) λk=>(.ask (k.2.2.2) (.ask ((k.1==(1:Int))) (Gx n k a) (.ask ((k.1==(3:Int))) (Gx n k a) (.opt (EX n a.1) λo=>(.ask (o.2.2.2.2) (Gw n o a) (.opt (zE (Eb rec n) n (g.1,a.1,(1:Int),a.2.1,a.2.2.1,a.2.2.2.1,a.2.2.2.2)) λz=>(Gy n z)))))) (.opt (EX n a.1) λp=>(.ask (p.2.2.2.2) (Gw n p a) (.opt (zE (Eb rec n) n (g.1,a.1,(1:Int),a.2.1,a.2.2.1,a.2.2.2.1,a.2.2.2.2)) λa0=>(Gy n a0)))))))))) (.opt (DO n (⟨#[40]⟩:BA) c.1 c.2.1 c.2.2.1 c.2.2.2) λf=>(.ask (f.1) (.opt (rec.impl_reader_binary (1:Int) (IntKind.i64.wrap (x0+(1:Int))) f.2.1 f.2.2.1 f.2.2.2.1 f.2.2.2.2) λd=>(.ask (d.2.2.2.1) (.done (d.1,d.2.1,d.2.2.1,true,d.2.2.2.2)) (.opt (DO n (⟨#[41]⟩:BA) d.2.1 d.2.2.1 d.2.2.2.1 d.2.2.2.2) λm=>(.done (d.1,m.2.1,m.2.2.1,(!m.1),m.2.2.2.2))))) (.opt (FK n f.2.1 f.2.2.1 f.2.2.2.1 f.2.2.2.2) λb=>(.opt (DW n b.1) λl=>(.ask (l.2.2.2) (.ask ((l.1==(1:Int))) (Gx n l b) (.ask ((l.1==(3:Int))) (Gx n l b) (.opt (EX n b.1) λq=>(.ask (q.2.2.2.2) (Gw n q b) (.opt (zE (Eb rec n) n (x0,b.1,(1:Int),b.2.1,b.2.2.1,b.2.2.2.1,b.2.2.2.2)) λa1=>(Gy n a1)))))) (.opt (EX n b.1) λs=>(.ask (s.2.2.2.2) (Gw n s b) (.opt (zE (Eb rec n) n (x0,b.1,(1:Int),b.2.1,b.2.2.1,b.2.2.2.1,b.2.2.2.2)) λa2=>(Gy n a2))))))))))))))
def Gz (rec:G_impl_reader_binary) (n:Nat) (v:Int×Int×Nat×RW×BA×Nat×Bool×RW):Tr ((Int×Int×Nat×RW×BA×Nat×Bool×RW)⊕((Int×Nat×RW×BA×Nat×Bool×RW))):=(.ask ((!v.2.2.2.2.2.2.1)) (.opt (Hu n v.2.2.2.2.1 v.2.2.2.2.2.1 v.2.2.2.2.2.2.1 v.2.2.2.2.2.2.2) λa=>(.ask (a.2.2.2.2.2.2.2.2.2.2.2.2.2.2.1) (.opt (EB n a.1 a.2.1 a.2.2.1 a.2.2.2.1 a.2.2.2.2.1 a.2.2.2.2.2.1 a.2.2.2.2.2.2.1 a.2.2.2.2.2.2.2.1 a.2.2.2.2.2.2.2.2.1 a.2.2.2.2.2.2.2.2.2.1 a.2.2.2.2.2.2.2.2.2.2.1 a.2.2.2.2.2.2.2.2.2.2.2.1 a.2.2.2.2.2.2.2.2.2.2.2.2.1 a.2.2.2.2.2.2.2.2.2.2.2.2.2.1 a.2.2.2.2.2.2.2.2.2.2.2.2.2.2.2.1 a.2.2.2.2.2.2.2.2.2.2.2.2.2.2.2.2.1 a.2.2.2.2.2.2.2.2.2.2.2.2.2.2.2.2.2.1 a.2.2.2.2.2.2.2.2.2.2.2.2.2.2.2.2.2.2) λd=>(.ask (decide (1=([[(.i .i64 d.1)]]:RW).length)) (.ask (decide (v.2.2.1=v.2.2.2.1.length/\0<1/\0<8/\(v.2.2.1+([[(.i .i64 d.1)]]:RW).length)*8<=140737488355328/\([[(.i .i64 d.1)]]:RW).all (λe=>e.length==1)=true)) (.opt (DO n (⟨#[44]⟩:BA) d.2.1 d.2.2.1 d.2.2.2.1 d.2.2.2.2) λb=>(.ask ((!b.1)) (.ask (b.2.2.2.1) (.done (.inr ((v.1,(v.2.2.1+1),(v.2.2.2.1++([[(.i .i64 d.1)]]:RW)),b.2.1,b.2.2.1,true,b.2.2.2.2)))) (.opt (DO n (⟨#[41]⟩:BA) b.2.1 b.2.2.1 b.2.2.2.1 b.2.2.2.2) λg=>(.done (.inr ((v.1,(v.2.2.1+1),(v.2.2.2.1++([[(.i .i64 d.1)]]:RW)),g.2.1,g.2.2.1,(!g.1),g.2.2.2.2)))))) (.done (.inl (v.1,v.2.1,(v.2.2.1+1),(v.2.2.2.1++([[(.i .i64 d.1)]]:RW)),b.2.1,b.2.2.1,b.2.2.2.1,b.2.2.2.2))))) .fail) .fail)) (.opt (rec.impl_reader_binary (1:Int) (IntKind.i64.wrap (v.2.1+(1:Int))) a.2.2.2.2.2.2.2.2.2.2.2.2.2.2.2.1 a.2.2.2.2.2.2.2.2.2.2.2.2.2.2.2.2.1 a.2.2.2.2.2.2.2.2.2.2.2.2.2.2.2.2.2.1 a.2.2.2.2.2.2.2.2.2.2.2.2.2.2.2.2.2.2) λf=>(.ask (decide (1=([[(.i .i64 f.1)]]:RW).length)) (.ask (decide (v.2.2.1=v.2.2.2.1.length/\0<1/\0<8/\(v.2.2.1+([[(.i .i64 f.1)]]:RW).length)*8<=140737488355328/\([[(.i .i64 f.1)]]:RW).all (λe=>e.length==1)=true)) (.opt (DO n (⟨#[44]⟩:BA) f.2.1 f.2.2.1 f.2.2.2.1 f.2.2.2.2) λc=>(.ask ((!c.1)) (.ask (c.2.2.2.1) (.done (.inr ((v.1,(v.2.2.1+1),(v.2.2.2.1++([[(.i .i64 f.1)]]:RW)),c.2.1,c.2.2.1,true,c.2.2.2.2)))) (.opt (DO n (⟨#[41]⟩:BA) c.2.1 c.2.2.1 c.2.2.2.1 c.2.2.2.2) λh=>(.done (.inr ((v.1,(v.2.2.1+1),(v.2.2.2.1++([[(.i .i64 f.1)]]:RW)),h.2.1,h.2.2.1,(!h.1),h.2.2.2.2)))))) (.done (.inl (v.1,v.2.1,(v.2.2.1+1),(v.2.2.2.1++([[(.i .i64 f.1)]]:RW)),c.2.1,c.2.2.1,c.2.2.2.1,c.2.2.2.2))))) .fail) .fail)))) (.done (.inr ((v.1,v.2.2.1,v.2.2.2.1,v.2.2.2.2.1,v.2.2.2.2.2.1,v.2.2.2.2.2.2.1,v.2.2.2.2.2.2.2)))))
def KW (n:Nat) (a:((Int×Nat×RW×BA×Nat×Bool×RW))):Tr (Int×BA×Nat×Bool×RW):=(.ask (decide (a.2.1=a.2.2.1.length)) (.opt (EB n (6:Int) a.1 (0:Int) (0:Int) (⟨#[]⟩:BA) (0:Int) (0:Int) false false (0:Int) (0:Int) false false a.2.2.1 a.2.2.2.1 a.2.2.2.2.1 a.2.2.2.2.2.1 a.2.2.2.2.2.2) λb=>(.done (b.1,b.2.1,b.2.2.1,b.2.2.2.1,b.2.2.2.2))) .fail)
def Me (rec:G_impl_reader_binary) (n:Nat) (x0 x1:Int) (x2:BA) (x3:Nat) (x4:Bool) (x5:RW):Tr (Int×BA×Nat×Bool×RW):=(.ask (x4) (.opt (zE (Gz rec n) n (x0,x1,(0:Nat),([]:RW),x2,x3,true,x5)) λb=>(KW n b)) (.opt (DO n (⟨#[40]⟩:BA) x2 x3 x4 x5) λa=>(.opt (zE (Gz rec n) n (x0,x1,(0:Nat),([]:RW),a.2.1,a.2.2.1,(!a.1),a.2.2.2.2)) λc=>(KW n c))))
def qn:Nat->G_impl_reader_binary
 |0=>⟨λ_ _ _ _ _ _=>none,λ_ _ _ _ _=>none,λ_ _ _ _ _=>none,λ_ _ _ _ _ _=>none⟩
 |n+1=>⟨λx0 x1 x2 x3 x4 x5=>(K6 (qn n) n x0 x1 x2 x3 x4 x5).run,λx0 x1 x2 x3 x4=>(Lt (qn n) n x0 x1 x2 x3 x4).run,λx0 x1 x2 x3 x4=>(Md (qn n) n x0 x1 x2 x3 x4).run,λx0 x1 x2 x3 x4 x5=>(Me (qn n) n x0 x1 x2 x3 x4 x5).run⟩
def HL (n:Nat) (x0 x1:Int) (x2:BA) (x3:Nat) (x4:Bool) (x5:RW):Option (Int×BA×Nat×Bool×RW):=(qn n).impl_reader_binary x0 x1 x2 x3 x4 x5
def Lu (n:Nat) (x0:Int) (x1:BA) (x2:Nat) (x3:Bool) (x4:RW):Option (Int×BA×Nat×Bool×RW):=(qn n).impl_reader_unary x0 x1 x2 x3 x4
def Mf (n:Nat) (x0:Int) (x1:BA) (x2:Nat) (x3:Bool) (x4:RW):Option (Int×BA×Nat×Bool×RW):=(qn n).impl_reader_atom x0 x1 x2 x3 x4
def Gr (n:Nat) (x0 x1:Int) (x2:BA) (x3:Nat) (x4:Bool) (x5:RW):Option (Int×BA×Nat×Bool×RW):=(qn n).impl_reader_call x0 x1 x2 x3 x4 x5
def Dl (n:Nat):Prop:=
 Ok (Rn n) K5 (HL n)/\
 Ok (Rn n) Rf (Lu n)/\
 Ok (Rn n) Sb (Mf n)/\
 Ok (Rn n) Sc (Gr n)
abbrev Ie (n:Nat) (ih:Dl n):List (Ent (Rn n)):= [en ih.2.1,en (Lq n),en (QY n),en (R3 n),en (GZ n),en ih.1,en (Gq n)]
def Nu (n:Nat) (ih:Dl n):LEnt (lb 14 (KB 170)) (Rn n) n:=lok (Uniq.pick (zU 170) 14) 237 ⟨⟨[(0,(.c (.ptr 0 0 0 0 0))),(1,aI),(2,aI),(7,aI),(8,aI),(9,aI)],[],[FI]⟩,[(.exit 2,⟨[(0,(.c (.ptr 0 0 0 0 0))),(1,aI),(2,aI),(7,aI),(8,aI)],[],[FI]⟩)]⟩ (FD n) (Ie n ih) [] λ_=>(by kernel_rfl)
def OM (n:Nat) (ih:Dl n):LEnt (KB 170) (Rn n) n:=lok (zU 170) 14 ⟨⟨[(0,(.c (.ptr 0 0 0 0 0))),(1,aI),(2,aI),(7,aI)],[],[FI]⟩,[(.exit 0,⟨[(7,aI)],[],[FI]⟩)]⟩ (Hj (qn n) n) (Ie n ih) [Nu n ih] λ_=>(by kernel_rfl)
abbrev Rh (n:Nat) (ih:Dl n):List (Ent (Rn n)):= [en (GZ n),en ih.2.1,en (Gq n),en ih.2.2.1]
abbrev JY (n:Nat) (ih:Dl n):List (Ent (Rn n)):= [en (Gu n),en (HJ n),en (Pz n),en (J6 n),en (GB n),en (Rz n),en (Jk n),en (Lr n),en (NI n),en (NK n),en (Gq n),en (QX n),en ih.2.2.2,en (GZ n),en ih.1]
def Oy (n:Nat) (ih:Dl n):LEnt (KB 280) (Rn n) n:=lok (zU 280) 477 ⟨⟨[(0,(.c (.ptr 0 0 0 0 0))),(1,aI),(5,aI)],[],[FI]⟩,[(.ret,⟨[(4,aI)],[],[FI]⟩),(.exit 1,⟨[(0,(.c (.ptr 0 0 0 0 0))),(1,aI)],[],[FI]⟩)]⟩ (Gf n) (JY n ih) [] λ_=>(by kernel_rfl)
def Oz (n:Nat) (ih:Dl n):LEnt (KB 280) (Rn n) n:=lok (zU 280) 509 ⟨⟨[(0,(.c (.ptr 0 0 0 0 0))),(1,aI),(9,aS),(14,aI)],[],[FI]⟩,[(.ret,⟨[(4,aI)],[],[FI]⟩),(.exit 3,⟨[(0,(.c (.ptr 0 0 0 0 0)))],[],[FI]⟩)]⟩ (Eb (qn n) n) (JY n ih) [] λ_=>(by kernel_rfl)
abbrev Mg (n:Nat) (ih:Dl n):List (Ent (Rn n)):= [en (OL n),en (Gq n),en (GZ n),en ih.1]
def P1 (n:Nat) (ih:Dl n):LEnt (KB 316) (Rn n) n:=lok (zU 316) 30 ⟨⟨[(0,(.c (.ptr 0 0 0 0 0))),(1,aI),(2,aI),(7,(.c (.own 1 640 0 0)))],fx,[FI]⟩,[(.exit 0,⟨[(0,(.c (.ptr 0 0 0 0 0))),(1,aI),(7,(.c (.own 1 640 0 0)))],fx,[FI]⟩)]⟩ (Gz (qn n) n) (Mg n ih) [] λ_=>(by kernel_rfl)
theorem D3:∀n,Dl n
 |0=>⟨ok0 λ_=>rfl,ok0 λ_=>rfl,ok0 λ_=>rfl,ok0 λ_=>rfl⟩
 |n+1=>⟨stO (T:=K6 (qn n) n) (by kernel_rfl) (Ie n (D3 n)) [OM n (D3 n)] (λ_=>(by kernel_rfl)) λ_=>(by kernel_rfl),stO (T:=Lt (qn n) n) (by kernel_rfl) (Rh n (D3 n)) [] (λ_=>(by kernel_rfl)) λ_=>(by kernel_rfl),stO (T:=Md (qn n) n) (by kernel_rfl) (JY n (D3 n)) [Oy n (D3 n),Oz n (D3 n)] (λ_=>(by kernel_rfl)) λ_=>(by kernel_rfl),stO (T:=Me (qn n) n) (by kernel_rfl) (Mg n (D3 n)) [P1 n (D3 n)] (λ_=>(by kernel_rfl)) λ_=>(by kernel_rfl)⟩
theorem P2 (n:Nat):Ok (Rn n) K5 (HL n):=(D3 n).1
def TV:Sg:=⟨154,[(.agg [qI,qI,qI,qI,qS,qI,qI,qB,qB,qI,qI,qB,qB,qL])],[],⟨(.agg [qI,qI,qI,qI]),[],[]⟩⟩
def IN (n:Nat) (x0 x1 x2 x3:Int) (x4:BA) (x5 x6:Int) (x7 x8:Bool) (x9 x10:Int) (x11 x12:Bool) (x13:RW):Tr (Int×Int×Int×Int):=(.ask ((x0==(2:Int))) (.done (x5,x6,x5,x6)) (.done (x5,x6,x9,x10)))
def FA:Nat->Int->Int->Int->Int->BA->Int->Int->Bool->Bool->Int->Int->Bool->Bool->RW->Option (Int×Int×Int×Int)
 |0,_,_,_,_,_,_,_,_,_,_,_,_,_,_=>none
 |n+1,x0,x1,x2,x3,x4,x5,x6,x7,x8,x9,x10,x11,x12,x13=>(IN n x0 x1 x2 x3 x4 x5 x6 x7 x8 x9 x10 x11 x12 x13).run
theorem Mh:∀n,Ok (Rn n) TV (FA n)
 |0=>ok0 λ_=>rfl
 |n+1=>stO (T:=IN n) (by kernel_rfl) [] [] (λ_=>(by kernel_rfl)) λ_=>(by kernel_rfl)
def YN:Sg:=⟨339,[(.agg [qI,qI,qI,qI])],[],⟨aB,[],[]⟩⟩
def Nv (n:Nat) (x0 x1 x2 x3:Int):Tr (Bool):=(.opt (Ge n x0 x1) λa=>(.ask (a) (.opt (Ge n x2 x3) λb=>(.ask (b) (.ask ((decide (x0<=x2))) (.done (decide (x1<=x3))) (.done false)) (.done false))) (.done false)))
def JG:Nat->Int->Int->Int->Int->Option (Bool)
 |0,_,_,_,_=>none
 |n+1,x0,x1,x2,x3=>(Nv n x0 x1 x2 x3).run
abbrev YO (n:Nat):List (Ent (Rn n)):= [en (Kx n)]
theorem XD:∀n,Ok (Rn n) YN (JG n)
 |0=>ok0 λ_=>rfl
 |n+1=>stO (T:=Nv n) (by kernel_rfl) (YO n) [] (λ_=>(by kernel_rfl)) λ_=>(by kernel_rfl)
def P3:Sg:=⟨317,[(.agg [qI,qI,qI,qI,qS,qI,qI,qB,qB,qI,qI,qB,qB,qL])],[],⟨aB,[],[]⟩⟩
def II (n:Nat) (x0 x1 x2 x3:Int) (x4:BA) (x5 x6:Int) (x7 x8:Bool) (x9 x10:Int) (x11 x12:Bool) (x13:RW):Tr (Bool):=(.ask ((x0 !=(2:Int))) (.ask ((x0 !=(3:Int))) (.done true) (.opt (FA n x0 x1 x2 x3 x4 x5 x6 x7 x8 x9 x10 x11 x12 x13) λa=>(.opt (JG n a.1 a.2.1 a.2.2.1 a.2.2.2) λc=>(.done c)))) (.opt (FA n x0 x1 x2 x3 x4 x5 x6 x7 x8 x9 x10 x11 x12 x13) λb=>(.opt (JG n b.1 b.2.1 b.2.2.1 b.2.2.2) λd=>(.done d))))
def Ek:Nat->Int->Int->Int->Int->BA->Int->Int->Bool->Bool->Int->Int->Bool->Bool->RW->Option (Bool)
 |0,_,_,_,_,_,_,_,_,_,_,_,_,_,_=>none
 |n+1,x0,x1,x2,x3,x4,x5,x6,x7,x8,x9,x10,x11,x12,x13=>(II n x0 x1 x2 x3 x4 x5 x6 x7 x8 x9 x10 x11 x12 x13).run
abbrev P4 (n:Nat):List (Ent (Rn n)):= [en (Mh n),en (XD n)]
theorem O0:∀n,Ok (Rn n) P3 (Ek n)
 |0=>ok0 λ_=>rfl
 |n+1=>stO (T:=II n) (by kernel_rfl) (P4 n) [] (λ_=>(by kernel_rfl)) λ_=>(by kernel_rfl)
def Ri:Sg:=⟨318,[(.agg [qI,qI,qI,qI,qS,qI,qI,qB,qB,qI,qI,qB,qB,qL])],[],⟨aB,[],[]⟩⟩
def JC (n:Nat) (x0 x1 x2 x3:Int) (x4:BA) (x5 x6:Int) (x7 x8:Bool) (x9 x10:Int) (x11 x12:Bool) (x13:RW):Tr (Bool):=(.ask ((x0==(4:Int))) (.ask ((x1==(0:Int))) (.done ((x13.length:Int)==(1:Int))) (.done false)) (.ask ((x0==(5:Int))) (.opt (D5 n x1 (1:Int) (11:Int)) λa=>(.ask (a) (.done ((x13.length:Int)==(2:Int))) (.done false))) (.ask ((x0==(6:Int))) (.opt (D5 n x1 (1:Int) (10:Int)) λb=>(.ask ((!b)) (.done false) (.ask ((x1==(5:Int))) (.opt (D5 n (x13.length:Int) (2:Int) (3:Int)) λc=>(.done c)) (.ask ((decide (x1≥(8:Int)))) (.done ((x13.length:Int)==(1:Int))) (.opt (D5 n (x13.length:Int) (1:Int) (10:Int)) λd=>(.done d)))))) (.ask ((x1==(0:Int))) (.done ((x13.length:Int)==(0:Int))) (.done false)))))
def E9:Nat->Int->Int->Int->Int->BA->Int->Int->Bool->Bool->Int->Int->Bool->Bool->RW->Option (Bool)
 |0,_,_,_,_,_,_,_,_,_,_,_,_,_,_=>none
 |n+1,x0,x1,x2,x3,x4,x5,x6,x7,x8,x9,x10,x11,x12,x13=>(JC n x0 x1 x2 x3 x4 x5 x6 x7 x8 x9 x10 x11 x12 x13).run
abbrev Rj (n:Nat):List (Ent (Rn n)):= [en (Hh n)]
theorem QZ:∀n,Ok (Rn n) Ri (E9 n)
 |0=>ok0 λ_=>rfl
 |n+1=>stO (T:=JC n) (by kernel_rfl) (Rj n) [] (λ_=>(by kernel_rfl)) λ_=>(by kernel_rfl)
def Sd:Sg:=⟨281,[(.agg [qI,qI,qI,qI,qS,qI,qI,qB,qB,qI,qI,qB,qB,qL])],[],⟨aB,[],[]⟩⟩
def G0 (n:Nat) (x0 x1 x2 x3:Int) (x4:BA) (x5 x6:Int) (x7 x8:Bool) (x9 x10:Int) (x11 x12:Bool) (x13:RW):Tr (Bool):=(.opt (Ek n x0 x1 x2 x3 x4 x5 x6 x7 x8 x9 x10 x11 x12 x13) λa=>(.ask (a) (.opt (E9 n x0 x1 x2 x3 x4 x5 x6 x7 x8 x9 x10 x11 x12 x13) λb=>(.ask (b) (.ask ((((0:Int)==x2)&&(((0:Int)==x3)&&(((⟨#[]⟩:BA).toList==x4.toList)&&true)))) (.ask ((((0:Int)==x5)&&(((0:Int)==x6)&&((false==x7)&&((false==x8)&&true))))) (.done (((0:Int)==x9)&&(((0:Int)==x10)&&((false==x11)&&((false==x12)&&true))))) (.done false)) (.done false)) (.done false))) (.done false)))
def IJ (n:Nat) (x0 x1 x2 x3:Int) (x4:BA) (x5 x6:Int) (x7 x8:Bool) (x9 x10:Int) (x11 x12:Bool) (x13:RW):Tr (Bool):=(.opt (Ek n x0 x1 x2 x3 x4 x5 x6 x7 x8 x9 x10 x11 x12 x13) λa=>(.ask (a) (.opt (E9 n x0 x1 x2 x3 x4 x5 x6 x7 x8 x9 x10 x11 x12 x13) λb=>(.ask (b) (.ask (((x2==x2)&&((x3==x3)&&((x4.toList==x4.toList)&&true)))) (.ask ((((0:Int)==x5)&&(((0:Int)==x6)&&((false==x7)&&((false==x8)&&true))))) (.done (((0:Int)==x9)&&(((0:Int)==x10)&&((false==x11)&&((false==x12)&&true))))) (.done false)) (.done false)) (.done false))) (.done false)))
def JZ (n:Nat) (x0 x1 x2 x3:Int) (x4:BA) (x5 x6:Int) (x7 x8:Bool) (x9 x10:Int) (x11 x12:Bool) (x13:RW):Tr (Bool):=(.ask ((x0==(1:Int))) (.opt (FC n x2 x3 x4) λa=>(.ask ((!a)) (.done false) (.ask ((x2==(0:Int))) (.done false) (.ask ((x2==(1:Int))) (.ask ((decide (x3<(0:Int)))) (.done false) (IJ n x0 x1 x2 x3 x4 x5 x6 x7 x8 x9 x10 x11 x12 x13)) (IJ n x0 x1 x2 x3 x4 x5 x6 x7 x8 x9 x10 x11 x12 x13))))) (.ask ((x0==(2:Int))) (.opt (Ek n x0 x1 x2 x3 x4 x5 x6 x7 x8 x9 x10 x11 x12 x13) λb=>(.ask (b) (.opt (E9 n x0 x1 x2 x3 x4 x5 x6 x7 x8 x9 x10 x11 x12 x13) λc=>(.ask (c) (.ask ((((0:Int)==x2)&&(((0:Int)==x3)&&(((⟨#[]⟩:BA).toList==x4.toList)&&true)))) (.ask (((x5==x5)&&((x6==x6)&&((x7==x7)&&((x8==x8)&&true))))) (.done (((0:Int)==x9)&&(((0:Int)==x10)&&((false==x11)&&((false==x12)&&true))))) (.done false)) (.done false)) (.done false))) (.done false))) (.ask ((x0==(3:Int))) (.opt (Ek n x0 x1 x2 x3 x4 x5 x6 x7 x8 x9 x10 x11 x12 x13) λd=>(.ask (d) (.opt (E9 n x0 x1 x2 x3 x4 x5 x6 x7 x8 x9 x10 x11 x12 x13) λf=>(.ask (f) (.ask ((((0:Int)==x2)&&(((0:Int)==x3)&&(((⟨#[]⟩:BA).toList==x4.toList)&&true)))) (.ask (((x5==x5)&&((x6==x6)&&((x7==x7)&&((x8==x8)&&true))))) (.done ((x9==x9)&&((x10==x10)&&((x11==x11)&&((x12==x12)&&true))))) (.done false)) (.done false)) (.done false))) (.done false))) (.ask ((x0==(4:Int))) (G0 n x0 x1 x2 x3 x4 x5 x6 x7 x8 x9 x10 x11 x12 x13) (.ask ((x0==(5:Int))) (G0 n x0 x1 x2 x3 x4 x5 x6 x7 x8 x9 x10 x11 x12 x13) (.ask ((x0==(6:Int))) (G0 n x0 x1 x2 x3 x4 x5 x6 x7 x8 x9 x10 x11 x12 x13) (.done false)))))))
def Hw:Nat->Int->Int->Int->Int->BA->Int->Int->Bool->Bool->Int->Int->Bool->Bool->RW->Option (Bool)
 |0,_,_,_,_,_,_,_,_,_,_,_,_,_,_=>none
 |n+1,x0,x1,x2,x3,x4,x5,x6,x7,x8,x9,x10,x11,x12,x13=>(JZ n x0 x1 x2 x3 x4 x5 x6 x7 x8 x9 x10 x11 x12 x13).run
abbrev Se (n:Nat):List (Ent (Rn n)):= [en (LR n),en (O0 n),en (QZ n)]
theorem Rk:∀n,Ok (Rn n) Sd (Hw n)
 |0=>ok0 λ_=>rfl
 |n+1=>stO (T:=JZ n) (by kernel_rfl) (Se n) [] (λ_=>(by kernel_rfl)) λ_=>(by kernel_rfl)
def Qa:Sg:=⟨232,[aL,aI,aI],[],⟨aI,[],[]⟩⟩
def EC (rec:RW->Int->Int->Option (Int)) (n:Nat) (v:RW×Int×Int×Int×Int):Tr ((RW×Int×Int×Int×Int)⊕((Int)⊕(Int))):=(.ask ((decide (v.2.2.2.2≥(0:Int)))) (.ask (decide (0<=v.2.1/\v.2.1<v.1.length)) (.opt (v.1[(v.2.1).toNat]?) λb=>(.ask (decide (b.length=14)) (.opt (bR b 13) λc=>(.ask (decide (0<=v.2.2.2.2/\v.2.2.2.2<c.length)) (.opt (c[(v.2.2.2.2).toNat]?) λd=>(.ask (decide (d.length=1)) (.opt (zC .i64 d 0) λa=>(.ask ((a !=(IntKind.i64.wrap (v.2.2.2.1-(1:Int))))) (.done (.inr (.inl ((-1:Int))))) (.ask ((decide (a<(0:Int)))) (.done (.inr (.inl ((-1:Int))))) (.ask (decide (0<=a/\a<v.1.length)) (.opt (v.1[(a).toNat]?) λf=>(.ask (decide (f.length=14)) (.opt (zC .i64 f 0) λk=>(.ask ((k==(3:Int))) (.ask (decide (0<=v.2.1/\v.2.1<v.1.length)) (.opt (v.1[(v.2.1).toNat]?) λg=>(.ask (decide (g.length=14)) (.opt (zC .i64 g 0) λl=>(.ask ((l !=(6:Int))) (.done (.inr (.inl ((-1:Int))))) (.opt (rec v.1 a (IntKind.i64.wrap (v.2.2.1+(1:Int)))) λh=>(.ask ((decide (h<(0:Int)))) (.done (.inr (.inl ((-1:Int))))) (.done (.inl (v.1,v.2.1,v.2.2.1,h,(IntKind.i64.wrap (v.2.2.2.2-(1:Int)))))))))) .fail)) .fail) (.opt (rec v.1 a (IntKind.i64.wrap (v.2.2.1+(1:Int)))) λj=>(.ask ((decide (j<(0:Int)))) (.done (.inr (.inl ((-1:Int))))) (.done (.inl (v.1,v.2.1,v.2.2.1,j,(IntKind.i64.wrap (v.2.2.2.2-(1:Int)))))))))) .fail)) .fail)))) .fail)) .fail)) .fail)) .fail) (.done (.inr (.inr (v.2.2.2.1)))))
def K7 (rec:RW->Int->Int->Option (Int)) (n:Nat) (x0:RW) (x1 x2:Int):Tr (Int):=(.ask ((decide (x1<(0:Int)))) (.done (-1:Int)) (.ask ((decide (x2≥(12:Int)))) (.done (-1:Int)) (.ask (decide (0<=x1/\x1<x0.length)) (.opt (x0[(x1).toNat]?) λa=>(.ask (decide (a.length=14)) (.opt (zC .i64 a 0) λc=>(.opt (zC .i64 a 1) λd=>(.opt (zC .i64 a 2) λf=>(.opt (zC .i64 a 3) λg=>(.opt (zk a 4) λh=>(.opt (zC .i64 a 5) λj=>(.opt (zC .i64 a 6) λk=>(.opt (aR a 7) λl=>(.opt (aR a 8) λm=>(.opt (zC .i64 a 9) λo=>(.opt (zC .i64 a 10) λp=>(.opt (aR a 11) λq=>(.opt (aR a 12) λs=>(.opt (bR a 13) λt=>(.opt (Hw n c d f g h j k l m o p q s t) λu=>(.ask ((!u)) (.done (-1:Int)) (.ask (decide (0<=x1/\x1<x0.length)) (.opt (x0[(x1).toNat]?) λb=>(.ask (decide (b.length=14)) (.opt (bR b 13) λw=>(.opt (zE (EC rec n) n (x0,x1,x2,x1,(IntKind.i64.wrap ((w.length:Int)-(1:Int))))) λz=>(.alt z (λa0=>(.done a0)) (λa1=>(.done a1))))) .fail)) .fail))))))))))))))))) .fail)) .fail)))
def Ea:Nat->RW->Int->Int->Option (Int)
 |0,_,_,_=>none
 |n+1,x0,x1,x2=>(K7 (Ea n) n x0 x1 x2).run
abbrev VV (n:Nat) (ih:Ok (Rn n) Qa (Ea n)):List (Ent (Rn n)):= [en (Rk n),en ih]
def XE (n:Nat) (ih:Ok (Rn n) Qa (Ea n)):LEnt (KB 232) (Rn n) n:=lok (zU 232) 61 ⟨⟨[(0,aL),(1,aI),(2,aI),(7,aI),(8,aI)],[],[]⟩,[(.ret,⟨[(6,aI)],[],[]⟩),(.exit 0,⟨[(7,aI)],[],[]⟩)]⟩ (EC (Ea n) n) (VV n ih) [] λ_=>(by kernel_rfl)
theorem O3:∀n,Ok (Rn n) Qa (Ea n)
 |0=>ok0 λ_=>rfl
 |n+1=>stO (T:=K7 (Ea n) n) (by kernel_rfl) (VV n (O3 n)) [XE n (O3 n)] (λ_=>(by kernel_rfl)) λ_=>(by kernel_rfl)
def Um:Sg:=⟨172,[aL],[],⟨aB,[],[]⟩⟩
def Hk (n:Nat) (x0:RW):Tr (Bool):=(.opt (D5 n (x0.length:Int) (1:Int) (60:Int)) λb=>(.ask (b) (.ask (decide (0<=(IntKind.i64.wrap ((x0.length:Int)-(1:Int)))/\(IntKind.i64.wrap ((x0.length:Int)-(1:Int)))<x0.length)) (.opt (x0[((IntKind.i64.wrap ((x0.length:Int)-(1:Int)))).toNat]?) λa=>(.ask (decide (a.length=14)) (.opt (zC .i64 a 0) λc=>(.ask ((c !=(3:Int))) (.opt (Ea n x0 (IntKind.i64.wrap ((x0.length:Int)-(1:Int))) (0:Int)) λd=>(.done (d==(0:Int)))) (.done false))) .fail)) .fail) (.done false)))
def Fx:Nat->RW->Option (Bool)
 |0,_=>none
 |n+1,x0=>(Hk n x0).run
abbrev Un (n:Nat):List (Ent (Rn n)):= [en (Hh n),en (O3 n)]
theorem NL:∀n,Ok (Rn n) Um (Fx n)
 |0=>ok0 λ_=>rfl
 |n+1=>stO (T:=Hk n) (by kernel_rfl) (Un n) [] (λ_=>(by kernel_rfl)) λ_=>(by kernel_rfl)
def Sf:Sg:=⟨100,[aS],[],⟨(.tup [(false,[qL]),(false,[qB])]),[],[]⟩⟩
def Mi (n:Nat) (x0:BA):Tr (RW×Bool):=(.opt (HT n x0 (200:Int)) λg=>(.ask ((!g)) (.ask (decide (0=([]:RW).length)) (.done (([]:RW),false)) .fail) (.opt (HL n (1:Int) (0:Int) x0 (0:Nat) false ([]:RW)) λd=>(.opt (Ey n d.2.1 d.2.2.1 d.2.2.2.1 d.2.2.2.2) λa=>(.ask (a.2.2.1) (.ask (decide (0=([]:RW).length)) (.done (([]:RW),false)) .fail) (.ask ((!(a.1.toList==(⟨#[]⟩:BA).toList))) (.ask (decide (0=([]:RW).length)) (.done (([]:RW),false)) .fail) (.ask (decide (a.2.1=a.2.2.2.length)) (.opt (Fx n a.2.2.2) λf=>(.ask (aZ (⟨(.c (.p (.b f))),[],[]⟩:Res)) (.ask ((!f)) (.ask (decide (0=([]:RW).length)) (.done (([]:RW),false)) .fail) (.ask (decide (a.2.1=a.2.2.2.length)) (.done (a.2.2.2,true)) .fail)) .fail)) .fail)))))))
def Hy:Nat->BA->Option (RW×Bool)
 |0,_=>none
 |n+1,x0=>(Mi n x0).run
abbrev Si (n:Nat):List (Ent (Rn n)):= [en (MU n),en (P2 n),en (Gu n),en (NL n)]
theorem Lv:∀n,Ok (Rn n) Sf (Hy n)
 |0=>ok0 λ_=>rfl
 |n+1=>stO (T:=Mi n) (by kernel_rfl) (Si n) [] (λ_=>(by kernel_rfl)) λ_=>(by kernel_rfl)
def K8:Sg:=⟨282,[aS,aS,aS],[],⟨aS,[],[]⟩⟩
def If:Nat->BA->BA->BA->Option ((BA))
 |0,_,_,_=>none
 |n+1,x0,x1,x2=>zz x0 x1 x2
theorem P5:∀n,Ok (Rn n) K8 (If n)
 |0=>ok0 λ_=>rfl
 |n+1=>stL aT (by kernel_rfl) (λ_ _=>rfl) (λa r e=>congrArg (Option.map λr=>(K8.Of r).v) e) rfl rfl rfl
def Qb:Sg:=⟨284,[aL,aS],[],⟨aS,[],[]⟩⟩
def Mj:Nat->RW->BA->Option ((BA))
 |0,_,_=>none
 |n+1,x0,x1=>cI x0 x1
theorem V4:∀n,Ok (Rn n) Qb (Mj n)
 |0=>ok0 λ_=>rfl
 |n+1=>stL cJ (by kernel_rfl) (λ_ _=>rfl) (λa r e=>congrArg (Option.map λr=>(Qb.Of r).v) e) rfl rfl rfl
def Ja:Sg:=⟨233,[aL,aI,aI],[],⟨aS,[],[]⟩⟩
def Ff (rec:RW->Int->Int->Option (BA)) (n:Nat) (v:RW×Nat×RW×Int×Int×Int×Int×Int×Int×BA×Int×Int×Bool×Bool×Int×Int×Bool×Bool×RW×RW):Tr ((RW×Nat×RW×Int×Int×Int×Int×Int×Int×BA×Int×Int×Bool×Bool×Int×Int×Bool×Bool×RW×RW)⊕((Nat×Int×Int×Int×Int×BA×Int×Int×Bool×Bool×Int×Int×Bool×Bool×RW×RW))):=(.ask ((decide (v.2.2.2.2.1<v.2.2.2.1))) (.ask (decide (0<=v.2.2.2.2.1/\v.2.2.2.2.1<v.2.2.1.length)) (.opt (v.2.2.1[(v.2.2.2.2.1).toNat]?) λb=>(.ask (decide (b.length=1)) (.opt (zC .i64 b 0) λc=>(.opt (rec v.1 c (1:Int)) λa=>(.ask (decide (1=([[(.s a)]]:RW).length)) (.ask (decide (v.2.1=v.2.2.2.2.2.2.2.2.2.2.2.2.2.2.2.2.2.2.2.length/\0<1/\0<16/\(v.2.1+([[(.s a)]]:RW).length)*16<=140737488355328/\([[(.s a)]]:RW).all (λe=>e.length==1)=true)) (.done (.inl (v.1,(v.2.1+1),v.2.2.1,v.2.2.2.1,(IntKind.i64.wrap (v.2.2.2.2.1+(1:Int))),v.2.2.2.2.2.1,v.2.2.2.2.2.2.1,v.2.2.2.2.2.2.2.1,v.2.2.2.2.2.2.2.2.1,v.2.2.2.2.2.2.2.2.2.1,v.2.2.2.2.2.2.2.2.2.2.1,v.2.2.2.2.2.2.2.2.2.2.2.1,v.2.2.2.2.2.2.2.2.2.2.2.2.1,v.2.2.2.2.2.2.2.2.2.2.2.2.2.1,v.2.2.2.2.2.2.2.2.2.2.2.2.2.2.1,v.2.2.2.2.2.2.2.2.2.2.2.2.2.2.2.1,v.2.2.2.2.2.2.2.2.2.2.2.2.2.2.2.2.1,v.2.2.2.2.2.2.2.2.2.2.2.2.2.2.2.2.2.1,v.2.2.2.2.2.2.2.2.2.2.2.2.2.2.2.2.2.2.1,(v.2.2.2.2.2.2.2.2.2.2.2.2.2.2.2.2.2.2.2++([[(.s a)]]:RW))))) .fail) .fail))) .fail)) .fail) (.done (.inr ((v.2.1,v.2.2.2.2.2.1,v.2.2.2.2.2.2.1,v.2.2.2.2.2.2.2.1,v.2.2.2.2.2.2.2.2.1,v.2.2.2.2.2.2.2.2.2.1,v.2.2.2.2.2.2.2.2.2.2.1,v.2.2.2.2.2.2.2.2.2.2.2.1,v.2.2.2.2.2.2.2.2.2.2.2.2.1,v.2.2.2.2.2.2.2.2.2.2.2.2.2.1,v.2.2.2.2.2.2.2.2.2.2.2.2.2.2.1,v.2.2.2.2.2.2.2.2.2.2.2.2.2.2.2.1,v.2.2.2.2.2.2.2.2.2.2.2.2.2.2.2.2.1,v.2.2.2.2.2.2.2.2.2.2.2.2.2.2.2.2.2.1,v.2.2.2.2.2.2.2.2.2.2.2.2.2.2.2.2.2.2.1,v.2.2.2.2.2.2.2.2.2.2.2.2.2.2.2.2.2.2.2)))))
def Ec (rec:RW->Int->Int->Option (BA)) (n:Nat) (x0:RW) (x1 x2:Int):Tr (BA):=(.ask (decide (0<=x1/\x1<x0.length)) (.opt (x0[(x1).toNat]?) λa=>(.ask (decide (a.length=14)) (.opt (zC .i64 a 0) λd=>(.opt (zC .i64 a 1) λm=>(.opt (zC .i64 a 2) λo=>(.opt (zC .i64 a 3) λa3=>(.opt (zk a 4) λq=>(.opt (zC .i64 a 5) λt=>(.opt (zC .i64 a 6) λu=>(.opt (aR a 7) λw=>(.opt (aR a 8) λz=>(.opt (zC .i64 a 9) λa4=>(.opt (zC .i64 a 10) λa5=>(.opt (aR a 11) λa6=>(.opt (aR a 12) λa7=>(.opt (bR a 13) λb=>(.ask ((d==(1:Int))) (.ask ((o==(2:Int))) (.opt (If n q (⟨#[34]⟩:BA) (⟨#[34,34]⟩:BA)) λa0=>(.ask (decide ((⟨#[34]⟩:BA).size+a0.size<=9223372036854775807)) (.ask (decide (((⟨#[34]⟩:BA)++a0).size+(⟨#[34]⟩:BA).size<=9223372036854775807)) (.done (((⟨#[34]⟩:BA)++a0)++(⟨#[34]⟩:BA))) .fail) .fail)) (.opt (Dy n o a3 q) λb3=>(.done b3))) (.ask ((d==(2:Int))) (.opt (FQ n t u w z) λb4=>(.done b4)) (.ask ((d==(3:Int))) (.opt (FQ n t u w z) λa1=>(.ask (decide (a1.size+(⟨#[58]⟩:BA).size<=9223372036854775807)) (.opt (FQ n a4 a5 a6 a7) λa8=>(.ask (decide ((a1++(⟨#[58]⟩:BA)).size+a8.size<=9223372036854775807)) (.done ((a1++(⟨#[58]⟩:BA))++a8)) .fail)) .fail)) (.ask ((d==(4:Int))) (.ask (decide (0<=(0:Int)/\(0:Int)<b.length)) (.opt (b[((0:Int)).toNat]?) λa9=>(.ask (decide (a9.length=1)) (.opt (zC .i64 a9 0) λb5=>(.opt (rec x0 b5 (5:Int)) λb0=>(.ask (decide ((⟨#[45]⟩:BA).size+b0.size<=9223372036854775807)) (.done ((⟨#[45]⟩:BA)++b0)) .fail))) .fail)) .fail) (.ask ((d==(5:Int))) (.opt (Iw n m) λa2=>(.ask (decide (0<=(0:Int)/\(0:Int)<b.length)) (.opt (b[((0:Int)).toNat]?) λb1=>(.ask (decide (b1.length=1)) (.opt (zC .i64 b1 0) λb6=>(.ask (decide (0<=(1:Int)/\(1:Int)<b.length)) (.opt (b[((1:Int)).toNat]?) λb2=>(.ask (decide (b2.length=1)) (.opt (zC .i64 b2 0) λb7=>(.opt (rec x0 b6 a2) λf=>(.opt (FW n m) λg=>(.ask (decide (f.size+g.size<=9223372036854775807)) (.opt (rec x0 b7 (IntKind.i64.wrap (a2+(1:Int)))) λh=>(.ask (decide ((f++g).size+h.size<=9223372036854775807)) (.ask ((decide (a2<x2))) (.ask (decide ((⟨#[40]⟩:BA).size+((f++g)++h).size<=9223372036854775807)) (.ask (decide (((⟨#[40]⟩:BA)++((f++g)++h)).size+(⟨#[41]⟩:BA).size<=9223372036854775807)) (.done (((⟨#[40]⟩:BA)++((f++g)++h))++(⟨#[41]⟩:BA))) .fail) .fail) (.done ((f++g)++h))) .fail)) .fail)))) .fail)) .fail)) .fail)) .fail)) (.opt (zE (Ff rec n) n (x0,(0:Nat),b,(b.length:Int),(0:Int),d,m,o,a3,q,t,u,w,z,a4,a5,a6,a7,b,([]:RW))) λj=>(.opt (Gi n j.2.2.1) λk=>(.ask (decide (k.size+(⟨#[40]⟩:BA).size<=9223372036854775807)) (.ask (decide (j.1=j.2.2.2.2.2.2.2.2.2.2.2.2.2.2.2.length)) (.opt (Mj n j.2.2.2.2.2.2.2.2.2.2.2.2.2.2.2 (⟨#[44]⟩:BA)) λl=>(.ask (aZ (⟨(.c (.p (.s l))),[],[]⟩:Res)) (.ask (decide ((k++(⟨#[40]⟩:BA)).size+l.size<=9223372036854775807)) (.ask (decide (((k++(⟨#[40]⟩:BA))++l).size+(⟨#[41]⟩:BA).size<=9223372036854775807)) (.done (((k++(⟨#[40]⟩:BA))++l)++(⟨#[41]⟩:BA))) .fail) .fail) .fail)) .fail) .fail)))))))))))))))))))))) .fail)) .fail)
def qu:Nat->RW->Int->Int->Option (BA)
 |0,_,_,_=>none
 |n+1,x0,x1,x2=>(Ec (qu n) n x0 x1 x2).run
abbrev Mk (n:Nat) (ih:Ok (Rn n) Ja (qu n)):List (Ent (Rn n)):= [en (P5 n),en (NH n),en (NJ n),en ih,en (R3 n),en (QY n),en (QX n),en (V4 n)]
def O4 (n:Nat) (ih:Ok (Rn n) Ja (qu n)):LEnt (KB 233) (Rn n) n:=lok (zU 233) 125 ⟨⟨[(0,aL),(7,(.c (.ptr 0 448 0 0 0))),(10,(.c (.own 0 5760 0 0))),(92,aL),(93,aI),(94,aI)],oh,[]⟩,[(.exit 1,⟨[(7,(.c (.ptr 0 448 0 0 0))),(10,(.c (.own 0 5760 0 0)))],oh,[]⟩)]⟩ (Ff (qu n) n) (Mk n ih) [] λ_=>(by kernel_rfl)
theorem JD:∀n,Ok (Rn n) Ja (qu n)
 |0=>ok0 λ_=>rfl
 |n+1=>stO (T:=Ec (qu n) n) (by kernel_rfl) (Mk n (JD n)) [O4 n (JD n)] (λ_=>(by kernel_rfl)) λ_=>(by kernel_rfl)
def Sj:Sg:=⟨173,[aL],[],⟨aS,[],[]⟩⟩
def Hz (n:Nat) (x0:RW):Tr (BA):=(.opt (Fx n x0) λb=>(.ask ((!b)) (.done (⟨#[]⟩:BA)) (.opt (qu n x0 (IntKind.i64.wrap ((x0.length:Int)-(1:Int))) (1:Int)) λa=>(.ask ((decide ((a.size:Int)>(200:Int)))) (.done (⟨#[]⟩:BA)) (.done a)))))
def Fy:Nat->RW->Option (BA)
 |0,_=>none
 |n+1,x0=>(Hz n x0).run
abbrev Sk (n:Nat):List (Ent (Rn n)):= [en (NL n),en (JD n)]
theorem Rl:∀n,Ok (Rn n) Sj (Fy n)
 |0=>ok0 λ_=>rfl
 |n+1=>stO (T:=Hz n) (by kernel_rfl) (Sk n) [] (λ_=>(by kernel_rfl)) λ_=>(by kernel_rfl)
def V5:Sg:=⟨101,[aL],[],⟨(.tup [(false,[qS]),(false,[qB])]),[],[]⟩⟩
def Pg (n:Nat) (x0:RW):Tr (BA×Bool):=(.opt (Fy n x0) λa=>(.ask (decide ((⟨#[61]⟩:BA).size+a.size<=9223372036854775807)) (.ask ((!(a.toList==(⟨#[]⟩:BA).toList))) (.done (((⟨#[61]⟩:BA)++a),(decide ((a.size:Int)<(200:Int))))) (.done (((⟨#[61]⟩:BA)++a),false))) .fail))
def LU:Nat->RW->Option (BA×Bool)
 |0,_=>none
 |n+1,x0=>(Pg n x0).run
abbrev V6 (n:Nat):List (Ent (Rn n)):= [en (Rl n)]
theorem Uo:∀n,Ok (Rn n) V5 (LU n)
 |0=>ok0 λ_=>rfl
 |n+1=>stO (T:=Pg n) (by kernel_rfl) (V6 n) [] (λ_=>(by kernel_rfl)) λ_=>(by kernel_rfl)
def Jp:Sg:=⟨239,[aS,aS],[],⟨aS,[],[]⟩⟩
def G4 (n:Nat) (x0 x1:BA):Tr (BA):=(.opt (Dk n x0 x1) λa=>(.ask (a) (.ask (decide (0<=(x1.size:Int)/\(x1.size:Int)<=(x0.size:Int)/\(x0.size:Int)<=x0.size)) (.done (x0.extract ((x1.size:Int)).toNat ((x0.size:Int)).toNat)) .fail) (.done x0)))
def FT:Nat->BA->BA->Option (BA)
 |0,_,_=>none
 |n+1,x0,x1=>(G4 n x0 x1).run
abbrev Jq (n:Nat):List (Ent (Rn n)):= [en (G3 n)]
theorem Jb:∀n,Ok (Rn n) Jp (FT n)
 |0=>ok0 λ_=>rfl
 |n+1=>stO (T:=G4 n) (by kernel_rfl) (Jq n) [] (λ_=>(by kernel_rfl)) λ_=>(by kernel_rfl)
def Qc:Sg:=⟨176,[aS,aS],[],⟨aS,[],[]⟩⟩
def K9 (n:Nat) (x0 x1:BA):Tr (BA):=(.opt (FT n x0 x1) λa=>(.done a))
def Ig:Nat->BA->BA->Option (BA)
 |0,_,_=>none
 |n+1,x0,x1=>(K9 n x0 x1).run
abbrev Qd (n:Nat):List (Ent (Rn n)):= [en (Jb n)]
theorem P6:∀n,Ok (Rn n) Qc (Ig n)
 |0=>ok0 λ_=>rfl
 |n+1=>stO (T:=K9 n) (by kernel_rfl) (Qd n) [] (λ_=>(by kernel_rfl)) λ_=>(by kernel_rfl)
def Qe:Sg:=⟨177,[aS,aS],[],⟨aS,[],[]⟩⟩
def Ml:Nat->BA->BA->Option ((BA))
 |0,_,_=>none
 |n+1,x0,x1=>bN x0 x1
theorem V7:∀n,Ok (Rn n) Qe (Ml n)
 |0=>ok0 λ_=>rfl
 |n+1=>stL cH (by kernel_rfl) (λ_ _=>rfl) (λa r e=>congrArg (Option.map λr=>(Qe.Of r).v) e) rfl rfl rfl
def V8:Sg:=⟨103,[aS],[],⟨aB,[],[]⟩⟩
def Ph (n:Nat) (x0:BA):Tr (Bool):=(.opt (Ig n x0 (⟨#[45]⟩:BA)) λa=>(.ask ((!(a.toList==(⟨#[]⟩:BA).toList))) (.opt (Ml n a (⟨#[48,49,50,51,52,53,54,55,56,57]⟩:BA)) λb=>(.done (b.toList==(⟨#[]⟩:BA).toList))) (.done false)))
def LV:Nat->BA->Option (Bool)
 |0,_=>none
 |n+1,x0=>(Ph n x0).run
abbrev V9 (n:Nat):List (Ent (Rn n)):= [en (P6 n),en (V7 n)]
theorem Up:∀n,Ok (Rn n) V8 (LV n)
 |0=>ok0 λ_=>rfl
 |n+1=>stO (T:=Ph n) (by kernel_rfl) (V9 n) [] (λ_=>(by kernel_rfl)) λ_=>(by kernel_rfl)
def XF:Sg:=⟨37,[aS],[],⟨(.tup [(false,[qS]),(false,[qB])]),[],[]⟩⟩
def IP (n:Nat) (x0:BA):Tr (BA×Bool):=(.opt (DW n x0) λa=>(.ask (a.2.2.2) (.done (x0,true)) (.ask (((x0.size:Int)==(200:Int))) (.done ((⟨#[]⟩:BA),false)) (.ask (decide ((⟨#[39]⟩:BA).size+x0.size<=9223372036854775807)) (.done (((⟨#[39]⟩:BA)++x0),true)) .fail))))
def NM (n:Nat) (x0:BA) (b:(Int)):Tr (BA×Bool):=(.opt (LV n x0) λc=>(.ask (c) (.opt (IE n b) λa=>(.opt (FC n a.1 a.2.1 a.2.2) λd=>(.ask (d) (.opt (Fe n b) λf=>(.done (f,true))) (IP n x0)))) (IP n x0)))
def Qf (n:Nat) (x0:BA):Tr (BA×Bool):=(.opt (HT n x0 (200:Int)) λd=>(.ask ((!d)) (.done ((⟨#[]⟩:BA),(x0.toList==(⟨#[]⟩:BA).toList))) (.ask ((x0.toList==(⟨#[]⟩:BA).toList)) (.done ((⟨#[]⟩:BA),(x0.toList==(⟨#[]⟩:BA).toList))) (.opt (DY n x0 (⟨#[61]⟩:BA)) λa=>(.ask (a.2) (.opt (Hy n a.1) λb=>(.opt (LU n b.1) λc=>(.ask ((!b.2)) (.done ((⟨#[]⟩:BA),false)) (.ask ((!c.2)) (.done ((⟨#[]⟩:BA),false)) (.done (c.1,true)))))) (.opt (Ez n x0 (10:Int) (64:Int)) λf=>(.alt f (λg=>(.ask (true) (NM n x0 g) (IP n x0))) (λh=>(.ask (false) (NM n x0 h) (IP n x0))))))))))
def Mm:Nat->BA->Option (BA×Bool)
 |0,_=>none
 |n+1,x0=>(Qf n x0).run
abbrev XG (n:Nat):List (Ent (Rn n)):= [en (MU n),en (GB n),en (Lv n),en (Uo n),en2 (JA n),en (Up n),en (QV n),en (LR n),en (LS n),en (NI n)]
theorem WA:∀n,Ok (Rn n) XF (Mm n)
 |0=>ok0 λ_=>rfl
 |n+1=>stO (T:=Qf n) (by kernel_rfl) (XG n) [] (λ_=>(by kernel_rfl)) λ_=>(by kernel_rfl)
def WB:Sg:=⟨109,[aS],[],⟨aB,[],[]⟩⟩
def Pi (n:Nat) (x0:BA):Tr (Bool):=(.opt (Mm n x0) λa=>(.ask (a.2) (.ask ((!(x0.toList==(⟨#[]⟩:BA).toList))) (.done (a.1.toList==x0.toList)) (.done false)) (.done false)))
def H9:Nat->BA->Option (Bool)
 |0,_=>none
 |n+1,x0=>(Pi n x0).run
abbrev WC (n:Nat):List (Ent (Rn n)):= [en (WA n)]
theorem Uq:∀n,Ok (Rn n) WB (H9 n)
 |0=>ok0 λ_=>rfl
 |n+1=>stO (T:=Pi n) (by kernel_rfl) (WC n) [] (λ_=>(by kernel_rfl)) λ_=>(by kernel_rfl)
def XH:Sg:=⟨39,[aL],[],⟨aB,[],[]⟩⟩
def KA (n:Nat) (v:RW×RW×Int×Int):Tr ((RW×RW×Int×Int)⊕((Bool)⊕(RW))):=(.ask ((decide (v.2.2.2<v.2.2.1))) (.ask (decide (0<=v.2.2.2/\v.2.2.2<v.2.1.length)) (.opt (v.2.1[(v.2.2.2).toNat]?) λa=>(.ask (decide (a.length=3)) (.opt (zC .i64 a 0) λc=>(.opt (zC .i64 a 1) λd=>(.opt (zk a 2) λf=>(.opt (Ge n c d) λg=>(.ask ((!g)) (.done (.inr (.inl (false)))) (.ask ((decide (v.2.2.2>(0:Int)))) (.ask (decide (0<=(IntKind.i64.wrap (v.2.2.2-(1:Int)))/\(IntKind.i64.wrap (v.2.2.2-(1:Int)))<v.1.length)) (.opt (v.1[((IntKind.i64.wrap (v.2.2.2-(1:Int)))).toNat]?) λb=>(.ask (decide (b.length=3)) (.opt (zC .i64 b 0) λh=>(.opt (zC .i64 b 1) λj=>(.opt (Ft n h j c d) λk=>(.ask ((decide (k≥(0:Int)))) (.done (.inr (.inl (false)))) (.opt (H9 n f) λl=>(.ask ((!l)) (.done (.inr (.inl (false)))) (.done (.inl (v.1,v.2.1,v.2.2.1,(IntKind.i64.wrap (v.2.2.2+(1:Int)))))))))))) .fail)) .fail) (.opt (H9 n f) λm=>(.ask ((!m)) (.done (.inr (.inl (false)))) (.done (.inl (v.1,v.2.1,v.2.2.1,(IntKind.i64.wrap (v.2.2.2+(1:Int)))))))))))))) .fail)) .fail) (.done (.inr (.inr (v.1)))))
def Qg (n:Nat) (x0:RW):Tr (Bool):=(.opt (zE (KA n) n (x0,x0,(x0.length:Int),(0:Int))) λa=>(.alt a (λb=>(.done b)) (λc=>(.done (decide ((c.length:Int)<=(120:Int)))))))
def KC:Nat->RW->Option (Bool)
 |0,_=>none
 |n+1,x0=>(Qg n x0).run
abbrev Qh (n:Nat):List (Ent (Rn n)):= [en (Kx n),en (Rb n),en (Uq n)]
def TW (n:Nat):LEnt (KB 39) (Rn n) n:=lok (zU 39) 13 ⟨⟨[(0,aL),(5,aL),(6,aI),(7,aI)],[],[]⟩,[(.ret,⟨[(2,aB)],[],[]⟩),(.exit 0,⟨[(0,aL)],[],[]⟩)]⟩ (KA n) (Qh n) [] λ_=>(by kernel_rfl)
theorem Pj:∀n,Ok (Rn n) XH (KC n)
 |0=>ok0 λ_=>rfl
 |n+1=>stO (T:=Qg n) (by kernel_rfl) (Qh n) [TW n] (λ_=>(by kernel_rfl)) λ_=>(by kernel_rfl)
def TX:Sg:=⟨79,[(.agg [qI,qI,qS]),(.c (.rp [vI,vI] 0))],[],⟨aB,[],[]⟩⟩
def NN (n:Nat) (x0 x1:Int) (x2:BA) (x3 x4:Int):Tr (Bool):=(.opt (some x3:Option Int) λa=>(.opt (some x4:Option Int) λb=>(.done ((x0==a)&&((x1==b)&&true)))))
def NO:Nat->Int->Int->BA->Int->Int->Option (Bool)
 |0,_,_,_,_,_=>none
 |n+1,x0,x1,x2,x3,x4=>(NN n x0 x1 x2 x3 x4).run
theorem Sl:∀n,Ok (Rn n) TX (NO n)
 |0=>ok0 λ_=>rfl
 |n+1=>stO (T:=NN n) (by kernel_rfl) [] [] (λ_=>(by kernel_rfl)) λ_=>(by kernel_rfl)
def F7:Sg:=⟨78,[aL,(.c (.fn 79 [(.rp [vI,vI])]))],[],⟨aI,[],[]⟩⟩
def DV (n:Nat) (v:RW×Int×Int×Int×Int):Tr ((RW×Int×Int×Int×Int)⊕((Int)⊕(Unit))):=(.ask ((decide (v.2.2.2.2<v.2.2.2.1))) (.ask (decide (0<=v.2.2.2.2/\v.2.2.2.2<v.1.length)) (.opt (v.1[(v.2.2.2.2).toNat]?) λa=>(.ask (decide (a.length=3)) (.opt (zC .i64 a 0) λb=>(.opt (zC .i64 a 1) λc=>(.opt (zk a 2) λd=>(.opt (NO n b c d v.2.1 v.2.2.1) λf=>(.ask (f) (.done (.inr (.inl (v.2.2.2.2)))) (.done (.inl (v.1,v.2.1,v.2.2.1,v.2.2.2.1,(IntKind.i64.wrap (v.2.2.2.2+(1:Int))))))))))) .fail)) .fail) (.done (.inr (.inr (())))))
def DZ (n:Nat) (x0:RW) (x1 x2:Int):Tr (Int):=(.opt (zE (DV n) n (x0,x1,x2,(x0.length:Int),(0:Int))) λa=>(.alt a (λb=>(.done b)) (λc=>(.done (-1:Int)))))
def Da:Nat->RW->Int->Int->Option (Int)
 |0,_,_,_=>none
 |n+1,x0,x1,x2=>(DZ n x0 x1 x2).run
abbrev EY (n:Nat):List (Ent (Rn n)):= [en (Sl n)]
def Fj (n:Nat):LEnt (KB 78) (Rn n) n:=lok (zU 78) 13 ⟨⟨[(0,aL),(1,(.c (.fn 79 [(.rp [vI,vI])]))),(7,aI),(8,aI)],[],[]⟩,[(.ret,⟨[(4,aI)],[],[]⟩),(.exit 0,⟨[],[],[]⟩)]⟩ (DV n) (EY n) [] λ_=>(by kernel_rfl)
theorem Fz:∀n,Ok (Rn n) F7 (Da n)
 |0=>ok0 λ_=>rfl
 |n+1=>stO (T:=DZ n) (by kernel_rfl) (EY n) [Fj n] (λ_=>(by kernel_rfl)) λ_=>(by kernel_rfl)
def Ur:Sg:=⟨84,[aS],[],⟨(.tup [(false,[qL]),(false,[qB])]),[],[]⟩⟩
def Kg (n:Nat) (x0:BA):Tr (RW×Bool):=(.opt (DY n x0 (⟨#[61]⟩:BA)) λa=>(.ask ((!a.2)) (.ask (decide (0=([]:RW).length)) (.done (([]:RW),false)) .fail) (.opt (Hy n a.1) λb=>(.done (b.1,b.2)))))
def Hl:Nat->BA->Option (RW×Bool)
 |0,_=>none
 |n+1,x0=>(Kg n x0).run
abbrev Us (n:Nat):List (Ent (Rn n)):= [en (GB n),en (Lv n)]
theorem NP:∀n,Ok (Rn n) Ur (Hl n)
 |0=>ok0 λ_=>rfl
 |n+1=>stO (T:=Kg n) (by kernel_rfl) (Us n) [] (λ_=>(by kernel_rfl)) λ_=>(by kernel_rfl)
def XI:Sg:=⟨86,[aL],[],⟨aL,[],[]⟩⟩
def KD (n:Nat) (v:Nat×RW×Int×Int×RW):Tr ((Nat×RW×Int×Int×RW)⊕((Nat×RW))):=(.ask ((decide (v.2.2.2.1<v.2.2.1))) (.ask (decide (0<=v.2.2.2.1/\v.2.2.2.1<v.2.1.length)) (.opt (v.2.1[(v.2.2.2.1).toNat]?) λc=>(.ask (decide (c.length=14)) (.opt (zC .i64 c 0) λd=>(.opt (zC .i64 c 1) λf=>(.opt (zC .i64 c 2) λg=>(.opt (zC .i64 c 3) λh=>(.opt (zk c 4) λj=>(.opt (zC .i64 c 5) λk=>(.opt (zC .i64 c 6) λl=>(.opt (aR c 7) λm=>(.opt (aR c 8) λo=>(.opt (zC .i64 c 9) λp=>(.opt (zC .i64 c 10) λq=>(.opt (aR c 11) λs=>(.opt (aR c 12) λt=>(.opt (bR c 13) λu=>(.ask ((d==(2:Int))) (.opt (FA n d f g h j k l m o p q s t u) λa=>(.ask (decide (1=([[(.i .i64 a.1),(.i .i64 a.2.1),(.i .i64 a.2.2.1),(.i .i64 a.2.2.2)]]:RW).length)) (.ask (decide (v.1=v.2.2.2.2.length/\0<4/\0<32/\(v.1+([[(.i .i64 a.1),(.i .i64 a.2.1),(.i .i64 a.2.2.1),(.i .i64 a.2.2.2)]]:RW).length)*32<=140737488355328/\([[(.i .i64 a.1),(.i .i64 a.2.1),(.i .i64 a.2.2.1),(.i .i64 a.2.2.2)]]:RW).all (λe=>e.length==4)=true)) (.done (.inl ((v.1+1),v.2.1,v.2.2.1,(IntKind.i64.wrap (v.2.2.2.1+(1:Int))),(v.2.2.2.2++([[(.i .i64 a.1),(.i .i64 a.2.1),(.i .i64 a.2.2.1),(.i .i64 a.2.2.2)]]:RW))))) .fail) .fail)) (.ask ((d==(3:Int))) (.opt (FA n d f g h j k l m o p q s t u) λb=>(.ask (decide (1=([[(.i .i64 b.1),(.i .i64 b.2.1),(.i .i64 b.2.2.1),(.i .i64 b.2.2.2)]]:RW).length)) (.ask (decide (v.1=v.2.2.2.2.length/\0<4/\0<32/\(v.1+([[(.i .i64 b.1),(.i .i64 b.2.1),(.i .i64 b.2.2.1),(.i .i64 b.2.2.2)]]:RW).length)*32<=140737488355328/\([[(.i .i64 b.1),(.i .i64 b.2.1),(.i .i64 b.2.2.1),(.i .i64 b.2.2.2)]]:RW).all (λe=>e.length==4)=true)) (.done (.inl ((v.1+1),v.2.1,v.2.2.1,(IntKind.i64.wrap (v.2.2.2.1+(1:Int))),(v.2.2.2.2++([[(.i .i64 b.1),(.i .i64 b.2.1),(.i .i64 b.2.2.1),(.i .i64 b.2.2.2)]]:RW))))) .fail) .fail)) (.done (.inl (v.1,v.2.1,v.2.2.1,(IntKind.i64.wrap (v.2.2.2.1+(1:Int))),v.2.2.2.2))))))))))))))))))) .fail)) .fail) (.done (.inr ((v.1,v.2.2.2.2)))))
def Qi (n:Nat) (x0:RW):Tr (RW):=(.opt (zE (KD n) n ((0:Nat),x0,(x0.length:Int),(0:Int),([]:RW))) λa=>(.ask (decide (a.1=a.2.length)) (.done a.2) .fail))
def Ih:Nat->RW->Option (RW)
 |0,_=>none
 |n+1,x0=>(Qi n x0).run
abbrev Qj (n:Nat):List (Ent (Rn n)):= [en (Mh n)]
def TY (n:Nat):LEnt (KB 86) (Rn n) n:=lok (zU 86) 29 ⟨⟨[(3,(.c (.own 0 384 0 0))),(7,aL),(8,aI),(9,aI)],ft,[]⟩,[(.exit 0,⟨[(3,(.c (.own 0 384 0 0)))],ft,[]⟩)]⟩ (KD n) (Qj n) [] λ_=>(by kernel_rfl)
theorem Pk:∀n,Ok (Rn n) XI (Ih n)
 |0=>ok0 λ_=>rfl
 |n+1=>stO (T:=Qi n) (by kernel_rfl) (Qj n) [TY n] (λ_=>(by kernel_rfl)) λ_=>(by kernel_rfl)
def WE:Sg:=⟨157,[(.agg [qI,qI,qI,qI]),(.agg [qI,qI])],[],⟨aB,[],[]⟩⟩
def LW (n:Nat) (x0 x1 x2 x3 x4 x5:Int):Tr (Bool):=(.opt (D5 n x4 x0 x2) λa=>(.ask (a) (.opt (D5 n x5 x1 x3) λb=>(.done b)) (.done false)))
def LX:Nat->Int->Int->Int->Int->Int->Int->Option (Bool)
 |0,_,_,_,_,_,_=>none
 |n+1,x0,x1,x2,x3,x4,x5=>(LW n x0 x1 x2 x3 x4 x5).run
abbrev WF (n:Nat):List (Ent (Rn n)):= [en (Hh n)]
theorem Ut:∀n,Ok (Rn n) WE (LX n)
 |0=>ok0 λ_=>rfl
 |n+1=>stO (T:=LW n) (by kernel_rfl) (WF n) [] (λ_=>(by kernel_rfl)) λ_=>(by kernel_rfl)
def YP:Sg:=⟨156,[(.agg [qI,qI,qI,qI]),(.c (.rp [vI,vI] 0))],[],⟨aB,[],[]⟩⟩
def Nw (n:Nat) (x0 x1 x2 x3 x4 x5:Int):Tr (Bool):=(.opt (some x4:Option Int) λa=>(.opt (some x5:Option Int) λb=>(.opt (LX n x0 x1 x2 x3 a b) λc=>(.done c))))
def Ky:Nat->Int->Int->Int->Int->Int->Int->Option (Bool)
 |0,_,_,_,_,_,_=>none
 |n+1,x0,x1,x2,x3,x4,x5=>(Nw n x0 x1 x2 x3 x4 x5).run
abbrev YQ (n:Nat):List (Ent (Rn n)):= [en (Ut n)]
theorem XJ:∀n,Ok (Rn n) YP (Ky n)
 |0=>ok0 λ_=>rfl
 |n+1=>stO (T:=Nw n) (by kernel_rfl) (YQ n) [] (λ_=>(by kernel_rfl)) λ_=>(by kernel_rfl)
def Ga:Sg:=⟨217,[aL,(.c (.fn 156 [(.rp [vI,vI])]))],[],⟨aI,[],[]⟩⟩
def q8 (n:Nat) (v:RW×Int×Int×Int×Int):Tr ((RW×Int×Int×Int×Int)⊕((Int)⊕(Unit))):=(.ask ((decide (v.2.2.2.2<v.2.2.2.1))) (.ask (decide (0<=v.2.2.2.2/\v.2.2.2.2<v.1.length)) (.opt (v.1[(v.2.2.2.2).toNat]?) λa=>(.ask (decide (a.length=4)) (.opt (zC .i64 a 0) λb=>(.opt (zC .i64 a 1) λc=>(.opt (zC .i64 a 2) λd=>(.opt (zC .i64 a 3) λf=>(.opt (Ky n b c d f v.2.1 v.2.2.1) λg=>(.ask (g) (.done (.inr (.inl (v.2.2.2.2)))) (.done (.inl (v.1,v.2.1,v.2.2.1,v.2.2.2.1,(IntKind.i64.wrap (v.2.2.2.2+(1:Int)))))))))))) .fail)) .fail) (.done (.inr (.inr (())))))
def DI (n:Nat) (x0:RW) (x1 x2:Int):Tr (Int):=(.opt (zE (q8 n) n (x0,x1,x2,(x0.length:Int),(0:Int))) λa=>(.alt a (λb=>(.done b)) (λc=>(.done (-1:Int)))))
def Dr:Nat->RW->Int->Int->Option (Int)
 |0,_,_,_=>none
 |n+1,x0,x1,x2=>(DI n x0 x1 x2).run
abbrev Ei (n:Nat):List (Ent (Rn n)):= [en (XJ n)]
def GD (n:Nat):LEnt (KB 217) (Rn n) n:=lok (zU 217) 13 ⟨⟨[(0,aL),(1,(.c (.fn 156 [(.rp [vI,vI])]))),(7,aI),(8,aI)],[],[]⟩,[(.ret,⟨[(4,aI)],[],[]⟩),(.exit 0,⟨[],[],[]⟩)]⟩ (q8 n) (Ei n) [] λ_=>(by kernel_rfl)
theorem GR:∀n,Ok (Rn n) Ga (Dr n)
 |0=>ok0 λ_=>rfl
 |n+1=>stO (T:=DI n) (by kernel_rfl) (Ei n) [GD n] (λ_=>(by kernel_rfl)) λ_=>(by kernel_rfl)
def GE:Sg:=⟨155,[aL,(.c (.fn 156 [(.rp [vI,vI])]))],[],⟨aB,[],[]⟩⟩
def Df (n:Nat) (x0:RW) (x1 x2:Int):Tr (Bool):=(.opt (Dr n x0 x1 x2) λa=>(.done (decide (a≥(0:Int)))))
def Dh:Nat->RW->Int->Int->Option (Bool)
 |0,_,_,_=>none
 |n+1,x0,x1,x2=>(Df n x0 x1 x2).run
abbrev GF (n:Nat):List (Ent (Rn n)):= [en (GR n)]
theorem F8:∀n,Ok (Rn n) GE (Dh n)
 |0=>ok0 λ_=>rfl
 |n+1=>stO (T:=Df n) (by kernel_rfl) (GF n) [] (λ_=>(by kernel_rfl)) λ_=>(by kernel_rfl)
def Z0:Sg:=⟨87,[aL,(.agg [qI,qI])],[],⟨aB,[],[]⟩⟩
def Qk (n:Nat) (x0:RW) (x1 x2:Int):Tr (Bool):=(.opt (Dh n x0 x1 x2) λa=>(.done a))
def Jl:Nat->RW->Int->Int->Option (Bool)
 |0,_,_,_=>none
 |n+1,x0,x1,x2=>(Qk n x0 x1 x2).run
abbrev Z1 (n:Nat):List (Ent (Rn n)):= [en (F8 n)]
theorem TZ:∀n,Ok (Rn n) Z0 (Jl n)
 |0=>ok0 λ_=>rfl
 |n+1=>stO (T:=Qk n) (by kernel_rfl) (Z1 n) [] (λ_=>(by kernel_rfl)) λ_=>(by kernel_rfl)
def WG:Sg:=⟨80,[aL],[],⟨(.agg [qL,qL,qL]),[],[]⟩⟩
def FR (n:Nat) (v:RW×RW×RW×Nat×RW×Int×Int×RW×Int×Int×RW×Nat×Nat×RW×RW×RW):Tr ((RW×RW×RW×Nat×RW×Int×Int×RW×Int×Int×RW×Nat×Nat×RW×RW×RW)⊕((RW×RW×Nat×RW×Int×Int×RW×Nat×Nat×RW×RW×RW))):=(.ask ((decide (v.2.2.2.2.2.2.2.2.2.1<v.2.2.2.2.2.2.2.2.1))) (.ask (decide (0<=v.2.2.2.2.2.2.2.2.2.1/\v.2.2.2.2.2.2.2.2.2.1<v.2.2.2.2.2.2.2.1.length)) (.opt (v.2.2.2.2.2.2.2.1[(v.2.2.2.2.2.2.2.2.2.1).toNat]?) λa=>(.ask (decide (a.length=3)) (.opt (zC .i64 a 0) λb=>(.opt (zC .i64 a 1) λc=>(.opt (zk a 2) λf=>(.opt (Jl n v.2.2.1 b c) λd=>(.ask (d) (.ask (decide (1=([[(.i .i64 v.2.2.2.2.2.2.2.2.2.1)]]:RW).length)) (.ask (decide (v.2.2.2.1=v.2.2.2.2.2.2.2.2.2.2.2.2.2.1.length/\0<1/\0<8/\(v.2.2.2.1+([[(.i .i64 v.2.2.2.2.2.2.2.2.2.1)]]:RW).length)*8<=140737488355328/\([[(.i .i64 v.2.2.2.2.2.2.2.2.2.1)]]:RW).all (λe=>e.length==1)=true)) (.done (.inl (v.1,v.2.1,v.2.2.1,(v.2.2.2.1+1),v.2.2.2.2.1,v.2.2.2.2.2.1,v.2.2.2.2.2.2.1,v.2.2.2.2.2.2.2.1,v.2.2.2.2.2.2.2.2.1,(IntKind.i64.wrap (v.2.2.2.2.2.2.2.2.2.1+(1:Int))),v.2.2.2.2.2.2.2.2.2.2.1,v.2.2.2.2.2.2.2.2.2.2.2.1,v.2.2.2.2.2.2.2.2.2.2.2.2.1,(v.2.2.2.2.2.2.2.2.2.2.2.2.2.1++([[(.i .i64 v.2.2.2.2.2.2.2.2.2.1)]]:RW)),v.2.2.2.2.2.2.2.2.2.2.2.2.2.2.1,v.2.2.2.2.2.2.2.2.2.2.2.2.2.2.2))) .fail) .fail) (.done (.inl (v.1,v.2.1,v.2.2.1,v.2.2.2.1,v.2.2.2.2.1,v.2.2.2.2.2.1,v.2.2.2.2.2.2.1,v.2.2.2.2.2.2.2.1,v.2.2.2.2.2.2.2.2.1,(IntKind.i64.wrap (v.2.2.2.2.2.2.2.2.2.1+(1:Int))),v.2.2.2.2.2.2.2.2.2.2.1,v.2.2.2.2.2.2.2.2.2.2.2.1,v.2.2.2.2.2.2.2.2.2.2.2.2.1,v.2.2.2.2.2.2.2.2.2.2.2.2.2.1,v.2.2.2.2.2.2.2.2.2.2.2.2.2.2.1,v.2.2.2.2.2.2.2.2.2.2.2.2.2.2.2)))))))) .fail)) .fail) (.done (.inr ((v.1,v.2.1,v.2.2.2.1,v.2.2.2.2.1,v.2.2.2.2.2.1,v.2.2.2.2.2.2.1,v.2.2.2.2.2.2.2.2.2.2.1,v.2.2.2.2.2.2.2.2.2.2.2.1,v.2.2.2.2.2.2.2.2.2.2.2.2.1,v.2.2.2.2.2.2.2.2.2.2.2.2.2.1,v.2.2.2.2.2.2.2.2.2.2.2.2.2.2.1,v.2.2.2.2.2.2.2.2.2.2.2.2.2.2.2)))))
def Jc (n:Nat) (v:RW×RW×Int×Int×RW×Nat×Nat×RW×RW):Tr ((RW×RW×Int×Int×RW×Nat×Nat×RW×RW)⊕((RW×Nat×Nat×RW×RW))):=(.ask ((decide (v.2.2.2.1<v.2.2.1))) (.ask (decide (0<=v.2.2.2.1/\v.2.2.2.1<v.2.1.length)) (.opt (v.2.1[(v.2.2.2.1).toNat]?) λb=>(.ask (decide (b.length=3)) (.opt (zC .i64 b 0) λg=>(.opt (zC .i64 b 1) λh=>(.opt (zk b 2) λd=>(.opt (Hl n d) λc=>(.opt (Ih n c.1) λf=>(.opt (zE (FR n) n (v.1,c.1,f,(0:Nat),v.2.1,v.2.2.1,v.2.2.2.1,v.1,(v.1.length:Int),(0:Int),v.2.2.2.2.1,v.2.2.2.2.2.1,v.2.2.2.2.2.2.1,([]:RW),v.2.2.2.2.2.2.2.1,v.2.2.2.2.2.2.2.2)) λa=>(.ask (decide (1=([[(.ls a.2.1)]]:RW).length)) (.ask (decide (a.2.2.2.2.2.2.2.1=a.2.2.2.2.2.2.2.2.2.2.1.length/\0<1/\0<24/\(a.2.2.2.2.2.2.2.1+([[(.ls a.2.1)]]:RW).length)*24<=140737488355328/\([[(.ls a.2.1)]]:RW).all (λe=>e.length==1)=true)) (.ask (decide (a.2.2.1=a.2.2.2.2.2.2.2.2.2.1.length)) (.ask (decide (1=([[(.ls a.2.2.2.2.2.2.2.2.2.1)]]:RW).length)) (.ask (decide (a.2.2.2.2.2.2.2.2.1=a.2.2.2.2.2.2.2.2.2.2.2.length/\0<1/\0<24/\(a.2.2.2.2.2.2.2.2.1+([[(.ls a.2.2.2.2.2.2.2.2.2.1)]]:RW).length)*24<=140737488355328/\([[(.ls a.2.2.2.2.2.2.2.2.2.1)]]:RW).all (λe=>e.length==1)=true)) (.done (.inl (a.1,a.2.2.2.1,a.2.2.2.2.1,(IntKind.i64.wrap (a.2.2.2.2.2.1+(1:Int))),a.2.2.2.2.2.2.1,(a.2.2.2.2.2.2.2.1+1),(a.2.2.2.2.2.2.2.2.1+1),(a.2.2.2.2.2.2.2.2.2.2.1++([[(.ls a.2.1)]]:RW)),(a.2.2.2.2.2.2.2.2.2.2.2++([[(.ls a.2.2.2.2.2.2.2.2.2.1)]]:RW))))) .fail) .fail) .fail) .fail) .fail))))))) .fail)) .fail) (.done (.inr ((v.2.2.2.2.1,v.2.2.2.2.2.1,v.2.2.2.2.2.2.1,v.2.2.2.2.2.2.2.1,v.2.2.2.2.2.2.2.2)))))
def Pm (n:Nat) (x0:RW):Tr (RW×RW×RW):=(.opt (zE (Jc n) n (x0,x0,(x0.length:Int),(0:Int),x0,(0:Nat),(0:Nat),([]:RW),([]:RW))) λa=>(.ask (decide (a.2.1=a.2.2.2.1.length)) (.ask (decide (a.2.2.1=a.2.2.2.2.length)) (.done (a.1,a.2.2.2.1,a.2.2.2.2)) .fail) .fail))
def LY:Nat->RW->Option (RW×RW×RW)
 |0,_=>none
 |n+1,x0=>(Pm n x0).run
abbrev LZ (n:Nat):List (Ent (Rn n)):= [en (NP n),en (Pk n),en (TZ n)]
def Ql (n:Nat):LEnt (lb 29 (KB 80)) (Rn n) n:=lok (Uniq.pick (zU 80) 29) 7645 ⟨⟨[(0,aL),(2,(.c (.ptr 0 128 0 0 0))),(3,(.c (.ptr 0 192 0 0 0))),(6,aL),(8,aL),(9,(.c (.own 0 1792 0 0))),(14,aL),(15,aI),(16,aI),(29,aL),(30,aI),(31,aI)],oe,[]⟩,[(.exit 2,⟨[(0,aL),(2,(.c (.ptr 0 128 0 0 0))),(3,(.c (.ptr 0 192 0 0 0))),(6,aL),(9,(.c (.own 0 1792 0 0))),(14,aL),(15,aI),(16,aI)],oe,[]⟩)]⟩ (FR n) (LZ n) [] λ_=>(by kernel_rfl)
def Sn (n:Nat):LEnt (KB 80) (Rn n) n:=lok (zU 80) 29 ⟨⟨[(0,aL),(2,(.c (.ptr 0 128 0 0 0))),(3,(.c (.ptr 0 192 0 0 0))),(14,aL),(15,aI),(16,aI)],og,[]⟩,[(.exit 0,⟨[(2,(.c (.ptr 0 128 0 0 0))),(3,(.c (.ptr 0 192 0 0 0)))],og,[]⟩)]⟩ (Jc n) (LZ n) [Ql n] λ_=>(by kernel_rfl)
theorem Uu:∀n,Ok (Rn n) WG (LY n)
 |0=>ok0 λ_=>rfl
 |n+1=>stO (T:=Pm n) (by kernel_rfl) (LZ n) [Sn n] (λ_=>(by kernel_rfl)) λ_=>(by kernel_rfl)
def O5:Sg:=⟨152,[aL],[],⟨(.c (.own 0 0 0 0)),[],[⟨0,1,3,(.row [])⟩]⟩⟩
def H0 (n:Nat) (x0:RW):Tr (Nat×RW):=(.ask (decide (0=([]:RW).length/\0<1/\0<8/\(0+x0.length)*8<=140737488355328/\x0.all (λe=>e.length==1)=true)) (.ask (!(x0).isEmpty||gP (⟨(.c (.own 0 0 0 (0+x0.length))),[],[⟨0,1,3,(.row (([]:RW)++x0))⟩]⟩:Res)) (.done ((0+x0.length),(([]:RW)++x0))) .fail) .fail)
def H1:Nat->RW->Option (Nat×RW)
 |0,_=>none
 |n+1,x0=>(H0 n x0).run
theorem ON:∀n,Ok (Rn n) O5 (H1 n)
 |0=>ok0 λ_=>rfl
 |n+1=>stO (T:=H0 n) (by kernel_rfl) [] [] (λ_=>(by kernel_rfl)) λ_=>(by kernel_rfl)
def Rm:Sg:=⟨81,[(.agg [qL,qL,qL]),aI],[],⟨aB,[],[]⟩⟩
def H2 (n:Nat) (v:Int×Nat×Nat×Int×RW×RW×RW×RW×RW):Tr ((Int×Nat×Nat×Int×RW×RW×RW×RW×RW)⊕((Bool)⊕(Unit))):=(.ask ((decide (v.2.2.2.1<((v.2.2.1:Nat):Int)))) (.ask (decide (v.2.2.1=v.2.2.2.2.2.2.2.2.length/\0<=v.2.2.2.1/\v.2.2.2.1<((v.2.2.1:Nat):Int))) (.opt (v.2.2.2.2.2.2.2.2[(v.2.2.2.1).toNat]?) λg=>(.opt (zC .i64 g 0) λa=>(.ask ((a==v.1)) (.done (.inr (.inl (true)))) (.ask (decide (v.2.1=v.2.2.2.2.2.2.2.1.length/\0<=a/\a<((v.2.1:Nat):Int))) (.opt (v.2.2.2.2.2.2.2.1[(a).toNat]?) λh=>(.opt (aR h 0) λj=>(.ask ((!j)) (.ask (decide (v.2.1=v.2.2.2.2.2.2.2.1.length/\0<=a/\a<((v.2.1:Nat):Int))) (.opt (v.2.2.2.2.2.2.2.1[(a).toNat]?) λd=>(.ask (decide (0+1<=d.length)) (.ask (decide (0<=a/\a<v.2.2.2.2.2.2.1.length)) (.opt (v.2.2.2.2.2.2.1[(a).toNat]?) λf=>(.ask (decide (f.length=1)) (.opt (bR f 0) λc=>(.ask (decide (v.2.2.1=v.2.2.2.2.2.2.2.2.length/\0<1/\0<8/\(v.2.2.1+c.length)*8<=140737488355328/\c.all (λe=>e.length==1)=true)) (.done (.inl (v.1,v.2.1,(v.2.2.1+c.length),(IntKind.i64.wrap (v.2.2.2.1+(1:Int))),v.2.2.2.2.1,v.2.2.2.2.2.1,v.2.2.2.2.2.2.1,(v.2.2.2.2.2.2.2.1.set (a).toNat (zc d 0 [(.b true)])),(v.2.2.2.2.2.2.2.2++c)))) .fail)) .fail)) .fail) .fail)) .fail) (.done (.inl (v.1,v.2.1,v.2.2.1,(IntKind.i64.wrap (v.2.2.2.1+(1:Int))),v.2.2.2.2.1,v.2.2.2.2.2.1,v.2.2.2.2.2.2.1,v.2.2.2.2.2.2.2.1,v.2.2.2.2.2.2.2.2)))))) .fail)))) .fail) (.done (.inr (.inr (())))))
def JE (n:Nat) (x0 x1 x2:RW) (x3:Int):Tr (Bool):=(.ask (decide (0<=(x0.length:Int)/\(x0.length:Int)=(x0.length:Int)/\1*(x0.length:Int)<=140737488355328/\(x0.length:Int)<=9223372036854775807)) (.ask (decide (0<=x3/\x3<x2.length)) (.opt (x2[(x3).toNat]?) λa=>(.ask (decide (a.length=1)) (.opt (bR a 0) λd=>(.opt (H1 n d) λc=>(.opt (zE (H2 n) n (x3,((x0.length:Int)).toNat,c.1,(0:Int),x0,x1,x2,(jZ [(.b false)] ((x0.length:Int)).toNat),c.2)) λf=>(.alt f (λg=>(.done g)) (λh=>(.done false)))))) .fail)) .fail) .fail)
def JF:Nat->RW->RW->RW->Int->Option (Bool)
 |0,_,_,_,_=>none
 |n+1,x0,x1,x2,x3=>(JE n x0 x1 x2 x3).run
abbrev Lw (n:Nat):List (Ent (Rn n)):= [en (ON n)]
def O6 (n:Nat):LEnt (KB 81) (Rn n) n:=lok (zU 81) 61 ⟨⟨[(1,aI),(2,(.c (.ptr 0 128 0 0 0))),(5,(.c (.own 0 768 0 0))),(6,(.c (.own 0 1192 0 0))),(7,aI)],[(128,⟨0,3,118,(.box [qL,qL,qL])⟩),(768,⟨0,1,4,(.row [])⟩),(1192,⟨0,1,3,(.row [])⟩)],[]⟩,[(.ret,⟨[(4,aB)],[],[]⟩),(.exit 0,⟨[],[],[]⟩)]⟩ (H2 n) (Lw n) [] λ_=>(by kernel_rfl)
theorem Qm:∀n,Ok (Rn n) Rm (JF n)
 |0=>ok0 λ_=>rfl
 |n+1=>stO (T:=JE n) (by kernel_rfl) (Lw n) [O6 n] (λ_=>(by kernel_rfl)) λ_=>(by kernel_rfl)
def WH:Sg:=⟨21,[aL,(.agg [qI,qI])],[],⟨aB,[],[]⟩⟩
def IA (n:Nat) (x0:RW) (x1 x2:Int):Tr (Bool):=(.opt (KC n x0) λc=>(.ask ((!c)) (.done false) (.opt (Da n x0 x1 x2) λb=>(.ask ((decide (b≥(0:Int)))) (.opt (LY n x0) λa=>(.opt (JF n a.1 a.2.1 a.2.2 b) λd=>(.done d))) (.done false)))))
def La:Nat->RW->Int->Int->Option (Bool)
 |0,_,_,_=>none
 |n+1,x0,x1,x2=>(IA n x0 x1 x2).run
abbrev WI (n:Nat):List (Ent (Rn n)):= [en (Pj n),en (Fz n),en (Uu n),en (Qm n)]
theorem Uv:∀n,Ok (Rn n) WH (La n)
 |0=>ok0 λ_=>rfl
 |n+1=>stO (T:=IA n) (by kernel_rfl) (WI n) [] (λ_=>(by kernel_rfl)) λ_=>(by kernel_rfl)
def Z2:Sg:=⟨159,[aL,(.agg [qI,qI])],[],⟨aS,[],[]⟩⟩
def Mn (n:Nat) (v:RW×Int×Int×Int):Tr ((RW×Int×Int×Int)⊕((BA)⊕(Unit))):=(.ask ((decide (v.2.1<(v.1.length:Int)))) (.ask (decide (0<=v.2.1/\v.2.1<v.1.length)) (.opt (v.1[(v.2.1).toNat]?) λa=>(.ask (decide (a.length=3)) (.opt (zC .i64 a 0) λc=>(.opt (zC .i64 a 1) λd=>(.ask (((c==v.2.2.1)&&((d==v.2.2.2)&&true))) (.ask (decide (0<=v.2.1/\v.2.1<v.1.length)) (.opt (v.1[(v.2.1).toNat]?) λb=>(.ask (decide (b.length=3)) (.opt (zk b 2) λf=>(.done (.inr (.inl (f))))) .fail)) .fail) (.done (.inl (v.1,(IntKind.i64.wrap (v.2.1+(1:Int))),v.2.2.1,v.2.2.2)))))) .fail)) .fail) (.done (.inr (.inr (())))))
def VW (n:Nat) (x0:RW) (x1 x2:Int):Tr (BA):=(.opt (zE (Mn n) n (x0,(0:Int),x1,x2)) λa=>(.alt a (λb=>(.done b)) (λc=>(.done (⟨#[]⟩:BA)))))
def Qn:Nat->RW->Int->Int->Option (BA)
 |0,_,_,_=>none
 |n+1,x0,x1,x2=>(VW n x0 x1 x2).run
def XK (n:Nat):LEnt (KB 159) (Rn n) n:=lok (zU 159) 13 ⟨⟨[(0,aL),(3,(.c (.ptr 0 192 0 0 0))),(5,aI)],bi,[]⟩,[(.ret,⟨[(4,aS)],[],[]⟩),(.exit 0,⟨[],[],[]⟩)]⟩ (Mn n) [] [] λ_=>(by kernel_rfl)
theorem ZN:∀n,Ok (Rn n) Z2 (Qn n)
 |0=>ok0 λ_=>rfl
 |n+1=>stO (T:=VW n) (by kernel_rfl) [] [XK n] (λ_=>(by kernel_rfl)) λ_=>(by kernel_rfl)
def Uw:Sg:=⟨218,[aS],[],⟨(.tup [(false,[qL]),(false,[qB])]),[],[]⟩⟩
def Kh (n:Nat) (x0:BA):Tr (RW×Bool):=(.ask ((x0.toList==(⟨#[]⟩:BA).toList)) (.ask (decide (0=([]:RW).length)) (.done (([]:RW),false)) .fail) (.ask (decide (0<=(0:Int))) (.opt (x0.toList[((0:Int)).toNat]?) λb=>(.ask (((b.toNat:Int) !=(61:Int))) (.ask (decide (0=([]:RW).length)) (.done (([]:RW),false)) .fail) (.ask (decide (0<=(1:Int)/\(1:Int)<=(x0.size:Int)/\(x0.size:Int)<=x0.size)) (.opt (Hs n (x0.extract ((1:Int)).toNat ((x0.size:Int)).toNat)) λa=>(.done (a.1,a.2))) .fail))) .fail))
def Ki:Nat->BA->Option (RW×Bool)
 |0,_=>none
 |n+1,x0=>(Kh n x0).run
abbrev Ux (n:Nat):List (Ent (Rn n)):= [en (Ln n)]
theorem Ta:∀n,Ok (Rn n) Uw (Ki n)
 |0=>ok0 λ_=>rfl
 |n+1=>stO (T:=Kh n) (by kernel_rfl) (Ux n) [] (λ_=>(by kernel_rfl)) λ_=>(by kernel_rfl)
def XL:Sg:=⟨219,[aL],[],⟨aL,[],[]⟩⟩
def KE (n:Nat) (v:RW×Nat×Int×RW):Tr ((RW×Nat×Int×RW)⊕((Nat×RW))):=(.ask ((decide (v.2.2.1<(v.1.length:Int)))) (.ask (decide (0<=v.2.2.1/\v.2.2.1<v.1.length)) (.opt (v.1[(v.2.2.1).toNat]?) λp=>(.ask (decide (p.length=14)) (.opt (zC .i64 p 0) λq=>(.ask ((q==(2:Int))) (.ask (decide (0<=v.2.2.1/\v.2.2.1<v.1.length)) (.opt (v.1[(v.2.2.1).toNat]?) λk=>(.ask (decide (k.length=14)) (.opt (zC .i64 k 5) λa=>(.opt (zC .i64 k 6) λb=>(.ask (decide (0<=v.2.2.1/\v.2.2.1<v.1.length)) (.opt (v.1[(v.2.2.1).toNat]?) λl=>(.ask (decide (l.length=14)) (.opt (zC .i64 l 5) λc=>(.opt (zC .i64 l 6) λd=>(.ask (decide (1=([[(.i .i64 a),(.i .i64 b),(.i .i64 c),(.i .i64 d)]]:RW).length)) (.ask (decide (v.2.1=v.2.2.2.length/\0<4/\0<32/\(v.2.1+([[(.i .i64 a),(.i .i64 b),(.i .i64 c),(.i .i64 d)]]:RW).length)*32<=140737488355328/\([[(.i .i64 a),(.i .i64 b),(.i .i64 c),(.i .i64 d)]]:RW).all (λe=>e.length==4)=true)) (.done (.inl (v.1,(v.2.1+1),(IntKind.i64.wrap (v.2.2.1+(1:Int))),(v.2.2.2++([[(.i .i64 a),(.i .i64 b),(.i .i64 c),(.i .i64 d)]]:RW))))) .fail) .fail))) .fail)) .fail))) .fail)) .fail) (.ask ((q==(3:Int))) (.ask (decide (0<=v.2.2.1/\v.2.2.1<v.1.length)) (.opt (v.1[(v.2.2.1).toNat]?) λm=>(.ask (decide (m.length=14)) (.opt (zC .i64 m 5) λf=>(.opt (zC .i64 m 6) λg=>(.ask (decide (0<=v.2.2.1/\v.2.2.1<v.1.length)) (.opt (v.1[(v.2.2.1).toNat]?) λo=>(.ask (decide (o.length=14)) (.opt (zC .i64 o 9) λh=>(.opt (zC .i64 o 10) λj=>(.ask (decide (1=([[(.i .i64 f),(.i .i64 g),(.i .i64 h),(.i .i64 j)]]:RW).length)) (.ask (decide (v.2.1=v.2.2.2.length/\0<4/\0<32/\(v.2.1+([[(.i .i64 f),(.i .i64 g),(.i .i64 h),(.i .i64 j)]]:RW).length)*32<=140737488355328/\([[(.i .i64 f),(.i .i64 g),(.i .i64 h),(.i .i64 j)]]:RW).all (λe=>e.length==4)=true)) (.done (.inl (v.1,(v.2.1+1),(IntKind.i64.wrap (v.2.2.1+(1:Int))),(v.2.2.2++([[(.i .i64 f),(.i .i64 g),(.i .i64 h),(.i .i64 j)]]:RW))))) .fail) .fail))) .fail)) .fail))) .fail)) .fail) (.done (.inl (v.1,v.2.1,(IntKind.i64.wrap (v.2.2.1+(1:Int))),v.2.2.2)))))) .fail)) .fail) (.done (.inr ((v.2.1,v.2.2.2)))))
def Qo (n:Nat) (x0:RW):Tr (RW):=(.opt (FN n x0) λb=>(.ask ((!b)) (.ask (decide (0=([]:RW).length)) (.done ([]:RW)) .fail) (.opt (zE (KE n) n (x0,(0:Nat),(0:Int),([]:RW))) λa=>(.ask (decide (a.1=a.2.length)) (.done a.2) .fail))))
def Mo:Nat->RW->Option (RW)
 |0,_=>none
 |n+1,x0=>(Qo n x0).run
abbrev Qp (n:Nat):List (Ent (Rn n)):= [en (Jy n)]
def Tb (n:Nat):LEnt (KB 219) (Rn n) n:=lok (zU 219) 61 ⟨⟨[(0,aL),(3,(.c (.own 0 320 0 0))),(4,aI)],fu,[]⟩,[(.exit 0,⟨[(3,(.c (.own 0 320 0 0)))],fu,[]⟩)]⟩ (KE n) (Qp n) [] λ_=>(by kernel_rfl)
theorem WJ:∀n,Ok (Rn n) XL (Mo n)
 |0=>ok0 λ_=>rfl
 |n+1=>stO (T:=Qo n) (by kernel_rfl) (Qp n) [Tb n] (λ_=>(by kernel_rfl)) λ_=>(by kernel_rfl)
def XM:Sg:=⟨158,[aS],[],⟨aL,[],[]⟩⟩
def Mp (n:Nat) (x0:BA):Tr (RW):=(.opt (Ki n x0) λa=>(.ask ((!a.2)) (.ask (decide (0=([]:RW).length)) (.done ([]:RW)) .fail) (.opt (Mo n a.1) λb=>(.done b))))
def Mq:Nat->BA->Option (RW)
 |0,_=>none
 |n+1,x0=>(Mp n x0).run
abbrev XN (n:Nat):List (Ent (Rn n)):= [en (Ta n),en (WJ n)]
theorem WK:∀n,Ok (Rn n) XM (Mq n)
 |0=>ok0 λ_=>rfl
 |n+1=>stO (T:=Mp n) (by kernel_rfl) (XN n) [] (λ_=>(by kernel_rfl)) λ_=>(by kernel_rfl)
def WL:Sg:=⟨160,[(.agg [qI,qI]),(.agg [qI,qI,qI,qI])],[],⟨aB,[],[]⟩⟩
def Lb (n:Nat) (x0 x1 x2 x3 x4 x5:Int):Tr (Bool):=(.opt (FM n x0 x2 x4) λa=>(.ask (a) (.opt (FM n x1 x3 x5) λb=>(.done b)) (.done false)))
def JP:Nat->Int->Int->Int->Int->Int->Int->Option (Bool)
 |0,_,_,_,_,_,_=>none
 |n+1,x0,x1,x2,x3,x4,x5=>(Lb n x0 x1 x2 x3 x4 x5).run
abbrev WM (n:Nat):List (Ent (Rn n)):= [en (Iq n)]
theorem Uy:∀n,Ok (Rn n) WL (JP n)
 |0=>ok0 λ_=>rfl
 |n+1=>stO (T:=Lb n) (by kernel_rfl) (WM n) [] (λ_=>(by kernel_rfl)) λ_=>(by kernel_rfl)
def XO:Sg:=⟨88,[aL,(.agg [qI,qI])],[],⟨(.c (.own 0 0 0 0)),[],[⟨0,2,34,(.row [])⟩]⟩⟩
def HW (n:Nat) (v:RW×Nat×RW×Int×Bool×Int×RW):Tr ((RW×Nat×RW×Int×Bool×Int×RW)⊕((RW×Nat×RW×Int×Bool×RW))):=(.ask ((decide (v.2.2.2.2.2.1<(v.2.2.1.length:Int)))) (.ask (v.2.2.2.2.1) (.done (.inl (v.1,v.2.1,v.2.2.1,v.2.2.2.1,true,(IntKind.i64.wrap (v.2.2.2.2.2.1+(1:Int))),v.2.2.2.2.2.2))) (.ask (decide (0<=v.2.2.2.1/\v.2.2.2.1<v.1.length)) (.opt (v.1[(v.2.2.2.1).toNat]?) λb=>(.ask (decide (b.length=3)) (.opt (zC .i64 b 0) λc=>(.opt (zC .i64 b 1) λd=>(.ask (decide (0<=v.2.2.2.2.2.1/\v.2.2.2.2.2.1<v.2.2.1.length)) (.opt (v.2.2.1[(v.2.2.2.2.2.1).toNat]?) λa=>(.ask (decide (a.length=4)) (.opt (zC .i64 a 0) λf=>(.opt (zC .i64 a 1) λg=>(.opt (zC .i64 a 2) λh=>(.opt (zC .i64 a 3) λj=>(.opt (JP n c d f g h j) λk=>(.done (.inl (v.1,v.2.1,v.2.2.1,v.2.2.2.1,k,(IntKind.i64.wrap (v.2.2.2.2.2.1+(1:Int))),v.2.2.2.2.2.2)))))))) .fail)) .fail))) .fail)) .fail)) (.done (.inr ((v.1,v.2.1,v.2.2.1,v.2.2.2.1,v.2.2.2.2.1,v.2.2.2.2.2.2)))))
def IQ (n:Nat) (v:RW×Nat×RW×Int×RW):Tr ((RW×Nat×RW×Int×RW)⊕((Nat×RW))):=(.ask ((decide (v.2.2.2.1<(v.1.length:Int)))) (.opt (zE (HW n) n (v.1,v.2.1,v.2.2.1,v.2.2.2.1,false,(0:Int),v.2.2.2.2)) λa=>(.ask (a.2.2.2.2.1) (.ask (decide (0<=a.2.2.2.1/\a.2.2.2.1<a.1.length)) (.opt (a.1[(a.2.2.2.1).toNat]?) λd=>(.ask (decide (d.length=3)) (.opt (zC .i64 d 0) λb=>(.opt (zC .i64 d 1) λc=>(.ask (decide (1=([[(.i .i64 b),(.i .i64 c)]]:RW).length)) (.ask (decide (a.2.1=a.2.2.2.2.2.length/\0<2/\0<16/\(a.2.1+([[(.i .i64 b),(.i .i64 c)]]:RW).length)*16<=140737488355328/\([[(.i .i64 b),(.i .i64 c)]]:RW).all (λe=>e.length==2)=true)) (.done (.inl (a.1,(a.2.1+1),a.2.2.1,(IntKind.i64.wrap (a.2.2.2.1+(1:Int))),(a.2.2.2.2.2++([[(.i .i64 b),(.i .i64 c)]]:RW))))) .fail) .fail))) .fail)) .fail) (.done (.inl (a.1,a.2.1,a.2.2.1,(IntKind.i64.wrap (a.2.2.2.1+(1:Int))),a.2.2.2.2.2))))) (.done (.inr ((v.2.1,v.2.2.2.2)))))
def Mr (n:Nat) (x0:RW) (x1 x2:Int):Tr (Nat×RW):=(.opt (Qn n x0 x1 x2) λb=>(.opt (Mq n b) λc=>(.opt (zE (IQ n) n (x0,(0:Nat),c,(0:Int),([]:RW))) λa=>(.done (a.1,a.2)))))
def GG:Nat->RW->Int->Int->Option (Nat×RW)
 |0,_,_,_=>none
 |n+1,x0,x1,x2=>(Mr n x0 x1 x2).run
abbrev Ms (n:Nat):List (Ent (Rn n)):= [en (ZN n),en (WK n),en (Uy n)]
def Ro (n:Nat):LEnt (lb 61 (KB 88)) (Rn n) n:=lok (Uniq.pick (zU 88) 61) 1973 ⟨⟨[(0,aL),(5,(.c (.own 0 640 0 0))),(6,aL),(7,aI),(8,aB),(9,aI)],ZA,[]⟩,[(.exit 2,⟨[(0,aL),(5,(.c (.own 0 640 0 0))),(6,aL),(7,aI),(8,aB)],ZA,[]⟩)]⟩ (HW n) (Ms n) [] λ_=>(by kernel_rfl)
def Tc (n:Nat):LEnt (KB 88) (Rn n) n:=lok (zU 88) 61 ⟨⟨[(0,aL),(5,(.c (.own 0 640 0 0))),(6,aL),(7,aI)],ZA,[]⟩,[(.exit 0,⟨[(5,(.c (.own 0 640 0 0)))],ZA,[]⟩)]⟩ (IQ n) (Ms n) [Ro n] λ_=>(by kernel_rfl)
theorem Pn:∀n,Ok (Rn n) XO (GG n)
 |0=>ok0 λ_=>rfl
 |n+1=>stO (T:=Mr n) (by kernel_rfl) (Ms n) [Tc n] (λ_=>(by kernel_rfl)) λ_=>(by kernel_rfl)
def ZO:Sg:=⟨153,[aL,(.agg [qI,qI])],[],⟨aB,[],[]⟩⟩
def Lc (n:Nat) (v:RW×Int×Int×Int):Tr ((RW×Int×Int×Int)⊕((Bool)⊕(Unit))):=(.ask ((decide (v.2.1<(v.1.length:Int)))) (.ask (decide (0<=v.2.1/\v.2.1<v.1.length)) (.opt (v.1[(v.2.1).toNat]?) λa=>(.ask (decide (a.length=2)) (.opt (zC .i64 a 0) λb=>(.opt (zC .i64 a 1) λc=>(.ask (((b==v.2.2.1)&&((c==v.2.2.2)&&true))) (.done (.inr (.inl (true)))) (.done (.inl (v.1,(IntKind.i64.wrap (v.2.1+(1:Int))),v.2.2.1,v.2.2.2)))))) .fail)) .fail) (.done (.inr (.inr (())))))
def Td (n:Nat) (x0:RW) (x1 x2:Int):Tr (Bool):=(.opt (zE (Lc n) n (x0,(0:Int),x1,x2)) λa=>(.alt a (λb=>(.done b)) (λc=>(.done false))))
def O7:Nat->RW->Int->Int->Option (Bool)
 |0,_,_,_=>none
 |n+1,x0,x1,x2=>(Td n x0 x1 x2).run
def WN (n:Nat):LEnt (KB 153) (Rn n) n:=lok (zU 153) 13 ⟨⟨[(0,aL),(3,(.c (.ptr 0 192 0 0 0))),(5,aI)],bi,[]⟩,[(.ret,⟨[(4,aB)],[],[]⟩),(.exit 0,⟨[],[],[]⟩)]⟩ (Lc n) [] [] λ_=>(by kernel_rfl)
theorem YR:∀n,Ok (Rn n) ZO (O7 n)
 |0=>ok0 λ_=>rfl
 |n+1=>stO (T:=Td n) (by kernel_rfl) [] [WN n] (λ_=>(by kernel_rfl)) λ_=>(by kernel_rfl)
def WO:Sg:=⟨83,[aL,(.agg [qI,qI])],[],⟨aB,[],[]⟩⟩
def HX (n:Nat) (v:RW×Nat×Int×Nat×Int×Int×Int×RW×RW):Tr ((RW×Nat×Int×Nat×Int×Int×Int×RW×RW)⊕((RW×Nat×Int×Int×Int×RW))):=(.ask ((decide (v.2.2.2.2.1<((v.2.2.2.1:Nat):Int)))) (.ask (decide (v.2.2.2.1=v.2.2.2.2.2.2.2.2.length/\0<=v.2.2.2.2.1/\v.2.2.2.2.1<((v.2.2.2.1:Nat):Int))) (.opt (v.2.2.2.2.2.2.2.2[(v.2.2.2.2.1).toNat]?) λf=>(.opt (zC .i64 f 0) λj=>(.opt (zC .i64 f 1) λk=>(.ask (decide (v.2.1=v.2.2.2.2.2.2.2.1.length)) (.opt (O7 n v.2.2.2.2.2.2.2.1 j k) λg=>(.ask (aZ (⟨(.c (.p (.b g))),[],[]⟩:Res)) (.ask ((!g)) (.ask (decide (v.2.2.2.1=v.2.2.2.2.2.2.2.2.length/\0<=v.2.2.2.2.1/\v.2.2.2.2.1<((v.2.2.2.1:Nat):Int))) (.opt (v.2.2.2.2.2.2.2.2[(v.2.2.2.2.1).toNat]?) λh=>(.opt (zC .i64 h 0) λa=>(.opt (zC .i64 h 1) λd=>(.ask (decide (1=([[(.i .i64 a),(.i .i64 d)]]:RW).length)) (.ask (decide (v.2.1=v.2.2.2.2.2.2.2.1.length/\0<2/\0<16/\(v.2.1+([[(.i .i64 a),(.i .i64 d)]]:RW).length)*16<=140737488355328/\([[(.i .i64 a),(.i .i64 d)]]:RW).all (λe=>e.length==2)=true)) (.done (.inl (v.1,(v.2.1+1),v.2.2.1,v.2.2.2.1,(IntKind.i64.wrap (v.2.2.2.2.1+(1:Int))),v.2.2.2.2.2.1,v.2.2.2.2.2.2.1,(v.2.2.2.2.2.2.2.1++([[(.i .i64 a),(.i .i64 d)]]:RW)),v.2.2.2.2.2.2.2.2))) .fail) .fail)))) .fail) (.done (.inl (v.1,v.2.1,v.2.2.1,v.2.2.2.1,(IntKind.i64.wrap (v.2.2.2.2.1+(1:Int))),v.2.2.2.2.2.1,v.2.2.2.2.2.2.1,v.2.2.2.2.2.2.2.1,v.2.2.2.2.2.2.2.2)))) .fail)) .fail)))) .fail) (.done (.inr ((v.1,v.2.1,v.2.2.1,v.2.2.2.2.2.1,v.2.2.2.2.2.2.1,v.2.2.2.2.2.2.2.1)))))
def Je (n:Nat) (v:RW×Nat×Int×Int×Int×RW):Tr ((RW×Nat×Int×Int×Int×RW)⊕((Bool)⊕(Unit))):=(.ask ((decide (v.2.2.1<((v.2.1:Nat):Int)))) (.ask (decide (v.2.1=v.2.2.2.2.2.length/\0<=v.2.2.1/\v.2.2.1<((v.2.1:Nat):Int))) (.opt (v.2.2.2.2.2[(v.2.2.1).toNat]?) λb=>(.opt (zC .i64 b 0) λf=>(.opt (zC .i64 b 1) λg=>(.ask (((f==v.2.2.2.1)&&((g==v.2.2.2.2.1)&&true))) (.done (.inr (.inl (true)))) (.ask (decide (v.2.1=v.2.2.2.2.2.length/\0<=v.2.2.1/\v.2.2.1<((v.2.1:Nat):Int))) (.opt (v.2.2.2.2.2[(v.2.2.1).toNat]?) λc=>(.opt (zC .i64 c 0) λh=>(.opt (zC .i64 c 1) λj=>(.opt (GG n v.1 h j) λd=>(.opt (zE (HX n) n (v.1,v.2.1,v.2.2.1,d.1,(0:Int),v.2.2.2.1,v.2.2.2.2.1,v.2.2.2.2.2,d.2)) λa=>(.done (.inl (a.1,a.2.1,(IntKind.i64.wrap (a.2.2.1+(1:Int))),a.2.2.2.1,a.2.2.2.2.1,a.2.2.2.2.2)))))))) .fail))))) .fail) (.done (.inr (.inr (())))))
def JQ (n:Nat) (x0:RW) (x1 x2:Int):Tr (Bool):=(.opt (GG n x0 x1 x2) λa=>(.opt (zE (Je n) n (x0,a.1,(0:Int),x1,x2,a.2)) λb=>(.alt b (λc=>(.done c)) (λd=>(.done false)))))
def Ld:Nat->RW->Int->Int->Option (Bool)
 |0,_,_,_=>none
 |n+1,x0,x1,x2=>(JQ n x0 x1 x2).run
abbrev Le (n:Nat):List (Ent (Rn n)):= [en (Pn n),en (YR n)]
def Rp (n:Nat):LEnt (lb 29 (KB 83)) (Rn n) n:=lok (Uniq.pick (zU 83) 29) 951 ⟨⟨[(0,aL),(3,(.c (.ptr 0 192 0 0 0))),(5,(.c (.own 0 744 0 0))),(6,aI),(7,(.c (.own 0 1896 0 0))),(8,aI)],[(192,⟨0,2,34,(.box [qI,qI])⟩),(744,⟨0,2,34,(.row [])⟩),(1896,⟨0,2,34,(.row [])⟩)],[]⟩,[(.exit 2,⟨[(0,aL),(3,(.c (.ptr 0 192 0 0 0))),(5,(.c (.own 0 744 0 0))),(6,aI)],fp,[]⟩)]⟩ (HX n) (Le n) [] λ_=>(by kernel_rfl)
def Sp (n:Nat):LEnt (KB 83) (Rn n) n:=lok (zU 83) 29 ⟨⟨[(0,aL),(3,(.c (.ptr 0 192 0 0 0))),(5,(.c (.own 0 744 0 0))),(6,aI)],fp,[]⟩,[(.ret,⟨[(4,aB)],[],[]⟩),(.exit 0,⟨[],[],[]⟩)]⟩ (Je n) (Le n) [Rp n] λ_=>(by kernel_rfl)
theorem Uz:∀n,Ok (Rn n) WO (Ld n)
 |0=>ok0 λ_=>rfl
 |n+1=>stO (T:=JQ n) (by kernel_rfl) (Le n) [Sp n] (λ_=>(by kernel_rfl)) λ_=>(by kernel_rfl)
def WP:Sg:=⟨22,[aL,(.agg [qI,qI])],[],⟨aB,[],[]⟩⟩
def JR (n:Nat) (x0:RW) (x1 x2:Int):Tr (Bool):=(.opt (IZ n x0) λa=>(.ask (a) (.opt (Ld n x0 x1 x2) λb=>(.done b)) (.done false)))
def Lf:Nat->RW->Int->Int->Option (Bool)
 |0,_,_,_=>none
 |n+1,x0,x1,x2=>(JR n x0 x1 x2).run
abbrev WQ (n:Nat):List (Ent (Rn n)):= [en (LQ n),en (Uz n)]
theorem U0:∀n,Ok (Rn n) WP (Lf n)
 |0=>ok0 λ_=>rfl
 |n+1=>stO (T:=JR n) (by kernel_rfl) (WQ n) [] (λ_=>(by kernel_rfl)) λ_=>(by kernel_rfl)
def WR:Sg:=⟨85,[aL,(.agg [qI,qI])],[],⟨aS,[],[]⟩⟩
def Jf (n:Nat) (v:RW×Int×Int×Int×Int):Tr ((RW×Int×Int×Int×Int)⊕((BA)⊕(Unit))):=(.ask ((decide (v.2.2.1<v.2.1))) (.ask (decide (0<=v.2.2.1/\v.2.2.1<v.1.length)) (.opt (v.1[(v.2.2.1).toNat]?) λa=>(.ask (decide (a.length=3)) (.opt (zC .i64 a 0) λb=>(.opt (zC .i64 a 1) λc=>(.opt (zk a 2) λd=>(.ask (((b==v.2.2.2.1)&&((c==v.2.2.2.2)&&true))) (.done (.inr (.inl (d)))) (.done (.inl (v.1,v.2.1,(IntKind.i64.wrap (v.2.2.1+(1:Int))),v.2.2.2.1,v.2.2.2.2))))))) .fail)) .fail) (.done (.inr (.inr (())))))
def Po (n:Nat) (x0:RW) (x1 x2:Int):Tr (BA):=(.opt (zE (Jf n) n (x0,(x0.length:Int),(0:Int),x1,x2)) λa=>(.alt a (λb=>(.done b)) (λc=>(.done (⟨#[]⟩:BA)))))
def Lg:Nat->RW->Int->Int->Option (BA)
 |0,_,_,_=>none
 |n+1,x0,x1,x2=>(Po n x0 x1 x2).run
def Sq (n:Nat):LEnt (KB 85) (Rn n) n:=lok (zU 85) 13 ⟨⟨[(3,(.c (.ptr 0 192 0 0 0))),(7,aL),(8,aI),(9,aI)],bi,[]⟩,[(.ret,⟨[(4,aS)],[],[]⟩),(.exit 0,⟨[],[],[]⟩)]⟩ (Jf n) [] [] λ_=>(by kernel_rfl)
theorem U1:∀n,Ok (Rn n) WR (Lg n)
 |0=>ok0 λ_=>rfl
 |n+1=>stO (T:=Po n) (by kernel_rfl) [] [Sq n] (λ_=>(by kernel_rfl)) λ_=>(by kernel_rfl)
def XP:Sg:=⟨24,[aL,(.agg [qI,qI])],[],⟨(.c (.own 0 0 0 0)),[],[⟨0,2,34,(.row [])⟩]⟩⟩
def H3 (n:Nat) (v:RW×Nat×RW×Int×Int×RW):Tr ((RW×Nat×RW×Int×Int×RW)⊕((Nat×RW))):=(.ask ((decide (v.2.2.2.2.1<v.2.2.2.1))) (.ask (decide (0<=v.2.2.2.2.1/\v.2.2.2.2.1<v.2.2.1.length)) (.opt (v.2.2.1[(v.2.2.2.2.1).toNat]?) λc=>(.ask (decide (c.length=3)) (.opt (zC .i64 c 0) λa=>(.opt (zC .i64 c 1) λb=>(.opt (zk c 2) λf=>(.opt (Jl n v.1 a b) λd=>(.ask (d) (.ask (decide (1=([[(.i .i64 a),(.i .i64 b)]]:RW).length)) (.ask (decide (v.2.1=v.2.2.2.2.2.length/\0<2/\0<16/\(v.2.1+([[(.i .i64 a),(.i .i64 b)]]:RW).length)*16<=140737488355328/\([[(.i .i64 a),(.i .i64 b)]]:RW).all (λe=>e.length==2)=true)) (.done (.inl (v.1,(v.2.1+1),v.2.2.1,v.2.2.2.1,(IntKind.i64.wrap (v.2.2.2.2.1+(1:Int))),(v.2.2.2.2.2++([[(.i .i64 a),(.i .i64 b)]]:RW))))) .fail) .fail) (.done (.inl (v.1,v.2.1,v.2.2.1,v.2.2.2.1,(IntKind.i64.wrap (v.2.2.2.2.1+(1:Int))),v.2.2.2.2.2)))))))) .fail)) .fail) (.done (.inr ((v.2.1,v.2.2.2.2.2)))))
def Mt (n:Nat) (x0:RW) (x1 x2:Int):Tr (Nat×RW):=(.opt (KC n x0) λc=>(.ask ((!c)) (.done ((0:Nat),([]:RW))) (.opt (Lg n x0 x1 x2) λd=>(.opt (Hl n d) λa=>(.ask ((!a.2)) (.done ((0:Nat),([]:RW))) (.opt (Ih n a.1) λf=>(.opt (zE (H3 n) n (f,(0:Nat),x0,(x0.length:Int),(0:Int),([]:RW))) λb=>(.done (b.1,b.2)))))))))
def GH:Nat->RW->Int->Int->Option (Nat×RW)
 |0,_,_,_=>none
 |n+1,x0,x1,x2=>(Mt n x0 x1 x2).run
abbrev Qq (n:Nat):List (Ent (Rn n)):= [en (Pj n),en (U1 n),en (NP n),en (Pk n),en (TZ n)]
def Sr (n:Nat):LEnt (KB 24) (Rn n) n:=lok (zU 24) 253 ⟨⟨[(7,aL),(8,(.c (.own 0 1600 0 0))),(26,aL),(27,aI),(28,aI)],fv,[]⟩,[(.exit 0,⟨[(8,(.c (.own 0 1600 0 0)))],fv,[]⟩)]⟩ (H3 n) (Qq n) [] λ_=>(by kernel_rfl)
theorem WS:∀n,Ok (Rn n) XP (GH n)
 |0=>ok0 λ_=>rfl
 |n+1=>stO (T:=Mt n) (by kernel_rfl) (Qq n) [Sr n] (λ_=>(by kernel_rfl)) λ_=>(by kernel_rfl)
def XQ:Sg:=⟨25,[aL,(.agg [qI,qI])],[],⟨aL,[],[]⟩⟩
def Mu (n:Nat) (x0:RW) (x1 x2:Int):Tr (RW):=(.opt (IZ n x0) λb=>(.ask ((!b)) (.ask (decide (0=([]:RW).length)) (.done ([]:RW)) .fail) (.opt (GG n x0 x1 x2) λa=>(.ask (decide (a.1=a.2.length)) (.done a.2) .fail))))
def Mv:Nat->RW->Int->Int->Option (RW)
 |0,_,_,_=>none
 |n+1,x0,x1,x2=>(Mu n x0 x1 x2).run
abbrev XR (n:Nat):List (Ent (Rn n)):= [en (LQ n),en (Pn n)]
theorem WT:∀n,Ok (Rn n) XQ (Mv n)
 |0=>ok0 λ_=>rfl
 |n+1=>stO (T:=Mu n) (by kernel_rfl) (XR n) [] (λ_=>(by kernel_rfl)) λ_=>(by kernel_rfl)
def WU:Sg:=⟨23,[aL,aL],[],⟨aB,[],[]⟩⟩
def Gs (n:Nat) (v:RW×RW×Int):Tr ((RW×RW×Int)⊕((Bool)⊕(Unit))):=(.ask ((decide (v.2.2<(v.1.length:Int)))) (.ask (decide (0<=v.2.2/\v.2.2<v.1.length)) (.opt (v.1[(v.2.2).toNat]?) λa=>(.ask (decide (a.length=2)) (.opt (zC .i64 a 0) λc=>(.opt (zC .i64 a 1) λd=>(.ask (decide (0<=v.2.2/\v.2.2<v.2.1.length)) (.opt (v.2.1[(v.2.2).toNat]?) λb=>(.ask (decide (b.length=2)) (.opt (zC .i64 b 0) λf=>(.opt (zC .i64 b 1) λg=>(.ask ((!((c==f)&&((d==g)&&true)))) (.done (.inr (.inl (false)))) (.done (.inl (v.1,v.2.1,(IntKind.i64.wrap (v.2.2+(1:Int))))))))) .fail)) .fail))) .fail)) .fail) (.done (.inr (.inr (())))))
def Lh (n:Nat) (x0 x1:RW):Tr (Bool):=(.ask (((x0.length:Int) !=(x1.length:Int))) (.done false) (.opt (zE (Gs n) n (x0,x1,(0:Int))) λa=>(.alt a (λb=>(.done b)) (λc=>(.done true)))))
def JS:Nat->RW->RW->Option (Bool)
 |0,_,_=>none
 |n+1,x0,x1=>(Lh n x0 x1).run
def Ss (n:Nat):LEnt (KB 23) (Rn n) n:=lok (zU 23) 29 ⟨⟨[(0,aL),(1,aL),(5,aI)],[],[]⟩,[(.ret,⟨[(4,aB)],[],[]⟩),(.exit 0,⟨[],[],[]⟩)]⟩ (Gs n) [] [] λ_=>(by kernel_rfl)
theorem U2:∀n,Ok (Rn n) WU (JS n)
 |0=>ok0 λ_=>rfl
 |n+1=>stO (T:=Lh n) (by kernel_rfl) [] [Ss n] (λ_=>(by kernel_rfl)) λ_=>(by kernel_rfl)
def YS:Sg:=⟨26,[aL,(.agg [qI,qI])],[],⟨aB,[],[]⟩⟩
def Kk (n:Nat) (v:RW×Int×Int×Int):Tr ((RW×Int×Int×Int)⊕((Bool)⊕(Unit))):=(.ask ((decide (v.2.1<(v.1.length:Int)))) (.ask (decide (0<=v.2.1/\v.2.1<v.1.length)) (.opt (v.1[(v.2.1).toNat]?) λa=>(.ask (decide (a.length=2)) (.opt (zC .i64 a 0) λb=>(.opt (zC .i64 a 1) λc=>(.ask (((b==v.2.2.1)&&((c==v.2.2.2)&&true))) (.done (.inr (.inl (true)))) (.done (.inl (v.1,(IntKind.i64.wrap (v.2.1+(1:Int))),v.2.2.1,v.2.2.2)))))) .fail)) .fail) (.done (.inr (.inr (())))))
def R4 (n:Nat) (x0:RW) (x1 x2:Int):Tr (Bool):=(.opt (zE (Kk n) n (x0,(0:Int),x1,x2)) λa=>(.alt a (λb=>(.done b)) (λc=>(.done false))))
def IF:Nat->RW->Int->Int->Option (Bool)
 |0,_,_,_=>none
 |n+1,x0,x1,x2=>(R4 n x0 x1 x2).run
def U3 (n:Nat):LEnt (KB 26) (Rn n) n:=lok (zU 26) 13 ⟨⟨[(0,aL),(3,(.c (.ptr 0 192 0 0 0))),(5,aI)],bi,[]⟩,[(.ret,⟨[(4,aB)],[],[]⟩),(.exit 0,⟨[],[],[]⟩)]⟩ (Kk n) [] [] λ_=>(by kernel_rfl)
theorem XS:∀n,Ok (Rn n) YS (IF n)
 |0=>ok0 λ_=>rfl
 |n+1=>stO (T:=R4 n) (by kernel_rfl) [] [U3 n] (λ_=>(by kernel_rfl)) λ_=>(by kernel_rfl)
def U4:Sg:=⟨4,[aL],[],⟨aB,[],[]⟩⟩
def G1 (n:Nat) (v:RW×Bool×Nat×Int×Nat×Int×Int×Int×RW×RW):Tr ((RW×Bool×Nat×Int×Nat×Int×Int×Int×RW×RW)⊕((RW×Bool×Nat×Int×Int×Int×RW))):=(.ask ((decide (v.2.2.2.2.2.1<((v.2.2.2.2.1:Nat):Int)))) (.ask (decide (v.2.2.2.2.1=v.2.2.2.2.2.2.2.2.2.length/\0<=v.2.2.2.2.2.1/\v.2.2.2.2.2.1<((v.2.2.2.2.1:Nat):Int))) (.opt (v.2.2.2.2.2.2.2.2.2[(v.2.2.2.2.2.1).toNat]?) λf=>(.opt (zC .i64 f 0) λj=>(.opt (zC .i64 f 1) λk=>(.ask (decide (v.2.2.1=v.2.2.2.2.2.2.2.2.1.length)) (.opt (IF n v.2.2.2.2.2.2.2.2.1 j k) λg=>(.ask (aZ (⟨(.c (.p (.b g))),[],[]⟩:Res)) (.ask ((!g)) (.ask (decide (v.2.2.2.2.1=v.2.2.2.2.2.2.2.2.2.length/\0<=v.2.2.2.2.2.1/\v.2.2.2.2.2.1<((v.2.2.2.2.1:Nat):Int))) (.opt (v.2.2.2.2.2.2.2.2.2[(v.2.2.2.2.2.1).toNat]?) λh=>(.opt (zC .i64 h 0) λa=>(.opt (zC .i64 h 1) λd=>(.ask (decide (1=([[(.i .i64 a),(.i .i64 d)]]:RW).length)) (.ask (decide (v.2.2.1=v.2.2.2.2.2.2.2.2.1.length/\0<2/\0<16/\(v.2.2.1+([[(.i .i64 a),(.i .i64 d)]]:RW).length)*16<=140737488355328/\([[(.i .i64 a),(.i .i64 d)]]:RW).all (λe=>e.length==2)=true)) (.done (.inl (v.1,v.2.1,(v.2.2.1+1),v.2.2.2.1,v.2.2.2.2.1,(IntKind.i64.wrap (v.2.2.2.2.2.1+(1:Int))),v.2.2.2.2.2.2.1,v.2.2.2.2.2.2.2.1,(v.2.2.2.2.2.2.2.2.1++([[(.i .i64 a),(.i .i64 d)]]:RW)),v.2.2.2.2.2.2.2.2.2))) .fail) .fail)))) .fail) (.done (.inl (v.1,v.2.1,v.2.2.1,v.2.2.2.1,v.2.2.2.2.1,(IntKind.i64.wrap (v.2.2.2.2.2.1+(1:Int))),v.2.2.2.2.2.2.1,v.2.2.2.2.2.2.2.1,v.2.2.2.2.2.2.2.2.1,v.2.2.2.2.2.2.2.2.2)))) .fail)) .fail)))) .fail) (.done (.inr ((v.1,v.2.1,v.2.2.1,v.2.2.2.1,v.2.2.2.2.2.2.1,v.2.2.2.2.2.2.2.1,v.2.2.2.2.2.2.2.2.1)))))
def GI (n:Nat) (v:RW×Bool×Nat×Int×Int×Int×RW):Tr ((RW×Bool×Nat×Int×Int×Int×RW)⊕((Bool×Nat×Int×Int×RW))):=(.ask ((decide (v.2.2.2.1<((v.2.2.1:Nat):Int)))) (.ask (decide (v.2.2.1=v.2.2.2.2.2.2.length/\0<=v.2.2.2.1/\v.2.2.2.1<((v.2.2.1:Nat):Int))) (.opt (v.2.2.2.2.2.2[(v.2.2.2.1).toNat]?) λb=>(.opt (zC .i64 b 0) λd=>(.opt (zC .i64 b 1) λf=>(.opt (GH n v.1 d f) λc=>(.opt (zE (G1 n) n (v.1,v.2.1,v.2.2.1,v.2.2.2.1,c.1,(0:Int),v.2.2.2.2.1,v.2.2.2.2.2.1,v.2.2.2.2.2.2,c.2)) λa=>(.done (.inl (a.1,a.2.1,a.2.2.1,(IntKind.i64.wrap (a.2.2.2.1+(1:Int))),a.2.2.2.2.1,a.2.2.2.2.2.1,a.2.2.2.2.2.2)))))))) .fail) (.done (.inr ((v.2.1,v.2.2.1,v.2.2.2.2.1,v.2.2.2.2.2.1,v.2.2.2.2.2.2)))))
def Kl (n:Nat) (x0:RW):Tr (Bool):=(.opt (Oc n x0) λl=>(.ask (l) (.done true) (.opt (HV n x0) λa=>(.opt (La n a.1 a.2.1 a.2.2) λg=>(.opt (Lf n a.1 a.2.1 a.2.2) λm=>(.ask ((!(g==m))) (.done false) (.opt (GH n a.1 a.2.1 a.2.2) λf=>(.opt (Mv n a.1 a.2.1 a.2.2) λo=>(.ask (decide (f.1=f.2.length)) (.opt (JS n f.2 o) λh=>(.ask (aZ (⟨(.c (.p (.b h))),[],[]⟩:Res)) (.ask ((!h)) (.done false) (.opt (GH n a.1 a.2.1 a.2.2) λj=>(.opt (zE (GI n) n (a.1,g,j.1,(0:Int),a.2.1,a.2.2,j.2)) λd=>(.ask (decide (d.2.1=d.2.2.2.2.length)) (.opt (IF n d.2.2.2.2 d.2.2.1 d.2.2.2.1) λk=>(.ask (aZ (⟨(.c (.p (.b k))),[],[]⟩:Res)) (.done (k==d.1)) .fail)) .fail)))) .fail)) .fail)))))))))
def OO:Nat->RW->Option (Bool)
 |0,_=>none
 |n+1,x0=>(Kl n x0).run
abbrev Km (n:Nat):List (Ent (Rn n)):= [en (Zx n),en (QP n),en (Uv n),en (U0 n),en (WS n),en (WT n),en (U2 n),en (XS n)]
def P7 (n:Nat):LEnt (lb 509 (KB 4)) (Rn n) n:=lok (Uniq.pick (zU 4) 509) 8155 ⟨⟨[(3,aL),(4,(.c (.ptr 0 256 0 0 0))),(5,aB),(6,(.c (.own 0 2408 0 0))),(7,aI),(8,(.c (.own 0 3176 0 0))),(9,aI)],[(256,⟨0,2,34,(.box [qI,qI])⟩),(2408,⟨0,2,34,(.row [])⟩),(3176,⟨0,2,34,(.row [])⟩)],[]⟩,[(.exit 2,⟨[(3,aL),(4,(.c (.ptr 0 256 0 0 0))),(5,aB),(6,(.c (.own 0 2408 0 0))),(7,aI)],fm,[]⟩)]⟩ (G1 n) (Km n) [] λ_=>(by kernel_rfl)
def Qr (n:Nat):LEnt (KB 4) (Rn n) n:=lok (zU 4) 509 ⟨⟨[(3,aL),(4,(.c (.ptr 0 256 0 0 0))),(5,aB),(6,(.c (.own 0 2408 0 0))),(7,aI)],fm,[]⟩,[(.exit 0,⟨[(4,(.c (.ptr 0 256 0 0 0))),(5,aB),(6,(.c (.own 0 2408 0 0)))],fm,[]⟩)]⟩ (GI n) (Km n) [P7 n] λ_=>(by kernel_rfl)
theorem Te:∀n,Ok (Rn n) U4 (OO n)
 |0=>ok0 λ_=>rfl
 |n+1=>stO (T:=Kl n) (by kernel_rfl) (Km n) [Qr n] (λ_=>(by kernel_rfl)) λ_=>(by kernel_rfl)
end
end Go.Proofs.YtilkdjfhbahhdabGreatDoor.KFnCircles

