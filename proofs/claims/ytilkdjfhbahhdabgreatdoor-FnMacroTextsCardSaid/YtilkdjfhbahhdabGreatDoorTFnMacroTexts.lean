import Derived.Test.YtilkdjfhbahhdabGreatDoorKFnMacroTexts
namespace Go.Proofs.YtilkdjfhbahhdabGreatDoor.KFnMacroTexts
open Go.Eng
set_option linter.unusedVariables false
set_option maxRecDepth 100000
set_option maxHeartbeats 4000000
noncomputable section
abbrev RW:=List (List PV)
abbrev BA:=ByteArray
abbrev LBy:=List UInt8
abbrev Ft:List (Nat×Blk):= [(0,⟨0,4,235,(.box [qS,qI,qB,(.own 0 1 1 0)])⟩),(1,⟨1,14,191,(.row [])⟩)]
abbrev Fu:List (Nat×Blk):= [(0,⟨0,3,205,(.box [qS,(.own 0 1 1 0),qB])⟩),(1,⟨1,14,191,(.row [])⟩)]
abbrev GX:List (Nat×Blk):= [(0,⟨0,2,175,(.box [qL,qI])⟩)]
abbrev t7:List (Nat×Blk):= [(128,⟨0,3,144,(.box [qI,qI,qS])⟩),(256,⟨0,3,144,(.box [qI,qI,qS])⟩)]
abbrev li:List (Nat×Blk):= [(448,⟨0,14,191,(.box [qI,qI,qI,qI,qS,qI,qI,qB,qB,qI,qI,qB,qB,qL])⟩),(5760,⟨0,1,9,(.row [])⟩)]
abbrev lj:List (Nat×Blk):= [(192,⟨0,2,179,(.box [(.ptr 0 192 0 0 1000003),(.own 0 193 0 0)])⟩),(193,⟨0,1,5,(.row [])⟩)]
abbrev ll:List (Nat×Blk):= [(0,⟨0,2,179,(.box [(.ptr 0 0 0 0 1000003),(.own 0 1 1 0)])⟩),(1,⟨1,1,5,(.row [])⟩)]
abbrev lm:List (Nat×Blk):= [(128,⟨0,4,96,(.box [qI,qI,qB,qB])⟩),(256,⟨0,4,96,(.box [qI,qI,qB,qB])⟩)]
abbrev lu:List (Nat×Blk):= [(1152,⟨0,5,90,(.row [])⟩),(704,⟨0,5,90,(.box [qI,qI,qI,qS,qI])⟩)]
abbrev b9:List (Nat×Blk):= [(448,⟨0,1,9,(.row [])⟩)]
abbrev cx:List (Nat×Blk):= [(128,⟨0,3,144,(.box [qI,qI,qS])⟩)]
abbrev cy:List (Nat×Blk):= [(1152,⟨0,5,90,(.row [])⟩)]
abbrev cz:List (Nat×Blk):= [(1856,⟨0,5,90,(.row [])⟩)]
abbrev da:List (Nat×Blk):= [(192,⟨0,5,90,(.row [])⟩)]
abbrev db:List (Nat×Blk):= [(640,⟨0,1,2,(.row [])⟩)]
abbrev dc:List (Nat×Blk):= [(448,⟨0,1,5,(.row [])⟩)]
def c7:Sg:=⟨10,[aL],[],⟨aB,[],[]⟩⟩
def Rz (n:Nat) (x0:RW):Tr (Bool):=(.done (decide ((x0.length:Int)>(1048576:Int))))
def Om:Nat->RW->Option (Bool)
 |0,_=>none
 |n+1,x0=>(Rz n x0).run
theorem ZE:∀n,Ok (Rn n) c7 (Om n)
 |0=>ok0 λ_=>rfl
 |n+1=>stO (T:=Rz n) (by kernel_rfl) [] [] (λ_=>by kernel_rfl) λ_=>by kernel_rfl
def Xc:Sg:=⟨54,[aL],[],⟨(.c (.ptr 0 0 0 0 0)),[],[⟨0,2,175,(.box [qL,qI])⟩]⟩⟩
def Nk (n:Nat) (x0:RW):Tr (RW×Int):=(.done (x0,(0:Int)))
def Jf:Nat->RW->Option (RW×Int)
 |0,_=>none
 |n+1,x0=>(Nk n x0).run
theorem P2:∀n,Ok (Rn n) Xc (Jf n)
 |0=>ok0 λ_=>rfl
 |n+1=>stO (T:=Nk n) (by kernel_rfl) [] [] (λ_=>by kernel_rfl) λ_=>by kernel_rfl
def T4:Sg:=⟨151,[(.c (.ptr 0 0 0 0 0))],[GX],⟨aI,[GX],[]⟩⟩
def JB (n:Nat) (x0:RW) (x1:Int):Tr (Int×RW×Int):=(.ask ((decide (x1≥(x0.length:Int)))) (.done ((0:Int),x0,x1)) (.ask (decide (0<=(IntKind.i64.wrap ((IntKind.i64.wrap (x1+(1:Int)))-(1:Int)))/\(IntKind.i64.wrap ((IntKind.i64.wrap (x1+(1:Int)))-(1:Int)))<x0.length)) (.opt (x0[((IntKind.i64.wrap ((IntKind.i64.wrap (x1+(1:Int)))-(1:Int)))).toNat]?) λa=>(.ask (decide (a.length=1)) (.opt (zI .u8 a 0) λb=>(.done ((IntKind.i64.wrap b),x0,(IntKind.i64.wrap (x1+(1:Int)))))) .fail)) .fail))
def Fy:Nat->RW->Int->Option (Int×RW×Int)
 |0,_,_=>none
 |n+1,x0,x1=>(JB n x0 x1).run
theorem NE:∀n,Ok (Rn n) T4 (Fy n)
 |0=>ok0 λ_=>rfl
 |n+1=>stO (T:=JB n) (by kernel_rfl) [] [] (λ_=>by kernel_rfl) λ_=>by kernel_rfl
def Sr:Sg:=⟨76,[(.c (.ptr 0 0 0 0 0)),aI],[GX],⟨aI,[GX],[]⟩⟩
def HW (n:Nat) (x0:Int) (x1:RW) (x2:Int):Tr (Int×RW×Int):=(.ask ((decide (x0<=(1:Int)))) (.done ((0:Int),x1,x2)) (.ask ((decide (x0<=(256:Int)))) (.opt (Fy n x1 x2) λa=>(.ask (decide (x0=0)) .fail (.done ((Int.tmod a.1 x0),a.2.1,a.2.2)))) (.opt (Fy n x1 x2) λb=>(.opt (Fy n b.2.1 b.2.2) λc=>(.ask (decide (x0=0)) .fail (.done ((Int.tmod (IntKind.i64.wrap ((IntKind.i64.wrap (b.1*(256:Int)))+c.1)) x0),c.2.1,c.2.2)))))))
def qd:Nat->Int->RW->Int->Option (Int×RW×Int)
 |0,_,_,_=>none
 |n+1,x0,x1,x2=>(HW n x0 x1 x2).run
abbrev Ss (n:Nat):List (Ent (Rn n)):= [en (NE n)]
theorem Es:∀n,Ok (Rn n) Sr (qd n)
 |0=>ok0 λ_=>rfl
 |n+1=>stO (T:=HW n) (by kernel_rfl) (Ss n) [] (λ_=>by kernel_rfl) λ_=>by kernel_rfl
def T5:Sg:=⟨75,[(.c (.ptr 0 0 0 0 0)),aI],[GX],⟨aB,[GX],[]⟩⟩
def K1 (n:Nat) (x0:Int) (x1:RW) (x2:Int):Tr (Bool×RW×Int):=(.opt (qd n x0 x1 x2) λa=>(.done ((a.1==(IntKind.i64.wrap (x0-(1:Int)))),a.2.1,a.2.2)))
def EC:Nat->Int->RW->Int->Option (Bool×RW×Int)
 |0,_,_,_=>none
 |n+1,x0,x1,x2=>(K1 n x0 x1 x2).run
abbrev T6 (n:Nat):List (Ent (Rn n)):= [en (Es n)]
theorem Im:∀n,Ok (Rn n) T5 (EC n)
 |0=>ok0 λ_=>rfl
 |n+1=>stO (T:=K1 n) (by kernel_rfl) (T6 n) [] (λ_=>by kernel_rfl) λ_=>by kernel_rfl
def On:Sg:=⟨63,[aI],[],⟨aS,[],[]⟩⟩
def Ia (n:Nat) (v:Int×BA):Tr ((Int×BA)⊕((Int×BA))):=(.ask ((decide (v.1≥(10:Int)))) (.ask (decide (1=([[(.i .u8 (IntKind.u8.wrap (IntKind.i64.wrap ((48:Int)+(Int.tmod v.1 (10:Int))))))]]:RW).length)) (.opt (bytesOf ([[(.i .u8 (IntKind.u8.wrap (IntKind.i64.wrap ((48:Int)+(Int.tmod v.1 (10:Int))))))]]:RW)) λa=>(.ask (decide ((⟨a.toArray⟩:BA).size+v.2.size<=9223372036854775807)) (.done (.inl ((IntKind.i64.wrap (Int.tdiv v.1 (10:Int))),((⟨a.toArray⟩:BA)++v.2)))) .fail)) .fail) (.done (.inr ((v.1,v.2)))))
def MG (rec:Int->Option (BA)) (n:Nat) (x0:Int):Tr (BA):=(.ask ((decide (x0<(0:Int)))) (.opt (rec (IntKind.i64.wrap (0-x0))) λb=>(.ask (decide ((⟨#[45]⟩:BA).size+b.size<=9223372036854775807)) (.done ((⟨#[45]⟩:BA)++b)) .fail)) (.opt (zF (Ia n) n (x0,(⟨#[]⟩:BA))) λa=>(.ask (decide (1=([[(.i .u8 (IntKind.u8.wrap (IntKind.i64.wrap ((48:Int)+a.1))))]]:RW).length)) (.opt (bytesOf ([[(.i .u8 (IntKind.u8.wrap (IntKind.i64.wrap ((48:Int)+a.1))))]]:RW)) λc=>(.ask (decide ((⟨c.toArray⟩:BA).size+a.2.size<=9223372036854775807)) (.done ((⟨c.toArray⟩:BA)++a.2)) .fail)) .fail)))
def D3:Nat->Int->Option (BA)
 |0,_=>none
 |n+1,x0=>(MG (D3 n) n x0).run
abbrev Su (n:Nat) (ih:Ok (Rn n) On (D3 n)):List (Ent (Rn n)):= [en ih]
def VX (n:Nat) (ih:Ok (Rn n) On (D3 n)):LEnt (KB 63) (Rn n) n:=lok (zd 63) 30 ⟨⟨[(0,aI),(3,aS)],[],[]⟩,[(.exit 0,⟨[(0,aI),(3,aS)],[],[]⟩)]⟩ (Ia n) (Su n ih) [] λ_=>by kernel_rfl
theorem Ga:∀n,Ok (Rn n) On (D3 n)
 |0=>ok0 λ_=>rfl
 |n+1=>stO (T:=MG (D3 n) n) (by kernel_rfl) (Su n (Ga n)) [VX n (Ga n)] (λ_=>by kernel_rfl) λ_=>by kernel_rfl
def VY:Sg:=⟨77,[(.c (.ptr 0 0 0 0 0))],[GX],⟨(.agg [qI,qI]),[GX],[]⟩⟩
def Ll (n:Nat) (x0:RW) (x1:Int):Tr (Int×Int×RW×Int):=(.opt (qd n (3:Int) x0 x1) λa=>(.opt (qd n (4:Int) a.2.1 a.2.2) λb=>(.done ((IntKind.i64.wrap ((1:Int)+a.1)),(IntKind.i64.wrap ((1:Int)+b.1)),b.2.1,b.2.2))))
def EE:Nat->RW->Int->Option (Int×Int×RW×Int)
 |0,_,_=>none
 |n+1,x0,x1=>(Ll n x0 x1).run
abbrev VZ (n:Nat):List (Ent (Rn n)):= [en (Es n)]
theorem JC:∀n,Ok (Rn n) VY (EE n)
 |0=>ok0 λ_=>rfl
 |n+1=>stO (T:=Ll n) (by kernel_rfl) (VZ n) [] (λ_=>by kernel_rfl) λ_=>by kernel_rfl
def ZF:Sg:=⟨68,[aI,aI,aI],[],⟨aB,[],[]⟩⟩
def NF (n:Nat) (x0 x1 x2:Int):Tr (Bool):=(.ask ((decide (x0≥x1))) (.done (decide (x0<=x2))) (.done false))
def FN:Nat->Int->Int->Int->Option (Bool)
 |0,_,_,_=>none
 |n+1,x0,x1,x2=>(NF n x0 x1 x2).run
theorem JD:∀n,Ok (Rn n) ZF (FN n)
 |0=>ok0 λ_=>rfl
 |n+1=>stO (T:=NF n) (by kernel_rfl) [] [] (λ_=>by kernel_rfl) λ_=>by kernel_rfl
def YZ:Sg:=⟨65,[(.agg [qI,qI])],[],⟨aB,[],[]⟩⟩
def Oo (n:Nat) (x0 x1:Int):Tr (Bool):=(.opt (FN n x0 (1:Int) (52:Int)) λa=>(.ask (a) (.opt (FN n x1 (1:Int) (99:Int)) λb=>(.done b)) (.done false)))
def FQ:Nat->Int->Int->Option (Bool)
 |0,_,_=>none
 |n+1,x0,x1=>(Oo n x0 x1).run
abbrev Ya (n:Nat):List (Ent (Rn n)):= [en (JD n)]
theorem Jg:∀n,Ok (Rn n) YZ (FQ n)
 |0=>ok0 λ_=>rfl
 |n+1=>stO (T:=Oo n) (by kernel_rfl) (Ya n) [] (λ_=>by kernel_rfl) λ_=>by kernel_rfl
def WK:Sg:=⟨140,[aI],[],⟨aS,[],[]⟩⟩
def F5 (n:Nat) (v:Int×BA):Tr ((Int×BA)⊕((BA))):=(.ask ((decide (v.1>(0:Int)))) (.ask (decide (1=([[(.i .u8 (IntKind.u8.wrap (IntKind.i64.wrap ((65:Int)+(Int.tmod (IntKind.i64.wrap (v.1-(1:Int))) (26:Int))))))]]:RW).length)) (.opt (bytesOf ([[(.i .u8 (IntKind.u8.wrap (IntKind.i64.wrap ((65:Int)+(Int.tmod (IntKind.i64.wrap (v.1-(1:Int))) (26:Int))))))]]:RW)) λa=>(.ask (decide ((⟨a.toArray⟩:BA).size+v.2.size<=9223372036854775807)) (.done (.inl ((IntKind.i64.wrap (Int.tdiv (IntKind.i64.wrap (v.1-(1:Int))) (26:Int))),((⟨a.toArray⟩:BA)++v.2)))) .fail)) .fail) (.done (.inr (v.2))))
def KI (n:Nat) (x0:Int):Tr (BA):=(.opt (FN n x0 (1:Int) (52:Int)) λa=>(.ask ((!a)) (.done (⟨#[]⟩:BA)) (.opt (zF (F5 n) n (x0,(⟨#[]⟩:BA))) λb=>(.done b))))
def H5:Nat->Int->Option (BA)
 |0,_=>none
 |n+1,x0=>(KI n x0).run
abbrev P3 (n:Nat):List (Ent (Rn n)):= [en (JD n)]
def Sv (n:Nat):LEnt (KB 140) (Rn n) n:=lok (zd 140) 30 ⟨⟨[(0,aI),(3,aS)],[],[]⟩,[(.exit 0,⟨[(3,aS)],[],[]⟩)]⟩ (F5 n) (P3 n) [] λ_=>by kernel_rfl
theorem PM:∀n,Ok (Rn n) WK (H5 n)
 |0=>ok0 λ_=>rfl
 |n+1=>stO (T:=KI n) (by kernel_rfl) (P3 n) [Sv n] (λ_=>by kernel_rfl) λ_=>by kernel_rfl
def T7:Sg:=⟨62,[(.agg [qI,qI,qB,qB])],[],⟨aS,[],[]⟩⟩
def JE (n:Nat) (x0 x1:Int) (x2 x3:Bool):Tr (BA):=(.opt (FQ n x0 x1) λg=>(.ask ((!g)) (.done (⟨#[]⟩:BA)) (.opt (H5 n x0) λa=>(.ask (x2) (.ask (decide ((⟨#[36]⟩:BA).size+a.size<=9223372036854775807)) (.ask (x3) (.ask (decide (((⟨#[36]⟩:BA)++a).size+(⟨#[36]⟩:BA).size<=9223372036854775807)) (.opt (D3 n x1) λb=>(.ask (decide ((((⟨#[36]⟩:BA)++a)++(⟨#[36]⟩:BA)).size+b.size<=9223372036854775807)) (.done ((((⟨#[36]⟩:BA)++a)++(⟨#[36]⟩:BA))++b)) .fail)) .fail) (.opt (D3 n x1) λc=>(.ask (decide (((⟨#[36]⟩:BA)++a).size+c.size<=9223372036854775807)) (.done (((⟨#[36]⟩:BA)++a)++c)) .fail))) .fail) (.ask (x3) (.ask (decide (a.size+(⟨#[36]⟩:BA).size<=9223372036854775807)) (.opt (D3 n x1) λd=>(.ask (decide ((a++(⟨#[36]⟩:BA)).size+d.size<=9223372036854775807)) (.done ((a++(⟨#[36]⟩:BA))++d)) .fail)) .fail) (.opt (D3 n x1) λf=>(.ask (decide (a.size+f.size<=9223372036854775807)) (.done (a++f)) .fail)))))))
def q9:Nat->Int->Int->Bool->Bool->Option (BA)
 |0,_,_,_,_=>none
 |n+1,x0,x1,x2,x3=>(JE n x0 x1 x2 x3).run
abbrev T8 (n:Nat):List (Ent (Rn n)):= [en (Jg n),en (PM n),en (Ga n)]
theorem KJ:∀n,Ok (Rn n) T7 (q9 n)
 |0=>ok0 λ_=>rfl
 |n+1=>stO (T:=JE n) (by kernel_rfl) (T8 n) [] (λ_=>by kernel_rfl) λ_=>by kernel_rfl
def T9:Sg:=⟨222,[(.c (.ptr 0 0 0 0 0))],[GX],⟨(.c (.p (.i .u64 0))),[GX],[]⟩⟩
def Gu (n:Nat) (v:Int×Int×RW×Int):Tr ((Int×Int×RW×Int)⊕((Int×RW×Int))):=(.ask ((decide (v.2.1<(8:Int)))) (.opt (Fy n v.2.2.1 v.2.2.2) λa=>(.done (.inl ((IntKind.u64.wrap ((BitVec.ofInt IntKind.u64.bits (IntKind.u64.wrap (v.1*(2:Int)^(8:Nat)))|||BitVec.ofInt IntKind.u64.bits (IntKind.u64.wrap a.1)).toNat:Int)),(IntKind.i64.wrap (v.2.1+(1:Int))),a.2.1,a.2.2)))) (.done (.inr ((v.1,v.2.2.1,v.2.2.2)))))
def K2 (n:Nat) (x0:RW) (x1:Int):Tr (Int×RW×Int):=(.opt (zF (Gu n) n ((0:Int),(0:Int),x0,x1)) λa=>(.done (a.1,a.2.1,a.2.2)))
def JF:Nat->RW->Int->Option (Int×RW×Int)
 |0,_,_=>none
 |n+1,x0,x1=>(K2 n x0 x1).run
abbrev OB (n:Nat):List (Ent (Rn n)):= [en (NE n)]
def Q8 (n:Nat):LEnt (KB 222) (Rn n) n:=lok (zd 222) 29 ⟨⟨[(0,(.c (.ptr 0 0 0 0 0))),(3,(.c (.p (.i .u64 0)))),(4,aI)],[],[GX]⟩,[(.exit 0,⟨[(3,(.c (.p (.i .u64 0))))],[],[GX]⟩)]⟩ (Gu n) (OB n) [] λ_=>by kernel_rfl
theorem Sw:∀n,Ok (Rn n) T9 (JF n)
 |0=>ok0 λ_=>rfl
 |n+1=>stO (T:=K2 n) (by kernel_rfl) (OB n) [Q8 n] (λ_=>by kernel_rfl) λ_=>by kernel_rfl
def UA:Sg:=⟨167,[(.c (.ptr 0 0 0 0 0)),aI,aI],[GX],⟨aI,[GX],[]⟩⟩
def H6 (n:Nat) (x0 x1:Int) (x2:RW) (x3:Int):Tr (Int×RW×Int):=(.opt (qd n (8:Int) x2 x3) λa=>(.ask ((a.1==(0:Int))) (.done (x0,a.2.1,a.2.2)) (.ask ((a.1==(1:Int))) (.done (x1,a.2.1,a.2.2)) (.ask ((decide (x1<x0))) (.done (x0,a.2.1,a.2.2)) (.opt (JF n a.2.1 a.2.2) λb=>(.ask (decide ((IntKind.u64.wrap (IntKind.i64.wrap ((IntKind.i64.wrap (x1-x0))+(1:Int))))=0)) .fail (.done ((IntKind.i64.wrap (x0+(IntKind.i64.wrap (Int.tmod (Int.fdiv b.1 ((2:Int)^(1:Nat))) (IntKind.u64.wrap (IntKind.i64.wrap ((IntKind.i64.wrap (x1-x0))+(1:Int)))))))),b.2.1,b.2.2))))))))
def G8:Nat->Int->Int->RW->Int->Option (Int×RW×Int)
 |0,_,_,_,_=>none
 |n+1,x0,x1,x2,x3=>(H6 n x0 x1 x2 x3).run
abbrev UB (n:Nat):List (Ent (Rn n)):= [en (Es n),en (Sw n)]
theorem Sx:∀n,Ok (Rn n) UA (G8 n)
 |0=>ok0 λ_=>rfl
 |n+1=>stO (T:=H6 n) (by kernel_rfl) (UB n) [] (λ_=>by kernel_rfl) λ_=>by kernel_rfl
def Va:Sg:=⟨96,[(.c (.ptr 0 0 0 0 0)),aI,aI],[GX],⟨aI,[GX],[]⟩⟩
def Gr (n:Nat) (x0 x1:Int) (x2:RW) (x3:Int):Tr (Int×RW×Int):=(.opt (EC n (24:Int) x2 x3) λa=>(.ask (a.1) (.opt (qd n (4:Int) a.2.1 a.2.2) λb=>(.ask (decide (4=([[(.i .i64 (IntKind.i64.wrap (x0-(1:Int))))],[(.i .i64 (IntKind.i64.wrap (x1+(1:Int))))],[(.i .i64 (-9223372036854775808:Int))],[(.i .i64 (9223372036854775807:Int))]]:RW).length/\0<=b.1/\b.1<((4:Nat):Int))) (.opt (([[(.i .i64 (IntKind.i64.wrap (x0-(1:Int))))],[(.i .i64 (IntKind.i64.wrap (x1+(1:Int))))],[(.i .i64 (-9223372036854775808:Int))],[(.i .i64 (9223372036854775807:Int))]]:RW)[(b.1).toNat]?) λd=>(.opt (zI .i64 d 0) λf=>(.done (f,b.2.1,b.2.2)))) .fail)) (.opt (G8 n x0 x1 a.2.1 a.2.2) λc=>(.done (c.1,c.2.1,c.2.2)))))
def GG:Nat->Int->Int->RW->Int->Option (Int×RW×Int)
 |0,_,_,_,_=>none
 |n+1,x0,x1,x2,x3=>(Gr n x0 x1 x2 x3).run
abbrev Vb (n:Nat):List (Ent (Rn n)):= [en (Im n),en (Es n),en (Sx n)]
theorem UC:∀n,Ok (Rn n) Va (GG n)
 |0=>ok0 λ_=>rfl
 |n+1=>stO (T:=Gr n) (by kernel_rfl) (Vb n) [] (λ_=>by kernel_rfl) λ_=>by kernel_rfl
def UD:Sg:=⟨223,[(.c (.ptr 0 0 0 0 0))],[GX],⟨(.agg [qI,qI,qI,qI]),[GX],[]⟩⟩
def JG (n:Nat) (x0:RW) (x1:Int):Tr (Int×Int×Int×Int×RW×Int):=(.opt (EE n x0 x1) λa=>(.opt (EE n a.2.2.1 a.2.2.2) λb=>(.opt (EC n (20:Int) b.2.2.1 b.2.2.2) λc=>(.ask (c.1) (.opt (GG n (1:Int) (99:Int) c.2.1 c.2.2) λd=>(.done ((if b.1<a.1 then b.1 else a.1),(if b.2.1<a.2.1 then b.2.1 else a.2.1),(if b.1>a.1 then b.1 else a.1),d.1,d.2.1,d.2.2))) (.done ((if b.1<a.1 then b.1 else a.1),(if b.2.1<a.2.1 then b.2.1 else a.2.1),(if b.1>a.1 then b.1 else a.1),(if b.2.1>a.2.1 then b.2.1 else a.2.1),c.2.1,c.2.2))))))
def G9:Nat->RW->Int->Option (Int×Int×Int×Int×RW×Int)
 |0,_,_=>none
 |n+1,x0,x1=>(JG n x0 x1).run
abbrev UE (n:Nat):List (Ent (Rn n)):= [en (JC n),en (Im n),en (UC n)]
theorem Sy:∀n,Ok (Rn n) UD (G9 n)
 |0=>ok0 λ_=>rfl
 |n+1=>stO (T:=JG n) (by kernel_rfl) (UE n) [] (λ_=>by kernel_rfl) λ_=>by kernel_rfl
def Xd:Sg:=⟨224,[aI],[],⟨aS,[],[]⟩⟩
def Nl (n:Nat) (x0:Int):Tr (BA):=(.ask (decide (12=([[(.s (⟨#[]⟩:BA))],[(.s (⟨#[43]⟩:BA))],[(.s (⟨#[45]⟩:BA))],[(.s (⟨#[42]⟩:BA))],[(.s (⟨#[47]⟩:BA))],[(.s (⟨#[38]⟩:BA))],[(.s (⟨#[61]⟩:BA))],[(.s (⟨#[60,62]⟩:BA))],[(.s (⟨#[60]⟩:BA))],[(.s (⟨#[60,61]⟩:BA))],[(.s (⟨#[62]⟩:BA))],[(.s (⟨#[62,61]⟩:BA))]]:RW).length/\0<=x0/\x0<((12:Nat):Int))) (.opt (([[(.s (⟨#[]⟩:BA))],[(.s (⟨#[43]⟩:BA))],[(.s (⟨#[45]⟩:BA))],[(.s (⟨#[42]⟩:BA))],[(.s (⟨#[47]⟩:BA))],[(.s (⟨#[38]⟩:BA))],[(.s (⟨#[61]⟩:BA))],[(.s (⟨#[60,62]⟩:BA))],[(.s (⟨#[60]⟩:BA))],[(.s (⟨#[60,61]⟩:BA))],[(.s (⟨#[62]⟩:BA))],[(.s (⟨#[62,61]⟩:BA))]]:RW)[(x0).toNat]?) λa=>(.opt (z8 a 0) λb=>(.done b))) .fail)
def G4:Nat->Int->Option (BA)
 |0,_=>none
 |n+1,x0=>(Nl n x0).run
theorem MN:∀n,Ok (Rn n) Xd (G4 n)
 |0=>ok0 λ_=>rfl
 |n+1=>stO (T:=Nl n) (by kernel_rfl) [] [] (λ_=>by kernel_rfl) λ_=>by kernel_rfl
def NG:Sg:=⟨168,[(.c (.ptr 0 0 0 0 0)),aI],[GX],⟨aS,[GX],[]⟩⟩
def Is (n:Nat) (a:(Int×RW×Int)):Tr (BA×RW×Int):=(.ask ((a.1==(0:Int))) (.opt (EE n a.2.1 a.2.2) λc=>(.opt (EC n (5:Int) c.2.2.1 c.2.2.2) λg=>(.opt (EC n (5:Int) g.2.1 g.2.2) λh=>(.opt (q9 n c.1 c.2.1 g.1 h.1) λp=>(.done (p,h.2.1,h.2.2)))))) (.ask ((a.1==(1:Int))) (.opt (EE n a.2.1 a.2.2) λd=>(.opt (EC n (5:Int) d.2.2.1 d.2.2.2) λj=>(.opt (EC n (5:Int) j.2.1 j.2.2) λk=>(.opt (q9 n d.1 d.2.1 j.1 k.1) λq=>(.done (q,k.2.1,k.2.2)))))) (.ask ((a.1==(2:Int))) (.opt (EE n a.2.1 a.2.2) λf=>(.opt (EC n (5:Int) f.2.2.1 f.2.2.2) λl=>(.opt (EC n (5:Int) l.2.1 l.2.2) λm=>(.opt (q9 n f.1 f.2.1 l.1 m.1) λt=>(.done (t,m.2.1,m.2.2)))))) (.ask ((a.1==(3:Int))) (.opt (qd n (6:Int) a.2.1 a.2.2) λb=>(.ask (decide (6=([[(.s (⟨#[34,97,34]⟩:BA))],[(.s (⟨#[34,34]⟩:BA))],[(.s (⟨#[84,82,85,69]⟩:BA))],[(.s (⟨#[70,65,76,83,69]⟩:BA))],[(.s (⟨#[35,82,69,70,33]⟩:BA))],[(.s (⟨#[34,113,34,34,34]⟩:BA))]]:RW).length/\0<=b.1/\b.1<((6:Nat):Int))) (.opt (([[(.s (⟨#[34,97,34]⟩:BA))],[(.s (⟨#[34,34]⟩:BA))],[(.s (⟨#[84,82,85,69]⟩:BA))],[(.s (⟨#[70,65,76,83,69]⟩:BA))],[(.s (⟨#[35,82,69,70,33]⟩:BA))],[(.s (⟨#[34,113,34,34,34]⟩:BA))]]:RW)[(b.1).toNat]?) λu=>(.opt (z8 u 0) λw=>(.done (w,b.2.1,b.2.2)))) .fail)) (.opt (qd n (12:Int) a.2.1 a.2.2) λo=>(.opt (D3 n o.1) λz=>(.done (z,o.2.1,o.2.2))))))))
def HX (rec:Int->RW->Int->Option (BA×RW×Int)) (n:Nat) (x0:Int) (x1:RW) (x2:Int):Tr (BA×RW×Int):=(.ask ((x0==(0:Int))) (.opt (qd n (7:Int) x1 x2) λa8=>(Is n a8)) (.opt (EC n (3:Int) x1 x2) λl=>(.ask (l.1) (.opt (qd n (7:Int) l.2.1 l.2.2) λa9=>(Is n a9)) (.opt (qd n (8:Int) l.2.1 l.2.2) λa=>(.ask ((a.1==(0:Int))) (.opt (rec (IntKind.i64.wrap (x0-(1:Int))) a.2.1 a.2.2) λa3=>(.ask (decide ((⟨#[45]⟩:BA).size+a3.1.size<=9223372036854775807)) (.done (((⟨#[45]⟩:BA)++a3.1),a3.2.1,a3.2.2)) .fail)) (.ask ((a.1==(1:Int))) (.opt (rec (IntKind.i64.wrap (x0-(1:Int))) a.2.1 a.2.2) λm=>(.ask (decide ((⟨#[40]⟩:BA).size+m.1.size<=9223372036854775807)) (.ask (decide (((⟨#[40]⟩:BA)++m.1).size+(⟨#[41]⟩:BA).size<=9223372036854775807)) (.done ((((⟨#[40]⟩:BA)++m.1)++(⟨#[41]⟩:BA)),m.2.1,m.2.2)) .fail) .fail)) (.ask ((a.1==(2:Int))) (.opt (G9 n a.2.1 a.2.2) λj=>(.opt (qd n (6:Int) j.2.2.2.2.1 j.2.2.2.2.2) λo=>(.ask (decide (6=([[(.s (⟨#[83,85,77]⟩:BA))],[(.s (⟨#[77,73,78]⟩:BA))],[(.s (⟨#[77,65,88]⟩:BA))],[(.s (⟨#[67,79,85,78,84]⟩:BA))],[(.s (⟨#[65,78,68]⟩:BA))],[(.s (⟨#[79,82]⟩:BA))]]:RW).length/\0<=o.1/\o.1<((6:Nat):Int))) (.opt (([[(.s (⟨#[83,85,77]⟩:BA))],[(.s (⟨#[77,73,78]⟩:BA))],[(.s (⟨#[77,65,88]⟩:BA))],[(.s (⟨#[67,79,85,78,84]⟩:BA))],[(.s (⟨#[65,78,68]⟩:BA))],[(.s (⟨#[79,82]⟩:BA))]]:RW)[(o.1).toNat]?) λb0=>(.opt (z8 b0 0) λc=>(.ask (decide (c.size+(⟨#[40]⟩:BA).size<=9223372036854775807)) (.opt (q9 n j.1 j.2.1 false false) λf=>(.ask (decide ((c++(⟨#[40]⟩:BA)).size+f.size<=9223372036854775807)) (.ask (decide (((c++(⟨#[40]⟩:BA))++f).size+(⟨#[58]⟩:BA).size<=9223372036854775807)) (.opt (q9 n j.2.2.1 j.2.2.2.1 false false) λp=>(.ask (decide ((((c++(⟨#[40]⟩:BA))++f)++(⟨#[58]⟩:BA)).size+p.size<=9223372036854775807)) (.ask (decide (((((c++(⟨#[40]⟩:BA))++f)++(⟨#[58]⟩:BA))++p).size+(⟨#[44]⟩:BA).size<=9223372036854775807)) (.opt (rec (IntKind.i64.wrap (x0-(1:Int))) o.2.1 o.2.2) λq=>(.ask (decide ((((((c++(⟨#[40]⟩:BA))++f)++(⟨#[58]⟩:BA))++p)++(⟨#[44]⟩:BA)).size+q.1.size<=9223372036854775807)) (.ask (decide (((((((c++(⟨#[40]⟩:BA))++f)++(⟨#[58]⟩:BA))++p)++(⟨#[44]⟩:BA))++q.1).size+(⟨#[41]⟩:BA).size<=9223372036854775807)) (.done ((((((((c++(⟨#[40]⟩:BA))++f)++(⟨#[58]⟩:BA))++p)++(⟨#[44]⟩:BA))++q.1)++(⟨#[41]⟩:BA)),q.2.1,q.2.2)) .fail) .fail)) .fail) .fail)) .fail) .fail)) .fail))) .fail))) (.ask ((a.1==(3:Int))) (.opt (G9 n a.2.1 a.2.2) λk=>(.opt (qd n (6:Int) k.2.2.2.2.1 k.2.2.2.2.2) λt=>(.ask (decide (6=([[(.s (⟨#[83,85,77]⟩:BA))],[(.s (⟨#[77,73,78]⟩:BA))],[(.s (⟨#[77,65,88]⟩:BA))],[(.s (⟨#[67,79,85,78,84]⟩:BA))],[(.s (⟨#[65,78,68]⟩:BA))],[(.s (⟨#[79,82]⟩:BA))]]:RW).length/\0<=t.1/\t.1<((6:Nat):Int))) (.opt (([[(.s (⟨#[83,85,77]⟩:BA))],[(.s (⟨#[77,73,78]⟩:BA))],[(.s (⟨#[77,65,88]⟩:BA))],[(.s (⟨#[67,79,85,78,84]⟩:BA))],[(.s (⟨#[65,78,68]⟩:BA))],[(.s (⟨#[79,82]⟩:BA))]]:RW)[(t.1).toNat]?) λb1=>(.opt (z8 b1 0) λd=>(.ask (decide (d.size+(⟨#[40]⟩:BA).size<=9223372036854775807)) (.opt (q9 n k.1 k.2.1 false false) λg=>(.ask (decide ((d++(⟨#[40]⟩:BA)).size+g.size<=9223372036854775807)) (.ask (decide (((d++(⟨#[40]⟩:BA))++g).size+(⟨#[58]⟩:BA).size<=9223372036854775807)) (.opt (q9 n k.2.2.1 k.2.2.2.1 false false) λu=>(.ask (decide ((((d++(⟨#[40]⟩:BA))++g)++(⟨#[58]⟩:BA)).size+u.size<=9223372036854775807)) (.ask (decide (((((d++(⟨#[40]⟩:BA))++g)++(⟨#[58]⟩:BA))++u).size+(⟨#[44]⟩:BA).size<=9223372036854775807)) (.opt (rec (IntKind.i64.wrap (x0-(1:Int))) t.2.1 t.2.2) λw=>(.ask (decide ((((((d++(⟨#[40]⟩:BA))++g)++(⟨#[58]⟩:BA))++u)++(⟨#[44]⟩:BA)).size+w.1.size<=9223372036854775807)) (.ask (decide (((((((d++(⟨#[40]⟩:BA))++g)++(⟨#[58]⟩:BA))++u)++(⟨#[44]⟩:BA))++w.1).size+(⟨#[41]⟩:BA).size<=9223372036854775807)) (.done ((((((((d++(⟨#[40]⟩:BA))++g)++(⟨#[58]⟩:BA))++u)++(⟨#[44]⟩:BA))++w.1)++(⟨#[41]⟩:BA)),w.2.1,w.2.2)) .fail) .fail)) .fail) .fail)) .fail) .fail)) .fail))) .fail))) (.ask ((a.1==(4:Int))) (.opt (rec (IntKind.i64.wrap (x0-(1:Int))) a.2.1 a.2.2) λb=>(.ask (decide ((⟨#[73,70,40]⟩:BA).size+b.1.size<=9223372036854775807)) (.ask (decide (((⟨#[73,70,40]⟩:BA)++b.1).size+(⟨#[44]⟩:BA).size<=9223372036854775807)) (.opt (rec (IntKind.i64.wrap (x0-(1:Int))) b.2.1 b.2.2) λh=>(.ask (decide ((((⟨#[73,70,40]⟩:BA)++b.1)++(⟨#[44]⟩:BA)).size+h.1.size<=9223372036854775807)) (.ask (decide (((((⟨#[73,70,40]⟩:BA)++b.1)++(⟨#[44]⟩:BA))++h.1).size+(⟨#[44]⟩:BA).size<=9223372036854775807)) (.opt (rec (IntKind.i64.wrap (x0-(1:Int))) h.2.1 h.2.2) λz=>(.ask (decide ((((((⟨#[73,70,40]⟩:BA)++b.1)++(⟨#[44]⟩:BA))++h.1)++(⟨#[44]⟩:BA)).size+z.1.size<=9223372036854775807)) (.ask (decide (((((((⟨#[73,70,40]⟩:BA)++b.1)++(⟨#[44]⟩:BA))++h.1)++(⟨#[44]⟩:BA))++z.1).size+(⟨#[41]⟩:BA).size<=9223372036854775807)) (.done ((((((((⟨#[73,70,40]⟩:BA)++b.1)++(⟨#[44]⟩:BA))++h.1)++(⟨#[44]⟩:BA))++z.1)++(⟨#[41]⟩:BA)),z.2.1,z.2.2)) .fail) .fail)) .fail) .fail)) .fail) .fail)) (.ask ((a.1==(5:Int))) (.opt (qd n (3:Int) a.2.1 a.2.2) λa0=>(.ask (decide (3=([[(.s (⟨#[78,79,84]⟩:BA))],[(.s (⟨#[65,66,83]⟩:BA))],[(.s (⟨#[76,69,78]⟩:BA))]]:RW).length/\0<=a0.1/\a0.1<((3:Nat):Int))) (.opt (([[(.s (⟨#[78,79,84]⟩:BA))],[(.s (⟨#[65,66,83]⟩:BA))],[(.s (⟨#[76,69,78]⟩:BA))]]:RW)[(a0.1).toNat]?) λb2=>(.opt (z8 b2 0) λa4=>(.ask (decide (a4.size+(⟨#[40]⟩:BA).size<=9223372036854775807)) (.opt (rec (IntKind.i64.wrap (x0-(1:Int))) a0.2.1 a0.2.2) λa1=>(.ask (decide ((a4++(⟨#[40]⟩:BA)).size+a1.1.size<=9223372036854775807)) (.ask (decide (((a4++(⟨#[40]⟩:BA))++a1.1).size+(⟨#[41]⟩:BA).size<=9223372036854775807)) (.done ((((a4++(⟨#[40]⟩:BA))++a1.1)++(⟨#[41]⟩:BA)),a1.2.1,a1.2.2)) .fail) .fail)) .fail))) .fail)) (.opt (rec (IntKind.i64.wrap (x0-(1:Int))) a.2.1 a.2.2) λa2=>(.opt (qd n (11:Int) a2.2.1 a2.2.2) λa6=>(.opt (G4 n (IntKind.i64.wrap ((1:Int)+a6.1))) λa7=>(.ask (decide (a2.1.size+a7.size<=9223372036854775807)) (.opt (rec (IntKind.i64.wrap (x0-(1:Int))) a6.2.1 a6.2.2) λa5=>(.ask (decide ((a2.1++a7).size+a5.1.size<=9223372036854775807)) (.done (((a2.1++a7)++a5.1),a5.2.1,a5.2.2)) .fail)) .fail))))))))))))))
def EP:Nat->Int->RW->Int->Option (BA×RW×Int)
 |0,_,_,_=>none
 |n+1,x0,x1,x2=>(HX (EP n) n x0 x1 x2).run
abbrev Sz (n:Nat) (ih:Ok (Rn n) NG (EP n)):List (Ent (Rn n)):= [en (Es n),en (JC n),en (Im n),en (KJ n),en (Ga n),en ih,en (Sy n),en (MN n)]
theorem Jv:∀n,Ok (Rn n) NG (EP n)
 |0=>ok0 λ_=>rfl
 |n+1=>stO (T:=HX (EP n) n) (by kernel_rfl) (Sz n (Jv n)) [] (λ_=>by kernel_rfl) λ_=>by kernel_rfl
def WL:Sg:=⟨143,[aS],[],⟨aB,[],[]⟩⟩
def F6 (n:Nat) (v:BA×Int):Tr ((BA×Int)⊕((Bool)⊕(BA))):=(.ask ((decide (v.2<(v.1.size:Int)))) (.ask (decide (0<=v.2)) (.opt (v.1.toList[(v.2).toNat]?) λa=>(.ask ((decide ((a.toNat:Int)<(32:Int)))) (.done (.inr (.inl (false)))) (.ask (decide (0<=v.2)) (.opt (v.1.toList[(v.2).toNat]?) λb=>(.ask ((decide ((b.toNat:Int)>(126:Int)))) (.done (.inr (.inl (false)))) (.done (.inl (v.1,(IntKind.i64.wrap (v.2+(1:Int)))))))) .fail))) .fail) (.done (.inr (.inr (v.1)))))
def MO (n:Nat) (x0:BA):Tr (Bool):=(.opt (zF (F6 n) n (x0,(0:Int))) λa=>(.alt a (λb=>(.done b)) (λc=>(.done (decide ((c.size:Int)<=(200:Int)))))))
def HD:Nat->BA->Option (Bool)
 |0,_=>none
 |n+1,x0=>(MO n x0).run
def S0 (n:Nat):LEnt (KB 143) (Rn n) n:=lok (zd 143) 13 ⟨⟨[(0,aS),(3,aI)],[],[]⟩,[(.ret,⟨[(2,aB)],[],[]⟩),(.exit 0,⟨[(0,aS)],[],[]⟩)]⟩ (F6 n) [] [] λ_=>by kernel_rfl
theorem Lm:∀n,Ok (Rn n) WL (HD n)
 |0=>ok0 λ_=>rfl
 |n+1=>stO (T:=MO n) (by kernel_rfl) [] [S0 n] (λ_=>by kernel_rfl) λ_=>by kernel_rfl
def R3:Sg:=⟨211,[(.c (.ptr 0 0 0 0 0))],[Ft],⟨(.tup []),[Ft],[]⟩⟩
def It (n:Nat) (v:BA×Int×Bool×Nat×RW):Tr ((BA×Int×Bool×Nat×RW)⊕((BA×Int×Bool×Nat×RW))):=(.ask ((decide (v.2.1<(v.1.size:Int)))) (.ask (decide (0<=v.2.1)) (.opt (v.1.toList[(v.2.1).toNat]?) λa=>(.ask (((a.toNat:Int)==(32:Int))) (.done (.inl (v.1,(IntKind.i64.wrap (v.2.1+(1:Int))),v.2.2.1,v.2.2.2.1,v.2.2.2.2))) (.done (.inr ((v.1,v.2.1,v.2.2.1,v.2.2.2.1,v.2.2.2.2)))))) .fail) (.done (.inr ((v.1,v.2.1,v.2.2.1,v.2.2.2.1,v.2.2.2.2)))))
def MP (n:Nat) (x0:BA) (x1:Int) (x2:Bool) (x3:Nat) (x4:RW):Tr (BA×Int×Bool×Nat×RW):=(.opt (zF (It n) n (x0,x1,x2,x3,x4)) λa=>(.done (a.1,a.2.1,a.2.2.1,a.2.2.2.1,a.2.2.2.2)))
def GL:Nat->BA->Int->Bool->Nat->RW->Option (BA×Int×Bool×Nat×RW)
 |0,_,_,_,_,_=>none
 |n+1,x0,x1,x2,x3,x4=>(MP n x0 x1 x2 x3 x4).run
def P4 (n:Nat):LEnt (KB 211) (Rn n) n:=lok (zd 211) 1 ⟨⟨[(0,(.c (.ptr 0 0 0 0 0)))],[],[Ft]⟩,[(.exit 0,⟨[],[],[Ft]⟩)]⟩ (It n) [] [] λ_=>by kernel_rfl
theorem JQ:∀n,Ok (Rn n) R3 (GL n)
 |0=>ok0 λ_=>rfl
 |n+1=>stO (T:=MP n) (by kernel_rfl) [] [P4 n] (λ_=>by kernel_rfl) λ_=>by kernel_rfl
def WM:Sg:=⟨301,[(.c (.ptr 0 0 0 0 0)),aS],[Ft],⟨aB,[Ft],[]⟩⟩
def P5 (n:Nat) (x0 x1:BA) (x2:Int) (x3:Bool) (x4:Nat) (x5:RW):Tr (Bool×BA×Int×Bool×Nat×RW):=(.opt (GL n x1 x2 x3 x4 x5) λa=>(.ask (a.2.2.1) (.done (false,a.1,a.2.1,a.2.2.1,a.2.2.2.1,a.2.2.2.2)) (.ask ((decide ((IntKind.i64.wrap (a.2.1+(x0.size:Int)))>(a.1.size:Int)))) (.done (false,a.1,a.2.1,a.2.2.1,a.2.2.2.1,a.2.2.2.2)) (.ask (decide (0<=a.2.1/\a.2.1<=(IntKind.i64.wrap (a.2.1+(x0.size:Int)))/\(IntKind.i64.wrap (a.2.1+(x0.size:Int)))<=a.1.size)) (.ask ((!((a.1.extract (a.2.1).toNat ((IntKind.i64.wrap (a.2.1+(x0.size:Int)))).toNat).toList==x0.toList))) (.done (false,a.1,a.2.1,a.2.2.1,a.2.2.2.1,a.2.2.2.2)) (.done (true,a.1,(IntKind.i64.wrap (a.2.1+(x0.size:Int))),a.2.2.1,a.2.2.2.1,a.2.2.2.2))) .fail))))
def ET:Nat->BA->BA->Int->Bool->Nat->RW->Option (Bool×BA×Int×Bool×Nat×RW)
 |0,_,_,_,_,_,_=>none
 |n+1,x0,x1,x2,x3,x4,x5=>(P5 n x0 x1 x2 x3 x4 x5).run
abbrev WN (n:Nat):List (Ent (Rn n)):= [en (JQ n)]
theorem Jm:∀n,Ok (Rn n) WM (ET n)
 |0=>ok0 λ_=>rfl
 |n+1=>stO (T:=P5 n) (by kernel_rfl) (WN n) [] (λ_=>by kernel_rfl) λ_=>by kernel_rfl
def WO:Sg:=⟨214,[(.agg [qI,qI,qS])],[],⟨aB,[],[]⟩⟩
def Io (n:Nat) (x1:Int) (x2:BA) (k0 k1:Int):Tr (Bool):=(.opt (FN n x1 k0 k1) λa=>(.ask (a) (.done (x2.toList==(⟨#[]⟩:BA).toList)) (.done false)))
def MQ (n:Nat) (x0 x1:Int) (x2:BA):Tr (Bool):=(.ask ((x0==(0:Int))) (.ask ((x1==(0:Int))) (.done (x2.toList==(⟨#[]⟩:BA).toList)) (.done false)) (.ask ((x0==(1:Int))) (Io n x1 x2 (-1000000000000000:Int) (1000000000000000:Int)) (.ask ((x0==(2:Int))) (.ask ((x1==(0:Int))) (.opt (HD n x2) λa=>(.done a)) (.done false)) (.ask ((x0==(3:Int))) (Io n x1 x2 (0:Int) (1:Int)) (.ask ((x0==(4:Int))) (Io n x1 x2 (1:Int) (5:Int)) (.done false))))))
def En:Nat->Int->Int->BA->Option (Bool)
 |0,_,_,_=>none
 |n+1,x0,x1,x2=>(MQ n x0 x1 x2).run
abbrev WP (n:Nat):List (Ent (Rn n)):= [en (JD n),en (Lm n)]
theorem Jn:∀n,Ok (Rn n) WO (En n)
 |0=>ok0 λ_=>rfl
 |n+1=>stO (T:=MQ n) (by kernel_rfl) (WP n) [] (λ_=>by kernel_rfl) λ_=>by kernel_rfl
def Xe:Sg:=⟨306,[(.agg [qI,qI,qI,qI])],[],⟨aB,[],[]⟩⟩
def Nm (n:Nat) (x0 x1 x2 x3:Int):Tr (Bool):=(.opt (FQ n x0 x1) λa=>(.ask (a) (.opt (FQ n x2 x3) λb=>(.ask (b) (.ask ((decide (x0<=x2))) (.done (decide (x1<=x3))) (.done false)) (.done false))) (.done false)))
def LP:Nat->Int->Int->Int->Int->Option (Bool)
 |0,_,_,_,_=>none
 |n+1,x0,x1,x2,x3=>(Nm n x0 x1 x2 x3).run
abbrev Xf (n:Nat):List (Ent (Rn n)):= [en (Jg n)]
theorem WQ:∀n,Ok (Rn n) Xe (LP n)
 |0=>ok0 λ_=>rfl
 |n+1=>stO (T:=Nm n) (by kernel_rfl) (Xf n) [] (λ_=>by kernel_rfl) λ_=>by kernel_rfl
def Xg:Sg:=⟨307,[aI,aI],[],⟨aB,[],[]⟩⟩
def Nn (n:Nat) (x0 x1:Int):Tr (Bool):=(.ask ((x0==(1:Int))) (.ask ((decide (x1≥(1:Int)))) (.done (decide (x1<=(10:Int)))) (.done false)) (.ask ((x0==(2:Int))) (.ask ((decide (x1≥(1:Int)))) (.done (decide (x1<=(10:Int)))) (.done false)) (.ask ((x0==(3:Int))) (.ask ((decide (x1≥(1:Int)))) (.done (decide (x1<=(10:Int)))) (.done false)) (.ask ((x0==(4:Int))) (.ask ((decide (x1≥(1:Int)))) (.done (decide (x1<=(10:Int)))) (.done false)) (.ask ((x0==(6:Int))) (.ask ((decide (x1≥(1:Int)))) (.done (decide (x1<=(10:Int)))) (.done false)) (.ask ((x0==(7:Int))) (.ask ((decide (x1≥(1:Int)))) (.done (decide (x1<=(10:Int)))) (.done false)) (.ask ((x0==(5:Int))) (.ask ((x1==(2:Int))) (.done true) (.done (x1==(3:Int)))) (.ask ((x0==(8:Int))) (.done (x1==(1:Int))) (.ask ((x0==(9:Int))) (.done (x1==(1:Int))) (.ask ((x0==(10:Int))) (.done (x1==(1:Int))) (.done false)))))))))))
def LQ:Nat->Int->Int->Option (Bool)
 |0,_,_=>none
 |n+1,x0,x1=>(Nn n x0 x1).run
theorem WR:∀n,Ok (Rn n) Xg (LQ n)
 |0=>ok0 λ_=>rfl
 |n+1=>stO (T:=Nn n) (by kernel_rfl) [] [] (λ_=>by kernel_rfl) λ_=>by kernel_rfl
def Vd:Sg:=⟨264,[(.agg [qI,qI,qI,qI,qS,qI,qI,qB,qB,qI,qI,qB,qB,qL])],[],⟨aB,[],[]⟩⟩
def Jw (n:Nat) (x2 x3:Int) (x4:BA) (x5 x6:Int) (x7 x8:Bool) (x9 x10:Int) (x11 x12:Bool) (x13:RW) (k0:Int):Tr (Bool):=(.ask (((x2==(0:Int))&&((x3==(0:Int))&&((x4.toList==(⟨#[]⟩:BA).toList)&&true)))) (.ask (((x5==(0:Int))&&((x6==(0:Int))&&((x7==false)&&((x8==false)&&true))))) (.ask (((x9==(0:Int))&&((x10==(0:Int))&&((x11==false)&&((x12==false)&&true))))) (.done ((x13.length:Int)==k0)) (.done false)) (.done false)) (.done false))
def Ln (n:Nat) (x0 x1 x2 x3:Int) (x4:BA) (x5 x6:Int) (x7 x8:Bool) (x9 x10:Int) (x11 x12:Bool) (x13:RW):Tr (Bool):=(.ask ((x0==(1:Int))) (.ask ((x1==(0:Int))) (.ask (((x5==(0:Int))&&((x6==(0:Int))&&((x7==false)&&((x8==false)&&true))))) (.ask (((x9==(0:Int))&&((x10==(0:Int))&&((x11==false)&&((x12==false)&&true))))) (.ask (((x13.length:Int)==(0:Int))) (.opt (En n x2 x3 x4) λa=>(.ask (a) (.ask ((x2 !=(0:Int))) (.ask ((x2 !=(1:Int))) (.done true) (.done (decide (x3≥(0:Int))))) (.done false)) (.done false))) (.done false)) (.done false)) (.done false)) (.done false)) (.ask ((x0==(2:Int))) (.ask ((x1==(0:Int))) (.ask (((x2==(0:Int))&&((x3==(0:Int))&&((x4.toList==(⟨#[]⟩:BA).toList)&&true)))) (.ask (((x9==(0:Int))&&((x10==(0:Int))&&((x11==false)&&((x12==false)&&true))))) (.ask (((x13.length:Int)==(0:Int))) (.opt (FQ n x5 x6) λb=>(.done b)) (.done false)) (.done false)) (.done false)) (.done false)) (.ask ((x0==(3:Int))) (.ask ((x1==(0:Int))) (.ask (((x2==(0:Int))&&((x3==(0:Int))&&((x4.toList==(⟨#[]⟩:BA).toList)&&true)))) (.ask (((x13.length:Int)==(0:Int))) (.opt (LP n x5 x6 x9 x10) λc=>(.done c)) (.done false)) (.done false)) (.done false)) (.ask ((x0==(4:Int))) (.ask ((x1==(0:Int))) (Jw n x2 x3 x4 x5 x6 x7 x8 x9 x10 x11 x12 x13 (1:Int)) (.done false)) (.ask ((x0==(5:Int))) (.opt (FN n x1 (1:Int) (11:Int)) λd=>(.ask (d) (Jw n x2 x3 x4 x5 x6 x7 x8 x9 x10 x11 x12 x13 (2:Int)) (.done false))) (.ask ((x0==(6:Int))) (.opt (LQ n x1 (x13.length:Int)) λf=>(.ask (f) (.ask (((x2==(0:Int))&&((x3==(0:Int))&&((x4.toList==(⟨#[]⟩:BA).toList)&&true)))) (.ask (((x5==(0:Int))&&((x6==(0:Int))&&((x7==false)&&((x8==false)&&true))))) (.done ((x9==(0:Int))&&((x10==(0:Int))&&((x11==false)&&((x12==false)&&true))))) (.done false)) (.done false)) (.done false))) (.done false)))))))
def Gs:Nat->Int->Int->Int->Int->BA->Int->Int->Bool->Bool->Int->Int->Bool->Bool->RW->Option (Bool)
 |0,_,_,_,_,_,_,_,_,_,_,_,_,_,_=>none
 |n+1,x0,x1,x2,x3,x4,x5,x6,x7,x8,x9,x10,x11,x12,x13=>(Ln n x0 x1 x2 x3 x4 x5 x6 x7 x8 x9 x10 x11 x12 x13).run
abbrev Ve (n:Nat):List (Ent (Rn n)):= [en (Jn n),en (Jg n),en (WQ n),en (JD n),en (WR n)]
theorem OC:∀n,Ok (Rn n) Vd (Gs n)
 |0=>ok0 λ_=>rfl
 |n+1=>stO (T:=Ln n) (by kernel_rfl) (Ve n) [] (λ_=>by kernel_rfl) λ_=>by kernel_rfl
def Vf:Sg:=⟨263,[(.c (.ptr 0 0 0 0 0)),(.agg [qI,qI,qI,qI,qS,qI,qI,qB,qB,qI,qI,qB,qB,qL])],[Ft],⟨aI,[Ft],[]⟩⟩
def PN (n:Nat) (x0 x1 x2 x3:Int) (x4:BA) (x5 x6:Int) (x7 x8:Bool) (x9 x10:Int) (x11 x12:Bool) (x13:RW) (x14:BA) (x15:Int) (x16:Bool) (x17:Nat) (x18:RW):Tr (Int×BA×Int×Bool×Nat×RW):=(.ask (decide (1=([[(.i .i64 x0),(.i .i64 x1),(.i .i64 x2),(.i .i64 x3),(.s x4),(.i .i64 x5),(.i .i64 x6),(.b x7),(.b x8),(.i .i64 x9),(.i .i64 x10),(.b x11),(.b x12),(.ls x13)]]:RW).length)) (.ask (decide (x17=x18.length/\0<14/\0<120/\(x17+([[(.i .i64 x0),(.i .i64 x1),(.i .i64 x2),(.i .i64 x3),(.s x4),(.i .i64 x5),(.i .i64 x6),(.b x7),(.b x8),(.i .i64 x9),(.i .i64 x10),(.b x11),(.b x12),(.ls x13)]]:RW).length)*120<=140737488355328/\([[(.i .i64 x0),(.i .i64 x1),(.i .i64 x2),(.i .i64 x3),(.s x4),(.i .i64 x5),(.i .i64 x6),(.b x7),(.b x8),(.i .i64 x9),(.i .i64 x10),(.b x11),(.b x12),(.ls x13)]]:RW).all (λe=>e.length==14)=true)) (.ask ((decide ((((x17+1):Nat):Int)>(60:Int)))) (.done ((IntKind.i64.wrap ((((x17+1):Nat):Int)-(1:Int))),x14,x15,true,(x17+1),(x18++([[(.i .i64 x0),(.i .i64 x1),(.i .i64 x2),(.i .i64 x3),(.s x4),(.i .i64 x5),(.i .i64 x6),(.b x7),(.b x8),(.i .i64 x9),(.i .i64 x10),(.b x11),(.b x12),(.ls x13)]]:RW)))) (.opt (Gs n x0 x1 x2 x3 x4 x5 x6 x7 x8 x9 x10 x11 x12 x13) λa=>(.ask ((!a)) (.done ((IntKind.i64.wrap ((((x17+1):Nat):Int)-(1:Int))),x14,x15,true,(x17+1),(x18++([[(.i .i64 x0),(.i .i64 x1),(.i .i64 x2),(.i .i64 x3),(.s x4),(.i .i64 x5),(.i .i64 x6),(.b x7),(.b x8),(.i .i64 x9),(.i .i64 x10),(.b x11),(.b x12),(.ls x13)]]:RW)))) (.done ((IntKind.i64.wrap ((((x17+1):Nat):Int)-(1:Int))),x14,x15,x16,(x17+1),(x18++([[(.i .i64 x0),(.i .i64 x1),(.i .i64 x2),(.i .i64 x3),(.s x4),(.i .i64 x5),(.i .i64 x6),(.b x7),(.b x8),(.i .i64 x9),(.i .i64 x10),(.b x11),(.b x12),(.ls x13)]]:RW))))))) .fail) .fail)
def EI:Nat->Int->Int->Int->Int->BA->Int->Int->Bool->Bool->Int->Int->Bool->Bool->RW->BA->Int->Bool->Nat->RW->Option (Int×BA×Int×Bool×Nat×RW)
 |0,_,_,_,_,_,_,_,_,_,_,_,_,_,_,_,_,_,_,_=>none
 |n+1,x0,x1,x2,x3,x4,x5,x6,x7,x8,x9,x10,x11,x12,x13,x14,x15,x16,x17,x18=>(PN n x0 x1 x2 x3 x4 x5 x6 x7 x8 x9 x10 x11 x12 x13 x14 x15 x16 x17 x18).run
abbrev Vg (n:Nat):List (Ent (Rn n)):= [en (OC n)]
theorem H7:∀n,Ok (Rn n) Vf (EI n)
 |0=>ok0 λ_=>rfl
 |n+1=>stO (T:=PN n) (by kernel_rfl) (Vg n) [] (λ_=>by kernel_rfl) λ_=>by kernel_rfl
def UF:Sg:=⟨302,[(.c (.ptr 0 0 0 0 0))],[Ft],⟨aI,[Ft],[]⟩⟩
def JR (n:Nat) (v:BA×BA×Int×Bool×Nat×RW):Tr ((BA×BA×Int×Bool×Nat×RW)⊕((Int×BA×Int×Bool×Nat×RW)⊕(BA×Int×Bool×Nat×RW))):=(.ask ((decide (v.2.2.1<(v.2.1.size:Int)))) (.ask (decide (0<=v.2.2.1)) (.opt (v.2.1.toList[(v.2.2.1).toNat]?) λc=>(.ask (((c.toNat:Int) !=(34:Int))) (.ask (decide (0<=v.2.2.1/\v.2.2.1<=(IntKind.i64.wrap (v.2.2.1+(1:Int)))/\(IntKind.i64.wrap (v.2.2.1+(1:Int)))<=v.2.1.size)) (.ask (decide (v.1.size+(v.2.1.extract (v.2.2.1).toNat ((IntKind.i64.wrap (v.2.2.1+(1:Int)))).toNat).size<=9223372036854775807)) (.done (.inl ((v.1++(v.2.1.extract (v.2.2.1).toNat ((IntKind.i64.wrap (v.2.2.1+(1:Int)))).toNat)),v.2.1,(IntKind.i64.wrap (v.2.2.1+(1:Int))),v.2.2.2.1,v.2.2.2.2.1,v.2.2.2.2.2))) .fail) .fail) (.ask ((decide ((IntKind.i64.wrap (v.2.2.1+(1:Int)))≥(v.2.1.size:Int)))) (.opt (EI n (1:Int) (0:Int) (2:Int) (0:Int) v.1 (0:Int) (0:Int) false false (0:Int) (0:Int) false false ([]:RW) v.2.1 (IntKind.i64.wrap (v.2.2.1+(1:Int))) v.2.2.2.1 v.2.2.2.2.1 v.2.2.2.2.2) λa=>(.done (.inr (.inl ((a.1,a.2.1,a.2.2.1,a.2.2.2.1,a.2.2.2.2.1,a.2.2.2.2.2)))))) (.ask (decide (0<=(IntKind.i64.wrap (v.2.2.1+(1:Int))))) (.opt (v.2.1.toList[((IntKind.i64.wrap (v.2.2.1+(1:Int)))).toNat]?) λd=>(.ask (((d.toNat:Int) !=(34:Int))) (.opt (EI n (1:Int) (0:Int) (2:Int) (0:Int) v.1 (0:Int) (0:Int) false false (0:Int) (0:Int) false false ([]:RW) v.2.1 (IntKind.i64.wrap (v.2.2.1+(1:Int))) v.2.2.2.1 v.2.2.2.2.1 v.2.2.2.2.2) λb=>(.done (.inr (.inl ((b.1,b.2.1,b.2.2.1,b.2.2.2.1,b.2.2.2.2.1,b.2.2.2.2.2)))))) (.ask (decide (v.1.size+(⟨#[34]⟩:BA).size<=9223372036854775807)) (.done (.inl ((v.1++(⟨#[34]⟩:BA)),v.2.1,(IntKind.i64.wrap ((IntKind.i64.wrap (v.2.2.1+(1:Int)))+(1:Int))),v.2.2.2.1,v.2.2.2.2.1,v.2.2.2.2.2))) .fail))) .fail)))) .fail) (.done (.inr (.inr ((v.2.1,v.2.2.1,v.2.2.2.1,v.2.2.2.2.1,v.2.2.2.2.2))))))
def OD (n:Nat) (x0:BA) (x1:Int) (x2:Bool) (x3:Nat) (x4:RW):Tr (Int×BA×Int×Bool×Nat×RW):=(.opt (zF (JR n) n ((⟨#[]⟩:BA),x0,x1,x2,x3,x4)) λc=>(.alt c (λa=>(.done (a.1,a.2.1,a.2.2.1,a.2.2.2.1,a.2.2.2.2.1,a.2.2.2.2.2))) (λb=>(.done ((0:Int),b.1,b.2.1,true,b.2.2.2.1,b.2.2.2.2)))))
def K3:Nat->BA->Int->Bool->Nat->RW->Option (Int×BA×Int×Bool×Nat×RW)
 |0,_,_,_,_,_=>none
 |n+1,x0,x1,x2,x3,x4=>(OD n x0 x1 x2 x3 x4).run
abbrev OE (n:Nat):List (Ent (Rn n)):= [en (H7 n)]
def Q9 (n:Nat):LEnt (KB 302) (Rn n) n:=lok (zd 302) 14 ⟨⟨[(0,(.c (.ptr 0 0 0 0 0))),(3,aS)],[],[Ft]⟩,[(.ret,⟨[(2,aI)],[],[Ft]⟩),(.exit 0,⟨[(0,(.c (.ptr 0 0 0 0 0)))],[],[Ft]⟩)]⟩ (JR n) (OE n) [] λ_=>by kernel_rfl
theorem S1:∀n,Ok (Rn n) UF (K3 n)
 |0=>ok0 λ_=>rfl
 |n+1=>stO (T:=OD n) (by kernel_rfl) (OE n) [Q9 n] (λ_=>by kernel_rfl) λ_=>by kernel_rfl
def Xh:Sg:=⟨216,[aI],[],⟨aS,[],[]⟩⟩
def No (n:Nat) (x0:Int):Tr (BA):=(.ask (decide (6=([[(.s (⟨#[]⟩:BA))],[(.s (⟨#[35,68,73,86,33]⟩:BA))],[(.s (⟨#[35,84,89,80,69,33]⟩:BA))],[(.s (⟨#[35,82,69,70,33]⟩:BA))],[(.s (⟨#[35,79,86,69,82,33]⟩:BA))],[(.s (⟨#[35,67,89,67,76,69,33]⟩:BA))]]:RW).length/\0<=x0/\x0<((6:Nat):Int))) (.opt (([[(.s (⟨#[]⟩:BA))],[(.s (⟨#[35,68,73,86,33]⟩:BA))],[(.s (⟨#[35,84,89,80,69,33]⟩:BA))],[(.s (⟨#[35,82,69,70,33]⟩:BA))],[(.s (⟨#[35,79,86,69,82,33]⟩:BA))],[(.s (⟨#[35,67,89,67,76,69,33]⟩:BA))]]:RW)[(x0).toNat]?) λa=>(.opt (z8 a 0) λb=>(.done b))) .fail)
def F3:Nat->Int->Option (BA)
 |0,_=>none
 |n+1,x0=>(No n x0).run
theorem MR:∀n,Ok (Rn n) Xh (F3 n)
 |0=>ok0 λ_=>rfl
 |n+1=>stO (T:=No n) (by kernel_rfl) [] [] (λ_=>by kernel_rfl) λ_=>by kernel_rfl
def WS:Sg:=⟨303,[aI],[],⟨(.agg [qI,qI,qS]),[],[]⟩⟩
def MS (n:Nat) (x0:Int):Tr (Int×Int×BA):=(.done ((4:Int),x0,(⟨#[]⟩:BA)))
def H8:Nat->Int->Option (Int×Int×BA)
 |0,_=>none
 |n+1,x0=>(MS n x0).run
theorem Vh:∀n,Ok (Rn n) WS (H8 n)
 |0=>ok0 λ_=>rfl
 |n+1=>stO (T:=MS n) (by kernel_rfl) [] [] (λ_=>by kernel_rfl) λ_=>by kernel_rfl
def UG:Sg:=⟨304,[(.c (.ptr 0 0 0 0 0))],[Ft],⟨aS,[Ft],[]⟩⟩
def Gv (n:Nat) (v:Int×BA×Int×Bool×Nat×RW):Tr ((Int×BA×Int×Bool×Nat×RW)⊕((Int×BA×Int×Bool×Nat×RW))):=(.ask ((decide (v.2.2.1<(v.2.1.size:Int)))) (.ask (decide (0<=v.2.2.1)) (.opt (v.2.1.toList[(v.2.2.1).toNat]?) λa=>(.ask ((decide ((a.toNat:Int)≥(65:Int)))) (.ask (decide (0<=v.2.2.1)) (.opt (v.2.1.toList[(v.2.2.1).toNat]?) λb=>(.ask ((decide ((b.toNat:Int)<=(90:Int)))) (.done (.inl (v.1,v.2.1,(IntKind.i64.wrap (v.2.2.1+(1:Int))),v.2.2.2.1,v.2.2.2.2.1,v.2.2.2.2.2))) (.ask (decide (0<=v.2.2.1)) (.opt (v.2.1.toList[(v.2.2.1).toNat]?) λc=>(.ask ((decide ((c.toNat:Int)≥(48:Int)))) (.ask (decide (0<=v.2.2.1)) (.opt (v.2.1.toList[(v.2.2.1).toNat]?) λd=>(.ask ((decide ((d.toNat:Int)<=(57:Int)))) (.done (.inl (v.1,v.2.1,(IntKind.i64.wrap (v.2.2.1+(1:Int))),v.2.2.2.1,v.2.2.2.2.1,v.2.2.2.2.2))) (.ask (decide (0<=v.2.2.1)) (.opt (v.2.1.toList[(v.2.2.1).toNat]?) λf=>(.ask (((f.toNat:Int)==(36:Int))) (.done (.inl (v.1,v.2.1,(IntKind.i64.wrap (v.2.2.1+(1:Int))),v.2.2.2.1,v.2.2.2.2.1,v.2.2.2.2.2))) (.done (.inr ((v.1,v.2.1,v.2.2.1,v.2.2.2.1,v.2.2.2.2.1,v.2.2.2.2.2)))))) .fail))) .fail) (.ask (decide (0<=v.2.2.1)) (.opt (v.2.1.toList[(v.2.2.1).toNat]?) λg=>(.ask (((g.toNat:Int)==(36:Int))) (.done (.inl (v.1,v.2.1,(IntKind.i64.wrap (v.2.2.1+(1:Int))),v.2.2.2.1,v.2.2.2.2.1,v.2.2.2.2.2))) (.done (.inr ((v.1,v.2.1,v.2.2.1,v.2.2.2.1,v.2.2.2.2.1,v.2.2.2.2.2)))))) .fail))) .fail))) .fail) (.ask (decide (0<=v.2.2.1)) (.opt (v.2.1.toList[(v.2.2.1).toNat]?) λh=>(.ask ((decide ((h.toNat:Int)≥(48:Int)))) (.ask (decide (0<=v.2.2.1)) (.opt (v.2.1.toList[(v.2.2.1).toNat]?) λj=>(.ask ((decide ((j.toNat:Int)<=(57:Int)))) (.done (.inl (v.1,v.2.1,(IntKind.i64.wrap (v.2.2.1+(1:Int))),v.2.2.2.1,v.2.2.2.2.1,v.2.2.2.2.2))) (.ask (decide (0<=v.2.2.1)) (.opt (v.2.1.toList[(v.2.2.1).toNat]?) λk=>(.ask (((k.toNat:Int)==(36:Int))) (.done (.inl (v.1,v.2.1,(IntKind.i64.wrap (v.2.2.1+(1:Int))),v.2.2.2.1,v.2.2.2.2.1,v.2.2.2.2.2))) (.done (.inr ((v.1,v.2.1,v.2.2.1,v.2.2.2.1,v.2.2.2.2.1,v.2.2.2.2.2)))))) .fail))) .fail) (.ask (decide (0<=v.2.2.1)) (.opt (v.2.1.toList[(v.2.2.1).toNat]?) λl=>(.ask (((l.toNat:Int)==(36:Int))) (.done (.inl (v.1,v.2.1,(IntKind.i64.wrap (v.2.2.1+(1:Int))),v.2.2.2.1,v.2.2.2.2.1,v.2.2.2.2.2))) (.done (.inr ((v.1,v.2.1,v.2.2.1,v.2.2.2.1,v.2.2.2.2.1,v.2.2.2.2.2)))))) .fail))) .fail))) .fail) (.done (.inr ((v.1,v.2.1,v.2.2.1,v.2.2.2.1,v.2.2.2.2.1,v.2.2.2.2.2)))))
def OF (n:Nat) (x0:BA) (x1:Int) (x2:Bool) (x3:Nat) (x4:RW):Tr (BA×BA×Int×Bool×Nat×RW):=(.opt (zF (Gv n) n (x1,x0,x1,x2,x3,x4)) λa=>(.ask (decide (0<=a.1/\a.1<=a.2.2.1/\a.2.2.1<=a.2.1.size)) (.done ((a.2.1.extract (a.1).toNat (a.2.2.1).toNat),a.2.1,a.2.2.1,a.2.2.2.1,a.2.2.2.2.1,a.2.2.2.2.2)) .fail))
def H9:Nat->BA->Int->Bool->Nat->RW->Option (BA×BA×Int×Bool×Nat×RW)
 |0,_,_,_,_,_=>none
 |n+1,x0,x1,x2,x3,x4=>(OF n x0 x1 x2 x3 x4).run
def RA (n:Nat):LEnt (KB 304) (Rn n) n:=lok (zd 304) 14 ⟨⟨[(0,(.c (.ptr 0 0 0 0 0))),(3,aI)],[],[Ft]⟩,[(.exit 0,⟨[(0,(.c (.ptr 0 0 0 0 0))),(3,aI)],[],[Ft]⟩)]⟩ (Gv n) [] [] λ_=>by kernel_rfl
theorem NH:∀n,Ok (Rn n) UG (H9 n)
 |0=>ok0 λ_=>rfl
 |n+1=>stO (T:=OF n) (by kernel_rfl) [] [RA n] (λ_=>by kernel_rfl) λ_=>by kernel_rfl
def ZG:Sg:=⟨269,[aI],[],⟨aS,[],[]⟩⟩
def P6 (n:Nat) (x0:Int):Tr (BA):=(.ask (decide (11=([[(.s (⟨#[]⟩:BA))],[(.s (⟨#[83,85,77]⟩:BA))],[(.s (⟨#[77,73,78]⟩:BA))],[(.s (⟨#[77,65,88]⟩:BA))],[(.s (⟨#[67,79,85,78,84]⟩:BA))],[(.s (⟨#[73,70]⟩:BA))],[(.s (⟨#[65,78,68]⟩:BA))],[(.s (⟨#[79,82]⟩:BA))],[(.s (⟨#[78,79,84]⟩:BA))],[(.s (⟨#[65,66,83]⟩:BA))],[(.s (⟨#[76,69,78]⟩:BA))]]:RW).length/\0<=x0/\x0<((11:Nat):Int))) (.opt (([[(.s (⟨#[]⟩:BA))],[(.s (⟨#[83,85,77]⟩:BA))],[(.s (⟨#[77,73,78]⟩:BA))],[(.s (⟨#[77,65,88]⟩:BA))],[(.s (⟨#[67,79,85,78,84]⟩:BA))],[(.s (⟨#[73,70]⟩:BA))],[(.s (⟨#[65,78,68]⟩:BA))],[(.s (⟨#[79,82]⟩:BA))],[(.s (⟨#[78,79,84]⟩:BA))],[(.s (⟨#[65,66,83]⟩:BA))],[(.s (⟨#[76,69,78]⟩:BA))]]:RW)[(x0).toNat]?) λa=>(.opt (z8 a 0) λb=>(.done b))) .fail)
def HY:Nat->Int->Option (BA)
 |0,_=>none
 |n+1,x0=>(P6 n x0).run
theorem S2:∀n,Ok (Rn n) ZG (HY n)
 |0=>ok0 λ_=>rfl
 |n+1=>stO (T:=P6 n) (by kernel_rfl) [] [] (λ_=>by kernel_rfl) λ_=>by kernel_rfl
def WT:Sg:=⟨150,[aS],[],⟨aI,[],[]⟩⟩
def HZ (n:Nat) (v:BA×Int):Tr ((BA×Int)⊕((Int)⊕(Unit))):=(.ask ((decide (v.2<=(52:Int)))) (.opt (H5 n v.2) λa=>(.ask ((a.toList==v.1.toList)) (.done (.inr (.inl (v.2)))) (.done (.inl (v.1,(IntKind.i64.wrap (v.2+(1:Int)))))))) (.done (.inr (.inr (())))))
def MU (n:Nat) (x0:BA):Tr (Int):=(.opt (zF (HZ n) n (x0,(1:Int))) λa=>(.alt a (λb=>(.done b)) (λc=>(.done (0:Int)))))
def Iu:Nat->BA->Option (Int)
 |0,_=>none
 |n+1,x0=>(MU n x0).run
abbrev P7 (n:Nat):List (Ent (Rn n)):= [en (PM n)]
def S3 (n:Nat):LEnt (KB 150) (Rn n) n:=lok (zd 150) 13 ⟨⟨[(0,aS),(3,aI)],[],[]⟩,[(.ret,⟨[(2,aI)],[],[]⟩),(.exit 0,⟨[],[],[]⟩)]⟩ (HZ n) (P7 n) [] λ_=>by kernel_rfl
theorem Vi:∀n,Ok (Rn n) WT (Iu n)
 |0=>ok0 λ_=>rfl
 |n+1=>stO (T:=MU n) (by kernel_rfl) (P7 n) [S3 n] (λ_=>by kernel_rfl) λ_=>by kernel_rfl
def Yb:Sg:=⟨73,[aS,aI],[],⟨(.tup [(false,[qI]),(false,[qB])]),[],[]⟩⟩
def Gt (n:Nat) (v:BA×Int×Int):Tr ((BA×Int×Int)⊕((Int×Bool)⊕(Int))):=(.ask ((decide (v.2.2<(v.1.size:Int)))) (.ask (decide (0<=v.2.2)) (.opt (v.1.toList[(v.2.2).toNat]?) λa=>(.ask ((decide ((a.toNat:Int)<(48:Int)))) (.done (.inr (.inl (((0:Int),false))))) (.ask (decide (0<=v.2.2)) (.opt (v.1.toList[(v.2.2).toNat]?) λb=>(.ask ((decide ((b.toNat:Int)>(57:Int)))) (.done (.inr (.inl (((0:Int),false))))) (.ask (decide (0<=v.2.2)) (.opt (v.1.toList[(v.2.2).toNat]?) λc=>(.done (.inl (v.1,(IntKind.i64.wrap ((IntKind.i64.wrap (v.2.1*(10:Int)))+(IntKind.i64.wrap (IntKind.u8.wrap ((c.toNat:Int)-(48:Int)))))),(IntKind.i64.wrap (v.2.2+(1:Int))))))) .fail))) .fail))) .fail) (.done (.inr (.inr (v.2.1)))))
def Ib (n:Nat) (x0:BA):Tr (Int×Bool):=(.opt (zF (Gt n) n (x0,(0:Int),(0:Int))) λb=>(.alt b (λa=>(.done (a.1,a.2))) (λc=>(.done (c,true)))))
def KL (n:Nat) (x0:BA) (x1:Int):Tr (Int×Bool):=(.ask ((decide ((x0.size:Int)<(1:Int)))) (.done ((0:Int),false)) (.ask ((decide ((x0.size:Int)>x1))) (.done ((0:Int),false)) (.ask (decide (0<=(0:Int))) (.opt (x0.toList[((0:Int)).toNat]?) λa=>(.ask (((a.toNat:Int)==(48:Int))) (.ask ((decide ((x0.size:Int)>(1:Int)))) (.done ((0:Int),false)) (Ib n x0)) (Ib n x0))) .fail)))
def E8:Nat->BA->Int->Option (Int×Bool)
 |0,_,_=>none
 |n+1,x0,x1=>(KL n x0 x1).run
def Vj (n:Nat):LEnt (KB 73) (Rn n) n:=lok (zd 73) 61 ⟨⟨[(0,aS),(6,aI),(7,aI)],[],[]⟩,[(.ret,⟨[(4,aI),(5,aB)],[],[]⟩),(.exit 0,⟨[(6,aI)],[],[]⟩)]⟩ (Gt n) [] [] λ_=>by kernel_rfl
theorem LR:∀n,Ok (Rn n) Yb (E8 n)
 |0=>ok0 λ_=>rfl
 |n+1=>stO (T:=KL n) (by kernel_rfl) [] [Vj n] (λ_=>by kernel_rfl) λ_=>by kernel_rfl
def UH:Sg:=⟨72,[aS],[],⟨(.tup [(true,[qI,qI,qB,qB]),(false,[qB])]),[],[]⟩⟩
def E9 (n:Nat) (v:BA×Int×Int×Int×Bool×Bool×Int×Int×Bool×Bool):Tr ((BA×Int×Int×Int×Bool×Bool×Int×Int×Bool×Bool)⊕((BA×Int×Int×Int×Bool×Bool×Int×Int×Bool×Bool))):=(.ask ((decide (v.2.1<(v.1.size:Int)))) (.ask (decide (0<=v.2.1)) (.opt (v.1.toList[(v.2.1).toNat]?) λa=>(.ask ((decide ((a.toNat:Int)≥(65:Int)))) (.ask (decide (0<=v.2.1)) (.opt (v.1.toList[(v.2.1).toNat]?) λb=>(.ask ((decide ((b.toNat:Int)<=(90:Int)))) (.done (.inl (v.1,(IntKind.i64.wrap (v.2.1+(1:Int))),v.2.2.1,v.2.2.2.1,v.2.2.2.2.1,v.2.2.2.2.2.1,v.2.2.2.2.2.2.1,v.2.2.2.2.2.2.2.1,v.2.2.2.2.2.2.2.2.1,v.2.2.2.2.2.2.2.2.2))) (.done (.inr ((v.1,v.2.1,v.2.2.1,v.2.2.2.1,v.2.2.2.2.1,v.2.2.2.2.2.1,v.2.2.2.2.2.2.1,v.2.2.2.2.2.2.2.1,v.2.2.2.2.2.2.2.2.1,v.2.2.2.2.2.2.2.2.2)))))) .fail) (.done (.inr ((v.1,v.2.1,v.2.2.1,v.2.2.2.1,v.2.2.2.2.1,v.2.2.2.2.2.1,v.2.2.2.2.2.2.1,v.2.2.2.2.2.2.2.1,v.2.2.2.2.2.2.2.2.1,v.2.2.2.2.2.2.2.2.2)))))) .fail) (.done (.inr ((v.1,v.2.1,v.2.2.1,v.2.2.2.1,v.2.2.2.2.1,v.2.2.2.2.2.1,v.2.2.2.2.2.2.1,v.2.2.2.2.2.2.2.1,v.2.2.2.2.2.2.2.2.1,v.2.2.2.2.2.2.2.2.2)))))
def Gw (n:Nat) (a:((BA×Int×Int×Int×Bool×Bool×Int×Int×Bool×Bool))):Tr (Int×Int×Bool×Bool×Bool):=(.ask (decide (0<=(0:Int)/\(0:Int)<=a.2.1/\a.2.1<=a.1.size)) (.opt (Iu n (a.1.extract ((0:Int)).toNat (a.2.1).toNat)) λb=>(.ask (decide (0<=a.2.1/\a.2.1<=(a.1.size:Int)/\(a.1.size:Int)<=a.1.size)) (.ask ((decide (((a.1.extract (a.2.1).toNat ((a.1.size:Int)).toNat).size:Int)>(0:Int)))) (.ask (decide (0<=(0:Int))) (.opt ((a.1.extract (a.2.1).toNat ((a.1.size:Int)).toNat).toList[((0:Int)).toNat]?) λg=>(.ask (((g.toNat:Int)==(36:Int))) (.ask (decide (0<=(1:Int)/\(1:Int)<=((a.1.extract (a.2.1).toNat ((a.1.size:Int)).toNat).size:Int)/\((a.1.extract (a.2.1).toNat ((a.1.size:Int)).toNat).size:Int)<=(a.1.extract (a.2.1).toNat ((a.1.size:Int)).toNat).size)) (.opt (E8 n ((a.1.extract (a.2.1).toNat ((a.1.size:Int)).toNat).extract ((1:Int)).toNat (((a.1.extract (a.2.1).toNat ((a.1.size:Int)).toNat).size:Int)).toNat) (2:Int)) λc=>(.ask ((!c.2)) (.done ((0:Int),(0:Int),false,false,false)) (.opt (FQ n b c.1) λh=>(.ask ((!h)) (.done ((0:Int),(0:Int),false,false,false)) (.done (b,c.1,a.2.2.2.2.2.2.2.2.1,true,true)))))) .fail) (.opt (E8 n (a.1.extract (a.2.1).toNat ((a.1.size:Int)).toNat) (2:Int)) λd=>(.ask ((!d.2)) (.done ((0:Int),(0:Int),false,false,false)) (.opt (FQ n b d.1) λj=>(.ask ((!j)) (.done ((0:Int),(0:Int),false,false,false)) (.done (b,d.1,a.2.2.2.2.2.2.2.2.1,a.2.2.2.2.2.2.2.2.2,true)))))))) .fail) (.opt (E8 n (a.1.extract (a.2.1).toNat ((a.1.size:Int)).toNat) (2:Int)) λf=>(.ask ((!f.2)) (.done ((0:Int),(0:Int),false,false,false)) (.opt (FQ n b f.1) λk=>(.ask ((!k)) (.done ((0:Int),(0:Int),false,false,false)) (.done (b,f.1,a.2.2.2.2.2.2.2.2.1,a.2.2.2.2.2.2.2.2.2,true))))))) .fail)) .fail)
def Gx (n:Nat) (x0:BA):Tr (Int×Int×Bool×Bool×Bool):=(.opt (zF (E9 n) n (x0,(0:Int),(0:Int),(0:Int),false,false,(0:Int),(0:Int),false,false)) λa=>(Gw n a))
def HA (n:Nat) (x0:BA):Tr (Int×Int×Bool×Bool×Bool):=(.ask ((decide ((x0.size:Int)>(0:Int)))) (.ask (decide (0<=(0:Int))) (.opt (x0.toList[((0:Int)).toNat]?) λa=>(.ask (((a.toNat:Int)==(36:Int))) (.ask (decide (0<=(1:Int)/\(1:Int)<=(x0.size:Int)/\(x0.size:Int)<=x0.size)) (.opt (zF (E9 n) n ((x0.extract ((1:Int)).toNat ((x0.size:Int)).toNat),(0:Int),(0:Int),(0:Int),false,false,(0:Int),(0:Int),true,false)) λb=>(Gw n b)) .fail) (Gx n x0))) .fail) (Gx n x0))
def FA:Nat->BA->Option (Int×Int×Bool×Bool×Bool)
 |0,_=>none
 |n+1,x0=>(HA n x0).run
abbrev OG (n:Nat):List (Ent (Rn n)):= [en (Vi n),en (LR n),en (Jg n)]
def RB (n:Nat):LEnt (KB 72) (Rn n) n:=lok (zd 72) 62 ⟨⟨[(0,aS),(2,(.c (.ptr 0 128 0 0 0))),(4,(.c (.ptr 0 256 0 0 0))),(5,aI)],lm,[]⟩,[(.exit 0,⟨[(0,aS),(2,(.c (.ptr 0 128 0 0 0))),(4,(.c (.ptr 0 256 0 0 0))),(5,aI)],lm,[]⟩)]⟩ (E9 n) (OG n) [] λ_=>by kernel_rfl
theorem KM:∀n,Ok (Rn n) UH (FA n)
 |0=>ok0 λ_=>rfl
 |n+1=>stO (T:=HA n) (by kernel_rfl) (OG n) [RB n] (λ_=>by kernel_rfl) λ_=>by kernel_rfl
def UI:Sg:=⟨148,[aS],[],⟨(.tup [(true,[qI,qI,qS]),(false,[qB])]),[],[]⟩⟩
def F7 (n:Nat) (v:BA×Int×Int×Int×BA×Int×Int×BA):Tr ((BA×Int×Int×Int×BA×Int×Int×BA)⊕((Int×Int×BA×Int×Int×BA))):=(.ask ((decide (v.2.1<=(5:Int)))) (.opt (F3 n v.2.1) λa=>(.ask ((a.toList==v.1.toList)) (.done (.inl (v.1,(IntKind.i64.wrap (v.2.1+(1:Int))),v.2.2.1,v.2.2.2.1,v.2.2.2.2.1,v.2.2.2.2.2.1,v.2.1,v.2.2.2.2.2.2.2))) (.done (.inl (v.1,(IntKind.i64.wrap (v.2.1+(1:Int))),v.2.2.1,v.2.2.2.1,v.2.2.2.2.1,v.2.2.2.2.2.1,v.2.2.2.2.2.2.1,v.2.2.2.2.2.2.2))))) (.done (.inr ((v.2.2.1,v.2.2.2.1,v.2.2.2.2.1,v.2.2.2.2.2.1,v.2.2.2.2.2.2.1,v.2.2.2.2.2.2.2)))))
def EU (n:Nat) (a:(Int×Bool)):Tr (Int×Int×BA×Bool):=(.opt (En n (1:Int) (IntKind.i64.wrap (0-a.1)) (⟨#[]⟩:BA)) λb=>(.ask ((!b)) (.done ((0:Int),(0:Int),(⟨#[]⟩:BA),false)) (.done ((1:Int),(IntKind.i64.wrap (0-a.1)),(⟨#[]⟩:BA),true))))
def EV (n:Nat) (a:(Int×Bool)):Tr (Int×Int×BA×Bool):=(.opt (En n (1:Int) a.1 (⟨#[]⟩:BA)) λb=>(.ask ((!b)) (.done ((0:Int),(0:Int),(⟨#[]⟩:BA),false)) (.done ((1:Int),a.1,(⟨#[]⟩:BA),true))))
def EW (n:Nat) (k0 k1:Int):Tr (Int×Int×BA×Bool):=(.opt (En n (3:Int) k0 (⟨#[]⟩:BA)) λa=>(.ask ((!a)) (.done ((0:Int),(0:Int),(⟨#[]⟩:BA),false)) (.done ((3:Int),k1,(⟨#[]⟩:BA),true))))
def FZ (n:Nat) (x0:BA):Tr (Int×Int×BA×Bool):=(.ask ((x0.toList==(⟨#[]⟩:BA).toList)) (.done ((0:Int),(0:Int),(⟨#[]⟩:BA),true)) (.ask (decide (0<=(0:Int))) (.opt (x0.toList[((0:Int)).toNat]?) λf=>(.ask (((f.toNat:Int)==(39:Int))) (.ask (decide (0<=(1:Int)/\(1:Int)<=(x0.size:Int)/\(x0.size:Int)<=x0.size)) (.opt (En n (2:Int) (0:Int) (x0.extract ((1:Int)).toNat ((x0.size:Int)).toNat)) λg=>(.ask ((!g)) (.done ((0:Int),(0:Int),(⟨#[]⟩:BA),false)) (.done ((2:Int),(0:Int),(x0.extract ((1:Int)).toNat ((x0.size:Int)).toNat),true)))) .fail) (.ask ((x0.toList==(⟨#[84,82,85,69]⟩:BA).toList)) (.ask ((x0.toList==(⟨#[84,82,85,69]⟩:BA).toList)) (EW n (1:Int) (1:Int)) (EW n (0:Int) (0:Int))) (.ask ((x0.toList==(⟨#[70,65,76,83,69]⟩:BA).toList)) (.ask ((x0.toList==(⟨#[84,82,85,69]⟩:BA).toList)) (EW n (1:Int) (1:Int)) (EW n (0:Int) (0:Int))) (.ask (decide (0<=(0:Int))) (.opt (x0.toList[((0:Int)).toNat]?) λh=>(.ask (((h.toNat:Int)==(35:Int))) (.opt (zF (F7 n) n (x0,(1:Int),(0:Int),(0:Int),(⟨#[]⟩:BA),(4:Int),(0:Int),(⟨#[]⟩:BA))) λb=>(.opt (En n b.2.2.2.1 b.2.2.2.2.1 b.2.2.2.2.2) λj=>(.ask ((!j)) (.done ((0:Int),(0:Int),(⟨#[]⟩:BA),false)) (.done (b.2.2.2.1,b.2.2.2.2.1,b.2.2.2.2.2,true))))) (.ask (decide (0<=(0:Int))) (.opt (x0.toList[((0:Int)).toNat]?) λa=>(.ask (((a.toNat:Int)==(45:Int))) (.ask (decide (0<=(1:Int)/\(1:Int)<=(x0.size:Int)/\(x0.size:Int)<=x0.size)) (.opt (E8 n (x0.extract ((1:Int)).toNat ((x0.size:Int)).toNat) (16:Int)) λc=>(.ask ((!c.2)) (.done ((0:Int),(0:Int),(⟨#[]⟩:BA),false)) (.ask (((a.toNat:Int)==(45:Int))) (.ask ((c.1==(0:Int))) (.done ((0:Int),(0:Int),(⟨#[]⟩:BA),false)) (.ask (((a.toNat:Int)==(45:Int))) (EU n c) (EV n c))) (.ask (((a.toNat:Int)==(45:Int))) (EU n c) (EV n c))))) .fail) (.opt (E8 n x0 (16:Int)) λd=>(.ask ((!d.2)) (.done ((0:Int),(0:Int),(⟨#[]⟩:BA),false)) (.ask (((a.toNat:Int)==(45:Int))) (.ask ((d.1==(0:Int))) (.done ((0:Int),(0:Int),(⟨#[]⟩:BA),false)) (.ask (((a.toNat:Int)==(45:Int))) (EU n d) (EV n d))) (.ask (((a.toNat:Int)==(45:Int))) (EU n d) (EV n d))))))) .fail))) .fail))))) .fail))
def EZ:Nat->BA->Option (Int×Int×BA×Bool)
 |0,_=>none
 |n+1,x0=>(FZ n x0).run
abbrev OH (n:Nat):List (Ent (Rn n)):= [en (Jn n),en (MR n),en (LR n)]
def Oq (n:Nat):LEnt (KB 148) (Rn n) n:=lok (zd 148) 15355 ⟨⟨[(0,aS),(2,(.c (.ptr 0 128 0 0 0))),(4,(.c (.ptr 0 256 0 0 0))),(5,aI)],t7,[]⟩,[(.exit 1,⟨[(2,(.c (.ptr 0 128 0 0 0))),(4,(.c (.ptr 0 256 0 0 0)))],t7,[]⟩)]⟩ (F7 n) (OH n) [] λ_=>by kernel_rfl
theorem NI:∀n,Ok (Rn n) UI (EZ n)
 |0=>ok0 λ_=>rfl
 |n+1=>stO (T:=FZ n) (by kernel_rfl) (OH n) [Oq n] (λ_=>by kernel_rfl) λ_=>by kernel_rfl
def WU:Sg:=⟨268,[aI],[],⟨aI,[],[]⟩⟩
def MV (n:Nat) (x0:Int):Tr (Int):=(.ask ((decide (x0≥(6:Int)))) (.done (1:Int)) (.ask ((x0==(5:Int))) (.done (2:Int)) (.ask ((decide (x0≥(3:Int)))) (.done (4:Int)) (.done (3:Int)))))
def HE:Nat->Int->Option (Int)
 |0,_=>none
 |n+1,x0=>(MV n x0).run
theorem PO:∀n,Ok (Rn n) WU (HE n)
 |0=>ok0 λ_=>rfl
 |n+1=>stO (T:=MV n) (by kernel_rfl) [] [] (λ_=>by kernel_rfl) λ_=>by kernel_rfl
def WV:Sg:=⟨262,[(.c (.ptr 0 0 0 0 0)),aI],[Ft],⟨aI,[Ft],[]⟩⟩
def KN (n:Nat) (v:Int×Nat×Int×RW×BA×Int×Bool×Nat×RW):Tr ((Int×Nat×Int×RW×BA×Int×Bool×Nat×RW)⊕((Int×BA×Int×Bool×Nat×RW)⊕(BA×Int×Bool×Nat×RW))):=(.ask ((decide (v.2.2.1<((v.2.1:Nat):Int)))) (.ask (decide (v.2.1=v.2.2.2.1.length/\0<=v.2.2.1/\v.2.2.1<((v.2.1:Nat):Int))) (.opt (v.2.2.2.1[(v.2.2.1).toNat]?) λb=>(.opt (zI .i64 b 0) λc=>(.opt (HE n c) λd=>(.ask ((d==v.1)) (.ask (decide (v.2.1=v.2.2.2.1.length/\0<=v.2.2.1/\v.2.2.1<((v.2.1:Nat):Int))) (.opt (v.2.2.2.1[(v.2.2.1).toNat]?) λf=>(.opt (zI .i64 f 0) λg=>(.opt (G4 n g) λh=>(.opt (ET n h v.2.2.2.2.1 v.2.2.2.2.2.1 v.2.2.2.2.2.2.1 v.2.2.2.2.2.2.2.1 v.2.2.2.2.2.2.2.2) λa=>(.ask (a.1) (.ask (decide (v.2.1=v.2.2.2.1.length/\0<=v.2.2.1/\v.2.2.1<((v.2.1:Nat):Int))) (.opt (v.2.2.2.1[(v.2.2.1).toNat]?) λj=>(.opt (zI .i64 j 0) λk=>(.done (.inr (.inl ((k,a.2.1,a.2.2.1,a.2.2.2.1,a.2.2.2.2.1,a.2.2.2.2.2))))))) .fail) (.done (.inl (v.1,v.2.1,(IntKind.i64.wrap (v.2.2.1+(1:Int))),v.2.2.2.1,a.2.1,a.2.2.1,a.2.2.2.1,a.2.2.2.2.1,a.2.2.2.2.2)))))))) .fail) (.done (.inl (v.1,v.2.1,(IntKind.i64.wrap (v.2.2.1+(1:Int))),v.2.2.2.1,v.2.2.2.2.1,v.2.2.2.2.2.1,v.2.2.2.2.2.2.1,v.2.2.2.2.2.2.2.1,v.2.2.2.2.2.2.2.2))))))) .fail) (.done (.inr (.inr ((v.2.2.2.2.1,v.2.2.2.2.2.1,v.2.2.2.2.2.2.1,v.2.2.2.2.2.2.2.1,v.2.2.2.2.2.2.2.2))))))
def P8 (n:Nat) (x0:Int) (x1:BA) (x2:Int) (x3:Bool) (x4:Nat) (x5:RW):Tr (Int×BA×Int×Bool×Nat×RW):=(.opt (zF (KN n) n (x0,(11:Nat),(0:Int),([[(.i .i64 (7:Int))],[(.i .i64 (9:Int))],[(.i .i64 (11:Int))],[(.i .i64 (6:Int))],[(.i .i64 (8:Int))],[(.i .i64 (10:Int))],[(.i .i64 (1:Int))],[(.i .i64 (2:Int))],[(.i .i64 (3:Int))],[(.i .i64 (4:Int))],[(.i .i64 (5:Int))]]:RW),x1,x2,x3,x4,x5)) λc=>(.alt c (λa=>(.done (a.1,a.2.1,a.2.2.1,a.2.2.2.1,a.2.2.2.2.1,a.2.2.2.2.2))) (λb=>(.done ((0:Int),b.1,b.2.1,b.2.2.1,b.2.2.2.1,b.2.2.2.2)))))
def KQ:Nat->Int->BA->Int->Bool->Nat->RW->Option (Int×BA×Int×Bool×Nat×RW)
 |0,_,_,_,_,_,_=>none
 |n+1,x0,x1,x2,x3,x4,x5=>(P8 n x0 x1 x2 x3 x4 x5).run
abbrev P9 (n:Nat):List (Ent (Rn n)):= [en (PO n),en (MN n),en (Jm n)]
def S4 (n:Nat):LEnt (KB 262) (Rn n) n:=lok (zd 262) 29 ⟨⟨[(0,(.c (.ptr 0 0 0 0 0))),(1,aI),(5,(.c (.own 1 448 0 0))),(6,aI)],[(448,⟨0,1,2,(.row [])⟩)],[Ft]⟩,[(.ret,⟨[(4,aI)],[],[Ft]⟩),(.exit 0,⟨[],[],[Ft]⟩)]⟩ (KN n) (P9 n) [] λ_=>by kernel_rfl
theorem Vk:∀n,Ok (Rn n) WV (KQ n)
 |0=>ok0 λ_=>rfl
 |n+1=>stO (T:=P8 n) (by kernel_rfl) (P9 n) [S4 n] (λ_=>by kernel_rfl) λ_=>by kernel_rfl
def PP:Sg:=⟨210,[(.c (.ptr 0 0 0 0 0)),aI],[Ft],⟨aI,[Ft],[]⟩⟩
def Vl:Sg:=⟨261,[(.c (.ptr 0 0 0 0 0))],[Ft],⟨aI,[Ft],[]⟩⟩
def UJ:Sg:=⟨305,[(.c (.ptr 0 0 0 0 0)),aI],[Ft],⟨aI,[Ft],[]⟩⟩
def Vm:Sg:=⟨336,[(.c (.ptr 0 0 0 0 0))],[Ft],⟨aI,[Ft],[]⟩⟩
structure G_spec_l3Rd_row where
 spec_l3Rd_row:Int->BA->Int->Bool->Nat->RW->Option (Int×BA×Int×Bool×Nat×RW)
 spec_l3Rd_one:BA->Int->Bool->Nat->RW->Option (Int×BA×Int×Bool×Nat×RW)
 spec_l3Rd_call:Int->BA->Int->Bool->Nat->RW->Option (Int×BA×Int×Bool×Nat×RW)
 spec_l3Rd_arg:BA->Int->Bool->Nat->RW->Option (Int×BA×Int×Bool×Nat×RW)
def Jx (rec:G_spec_l3Rd_row) (n:Nat) (v:Int×Int×BA×Int×Bool×Nat×RW):Tr ((Int×Int×BA×Int×Bool×Nat×RW)⊕((Int×BA×Int×Bool×Nat×RW)⊕(Int×BA×Int×Bool×Nat×RW))):=(.ask ((!v.2.2.2.2.1)) (.opt (KQ n v.1 v.2.2.1 v.2.2.2.1 v.2.2.2.2.1 v.2.2.2.2.2.1 v.2.2.2.2.2.2) λa=>(.ask ((a.1==(0:Int))) (.done (.inr (.inl ((v.2.1,a.2.1,a.2.2.1,a.2.2.2.1,a.2.2.2.2.1,a.2.2.2.2.2))))) (.opt (rec.spec_l3Rd_row (IntKind.i64.wrap (v.1+(1:Int))) a.2.1 a.2.2.1 a.2.2.2.1 a.2.2.2.2.1 a.2.2.2.2.2) λb=>(.ask (decide (2=([[(.i .i64 v.2.1)],[(.i .i64 b.1)]]:RW).length)) (.opt (EI n (5:Int) a.1 (0:Int) (0:Int) (⟨#[]⟩:BA) (0:Int) (0:Int) false false (0:Int) (0:Int) false false ([[(.i .i64 v.2.1)],[(.i .i64 b.1)]]:RW) b.2.1 b.2.2.1 b.2.2.2.1 b.2.2.2.2.1 b.2.2.2.2.2) λc=>(.done (.inl (v.1,c.1,c.2.1,c.2.2.1,c.2.2.2.1,c.2.2.2.2.1,c.2.2.2.2.2)))) .fail)))) (.done (.inr (.inr ((v.2.1,v.2.2.1,v.2.2.2.1,v.2.2.2.2.1,v.2.2.2.2.2.1,v.2.2.2.2.2.2))))))
def PQ (rec:G_spec_l3Rd_row) (n:Nat) (x0:Int) (x1:BA) (x2:Int) (x3:Bool) (x4:Nat) (x5:RW):Tr (Int×BA×Int×Bool×Nat×RW):=(.ask (x3) (.done ((0:Int),x1,x2,x3,x4,x5)) (.ask ((x0==(5:Int))) (.opt (rec.spec_l3Rd_one x1 x2 x3 x4 x5) λa=>(.done (a.1,a.2.1,a.2.2.1,a.2.2.2.1,a.2.2.2.2.1,a.2.2.2.2.2))) (.opt (rec.spec_l3Rd_row (IntKind.i64.wrap (x0+(1:Int))) x1 x2 x3 x4 x5) λb=>(.opt (zF (Jx rec n) n (x0,b.1,b.2.1,b.2.2.1,b.2.2.2.1,b.2.2.2.2.1,b.2.2.2.2.2)) λf=>(.alt f (λc=>(.done (c.1,c.2.1,c.2.2.1,c.2.2.2.1,c.2.2.2.2.1,c.2.2.2.2.2))) (λd=>(.done (d.1,d.2.1,d.2.2.1,d.2.2.2.1,d.2.2.2.2.1,d.2.2.2.2.2))))))))
def Ha (n:Nat) (v:Int×BA×Int×Bool×Nat×RW):Tr ((Int×BA×Int×Bool×Nat×RW)⊕((Int×BA×Int×Bool×Nat×RW)⊕(BA×Int×Bool×Nat×RW))):=(.ask ((decide (v.1<=(5:Int)))) (.opt (F3 n v.1) λa=>(.ask (decide (0<=(1:Int)/\(1:Int)<=(a.size:Int)/\(a.size:Int)<=a.size)) (.ask ((decide ((IntKind.i64.wrap (v.2.2.1+((a.extract ((1:Int)).toNat ((a.size:Int)).toNat).size:Int)))<=(v.2.1.size:Int)))) (.ask (decide (0<=v.2.2.1/\v.2.2.1<=(IntKind.i64.wrap (v.2.2.1+((a.extract ((1:Int)).toNat ((a.size:Int)).toNat).size:Int)))/\(IntKind.i64.wrap (v.2.2.1+((a.extract ((1:Int)).toNat ((a.size:Int)).toNat).size:Int)))<=v.2.1.size)) (.ask (((v.2.1.extract (v.2.2.1).toNat ((IntKind.i64.wrap (v.2.2.1+((a.extract ((1:Int)).toNat ((a.size:Int)).toNat).size:Int)))).toNat).toList==(a.extract ((1:Int)).toNat ((a.size:Int)).toNat).toList)) (.opt (H8 n v.1) λc=>(.opt (EI n (1:Int) (0:Int) c.1 c.2.1 c.2.2 (0:Int) (0:Int) false false (0:Int) (0:Int) false false ([]:RW) v.2.1 (IntKind.i64.wrap (v.2.2.1+((a.extract ((1:Int)).toNat ((a.size:Int)).toNat).size:Int))) v.2.2.2.1 v.2.2.2.2.1 v.2.2.2.2.2) λb=>(.done (.inr (.inl ((b.1,b.2.1,b.2.2.1,b.2.2.2.1,b.2.2.2.2.1,b.2.2.2.2.2))))))) (.done (.inl ((IntKind.i64.wrap (v.1+(1:Int))),v.2.1,v.2.2.1,v.2.2.2.1,v.2.2.2.2.1,v.2.2.2.2.2)))) .fail) (.done (.inl ((IntKind.i64.wrap (v.1+(1:Int))),v.2.1,v.2.2.1,v.2.2.2.1,v.2.2.2.2.1,v.2.2.2.2.2)))) .fail)) (.done (.inr (.inr ((v.2.1,v.2.2.1,v.2.2.2.1,v.2.2.2.2.1,v.2.2.2.2.2))))))
def IS (rec:G_spec_l3Rd_row) (n:Nat) (v:BA×Int×BA×Int×Bool×Nat×RW):Tr ((BA×Int×BA×Int×Bool×Nat×RW)⊕((Int×BA×Int×Bool×Nat×RW)⊕(BA×BA×Int×Bool×Nat×RW))):=(.ask ((decide (v.2.1<=(10:Int)))) (.opt (HY n v.2.1) λc=>(.ask ((c.toList==v.1.toList)) (.opt (ET n (⟨#[40]⟩:BA) v.2.2.1 v.2.2.2.1 v.2.2.2.2.1 v.2.2.2.2.2.1 v.2.2.2.2.2.2) λa=>(.ask (a.1) (.opt (rec.spec_l3Rd_call v.2.1 a.2.1 a.2.2.1 a.2.2.2.1 a.2.2.2.2.1 a.2.2.2.2.2) λb=>(.done (.inr (.inl ((b.1,b.2.1,b.2.2.1,b.2.2.2.1,b.2.2.2.2.1,b.2.2.2.2.2)))))) (.done (.inl (v.1,(IntKind.i64.wrap (v.2.1+(1:Int))),a.2.1,a.2.2.1,a.2.2.2.1,a.2.2.2.2.1,a.2.2.2.2.2))))) (.done (.inl (v.1,(IntKind.i64.wrap (v.2.1+(1:Int))),v.2.2.1,v.2.2.2.1,v.2.2.2.2.1,v.2.2.2.2.2.1,v.2.2.2.2.2.2))))) (.done (.inr (.inr ((v.1,v.2.2.1,v.2.2.2.1,v.2.2.2.2.1,v.2.2.2.2.2.1,v.2.2.2.2.2.2))))))
def MW (n:Nat) (a:(BA×BA×Int×Bool×Nat×RW)):Tr (Int×BA×Int×Bool×Nat×RW):=(.opt (FA n a.1) λc=>(.ask ((!c.2.2.2.2)) (.done ((0:Int),a.2.1,a.2.2.1,true,a.2.2.2.2.1,a.2.2.2.2.2)) (.opt (EI n (2:Int) (0:Int) (0:Int) (0:Int) (⟨#[]⟩:BA) c.1 c.2.1 c.2.2.1 c.2.2.2.1 (0:Int) (0:Int) false false ([]:RW) a.2.1 a.2.2.1 a.2.2.2.1 a.2.2.2.2.1 a.2.2.2.2.2) λb=>(.done (b.1,b.2.1,b.2.2.1,b.2.2.2.1,b.2.2.2.2.1,b.2.2.2.2.2)))))
def PR (rec:G_spec_l3Rd_row) (n:Nat) (x0:BA) (x1:Int) (x2:Bool) (x3:Nat) (x4:RW):Tr (Int×BA×Int×Bool×Nat×RW):=(.opt (ET n (⟨#[45]⟩:BA) x0 x1 x2 x3 x4) λa=>(.ask (a.1) (.opt (rec.spec_l3Rd_row (5:Int) a.2.1 a.2.2.1 a.2.2.2.1 a.2.2.2.2.1 a.2.2.2.2.2) λh=>(.ask (decide (1=([[(.i .i64 h.1)]]:RW).length)) (.opt (EI n (4:Int) (0:Int) (0:Int) (0:Int) (⟨#[]⟩:BA) (0:Int) (0:Int) false false (0:Int) (0:Int) false false ([[(.i .i64 h.1)]]:RW) h.2.1 h.2.2.1 h.2.2.2.1 h.2.2.2.2.1 h.2.2.2.2.2) λk=>(.done (k.1,k.2.1,k.2.2.1,k.2.2.2.1,k.2.2.2.2.1,k.2.2.2.2.2))) .fail)) (.opt (ET n (⟨#[40]⟩:BA) a.2.1 a.2.2.1 a.2.2.2.1 a.2.2.2.2.1 a.2.2.2.2.2) λb=>(.ask (b.1) (.opt (rec.spec_l3Rd_row (1:Int) b.2.1 b.2.2.1 b.2.2.2.1 b.2.2.2.2.1 b.2.2.2.2.2) λj=>(.opt (ET n (⟨#[41]⟩:BA) j.2.1 j.2.2.1 j.2.2.2.1 j.2.2.2.2.1 j.2.2.2.2.2) λf=>(.ask ((!f.1)) (.done (j.1,f.2.1,f.2.2.1,true,f.2.2.2.2.1,f.2.2.2.2.2)) (.done (j.1,f.2.1,f.2.2.1,f.2.2.2.1,f.2.2.2.2.1,f.2.2.2.2.2))))) (.opt (ET n (⟨#[34]⟩:BA) b.2.1 b.2.2.1 b.2.2.2.1 b.2.2.2.2.1 b.2.2.2.2.2) λc=>(.ask (c.1) (.opt (K3 n c.2.1 c.2.2.1 c.2.2.2.1 c.2.2.2.2.1 c.2.2.2.2.2) λl=>(.done (l.1,l.2.1,l.2.2.1,l.2.2.2.1,l.2.2.2.2.1,l.2.2.2.2.2))) (.opt (ET n (⟨#[35]⟩:BA) c.2.1 c.2.2.1 c.2.2.2.1 c.2.2.2.2.1 c.2.2.2.2.2) λd=>(.ask (d.1) (.opt (zF (Ha n) n ((1:Int),d.2.1,d.2.2.1,d.2.2.2.1,d.2.2.2.2.1,d.2.2.2.2.2)) λu=>(.alt u (λm=>(.done (m.1,m.2.1,m.2.2.1,m.2.2.2.1,m.2.2.2.2.1,m.2.2.2.2.2))) (λs=>(.done ((0:Int),s.1,s.2.1,true,s.2.2.2.1,s.2.2.2.2))))) (.opt (H9 n d.2.1 d.2.2.1 d.2.2.2.1 d.2.2.2.2.1 d.2.2.2.2.2) λo=>(.opt (zF (IS rec n) n (o.1,(1:Int),o.2.1,o.2.2.1,o.2.2.2.1,o.2.2.2.2.1,o.2.2.2.2.2)) λw=>(.alt w (λp=>(.done (p.1,p.2.1,p.2.2.1,p.2.2.2.1,p.2.2.2.2.1,p.2.2.2.2.2))) (λg=>(.opt (EZ n g.1) λt=>(.ask (t.2.2.2) (.ask ((!(g.1.toList==(⟨#[]⟩:BA).toList))) (.opt (EI n (1:Int) (0:Int) t.1 t.2.1 t.2.2.1 (0:Int) (0:Int) false false (0:Int) (0:Int) false false ([]:RW) g.2.1 g.2.2.1 g.2.2.2.1 g.2.2.2.2.1 g.2.2.2.2.2) λq=>(.done (q.1,q.2.1,q.2.2.1,q.2.2.2.1,q.2.2.2.2.1,q.2.2.2.2.2))) (MW n g)) (MW n g)))))))))))))))
def JS (rec:G_spec_l3Rd_row) (n:Nat) (v:Int×Nat×RW×BA×Int×Bool×Nat×RW):Tr ((Int×Nat×RW×BA×Int×Bool×Nat×RW)⊕((Int×BA×Int×Bool×Nat×RW)⊕(BA×Int×Bool×Nat×RW))):=(.ask ((!v.2.2.2.2.2.1)) (.opt (rec.spec_l3Rd_arg v.2.2.2.1 v.2.2.2.2.1 v.2.2.2.2.2.1 v.2.2.2.2.2.2.1 v.2.2.2.2.2.2.2) λa=>(.ask (decide (1=([[(.i .i64 a.1)]]:RW).length)) (.ask (decide (v.2.1=v.2.2.1.length/\0<1/\0<8/\(v.2.1+([[(.i .i64 a.1)]]:RW).length)*8<=140737488355328/\([[(.i .i64 a.1)]]:RW).all (λe=>e.length==1)=true)) (.opt (ET n (⟨#[41]⟩:BA) a.2.1 a.2.2.1 a.2.2.2.1 a.2.2.2.2.1 a.2.2.2.2.2) λb=>(.ask (b.1) (.ask (decide ((v.2.1+1)=(v.2.2.1++([[(.i .i64 a.1)]]:RW)).length)) (.opt (EI n (6:Int) v.1 (0:Int) (0:Int) (⟨#[]⟩:BA) (0:Int) (0:Int) false false (0:Int) (0:Int) false false (v.2.2.1++([[(.i .i64 a.1)]]:RW)) b.2.1 b.2.2.1 b.2.2.2.1 b.2.2.2.2.1 b.2.2.2.2.2) λd=>(.done (.inr (.inl ((d.1,d.2.1,d.2.2.1,d.2.2.2.1,d.2.2.2.2.1,d.2.2.2.2.2)))))) .fail) (.opt (ET n (⟨#[44]⟩:BA) b.2.1 b.2.2.1 b.2.2.2.1 b.2.2.2.2.1 b.2.2.2.2.2) λc=>(.ask ((!c.1)) (.done (.inl (v.1,(v.2.1+1),(v.2.2.1++([[(.i .i64 a.1)]]:RW)),c.2.1,c.2.2.1,true,c.2.2.2.2.1,c.2.2.2.2.2))) (.done (.inl (v.1,(v.2.1+1),(v.2.2.1++([[(.i .i64 a.1)]]:RW)),c.2.1,c.2.2.1,c.2.2.2.1,c.2.2.2.2.1,c.2.2.2.2.2))))))) .fail) .fail)) (.done (.inr (.inr ((v.2.2.2.1,v.2.2.2.2.1,v.2.2.2.2.2.1,v.2.2.2.2.2.2.1,v.2.2.2.2.2.2.2))))))
def OI (rec:G_spec_l3Rd_row) (n:Nat) (x0:Int) (x1:BA) (x2:Int) (x3:Bool) (x4:Nat) (x5:RW):Tr (Int×BA×Int×Bool×Nat×RW):=(.opt (zF (JS rec n) n (x0,(0:Nat),([]:RW),x1,x2,x3,x4,x5)) λc=>(.alt c (λa=>(.done (a.1,a.2.1,a.2.2.1,a.2.2.2.1,a.2.2.2.2.1,a.2.2.2.2.2))) (λb=>(.done ((0:Int),b.1,b.2.1,b.2.2.1,b.2.2.2.1,b.2.2.2.2)))))
def PT (rec:G_spec_l3Rd_row) (n:Nat) (x0:BA) (x1:Int) (x2:Bool) (x3:Nat) (x4:RW):Tr (Int×BA×Int×Bool×Nat×RW):=(.opt (GL n x0 x1 x2 x3 x4) λd=>(.opt (H9 n d.1 d.2.1 d.2.2.1 d.2.2.2.1 d.2.2.2.2) λa=>(.opt (FA n a.1) λj=>(.ask (j.2.2.2.2) (.opt (ET n (⟨#[58]⟩:BA) a.2.1 a.2.2.1 a.2.2.2.1 a.2.2.2.2.1 a.2.2.2.2.2) λb=>(.ask (b.1) (.opt (GL n b.2.1 b.2.2.1 b.2.2.2.1 b.2.2.2.2.1 b.2.2.2.2.2) λk=>(.opt (H9 n k.1 k.2.1 k.2.2.1 k.2.2.2.1 k.2.2.2.2) λc=>(.opt (FA n c.1) λl=>(.ask ((!l.2.2.2.2)) (.done ((0:Int),c.2.1,c.2.2.1,true,c.2.2.2.2.1,c.2.2.2.2.2)) (.opt (EI n (3:Int) (0:Int) (0:Int) (0:Int) (⟨#[]⟩:BA) j.1 j.2.1 j.2.2.1 j.2.2.2.1 l.1 l.2.1 l.2.2.1 l.2.2.2.1 ([]:RW) c.2.1 c.2.2.1 c.2.2.2.1 c.2.2.2.2.1 c.2.2.2.2.2) λf=>(.done (f.1,f.2.1,f.2.2.1,f.2.2.2.1,f.2.2.2.2.1,f.2.2.2.2.2))))))) (.opt (rec.spec_l3Rd_row (1:Int) b.2.1 d.2.1 b.2.2.2.1 b.2.2.2.2.1 b.2.2.2.2.2) λg=>(.done (g.1,g.2.1,g.2.2.1,g.2.2.2.1,g.2.2.2.2.1,g.2.2.2.2.2))))) (.opt (rec.spec_l3Rd_row (1:Int) a.2.1 d.2.1 a.2.2.2.1 a.2.2.2.2.1 a.2.2.2.2.2) λh=>(.done (h.1,h.2.1,h.2.2.1,h.2.2.2.1,h.2.2.2.2.1,h.2.2.2.2.2)))))))
def qz:Nat->G_spec_l3Rd_row
 |0=>⟨λ_ _ _ _ _ _=>none,λ_ _ _ _ _=>none,λ_ _ _ _ _ _=>none,λ_ _ _ _ _=>none⟩
 |n+1=>⟨λx0 x1 x2 x3 x4 x5=>(PQ (qz n) n x0 x1 x2 x3 x4 x5).run,λx0 x1 x2 x3 x4=>(PR (qz n) n x0 x1 x2 x3 x4).run,λx0 x1 x2 x3 x4 x5=>(OI (qz n) n x0 x1 x2 x3 x4 x5).run,λx0 x1 x2 x3 x4=>(PT (qz n) n x0 x1 x2 x3 x4).run⟩
def Jo (n:Nat) (x0:Int) (x1:BA) (x2:Int) (x3:Bool) (x4:Nat) (x5:RW):Option (Int×BA×Int×Bool×Nat×RW):=(qz n).spec_l3Rd_row x0 x1 x2 x3 x4 x5
def PU (n:Nat) (x0:BA) (x1:Int) (x2:Bool) (x3:Nat) (x4:RW):Option (Int×BA×Int×Bool×Nat×RW):=(qz n).spec_l3Rd_one x0 x1 x2 x3 x4
def OJ (n:Nat) (x0:Int) (x1:BA) (x2:Int) (x3:Bool) (x4:Nat) (x5:RW):Option (Int×BA×Int×Bool×Nat×RW):=(qz n).spec_l3Rd_call x0 x1 x2 x3 x4 x5
def PW (n:Nat) (x0:BA) (x1:Int) (x2:Bool) (x3:Nat) (x4:RW):Option (Int×BA×Int×Bool×Nat×RW):=(qz n).spec_l3Rd_arg x0 x1 x2 x3 x4
def Fa (n:Nat):Prop:=
 Ok (Rn n) PP (Jo n)/\
 Ok (Rn n) Vl (PU n)/\
 Ok (Rn n) UJ (OJ n)/\
 Ok (Rn n) Vm (PW n)
abbrev PX (n:Nat) (ih:Fa n):List (Ent (Rn n)):= [en ih.2.1,en ih.1,en (Vk n),en (H7 n)]
def R4 (n:Nat) (ih:Fa n):LEnt (KB 210) (Rn n) n:=lok (zd 210) 62 ⟨⟨[(0,(.c (.ptr 0 0 0 0 0))),(1,aI),(5,aI)],[],[Ft]⟩,[(.ret,⟨[(4,aI)],[],[Ft]⟩),(.exit 0,⟨[(5,aI)],[],[Ft]⟩)]⟩ (Jx (qz n) n) (PX n ih) [] λ_=>by kernel_rfl
abbrev Lp (n:Nat) (ih:Fa n):List (Ent (Rn n)):= [en (Jm n),en ih.1,en (H7 n),en (S1 n),en (MR n),en (Vh n),en (NH n),en (S2 n),en ih.2.2.1,en (NI n),en (KM n)]
def QA (n:Nat) (ih:Fa n):LEnt (KB 261) (Rn n) n:=lok (zd 261) 7161 ⟨⟨[(0,(.c (.ptr 0 0 0 0 0))),(5,aI)],[],[Ft]⟩,[(.ret,⟨[(2,aI)],[],[Ft]⟩),(.exit 1,⟨[(0,(.c (.ptr 0 0 0 0 0)))],[],[Ft]⟩)]⟩ (Ha n) (Lp n ih) [] λ_=>by kernel_rfl
def R5 (n:Nat) (ih:Fa n):LEnt (KB 261) (Rn n) n:=lok (zd 261) 61 ⟨⟨[(0,(.c (.ptr 0 0 0 0 0))),(7,aS),(8,aI)],[],[Ft]⟩,[(.ret,⟨[(2,aI)],[],[Ft]⟩),(.exit 3,⟨[(0,(.c (.ptr 0 0 0 0 0))),(7,aS)],[],[Ft]⟩)]⟩ (IS (qz n) n) (Lp n ih) [] λ_=>by kernel_rfl
abbrev OK (n:Nat) (ih:Fa n):List (Ent (Rn n)):= [en ih.2.2.2,en (Jm n),en (H7 n)]
def RD (n:Nat) (ih:Fa n):LEnt (KB 305) (Rn n) n:=lok (zd 305) 14 ⟨⟨[(0,(.c (.ptr 0 0 0 0 0))),(1,aI),(5,(.c (.own 1 384 0 0)))],[(384,⟨0,1,2,(.row [])⟩)],[Ft]⟩,[(.ret,⟨[(4,aI)],[],[Ft]⟩),(.exit 0,⟨[],[],[Ft]⟩)]⟩ (JS (qz n) n) (OK n ih) [] λ_=>by kernel_rfl
abbrev Vn (n:Nat) (ih:Fa n):List (Ent (Rn n)):= [en (JQ n),en (NH n),en (KM n),en (Jm n),en (H7 n),en ih.1]
theorem Fb:∀n,Fa n
 |0=>⟨ok0 λ_=>rfl,ok0 λ_=>rfl,ok0 λ_=>rfl,ok0 λ_=>rfl⟩
 |n+1=>⟨stO (T:=PQ (qz n) n) (by kernel_rfl) (PX n (Fb n)) [R4 n (Fb n)] (λ_=>by kernel_rfl) λ_=>by kernel_rfl,stO (T:=PR (qz n) n) (by kernel_rfl) (Lp n (Fb n)) [QA n (Fb n),R5 n (Fb n)] (λ_=>by kernel_rfl) λ_=>by kernel_rfl,stO (T:=OI (qz n) n) (by kernel_rfl) (OK n (Fb n)) [RD n (Fb n)] (λ_=>by kernel_rfl) λ_=>by kernel_rfl,stO (T:=PT (qz n) n) (by kernel_rfl) (Vn n (Fb n)) [] (λ_=>by kernel_rfl) λ_=>by kernel_rfl⟩
theorem UK (n:Nat):Ok (Rn n) PP (Jo n):=(Fb n).1
def Np:Sg:=⟨265,[aL,aI],[],⟨aI,[],[]⟩⟩
def Fc (rec:RW->Int->Option (Int)) (n:Nat) (v:RW×Int×Int×Int):Tr ((RW×Int×Int×Int)⊕((Int)⊕(Int))):=(.ask ((decide (v.2.2.2≥(0:Int)))) (.ask ((decide (v.2.2.1<(0:Int)))) (.done (.inr (.inl ((-1:Int))))) (.ask (decide (0<=v.2.1/\v.2.1<v.1.length)) (.opt (v.1[(v.2.1).toNat]?) λa=>(.ask (decide (a.length=14)) (.opt (cW a 13) λb=>(.ask (decide (0<=v.2.2.2/\v.2.2.2<b.length)) (.opt (b[(v.2.2.2).toNat]?) λc=>(.ask (decide (c.length=1)) (.opt (zI .i64 c 0) λf=>(.ask ((f !=v.2.2.1)) (.done (.inr (.inl ((-1:Int))))) (.opt (rec v.1 v.2.2.1) λd=>(.ask ((decide (d<(0:Int)))) (.done (.inr (.inl ((-1:Int))))) (.done (.inl (v.1,v.2.1,(IntKind.i64.wrap (d-(1:Int))),(IntKind.i64.wrap (v.2.2.2-(1:Int)))))))))) .fail)) .fail)) .fail)) .fail)) (.done (.inr (.inr (v.2.2.1)))))
def Nq (rec:RW->Int->Option (Int)) (n:Nat) (x0:RW) (x1:Int):Tr (Int):=(.ask (decide (0<=x1/\x1<x0.length)) (.opt (x0[(x1).toNat]?) λa=>(.ask (decide (a.length=14)) (.opt (cW a 13) λb=>(.opt (zF (Fc rec n) n (x0,x1,(IntKind.i64.wrap (x1-(1:Int))),(IntKind.i64.wrap ((b.length:Int)-(1:Int))))) λc=>(.alt c (λd=>(.done d)) (λf=>(.done (IntKind.i64.wrap (f+(1:Int)))))))) .fail)) .fail)
def FK:Nat->RW->Int->Option (Int)
 |0,_,_=>none
 |n+1,x0,x1=>(Nq (FK n) n x0 x1).run
abbrev Rk (n:Nat) (ih:Ok (Rn n) Np (FK n)):List (Ent (Rn n)):= [en ih]
def UL (n:Nat) (ih:Ok (Rn n) Np (FK n)):LEnt (KB 265) (Rn n) n:=lok (zd 265) 29 ⟨⟨[(0,aL),(1,aI),(5,aI),(6,aI)],[],[]⟩,[(.ret,⟨[(4,aI)],[],[]⟩),(.exit 0,⟨[(5,aI)],[],[]⟩)]⟩ (Fc (FK n) n) (Rk n ih) [] λ_=>by kernel_rfl
theorem MX:∀n,Ok (Rn n) Np (FK n)
 |0=>ok0 λ_=>rfl
 |n+1=>stO (T:=Nq (FK n) n) (by kernel_rfl) (Rk n (MX n)) [UL n (MX n)] (λ_=>by kernel_rfl) λ_=>by kernel_rfl
def Nr:Sg:=⟨266,[aL,aI],[],⟨aI,[],[]⟩⟩
def IA (rec:RW->Int->Option (Int)) (n:Nat) (v:RW×Int×Int×Int):Tr ((RW×Int×Int×Int)⊕((Int))):=(.ask (decide (0<=v.2.1/\v.2.1<v.1.length)) (.opt (v.1[(v.2.1).toNat]?) λa=>(.ask (decide (a.length=14)) (.opt (cW a 13) λg=>(.ask ((decide (v.2.2.2<(g.length:Int)))) (.ask (decide (0<=v.2.1/\v.2.1<v.1.length)) (.opt (v.1[(v.2.1).toNat]?) λb=>(.ask (decide (b.length=14)) (.opt (cW b 13) λc=>(.ask (decide (0<=v.2.2.2/\v.2.2.2<c.length)) (.opt (c[(v.2.2.2).toNat]?) λd=>(.ask (decide (d.length=1)) (.opt (zI .i64 d 0) λh=>(.opt (rec v.1 h) λf=>(.done (.inl (v.1,v.2.1,(if f>v.2.2.1 then f else v.2.2.1),(IntKind.i64.wrap (v.2.2.2+(1:Int)))))))) .fail)) .fail)) .fail)) .fail) (.done (.inr (v.2.2.1))))) .fail)) .fail)
def Ns (rec:RW->Int->Option (Int)) (n:Nat) (x0:RW) (x1:Int):Tr (Int):=(.opt (zF (IA rec n) n (x0,x1,(0:Int),(0:Int))) λa=>(.done (IntKind.i64.wrap (a+(1:Int)))))
def FL:Nat->RW->Int->Option (Int)
 |0,_,_=>none
 |n+1,x0,x1=>(Ns (FL n) n x0 x1).run
abbrev Rl (n:Nat) (ih:Ok (Rn n) Nr (FL n)):List (Ent (Rn n)):= [en ih]
def UM (n:Nat) (ih:Ok (Rn n) Nr (FL n)):LEnt (KB 266) (Rn n) n:=lok (zd 266) 29 ⟨⟨[(0,aL),(1,aI),(5,aI),(6,aI)],[],[]⟩,[(.exit 0,⟨[(5,aI)],[],[]⟩)]⟩ (IA (FL n) n) (Rl n ih) [] λ_=>by kernel_rfl
theorem MY:∀n,Ok (Rn n) Nr (FL n)
 |0=>ok0 λ_=>rfl
 |n+1=>stO (T:=Ns (FL n) n) (by kernel_rfl) (Rl n (MY n)) [UM n (MY n)] (λ_=>by kernel_rfl) λ_=>by kernel_rfl
def UN:Sg:=⟨212,[aL],[],⟨aB,[],[]⟩⟩
def FD (n:Nat) (v:RW×Int×Int):Tr ((RW×Int×Int)⊕((Bool)⊕(RW×Int))):=(.ask (decide (0<=v.2.1/\v.2.1<v.1.length)) (.opt (v.1[(v.2.1).toNat]?) λb=>(.ask (decide (b.length=14)) (.opt (cW b 13) λj=>(.ask ((decide (v.2.2<(j.length:Int)))) (.ask (decide (0<=v.2.1/\v.2.1<v.1.length)) (.opt (v.1[(v.2.1).toNat]?) λc=>(.ask (decide (c.length=14)) (.opt (cW c 13) λd=>(.ask (decide (0<=v.2.2/\v.2.2<d.length)) (.opt (d[(v.2.2).toNat]?) λf=>(.ask (decide (f.length=1)) (.opt (zI .i64 f 0) λa=>(.opt (FN n a (0:Int) (IntKind.i64.wrap (v.2.1-(1:Int)))) λk=>(.ask ((!k)) (.done (.inr (.inl (false)))) (.ask (decide (0<=a/\a<v.1.length)) (.opt (v.1[(a).toNat]?) λg=>(.ask (decide (g.length=14)) (.opt (zI .i64 g 0) λl=>(.ask ((l==(3:Int))) (.ask (decide (0<=v.2.1/\v.2.1<v.1.length)) (.opt (v.1[(v.2.1).toNat]?) λh=>(.ask (decide (h.length=14)) (.opt (zI .i64 h 0) λm=>(.ask ((m !=(6:Int))) (.done (.inr (.inl (false)))) (.done (.inl (v.1,v.2.1,(IntKind.i64.wrap (v.2.2+(1:Int)))))))) .fail)) .fail) (.done (.inl (v.1,v.2.1,(IntKind.i64.wrap (v.2.2+(1:Int)))))))) .fail)) .fail)))) .fail)) .fail)) .fail)) .fail) (.done (.inr (.inr ((v.1,v.2.1))))))) .fail)) .fail)
def Fi (n:Nat) (v:RW×Int):Tr ((RW×Int)⊕((Bool)⊕(RW))):=(.ask ((decide (v.2<(v.1.length:Int)))) (.ask (decide (0<=v.2/\v.2<v.1.length)) (.opt (v.1[(v.2).toNat]?) λa=>(.ask (decide (a.length=14)) (.opt (zI .i64 a 0) λc=>(.opt (zI .i64 a 1) λd=>(.opt (zI .i64 a 2) λf=>(.opt (zI .i64 a 3) λg=>(.opt (z8 a 4) λh=>(.opt (zI .i64 a 5) λj=>(.opt (zI .i64 a 6) λk=>(.opt (bW a 7) λl=>(.opt (bW a 8) λm=>(.opt (zI .i64 a 9) λo=>(.opt (zI .i64 a 10) λp=>(.opt (bW a 11) λq=>(.opt (bW a 12) λs=>(.opt (cW a 13) λt=>(.opt (Gs n c d f g h j k l m o p q s t) λu=>(.ask ((!u)) (.done (.inr (.inl (false)))) (.opt (zF (FD n) n (v.1,v.2,(0:Int))) λw=>(.alt w (λz=>(.done (.inr (.inl (z))))) (λb=>(.done (.inl (b.1,(IntKind.i64.wrap (b.2+(1:Int))))))))))))))))))))))))) .fail)) .fail) (.done (.inr (.inr (v.1)))))
def IB (n:Nat) (x0:RW):Tr (Bool):=(.ask ((decide ((x0.length:Int)<(1:Int)))) (.done false) (.ask ((decide ((x0.length:Int)>(60:Int)))) (.done false) (.opt (zF (Fi n) n (x0,(0:Int))) λc=>(.alt c (λd=>(.done d)) (λa=>(.opt (FK n a (IntKind.i64.wrap ((a.length:Int)-(1:Int)))) λf=>(.ask ((f==(0:Int))) (.ask (decide (0<=(IntKind.i64.wrap ((a.length:Int)-(1:Int)))/\(IntKind.i64.wrap ((a.length:Int)-(1:Int)))<a.length)) (.opt (a[((IntKind.i64.wrap ((a.length:Int)-(1:Int)))).toNat]?) λb=>(.ask (decide (b.length=14)) (.opt (zI .i64 b 0) λg=>(.ask ((g !=(3:Int))) (.opt (FL n a (IntKind.i64.wrap ((a.length:Int)-(1:Int)))) λh=>(.done (decide (h<=(12:Int))))) (.done false))) .fail)) .fail) (.done false))))))))
def GM:Nat->RW->Option (Bool)
 |0,_=>none
 |n+1,x0=>(IB n x0).run
abbrev K4 (n:Nat):List (Ent (Rn n)):= [en (OC n),en (JD n),en (MX n),en (MY n)]
def QB (n:Nat):LEnt (lb 29 (KB 212)) (Rn n) n:=lok (Uniq.pick (zd 212) 29) 475 ⟨⟨[(0,aL),(3,aI),(4,aI)],[],[]⟩,[(.ret,⟨[(2,aB)],[],[]⟩),(.exit 2,⟨[(0,aL),(3,aI)],[],[]⟩)]⟩ (FD n) (K4 n) [] λ_=>by kernel_rfl
def RE (n:Nat):LEnt (KB 212) (Rn n) n:=lok (zd 212) 29 ⟨⟨[(0,aL),(3,aI)],[],[]⟩,[(.ret,⟨[(2,aB)],[],[]⟩),(.exit 0,⟨[(0,aL)],[],[]⟩)]⟩ (Fi n) (K4 n) [QB n] λ_=>by kernel_rfl
theorem NJ:∀n,Ok (Rn n) UN (GM n)
 |0=>ok0 λ_=>rfl
 |n+1=>stO (T:=IB n) (by kernel_rfl) (K4 n) [RE n] (λ_=>by kernel_rfl) λ_=>by kernel_rfl
def R6:Sg:=⟨144,[aS],[],⟨(.tup [(false,[qL]),(false,[qB])]),[],[]⟩⟩
def MZ (n:Nat) (x0:BA):Tr (RW×Bool):=(.opt (HD n x0) λg=>(.ask ((!g)) (.ask (decide (0=([]:RW).length)) (.done (([]:RW),false)) .fail) (.opt (Jo n (1:Int) x0 (0:Int) false (0:Nat) ([]:RW)) λd=>(.opt (GL n d.2.1 d.2.2.1 d.2.2.2.1 d.2.2.2.2.1 d.2.2.2.2.2) λa=>(.ask (a.2.2.1) (.ask (decide (0=([]:RW).length)) (.done (([]:RW),false)) .fail) (.ask ((decide (a.2.1<(x0.size:Int)))) (.ask (decide (0=([]:RW).length)) (.done (([]:RW),false)) .fail) (.ask (decide (a.2.2.2.1=a.2.2.2.2.length)) (.opt (GM n a.2.2.2.2) λf=>(.ask (cI (⟨(.c (.p (.b f))),[],[]⟩:Res)) (.ask ((!f)) (.ask (decide (0=([]:RW).length)) (.done (([]:RW),false)) .fail) (.ask (decide (a.2.2.2.1=a.2.2.2.2.length)) (.done (a.2.2.2.2,true)) .fail)) .fail)) .fail)))))))
def Jy:Nat->BA->Option (RW×Bool)
 |0,_=>none
 |n+1,x0=>(MZ n x0).run
abbrev R7 (n:Nat):List (Ent (Rn n)):= [en (Lm n),en (UK n),en (JQ n),en (NJ n)]
theorem RF:∀n,Ok (Rn n) R6 (Jy n)
 |0=>ok0 λ_=>rfl
 |n+1=>stO (T:=MZ n) (by kernel_rfl) (R7 n) [] (λ_=>by kernel_rfl) λ_=>by kernel_rfl
def WW:Sg:=⟨267,[aS],[],⟨aS,[],[]⟩⟩
def F8 (n:Nat) (v:BA×BA×Int):Tr ((BA×BA×Int)⊕((BA))):=(.ask ((decide (v.2.2<(v.1.size:Int)))) (.ask (decide (0<=v.2.2)) (.opt (v.1.toList[(v.2.2).toNat]?) λa=>(.ask (((a.toNat:Int)==(34:Int))) (.ask (decide (v.2.1.size+(⟨#[34]⟩:BA).size<=9223372036854775807)) (.ask (decide (0<=v.2.2/\v.2.2<=(IntKind.i64.wrap (v.2.2+(1:Int)))/\(IntKind.i64.wrap (v.2.2+(1:Int)))<=v.1.size)) (.ask (decide ((v.2.1++(⟨#[34]⟩:BA)).size+(v.1.extract (v.2.2).toNat ((IntKind.i64.wrap (v.2.2+(1:Int)))).toNat).size<=9223372036854775807)) (.done (.inl (v.1,((v.2.1++(⟨#[34]⟩:BA))++(v.1.extract (v.2.2).toNat ((IntKind.i64.wrap (v.2.2+(1:Int)))).toNat)),(IntKind.i64.wrap (v.2.2+(1:Int)))))) .fail) .fail) .fail) (.ask (decide (0<=v.2.2/\v.2.2<=(IntKind.i64.wrap (v.2.2+(1:Int)))/\(IntKind.i64.wrap (v.2.2+(1:Int)))<=v.1.size)) (.ask (decide (v.2.1.size+(v.1.extract (v.2.2).toNat ((IntKind.i64.wrap (v.2.2+(1:Int)))).toNat).size<=9223372036854775807)) (.done (.inl (v.1,(v.2.1++(v.1.extract (v.2.2).toNat ((IntKind.i64.wrap (v.2.2+(1:Int)))).toNat)),(IntKind.i64.wrap (v.2.2+(1:Int)))))) .fail) .fail))) .fail) (.done (.inr (v.2.1))))
def Ma (n:Nat) (x0:BA):Tr (BA):=(.opt (zF (F8 n) n (x0,(⟨#[34]⟩:BA),(0:Int))) λa=>(.ask (decide (a.size+(⟨#[34]⟩:BA).size<=9223372036854775807)) (.done (a++(⟨#[34]⟩:BA))) .fail))
def KR:Nat->BA->Option (BA)
 |0,_=>none
 |n+1,x0=>(Ma n x0).run
def S5 (n:Nat):LEnt (KB 267) (Rn n) n:=lok (zd 267) 29 ⟨⟨[(0,aS),(3,aS),(4,aI)],[],[]⟩,[(.exit 0,⟨[(3,aS)],[],[]⟩)]⟩ (F8 n) [] [] λ_=>by kernel_rfl
theorem Vo:∀n,Ok (Rn n) WW (KR n)
 |0=>ok0 λ_=>rfl
 |n+1=>stO (T:=Ma n) (by kernel_rfl) [] [S5 n] (λ_=>by kernel_rfl) λ_=>by kernel_rfl
def Xi:Sg:=⟨215,[aI],[],⟨aS,[],[]⟩⟩
def Nt (n:Nat) (x0:Int):Tr (BA):=(.ask ((x0==(1:Int))) (.done (⟨#[84,82,85,69]⟩:BA)) (.done (⟨#[70,65,76,83,69]⟩:BA)))
def LS:Nat->Int->Option (BA)
 |0,_=>none
 |n+1,x0=>(Nt n x0).run
theorem WX:∀n,Ok (Rn n) Xi (LS n)
 |0=>ok0 λ_=>rfl
 |n+1=>stO (T:=Nt n) (by kernel_rfl) [] [] (λ_=>by kernel_rfl) λ_=>by kernel_rfl
def UO:Sg:=⟨147,[(.agg [qI,qI,qS])],[],⟨aS,[],[]⟩⟩
def Fz (n:Nat) (x0 x1:Int) (x2:BA):Tr (BA):=(.opt (En n x0 x1 x2) λa=>(.ask ((!a)) (.done (⟨#[]⟩:BA)) (.ask ((x0==(1:Int))) (.opt (D3 n x1) λb=>(.done b)) (.ask ((x0==(2:Int))) (.ask (decide ((⟨#[39]⟩:BA).size+x2.size<=9223372036854775807)) (.done ((⟨#[39]⟩:BA)++x2)) .fail) (.ask ((x0==(3:Int))) (.opt (LS n x1) λc=>(.done c)) (.ask ((x0==(4:Int))) (.opt (F3 n x1) λd=>(.done d)) (.done (⟨#[]⟩:BA))))))))
def El:Nat->Int->Int->BA->Option (BA)
 |0,_,_,_=>none
 |n+1,x0,x1,x2=>(Fz n x0 x1 x2).run
abbrev UP (n:Nat):List (Ent (Rn n)):= [en (Jn n),en (Ga n),en (WX n),en (MR n)]
theorem NK:∀n,Ok (Rn n) UO (El n)
 |0=>ok0 λ_=>rfl
 |n+1=>stO (T:=Fz n) (by kernel_rfl) (UP n) [] (λ_=>by kernel_rfl) λ_=>by kernel_rfl
def Nu:Sg:=⟨213,[aL,aI,aI],[],⟨aS,[],[]⟩⟩
def F9 (rec:RW->Int->Int->Option (BA)) (n:Nat) (v:RW×BA×Int×Int×Int×Int×Int×BA×Int×Int×Bool×Bool×Int×Int×Bool×Bool×RW):Tr ((RW×BA×Int×Int×Int×Int×Int×BA×Int×Int×Bool×Bool×Int×Int×Bool×Bool×RW)⊕((BA))):=(.ask ((decide (v.2.2.1<(v.2.2.2.2.2.2.2.2.2.2.2.2.2.2.2.2.length:Int)))) (.ask ((decide (v.2.2.1>(0:Int)))) (.ask (decide (v.2.1.size+(⟨#[44]⟩:BA).size<=9223372036854775807)) (.ask (decide (0<=v.2.2.1/\v.2.2.1<v.2.2.2.2.2.2.2.2.2.2.2.2.2.2.2.2.length)) (.opt (v.2.2.2.2.2.2.2.2.2.2.2.2.2.2.2.2[(v.2.2.1).toNat]?) λa=>(.ask (decide (a.length=1)) (.opt (zI .i64 a 0) λf=>(.opt (rec v.1 f (0:Int)) λb=>(.ask (decide ((v.2.1++(⟨#[44]⟩:BA)).size+b.size<=9223372036854775807)) (.done (.inl (v.1,((v.2.1++(⟨#[44]⟩:BA))++b),(IntKind.i64.wrap (v.2.2.1+(1:Int))),v.2.2.2.1,v.2.2.2.2.1,v.2.2.2.2.2.1,v.2.2.2.2.2.2.1,v.2.2.2.2.2.2.2.1,v.2.2.2.2.2.2.2.2.1,v.2.2.2.2.2.2.2.2.2.1,v.2.2.2.2.2.2.2.2.2.2.1,v.2.2.2.2.2.2.2.2.2.2.2.1,v.2.2.2.2.2.2.2.2.2.2.2.2.1,v.2.2.2.2.2.2.2.2.2.2.2.2.2.1,v.2.2.2.2.2.2.2.2.2.2.2.2.2.2.1,v.2.2.2.2.2.2.2.2.2.2.2.2.2.2.2.1,v.2.2.2.2.2.2.2.2.2.2.2.2.2.2.2.2))) .fail))) .fail)) .fail) .fail) (.ask (decide (0<=v.2.2.1/\v.2.2.1<v.2.2.2.2.2.2.2.2.2.2.2.2.2.2.2.2.length)) (.opt (v.2.2.2.2.2.2.2.2.2.2.2.2.2.2.2.2[(v.2.2.1).toNat]?) λc=>(.ask (decide (c.length=1)) (.opt (zI .i64 c 0) λg=>(.opt (rec v.1 g (0:Int)) λd=>(.ask (decide (v.2.1.size+d.size<=9223372036854775807)) (.done (.inl (v.1,(v.2.1++d),(IntKind.i64.wrap (v.2.2.1+(1:Int))),v.2.2.2.1,v.2.2.2.2.1,v.2.2.2.2.2.1,v.2.2.2.2.2.2.1,v.2.2.2.2.2.2.2.1,v.2.2.2.2.2.2.2.2.1,v.2.2.2.2.2.2.2.2.2.1,v.2.2.2.2.2.2.2.2.2.2.1,v.2.2.2.2.2.2.2.2.2.2.2.1,v.2.2.2.2.2.2.2.2.2.2.2.2.1,v.2.2.2.2.2.2.2.2.2.2.2.2.2.1,v.2.2.2.2.2.2.2.2.2.2.2.2.2.2.1,v.2.2.2.2.2.2.2.2.2.2.2.2.2.2.2.1,v.2.2.2.2.2.2.2.2.2.2.2.2.2.2.2.2))) .fail))) .fail)) .fail)) (.done (.inr (v.2.1))))
def Gb (rec:RW->Int->Int->Option (BA)) (n:Nat) (x0:RW) (x1 x2:Int):Tr (BA):=(.ask (decide (0<=x1/\x1<x0.length)) (.opt (x0[(x1).toNat]?) λa=>(.ask (decide (a.length=14)) (.opt (zI .i64 a 0) λc=>(.opt (zI .i64 a 1) λh=>(.opt (zI .i64 a 2) λj=>(.opt (zI .i64 a 3) λt=>(.opt (z8 a 4) λk=>(.opt (zI .i64 a 5) λl=>(.opt (zI .i64 a 6) λm=>(.opt (bW a 7) λo=>(.opt (bW a 8) λp=>(.opt (zI .i64 a 9) λu=>(.opt (zI .i64 a 10) λw=>(.opt (bW a 11) λz=>(.opt (bW a 12) λa0=>(.opt (cW a 13) λb=>(.ask ((c==(1:Int))) (.ask ((j==(2:Int))) (.opt (KR n k) λa8=>(.done a8)) (.opt (El n j t k) λa9=>(.done a9))) (.ask ((c==(2:Int))) (.opt (q9 n l m o p) λb0=>(.done b0)) (.ask ((c==(3:Int))) (.opt (q9 n l m o p) λq=>(.ask (decide (q.size+(⟨#[58]⟩:BA).size<=9223372036854775807)) (.opt (q9 n u w z a0) λa1=>(.ask (decide ((q++(⟨#[58]⟩:BA)).size+a1.size<=9223372036854775807)) (.done ((q++(⟨#[58]⟩:BA))++a1)) .fail)) .fail)) (.ask ((c==(4:Int))) (.ask (decide (0<=(0:Int)/\(0:Int)<b.length)) (.opt (b[((0:Int)).toNat]?) λa2=>(.ask (decide (a2.length=1)) (.opt (zI .i64 a2 0) λb1=>(.opt (rec x0 b1 (5:Int)) λa3=>(.ask (decide ((⟨#[45]⟩:BA).size+a3.size<=9223372036854775807)) (.done ((⟨#[45]⟩:BA)++a3)) .fail))) .fail)) .fail) (.ask ((c==(5:Int))) (.opt (HE n h) λs=>(.ask (decide (0<=(0:Int)/\(0:Int)<b.length)) (.opt (b[((0:Int)).toNat]?) λa4=>(.ask (decide (a4.length=1)) (.opt (zI .i64 a4 0) λb2=>(.ask (decide (0<=(1:Int)/\(1:Int)<b.length)) (.opt (b[((1:Int)).toNat]?) λa5=>(.ask (decide (a5.length=1)) (.opt (zI .i64 a5 0) λb3=>(.opt (rec x0 b2 s) λd=>(.opt (G4 n h) λf=>(.ask (decide (d.size+f.size<=9223372036854775807)) (.opt (rec x0 b3 (IntKind.i64.wrap (s+(1:Int)))) λg=>(.ask (decide ((d++f).size+g.size<=9223372036854775807)) (.ask ((decide (s<x2))) (.ask (decide ((⟨#[40]⟩:BA).size+((d++f)++g).size<=9223372036854775807)) (.ask (decide (((⟨#[40]⟩:BA)++((d++f)++g)).size+(⟨#[41]⟩:BA).size<=9223372036854775807)) (.done (((⟨#[40]⟩:BA)++((d++f)++g))++(⟨#[41]⟩:BA))) .fail) .fail) (.done ((d++f)++g))) .fail)) .fail)))) .fail)) .fail)) .fail)) .fail)) (.opt (HY n h) λa6=>(.ask (decide (a6.size+(⟨#[40]⟩:BA).size<=9223372036854775807)) (.opt (zF (F9 rec n) n (x0,(a6++(⟨#[40]⟩:BA)),(0:Int),c,h,j,t,k,l,m,o,p,u,w,z,a0,b)) λa7=>(.ask (decide (a7.size+(⟨#[41]⟩:BA).size<=9223372036854775807)) (.done (a7++(⟨#[41]⟩:BA))) .fail)) .fail))))))))))))))))))))) .fail)) .fail)
def D7:Nat->RW->Int->Int->Option (BA)
 |0,_,_,_=>none
 |n+1,x0,x1,x2=>(Gb (D7 n) n x0 x1 x2).run
abbrev Rm (n:Nat) (ih:Ok (Rn n) Nu (D7 n)):List (Ent (Rn n)):= [en (Vo n),en (NK n),en (KJ n),en ih,en (PO n),en (MN n),en (S2 n)]
def S6 (n:Nat) (ih:Ok (Rn n) Nu (D7 n)):LEnt (KB 213) (Rn n) n:=lok (zd 213) 125 ⟨⟨[(0,aL),(7,(.c (.ptr 0 448 0 0 0))),(10,aS),(11,aI)],[(448,⟨0,14,191,(.box [qI,qI,qI,qI,qS,qI,qI,qB,qB,qI,qI,qB,qB,qL])⟩)],[]⟩,[(.exit 1,⟨[(10,aS)],[],[]⟩)]⟩ (F9 (D7 n) n) (Rm n ih) [] λ_=>by kernel_rfl
theorem Mb:∀n,Ok (Rn n) Nu (D7 n)
 |0=>ok0 λ_=>rfl
 |n+1=>stO (T:=Gb (D7 n) n) (by kernel_rfl) (Rm n (Mb n)) [S6 n (Mb n)] (λ_=>by kernel_rfl) λ_=>by kernel_rfl
def R8:Sg:=⟨145,[aL],[],⟨aS,[],[]⟩⟩
def IT (n:Nat) (x0:RW):Tr (BA):=(.opt (GM n x0) λb=>(.ask ((!b)) (.done (⟨#[]⟩:BA)) (.opt (D7 n x0 (IntKind.i64.wrap ((x0.length:Int)-(1:Int))) (0:Int)) λa=>(.ask ((decide ((a.size:Int)>(200:Int)))) (.done (⟨#[]⟩:BA)) (.done a)))))
def GN:Nat->RW->Option (BA)
 |0,_=>none
 |n+1,x0=>(IT n x0).run
abbrev R9 (n:Nat):List (Ent (Rn n)):= [en (NJ n),en (Mb n)]
theorem RG:∀n,Ok (Rn n) R8 (GN n)
 |0=>ok0 λ_=>rfl
 |n+1=>stO (T:=IT n) (by kernel_rfl) (R9 n) [] (λ_=>by kernel_rfl) λ_=>by kernel_rfl
def Vp:Sg:=⟨146,[aS],[],⟨(.tup [(true,[qI,qI,qS]),(false,[qB])]),[],[]⟩⟩
def GO (n:Nat) (v:BA×Bool×Int×Int×BA):Tr ((BA×Bool×Int×Int×BA)⊕((BA×Bool×Int×Int×BA))):=(.ask ((decide ((v.1.size:Int)>(1:Int)))) (.ask (decide (0<=(0:Int))) (.opt (v.1.toList[((0:Int)).toNat]?) λa=>(.ask (((a.toNat:Int)==(48:Int))) (.ask (decide (0<=(1:Int)/\(1:Int)<=(v.1.size:Int)/\(v.1.size:Int)<=v.1.size)) (.done (.inl ((v.1.extract ((1:Int)).toNat ((v.1.size:Int)).toNat),v.2.1,v.2.2.1,v.2.2.2.1,v.2.2.2.2))) .fail) (.done (.inr ((v.1,v.2.1,v.2.2.1,v.2.2.2.1,v.2.2.2.2)))))) .fail) (.done (.inr ((v.1,v.2.1,v.2.2.1,v.2.2.2.1,v.2.2.2.2)))))
def Jz (n:Nat) (b:((BA×Bool×Int×Int×BA))):Tr (Int×Int×BA×Bool):=(.opt (E8 n b.1 (16:Int)) λa=>(.ask (b.2.1) (.ask (a.2) (.opt (En n (1:Int) (IntKind.i64.wrap (0-a.1)) (⟨#[]⟩:BA)) λc=>(.done ((1:Int),(IntKind.i64.wrap (0-a.1)),(⟨#[]⟩:BA),c))) (.done ((1:Int),(IntKind.i64.wrap (0-a.1)),(⟨#[]⟩:BA),false))) (.ask (a.2) (.opt (En n (1:Int) a.1 (⟨#[]⟩:BA)) λd=>(.done ((1:Int),a.1,(⟨#[]⟩:BA),d))) (.done ((1:Int),a.1,(⟨#[]⟩:BA),false)))))
def PY (n:Nat) (x0:BA):Tr (Int×Int×BA×Bool):=(.ask ((decide ((x0.size:Int)>(0:Int)))) (.ask (decide (0<=(0:Int))) (.opt (x0.toList[((0:Int)).toNat]?) λa=>(.ask (((a.toNat:Int)==(45:Int))) (.ask (decide (0<=(1:Int)/\(1:Int)<=(x0.size:Int)/\(x0.size:Int)<=x0.size)) (.ask (((x0.extract ((1:Int)).toNat ((x0.size:Int)).toNat).toList==(⟨#[]⟩:BA).toList)) (.done ((0:Int),(0:Int),(⟨#[]⟩:BA),false)) (.opt (zF (GO n) n ((x0.extract ((1:Int)).toNat ((x0.size:Int)).toNat),((a.toNat:Int)==(45:Int)),(0:Int),(0:Int),(⟨#[]⟩:BA))) λb=>(Jz n b))) .fail) (.ask ((x0.toList==(⟨#[]⟩:BA).toList)) (.done ((0:Int),(0:Int),(⟨#[]⟩:BA),false)) (.opt (zF (GO n) n (x0,((a.toNat:Int)==(45:Int)),(0:Int),(0:Int),(⟨#[]⟩:BA))) λc=>(Jz n c))))) .fail) (.ask ((x0.toList==(⟨#[]⟩:BA).toList)) (.done ((0:Int),(0:Int),(⟨#[]⟩:BA),false)) (.opt (zF (GO n) n (x0,false,(0:Int),(0:Int),(⟨#[]⟩:BA))) λd=>(Jz n d))))
def Lq:Nat->BA->Option (Int×Int×BA×Bool)
 |0,_=>none
 |n+1,x0=>(PY n x0).run
abbrev PZ (n:Nat):List (Ent (Rn n)):= [en (LR n),en (Jn n)]
def SA (n:Nat):LEnt (KB 146) (Rn n) n:=lok (zd 146) 62 ⟨⟨[(0,aS),(2,(.c (.ptr 0 128 0 0 0))),(4,aB)],cx,[]⟩,[(.exit 0,⟨[(0,aS),(2,(.c (.ptr 0 128 0 0 0))),(4,aB)],cx,[]⟩)]⟩ (GO n) (PZ n) [] λ_=>by kernel_rfl
theorem UQ:∀n,Ok (Rn n) Vp (Lq n)
 |0=>ok0 λ_=>rfl
 |n+1=>stO (T:=PY n) (by kernel_rfl) (PZ n) [SA n] (λ_=>by kernel_rfl) λ_=>by kernel_rfl
def WY:Sg:=⟨67,[aS],[],⟨(.tup [(false,[qS]),(false,[qB])]),[],[]⟩⟩
def QC (n:Nat) (x0:BA):Tr (BA×Bool):=(.opt (HD n x0) λh=>(.ask ((!h)) (.done ((⟨#[]⟩:BA),false)) (.ask ((x0.toList==(⟨#[]⟩:BA).toList)) (.done ((⟨#[]⟩:BA),true)) (.ask (decide (0<=(0:Int))) (.opt (x0.toList[((0:Int)).toNat]?) λj=>(.ask (((j.toNat:Int)==(61:Int))) (.ask (decide (0<=(1:Int)/\(1:Int)<=(x0.size:Int)/\(x0.size:Int)<=x0.size)) (.opt (Jy n (x0.extract ((1:Int)).toNat ((x0.size:Int)).toNat)) λd=>(.opt (GN n d.1) λa=>(.ask ((!d.2)) (.done ((⟨#[]⟩:BA),false)) (.ask ((a.toList==(⟨#[]⟩:BA).toList)) (.done ((⟨#[]⟩:BA),false)) (.ask ((decide ((IntKind.i64.wrap ((a.size:Int)+(1:Int)))>(200:Int)))) (.done ((⟨#[]⟩:BA),false)) (.ask (decide ((⟨#[61]⟩:BA).size+a.size<=9223372036854775807)) (.done (((⟨#[61]⟩:BA)++a),true)) .fail)))))) .fail) (.opt (Lq n x0) λb=>(.ask (b.2.2.2) (.opt (El n b.1 b.2.1 b.2.2.1) λk=>(.done (k,true))) (.opt (EZ n x0) λc=>(.ask ((!c.2.2.2)) (.opt (El n (2:Int) (0:Int) x0) λf=>(.ask ((decide ((f.size:Int)>(200:Int)))) (.done ((⟨#[]⟩:BA),false)) (.done (f,true)))) (.opt (El n c.1 c.2.1 c.2.2.1) λg=>(.ask ((decide ((g.size:Int)>(200:Int)))) (.done ((⟨#[]⟩:BA),false)) (.done (g,true)))))))))) .fail))))
def GA:Nat->BA->Option (BA×Bool)
 |0,_=>none
 |n+1,x0=>(QC n x0).run
abbrev WZ (n:Nat):List (Ent (Rn n)):= [en (Lm n),en (RF n),en (RG n),en (UQ n),en (NK n),en (NI n)]
theorem Jp:∀n,Ok (Rn n) WY (GA n)
 |0=>ok0 λ_=>rfl
 |n+1=>stO (T:=QC n) (by kernel_rfl) (WZ n) [] (λ_=>by kernel_rfl) λ_=>by kernel_rfl
def UR:Sg:=⟨203,[(.c (.ptr 0 0 0 0 0)),aI],[GX],⟨aS,[GX],[]⟩⟩
def K5 (n:Nat) (x0:Int) (x1:RW) (x2:Int):Tr (BA×RW×Int):=(.opt (EP n x0 x1 x2) λa=>(.ask (decide ((⟨#[61]⟩:BA).size+a.1.size<=9223372036854775807)) (.opt (GA n ((⟨#[61]⟩:BA)++a.1)) λb=>(.ask ((!b.2)) (.done ((⟨#[49]⟩:BA),a.2.1,a.2.2)) (.ask (decide (0<=(1:Int)/\(1:Int)<=(b.1.size:Int)/\(b.1.size:Int)<=b.1.size)) (.done ((b.1.extract ((1:Int)).toNat ((b.1.size:Int)).toNat),a.2.1,a.2.2)) .fail))) .fail))
def HB:Nat->Int->RW->Int->Option (BA×RW×Int)
 |0,_,_,_=>none
 |n+1,x0,x1,x2=>(K5 n x0 x1 x2).run
abbrev US (n:Nat):List (Ent (Rn n)):= [en (Jv n),en (Jp n)]
theorem S7:∀n,Ok (Rn n) UR (HB n)
 |0=>ok0 λ_=>rfl
 |n+1=>stO (T:=K5 n) (by kernel_rfl) (US n) [] (λ_=>by kernel_rfl) λ_=>by kernel_rfl
def S8:Sg:=⟨97,[(.c (.ptr 0 0 0 0 0))],[GX],⟨aS,[GX],[]⟩⟩
def Hb (n:Nat) (b:(Int×RW×Int)) (k0:Int):Tr (BA×RW×Int):=(.opt (EP n k0 b.2.1 b.2.2) λa=>(.ask (decide ((⟨#[61]⟩:BA).size+a.1.size<=9223372036854775807)) (.done (((⟨#[61]⟩:BA)++a.1),a.2.1,a.2.2)) .fail))
def KS (n:Nat) (x0:RW) (x1:Int):Tr (BA×RW×Int):=(.opt (qd n (8:Int) x0 x1) λa=>(.ask ((a.1==(0:Int))) (Hb n a (2:Int)) (.ask ((a.1==(1:Int))) (Hb n a (2:Int)) (.ask ((a.1==(2:Int))) (Hb n a (2:Int)) (.ask ((a.1==(3:Int))) (.opt (qd n (20:Int) a.2.1 a.2.2) λc=>(.opt (D3 n c.1) λf=>(.done (f,c.2.1,c.2.2)))) (.ask ((a.1==(4:Int))) (.opt (qd n (20:Int) a.2.1 a.2.2) λd=>(.opt (D3 n d.1) λg=>(.done (g,d.2.1,d.2.2)))) (.ask ((a.1==(5:Int))) (.opt (qd n (8:Int) a.2.1 a.2.2) λb=>(.ask (decide (8=([[(.s (⟨#[84,82,85,69]⟩:BA))],[(.s (⟨#[104,101,108,108,111]⟩:BA))],[(.s (⟨#[39,49,50]⟩:BA))],[(.s (⟨#[35,68,73,86,33]⟩:BA))],[(.s (⟨#[45,53]⟩:BA))],[(.s (⟨#[48,48,55]⟩:BA))],[(.s (⟨#[39]⟩:BA))],[(.s (⟨#[35,120]⟩:BA))]]:RW).length/\0<=b.1/\b.1<((8:Nat):Int))) (.opt (([[(.s (⟨#[84,82,85,69]⟩:BA))],[(.s (⟨#[104,101,108,108,111]⟩:BA))],[(.s (⟨#[39,49,50]⟩:BA))],[(.s (⟨#[35,68,73,86,33]⟩:BA))],[(.s (⟨#[45,53]⟩:BA))],[(.s (⟨#[48,48,55]⟩:BA))],[(.s (⟨#[39]⟩:BA))],[(.s (⟨#[35,120]⟩:BA))]]:RW)[(b.1).toNat]?) λh=>(.opt (z8 h 0) λj=>(.done (j,b.2.1,b.2.2)))) .fail)) (.ask ((a.1==(6:Int))) (.done ((⟨#[]⟩:BA),a.2.1,a.2.2)) (Hb n a (1:Int))))))))))
def Hc:Nat->RW->Int->Option (BA×RW×Int)
 |0,_,_=>none
 |n+1,x0,x1=>(KS n x0 x1).run
abbrev S9 (n:Nat):List (Ent (Rn n)):= [en (Es n),en (Jv n),en (Ga n)]
theorem SB:∀n,Ok (Rn n) S8 (Hc n)
 |0=>ok0 λ_=>rfl
 |n+1=>stO (T:=KS n) (by kernel_rfl) (S9 n) [] (λ_=>by kernel_rfl) λ_=>by kernel_rfl
def UT:Sg:=⟨133,[(.c (.ptr 0 0 0 0 0))],[GX],⟨(.agg [qI,qI,qI,qS,qI]),[GX],[]⟩⟩
def L0 (n:Nat) (d:(Int×RW×Int)):Tr (Int×Int×Int×BA×Int×RW×Int):=(.opt (Hc n d.2.1 d.2.2) λa=>(.opt (GA n a.1) λf=>(.ask ((!f.2)) (.opt (EE n a.2.1 a.2.2) λb=>(.done ((2:Int),b.1,b.2.1,(⟨#[49]⟩:BA),(0:Int),b.2.2.1,b.2.2.2))) (.opt (EE n a.2.1 a.2.2) λc=>(.done ((2:Int),c.1,c.2.1,f.1,(0:Int),c.2.2.1,c.2.2.2))))))
def JU (n:Nat) (c:(Int×RW×Int)):Tr (Int×Int×Int×BA×Int×RW×Int):=(.opt (EE n c.2.1 c.2.2) λa=>(.opt (HB n (1:Int) a.2.2.1 a.2.2.2) λb=>(.done ((1:Int),a.1,a.2.1,b.1,(0:Int),b.2.1,b.2.2))))
def K6 (n:Nat) (x0:RW) (x1:Int):Tr (Int×Int×Int×BA×Int×RW×Int):=(.opt (qd n (8:Int) x0 x1) λa=>(.ask ((a.1==(0:Int))) (JU n a) (.ask ((a.1==(1:Int))) (JU n a) (.ask ((a.1==(2:Int))) (JU n a) (.ask ((a.1==(3:Int))) (L0 n a) (.ask ((a.1==(4:Int))) (L0 n a) (.ask ((a.1==(5:Int))) (.opt (qd n (2:Int) a.2.1 a.2.2) λb=>(.opt (HB n (1:Int) b.2.1 b.2.2) λc=>(.done ((3:Int),(0:Int),(0:Int),c.1,(IntKind.i64.wrap ((1:Int)+b.1)),c.2.1,c.2.2)))) (.ask ((a.1==(6:Int))) (.opt (qd n (9:Int) a.2.1 a.2.2) λd=>(.opt (D3 n d.1) λh=>(.ask (decide ((⟨#[65,49,61]⟩:BA).size+h.size<=9223372036854775807)) (.done ((5:Int),(0:Int),(0:Int),((⟨#[65,49,61]⟩:BA)++h),(0:Int),d.2.1,d.2.2)) .fail))) (.opt (qd n (2:Int) a.2.1 a.2.2) λf=>(.opt (qd n (9:Int) f.2.1 f.2.2) λg=>(.opt (D3 n g.1) λj=>(.ask (decide ((⟨#[65,49,60]⟩:BA).size+j.size<=9223372036854775807)) (.done ((4:Int),(0:Int),(0:Int),((⟨#[65,49,60]⟩:BA)++j),(IntKind.i64.wrap ((1:Int)+f.1)),g.2.1,g.2.2)) .fail))))))))))))
def IC:Nat->RW->Int->Option (Int×Int×Int×BA×Int×RW×Int)
 |0,_,_=>none
 |n+1,x0,x1=>(K6 n x0 x1).run
abbrev UU (n:Nat):List (Ent (Rn n)):= [en (Es n),en (JC n),en (S7 n),en (SB n),en (Jp n),en (Ga n)]
theorem TA:∀n,Ok (Rn n) UT (IC n)
 |0=>ok0 λ_=>rfl
 |n+1=>stO (T:=K6 n) (by kernel_rfl) (UU n) [] (λ_=>by kernel_rfl) λ_=>by kernel_rfl
def TB:Sg:=⟨66,[aS],[],⟨aB,[],[]⟩⟩
def KT (n:Nat) (x0:BA):Tr (Bool):=(.ask (decide ((⟨#[61]⟩:BA).size+x0.size<=9223372036854775807)) (.opt (GA n ((⟨#[61]⟩:BA)++x0)) λa=>(.ask (a.2) (.ask (decide ((⟨#[61]⟩:BA).size+x0.size<=9223372036854775807)) (.done (a.1.toList==((⟨#[61]⟩:BA)++x0).toList)) .fail) (.done false))) .fail)
def GB:Nat->BA->Option (Bool)
 |0,_=>none
 |n+1,x0=>(KT n x0).run
abbrev TC (n:Nat):List (Ent (Rn n)):= [en (Jp n)]
theorem SC:∀n,Ok (Rn n) TB (GB n)
 |0=>ok0 λ_=>rfl
 |n+1=>stO (T:=KT n) (by kernel_rfl) (TC n) [] (λ_=>by kernel_rfl) λ_=>by kernel_rfl
def Wa:Sg:=⟨16,[aL],[],⟨aB,[],[]⟩⟩
def KU (n:Nat) (v:RW×Int):Tr ((RW×Int)⊕((Bool)⊕(Unit))):=(.ask ((decide (v.2<(v.1.length:Int)))) (.ask (decide (0<=v.2/\v.2<v.1.length)) (.opt (v.1[(v.2).toNat]?) λa=>(.ask (decide (a.length=5)) (.opt (zI .i64 a 0) λc=>(.opt (zI .i64 a 1) λd=>(.opt (zI .i64 a 2) λf=>(.opt (z8 a 3) λb=>(.opt (zI .i64 a 4) λg=>(.ask ((c==(1:Int))) (.opt (FQ n d f) λj=>(.ask ((!j)) (.done (.inr (.inl (false)))) (.ask ((g !=(0:Int))) (.done (.inr (.inl (false)))) (.opt (GB n b) λk=>(.ask ((!k)) (.done (.inr (.inl (false)))) (.done (.inl (v.1,(IntKind.i64.wrap (v.2+(1:Int))))))))))) (.ask ((c==(2:Int))) (.opt (GA n b) λh=>(.opt (FQ n d f) λl=>(.ask ((!l)) (.done (.inr (.inl (false)))) (.ask ((g !=(0:Int))) (.done (.inr (.inl (false)))) (.ask ((!h.2)) (.done (.inr (.inl (false)))) (.ask ((!(h.1.toList==b.toList))) (.done (.inr (.inl (false)))) (.done (.inl (v.1,(IntKind.i64.wrap (v.2+(1:Int)))))))))))) (.ask ((c==(3:Int))) (.ask ((!((d==(0:Int))&&((f==(0:Int))&&true)))) (.done (.inr (.inl (false)))) (.opt (FN n g (1:Int) (IntKind.i64.wrap ((IntKind.i64.wrap ((v.1.length:Int)-(1:Int)))-v.2))) λm=>(.ask ((!m)) (.done (.inr (.inl (false)))) (.opt (GB n b) λo=>(.ask ((!o)) (.done (.inr (.inl (false)))) (.done (.inl (v.1,(IntKind.i64.wrap (v.2+(1:Int))))))))))) (.ask ((c==(4:Int))) (.ask ((!((d==(0:Int))&&((f==(0:Int))&&true)))) (.done (.inr (.inl (false)))) (.opt (FN n g (1:Int) v.2) λp=>(.ask ((!p)) (.done (.inr (.inl (false)))) (.opt (GB n b) λq=>(.ask ((!q)) (.done (.inr (.inl (false)))) (.done (.inl (v.1,(IntKind.i64.wrap (v.2+(1:Int))))))))))) (.ask ((c==(5:Int))) (.ask ((!((d==(0:Int))&&((f==(0:Int))&&true)))) (.done (.inr (.inl (false)))) (.ask ((g !=(0:Int))) (.done (.inr (.inl (false)))) (.opt (GB n b) λs=>(.ask ((!s)) (.done (.inr (.inl (false)))) (.done (.inl (v.1,(IntKind.i64.wrap (v.2+(1:Int)))))))))) (.done (.inr (.inl (false)))))))))))))) .fail)) .fail) (.done (.inr (.inr (())))))
def Mc (n:Nat) (x0:RW):Tr (Bool):=(.ask ((decide ((x0.length:Int)>(30:Int)))) (.done false) (.opt (zF (KU n) n (x0,(0:Int))) λa=>(.alt a (λb=>(.done b)) (λc=>(.done true)))))
def HF:Nat->RW->Option (Bool)
 |0,_=>none
 |n+1,x0=>(Mc n x0).run
abbrev QD (n:Nat):List (Ent (Rn n)):= [en (Jg n),en (SC n),en (Jp n),en (JD n)]
def TD (n:Nat):LEnt (KB 16) (Rn n) n:=lok (zd 16) 29 ⟨⟨[(0,aL),(3,aI)],[],[]⟩,[(.ret,⟨[(2,aB)],[],[]⟩),(.exit 0,⟨[],[],[]⟩)]⟩ (KU n) (QD n) [] λ_=>by kernel_rfl
theorem Jq:∀n,Ok (Rn n) Wa (HF n)
 |0=>ok0 λ_=>rfl
 |n+1=>stO (T:=Mc n) (by kernel_rfl) (QD n) [TD n] (λ_=>by kernel_rfl) λ_=>by kernel_rfl
def TE:Sg:=⟨55,[(.c (.ptr 0 0 0 0 0))],[GX],⟨aL,[GX],[]⟩⟩
def Gh (n:Nat) (v:Nat×Int×RW×RW×Int):Tr ((Nat×Int×RW×RW×Int)⊕((Nat×RW×RW×Int))):=(.ask ((decide (v.2.1>(0:Int)))) (.ask (decide (v.1=v.2.2.1.length)) (.ask (decide (0=([]:RW).length/\0<5/\0<48/\(0+v.2.2.1.length)*48<=140737488355328/\v.2.2.1.all (λe=>e.length==5)=true)) (.opt (IC n v.2.2.2.1 v.2.2.2.2) λa=>(.ask (decide (1=([[(.i .i64 a.1),(.i .i64 a.2.1),(.i .i64 a.2.2.1),(.s a.2.2.2.1),(.i .i64 a.2.2.2.2.1)]]:RW).length)) (.ask (decide ((0+v.2.2.1.length)=(([]:RW)++v.2.2.1).length/\0<5/\0<48/\((0+v.2.2.1.length)+([[(.i .i64 a.1),(.i .i64 a.2.1),(.i .i64 a.2.2.1),(.s a.2.2.2.1),(.i .i64 a.2.2.2.2.1)]]:RW).length)*48<=140737488355328/\([[(.i .i64 a.1),(.i .i64 a.2.1),(.i .i64 a.2.2.1),(.s a.2.2.2.1),(.i .i64 a.2.2.2.2.1)]]:RW).all (λe=>e.length==5)=true)) (.ask (decide (((0+v.2.2.1.length)+1)=((([]:RW)++v.2.2.1)++([[(.i .i64 a.1),(.i .i64 a.2.1),(.i .i64 a.2.2.1),(.s a.2.2.2.1),(.i .i64 a.2.2.2.2.1)]]:RW)).length)) (.opt (HF n ((([]:RW)++v.2.2.1)++([[(.i .i64 a.1),(.i .i64 a.2.1),(.i .i64 a.2.2.1),(.s a.2.2.2.1),(.i .i64 a.2.2.2.2.1)]]:RW))) λd=>(.ask (cI (⟨(.c (.p (.b d))),[],[]⟩:Res)) (.ask (d) (.done (.inl (((0+v.2.2.1.length)+1),(IntKind.i64.wrap (v.2.1-(1:Int))),((([]:RW)++v.2.2.1)++([[(.i .i64 a.1),(.i .i64 a.2.1),(.i .i64 a.2.2.1),(.s a.2.2.2.1),(.i .i64 a.2.2.2.2.1)]]:RW)),a.2.2.2.2.2.1,a.2.2.2.2.2.2))) (.ask (decide (((0+v.2.2.1.length)+1)=((([]:RW)++v.2.2.1)++([[(.i .i64 a.1),(.i .i64 a.2.1),(.i .i64 a.2.2.1),(.s a.2.2.2.1),(.i .i64 a.2.2.2.2.1)]]:RW)).length/\0<=(IntKind.i64.wrap (((((0+v.2.2.1.length)+1):Nat):Int)-(1:Int)))/\(IntKind.i64.wrap (((((0+v.2.2.1.length)+1):Nat):Int)-(1:Int)))<((((0+v.2.2.1.length)+1):Nat):Int))) (.opt (((([]:RW)++v.2.2.1)++([[(.i .i64 a.1),(.i .i64 a.2.1),(.i .i64 a.2.2.1),(.s a.2.2.2.1),(.i .i64 a.2.2.2.2.1)]]:RW))[((IntKind.i64.wrap (((((0+v.2.2.1.length)+1):Nat):Int)-(1:Int)))).toNat]?) λf=>(.opt (zI .i64 f 0) λg=>(.ask ((g==(3:Int))) (.done (.inl (((0+v.2.2.1.length)+1),(IntKind.i64.wrap (v.2.1-(1:Int))),((([]:RW)++v.2.2.1)++([[(.i .i64 a.1),(.i .i64 a.2.1),(.i .i64 a.2.2.1),(.s a.2.2.2.1),(.i .i64 a.2.2.2.2.1)]]:RW)),a.2.2.2.2.2.1,a.2.2.2.2.2.2))) (.done (.inl (v.1,(IntKind.i64.wrap (v.2.1-(1:Int))),v.2.2.1,a.2.2.2.2.2.1,a.2.2.2.2.2.2)))))) .fail)) .fail)) .fail) .fail) .fail)) .fail) .fail) (.done (.inr ((v.1,v.2.2.1,v.2.2.2.1,v.2.2.2.2)))))
def KV (n:Nat) (x0:RW) (x1:Int):Tr (RW×RW×Int):=(.opt (EC n (4:Int) x0 x1) λh=>(.ask (h.1) (.opt (qd n (9:Int) h.2.1 h.2.2) λk=>(.opt (D3 n k.1) λl=>(.ask (decide ((⟨#[65,49,60]⟩:BA).size+l.size<=9223372036854775807)) (.opt (IC n k.2.1 k.2.2) λd=>(.ask (decide (4=([[(.i .i64 (1:Int)),(.i .i64 (1:Int)),(.i .i64 (1:Int)),(.s (⟨#[65,49,43,49]⟩:BA)),(.i .i64 (0:Int))],[(.i .i64 (1:Int)),(.i .i64 (2:Int)),(.i .i64 (1:Int)),(.s (⟨#[66,49,43,65,49]⟩:BA)),(.i .i64 (0:Int))],[(.i .i64 (4:Int)),(.i .i64 (0:Int)),(.i .i64 (0:Int)),(.s ((⟨#[65,49,60]⟩:BA)++l)),(.i .i64 (2:Int))],[(.i .i64 d.1),(.i .i64 d.2.1),(.i .i64 d.2.2.1),(.s d.2.2.2.1),(.i .i64 d.2.2.2.2.1)]]:RW).length)) (.done (([[(.i .i64 (1:Int)),(.i .i64 (1:Int)),(.i .i64 (1:Int)),(.s (⟨#[65,49,43,49]⟩:BA)),(.i .i64 (0:Int))],[(.i .i64 (1:Int)),(.i .i64 (2:Int)),(.i .i64 (1:Int)),(.s (⟨#[66,49,43,65,49]⟩:BA)),(.i .i64 (0:Int))],[(.i .i64 (4:Int)),(.i .i64 (0:Int)),(.i .i64 (0:Int)),(.s ((⟨#[65,49,60]⟩:BA)++l)),(.i .i64 (2:Int))],[(.i .i64 d.1),(.i .i64 d.2.1),(.i .i64 d.2.2.1),(.s d.2.2.2.1),(.i .i64 d.2.2.2.2.1)]]:RW),d.2.2.2.2.2.1,d.2.2.2.2.2.2)) .fail)) .fail))) (.opt (qd n (6:Int) h.2.1 h.2.2) λm=>(.opt (zF (Gh n) n ((0:Nat),m.1,([]:RW),m.2.1,m.2.2)) λa=>(.ask (decide (a.1=a.2.1.length)) (.opt (HF n a.2.1) λo=>(.ask (cI (⟨(.c (.p (.b o))),[],[]⟩:Res)) (.ask ((!o)) (.opt (EC n (20:Int) a.2.2.1 a.2.2.2) λj=>(.ask ((!j.1)) (.opt (EE n j.2.1 j.2.2) λf=>(.opt (EE n f.2.2.1 f.2.2.2) λg=>(.ask (decide (2=([[(.i .i64 (1:Int)),(.i .i64 f.1),(.i .i64 f.2.1),(.s (⟨#[49]⟩:BA)),(.i .i64 (0:Int))],[(.i .i64 (1:Int)),(.i .i64 g.1),(.i .i64 g.2.1),(.s (⟨#[65,49,43,66,50]⟩:BA)),(.i .i64 (0:Int))]]:RW).length)) (.ask (decide (a.1=a.2.1.length/\0<5/\0<48/\(a.1+([[(.i .i64 (1:Int)),(.i .i64 f.1),(.i .i64 f.2.1),(.s (⟨#[49]⟩:BA)),(.i .i64 (0:Int))],[(.i .i64 (1:Int)),(.i .i64 g.1),(.i .i64 g.2.1),(.s (⟨#[65,49,43,66,50]⟩:BA)),(.i .i64 (0:Int))]]:RW).length)*48<=140737488355328/\([[(.i .i64 (1:Int)),(.i .i64 f.1),(.i .i64 f.2.1),(.s (⟨#[49]⟩:BA)),(.i .i64 (0:Int))],[(.i .i64 (1:Int)),(.i .i64 g.1),(.i .i64 g.2.1),(.s (⟨#[65,49,43,66,50]⟩:BA)),(.i .i64 (0:Int))]]:RW).all (λe=>e.length==5)=true)) (.ask (decide ((a.1+2)=(a.2.1++([[(.i .i64 (1:Int)),(.i .i64 f.1),(.i .i64 f.2.1),(.s (⟨#[49]⟩:BA)),(.i .i64 (0:Int))],[(.i .i64 (1:Int)),(.i .i64 g.1),(.i .i64 g.2.1),(.s (⟨#[65,49,43,66,50]⟩:BA)),(.i .i64 (0:Int))]]:RW)).length)) (.done ((a.2.1++([[(.i .i64 (1:Int)),(.i .i64 f.1),(.i .i64 f.2.1),(.s (⟨#[49]⟩:BA)),(.i .i64 (0:Int))],[(.i .i64 (1:Int)),(.i .i64 g.1),(.i .i64 g.2.1),(.s (⟨#[65,49,43,66,50]⟩:BA)),(.i .i64 (0:Int))]]:RW)),g.2.2.1,g.2.2.2)) .fail) .fail) .fail))) (.ask (decide (a.1=a.2.1.length)) (.done (a.2.1,j.2.1,j.2.2)) .fail))) (.ask (decide (a.1=a.2.1.length)) (.done (a.2.1,a.2.2.1,a.2.2.2)) .fail)) .fail)) .fail)))))
def Hd:Nat->RW->Int->Option (RW×RW×Int)
 |0,_,_=>none
 |n+1,x0,x1=>(KV n x0 x1).run
abbrev NL (n:Nat):List (Ent (Rn n)):= [en (Im n),en (Es n),en (Ga n),en (TA n),en (Jq n),en (JC n)]
def QE (n:Nat):LEnt (KB 55) (Rn n) n:=lok (zd 55) 61 ⟨⟨[(0,(.c (.ptr 0 0 0 0 0))),(3,(.c (.own 1 192 0 0))),(4,aI)],da,[GX]⟩,[(.exit 0,⟨[(0,(.c (.ptr 0 0 0 0 0))),(3,(.c (.own 1 192 0 0)))],da,[GX]⟩)]⟩ (Gh n) (NL n) [] λ_=>by kernel_rfl
theorem Md:∀n,Ok (Rn n) TE (Hd n)
 |0=>ok0 λ_=>rfl
 |n+1=>stO (T:=KV n) (by kernel_rfl) (NL n) [QE n] (λ_=>by kernel_rfl) λ_=>by kernel_rfl
def QF:Sg:=⟨11,[aL],[],⟨aL,[],[]⟩⟩
def Iw (n:Nat) (x0:RW):Tr (RW):=(.opt (Jf n x0) λa=>(.opt (Hd n a.1 a.2) λb=>(.done b.1)))
def Ix:Nat->RW->Option (RW)
 |0,_=>none
 |n+1,x0=>(Iw n x0).run
abbrev QG (n:Nat):List (Ent (Rn n)):= [en (P2 n),en (Md n)]
theorem Po:∀n,Ok (Rn n) QF (Ix n)
 |0=>ok0 λ_=>rfl
 |n+1=>stO (T:=Iw n) (by kernel_rfl) (QG n) [] (λ_=>by kernel_rfl) λ_=>by kernel_rfl
def Xj:Sg:=⟨142,[aI,aI,aI],[],⟨aB,[],[]⟩⟩
def Nv (n:Nat) (x0 x1 x2:Int):Tr (Bool):=(.ask ((decide (x0≥x1))) (.done (decide (x0<=x2))) (.done false))
def Eh:Nat->Int->Int->Int->Option (Bool)
 |0,_,_,_=>none
 |n+1,x0,x1,x2=>(Nv n x0 x1 x2).run
theorem ID:∀n,Ok (Rn n) Xj (Eh n)
 |0=>ok0 λ_=>rfl
 |n+1=>stO (T:=Nv n) (by kernel_rfl) [] [] (λ_=>by kernel_rfl) λ_=>by kernel_rfl
def Yc:Sg:=⟨92,[(.agg [qI,qI])],[],⟨aB,[],[]⟩⟩
def Ot (n:Nat) (x0 x1:Int):Tr (Bool):=(.opt (Eh n x0 (1:Int) (52:Int)) λa=>(.ask (a) (.opt (Eh n x1 (1:Int) (99:Int)) λb=>(.done b)) (.done false)))
def Gc:Nat->Int->Int->Option (Bool)
 |0,_,_=>none
 |n+1,x0,x1=>(Ot n x0 x1).run
abbrev Yd (n:Nat):List (Ent (Rn n)):= [en (ID n)]
theorem LU:∀n,Ok (Rn n) Yc (Gc n)
 |0=>ok0 λ_=>rfl
 |n+1=>stO (T:=Ot n) (by kernel_rfl) (Yd n) [] (λ_=>by kernel_rfl) λ_=>by kernel_rfl
def Xk:Sg:=⟨98,[aS,aI],[],⟨aB,[],[]⟩⟩
def GP (n:Nat) (v:BA×Int×Int×Int):Tr ((BA×Int×Int×Int)⊕((Bool)⊕(BA×Int))):=(.ask ((decide (v.2.2.2<v.2.2.1))) (.ask (decide (0<=v.2.2.2)) (.opt (v.1.toList[(v.2.2.2).toNat]?) λa=>(.ask ((decide ((a.toNat:Int)<(32:Int)))) (.done (.inr (.inl (false)))) (.ask (decide (0<=v.2.2.2)) (.opt (v.1.toList[(v.2.2.2).toNat]?) λb=>(.ask ((decide ((b.toNat:Int)>(126:Int)))) (.done (.inr (.inl (false)))) (.done (.inl (v.1,v.2.1,v.2.2.1,(IntKind.i64.wrap (v.2.2.2+(1:Int)))))))) .fail))) .fail) (.done (.inr (.inr ((v.1,v.2.1))))))
def Nw (n:Nat) (x0:BA) (x1:Int):Tr (Bool):=(.opt (zF (GP n) n (x0,x1,(x0.size:Int),(0:Int))) λb=>(.alt b (λc=>(.done c)) (λa=>(.done (decide ((a.1.size:Int)<=a.2))))))
def Ht:Nat->BA->Int->Option (Bool)
 |0,_,_=>none
 |n+1,x0,x1=>(Nw n x0 x1).run
def UV (n:Nat):LEnt (KB 98) (Rn n) n:=lok (zd 98) 13 ⟨⟨[(0,aS),(1,aI),(7,aI),(8,aI)],[],[]⟩,[(.ret,⟨[(4,aB)],[],[]⟩),(.exit 0,⟨[(0,aS),(1,aI)],[],[]⟩)]⟩ (GP n) [] [] λ_=>by kernel_rfl
theorem Me:∀n,Ok (Rn n) Xk (Ht n)
 |0=>ok0 λ_=>rfl
 |n+1=>stO (T:=Nw n) (by kernel_rfl) [] [UV n] (λ_=>by kernel_rfl) λ_=>by kernel_rfl
def L1:Sg:=⟨99,[aS,aS],[],⟨(.tup [(false,[qS]),(false,[qB])]),[],[]⟩⟩
def EX:Nat->BA->BA->Option ((BA×Bool))
 |0,_,_=>none
 |n+1,x0,x1=>zy x0 x1
theorem He:∀n,Ok (Rn n) L1 (EX n)
 |0=>ok0 λ_=>rfl
 |n+1=>stL bJ (by kernel_rfl) (λ_ _=>rfl) (λa r e=>congrArg (Option.map λr=>(L1.Of r).v) e) rfl rfl rfl
def Mf:Sg:=⟨208,[aS,aS],[],⟨aS,[],[]⟩⟩
def Fv:Nat->BA->BA->Option ((BA))
 |0,_,_=>none
 |n+1,x0,x1=>za x0 x1
theorem JV:∀n,Ok (Rn n) Mf (Fv n)
 |0=>ok0 λ_=>rfl
 |n+1=>stL bQ (by kernel_rfl) (λ_ _=>rfl) (λa r e=>congrArg (Option.map λr=>(Mf.Of r).v) e) rfl rfl rfl
def QH:Sg:=⟨171,[(.c (.ptr 0 0 0 0 0))],[Fu],⟨(.tup []),[Fu],[]⟩⟩
def Iy (n:Nat) (x0:BA) (x1:Nat) (x2:Bool) (x3:RW):Tr (BA×Nat×Bool×RW):=(.opt (Fv n x0 (⟨#[32]⟩:BA)) λa=>(.done (a,x1,x2,x3)))
def FX:Nat->BA->Nat->Bool->RW->Option (BA×Nat×Bool×RW)
 |0,_,_,_,_=>none
 |n+1,x0,x1,x2,x3=>(Iy n x0 x1 x2 x3).run
abbrev QJ (n:Nat):List (Ent (Rn n)):= [en (JV n)]
theorem HI:∀n,Ok (Rn n) QH (FX n)
 |0=>ok0 λ_=>rfl
 |n+1=>stO (T:=Iy n) (by kernel_rfl) (QJ n) [] (λ_=>by kernel_rfl) λ_=>by kernel_rfl
def KW:Sg:=⟨225,[aS,aS],[],⟨aB,[],[]⟩⟩
def FR (n:Nat) (x0 x1:BA):Tr (Bool):=(.ask ((decide ((x0.size:Int)≥(x1.size:Int)))) (.ask (decide (0<=(0:Int)/\(0:Int)<=(x1.size:Int)/\(x1.size:Int)<=x0.size)) (.done ((x0.extract ((0:Int)).toNat ((x1.size:Int)).toNat).toList==x1.toList)) .fail) (.done false))
def EQ:Nat->BA->BA->Option (Bool)
 |0,_,_=>none
 |n+1,x0,x1=>(FR n x0 x1).run
theorem HQ:∀n,Ok (Rn n) KW (EQ n)
 |0=>ok0 λ_=>rfl
 |n+1=>stO (T:=FR n) (by kernel_rfl) [] [] (λ_=>by kernel_rfl) λ_=>by kernel_rfl
def RH:Sg:=⟨180,[aS,aS],[],⟨aB,[],[]⟩⟩
def Gy (n:Nat) (x0 x1:BA):Tr (Bool):=(.opt (EQ n x0 x1) λa=>(.done a))
def D4:Nat->BA->BA->Option (Bool)
 |0,_,_=>none
 |n+1,x0,x1=>(Gy n x0 x1).run
abbrev RI (n:Nat):List (Ent (Rn n)):= [en (HQ n)]
theorem Hf:∀n,Ok (Rn n) RH (D4 n)
 |0=>ok0 λ_=>rfl
 |n+1=>stO (T:=Gy n) (by kernel_rfl) (RI n) [] (λ_=>by kernel_rfl) λ_=>by kernel_rfl
def SD:Sg:=⟨227,[(.c (.ptr 0 0 0 0 0))],[Fu],⟨aS,[Fu],[]⟩⟩
def HJ (n:Nat) (v:Nat×Int×Int×RW×BA×Nat×Bool×RW):Tr ((Nat×Int×Int×RW×BA×Nat×Bool×RW)⊕((BA×BA×Nat×Bool×RW)⊕(BA×Nat×Bool×RW))):=(.ask ((decide (v.2.2.1<v.2.1))) (.ask (decide (v.1=v.2.2.2.1.length/\0<=v.2.2.1/\v.2.2.1<((v.1:Nat):Int))) (.opt (v.2.2.2.1[(v.2.2.1).toNat]?) λb=>(.opt (z8 b 0) λa=>(.opt (D4 n v.2.2.2.2.1 a) λc=>(.ask (c) (.done (.inr (.inl ((a,v.2.2.2.2.1,v.2.2.2.2.2.1,v.2.2.2.2.2.2.1,v.2.2.2.2.2.2.2))))) (.done (.inl (v.1,v.2.1,(IntKind.i64.wrap (v.2.2.1+(1:Int))),v.2.2.2.1,v.2.2.2.2.1,v.2.2.2.2.2.1,v.2.2.2.2.2.2.1,v.2.2.2.2.2.2.2))))))) .fail) (.done (.inr (.inr ((v.2.2.2.2.1,v.2.2.2.2.2.1,v.2.2.2.2.2.2.1,v.2.2.2.2.2.2.2))))))
def Mg (n:Nat) (x0:BA) (x1:Nat) (x2:Bool) (x3:RW):Tr (BA×BA×Nat×Bool×RW):=(.opt (FX n x0 x1 x2 x3) λb=>(.opt (zF (HJ n) n ((15:Nat),(15:Int),(0:Int),([[(.s (⟨#[60,62]⟩:BA))],[(.s (⟨#[60,61]⟩:BA))],[(.s (⟨#[62,61]⟩:BA))],[(.s (⟨#[60]⟩:BA))],[(.s (⟨#[62]⟩:BA))],[(.s (⟨#[61]⟩:BA))],[(.s (⟨#[38]⟩:BA))],[(.s (⟨#[43]⟩:BA))],[(.s (⟨#[45]⟩:BA))],[(.s (⟨#[42]⟩:BA))],[(.s (⟨#[47]⟩:BA))],[(.s (⟨#[40]⟩:BA))],[(.s (⟨#[41]⟩:BA))],[(.s (⟨#[44]⟩:BA))],[(.s (⟨#[58]⟩:BA))]]:RW),b.1,b.2.1,b.2.2.1,b.2.2.2)) λd=>(.alt d (λa=>(.done (a.1,a.2.1,a.2.2.1,a.2.2.2.1,a.2.2.2.2))) (λc=>(.done ((⟨#[]⟩:BA),c.1,c.2.1,c.2.2.1,c.2.2.2))))))
def GQ:Nat->BA->Nat->Bool->RW->Option (BA×BA×Nat×Bool×RW)
 |0,_,_,_,_=>none
 |n+1,x0,x1,x2,x3=>(Mg n x0 x1 x2 x3).run
abbrev Mh (n:Nat):List (Ent (Rn n)):= [en (HI n),en (Hf n)]
def Pp (n:Nat):LEnt (KB 227) (Rn n) n:=lok (zd 227) 29 ⟨⟨[(0,(.c (.ptr 0 0 0 0 0))),(7,(.c (.own 1 448 0 0))),(8,aI),(9,aI)],b9,[Fu]⟩,[(.ret,⟨[(2,aS)],[],[Fu]⟩),(.exit 0,⟨[],[],[Fu]⟩)]⟩ (HJ n) (Mh n) [] λ_=>by kernel_rfl
theorem L2:∀n,Ok (Rn n) SD (GQ n)
 |0=>ok0 λ_=>rfl
 |n+1=>stO (T:=Mg n) (by kernel_rfl) (Mh n) [Pp n] (λ_=>by kernel_rfl) λ_=>by kernel_rfl
def SE:Sg:=⟨230,[(.c (.ptr 0 0 0 0 0)),aS],[Fu],⟨aB,[Fu],[]⟩⟩
def Mi (n:Nat) (x0 x1:BA) (x2:Nat) (x3:Bool) (x4:RW):Tr (Bool×BA×Nat×Bool×RW):=(.opt (GQ n x1 x2 x3 x4) λa=>(.ask ((!(a.1.toList==x0.toList))) (.done (false,a.2.1,a.2.2.1,a.2.2.2.1,a.2.2.2.2)) (.ask (decide (0<=(x0.size:Int)/\(x0.size:Int)<=(a.2.1.size:Int)/\(a.2.1.size:Int)<=a.2.1.size)) (.done (true,(a.2.1.extract ((x0.size:Int)).toNat ((a.2.1.size:Int)).toNat),a.2.2.1,a.2.2.2.1,a.2.2.2.2)) .fail)))
def D9:Nat->BA->BA->Nat->Bool->RW->Option (Bool×BA×Nat×Bool×RW)
 |0,_,_,_,_,_=>none
 |n+1,x0,x1,x2,x3,x4=>(Mi n x0 x1 x2 x3 x4).run
abbrev SF (n:Nat):List (Ent (Rn n)):= [en (L2 n)]
theorem Gz:∀n,Ok (Rn n) SE (D9 n)
 |0=>ok0 λ_=>rfl
 |n+1=>stO (T:=Mi n) (by kernel_rfl) (SF n) [] (λ_=>by kernel_rfl) λ_=>by kernel_rfl
def TF:Sg:=⟨231,[(.c (.ptr 0 0 0 0 0)),(.agg [qI,qI,qI,qI,qS,qI,qI,qB,qB,qI,qI,qB,qB,qL])],[Fu],⟨aI,[Fu],[]⟩⟩
def NM (n:Nat) (x0 x1 x2 x3:Int) (x4:BA) (x5 x6:Int) (x7 x8:Bool) (x9 x10:Int) (x11 x12:Bool) (x13:RW) (x14:BA) (x15:Nat) (x16:Bool) (x17:RW):Tr (Int×BA×Nat×Bool×RW):=(.ask (x16) (.ask (false) (.ask (decide (1=([[(.i .i64 x0),(.i .i64 x1),(.i .i64 x2),(.i .i64 x3),(.s x4),(.i .i64 x5),(.i .i64 x6),(.b x7),(.b x8),(.i .i64 x9),(.i .i64 x10),(.b x11),(.b x12),(.ls x13)]]:RW).length)) (.ask (decide (x15=x17.length/\0<14/\0<120/\(x15+([[(.i .i64 x0),(.i .i64 x1),(.i .i64 x2),(.i .i64 x3),(.s x4),(.i .i64 x5),(.i .i64 x6),(.b x7),(.b x8),(.i .i64 x9),(.i .i64 x10),(.b x11),(.b x12),(.ls x13)]]:RW).length)*120<=140737488355328/\([[(.i .i64 x0),(.i .i64 x1),(.i .i64 x2),(.i .i64 x3),(.s x4),(.i .i64 x5),(.i .i64 x6),(.b x7),(.b x8),(.i .i64 x9),(.i .i64 x10),(.b x11),(.b x12),(.ls x13)]]:RW).all (λe=>e.length==14)=true)) (.done ((IntKind.i64.wrap ((((x15+1):Nat):Int)-(1:Int))),x14,(x15+1),true,(x17++([[(.i .i64 x0),(.i .i64 x1),(.i .i64 x2),(.i .i64 x3),(.s x4),(.i .i64 x5),(.i .i64 x6),(.b x7),(.b x8),(.i .i64 x9),(.i .i64 x10),(.b x11),(.b x12),(.ls x13)]]:RW)))) .fail) .fail) (.done ((IntKind.i64.wrap (((x15:Nat):Int)-(1:Int))),x14,x15,true,x17))) (.ask ((!(decide (((x15:Nat):Int)≥(60:Int))))) (.ask (decide (1=([[(.i .i64 x0),(.i .i64 x1),(.i .i64 x2),(.i .i64 x3),(.s x4),(.i .i64 x5),(.i .i64 x6),(.b x7),(.b x8),(.i .i64 x9),(.i .i64 x10),(.b x11),(.b x12),(.ls x13)]]:RW).length)) (.ask (decide (x15=x17.length/\0<14/\0<120/\(x15+([[(.i .i64 x0),(.i .i64 x1),(.i .i64 x2),(.i .i64 x3),(.s x4),(.i .i64 x5),(.i .i64 x6),(.b x7),(.b x8),(.i .i64 x9),(.i .i64 x10),(.b x11),(.b x12),(.ls x13)]]:RW).length)*120<=140737488355328/\([[(.i .i64 x0),(.i .i64 x1),(.i .i64 x2),(.i .i64 x3),(.s x4),(.i .i64 x5),(.i .i64 x6),(.b x7),(.b x8),(.i .i64 x9),(.i .i64 x10),(.b x11),(.b x12),(.ls x13)]]:RW).all (λe=>e.length==14)=true)) (.done ((IntKind.i64.wrap ((((x15+1):Nat):Int)-(1:Int))),x14,(x15+1),(decide (((x15:Nat):Int)≥(60:Int))),(x17++([[(.i .i64 x0),(.i .i64 x1),(.i .i64 x2),(.i .i64 x3),(.s x4),(.i .i64 x5),(.i .i64 x6),(.b x7),(.b x8),(.i .i64 x9),(.i .i64 x10),(.b x11),(.b x12),(.ls x13)]]:RW)))) .fail) .fail) (.done ((IntKind.i64.wrap (((x15:Nat):Int)-(1:Int))),x14,x15,(decide (((x15:Nat):Int)≥(60:Int))),x17))))
def Eo:Nat->Int->Int->Int->Int->BA->Int->Int->Bool->Bool->Int->Int->Bool->Bool->RW->BA->Nat->Bool->RW->Option (Int×BA×Nat×Bool×RW)
 |0,_,_,_,_,_,_,_,_,_,_,_,_,_,_,_,_,_,_=>none
 |n+1,x0,x1,x2,x3,x4,x5,x6,x7,x8,x9,x10,x11,x12,x13,x14,x15,x16,x17=>(NM n x0 x1 x2 x3 x4 x5 x6 x7 x8 x9 x10 x11 x12 x13 x14 x15 x16 x17).run
theorem HG:∀n,Ok (Rn n) TF (Eo n)
 |0=>ok0 λ_=>rfl
 |n+1=>stO (T:=NM n) (by kernel_rfl) [] [] (λ_=>by kernel_rfl) λ_=>by kernel_rfl
def Ro:Sg:=⟨58,[aS,aS],[],⟨(.tup [(false,[qS]),(false,[qS]),(false,[qB])]),[],[]⟩⟩
def Ig:Nat->BA->BA->Option ((BA×BA×Bool))
 |0,_,_=>none
 |n+1,x0,x1=>bE x0 x1
theorem QK:∀n,Ok (Rn n) Ro (Ig n)
 |0=>ok0 λ_=>rfl
 |n+1=>stL dI (by kernel_rfl) (λ_ _=>rfl) (λa r e=>congrArg (Option.map λr=>(Ro.Of r).v) e) rfl rfl rfl
def Ou:Sg:=⟨314,[(.c (.ptr 0 0 0 0 0)),(.agg [qI,qI,qS])],[Fu],⟨aI,[Fu],[]⟩⟩
def KY (n:Nat) (x0 x1:Int) (x2 x3:BA) (x4:Nat) (x5:Bool) (x6:RW):Tr (Int×BA×Nat×Bool×RW):=(.opt (Eo n (1:Int) (0:Int) x0 x1 x2 (0:Int) (0:Int) false false (0:Int) (0:Int) false false ([]:RW) x3 x4 x5 x6) λa=>(.done (a.1,a.2.1,a.2.2.1,a.2.2.2.1,a.2.2.2.2)))
def EY:Nat->Int->Int->BA->BA->Nat->Bool->RW->Option (Int×BA×Nat×Bool×RW)
 |0,_,_,_,_,_,_,_=>none
 |n+1,x0,x1,x2,x3,x4,x5,x6=>(KY n x0 x1 x2 x3 x4 x5 x6).run
abbrev Ov (n:Nat):List (Ent (Rn n)):= [en (HG n)]
theorem KC:∀n,Ok (Rn n) Ou (EY n)
 |0=>ok0 λ_=>rfl
 |n+1=>stO (T:=KY n) (by kernel_rfl) (Ov n) [] (λ_=>by kernel_rfl) λ_=>by kernel_rfl
def QL:Sg:=⟨313,[(.c (.ptr 0 0 0 0 0))],[Fu],⟨aI,[Fu],[]⟩⟩
def IE (n:Nat) (v:BA×BA×BA×Nat×Bool×RW):Tr ((BA×BA×BA×Nat×Bool×RW)⊕((Int×BA×Nat×Bool×RW)⊕(BA×BA×BA×Nat×Bool×RW))):=(.opt (Ig n v.2.1 (⟨#[34]⟩:BA)) λa=>(.ask ((!a.2.2)) (.done (.inr (.inl (((-1:Int),v.2.2.1,v.2.2.2.1,true,v.2.2.2.2.2))))) (.ask (decide (v.1.size+a.1.size<=9223372036854775807)) (.opt (D4 n a.2.1 (⟨#[34]⟩:BA)) λb=>(.ask ((!b)) (.done (.inr (.inr (((v.1++a.1),a.2.1,v.2.2.1,v.2.2.2.1,v.2.2.2.2.1,v.2.2.2.2.2))))) (.ask (decide ((v.1++a.1).size+(⟨#[34]⟩:BA).size<=9223372036854775807)) (.ask (decide (0<=(1:Int)/\(1:Int)<=(a.2.1.size:Int)/\(a.2.1.size:Int)<=a.2.1.size)) (.done (.inl (((v.1++a.1)++(⟨#[34]⟩:BA)),(a.2.1.extract ((1:Int)).toNat ((a.2.1.size:Int)).toNat),v.2.2.1,v.2.2.2.1,v.2.2.2.2.1,v.2.2.2.2.2))) .fail) .fail))) .fail)))
def LX (n:Nat) (x0:BA) (x1:Nat) (x2:Bool) (x3:RW):Tr (Int×BA×Nat×Bool×RW):=(.ask (decide (0<=(1:Int)/\(1:Int)<=(x0.size:Int)/\(x0.size:Int)<=x0.size)) (.opt (zF (IE n) n ((⟨#[]⟩:BA),(x0.extract ((1:Int)).toNat ((x0.size:Int)).toNat),x0,x1,x2,x3)) λd=>(.alt d (λa=>(.done (a.1,a.2.1,a.2.2.1,a.2.2.2.1,a.2.2.2.2))) (λb=>(.opt (EY n (2:Int) (0:Int) b.1 b.2.1 b.2.2.2.1 b.2.2.2.2.1 b.2.2.2.2.2) λc=>(.done (c.1,c.2.1,c.2.2.1,c.2.2.2.1,c.2.2.2.2)))))) .fail)
def Iz:Nat->BA->Nat->Bool->RW->Option (Int×BA×Nat×Bool×RW)
 |0,_,_,_,_=>none
 |n+1,x0,x1,x2,x3=>(LX n x0 x1 x2 x3).run
abbrev LY (n:Nat):List (Ent (Rn n)):= [en (QK n),en (Hf n),en (KC n)]
def OL (n:Nat):LEnt (KB 313) (Rn n) n:=lok (zd 313) 14 ⟨⟨[(0,(.c (.ptr 0 0 0 0 0))),(3,aS),(4,aS)],[],[Fu]⟩,[(.ret,⟨[(2,aI)],[],[Fu]⟩),(.exit 0,⟨[(0,(.c (.ptr 0 0 0 0 0))),(3,aS),(4,aS)],[],[Fu]⟩)]⟩ (IE n) (LY n) [] λ_=>by kernel_rfl
theorem Pq:∀n,Ok (Rn n) QL (Iz n)
 |0=>ok0 λ_=>rfl
 |n+1=>stO (T:=LX n) (by kernel_rfl) (LY n) [OL n] (λ_=>by kernel_rfl) λ_=>by kernel_rfl
def UW:Sg:=⟨181,[aI],[],⟨aS,[],[]⟩⟩
def K7 (n:Nat) (x0:Int):Tr (BA):=(.ask (decide (6=([[(.s (⟨#[]⟩:BA))],[(.s (⟨#[35,68,73,86,33]⟩:BA))],[(.s (⟨#[35,84,89,80,69,33]⟩:BA))],[(.s (⟨#[35,82,69,70,33]⟩:BA))],[(.s (⟨#[35,79,86,69,82,33]⟩:BA))],[(.s (⟨#[35,67,89,67,76,69,33]⟩:BA))]]:RW).length/\0<=x0/\x0<((6:Nat):Int))) (.opt (([[(.s (⟨#[]⟩:BA))],[(.s (⟨#[35,68,73,86,33]⟩:BA))],[(.s (⟨#[35,84,89,80,69,33]⟩:BA))],[(.s (⟨#[35,82,69,70,33]⟩:BA))],[(.s (⟨#[35,79,86,69,82,33]⟩:BA))],[(.s (⟨#[35,67,89,67,76,69,33]⟩:BA))]]:RW)[(x0).toNat]?) λa=>(.opt (z8 a 0) λb=>(.done b))) .fail)
def FB:Nat->Int->Option (BA)
 |0,_=>none
 |n+1,x0=>(K7 n x0).run
theorem KZ:∀n,Ok (Rn n) UW (FB n)
 |0=>ok0 λ_=>rfl
 |n+1=>stO (T:=K7 n) (by kernel_rfl) [] [] (λ_=>by kernel_rfl) λ_=>by kernel_rfl
def Ye:Sg:=⟨182,[aI],[],⟨(.agg [qI,qI,qS]),[],[]⟩⟩
def Ow (n:Nat) (x0:Int):Tr (Int×Int×BA):=(.done ((4:Int),x0,(⟨#[]⟩:BA)))
def Ge:Nat->Int->Option (Int×Int×BA)
 |0,_=>none
 |n+1,x0=>(Ow n x0).run
theorem Rp:∀n,Ok (Rn n) Ye (Ge n)
 |0=>ok0 λ_=>rfl
 |n+1=>stO (T:=Ow n) (by kernel_rfl) [] [] (λ_=>by kernel_rfl) λ_=>by kernel_rfl
def SG:Sg:=⟨315,[(.c (.ptr 0 0 0 0 0))],[Fu],⟨aS,[Fu],[]⟩⟩
def Mj (n:Nat) (x0:BA) (x1:Nat) (x2:Bool) (x3:RW):Tr (BA×BA×Nat×Bool×RW):=(.opt (FX n x0 x1 x2 x3) λa=>(.opt (Fv n a.1 (⟨#[65,66,67,68,69,70,71,72,73,74,75,76,77,78,79,80,81,82,83,84,85,86,87,88,89,90,48,49,50,51,52,53,54,55,56,57,36]⟩:BA)) λb=>(.ask (decide (0<=(0:Int)/\(0:Int)<=(IntKind.i64.wrap ((a.1.size:Int)-(b.size:Int)))/\(IntKind.i64.wrap ((a.1.size:Int)-(b.size:Int)))<=a.1.size)) (.ask (decide (0<=(IntKind.i64.wrap ((a.1.size:Int)-(b.size:Int)))/\(IntKind.i64.wrap ((a.1.size:Int)-(b.size:Int)))<=(a.1.size:Int)/\(a.1.size:Int)<=a.1.size)) (.done ((a.1.extract ((0:Int)).toNat ((IntKind.i64.wrap ((a.1.size:Int)-(b.size:Int)))).toNat),(a.1.extract ((IntKind.i64.wrap ((a.1.size:Int)-(b.size:Int)))).toNat ((a.1.size:Int)).toNat),a.2.1,a.2.2.1,a.2.2.2)) .fail) .fail)))
def Fw:Nat->BA->Nat->Bool->RW->Option (BA×BA×Nat×Bool×RW)
 |0,_,_,_,_=>none
 |n+1,x0,x1,x2,x3=>(Mj n x0 x1 x2 x3).run
abbrev SH (n:Nat):List (Ent (Rn n)):= [en (HI n),en (JV n)]
theorem L3:∀n,Ok (Rn n) SG (Fw n)
 |0=>ok0 λ_=>rfl
 |n+1=>stO (T:=Mj n) (by kernel_rfl) (SH n) [] (λ_=>by kernel_rfl) λ_=>by kernel_rfl
def Wb:Sg:=⟨104,[(.agg [qI,qI,qS])],[],⟨aB,[],[]⟩⟩
def Mk (n:Nat) (x0 x1:Int) (x2:BA):Tr (Bool):=(.ask ((x0==(2:Int))) (.ask ((x1==(0:Int))) (.opt (Ht n x2 (200:Int)) λa=>(.done a)) (.done false)) (.ask ((!(x2.toList==(⟨#[]⟩:BA).toList))) (.done false) (.ask ((x0==(0:Int))) (.done (x1==(0:Int))) (.ask ((x0==(1:Int))) (.opt (Eh n x1 (-1000000000000000:Int) (1000000000000000:Int)) λb=>(.done b)) (.ask ((x0==(3:Int))) (.opt (Eh n x1 (0:Int) (1:Int)) λc=>(.done c)) (.ask ((x0==(4:Int))) (.opt (Eh n x1 (1:Int) (5:Int)) λd=>(.done d)) (.done false)))))))
def Fp:Nat->Int->Int->BA->Option (Bool)
 |0,_,_,_=>none
 |n+1,x0,x1,x2=>(Mk n x0 x1 x2).run
abbrev Wc (n:Nat):List (Ent (Rn n)):= [en (Me n),en (ID n)]
theorem Lr:∀n,Ok (Rn n) Wb (Fp n)
 |0=>ok0 λ_=>rfl
 |n+1=>stO (T:=Mk n) (by kernel_rfl) (Wc n) [] (λ_=>by kernel_rfl) λ_=>by kernel_rfl
def L4:Sg:=⟨178,[aI,aI],[],⟨aS,[],[]⟩⟩
def JW:Nat->Int->Int->Option ((BA))
 |0,_,_=>none
 |n+1,x0,x1=>aO x0 x1
theorem QM:∀n,Ok (Rn n) L4 (JW n)
 |0=>ok0 λ_=>rfl
 |n+1=>stL bI (by kernel_rfl) (λ_ _=>rfl) (λa r e=>congrArg (Option.map λr=>(L4.Of r).v) e) rfl rfl rfl
def Wd:Sg:=⟨106,[aI],[],⟨aS,[],[]⟩⟩
def Ml (n:Nat) (x0:Int):Tr (BA):=(.opt (JW n x0 (10:Int)) λa=>(.done a))
def FH:Nat->Int->Option (BA)
 |0,_=>none
 |n+1,x0=>(Ml n x0).run
abbrev We (n:Nat):List (Ent (Rn n)):= [en (QM n)]
theorem Jr:∀n,Ok (Rn n) Wd (FH n)
 |0=>ok0 λ_=>rfl
 |n+1=>stO (T:=Ml n) (by kernel_rfl) (We n) [] (λ_=>by kernel_rfl) λ_=>by kernel_rfl
def UX:Sg:=⟨183,[(.agg [qI,qI,qS])],[],⟨aS,[],[]⟩⟩
def GR (n:Nat) (x0 x1:Int) (x2:BA):Tr (BA):=(.ask ((x0==(1:Int))) (.opt (FH n x1) λa=>(.done a)) (.ask ((x0==(2:Int))) (.ask (decide ((⟨#[39]⟩:BA).size+x2.size<=9223372036854775807)) (.done ((⟨#[39]⟩:BA)++x2)) .fail) (.ask ((x0==(3:Int))) (.ask (decide (2=([[(.s (⟨#[70,65,76,83,69]⟩:BA))],[(.s (⟨#[84,82,85,69]⟩:BA))]]:RW).length/\0<=x1/\x1<((2:Nat):Int))) (.opt (([[(.s (⟨#[70,65,76,83,69]⟩:BA))],[(.s (⟨#[84,82,85,69]⟩:BA))]]:RW)[(x1).toNat]?) λb=>(.opt (z8 b 0) λc=>(.done c))) .fail) (.ask ((x0==(4:Int))) (.opt (FB n x1) λd=>(.done d)) (.done (⟨#[]⟩:BA))))))
def Ea:Nat->Int->Int->BA->Option (BA)
 |0,_,_,_=>none
 |n+1,x0,x1,x2=>(GR n x0 x1 x2).run
abbrev UY (n:Nat):List (Ent (Rn n)):= [en (Jr n),en (KZ n)]
theorem NN:∀n,Ok (Rn n) UX (Ea n)
 |0=>ok0 λ_=>rfl
 |n+1=>stO (T:=GR n) (by kernel_rfl) (UY n) [] (λ_=>by kernel_rfl) λ_=>by kernel_rfl
def Yf:Sg:=⟨179,[aB],[],⟨(.agg [qI,qI,qS]),[],[]⟩⟩
def Ox (n:Nat) (x0:Bool):Tr (Int×Int×BA):=(.ask (x0) (.done ((3:Int),(1:Int),(⟨#[]⟩:BA))) (.done ((3:Int),(0:Int),(⟨#[]⟩:BA))))
def Ka:Nat->Bool->Option (Int×Int×BA)
 |0,_=>none
 |n+1,x0=>(Ox n x0).run
theorem Xl:∀n,Ok (Rn n) Yf (Ka n)
 |0=>ok0 λ_=>rfl
 |n+1=>stO (T:=Ox n) (by kernel_rfl) [] [] (λ_=>by kernel_rfl) λ_=>by kernel_rfl
def SK:Sg2:=⟨102,[aS,aI,aI],(.tup [(false,[qI]),(false,[(.p .nif)])]),(.tup [(false,[qI]),(false,[(.p .ifc)])])⟩
def Et:Nat->BA->Int->Int->Option ((Int)⊕(Int))
 |0,_,_,_=>none
 |n+1,x0,x1,x2=>zN x0 x1 x2
theorem H1:∀n,Ok2 (Rn n) SK (Et n)
 |0=>λa r e=>by cases e
 |n+1=>D1 bP (by kernel_rfl) (λ_ _=>rfl) λa r e=>by
  rcases r with r|r
  ·exact congrArg (Option.map bV) e
  ·exact congrArg (Option.map bV) e
def Xm:Sg:=⟨105,[aI],[],⟨(.agg [qI,qI,qS]),[],[]⟩⟩
def Nx (n:Nat) (x0:Int):Tr (Int×Int×BA):=(.done ((1:Int),x0,(⟨#[]⟩:BA)))
def Ih:Nat->Int->Option (Int×Int×BA)
 |0,_=>none
 |n+1,x0=>(Nx n x0).run
theorem QN:∀n,Ok (Rn n) Xm (Ih n)
 |0=>ok0 λ_=>rfl
 |n+1=>stO (T:=Nx n) (by kernel_rfl) [] [] (λ_=>by kernel_rfl) λ_=>by kernel_rfl
def UZ:Sg:=⟨107,[aS],[],⟨(.tup [(true,[qI,qI,qS]),(false,[qB])]),[],[]⟩⟩
def Fl (n:Nat) (v:BA×Int×Int×Int×BA×Int×Int×BA):Tr ((BA×Int×Int×Int×BA×Int×Int×BA)⊕((BA×Int×Int×BA×Int×Int×BA))):=(.ask ((decide (v.2.1<=(5:Int)))) (.opt (FB n v.2.1) λb=>(.ask ((b.toList==v.1.toList)) (.opt (Ge n v.2.1) λa=>(.done (.inl (v.1,(IntKind.i64.wrap (v.2.1+(1:Int))),v.2.2.1,v.2.2.2.1,v.2.2.2.2.1,a.1,a.2.1,a.2.2)))) (.done (.inl (v.1,(IntKind.i64.wrap (v.2.1+(1:Int))),v.2.2.1,v.2.2.2.1,v.2.2.2.2.1,v.2.2.2.2.2.1,v.2.2.2.2.2.2.1,v.2.2.2.2.2.2.2))))) (.done (.inr ((v.1,v.2.2.1,v.2.2.2.1,v.2.2.2.2.1,v.2.2.2.2.2.1,v.2.2.2.2.2.2.1,v.2.2.2.2.2.2.2)))))
def Ei (n:Nat) (a:(Int×Int×BA)) (x0:BA):Tr (Int×Int×BA×Bool):=(.opt (Fp n a.1 a.2.1 a.2.2) λb=>(.ask ((!b)) (.done ((0:Int),(0:Int),(⟨#[]⟩:BA),false)) (.opt (Ea n a.1 a.2.1 a.2.2) λc=>(.ask ((!(c.toList==x0.toList))) (.done ((0:Int),(0:Int),(⟨#[]⟩:BA),false)) (.done (a.1,a.2.1,a.2.2,true))))))
def F0 (n:Nat) (x0:BA):Tr (Int×Int×BA×Bool):=(.opt (EX n x0 (⟨#[39]⟩:BA)) λb=>(.ask (b.2) (.opt (Fp n (2:Int) (0:Int) b.1) λc=>(.ask ((!c)) (.done ((0:Int),(0:Int),(⟨#[]⟩:BA),false)) (.opt (Ea n (2:Int) (0:Int) b.1) λd=>(.ask ((!(d.toList==x0.toList))) (.done ((0:Int),(0:Int),(⟨#[]⟩:BA),false)) (.done ((2:Int),(0:Int),b.1,true)))))) (.ask ((x0.toList==(⟨#[70,65,76,83,69]⟩:BA).toList)) (.opt (Ka n (x0.toList==(⟨#[84,82,85,69]⟩:BA).toList)) λf=>(Ei n f x0)) (.ask ((x0.toList==(⟨#[84,82,85,69]⟩:BA).toList)) (.opt (Ka n (x0.toList==(⟨#[84,82,85,69]⟩:BA).toList)) λg=>(Ei n g x0)) (.opt (D4 n x0 (⟨#[35]⟩:BA)) λh=>(.ask (h) (.opt (zF (Fl n) n (x0,(1:Int),(0:Int),(0:Int),(⟨#[]⟩:BA),(0:Int),(0:Int),(⟨#[]⟩:BA))) λa=>(.opt (Fp n a.2.2.2.2.1 a.2.2.2.2.2.1 a.2.2.2.2.2.2) λj=>(.ask ((!j)) (.done ((0:Int),(0:Int),(⟨#[]⟩:BA),false)) (.opt (Ea n a.2.2.2.2.1 a.2.2.2.2.2.1 a.2.2.2.2.2.2) λk=>(.ask ((!(k.toList==a.1.toList))) (.done ((0:Int),(0:Int),(⟨#[]⟩:BA),false)) (.done (a.2.2.2.2.1,a.2.2.2.2.2.1,a.2.2.2.2.2.2,true))))))) (.ask ((!(x0.toList==(⟨#[]⟩:BA).toList))) (.opt (Et n x0 (10:Int) (64:Int)) λl=>(.alt l (λm=>(.opt (Ih n m) λo=>(Ei n o x0))) (λp=>(.opt (Ih n p) λq=>(Ei n q x0))))) (.opt (Fp n (0:Int) (0:Int) (⟨#[]⟩:BA)) λs=>(.ask ((!s)) (.done ((0:Int),(0:Int),(⟨#[]⟩:BA),false)) (.opt (Ea n (0:Int) (0:Int) (⟨#[]⟩:BA)) λt=>(.ask ((!(t.toList==x0.toList))) (.done ((0:Int),(0:Int),(⟨#[]⟩:BA),false)) (.done ((0:Int),(0:Int),(⟨#[]⟩:BA),true)))))))))))))
def EG:Nat->BA->Option (Int×Int×BA×Bool)
 |0,_=>none
 |n+1,x0=>(F0 n x0).run
abbrev OM (n:Nat):List (Ent (Rn n)):= [en (He n),en (Lr n),en (NN n),en (Xl n),en (Hf n),en (KZ n),en (Rp n),en2 (H1 n),en (QN n)]
def Pr (n:Nat):LEnt (KB 107) (Rn n) n:=lok (zd 107) 3837 ⟨⟨[(0,aS),(2,(.c (.ptr 0 128 0 0 0))),(4,(.c (.ptr 0 256 0 0 0))),(7,aI)],t7,[]⟩,[(.exit 1,⟨[(0,aS),(2,(.c (.ptr 0 128 0 0 0))),(4,(.c (.ptr 0 256 0 0 0)))],t7,[]⟩)]⟩ (Fl n) (OM n) [] λ_=>by kernel_rfl
theorem NO:∀n,Ok (Rn n) UZ (EG n)
 |0=>ok0 λ_=>rfl
 |n+1=>stO (T:=F0 n) (by kernel_rfl) (OM n) [Pr n] (λ_=>by kernel_rfl) λ_=>by kernel_rfl
def Wg:Sg:=⟨255,[aI],[],⟨aS,[],[]⟩⟩
def I0 (n:Nat) (x0:Int):Tr (BA):=(.opt (Eh n x0 (1:Int) (52:Int)) λa=>(.ask ((!a)) (.done (⟨#[]⟩:BA)) (.ask ((decide (x0<=(26:Int)))) (.ask (decide (1=([[(.i .u8 (IntKind.u8.wrap (IntKind.i64.wrap ((IntKind.i64.wrap ((65:Int)+x0))-(1:Int)))))]]:RW).length)) (.opt (bytesOf ([[(.i .u8 (IntKind.u8.wrap (IntKind.i64.wrap ((IntKind.i64.wrap ((65:Int)+x0))-(1:Int)))))]]:RW)) λb=>(.done (⟨b.toArray⟩:BA))) .fail) (.ask (decide (2=([[(.i .u8 (IntKind.u8.wrap (IntKind.i64.wrap ((IntKind.i64.wrap ((65:Int)+(IntKind.i64.wrap (Int.tdiv (IntKind.i64.wrap (x0-(1:Int))) (26:Int)))))-(1:Int)))))],[(.i .u8 (IntKind.u8.wrap (IntKind.i64.wrap ((65:Int)+(Int.tmod (IntKind.i64.wrap (x0-(1:Int))) (26:Int))))))]]:RW).length)) (.opt (bytesOf ([[(.i .u8 (IntKind.u8.wrap (IntKind.i64.wrap ((IntKind.i64.wrap ((65:Int)+(IntKind.i64.wrap (Int.tdiv (IntKind.i64.wrap (x0-(1:Int))) (26:Int)))))-(1:Int)))))],[(.i .u8 (IntKind.u8.wrap (IntKind.i64.wrap ((65:Int)+(Int.tmod (IntKind.i64.wrap (x0-(1:Int))) (26:Int))))))]]:RW)) λc=>(.done (⟨c.toArray⟩:BA))) .fail))))
def Gi:Nat->Int->Option (BA)
 |0,_=>none
 |n+1,x0=>(I0 n x0).run
abbrev Wh (n:Nat):List (Ent (Rn n)):= [en (ID n)]
theorem Pb:∀n,Ok (Rn n) Wg (Gi n)
 |0=>ok0 λ_=>rfl
 |n+1=>stO (T:=I0 n) (by kernel_rfl) (Wh n) [] (λ_=>by kernel_rfl) λ_=>by kernel_rfl
def Wi:Sg:=⟨209,[aS],[],⟨aI,[],[]⟩⟩
def Hg (n:Nat) (v:BA×Int):Tr ((BA×Int)⊕((Int)⊕(Unit))):=(.ask ((decide (v.2<=(52:Int)))) (.opt (Gi n v.2) λa=>(.ask ((a.toList==v.1.toList)) (.done (.inr (.inl (v.2)))) (.done (.inl (v.1,(IntKind.i64.wrap (v.2+(1:Int)))))))) (.done (.inr (.inr (())))))
def Mm (n:Nat) (x0:BA):Tr (Int):=(.opt (zF (Hg n) n (x0,(1:Int))) λa=>(.alt a (λb=>(.done b)) (λc=>(.done (0:Int)))))
def Kb:Nat->BA->Option (Int)
 |0,_=>none
 |n+1,x0=>(Mm n x0).run
abbrev QO (n:Nat):List (Ent (Rn n)):= [en (Pb n)]
def TG (n:Nat):LEnt (KB 209) (Rn n) n:=lok (zd 209) 13 ⟨⟨[(0,aS),(3,aI)],[],[]⟩,[(.ret,⟨[(2,aI)],[],[]⟩),(.exit 0,⟨[],[],[]⟩)]⟩ (Hg n) (QO n) [] λ_=>by kernel_rfl
theorem Vq:∀n,Ok (Rn n) Wi (Kb n)
 |0=>ok0 λ_=>rfl
 |n+1=>stO (T:=Mm n) (by kernel_rfl) (QO n) [TG n] (λ_=>by kernel_rfl) λ_=>by kernel_rfl
def Ua:Sg:=⟨205,[(.agg [qI,qI,qB,qB])],[],⟨aS,[],[]⟩⟩
def JH (n:Nat) (x0 x1:Int) (x2 x3:Bool):Tr (BA):=(.opt (Gc n x0 x1) λh=>(.ask ((!h)) (.done (⟨#[]⟩:BA)) (.ask (x2) (.opt (Gi n x0) λa=>(.ask (decide ((⟨#[36]⟩:BA).size+a.size<=9223372036854775807)) (.ask (x3) (.ask (decide (((⟨#[36]⟩:BA)++a).size+(⟨#[36]⟩:BA).size<=9223372036854775807)) (.opt (FH n x1) λc=>(.ask (decide ((((⟨#[36]⟩:BA)++a)++(⟨#[36]⟩:BA)).size+c.size<=9223372036854775807)) (.done ((((⟨#[36]⟩:BA)++a)++(⟨#[36]⟩:BA))++c)) .fail)) .fail) (.opt (FH n x1) λd=>(.ask (decide (((⟨#[36]⟩:BA)++a).size+d.size<=9223372036854775807)) (.done (((⟨#[36]⟩:BA)++a)++d)) .fail))) .fail)) (.opt (Gi n x0) λb=>(.ask (decide ((⟨#[]⟩:BA).size+b.size<=9223372036854775807)) (.ask (x3) (.ask (decide (((⟨#[]⟩:BA)++b).size+(⟨#[36]⟩:BA).size<=9223372036854775807)) (.opt (FH n x1) λf=>(.ask (decide ((((⟨#[]⟩:BA)++b)++(⟨#[36]⟩:BA)).size+f.size<=9223372036854775807)) (.done ((((⟨#[]⟩:BA)++b)++(⟨#[36]⟩:BA))++f)) .fail)) .fail) (.opt (FH n x1) λg=>(.ask (decide (((⟨#[]⟩:BA)++b).size+g.size<=9223372036854775807)) (.done (((⟨#[]⟩:BA)++b)++g)) .fail))) .fail)))))
def Fe:Nat->Int->Int->Bool->Bool->Option (BA)
 |0,_,_,_,_=>none
 |n+1,x0,x1,x2,x3=>(JH n x0 x1 x2 x3).run
abbrev Ub (n:Nat):List (Ent (Rn n)):= [en (LU n),en (Pb n),en (Jr n)]
theorem Kc:∀n,Ok (Rn n) Ua (Fe n)
 |0=>ok0 λ_=>rfl
 |n+1=>stO (T:=JH n) (by kernel_rfl) (Ub n) [] (λ_=>by kernel_rfl) λ_=>by kernel_rfl
def Uc:Sg:=⟨139,[aS],[],⟨(.tup [(true,[qI,qI,qB,qB]),(false,[qB])]),[],[]⟩⟩
def JX (n:Nat) (a b:(Int)) (c:((BA×Bool))) (d:((BA×Bool))) (x0:BA):Tr (Int×Int×Bool×Bool×Bool):=(.opt (Gc n a b) λf=>(.ask ((!f)) (.done ((0:Int),(0:Int),false,false,false)) (.opt (Fe n a b c.2 d.2) λg=>(.ask ((!(g.toList==x0.toList))) (.done ((0:Int),(0:Int),false,false,false)) (.done (a,b,c.2,d.2,true))))))
def K8 (n:Nat) (x0:BA):Tr (Int×Int×Bool×Bool×Bool):=(.opt (EX n x0 (⟨#[36]⟩:BA)) λa=>(.opt (Fv n a.1 (⟨#[65,66,67,68,69,70,71,72,73,74,75,76,77,78,79,80,81,82,83,84,85,86,87,88,89,90]⟩:BA)) λb=>(.ask (decide (0<=(0:Int)/\(0:Int)<=(IntKind.i64.wrap ((a.1.size:Int)-(b.size:Int)))/\(IntKind.i64.wrap ((a.1.size:Int)-(b.size:Int)))<=a.1.size)) (.opt (Kb n (a.1.extract ((0:Int)).toNat ((IntKind.i64.wrap ((a.1.size:Int)-(b.size:Int)))).toNat)) λd=>(.ask (decide (0<=(IntKind.i64.wrap ((a.1.size:Int)-(b.size:Int)))/\(IntKind.i64.wrap ((a.1.size:Int)-(b.size:Int)))<=(a.1.size:Int)/\(a.1.size:Int)<=a.1.size)) (.opt (EX n (a.1.extract ((IntKind.i64.wrap ((a.1.size:Int)-(b.size:Int)))).toNat ((a.1.size:Int)).toNat) (⟨#[36]⟩:BA)) λc=>(.opt (Et n c.1 (10:Int) (64:Int)) λf=>(.alt f (λg=>(JX n d g a c x0)) (λh=>(JX n d h a c x0))))) .fail)) .fail)))
def Em:Nat->BA->Option (Int×Int×Bool×Bool×Bool)
 |0,_=>none
 |n+1,x0=>(K8 n x0).run
abbrev Ud (n:Nat):List (Ent (Rn n)):= [en (He n),en (JV n),en (Vq n),en2 (H1 n),en (LU n),en (Kc n)]
theorem Kd:∀n,Ok (Rn n) Uc (Em n)
 |0=>ok0 λ_=>rfl
 |n+1=>stO (T:=K8 n) (by kernel_rfl) (Ud n) [] (λ_=>by kernel_rfl) λ_=>by kernel_rfl
def Xn:Sg:=⟨283,[aI],[],⟨aS,[],[]⟩⟩
def Ny (n:Nat) (x0:Int):Tr (BA):=(.ask (decide (11=([[(.s (⟨#[]⟩:BA))],[(.s (⟨#[83,85,77]⟩:BA))],[(.s (⟨#[77,73,78]⟩:BA))],[(.s (⟨#[77,65,88]⟩:BA))],[(.s (⟨#[67,79,85,78,84]⟩:BA))],[(.s (⟨#[73,70]⟩:BA))],[(.s (⟨#[65,78,68]⟩:BA))],[(.s (⟨#[79,82]⟩:BA))],[(.s (⟨#[78,79,84]⟩:BA))],[(.s (⟨#[65,66,83]⟩:BA))],[(.s (⟨#[76,69,78]⟩:BA))]]:RW).length/\0<=x0/\x0<((11:Nat):Int))) (.opt (([[(.s (⟨#[]⟩:BA))],[(.s (⟨#[83,85,77]⟩:BA))],[(.s (⟨#[77,73,78]⟩:BA))],[(.s (⟨#[77,65,88]⟩:BA))],[(.s (⟨#[67,79,85,78,84]⟩:BA))],[(.s (⟨#[73,70]⟩:BA))],[(.s (⟨#[65,78,68]⟩:BA))],[(.s (⟨#[79,82]⟩:BA))],[(.s (⟨#[78,79,84]⟩:BA))],[(.s (⟨#[65,66,83]⟩:BA))],[(.s (⟨#[76,69,78]⟩:BA))]]:RW)[(x0).toNat]?) λa=>(.opt (z8 a 0) λb=>(.done b))) .fail)
def G5:Nat->Int->Option (BA)
 |0,_=>none
 |n+1,x0=>(Ny n x0).run
theorem QP:∀n,Ok (Rn n) Xn (G5 n)
 |0=>ok0 λ_=>rfl
 |n+1=>stO (T:=Ny n) (by kernel_rfl) [] [] (λ_=>by kernel_rfl) λ_=>by kernel_rfl
def Oy:Sg:=⟨338,[(.c (.ptr 0 0 0 0 0))],[Fu],⟨(.tup [(true,[qI,qI,qI,qI,qS,qI,qI,qB,qB,qI,qI,qB,qB,qL]),(false,[qB])]),[Fu],[]⟩⟩
def Ke (n:Nat) (x0:BA) (x1:Nat) (x2:Bool) (x3:RW):Tr (Int×Int×Int×Int×BA×Int×Int×Bool×Bool×Int×Int×Bool×Bool×RW×Bool×BA×Nat×Bool×RW):=(.opt (Fw n x0 x1 x2 x3) λc=>(.opt (Em n c.1) λa=>(.ask (a.2.2.2.2) (.opt (D9 n (⟨#[58]⟩:BA) c.2.1 c.2.2.1 c.2.2.2.1 c.2.2.2.2) λd=>(.ask ((!d.1)) (.done ((0:Int),(0:Int),(0:Int),(0:Int),(⟨#[]⟩:BA),(0:Int),(0:Int),false,false,(0:Int),(0:Int),false,false,([]:RW),false,x0,d.2.2.1,d.2.2.2.1,d.2.2.2.2)) (.opt (Fw n d.2.1 d.2.2.1 d.2.2.2.1 d.2.2.2.2) λf=>(.opt (Em n f.1) λb=>(.ask (f.2.2.2.1) (.done ((3:Int),(0:Int),(0:Int),(0:Int),(⟨#[]⟩:BA),a.1,a.2.1,a.2.2.1,a.2.2.2.1,b.1,b.2.1,b.2.2.1,b.2.2.2.1,([]:RW),true,f.2.1,f.2.2.1,true,f.2.2.2.2)) (.done ((3:Int),(0:Int),(0:Int),(0:Int),(⟨#[]⟩:BA),a.1,a.2.1,a.2.2.1,a.2.2.2.1,b.1,b.2.1,b.2.2.1,b.2.2.2.1,([]:RW),true,f.2.1,f.2.2.1,(!b.2.2.2.2),f.2.2.2.2))))))) (.done ((0:Int),(0:Int),(0:Int),(0:Int),(⟨#[]⟩:BA),(0:Int),(0:Int),false,false,(0:Int),(0:Int),false,false,([]:RW),false,x0,c.2.2.1,c.2.2.2.1,c.2.2.2.2)))))
def IU:Nat->BA->Nat->Bool->RW->Option (Int×Int×Int×Int×BA×Int×Int×Bool×Bool×Int×Int×Bool×Bool×RW×Bool×BA×Nat×Bool×RW)
 |0,_,_,_,_=>none
 |n+1,x0,x1,x2,x3=>(Ke n x0 x1 x2 x3).run
abbrev Oz (n:Nat):List (Ent (Rn n)):= [en (L3 n),en (Kd n),en (Gz n)]
theorem ON:∀n,Ok (Rn n) Oy (IU n)
 |0=>ok0 λ_=>rfl
 |n+1=>stO (T:=Ke n) (by kernel_rfl) (Oz n) [] (λ_=>by kernel_rfl) λ_=>by kernel_rfl
def Xo:Sg:=⟨228,[aI],[],⟨aS,[],[]⟩⟩
def Nz (n:Nat) (x0:Int):Tr (BA):=(.ask (decide (12=([[(.s (⟨#[]⟩:BA))],[(.s (⟨#[43]⟩:BA))],[(.s (⟨#[45]⟩:BA))],[(.s (⟨#[42]⟩:BA))],[(.s (⟨#[47]⟩:BA))],[(.s (⟨#[38]⟩:BA))],[(.s (⟨#[61]⟩:BA))],[(.s (⟨#[60,62]⟩:BA))],[(.s (⟨#[60]⟩:BA))],[(.s (⟨#[60,61]⟩:BA))],[(.s (⟨#[62]⟩:BA))],[(.s (⟨#[62,61]⟩:BA))]]:RW).length/\0<=x0/\x0<((12:Nat):Int))) (.opt (([[(.s (⟨#[]⟩:BA))],[(.s (⟨#[43]⟩:BA))],[(.s (⟨#[45]⟩:BA))],[(.s (⟨#[42]⟩:BA))],[(.s (⟨#[47]⟩:BA))],[(.s (⟨#[38]⟩:BA))],[(.s (⟨#[61]⟩:BA))],[(.s (⟨#[60,62]⟩:BA))],[(.s (⟨#[60]⟩:BA))],[(.s (⟨#[60,61]⟩:BA))],[(.s (⟨#[62]⟩:BA))],[(.s (⟨#[62,61]⟩:BA))]]:RW)[(x0).toNat]?) λa=>(.opt (z8 a 0) λb=>(.done b))) .fail)
def F4:Nat->Int->Option (BA)
 |0,_=>none
 |n+1,x0=>(Nz n x0).run
theorem QQ:∀n,Ok (Rn n) Xo (F4 n)
 |0=>ok0 λ_=>rfl
 |n+1=>stO (T:=Nz n) (by kernel_rfl) [] [] (λ_=>by kernel_rfl) λ_=>by kernel_rfl
def Yg:Sg:=⟨229,[aI],[],⟨aI,[],[]⟩⟩
def O0 (n:Nat) (x0:Int):Tr (Int):=(.ask ((x0==(3:Int))) (.done (4:Int)) (.ask ((x0==(4:Int))) (.done (4:Int)) (.ask ((x0==(1:Int))) (.done (3:Int)) (.ask ((x0==(2:Int))) (.done (3:Int)) (.ask ((x0==(5:Int))) (.done (2:Int)) (.done (1:Int)))))))
def JI:Nat->Int->Option (Int)
 |0,_=>none
 |n+1,x0=>(O0 n x0).run
theorem Rq:∀n,Ok (Rn n) Yg (JI n)
 |0=>ok0 λ_=>rfl
 |n+1=>stO (T:=O0 n) (by kernel_rfl) [] [] (λ_=>by kernel_rfl) λ_=>by kernel_rfl
def LZ:Sg:=⟨170,[(.c (.ptr 0 0 0 0 0)),aI,aI],[Fu],⟨aI,[Fu],[]⟩⟩
def RJ:Sg:=⟨226,[(.c (.ptr 0 0 0 0 0)),aI],[Fu],⟨aI,[Fu],[]⟩⟩
def SL:Sg:=⟨280,[(.c (.ptr 0 0 0 0 0)),aI],[Fu],⟨aI,[Fu],[]⟩⟩
def SN:Sg:=⟨316,[(.c (.ptr 0 0 0 0 0)),aI,aI],[Fu],⟨aI,[Fu],[]⟩⟩
structure G_impl_reader_binary where
 impl_reader_binary:Int->Int->BA->Nat->Bool->RW->Option (Int×BA×Nat×Bool×RW)
 impl_reader_unary:Int->BA->Nat->Bool->RW->Option (Int×BA×Nat×Bool×RW)
 impl_reader_atom:Int->BA->Nat->Bool->RW->Option (Int×BA×Nat×Bool×RW)
 impl_reader_call:Int->Int->BA->Nat->Bool->RW->Option (Int×BA×Nat×Bool×RW)
def Fq (n:Nat) (v:Int×Int×Int×Int×Int×BA×Nat×Bool×RW):Tr ((Int×Int×Int×Int×Int×BA×Nat×Bool×RW)⊕((Int×Int×Int×Int×BA×Nat×Bool×RW))):=(.ask ((decide (v.2.2.2.2.1<=(11:Int)))) (.opt (GQ n v.2.2.2.2.2.1 v.2.2.2.2.2.2.1 v.2.2.2.2.2.2.2.1 v.2.2.2.2.2.2.2.2) λa=>(.opt (F4 n v.2.2.2.2.1) λb=>(.ask ((a.1.toList==b.toList)) (.done (.inl (v.1,v.2.1,v.2.2.1,v.2.2.2.2.1,(IntKind.i64.wrap (v.2.2.2.2.1+(1:Int))),a.2.1,a.2.2.1,a.2.2.2.1,a.2.2.2.2))) (.done (.inl (v.1,v.2.1,v.2.2.1,v.2.2.2.1,(IntKind.i64.wrap (v.2.2.2.2.1+(1:Int))),a.2.1,a.2.2.1,a.2.2.2.1,a.2.2.2.2)))))) (.done (.inr ((v.1,v.2.1,v.2.2.1,v.2.2.2.1,v.2.2.2.2.2.1,v.2.2.2.2.2.2.1,v.2.2.2.2.2.2.2.1,v.2.2.2.2.2.2.2.2)))))
def IF (rec:G_impl_reader_binary) (n:Nat) (v:Int×Int×Int×BA×Nat×Bool×RW):Tr ((Int×Int×Int×BA×Nat×Bool×RW)⊕((Int×BA×Nat×Bool×RW))):=(.ask ((!v.2.2.2.2.2.1)) (.opt (zF (Fq n) n (v.1,v.2.1,v.2.2.1,(0:Int),(1:Int),v.2.2.2.1,v.2.2.2.2.1,v.2.2.2.2.2.1,v.2.2.2.2.2.2)) λa=>(.ask ((a.2.2.2.1==(0:Int))) (.done (.inr ((a.2.2.1,a.2.2.2.2.1,a.2.2.2.2.2.1,a.2.2.2.2.2.2.1,a.2.2.2.2.2.2.2)))) (.opt (JI n a.2.2.2.1) λf=>(.ask ((decide (f<a.1))) (.done (.inr ((a.2.2.1,a.2.2.2.2.1,a.2.2.2.2.2.1,a.2.2.2.2.2.2.1,a.2.2.2.2.2.2.2)))) (.opt (F4 n a.2.2.2.1) λg=>(.opt (D9 n g a.2.2.2.2.1 a.2.2.2.2.2.1 a.2.2.2.2.2.2.1 a.2.2.2.2.2.2.2) λd=>(.opt (JI n a.2.2.2.1) λh=>(.opt (rec.impl_reader_binary (IntKind.i64.wrap (h+(1:Int))) a.2.1 d.2.1 d.2.2.1 d.2.2.2.1 d.2.2.2.2) λb=>(.ask (decide (2=([[(.i .i64 a.2.2.1)],[(.i .i64 b.1)]]:RW).length)) (.opt (Eo n (5:Int) a.2.2.2.1 (0:Int) (0:Int) (⟨#[]⟩:BA) (0:Int) (0:Int) false false (0:Int) (0:Int) false false ([[(.i .i64 a.2.2.1)],[(.i .i64 b.1)]]:RW) b.2.1 b.2.2.1 b.2.2.2.1 b.2.2.2.2) λc=>(.done (.inl (a.1,a.2.1,c.1,c.2.1,c.2.2.1,c.2.2.2.1,c.2.2.2.2)))) .fail))))))))) (.done (.inr ((v.2.2.1,v.2.2.2.1,v.2.2.2.2.1,v.2.2.2.2.2.1,v.2.2.2.2.2.2)))))
def La (rec:G_impl_reader_binary) (n:Nat) (x0 x1:Int) (x2:BA) (x3:Nat) (x4:Bool) (x5:RW):Tr (Int×BA×Nat×Bool×RW):=(.opt (rec.impl_reader_unary x1 x2 x3 x4 x5) λa=>(.opt (zF (IF rec n) n (x0,x1,a.1,a.2.1,a.2.2.1,a.2.2.2.1,a.2.2.2.2)) λb=>(.done (b.1,b.2.1,b.2.2.1,b.2.2.2.1,b.2.2.2.2))))
def L5 (rec:G_impl_reader_binary) (n:Nat) (x0:Int) (x1:BA) (x2:Nat) (x3:Bool) (x4:RW):Tr (Int×BA×Nat×Bool×RW):=(.ask ((decide (x0>(400:Int)))) (.ask (true) (.done ((-1:Int),x1,x2,true,x4)) (.opt (D9 n (⟨#[45]⟩:BA) x1 x2 true x4) λa=>(.ask (a.1) (.opt (rec.impl_reader_unary (IntKind.i64.wrap (x0+(1:Int))) a.2.1 a.2.2.1 a.2.2.2.1 a.2.2.2.2) λc=>(.ask (decide (1=([[(.i .i64 c.1)]]:RW).length)) (.opt (Eo n (4:Int) (0:Int) (0:Int) (0:Int) (⟨#[]⟩:BA) (0:Int) (0:Int) false false (0:Int) (0:Int) false false ([[(.i .i64 c.1)]]:RW) c.2.1 c.2.2.1 c.2.2.2.1 c.2.2.2.2) λf=>(.done (f.1,f.2.1,f.2.2.1,f.2.2.2.1,f.2.2.2.2))) .fail)) (.opt (rec.impl_reader_atom x0 a.2.1 a.2.2.1 a.2.2.2.1 a.2.2.2.2) λg=>(.done (g.1,g.2.1,g.2.2.1,g.2.2.2.1,g.2.2.2.2)))))) (.ask (x3) (.done ((-1:Int),x1,x2,x3,x4)) (.opt (D9 n (⟨#[45]⟩:BA) x1 x2 x3 x4) λb=>(.ask (b.1) (.opt (rec.impl_reader_unary (IntKind.i64.wrap (x0+(1:Int))) b.2.1 b.2.2.1 b.2.2.2.1 b.2.2.2.2) λd=>(.ask (decide (1=([[(.i .i64 d.1)]]:RW).length)) (.opt (Eo n (4:Int) (0:Int) (0:Int) (0:Int) (⟨#[]⟩:BA) (0:Int) (0:Int) false false (0:Int) (0:Int) false false ([[(.i .i64 d.1)]]:RW) d.2.1 d.2.2.1 d.2.2.2.1 d.2.2.2.2) λh=>(.done (h.1,h.2.1,h.2.2.1,h.2.2.2.1,h.2.2.2.2))) .fail)) (.opt (rec.impl_reader_atom x0 b.2.1 b.2.2.1 b.2.2.2.1 b.2.2.2.2) λj=>(.done (j.1,j.2.1,j.2.2.1,j.2.2.2.1,j.2.2.2.2)))))))
def G1 (n:Nat) (v:Int×Int×BA×Nat×Bool×RW):Tr ((Int×Int×BA×Nat×Bool×RW)⊕((Int×BA×Nat×Bool×RW)⊕(Int×BA×Nat×Bool×RW))):=(.ask ((decide (v.2.1<=(5:Int)))) (.opt (FB n v.2.1) λd=>(.opt (EX n v.2.2.1 d) λc=>(.ask (c.2) (.opt (Ge n v.2.1) λb=>(.opt (EY n b.1 b.2.1 b.2.2 c.1 v.2.2.2.1 v.2.2.2.2.1 v.2.2.2.2.2) λa=>(.done (.inr (.inl ((a.1,a.2.1,a.2.2.1,a.2.2.2.1,a.2.2.2.2))))))) (.done (.inl (v.1,(IntKind.i64.wrap (v.2.1+(1:Int))),v.2.2.1,v.2.2.2.1,v.2.2.2.2.1,v.2.2.2.2.2)))))) (.done (.inr (.inr ((v.1,v.2.2.1,v.2.2.2.1,v.2.2.2.2.1,v.2.2.2.2.2))))))
def FF (rec:G_impl_reader_binary) (n:Nat) (v:Int×BA×Int×BA×Nat×Bool×RW):Tr ((Int×BA×Int×BA×Nat×Bool×RW)⊕((Int×BA×Nat×Bool×RW)⊕(BA×Nat×Bool×RW))):=(.ask ((decide (v.2.2.1<=(10:Int)))) (.opt (G5 n v.2.2.1) λb=>(.ask ((v.2.1.toList==b.toList)) (.opt (rec.impl_reader_call v.2.2.1 v.1 v.2.2.2.1 v.2.2.2.2.1 v.2.2.2.2.2.1 v.2.2.2.2.2.2) λa=>(.done (.inr (.inl ((a.1,a.2.1,a.2.2.1,a.2.2.2.1,a.2.2.2.2)))))) (.done (.inl (v.1,v.2.1,(IntKind.i64.wrap (v.2.2.1+(1:Int))),v.2.2.2.1,v.2.2.2.2.1,v.2.2.2.2.2.1,v.2.2.2.2.2.2))))) (.done (.inr (.inr ((v.2.2.2.1,v.2.2.2.2.1,v.2.2.2.2.2.1,v.2.2.2.2.2.2))))))
def HK (n:Nat) (b:(Int×Int×Bool×Bool×Bool)) (c:(BA×BA×Nat×Bool×RW)):Tr (Int×BA×Nat×Bool×RW):=(.opt (Eo n (2:Int) (0:Int) (0:Int) (0:Int) (⟨#[]⟩:BA) b.1 b.2.1 b.2.2.1 b.2.2.2.1 (0:Int) (0:Int) false false ([]:RW) c.2.1 c.2.2.1 c.2.2.2.1 c.2.2.2.2) λa=>(.done (a.1,a.2.1,a.2.2.1,a.2.2.2.1,a.2.2.2.2)))
def HL (n:Nat) (c:(Int×Int×BA×Bool)) (b:(BA×BA×Nat×Bool×RW)):Tr (Int×BA×Nat×Bool×RW):=(.opt (EY n c.1 c.2.1 c.2.2.1 b.2.1 b.2.2.1 b.2.2.2.1 b.2.2.2.2) λa=>(.done (a.1,a.2.1,a.2.2.1,a.2.2.2.1,a.2.2.2.2)))
def HM (n:Nat) (c:((Int×BA×Nat×Bool×RW)⊕(BA×Nat×Bool×RW))):Tr (Int×BA×Nat×Bool×RW):=(.alt c (λa=>(.done (a.1,a.2.1,a.2.2.1,a.2.2.2.1,a.2.2.2.2))) (λb=>(.done ((-1:Int),b.1,b.2.1,true,b.2.2.2))))
def Mn (rec:G_impl_reader_binary) (n:Nat) (x0:Int) (x1:BA) (x2:Nat) (x3:Bool) (x4:RW):Tr (Int×BA×Nat×Bool×RW):=(.opt (FX n x1 x2 x3 x4) λc=>(.opt (D4 n c.1 (⟨#[34]⟩:BA)) λt=>(.ask (t) (.opt (Iz n c.1 c.2.1 c.2.2.1 c.2.2.2) λh=>(.done (h.1,h.2.1,h.2.2.1,h.2.2.2.1,h.2.2.2.2))) (.opt (D4 n c.1 (⟨#[35]⟩:BA)) λu=>(.ask (u) (.opt (zF (G1 n) n (x0,(1:Int),c.1,c.2.1,c.2.2.1,c.2.2.2)) λw=>(.alt w (λj=>(.done (j.1,j.2.1,j.2.2.1,j.2.2.2.1,j.2.2.2.2))) (λg=>(.opt (Fw n g.2.1 g.2.2.1 g.2.2.2.1 g.2.2.2.2) λa=>(.opt (EG n a.1) λk=>(.ask (k.2.2.2) (.ask ((k.1==(1:Int))) (HL n k a) (.ask ((k.1==(3:Int))) (HL n k a) (.opt (Em n a.1) λo=>(.ask (o.2.2.2.2) (HK n o a) (.opt (zF (FF rec n) n (g.1,a.1,(1:Int),a.2.1,a.2.2.1,a.2.2.2.1,a.2.2.2.2)) λz=>(HM n z)))))) (.opt (Em n a.1) λp=>(.ask (p.2.2.2.2) (HK n p a) (.opt (zF (FF rec n) n (g.1,a.1,(1:Int),a.2.1,a.2.2.1,a.2.2.2.1,a.2.2.2.2)) λa0=>(HM n a0)))))))))) (.opt (D9 n (⟨#[40]⟩:BA) c.1 c.2.1 c.2.2.1 c.2.2.2) λf=>(.ask (f.1) (.opt (rec.impl_reader_binary (1:Int) (IntKind.i64.wrap (x0+(1:Int))) f.2.1 f.2.2.1 f.2.2.2.1 f.2.2.2.2) λd=>(.ask (d.2.2.2.1) (.done (d.1,d.2.1,d.2.2.1,true,d.2.2.2.2)) (.opt (D9 n (⟨#[41]⟩:BA) d.2.1 d.2.2.1 d.2.2.2.1 d.2.2.2.2) λm=>(.done (d.1,m.2.1,m.2.2.1,(!m.1),m.2.2.2.2))))) (.opt (Fw n f.2.1 f.2.2.1 f.2.2.2.1 f.2.2.2.2) λb=>(.opt (EG n b.1) λl=>(.ask (l.2.2.2) (.ask ((l.1==(1:Int))) (HL n l b) (.ask ((l.1==(3:Int))) (HL n l b) (.opt (Em n b.1) λq=>(.ask (q.2.2.2.2) (HK n q b) (.opt (zF (FF rec n) n (x0,b.1,(1:Int),b.2.1,b.2.2.1,b.2.2.2.1,b.2.2.2.2)) λa1=>(HM n a1)))))) (.opt (Em n b.1) λs=>(.ask (s.2.2.2.2) (HK n s b) (.opt (zF (FF rec n) n (x0,b.1,(1:Int),b.2.1,b.2.2.1,b.2.2.2.1,b.2.2.2.2)) λa2=>(HM n a2))))))))))))))
def HN (rec:G_impl_reader_binary) (n:Nat) (v:Int×Int×Nat×RW×BA×Nat×Bool×RW):Tr ((Int×Int×Nat×RW×BA×Nat×Bool×RW)⊕((Int×Nat×RW×BA×Nat×Bool×RW))):=(.ask ((!v.2.2.2.2.2.2.1)) (.opt (IU n v.2.2.2.2.1 v.2.2.2.2.2.1 v.2.2.2.2.2.2.1 v.2.2.2.2.2.2.2) λa=>(.ask (a.2.2.2.2.2.2.2.2.2.2.2.2.2.2.1) (.opt (Eo n a.1 a.2.1 a.2.2.1 a.2.2.2.1 a.2.2.2.2.1 a.2.2.2.2.2.1 a.2.2.2.2.2.2.1 a.2.2.2.2.2.2.2.1 a.2.2.2.2.2.2.2.2.1 a.2.2.2.2.2.2.2.2.2.1 a.2.2.2.2.2.2.2.2.2.2.1 a.2.2.2.2.2.2.2.2.2.2.2.1 a.2.2.2.2.2.2.2.2.2.2.2.2.1 a.2.2.2.2.2.2.2.2.2.2.2.2.2.1 a.2.2.2.2.2.2.2.2.2.2.2.2.2.2.2.1 a.2.2.2.2.2.2.2.2.2.2.2.2.2.2.2.2.1 a.2.2.2.2.2.2.2.2.2.2.2.2.2.2.2.2.2.1 a.2.2.2.2.2.2.2.2.2.2.2.2.2.2.2.2.2.2) λd=>(.ask (decide (1=([[(.i .i64 d.1)]]:RW).length)) (.ask (decide (v.2.2.1=v.2.2.2.1.length/\0<1/\0<8/\(v.2.2.1+([[(.i .i64 d.1)]]:RW).length)*8<=140737488355328/\([[(.i .i64 d.1)]]:RW).all (λe=>e.length==1)=true)) (.opt (D9 n (⟨#[44]⟩:BA) d.2.1 d.2.2.1 d.2.2.2.1 d.2.2.2.2) λb=>(.ask ((!b.1)) (.ask (b.2.2.2.1) (.done (.inr ((v.1,(v.2.2.1+1),(v.2.2.2.1++([[(.i .i64 d.1)]]:RW)),b.2.1,b.2.2.1,true,b.2.2.2.2)))) (.opt (D9 n (⟨#[41]⟩:BA) b.2.1 b.2.2.1 b.2.2.2.1 b.2.2.2.2) λg=>(.done (.inr ((v.1,(v.2.2.1+1),(v.2.2.2.1++([[(.i .i64 d.1)]]:RW)),g.2.1,g.2.2.1,(!g.1),g.2.2.2.2)))))) (.done (.inl (v.1,v.2.1,(v.2.2.1+1),(v.2.2.2.1++([[(.i .i64 d.1)]]:RW)),b.2.1,b.2.2.1,b.2.2.2.1,b.2.2.2.2))))) .fail) .fail)) (.opt (rec.impl_reader_binary (1:Int) (IntKind.i64.wrap (v.2.1+(1:Int))) a.2.2.2.2.2.2.2.2.2.2.2.2.2.2.2.1 a.2.2.2.2.2.2.2.2.2.2.2.2.2.2.2.2.1 a.2.2.2.2.2.2.2.2.2.2.2.2.2.2.2.2.2.1 a.2.2.2.2.2.2.2.2.2.2.2.2.2.2.2.2.2.2) λf=>(.ask (decide (1=([[(.i .i64 f.1)]]:RW).length)) (.ask (decide (v.2.2.1=v.2.2.2.1.length/\0<1/\0<8/\(v.2.2.1+([[(.i .i64 f.1)]]:RW).length)*8<=140737488355328/\([[(.i .i64 f.1)]]:RW).all (λe=>e.length==1)=true)) (.opt (D9 n (⟨#[44]⟩:BA) f.2.1 f.2.2.1 f.2.2.2.1 f.2.2.2.2) λc=>(.ask ((!c.1)) (.ask (c.2.2.2.1) (.done (.inr ((v.1,(v.2.2.1+1),(v.2.2.2.1++([[(.i .i64 f.1)]]:RW)),c.2.1,c.2.2.1,true,c.2.2.2.2)))) (.opt (D9 n (⟨#[41]⟩:BA) c.2.1 c.2.2.1 c.2.2.2.1 c.2.2.2.2) λh=>(.done (.inr ((v.1,(v.2.2.1+1),(v.2.2.2.1++([[(.i .i64 f.1)]]:RW)),h.2.1,h.2.2.1,(!h.1),h.2.2.2.2)))))) (.done (.inl (v.1,v.2.1,(v.2.2.1+1),(v.2.2.2.1++([[(.i .i64 f.1)]]:RW)),c.2.1,c.2.2.1,c.2.2.2.1,c.2.2.2.2))))) .fail) .fail)))) (.done (.inr ((v.1,v.2.2.1,v.2.2.2.1,v.2.2.2.2.1,v.2.2.2.2.2.1,v.2.2.2.2.2.2.1,v.2.2.2.2.2.2.2)))))
def Kw (n:Nat) (a:((Int×Nat×RW×BA×Nat×Bool×RW))):Tr (Int×BA×Nat×Bool×RW):=(.ask (decide (a.2.1=a.2.2.1.length)) (.opt (Eo n (6:Int) a.1 (0:Int) (0:Int) (⟨#[]⟩:BA) (0:Int) (0:Int) false false (0:Int) (0:Int) false false a.2.2.1 a.2.2.2.1 a.2.2.2.2.1 a.2.2.2.2.2.1 a.2.2.2.2.2.2) λb=>(.done (b.1,b.2.1,b.2.2.1,b.2.2.2.1,b.2.2.2.2))) .fail)
def Mo (rec:G_impl_reader_binary) (n:Nat) (x0 x1:Int) (x2:BA) (x3:Nat) (x4:Bool) (x5:RW):Tr (Int×BA×Nat×Bool×RW):=(.ask (x4) (.opt (zF (HN rec n) n (x0,x1,(0:Nat),([]:RW),x2,x3,true,x5)) λb=>(Kw n b)) (.opt (D9 n (⟨#[40]⟩:BA) x2 x3 x4 x5) λa=>(.opt (zF (HN rec n) n (x0,x1,(0:Nat),([]:RW),a.2.1,a.2.2.1,(!a.1),a.2.2.2.2)) λc=>(Kw n c))))
def qk:Nat->G_impl_reader_binary
 |0=>⟨λ_ _ _ _ _ _=>none,λ_ _ _ _ _=>none,λ_ _ _ _ _=>none,λ_ _ _ _ _ _=>none⟩
 |n+1=>⟨λx0 x1 x2 x3 x4 x5=>(La (qk n) n x0 x1 x2 x3 x4 x5).run,λx0 x1 x2 x3 x4=>(L5 (qk n) n x0 x1 x2 x3 x4).run,λx0 x1 x2 x3 x4=>(Mn (qk n) n x0 x1 x2 x3 x4).run,λx0 x1 x2 x3 x4 x5=>(Mo (qk n) n x0 x1 x2 x3 x4 x5).run⟩
def Hh (n:Nat) (x0 x1:Int) (x2:BA) (x3:Nat) (x4:Bool) (x5:RW):Option (Int×BA×Nat×Bool×RW):=(qk n).impl_reader_binary x0 x1 x2 x3 x4 x5
def L6 (n:Nat) (x0:Int) (x1:BA) (x2:Nat) (x3:Bool) (x4:RW):Option (Int×BA×Nat×Bool×RW):=(qk n).impl_reader_unary x0 x1 x2 x3 x4
def Mp (n:Nat) (x0:Int) (x1:BA) (x2:Nat) (x3:Bool) (x4:RW):Option (Int×BA×Nat×Bool×RW):=(qk n).impl_reader_atom x0 x1 x2 x3 x4
def HH (n:Nat) (x0 x1:Int) (x2:BA) (x3:Nat) (x4:Bool) (x5:RW):Option (Int×BA×Nat×Bool×RW):=(qk n).impl_reader_call x0 x1 x2 x3 x4 x5
def ER (n:Nat):Prop:=
 Ok (Rn n) LZ (Hh n)/\
 Ok (Rn n) RJ (L6 n)/\
 Ok (Rn n) SL (Mp n)/\
 Ok (Rn n) SN (HH n)
abbrev I1 (n:Nat) (ih:ER n):List (Ent (Rn n)):= [en ih.2.1,en (L2 n),en (QQ n),en (Rq n),en (Gz n),en ih.1,en (HG n)]
def N1 (n:Nat) (ih:ER n):LEnt (lb 14 (KB 170)) (Rn n) n:=lok (Uniq.pick (zd 170) 14) 237 ⟨⟨[(0,(.c (.ptr 0 0 0 0 0))),(1,aI),(2,aI),(7,aI),(8,aI),(9,aI)],[],[Fu]⟩,[(.exit 2,⟨[(0,(.c (.ptr 0 0 0 0 0))),(1,aI),(2,aI),(7,aI),(8,aI)],[],[Fu]⟩)]⟩ (Fq n) (I1 n ih) [] λ_=>by kernel_rfl
def OO (n:Nat) (ih:ER n):LEnt (KB 170) (Rn n) n:=lok (zd 170) 14 ⟨⟨[(0,(.c (.ptr 0 0 0 0 0))),(1,aI),(2,aI),(7,aI)],[],[Fu]⟩,[(.exit 0,⟨[(7,aI)],[],[Fu]⟩)]⟩ (IF (qk n) n) (I1 n ih) [N1 n ih] λ_=>by kernel_rfl
abbrev RL (n:Nat) (ih:ER n):List (Ent (Rn n)):= [en (Gz n),en ih.2.1,en (HG n),en ih.2.2.1]
abbrev J0 (n:Nat) (ih:ER n):List (Ent (Rn n)):= [en (HI n),en (Hf n),en (Pq n),en (KZ n),en (He n),en (Rp n),en (KC n),en (L3 n),en (NO n),en (Kd n),en (HG n),en (QP n),en ih.2.2.2,en (Gz n),en ih.1]
def O3 (n:Nat) (ih:ER n):LEnt (KB 280) (Rn n) n:=lok (zd 280) 477 ⟨⟨[(0,(.c (.ptr 0 0 0 0 0))),(1,aI),(5,aI)],[],[Fu]⟩,[(.ret,⟨[(4,aI)],[],[Fu]⟩),(.exit 1,⟨[(0,(.c (.ptr 0 0 0 0 0))),(1,aI)],[],[Fu]⟩)]⟩ (G1 n) (J0 n ih) [] λ_=>by kernel_rfl
def O4 (n:Nat) (ih:ER n):LEnt (KB 280) (Rn n) n:=lok (zd 280) 509 ⟨⟨[(0,(.c (.ptr 0 0 0 0 0))),(1,aI),(9,aS),(14,aI)],[],[Fu]⟩,[(.ret,⟨[(4,aI)],[],[Fu]⟩),(.exit 3,⟨[(0,(.c (.ptr 0 0 0 0 0)))],[],[Fu]⟩)]⟩ (FF (qk n) n) (J0 n ih) [] λ_=>by kernel_rfl
abbrev Mq (n:Nat) (ih:ER n):List (Ent (Rn n)):= [en (ON n),en (HG n),en (Gz n),en ih.1]
def Ps (n:Nat) (ih:ER n):LEnt (KB 316) (Rn n) n:=lok (zd 316) 30 ⟨⟨[(0,(.c (.ptr 0 0 0 0 0))),(1,aI),(2,aI),(7,(.c (.own 1 640 0 0)))],db,[Fu]⟩,[(.exit 0,⟨[(0,(.c (.ptr 0 0 0 0 0))),(1,aI),(7,(.c (.own 1 640 0 0)))],db,[Fu]⟩)]⟩ (HN (qk n) n) (Mq n ih) [] λ_=>by kernel_rfl
theorem Ed:∀n,ER n
 |0=>⟨ok0 λ_=>rfl,ok0 λ_=>rfl,ok0 λ_=>rfl,ok0 λ_=>rfl⟩
 |n+1=>⟨stO (T:=La (qk n) n) (by kernel_rfl) (I1 n (Ed n)) [OO n (Ed n)] (λ_=>by kernel_rfl) λ_=>by kernel_rfl,stO (T:=L5 (qk n) n) (by kernel_rfl) (RL n (Ed n)) [] (λ_=>by kernel_rfl) λ_=>by kernel_rfl,stO (T:=Mn (qk n) n) (by kernel_rfl) (J0 n (Ed n)) [O3 n (Ed n),O4 n (Ed n)] (λ_=>by kernel_rfl) λ_=>by kernel_rfl,stO (T:=Mo (qk n) n) (by kernel_rfl) (Mq n (Ed n)) [Ps n (Ed n)] (λ_=>by kernel_rfl) λ_=>by kernel_rfl⟩
theorem Pt (n:Nat):Ok (Rn n) LZ (Hh n):=(Ed n).1
def TH:Sg:=⟨154,[(.agg [qI,qI,qI,qI,qS,qI,qI,qB,qB,qI,qI,qB,qB,qL])],[],⟨(.agg [qI,qI,qI,qI]),[],[]⟩⟩
def Kf (n:Nat) (x0 x1 x2 x3:Int) (x4:BA) (x5 x6:Int) (x7 x8:Bool) (x9 x10:Int) (x11 x12:Bool) (x13:RW):Tr (Int×Int×Int×Int):=(.ask ((x0==(2:Int))) (.done (x5,x6,x5,x6)) (.done (x5,x6,x9,x10)))
def Hi:Nat->Int->Int->Int->Int->BA->Int->Int->Bool->Bool->Int->Int->Bool->Bool->RW->Option (Int×Int×Int×Int)
 |0,_,_,_,_,_,_,_,_,_,_,_,_,_,_=>none
 |n+1,x0,x1,x2,x3,x4,x5,x6,x7,x8,x9,x10,x11,x12,x13=>(Kf n x0 x1 x2 x3 x4 x5 x6 x7 x8 x9 x10 x11 x12 x13).run
theorem SO:∀n,Ok (Rn n) TH (Hi n)
 |0=>ok0 λ_=>rfl
 |n+1=>stO (T:=Kf n) (by kernel_rfl) [] [] (λ_=>by kernel_rfl) λ_=>by kernel_rfl
def Xp:Sg:=⟨339,[(.agg [qI,qI,qI,qI])],[],⟨aB,[],[]⟩⟩
def N2 (n:Nat) (x0 x1 x2 x3:Int):Tr (Bool):=(.opt (Gc n x0 x1) λa=>(.ask (a) (.opt (Gc n x2 x3) λb=>(.ask (b) (.ask ((decide (x0<=x2))) (.done (decide (x1<=x3))) (.done false)) (.done false))) (.done false)))
def Jh:Nat->Int->Int->Int->Int->Option (Bool)
 |0,_,_,_,_=>none
 |n+1,x0,x1,x2,x3=>(N2 n x0 x1 x2 x3).run
abbrev Xq (n:Nat):List (Ent (Rn n)):= [en (LU n)]
theorem Wj:∀n,Ok (Rn n) Xp (Jh n)
 |0=>ok0 λ_=>rfl
 |n+1=>stO (T:=N2 n) (by kernel_rfl) (Xq n) [] (λ_=>by kernel_rfl) λ_=>by kernel_rfl
def Pu:Sg:=⟨317,[(.agg [qI,qI,qI,qI,qS,qI,qI,qB,qB,qI,qI,qB,qB,qL])],[],⟨aB,[],[]⟩⟩
def Ik (n:Nat) (x0 x1 x2 x3:Int) (x4:BA) (x5 x6:Int) (x7 x8:Bool) (x9 x10:Int) (x11 x12:Bool) (x13:RW):Tr (Bool):=(.ask ((x0 !=(2:Int))) (.ask ((x0 !=(3:Int))) (.done true) (.opt (Hi n x0 x1 x2 x3 x4 x5 x6 x7 x8 x9 x10 x11 x12 x13) λa=>(.opt (Jh n a.1 a.2.1 a.2.2.1 a.2.2.2) λc=>(.done c)))) (.opt (Hi n x0 x1 x2 x3 x4 x5 x6 x7 x8 x9 x10 x11 x12 x13) λb=>(.opt (Jh n b.1 b.2.1 b.2.2.1 b.2.2.2) λd=>(.done d))))
def FO:Nat->Int->Int->Int->Int->BA->Int->Int->Bool->Bool->Int->Int->Bool->Bool->RW->Option (Bool)
 |0,_,_,_,_,_,_,_,_,_,_,_,_,_,_=>none
 |n+1,x0,x1,x2,x3,x4,x5,x6,x7,x8,x9,x10,x11,x12,x13=>(Ik n x0 x1 x2 x3 x4 x5 x6 x7 x8 x9 x10 x11 x12 x13).run
abbrev Pv (n:Nat):List (Ent (Rn n)):= [en (SO n),en (Wj n)]
theorem O5:∀n,Ok (Rn n) Pu (FO n)
 |0=>ok0 λ_=>rfl
 |n+1=>stO (T:=Ik n) (by kernel_rfl) (Pv n) [] (λ_=>by kernel_rfl) λ_=>by kernel_rfl
def RN:Sg:=⟨318,[(.agg [qI,qI,qI,qI,qS,qI,qI,qB,qB,qI,qI,qB,qB,qL])],[],⟨aB,[],[]⟩⟩
def JY (n:Nat) (x0 x1 x2 x3:Int) (x4:BA) (x5 x6:Int) (x7 x8:Bool) (x9 x10:Int) (x11 x12:Bool) (x13:RW):Tr (Bool):=(.ask ((x0==(4:Int))) (.ask ((x1==(0:Int))) (.done ((x13.length:Int)==(1:Int))) (.done false)) (.ask ((x0==(5:Int))) (.opt (Eh n x1 (1:Int) (11:Int)) λa=>(.ask (a) (.done ((x13.length:Int)==(2:Int))) (.done false))) (.ask ((x0==(6:Int))) (.opt (Eh n x1 (1:Int) (10:Int)) λb=>(.ask ((!b)) (.done false) (.ask ((x1==(5:Int))) (.opt (Eh n (x13.length:Int) (2:Int) (3:Int)) λc=>(.done c)) (.ask ((decide (x1≥(8:Int)))) (.done ((x13.length:Int)==(1:Int))) (.opt (Eh n (x13.length:Int) (1:Int) (10:Int)) λd=>(.done d)))))) (.ask ((x1==(0:Int))) (.done ((x13.length:Int)==(0:Int))) (.done false)))))
def Fj:Nat->Int->Int->Int->Int->BA->Int->Int->Bool->Bool->Int->Int->Bool->Bool->RW->Option (Bool)
 |0,_,_,_,_,_,_,_,_,_,_,_,_,_,_=>none
 |n+1,x0,x1,x2,x3,x4,x5,x6,x7,x8,x9,x10,x11,x12,x13=>(JY n x0 x1 x2 x3 x4 x5 x6 x7 x8 x9 x10 x11 x12 x13).run
abbrev RO (n:Nat):List (Ent (Rn n)):= [en (ID n)]
theorem QR:∀n,Ok (Rn n) RN (Fj n)
 |0=>ok0 λ_=>rfl
 |n+1=>stO (T:=JY n) (by kernel_rfl) (RO n) [] (λ_=>by kernel_rfl) λ_=>by kernel_rfl
def SP:Sg:=⟨281,[(.agg [qI,qI,qI,qI,qS,qI,qI,qB,qB,qI,qI,qB,qB,qL])],[],⟨aB,[],[]⟩⟩
def HO (n:Nat) (x0 x1 x2 x3:Int) (x4:BA) (x5 x6:Int) (x7 x8:Bool) (x9 x10:Int) (x11 x12:Bool) (x13:RW):Tr (Bool):=(.opt (FO n x0 x1 x2 x3 x4 x5 x6 x7 x8 x9 x10 x11 x12 x13) λa=>(.ask (a) (.opt (Fj n x0 x1 x2 x3 x4 x5 x6 x7 x8 x9 x10 x11 x12 x13) λb=>(.ask (b) (.ask ((((0:Int)==x2)&&(((0:Int)==x3)&&(((⟨#[]⟩:BA).toList==x4.toList)&&true)))) (.ask ((((0:Int)==x5)&&(((0:Int)==x6)&&((false==x7)&&((false==x8)&&true))))) (.done (((0:Int)==x9)&&(((0:Int)==x10)&&((false==x11)&&((false==x12)&&true))))) (.done false)) (.done false)) (.done false))) (.done false)))
def Il (n:Nat) (x0 x1 x2 x3:Int) (x4:BA) (x5 x6:Int) (x7 x8:Bool) (x9 x10:Int) (x11 x12:Bool) (x13:RW):Tr (Bool):=(.opt (FO n x0 x1 x2 x3 x4 x5 x6 x7 x8 x9 x10 x11 x12 x13) λa=>(.ask (a) (.opt (Fj n x0 x1 x2 x3 x4 x5 x6 x7 x8 x9 x10 x11 x12 x13) λb=>(.ask (b) (.ask (((x2==x2)&&((x3==x3)&&((x4.toList==x4.toList)&&true)))) (.ask ((((0:Int)==x5)&&(((0:Int)==x6)&&((false==x7)&&((false==x8)&&true))))) (.done (((0:Int)==x9)&&(((0:Int)==x10)&&((false==x11)&&((false==x12)&&true))))) (.done false)) (.done false)) (.done false))) (.done false)))
def J1 (n:Nat) (x0 x1 x2 x3:Int) (x4:BA) (x5 x6:Int) (x7 x8:Bool) (x9 x10:Int) (x11 x12:Bool) (x13:RW):Tr (Bool):=(.ask ((x0==(1:Int))) (.opt (Fp n x2 x3 x4) λa=>(.ask ((!a)) (.done false) (.ask ((x2==(0:Int))) (.done false) (.ask ((x2==(1:Int))) (.ask ((decide (x3<(0:Int)))) (.done false) (Il n x0 x1 x2 x3 x4 x5 x6 x7 x8 x9 x10 x11 x12 x13)) (Il n x0 x1 x2 x3 x4 x5 x6 x7 x8 x9 x10 x11 x12 x13))))) (.ask ((x0==(2:Int))) (.opt (FO n x0 x1 x2 x3 x4 x5 x6 x7 x8 x9 x10 x11 x12 x13) λb=>(.ask (b) (.opt (Fj n x0 x1 x2 x3 x4 x5 x6 x7 x8 x9 x10 x11 x12 x13) λc=>(.ask (c) (.ask ((((0:Int)==x2)&&(((0:Int)==x3)&&(((⟨#[]⟩:BA).toList==x4.toList)&&true)))) (.ask (((x5==x5)&&((x6==x6)&&((x7==x7)&&((x8==x8)&&true))))) (.done (((0:Int)==x9)&&(((0:Int)==x10)&&((false==x11)&&((false==x12)&&true))))) (.done false)) (.done false)) (.done false))) (.done false))) (.ask ((x0==(3:Int))) (.opt (FO n x0 x1 x2 x3 x4 x5 x6 x7 x8 x9 x10 x11 x12 x13) λd=>(.ask (d) (.opt (Fj n x0 x1 x2 x3 x4 x5 x6 x7 x8 x9 x10 x11 x12 x13) λf=>(.ask (f) (.ask ((((0:Int)==x2)&&(((0:Int)==x3)&&(((⟨#[]⟩:BA).toList==x4.toList)&&true)))) (.ask (((x5==x5)&&((x6==x6)&&((x7==x7)&&((x8==x8)&&true))))) (.done ((x9==x9)&&((x10==x10)&&((x11==x11)&&((x12==x12)&&true))))) (.done false)) (.done false)) (.done false))) (.done false))) (.ask ((x0==(4:Int))) (HO n x0 x1 x2 x3 x4 x5 x6 x7 x8 x9 x10 x11 x12 x13) (.ask ((x0==(5:Int))) (HO n x0 x1 x2 x3 x4 x5 x6 x7 x8 x9 x10 x11 x12 x13) (.ask ((x0==(6:Int))) (HO n x0 x1 x2 x3 x4 x5 x6 x7 x8 x9 x10 x11 x12 x13) (.done false)))))))
def IV:Nat->Int->Int->Int->Int->BA->Int->Int->Bool->Bool->Int->Int->Bool->Bool->RW->Option (Bool)
 |0,_,_,_,_,_,_,_,_,_,_,_,_,_,_=>none
 |n+1,x0,x1,x2,x3,x4,x5,x6,x7,x8,x9,x10,x11,x12,x13=>(J1 n x0 x1 x2 x3 x4 x5 x6 x7 x8 x9 x10 x11 x12 x13).run
abbrev SQ (n:Nat):List (Ent (Rn n)):= [en (Lr n),en (O5 n),en (QR n)]
theorem RP:∀n,Ok (Rn n) SP (IV n)
 |0=>ok0 λ_=>rfl
 |n+1=>stO (T:=J1 n) (by kernel_rfl) (SQ n) [] (λ_=>by kernel_rfl) λ_=>by kernel_rfl
def QS:Sg:=⟨232,[aL,aI,aI],[],⟨aI,[],[]⟩⟩
def Ep (rec:RW->Int->Int->Option (Int)) (n:Nat) (v:RW×Int×Int×Int×Int):Tr ((RW×Int×Int×Int×Int)⊕((Int)⊕(Int))):=(.ask ((decide (v.2.2.2.2≥(0:Int)))) (.ask (decide (0<=v.2.1/\v.2.1<v.1.length)) (.opt (v.1[(v.2.1).toNat]?) λb=>(.ask (decide (b.length=14)) (.opt (cW b 13) λc=>(.ask (decide (0<=v.2.2.2.2/\v.2.2.2.2<c.length)) (.opt (c[(v.2.2.2.2).toNat]?) λd=>(.ask (decide (d.length=1)) (.opt (zI .i64 d 0) λa=>(.ask ((a !=(IntKind.i64.wrap (v.2.2.2.1-(1:Int))))) (.done (.inr (.inl ((-1:Int))))) (.ask ((decide (a<(0:Int)))) (.done (.inr (.inl ((-1:Int))))) (.ask (decide (0<=a/\a<v.1.length)) (.opt (v.1[(a).toNat]?) λf=>(.ask (decide (f.length=14)) (.opt (zI .i64 f 0) λk=>(.ask ((k==(3:Int))) (.ask (decide (0<=v.2.1/\v.2.1<v.1.length)) (.opt (v.1[(v.2.1).toNat]?) λg=>(.ask (decide (g.length=14)) (.opt (zI .i64 g 0) λl=>(.ask ((l !=(6:Int))) (.done (.inr (.inl ((-1:Int))))) (.opt (rec v.1 a (IntKind.i64.wrap (v.2.2.1+(1:Int)))) λh=>(.ask ((decide (h<(0:Int)))) (.done (.inr (.inl ((-1:Int))))) (.done (.inl (v.1,v.2.1,v.2.2.1,h,(IntKind.i64.wrap (v.2.2.2.2-(1:Int)))))))))) .fail)) .fail) (.opt (rec v.1 a (IntKind.i64.wrap (v.2.2.1+(1:Int)))) λj=>(.ask ((decide (j<(0:Int)))) (.done (.inr (.inl ((-1:Int))))) (.done (.inl (v.1,v.2.1,v.2.2.1,j,(IntKind.i64.wrap (v.2.2.2.2-(1:Int)))))))))) .fail)) .fail)))) .fail)) .fail)) .fail)) .fail) (.done (.inr (.inr (v.2.2.2.1)))))
def Lb (rec:RW->Int->Int->Option (Int)) (n:Nat) (x0:RW) (x1 x2:Int):Tr (Int):=(.ask ((decide (x1<(0:Int)))) (.done (-1:Int)) (.ask ((decide (x2≥(12:Int)))) (.done (-1:Int)) (.ask (decide (0<=x1/\x1<x0.length)) (.opt (x0[(x1).toNat]?) λa=>(.ask (decide (a.length=14)) (.opt (zI .i64 a 0) λc=>(.opt (zI .i64 a 1) λd=>(.opt (zI .i64 a 2) λf=>(.opt (zI .i64 a 3) λg=>(.opt (z8 a 4) λh=>(.opt (zI .i64 a 5) λj=>(.opt (zI .i64 a 6) λk=>(.opt (bW a 7) λl=>(.opt (bW a 8) λm=>(.opt (zI .i64 a 9) λo=>(.opt (zI .i64 a 10) λp=>(.opt (bW a 11) λq=>(.opt (bW a 12) λs=>(.opt (cW a 13) λt=>(.opt (IV n c d f g h j k l m o p q s t) λu=>(.ask ((!u)) (.done (-1:Int)) (.ask (decide (0<=x1/\x1<x0.length)) (.opt (x0[(x1).toNat]?) λb=>(.ask (decide (b.length=14)) (.opt (cW b 13) λw=>(.opt (zF (Ep rec n) n (x0,x1,x2,x1,(IntKind.i64.wrap ((w.length:Int)-(1:Int))))) λz=>(.alt z (λa0=>(.done a0)) (λa1=>(.done a1))))) .fail)) .fail))))))))))))))))) .fail)) .fail)))
def FE:Nat->RW->Int->Int->Option (Int)
 |0,_,_,_=>none
 |n+1,x0,x1,x2=>(Lb (FE n) n x0 x1 x2).run
abbrev VJ (n:Nat) (ih:Ok (Rn n) QS (FE n)):List (Ent (Rn n)):= [en (RP n),en ih]
def Wl (n:Nat) (ih:Ok (Rn n) QS (FE n)):LEnt (KB 232) (Rn n) n:=lok (zd 232) 61 ⟨⟨[(0,aL),(1,aI),(2,aI),(7,aI),(8,aI)],[],[]⟩,[(.ret,⟨[(6,aI)],[],[]⟩),(.exit 0,⟨[(7,aI)],[],[]⟩)]⟩ (Ep (FE n) n) (VJ n ih) [] λ_=>by kernel_rfl
theorem O6:∀n,Ok (Rn n) QS (FE n)
 |0=>ok0 λ_=>rfl
 |n+1=>stO (T:=Lb (FE n) n) (by kernel_rfl) (VJ n (O6 n)) [Wl n (O6 n)] (λ_=>by kernel_rfl) λ_=>by kernel_rfl
def Ue:Sg:=⟨172,[aL],[],⟨aB,[],[]⟩⟩
def IG (n:Nat) (x0:RW):Tr (Bool):=(.opt (Eh n (x0.length:Int) (1:Int) (60:Int)) λb=>(.ask (b) (.ask (decide (0<=(IntKind.i64.wrap ((x0.length:Int)-(1:Int)))/\(IntKind.i64.wrap ((x0.length:Int)-(1:Int)))<x0.length)) (.opt (x0[((IntKind.i64.wrap ((x0.length:Int)-(1:Int)))).toNat]?) λa=>(.ask (decide (a.length=14)) (.opt (zI .i64 a 0) λc=>(.ask ((c !=(3:Int))) (.opt (FE n x0 (IntKind.i64.wrap ((x0.length:Int)-(1:Int))) (0:Int)) λd=>(.done (d==(0:Int)))) (.done false))) .fail)) .fail) (.done false)))
def GT:Nat->RW->Option (Bool)
 |0,_=>none
 |n+1,x0=>(IG n x0).run
abbrev Ug (n:Nat):List (Ent (Rn n)):= [en (ID n),en (O6 n)]
theorem NP:∀n,Ok (Rn n) Ue (GT n)
 |0=>ok0 λ_=>rfl
 |n+1=>stO (T:=IG n) (by kernel_rfl) (Ug n) [] (λ_=>by kernel_rfl) λ_=>by kernel_rfl
def SR:Sg:=⟨100,[aS],[],⟨(.tup [(false,[qL]),(false,[qB])]),[],[]⟩⟩
def Mr (n:Nat) (x0:BA):Tr (RW×Bool):=(.opt (Ht n x0 (200:Int)) λg=>(.ask ((!g)) (.ask (decide (0=([]:RW).length)) (.done (([]:RW),false)) .fail) (.opt (Hh n (1:Int) (0:Int) x0 (0:Nat) false ([]:RW)) λd=>(.opt (FX n d.2.1 d.2.2.1 d.2.2.2.1 d.2.2.2.2) λa=>(.ask (a.2.2.1) (.ask (decide (0=([]:RW).length)) (.done (([]:RW),false)) .fail) (.ask ((!(a.1.toList==(⟨#[]⟩:BA).toList))) (.ask (decide (0=([]:RW).length)) (.done (([]:RW),false)) .fail) (.ask (decide (a.2.1=a.2.2.2.length)) (.opt (GT n a.2.2.2) λf=>(.ask (cI (⟨(.c (.p (.b f))),[],[]⟩:Res)) (.ask ((!f)) (.ask (decide (0=([]:RW).length)) (.done (([]:RW),false)) .fail) (.ask (decide (a.2.1=a.2.2.2.length)) (.done (a.2.2.2,true)) .fail)) .fail)) .fail)))))))
def J2:Nat->BA->Option (RW×Bool)
 |0,_=>none
 |n+1,x0=>(Mr n x0).run
abbrev SS (n:Nat):List (Ent (Rn n)):= [en (Me n),en (Pt n),en (HI n),en (NP n)]
theorem RQ:∀n,Ok (Rn n) SR (J2 n)
 |0=>ok0 λ_=>rfl
 |n+1=>stO (T:=Mr n) (by kernel_rfl) (SS n) [] (λ_=>by kernel_rfl) λ_=>by kernel_rfl
def Lc:Sg:=⟨282,[aS,aS,aS],[],⟨aS,[],[]⟩⟩
def I2:Nat->BA->BA->BA->Option ((BA))
 |0,_,_,_=>none
 |n+1,x0,x1,x2=>aH x0 x1 x2
theorem Pw:∀n,Ok (Rn n) Lc (I2 n)
 |0=>ok0 λ_=>rfl
 |n+1=>stL bC (by kernel_rfl) (λ_ _=>rfl) (λa r e=>congrArg (Option.map λr=>(Lc.Of r).v) e) rfl rfl rfl
def QT:Sg:=⟨284,[aL,aS],[],⟨aS,[],[]⟩⟩
def Ms:Nat->RW->BA->Option ((BA))
 |0,_,_=>none
 |n+1,x0,x1=>cZ x0 x1
theorem Vr:∀n,Ok (Rn n) QT (Ms n)
 |0=>ok0 λ_=>rfl
 |n+1=>stL dA (by kernel_rfl) (λ_ _=>rfl) (λa r e=>congrArg (Option.map λr=>(QT.Of r).v) e) rfl rfl rfl
def J3:Sg:=⟨233,[aL,aI,aI],[],⟨aS,[],[]⟩⟩
def GC (rec:RW->Int->Int->Option (BA)) (n:Nat) (v:RW×Nat×RW×Int×Int×Int×Int×Int×Int×BA×Int×Int×Bool×Bool×Int×Int×Bool×Bool×RW×RW):Tr ((RW×Nat×RW×Int×Int×Int×Int×Int×Int×BA×Int×Int×Bool×Bool×Int×Int×Bool×Bool×RW×RW)⊕((Nat×Int×Int×Int×Int×BA×Int×Int×Bool×Bool×Int×Int×Bool×Bool×RW×RW))):=(.ask ((decide (v.2.2.2.2.1<v.2.2.2.1))) (.ask (decide (0<=v.2.2.2.2.1/\v.2.2.2.2.1<v.2.2.1.length)) (.opt (v.2.2.1[(v.2.2.2.2.1).toNat]?) λb=>(.ask (decide (b.length=1)) (.opt (zI .i64 b 0) λc=>(.opt (rec v.1 c (1:Int)) λa=>(.ask (decide (1=([[(.s a)]]:RW).length)) (.ask (decide (v.2.1=v.2.2.2.2.2.2.2.2.2.2.2.2.2.2.2.2.2.2.2.length/\0<1/\0<16/\(v.2.1+([[(.s a)]]:RW).length)*16<=140737488355328/\([[(.s a)]]:RW).all (λe=>e.length==1)=true)) (.done (.inl (v.1,(v.2.1+1),v.2.2.1,v.2.2.2.1,(IntKind.i64.wrap (v.2.2.2.2.1+(1:Int))),v.2.2.2.2.2.1,v.2.2.2.2.2.2.1,v.2.2.2.2.2.2.2.1,v.2.2.2.2.2.2.2.2.1,v.2.2.2.2.2.2.2.2.2.1,v.2.2.2.2.2.2.2.2.2.2.1,v.2.2.2.2.2.2.2.2.2.2.2.1,v.2.2.2.2.2.2.2.2.2.2.2.2.1,v.2.2.2.2.2.2.2.2.2.2.2.2.2.1,v.2.2.2.2.2.2.2.2.2.2.2.2.2.2.1,v.2.2.2.2.2.2.2.2.2.2.2.2.2.2.2.1,v.2.2.2.2.2.2.2.2.2.2.2.2.2.2.2.2.1,v.2.2.2.2.2.2.2.2.2.2.2.2.2.2.2.2.2.1,v.2.2.2.2.2.2.2.2.2.2.2.2.2.2.2.2.2.2.1,(v.2.2.2.2.2.2.2.2.2.2.2.2.2.2.2.2.2.2.2++([[(.s a)]]:RW))))) .fail) .fail))) .fail)) .fail) (.done (.inr ((v.2.1,v.2.2.2.2.2.1,v.2.2.2.2.2.2.1,v.2.2.2.2.2.2.2.1,v.2.2.2.2.2.2.2.2.1,v.2.2.2.2.2.2.2.2.2.1,v.2.2.2.2.2.2.2.2.2.2.1,v.2.2.2.2.2.2.2.2.2.2.2.1,v.2.2.2.2.2.2.2.2.2.2.2.2.1,v.2.2.2.2.2.2.2.2.2.2.2.2.2.1,v.2.2.2.2.2.2.2.2.2.2.2.2.2.2.1,v.2.2.2.2.2.2.2.2.2.2.2.2.2.2.2.1,v.2.2.2.2.2.2.2.2.2.2.2.2.2.2.2.2.1,v.2.2.2.2.2.2.2.2.2.2.2.2.2.2.2.2.2.1,v.2.2.2.2.2.2.2.2.2.2.2.2.2.2.2.2.2.2.1,v.2.2.2.2.2.2.2.2.2.2.2.2.2.2.2.2.2.2.2)))))
def FG (rec:RW->Int->Int->Option (BA)) (n:Nat) (x0:RW) (x1 x2:Int):Tr (BA):=(.ask (decide (0<=x1/\x1<x0.length)) (.opt (x0[(x1).toNat]?) λa=>(.ask (decide (a.length=14)) (.opt (zI .i64 a 0) λd=>(.opt (zI .i64 a 1) λm=>(.opt (zI .i64 a 2) λo=>(.opt (zI .i64 a 3) λa3=>(.opt (z8 a 4) λq=>(.opt (zI .i64 a 5) λt=>(.opt (zI .i64 a 6) λu=>(.opt (bW a 7) λw=>(.opt (bW a 8) λz=>(.opt (zI .i64 a 9) λa4=>(.opt (zI .i64 a 10) λa5=>(.opt (bW a 11) λa6=>(.opt (bW a 12) λa7=>(.opt (cW a 13) λb=>(.ask ((d==(1:Int))) (.ask ((o==(2:Int))) (.opt (I2 n q (⟨#[34]⟩:BA) (⟨#[34,34]⟩:BA)) λa0=>(.ask (decide ((⟨#[34]⟩:BA).size+a0.size<=9223372036854775807)) (.ask (decide (((⟨#[34]⟩:BA)++a0).size+(⟨#[34]⟩:BA).size<=9223372036854775807)) (.done (((⟨#[34]⟩:BA)++a0)++(⟨#[34]⟩:BA))) .fail) .fail)) (.opt (Ea n o a3 q) λb3=>(.done b3))) (.ask ((d==(2:Int))) (.opt (Fe n t u w z) λb4=>(.done b4)) (.ask ((d==(3:Int))) (.opt (Fe n t u w z) λa1=>(.ask (decide (a1.size+(⟨#[58]⟩:BA).size<=9223372036854775807)) (.opt (Fe n a4 a5 a6 a7) λa8=>(.ask (decide ((a1++(⟨#[58]⟩:BA)).size+a8.size<=9223372036854775807)) (.done ((a1++(⟨#[58]⟩:BA))++a8)) .fail)) .fail)) (.ask ((d==(4:Int))) (.ask (decide (0<=(0:Int)/\(0:Int)<b.length)) (.opt (b[((0:Int)).toNat]?) λa9=>(.ask (decide (a9.length=1)) (.opt (zI .i64 a9 0) λb5=>(.opt (rec x0 b5 (5:Int)) λb0=>(.ask (decide ((⟨#[45]⟩:BA).size+b0.size<=9223372036854775807)) (.done ((⟨#[45]⟩:BA)++b0)) .fail))) .fail)) .fail) (.ask ((d==(5:Int))) (.opt (JI n m) λa2=>(.ask (decide (0<=(0:Int)/\(0:Int)<b.length)) (.opt (b[((0:Int)).toNat]?) λb1=>(.ask (decide (b1.length=1)) (.opt (zI .i64 b1 0) λb6=>(.ask (decide (0<=(1:Int)/\(1:Int)<b.length)) (.opt (b[((1:Int)).toNat]?) λb2=>(.ask (decide (b2.length=1)) (.opt (zI .i64 b2 0) λb7=>(.opt (rec x0 b6 a2) λf=>(.opt (F4 n m) λg=>(.ask (decide (f.size+g.size<=9223372036854775807)) (.opt (rec x0 b7 (IntKind.i64.wrap (a2+(1:Int)))) λh=>(.ask (decide ((f++g).size+h.size<=9223372036854775807)) (.ask ((decide (a2<x2))) (.ask (decide ((⟨#[40]⟩:BA).size+((f++g)++h).size<=9223372036854775807)) (.ask (decide (((⟨#[40]⟩:BA)++((f++g)++h)).size+(⟨#[41]⟩:BA).size<=9223372036854775807)) (.done (((⟨#[40]⟩:BA)++((f++g)++h))++(⟨#[41]⟩:BA))) .fail) .fail) (.done ((f++g)++h))) .fail)) .fail)))) .fail)) .fail)) .fail)) .fail)) (.opt (zF (GC rec n) n (x0,(0:Nat),b,(b.length:Int),(0:Int),d,m,o,a3,q,t,u,w,z,a4,a5,a6,a7,b,([]:RW))) λj=>(.opt (G5 n j.2.2.1) λk=>(.ask (decide (k.size+(⟨#[40]⟩:BA).size<=9223372036854775807)) (.ask (decide (j.1=j.2.2.2.2.2.2.2.2.2.2.2.2.2.2.2.length)) (.opt (Ms n j.2.2.2.2.2.2.2.2.2.2.2.2.2.2.2 (⟨#[44]⟩:BA)) λl=>(.ask (cI (⟨(.c (.p (.s l))),[],[]⟩:Res)) (.ask (decide ((k++(⟨#[40]⟩:BA)).size+l.size<=9223372036854775807)) (.ask (decide (((k++(⟨#[40]⟩:BA))++l).size+(⟨#[41]⟩:BA).size<=9223372036854775807)) (.done (((k++(⟨#[40]⟩:BA))++l)++(⟨#[41]⟩:BA))) .fail) .fail) .fail)) .fail) .fail)))))))))))))))))))))) .fail)) .fail)
def qt:Nat->RW->Int->Int->Option (BA)
 |0,_,_,_=>none
 |n+1,x0,x1,x2=>(FG (qt n) n x0 x1 x2).run
abbrev Mt (n:Nat) (ih:Ok (Rn n) J3 (qt n)):List (Ent (Rn n)):= [en (Pw n),en (NN n),en (Kc n),en ih,en (Rq n),en (QQ n),en (QP n),en (Vr n)]
def O7 (n:Nat) (ih:Ok (Rn n) J3 (qt n)):LEnt (KB 233) (Rn n) n:=lok (zd 233) 125 ⟨⟨[(0,aL),(7,(.c (.ptr 0 448 0 0 0))),(10,(.c (.own 0 5760 0 0))),(92,aL),(93,aI),(94,aI)],li,[]⟩,[(.exit 1,⟨[(7,(.c (.ptr 0 448 0 0 0))),(10,(.c (.own 0 5760 0 0)))],li,[]⟩)]⟩ (GC (qt n) n) (Mt n ih) [] λ_=>by kernel_rfl
theorem JZ:∀n,Ok (Rn n) J3 (qt n)
 |0=>ok0 λ_=>rfl
 |n+1=>stO (T:=FG (qt n) n) (by kernel_rfl) (Mt n (JZ n)) [O7 n (JZ n)] (λ_=>by kernel_rfl) λ_=>by kernel_rfl
def SU:Sg:=⟨173,[aL],[],⟨aS,[],[]⟩⟩
def IW (n:Nat) (x0:RW):Tr (BA):=(.opt (GT n x0) λb=>(.ask ((!b)) (.done (⟨#[]⟩:BA)) (.opt (qt n x0 (IntKind.i64.wrap ((x0.length:Int)-(1:Int))) (1:Int)) λa=>(.ask ((decide ((a.size:Int)>(200:Int)))) (.done (⟨#[]⟩:BA)) (.done a)))))
def GU:Nat->RW->Option (BA)
 |0,_=>none
 |n+1,x0=>(IW n x0).run
abbrev SV (n:Nat):List (Ent (Rn n)):= [en (NP n),en (JZ n)]
theorem RR:∀n,Ok (Rn n) SU (GU n)
 |0=>ok0 λ_=>rfl
 |n+1=>stO (T:=IW n) (by kernel_rfl) (SV n) [] (λ_=>by kernel_rfl) λ_=>by kernel_rfl
def Vt:Sg:=⟨101,[aL],[],⟨(.tup [(false,[qS]),(false,[qB])]),[],[]⟩⟩
def Pd (n:Nat) (x0:RW):Tr (BA×Bool):=(.opt (GU n x0) λa=>(.ask (decide ((⟨#[61]⟩:BA).size+a.size<=9223372036854775807)) (.ask ((!(a.toList==(⟨#[]⟩:BA).toList))) (.done (((⟨#[61]⟩:BA)++a),(decide ((a.size:Int)<(200:Int))))) (.done (((⟨#[61]⟩:BA)++a),false))) .fail))
def Ls:Nat->RW->Option (BA×Bool)
 |0,_=>none
 |n+1,x0=>(Pd n x0).run
abbrev Vu (n:Nat):List (Ent (Rn n)):= [en (RR n)]
theorem Uh:∀n,Ok (Rn n) Vt (Ls n)
 |0=>ok0 λ_=>rfl
 |n+1=>stO (T:=Pd n) (by kernel_rfl) (Vu n) [] (λ_=>by kernel_rfl) λ_=>by kernel_rfl
def KG:Sg:=⟨239,[aS,aS],[],⟨aS,[],[]⟩⟩
def HR (n:Nat) (x0 x1:BA):Tr (BA):=(.opt (EQ n x0 x1) λa=>(.ask (a) (.ask (decide (0<=(x1.size:Int)/\(x1.size:Int)<=(x0.size:Int)/\(x0.size:Int)<=x0.size)) (.done (x0.extract ((x1.size:Int)).toNat ((x0.size:Int)).toNat)) .fail) (.done x0)))
def F2:Nat->BA->BA->Option (BA)
 |0,_,_=>none
 |n+1,x0,x1=>(HR n x0 x1).run
abbrev KH (n:Nat):List (Ent (Rn n)):= [en (HQ n)]
theorem J4:∀n,Ok (Rn n) KG (F2 n)
 |0=>ok0 λ_=>rfl
 |n+1=>stO (T:=HR n) (by kernel_rfl) (KH n) [] (λ_=>by kernel_rfl) λ_=>by kernel_rfl
def QU:Sg:=⟨176,[aS,aS],[],⟨aS,[],[]⟩⟩
def Ld (n:Nat) (x0 x1:BA):Tr (BA):=(.opt (F2 n x0 x1) λa=>(.done a))
def I3:Nat->BA->BA->Option (BA)
 |0,_,_=>none
 |n+1,x0,x1=>(Ld n x0 x1).run
abbrev QV (n:Nat):List (Ent (Rn n)):= [en (J4 n)]
theorem Px:∀n,Ok (Rn n) QU (I3 n)
 |0=>ok0 λ_=>rfl
 |n+1=>stO (T:=Ld n) (by kernel_rfl) (QV n) [] (λ_=>by kernel_rfl) λ_=>by kernel_rfl
def QW:Sg:=⟨177,[aS,aS],[],⟨aS,[],[]⟩⟩
def Mu:Nat->BA->BA->Option ((BA))
 |0,_,_=>none
 |n+1,x0,x1=>cC x0 x1
theorem Vv:∀n,Ok (Rn n) QW (Mu n)
 |0=>ok0 λ_=>rfl
 |n+1=>stL cY (by kernel_rfl) (λ_ _=>rfl) (λa r e=>congrArg (Option.map λr=>(QW.Of r).v) e) rfl rfl rfl
def Vw:Sg:=⟨103,[aS],[],⟨aB,[],[]⟩⟩
def Pe (n:Nat) (x0:BA):Tr (Bool):=(.opt (I3 n x0 (⟨#[45]⟩:BA)) λa=>(.ask ((!(a.toList==(⟨#[]⟩:BA).toList))) (.opt (Mu n a (⟨#[48,49,50,51,52,53,54,55,56,57]⟩:BA)) λb=>(.done (b.toList==(⟨#[]⟩:BA).toList))) (.done false)))
def Lt:Nat->BA->Option (Bool)
 |0,_=>none
 |n+1,x0=>(Pe n x0).run
abbrev Vx (n:Nat):List (Ent (Rn n)):= [en (Px n),en (Vv n)]
theorem Ui:∀n,Ok (Rn n) Vw (Lt n)
 |0=>ok0 λ_=>rfl
 |n+1=>stO (T:=Pe n) (by kernel_rfl) (Vx n) [] (λ_=>by kernel_rfl) λ_=>by kernel_rfl
def Wm:Sg:=⟨37,[aS],[],⟨(.tup [(false,[qS]),(false,[qB])]),[],[]⟩⟩
def Ip (n:Nat) (x0:BA):Tr (BA×Bool):=(.opt (EG n x0) λa=>(.ask (a.2.2.2) (.done (x0,true)) (.ask (((x0.size:Int)==(200:Int))) (.done ((⟨#[]⟩:BA),false)) (.ask (decide ((⟨#[39]⟩:BA).size+x0.size<=9223372036854775807)) (.done (((⟨#[39]⟩:BA)++x0),true)) .fail))))
def NQ (n:Nat) (x0:BA) (b:(Int)):Tr (BA×Bool):=(.opt (Lt n x0) λc=>(.ask (c) (.opt (Ih n b) λa=>(.opt (Fp n a.1 a.2.1 a.2.2) λd=>(.ask (d) (.opt (FH n b) λf=>(.done (f,true))) (Ip n x0)))) (Ip n x0)))
def QX (n:Nat) (x0:BA):Tr (BA×Bool):=(.opt (Ht n x0 (200:Int)) λd=>(.ask ((!d)) (.done ((⟨#[]⟩:BA),(x0.toList==(⟨#[]⟩:BA).toList))) (.ask ((x0.toList==(⟨#[]⟩:BA).toList)) (.done ((⟨#[]⟩:BA),(x0.toList==(⟨#[]⟩:BA).toList))) (.opt (EX n x0 (⟨#[61]⟩:BA)) λa=>(.ask (a.2) (.opt (J2 n a.1) λb=>(.opt (Ls n b.1) λc=>(.ask ((!b.2)) (.done ((⟨#[]⟩:BA),false)) (.ask ((!c.2)) (.done ((⟨#[]⟩:BA),false)) (.done (c.1,true)))))) (.opt (Et n x0 (10:Int) (64:Int)) λf=>(.alt f (λg=>(.ask (true) (NQ n x0 g) (Ip n x0))) (λh=>(.ask (false) (NQ n x0 h) (Ip n x0))))))))))
def Mv:Nat->BA->Option (BA×Bool)
 |0,_=>none
 |n+1,x0=>(QX n x0).run
abbrev Wn (n:Nat):List (Ent (Rn n)):= [en (Me n),en (He n),en (RQ n),en (Uh n),en2 (H1 n),en (Ui n),en (QN n),en (Lr n),en (Jr n),en (NO n)]
theorem Vy:∀n,Ok (Rn n) Wm (Mv n)
 |0=>ok0 λ_=>rfl
 |n+1=>stO (T:=QX n) (by kernel_rfl) (Wn n) [] (λ_=>by kernel_rfl) λ_=>by kernel_rfl
def Vz:Sg:=⟨109,[aS],[],⟨aB,[],[]⟩⟩
def Pf (n:Nat) (x0:BA):Tr (Bool):=(.opt (Mv n x0) λa=>(.ask (a.2) (.ask ((!(x0.toList==(⟨#[]⟩:BA).toList))) (.done (a.1.toList==x0.toList)) (.done false)) (.done false)))
def Ic:Nat->BA->Option (Bool)
 |0,_=>none
 |n+1,x0=>(Pf n x0).run
abbrev V0 (n:Nat):List (Ent (Rn n)):= [en (Vy n)]
theorem OP:∀n,Ok (Rn n) Vz (Ic n)
 |0=>ok0 λ_=>rfl
 |n+1=>stO (T:=Pf n) (by kernel_rfl) (V0 n) [] (λ_=>by kernel_rfl) λ_=>by kernel_rfl
def Uj:Sg:=⟨141,[aS],[],⟨aB,[],[]⟩⟩
def K9 (n:Nat) (x0:BA):Tr (Bool):=(.ask (decide ((⟨#[61]⟩:BA).size+x0.size<=9223372036854775807)) (.opt (Ic n ((⟨#[61]⟩:BA)++x0)) λa=>(.done a)) .fail)
def IH:Nat->BA->Option (Bool)
 |0,_=>none
 |n+1,x0=>(K9 n x0).run
abbrev Uk (n:Nat):List (Ent (Rn n)):= [en (OP n)]
theorem TJ:∀n,Ok (Rn n) Uj (IH n)
 |0=>ok0 λ_=>rfl
 |n+1=>stO (T:=K9 n) (by kernel_rfl) (Uk n) [] (λ_=>by kernel_rfl) λ_=>by kernel_rfl
def SX:Sg:=⟨64,[(.agg [qI,qI,qI,qS,qI]),aI,aI],[],⟨aB,[],[]⟩⟩
def Kx (n:Nat) (x1 x2:Int) (x3:BA) (x4 x6:Int):Tr (Bool):=(.ask (((x1==(0:Int))&&((x2==(0:Int))&&true))) (.opt (IH n x3) λa=>(.ask (a) (.opt (Eh n x4 (1:Int) x6) λb=>(.done b)) (.done false))) (.done false))
def J5 (n:Nat) (x0 x1 x2:Int) (x3:BA) (x4 x5 x6:Int):Tr (Bool):=(.ask ((x0==(1:Int))) (.opt (Gc n x1 x2) λa=>(.ask (a) (.opt (IH n x3) λb=>(.ask (b) (.done (x4==(0:Int))) (.done false))) (.done false))) (.ask ((x0==(2:Int))) (.opt (Gc n x1 x2) λc=>(.ask (c) (.ask ((x3.toList==(⟨#[]⟩:BA).toList)) (.done (x4==(0:Int))) (.opt (Ic n x3) λd=>(.ask (d) (.done (x4==(0:Int))) (.done false)))) (.done false))) (.ask ((x0==(3:Int))) (Kx n x1 x2 x3 x4 x6) (.ask ((x0==(4:Int))) (Kx n x1 x2 x3 x4 x5) (.ask ((x0==(5:Int))) (.ask (((x1==(0:Int))&&((x2==(0:Int))&&true))) (.opt (IH n x3) λf=>(.ask (f) (.done (x4==(0:Int))) (.done false))) (.done false)) (.done false))))))
def IX:Nat->Int->Int->Int->BA->Int->Int->Int->Option (Bool)
 |0,_,_,_,_,_,_,_=>none
 |n+1,x0,x1,x2,x3,x4,x5,x6=>(J5 n x0 x1 x2 x3 x4 x5 x6).run
abbrev SY (n:Nat):List (Ent (Rn n)):= [en (LU n),en (TJ n),en (OP n),en (ID n)]
theorem RS:∀n,Ok (Rn n) SX (IX n)
 |0=>ok0 λ_=>rfl
 |n+1=>stO (T:=J5 n) (by kernel_rfl) (SY n) [] (λ_=>by kernel_rfl) λ_=>by kernel_rfl
def Wo:Sg:=⟨15,[aL],[],⟨aB,[],[]⟩⟩
def Kg (n:Nat) (v:RW×RW×Int×Int):Tr ((RW×RW×Int×Int)⊕((Bool)⊕(RW))):=(.ask ((decide (v.2.2.2<v.2.2.1))) (.ask (decide (0<=v.2.2.2/\v.2.2.2<v.2.1.length)) (.opt (v.2.1[(v.2.2.2).toNat]?) λa=>(.ask (decide (a.length=5)) (.opt (zI .i64 a 0) λb=>(.opt (zI .i64 a 1) λc=>(.opt (zI .i64 a 2) λd=>(.opt (z8 a 3) λf=>(.opt (zI .i64 a 4) λg=>(.opt (IX n b c d f g v.2.2.2 (IntKind.i64.wrap ((IntKind.i64.wrap ((v.1.length:Int)-(1:Int)))-v.2.2.2))) λh=>(.ask ((!h)) (.done (.inr (.inl (false)))) (.done (.inl (v.1,v.2.1,v.2.2.1,(IntKind.i64.wrap (v.2.2.2+(1:Int))))))))))))) .fail)) .fail) (.done (.inr (.inr (v.1)))))
def QY (n:Nat) (x0:RW):Tr (Bool):=(.opt (zF (Kg n) n (x0,x0,(x0.length:Int),(0:Int))) λa=>(.alt a (λb=>(.done b)) (λc=>(.done (decide ((c.length:Int)<=(30:Int)))))))
def II:Nat->RW->Option (Bool)
 |0,_=>none
 |n+1,x0=>(QY n x0).run
abbrev QZ (n:Nat):List (Ent (Rn n)):= [en (RS n)]
def TK (n:Nat):LEnt (KB 15) (Rn n) n:=lok (zd 15) 13 ⟨⟨[(0,aL),(5,aL),(6,aI),(7,aI)],[],[]⟩,[(.ret,⟨[(2,aB)],[],[]⟩),(.exit 0,⟨[(0,aL)],[],[]⟩)]⟩ (Kg n) (QZ n) [] λ_=>by kernel_rfl
theorem Lu:∀n,Ok (Rn n) Wo (II n)
 |0=>ok0 λ_=>rfl
 |n+1=>stO (T:=QY n) (by kernel_rfl) (QZ n) [TK n] (λ_=>by kernel_rfl) λ_=>by kernel_rfl
def V1:Sg:=⟨59,[aI],[],⟨aS,[],[]⟩⟩
def Pg (n:Nat) (x0:Int):Tr (BA):=(.ask (decide (6=([[(.s (⟨#[]⟩:BA))],[(.s (⟨#[115,101,116]⟩:BA))],[(.s (⟨#[112,117,116]⟩:BA))],[(.s (⟨#[117,110,108,101,115,115]⟩:BA))],[(.s (⟨#[119,104,105,108,101]⟩:BA))],[(.s (⟨#[97,98,111,114,116]⟩:BA))]]:RW).length/\0<=x0/\x0<((6:Nat):Int))) (.opt (([[(.s (⟨#[]⟩:BA))],[(.s (⟨#[115,101,116]⟩:BA))],[(.s (⟨#[112,117,116]⟩:BA))],[(.s (⟨#[117,110,108,101,115,115]⟩:BA))],[(.s (⟨#[119,104,105,108,101]⟩:BA))],[(.s (⟨#[97,98,111,114,116]⟩:BA))]]:RW)[(x0).toNat]?) λa=>(.opt (z8 a 0) λb=>(.done b))) .fail)
def Js:Nat->Int->Option (BA)
 |0,_=>none
 |n+1,x0=>(Pg n x0).run
theorem OQ:∀n,Ok (Rn n) V1 (Js n)
 |0=>ok0 λ_=>rfl
 |n+1=>stO (T:=Pg n) (by kernel_rfl) [] [] (λ_=>by kernel_rfl) λ_=>by kernel_rfl
def Ee:Sg:=⟨134,[(.c (.ptr 0 0 0 0 0)),aS],[ll],⟨(.tup [(false,[qI]),(false,[(.p .nif)])]),[[(0,⟨0,2,179,(.box [(.ptr 0 0 0 0 1000003),(.own 0 1 2 0)])⟩),(1,⟨2,1,5,(.row [])⟩)]],[]⟩⟩
def qn:Nat->BA->Nat->RW->Option ((Int×Nat×RW))
 |0,_,_,_=>none
 |n+1,x0,x1,x2=>zY x0 x1 x2
theorem LA:∀n,Ok (Rn n) Ee (qn n)
 |0=>ok0 λ_=>rfl
 |n+1=>stN (by kernel_rfl) λa r e=>(show lib 134 (Ee.Af a) (Ee.Uf a)=Option.map (λr=>Ee.Of r) (unc Ee.ks (qn (n+1)) a) from (by kernel_rfl)).trans (congrArg (Option.map λr=>Ee.Of r) e)
def Wp:Sg:=⟨135,[(.agg [qI,qI])],[],⟨aS,[],[]⟩⟩
def Mw (n:Nat) (x0 x1:Int):Tr (BA):=(.opt (Fe n x0 x1 false false) λa=>(.done a))
def I4:Nat->Int->Int->Option (BA)
 |0,_,_=>none
 |n+1,x0,x1=>(Mw n x0 x1).run
abbrev Wq (n:Nat):List (Ent (Rn n)):= [en (Kc n)]
theorem V2:∀n,Ok (Rn n) Wp (I4 n)
 |0=>ok0 λ_=>rfl
 |n+1=>stO (T:=Mw n) (by kernel_rfl) (Wq n) [] (λ_=>by kernel_rfl) λ_=>by kernel_rfl
def FM:Sg:=⟨136,[(.c (.ptr 0 0 0 0 0))],[ll],⟨aS,[[(0,⟨0,2,179,(.box [(.p .op),(.p .op)])⟩),(1,⟨2,1,5,(.row [])⟩)]],[]⟩⟩
def Gf:Nat->Nat->RW->Option ((BA×RW))
 |0,_,_=>none
 |n+1,x0,x1=>zk x0 x1
theorem NC:∀n,Ok (Rn n) FM (Gf n)
 |0=>ok0 λ_=>rfl
 |n+1=>stN (by kernel_rfl) λa r e=>(show lib 136 (FM.Af a) (FM.Uf a)=Option.map (λr=>FM.Of r) (unc FM.ks (Gf (n+1)) a) from (by kernel_rfl)).trans (congrArg (Option.map λr=>FM.Of r) e)
def Ul:Sg:=⟨56,[aL],[],⟨aS,[],[]⟩⟩
def Ja (n:Nat) (v:RW×Int×Int×Nat×RW):Tr ((RW×Int×Int×Nat×RW)⊕((Nat×RW))):=(.ask ((decide (v.2.2.1<v.2.1))) (.ask (decide (0<=v.2.2.1/\v.2.2.1<v.1.length)) (.opt (v.1[(v.2.2.1).toNat]?) λc=>(.ask (decide (c.length=5)) (.opt (zI .i64 c 0) λd=>(.opt (zI .i64 c 1) λf=>(.opt (zI .i64 c 2) λg=>(.opt (z8 c 3) λa=>(.opt (zI .i64 c 4) λh=>(.opt (Js n d) λj=>(.ask (decide (j.size+(⟨#[32]⟩:BA).size<=9223372036854775807)) (.opt (qn n (j++(⟨#[32]⟩:BA)) v.2.2.2.1 v.2.2.2.2) λb=>(.ask ((d==(1:Int))) (.opt (I4 n f g) λk=>(.ask (decide (k.size+(⟨#[32]⟩:BA).size<=9223372036854775807)) (.opt (qn n (k++(⟨#[32]⟩:BA)) b.2.1 b.2.2) λl=>(.ask (decide (a.size+(⟨#[10]⟩:BA).size<=9223372036854775807)) (.opt (qn n (a++(⟨#[10]⟩:BA)) l.2.1 l.2.2) λm=>(.done (.inl (v.1,v.2.1,(IntKind.i64.wrap (v.2.2.1+(1:Int))),m.2.1,m.2.2)))) .fail)) .fail)) (.ask ((d==(2:Int))) (.opt (I4 n f g) λo=>(.ask (decide (o.size+(⟨#[32]⟩:BA).size<=9223372036854775807)) (.opt (qn n (o++(⟨#[32]⟩:BA)) b.2.1 b.2.2) λp=>(.ask (decide (a.size+(⟨#[10]⟩:BA).size<=9223372036854775807)) (.opt (qn n (a++(⟨#[10]⟩:BA)) p.2.1 p.2.2) λq=>(.done (.inl (v.1,v.2.1,(IntKind.i64.wrap (v.2.2.1+(1:Int))),q.2.1,q.2.2)))) .fail)) .fail)) (.ask ((d==(3:Int))) (.opt (FH n h) λs=>(.ask (decide (s.size+(⟨#[32]⟩:BA).size<=9223372036854775807)) (.opt (qn n (s++(⟨#[32]⟩:BA)) b.2.1 b.2.2) λt=>(.ask (decide (a.size+(⟨#[10]⟩:BA).size<=9223372036854775807)) (.opt (qn n (a++(⟨#[10]⟩:BA)) t.2.1 t.2.2) λu=>(.done (.inl (v.1,v.2.1,(IntKind.i64.wrap (v.2.2.1+(1:Int))),u.2.1,u.2.2)))) .fail)) .fail)) (.ask ((d==(4:Int))) (.opt (FH n h) λw=>(.ask (decide (w.size+(⟨#[32]⟩:BA).size<=9223372036854775807)) (.opt (qn n (w++(⟨#[32]⟩:BA)) b.2.1 b.2.2) λz=>(.ask (decide (a.size+(⟨#[10]⟩:BA).size<=9223372036854775807)) (.opt (qn n (a++(⟨#[10]⟩:BA)) z.2.1 z.2.2) λa0=>(.done (.inl (v.1,v.2.1,(IntKind.i64.wrap (v.2.2.1+(1:Int))),a0.2.1,a0.2.2)))) .fail)) .fail)) (.ask (decide (a.size+(⟨#[10]⟩:BA).size<=9223372036854775807)) (.opt (qn n (a++(⟨#[10]⟩:BA)) b.2.1 b.2.2) λa1=>(.done (.inl (v.1,v.2.1,(IntKind.i64.wrap (v.2.2.1+(1:Int))),a1.2.1,a1.2.2)))) .fail)))))) .fail))))))) .fail)) .fail) (.done (.inr ((v.2.2.2.1,v.2.2.2.2)))))
def OR (n:Nat) (x0:RW):Tr (BA):=(.opt (zF (Ja n) n (x0,(x0.length:Int),(0:Int),(0:Nat),([]:RW))) λa=>(.opt (Gf n a.1 a.2) λb=>(.done b.1)))
def JJ:Nat->RW->Option (BA)
 |0,_=>none
 |n+1,x0=>(OR n x0).run
abbrev OS (n:Nat):List (Ent (Rn n)):= [en (OQ n),en (LA n),en (V2 n),en (Jr n),en (NC n)]
def RU (n:Nat):LEnt (KB 56) (Rn n) n:=lok (zd 56) 29 ⟨⟨[(3,(.c (.ptr 0 192 0 0 0))),(7,aL),(8,aI),(9,aI)],lj,[]⟩,[(.exit 0,⟨[(3,(.c (.ptr 0 192 0 0 0)))],lj,[]⟩)]⟩ (Ja n) (OS n) [] λ_=>by kernel_rfl
theorem NR:∀n,Ok (Rn n) Ul (JJ n)
 |0=>ok0 λ_=>rfl
 |n+1=>stO (T:=OR n) (by kernel_rfl) (OS n) [RU n] (λ_=>by kernel_rfl) λ_=>by kernel_rfl
def Um:Sg:=⟨12,[aL],[],⟨aS,[],[]⟩⟩
def LB (n:Nat) (x0:RW):Tr (BA):=(.opt (II n x0) λa=>(.ask ((!a)) (.done (⟨#[]⟩:BA)) (.opt (JJ n x0) λb=>(.done b))))
def IJ:Nat->RW->Option (BA)
 |0,_=>none
 |n+1,x0=>(LB n x0).run
abbrev Un (n:Nat):List (Ent (Rn n)):= [en (Lu n),en (NR n)]
theorem TL:∀n,Ok (Rn n) Um (IJ n)
 |0=>ok0 λ_=>rfl
 |n+1=>stO (T:=LB n) (by kernel_rfl) (Un n) [] (λ_=>by kernel_rfl) λ_=>by kernel_rfl
def OT:Sg:=⟨57,[aS,aS,aI],[],⟨aL,[],[]⟩⟩
def LC:Nat->BA->BA->Int->Option ((RW))
 |0,_,_,_=>none
 |n+1,x0,x1,x2=>bL x0 x1 x2
theorem TM:∀n,Ok (Rn n) OT (LC n)
 |0=>ok0 λ_=>rfl
 |n+1=>stL cH (by kernel_rfl) (λ_ _=>rfl) (λa r e=>congrArg (Option.map λr=>(OT.Of r).v) e) rfl rfl rfl
def Wr:Sg:=⟨60,[aS],[],⟨(.agg [qI,qI]),[],[]⟩⟩
def Mx (n:Nat) (x0:BA):Tr (Int×Int):=(.opt (Em n x0) λa=>(.done (a.1,a.2.1)))
def I5:Nat->BA->Option (Int×Int)
 |0,_=>none
 |n+1,x0=>(Mx n x0).run
abbrev Wt (n:Nat):List (Ent (Rn n)):= [en (Kd n)]
theorem V4:∀n,Ok (Rn n) Wr (I5 n)
 |0=>ok0 λ_=>rfl
 |n+1=>stO (T:=Mx n) (by kernel_rfl) (Wt n) [] (λ_=>by kernel_rfl) λ_=>by kernel_rfl
def TN:Sg:=⟨61,[aS],[],⟨aI,[],[]⟩⟩
def Kh (n:Nat) (x0:BA):Tr (Int):=(.opt (Et n x0 (10:Int) (64:Int)) λa=>(.alt a (λb=>(.ask (false) (.done (0:Int)) (.done b))) (λc=>(.ask (true) (.done (0:Int)) (.done c)))))
def Hj:Nat->BA->Option (Int)
 |0,_=>none
 |n+1,x0=>(Kh n x0).run
abbrev TO (n:Nat):List (Ent (Rn n)):= [en2 (H1 n)]
theorem SZ:∀n,Ok (Rn n) TN (Hj n)
 |0=>ok0 λ_=>rfl
 |n+1=>stO (T:=Kh n) (by kernel_rfl) (TO n) [] (λ_=>by kernel_rfl) λ_=>by kernel_rfl
def Uo:Sg:=⟨13,[aS],[],⟨(.tup [(false,[qL]),(false,[qB])]),[],[]⟩⟩
def HP (n:Nat) (v:BA×Nat×BA×BA×Int×RW×Int×Int×RW×Int×Int×Int×BA×Int):Tr ((BA×Nat×BA×BA×Int×RW×Int×Int×RW×Int×Int×Int×BA×Int)⊕((BA×Nat×BA×RW×Int×Int×RW×Int×Int×Int×BA×Int))):=(.ask ((decide (v.2.2.2.2.1<=(5:Int)))) (.opt (Js n v.2.2.2.2.1) λa=>(.ask ((v.2.2.1.toList==a.toList)) (.done (.inl (v.1,v.2.1,v.2.2.1,v.2.2.2.1,(IntKind.i64.wrap (v.2.2.2.2.1+(1:Int))),v.2.2.2.2.2.1,v.2.2.2.2.2.2.1,v.2.2.2.2.2.2.2.1,v.2.2.2.2.2.2.2.2.1,v.2.2.2.2.1,v.2.2.2.2.2.2.2.2.2.2.1,v.2.2.2.2.2.2.2.2.2.2.2.1,v.2.2.2.2.2.2.2.2.2.2.2.2.1,v.2.2.2.2.2.2.2.2.2.2.2.2.2))) (.done (.inl (v.1,v.2.1,v.2.2.1,v.2.2.2.1,(IntKind.i64.wrap (v.2.2.2.2.1+(1:Int))),v.2.2.2.2.2.1,v.2.2.2.2.2.2.1,v.2.2.2.2.2.2.2.1,v.2.2.2.2.2.2.2.2.1,v.2.2.2.2.2.2.2.2.2.1,v.2.2.2.2.2.2.2.2.2.2.1,v.2.2.2.2.2.2.2.2.2.2.2.1,v.2.2.2.2.2.2.2.2.2.2.2.2.1,v.2.2.2.2.2.2.2.2.2.2.2.2.2))))) (.done (.inr ((v.1,v.2.1,v.2.2.2.1,v.2.2.2.2.2.1,v.2.2.2.2.2.2.1,v.2.2.2.2.2.2.2.1,v.2.2.2.2.2.2.2.2.1,v.2.2.2.2.2.2.2.2.2.1,v.2.2.2.2.2.2.2.2.2.2.1,v.2.2.2.2.2.2.2.2.2.2.2.1,v.2.2.2.2.2.2.2.2.2.2.2.2.1,v.2.2.2.2.2.2.2.2.2.2.2.2.2)))))
def H2 (n:Nat) (v:BA×Nat×RW×Int×Int×RW):Tr ((BA×Nat×RW×Int×Int×RW)⊕((BA×Nat×RW))):=(.ask ((decide (v.2.2.2.2.1<v.2.2.2.1))) (.ask (decide (0<=v.2.2.2.2.1/\v.2.2.2.2.1<v.2.2.1.length)) (.opt (v.2.2.1[(v.2.2.2.2.1).toNat]?) λj=>(.ask (decide (j.length=1)) (.opt (z8 j 0) λk=>(.opt (Ig n k (⟨#[32]⟩:BA)) λh=>(.opt (zF (HP n) n (v.1,v.2.1,h.1,h.2.1,(1:Int),v.2.2.1,v.2.2.2.1,v.2.2.2.2.1,v.2.2.2.2.2,(0:Int),(0:Int),(0:Int),h.2.1,(0:Int))) λa=>(.opt (Ig n a.2.2.1 (⟨#[32]⟩:BA)) λb=>(.ask ((a.2.2.2.2.2.2.2.1==(1:Int))) (.opt (I5 n b.1) λc=>(.ask (decide (1=([[(.i .i64 a.2.2.2.2.2.2.2.1),(.i .i64 c.1),(.i .i64 c.2),(.s b.2.1),(.i .i64 a.2.2.2.2.2.2.2.2.2.2.2)]]:RW).length)) (.ask (decide (a.2.1=a.2.2.2.2.2.2.1.length/\0<5/\0<48/\(a.2.1+([[(.i .i64 a.2.2.2.2.2.2.2.1),(.i .i64 c.1),(.i .i64 c.2),(.s b.2.1),(.i .i64 a.2.2.2.2.2.2.2.2.2.2.2)]]:RW).length)*48<=140737488355328/\([[(.i .i64 a.2.2.2.2.2.2.2.1),(.i .i64 c.1),(.i .i64 c.2),(.s b.2.1),(.i .i64 a.2.2.2.2.2.2.2.2.2.2.2)]]:RW).all (λe=>e.length==5)=true)) (.done (.inl (a.1,(a.2.1+1),a.2.2.2.1,a.2.2.2.2.1,(IntKind.i64.wrap (a.2.2.2.2.2.1+(1:Int))),(a.2.2.2.2.2.2.1++([[(.i .i64 a.2.2.2.2.2.2.2.1),(.i .i64 c.1),(.i .i64 c.2),(.s b.2.1),(.i .i64 a.2.2.2.2.2.2.2.2.2.2.2)]]:RW))))) .fail) .fail)) (.ask ((a.2.2.2.2.2.2.2.1==(2:Int))) (.opt (I5 n b.1) λd=>(.ask (decide (1=([[(.i .i64 a.2.2.2.2.2.2.2.1),(.i .i64 d.1),(.i .i64 d.2),(.s b.2.1),(.i .i64 a.2.2.2.2.2.2.2.2.2.2.2)]]:RW).length)) (.ask (decide (a.2.1=a.2.2.2.2.2.2.1.length/\0<5/\0<48/\(a.2.1+([[(.i .i64 a.2.2.2.2.2.2.2.1),(.i .i64 d.1),(.i .i64 d.2),(.s b.2.1),(.i .i64 a.2.2.2.2.2.2.2.2.2.2.2)]]:RW).length)*48<=140737488355328/\([[(.i .i64 a.2.2.2.2.2.2.2.1),(.i .i64 d.1),(.i .i64 d.2),(.s b.2.1),(.i .i64 a.2.2.2.2.2.2.2.2.2.2.2)]]:RW).all (λe=>e.length==5)=true)) (.done (.inl (a.1,(a.2.1+1),a.2.2.2.1,a.2.2.2.2.1,(IntKind.i64.wrap (a.2.2.2.2.2.1+(1:Int))),(a.2.2.2.2.2.2.1++([[(.i .i64 a.2.2.2.2.2.2.2.1),(.i .i64 d.1),(.i .i64 d.2),(.s b.2.1),(.i .i64 a.2.2.2.2.2.2.2.2.2.2.2)]]:RW))))) .fail) .fail)) (.ask ((a.2.2.2.2.2.2.2.1==(3:Int))) (.opt (Hj n b.1) λf=>(.ask (decide (1=([[(.i .i64 a.2.2.2.2.2.2.2.1),(.i .i64 a.2.2.2.2.2.2.2.2.1),(.i .i64 a.2.2.2.2.2.2.2.2.2.1),(.s b.2.1),(.i .i64 f)]]:RW).length)) (.ask (decide (a.2.1=a.2.2.2.2.2.2.1.length/\0<5/\0<48/\(a.2.1+([[(.i .i64 a.2.2.2.2.2.2.2.1),(.i .i64 a.2.2.2.2.2.2.2.2.1),(.i .i64 a.2.2.2.2.2.2.2.2.2.1),(.s b.2.1),(.i .i64 f)]]:RW).length)*48<=140737488355328/\([[(.i .i64 a.2.2.2.2.2.2.2.1),(.i .i64 a.2.2.2.2.2.2.2.2.1),(.i .i64 a.2.2.2.2.2.2.2.2.2.1),(.s b.2.1),(.i .i64 f)]]:RW).all (λe=>e.length==5)=true)) (.done (.inl (a.1,(a.2.1+1),a.2.2.2.1,a.2.2.2.2.1,(IntKind.i64.wrap (a.2.2.2.2.2.1+(1:Int))),(a.2.2.2.2.2.2.1++([[(.i .i64 a.2.2.2.2.2.2.2.1),(.i .i64 a.2.2.2.2.2.2.2.2.1),(.i .i64 a.2.2.2.2.2.2.2.2.2.1),(.s b.2.1),(.i .i64 f)]]:RW))))) .fail) .fail)) (.ask ((a.2.2.2.2.2.2.2.1==(4:Int))) (.opt (Hj n b.1) λg=>(.ask (decide (1=([[(.i .i64 a.2.2.2.2.2.2.2.1),(.i .i64 a.2.2.2.2.2.2.2.2.1),(.i .i64 a.2.2.2.2.2.2.2.2.2.1),(.s b.2.1),(.i .i64 g)]]:RW).length)) (.ask (decide (a.2.1=a.2.2.2.2.2.2.1.length/\0<5/\0<48/\(a.2.1+([[(.i .i64 a.2.2.2.2.2.2.2.1),(.i .i64 a.2.2.2.2.2.2.2.2.1),(.i .i64 a.2.2.2.2.2.2.2.2.2.1),(.s b.2.1),(.i .i64 g)]]:RW).length)*48<=140737488355328/\([[(.i .i64 a.2.2.2.2.2.2.2.1),(.i .i64 a.2.2.2.2.2.2.2.2.1),(.i .i64 a.2.2.2.2.2.2.2.2.2.1),(.s b.2.1),(.i .i64 g)]]:RW).all (λe=>e.length==5)=true)) (.done (.inl (a.1,(a.2.1+1),a.2.2.2.1,a.2.2.2.2.1,(IntKind.i64.wrap (a.2.2.2.2.2.1+(1:Int))),(a.2.2.2.2.2.2.1++([[(.i .i64 a.2.2.2.2.2.2.2.1),(.i .i64 a.2.2.2.2.2.2.2.2.1),(.i .i64 a.2.2.2.2.2.2.2.2.2.1),(.s b.2.1),(.i .i64 g)]]:RW))))) .fail) .fail)) (.ask (decide (1=([[(.i .i64 a.2.2.2.2.2.2.2.1),(.i .i64 a.2.2.2.2.2.2.2.2.1),(.i .i64 a.2.2.2.2.2.2.2.2.2.1),(.s a.2.2.2.2.2.2.2.2.2.2.1),(.i .i64 a.2.2.2.2.2.2.2.2.2.2.2)]]:RW).length)) (.ask (decide (a.2.1=a.2.2.2.2.2.2.1.length/\0<5/\0<48/\(a.2.1+([[(.i .i64 a.2.2.2.2.2.2.2.1),(.i .i64 a.2.2.2.2.2.2.2.2.1),(.i .i64 a.2.2.2.2.2.2.2.2.2.1),(.s a.2.2.2.2.2.2.2.2.2.2.1),(.i .i64 a.2.2.2.2.2.2.2.2.2.2.2)]]:RW).length)*48<=140737488355328/\([[(.i .i64 a.2.2.2.2.2.2.2.1),(.i .i64 a.2.2.2.2.2.2.2.2.1),(.i .i64 a.2.2.2.2.2.2.2.2.2.1),(.s a.2.2.2.2.2.2.2.2.2.2.1),(.i .i64 a.2.2.2.2.2.2.2.2.2.2.2)]]:RW).all (λe=>e.length==5)=true)) (.done (.inl (a.1,(a.2.1+1),a.2.2.2.1,a.2.2.2.2.1,(IntKind.i64.wrap (a.2.2.2.2.2.1+(1:Int))),(a.2.2.2.2.2.2.1++([[(.i .i64 a.2.2.2.2.2.2.2.1),(.i .i64 a.2.2.2.2.2.2.2.2.1),(.i .i64 a.2.2.2.2.2.2.2.2.2.1),(.s a.2.2.2.2.2.2.2.2.2.2.1),(.i .i64 a.2.2.2.2.2.2.2.2.2.2.2)]]:RW))))) .fail) .fail))))))))) .fail)) .fail) (.done (.inr ((v.1,v.2.1,v.2.2.2.2.2)))))
def LE (n:Nat) (x0:BA):Tr (RW×Bool):=(.opt (LC n x0 (⟨#[10]⟩:BA) (32:Int)) λd=>(.ask (decide (0<=(0:Int)/\(0:Int)<=(IntKind.i64.wrap ((d.length:Int)-(1:Int)))/\(IntKind.i64.wrap ((d.length:Int)-(1:Int)))<=d.length/\d.all (λe=>e.length==1)=true)) (.opt (zF (H2 n) n (x0,(0:Nat),((d.take ((IntKind.i64.wrap ((d.length:Int)-(1:Int)))).toNat).drop ((0:Int)).toNat),(((d.take ((IntKind.i64.wrap ((d.length:Int)-(1:Int)))).toNat).drop ((0:Int)).toNat).length:Int),(0:Int),([]:RW))) λa=>(.ask (decide (a.2.1=a.2.2.length)) (.opt (II n a.2.2) λf=>(.ask (cI (⟨(.c (.p (.b f))),[],[]⟩:Res)) (.ask ((!f)) (.ask (decide (0=([]:RW).length)) (.done (([]:RW),false)) .fail) (.ask (decide (a.2.1=a.2.2.length)) (.opt (JJ n a.2.2) λg=>(.ask (cI (⟨(.c (.p (.s g))),[],[]⟩:Res)) (.ask ((!(g.toList==a.1.toList))) (.ask (decide (0=([]:RW).length)) (.done (([]:RW),false)) .fail) (.ask (decide (a.2.1=a.2.2.length)) (.done (a.2.2,true)) .fail)) .fail)) .fail)) .fail)) .fail)) .fail))
def IK:Nat->BA->Option (RW×Bool)
 |0,_=>none
 |n+1,x0=>(LE n x0).run
abbrev LF (n:Nat):List (Ent (Rn n)):= [en (TM n),en (QK n),en (OQ n),en (V4 n),en (SZ n),en (Lu n),en (NR n)]
def Py (n:Nat):LEnt (lb 29 (KB 13)) (Rn n) n:=lok (Uniq.pick (zd 13) 29) 7645 ⟨⟨[(0,aS),(5,(.c (.own 0 1152 0 0))),(8,aS),(9,aS),(11,(.c (.ptr 0 704 0 0 0))),(12,aI),(23,aL),(24,aI),(25,aI)],lu,[]⟩,[(.exit 2,⟨[(0,aS),(5,(.c (.own 0 1152 0 0))),(9,aS),(11,(.c (.ptr 0 704 0 0 0))),(23,aL),(24,aI),(25,aI)],lu,[]⟩)]⟩ (HP n) (LF n) [] λ_=>by kernel_rfl
def RV (n:Nat):LEnt (KB 13) (Rn n) n:=lok (zd 13) 29 ⟨⟨[(0,aS),(5,(.c (.own 0 1152 0 0))),(23,aL),(24,aI),(25,aI)],cy,[]⟩,[(.exit 0,⟨[(0,aS),(5,(.c (.own 0 1152 0 0)))],cy,[]⟩)]⟩ (H2 n) (LF n) [Py n] λ_=>by kernel_rfl
theorem TP:∀n,Ok (Rn n) Uo (IK n)
 |0=>ok0 λ_=>rfl
 |n+1=>stO (T:=LE n) (by kernel_rfl) (LF n) [RV n] (λ_=>by kernel_rfl) λ_=>by kernel_rfl
def Up:Sg:=⟨14,[aL],[],⟨aS,[],[]⟩⟩
def Jb (n:Nat) (v:RW×BA×Int):Tr ((RW×BA×Int)⊕((BA))):=(.ask ((decide (v.2.2<(v.1.length:Int)))) (.ask (decide (0<=v.2.2/\v.2.2<v.1.length)) (.opt (v.1[(v.2.2).toNat]?) λc=>(.ask (decide (c.length=5)) (.opt (zI .i64 c 0) λd=>(.opt (zI .i64 c 1) λj=>(.opt (zI .i64 c 2) λk=>(.opt (z8 c 3) λa=>(.opt (zI .i64 c 4) λh=>(.opt (q9 n j k false false) λb=>(.ask ((d==(1:Int))) (.ask (decide (v.2.1.size+(⟨#[115,101,116,32]⟩:BA).size<=9223372036854775807)) (.ask (decide ((v.2.1++(⟨#[115,101,116,32]⟩:BA)).size+b.size<=9223372036854775807)) (.ask (decide (((v.2.1++(⟨#[115,101,116,32]⟩:BA))++b).size+(⟨#[32]⟩:BA).size<=9223372036854775807)) (.ask (decide ((((v.2.1++(⟨#[115,101,116,32]⟩:BA))++b)++(⟨#[32]⟩:BA)).size+a.size<=9223372036854775807)) (.ask (decide (((((v.2.1++(⟨#[115,101,116,32]⟩:BA))++b)++(⟨#[32]⟩:BA))++a).size+(⟨#[10]⟩:BA).size<=9223372036854775807)) (.done (.inl (v.1,(((((v.2.1++(⟨#[115,101,116,32]⟩:BA))++b)++(⟨#[32]⟩:BA))++a)++(⟨#[10]⟩:BA)),(IntKind.i64.wrap (v.2.2+(1:Int)))))) .fail) .fail) .fail) .fail) .fail) (.ask ((d==(2:Int))) (.ask (decide (v.2.1.size+(⟨#[112,117,116,32]⟩:BA).size<=9223372036854775807)) (.ask (decide ((v.2.1++(⟨#[112,117,116,32]⟩:BA)).size+b.size<=9223372036854775807)) (.ask (decide (((v.2.1++(⟨#[112,117,116,32]⟩:BA))++b).size+(⟨#[32]⟩:BA).size<=9223372036854775807)) (.ask (decide ((((v.2.1++(⟨#[112,117,116,32]⟩:BA))++b)++(⟨#[32]⟩:BA)).size+a.size<=9223372036854775807)) (.ask (decide (((((v.2.1++(⟨#[112,117,116,32]⟩:BA))++b)++(⟨#[32]⟩:BA))++a).size+(⟨#[10]⟩:BA).size<=9223372036854775807)) (.done (.inl (v.1,(((((v.2.1++(⟨#[112,117,116,32]⟩:BA))++b)++(⟨#[32]⟩:BA))++a)++(⟨#[10]⟩:BA)),(IntKind.i64.wrap (v.2.2+(1:Int)))))) .fail) .fail) .fail) .fail) .fail) (.ask ((d==(3:Int))) (.ask (decide (v.2.1.size+(⟨#[117,110,108,101,115,115,32]⟩:BA).size<=9223372036854775807)) (.opt (D3 n h) λf=>(.ask (decide ((v.2.1++(⟨#[117,110,108,101,115,115,32]⟩:BA)).size+f.size<=9223372036854775807)) (.ask (decide (((v.2.1++(⟨#[117,110,108,101,115,115,32]⟩:BA))++f).size+(⟨#[32]⟩:BA).size<=9223372036854775807)) (.ask (decide ((((v.2.1++(⟨#[117,110,108,101,115,115,32]⟩:BA))++f)++(⟨#[32]⟩:BA)).size+a.size<=9223372036854775807)) (.ask (decide (((((v.2.1++(⟨#[117,110,108,101,115,115,32]⟩:BA))++f)++(⟨#[32]⟩:BA))++a).size+(⟨#[10]⟩:BA).size<=9223372036854775807)) (.done (.inl (v.1,(((((v.2.1++(⟨#[117,110,108,101,115,115,32]⟩:BA))++f)++(⟨#[32]⟩:BA))++a)++(⟨#[10]⟩:BA)),(IntKind.i64.wrap (v.2.2+(1:Int)))))) .fail) .fail) .fail) .fail)) .fail) (.ask ((d==(4:Int))) (.ask (decide (v.2.1.size+(⟨#[119,104,105,108,101,32]⟩:BA).size<=9223372036854775807)) (.opt (D3 n h) λg=>(.ask (decide ((v.2.1++(⟨#[119,104,105,108,101,32]⟩:BA)).size+g.size<=9223372036854775807)) (.ask (decide (((v.2.1++(⟨#[119,104,105,108,101,32]⟩:BA))++g).size+(⟨#[32]⟩:BA).size<=9223372036854775807)) (.ask (decide ((((v.2.1++(⟨#[119,104,105,108,101,32]⟩:BA))++g)++(⟨#[32]⟩:BA)).size+a.size<=9223372036854775807)) (.ask (decide (((((v.2.1++(⟨#[119,104,105,108,101,32]⟩:BA))++g)++(⟨#[32]⟩:BA))++a).size+(⟨#[10]⟩:BA).size<=9223372036854775807)) (.done (.inl (v.1,(((((v.2.1++(⟨#[119,104,105,108,101,32]⟩:BA))++g)++(⟨#[32]⟩:BA))++a)++(⟨#[10]⟩:BA)),(IntKind.i64.wrap (v.2.2+(1:Int)))))) .fail) .fail) .fail) .fail)) .fail) (.ask ((d==(5:Int))) (.ask (decide (v.2.1.size+(⟨#[97,98,111,114,116,32]⟩:BA).size<=9223372036854775807)) (.ask (decide ((v.2.1++(⟨#[97,98,111,114,116,32]⟩:BA)).size+a.size<=9223372036854775807)) (.ask (decide (((v.2.1++(⟨#[97,98,111,114,116,32]⟩:BA))++a).size+(⟨#[10]⟩:BA).size<=9223372036854775807)) (.done (.inl (v.1,(((v.2.1++(⟨#[97,98,111,114,116,32]⟩:BA))++a)++(⟨#[10]⟩:BA)),(IntKind.i64.wrap (v.2.2+(1:Int)))))) .fail) .fail) .fail) (.ask (decide (v.2.1.size+(⟨#[10]⟩:BA).size<=9223372036854775807)) (.done (.inl (v.1,(v.2.1++(⟨#[10]⟩:BA)),(IntKind.i64.wrap (v.2.2+(1:Int)))))) .fail)))))))))))) .fail)) .fail) (.done (.inr (v.2.1))))
def LG (n:Nat) (x0:RW):Tr (BA):=(.opt (HF n x0) λa=>(.ask ((!a)) (.done (⟨#[]⟩:BA)) (.opt (zF (Jb n) n (x0,(⟨#[]⟩:BA),(0:Int))) λb=>(.done b))))
def IL:Nat->RW->Option (BA)
 |0,_=>none
 |n+1,x0=>(LG n x0).run
abbrev OU (n:Nat):List (Ent (Rn n)):= [en (Jq n),en (KJ n),en (Ga n)]
def RX (n:Nat):LEnt (KB 14) (Rn n) n:=lok (zd 14) 61 ⟨⟨[(0,aL),(3,aS),(4,aI)],[],[]⟩,[(.exit 0,⟨[(3,aS)],[],[]⟩)]⟩ (Jb n) (OU n) [] λ_=>by kernel_rfl
theorem Ki:∀n,Ok (Rn n) Up (IL n)
 |0=>ok0 λ_=>rfl
 |n+1=>stO (T:=LG n) (by kernel_rfl) (OU n) [RX n] (λ_=>by kernel_rfl) λ_=>by kernel_rfl
def Uq:Sg:=⟨17,[aL,aL],[],⟨aB,[],[]⟩⟩
def Jc (n:Nat) (v:RW×RW×Int):Tr ((RW×RW×Int)⊕((Bool)⊕(Unit))):=(.ask ((decide (v.2.2<(v.1.length:Int)))) (.ask (decide (0<=v.2.2/\v.2.2<v.1.length)) (.opt (v.1[(v.2.2).toNat]?) λa=>(.ask (decide (a.length=5)) (.opt (zI .i64 a 0) λc=>(.opt (zI .i64 a 1) λd=>(.opt (zI .i64 a 2) λf=>(.opt (z8 a 3) λg=>(.opt (zI .i64 a 4) λh=>(.ask (decide (0<=v.2.2/\v.2.2<v.2.1.length)) (.opt (v.2.1[(v.2.2).toNat]?) λb=>(.ask (decide (b.length=5)) (.opt (zI .i64 b 0) λj=>(.opt (zI .i64 b 1) λk=>(.opt (zI .i64 b 2) λl=>(.opt (z8 b 3) λm=>(.opt (zI .i64 b 4) λo=>(.ask ((!((c==j)&&((d==k)&&((f==l)&&((g.toList==m.toList)&&((h==o)&&true))))))) (.done (.inr (.inl (false)))) (.done (.inl (v.1,v.2.1,(IntKind.i64.wrap (v.2.2+(1:Int)))))))))))) .fail)) .fail)))))) .fail)) .fail) (.done (.inr (.inr (())))))
def OV (n:Nat) (x0 x1:RW):Tr (Bool):=(.ask (((x0.length:Int) !=(x1.length:Int))) (.done false) (.opt (zF (Jc n) n (x0,x1,(0:Int))) λa=>(.alt a (λb=>(.done b)) (λc=>(.done true)))))
def LH:Nat->RW->RW->Option (Bool)
 |0,_,_=>none
 |n+1,x0,x1=>(OV n x0 x1).run
def RY (n:Nat):LEnt (KB 17) (Rn n) n:=lok (zd 17) 29 ⟨⟨[(0,aL),(1,aL),(5,aI)],[],[]⟩,[(.ret,⟨[(4,aB)],[],[]⟩),(.exit 0,⟨[],[],[]⟩)]⟩ (Jc n) [] [] λ_=>by kernel_rfl
theorem TQ:∀n,Ok (Rn n) Uq (LH n)
 |0=>ok0 λ_=>rfl
 |n+1=>stO (T:=OV n) (by kernel_rfl) [] [RY n] (λ_=>by kernel_rfl) λ_=>by kernel_rfl
def TR:Sg:=⟨149,[(.c (.ptr 0 0 0 0 0)),aI],[GX],⟨aS,[GX],[]⟩⟩
def Gj (n:Nat) (v:Nat×Int×RW×RW×Int):Tr ((Nat×Int×RW×RW×Int)⊕((Nat×RW×RW×Int))):=(.ask ((decide (v.2.1>(0:Int)))) (.opt (qd n (256:Int) v.2.2.2.1 v.2.2.2.2) λa=>(.ask (decide (1=([[(.i .u8 (IntKind.u8.wrap a.1))]]:RW).length)) (.ask (decide (v.1=v.2.2.1.length/\0<1/\0<1/\(v.1+([[(.i .u8 (IntKind.u8.wrap a.1))]]:RW).length)*1<=140737488355328/\([[(.i .u8 (IntKind.u8.wrap a.1))]]:RW).all (λe=>e.length==1)=true)) (.done (.inl ((v.1+1),(IntKind.i64.wrap (v.2.1-(1:Int))),(v.2.2.1++([[(.i .u8 (IntKind.u8.wrap a.1))]]:RW)),a.2.1,a.2.2))) .fail) .fail)) (.done (.inr ((v.1,v.2.2.1,v.2.2.2.1,v.2.2.2.2)))))
def Kk (n:Nat) (x0:Int) (x1:RW) (x2:Int):Tr (BA×RW×Int):=(.opt (qd n (IntKind.i64.wrap (x0+(1:Int))) x1 x2) λb=>(.opt (zF (Gj n) n ((0:Nat),b.1,([]:RW),b.2.1,b.2.2)) λa=>(.ask (decide (a.1=a.2.1.length)) (.opt (bytesOf a.2.1) λc=>(.done ((⟨c.toArray⟩:BA),a.2.2.1,a.2.2.2))) .fail)))
def Hk:Nat->Int->RW->Int->Option (BA×RW×Int)
 |0,_,_,_=>none
 |n+1,x0,x1,x2=>(Kk n x0 x1 x2).run
abbrev NS (n:Nat):List (Ent (Rn n)):= [en (Es n)]
def Qa (n:Nat):LEnt (KB 149) (Rn n) n:=lok (zd 149) 29 ⟨⟨[(0,(.c (.ptr 0 0 0 0 0))),(5,(.c (.own 1 448 0 0))),(6,aI)],dc,[GX]⟩,[(.exit 0,⟨[(5,(.c (.own 1 448 0 0)))],dc,[GX]⟩)]⟩ (Gj n) (NS n) [] λ_=>by kernel_rfl
theorem Sa:∀n,Ok (Rn n) TR (Hk n)
 |0=>ok0 λ_=>rfl
 |n+1=>stO (T:=Kk n) (by kernel_rfl) (NS n) [Qa n] (λ_=>by kernel_rfl) λ_=>by kernel_rfl
def Ur:Sg:=⟨69,[(.c (.ptr 0 0 0 0 0)),aS],[GX],⟨aS,[GX],[]⟩⟩
def GV (n:Nat) (x0:BA) (x1:RW) (x2:Int):Tr (BA×RW×Int):=(.opt (qd n (6:Int) x1 x2) λa=>(.ask ((a.1==(0:Int))) (.opt (Hk n (2:Int) a.2.1 a.2.2) λf=>(.ask (decide (x0.size+f.1.size<=9223372036854775807)) (.done ((x0++f.1),f.2.1,f.2.2)) .fail)) (.ask ((a.1==(1:Int))) (.opt (qd n (IntKind.i64.wrap ((x0.size:Int)+(1:Int))) a.2.1 a.2.2) λc=>(.ask (decide (0<=(0:Int)/\(0:Int)<=c.1/\c.1<=x0.size)) (.done ((x0.extract ((0:Int)).toNat (c.1).toNat),c.2.1,c.2.2)) .fail)) (.ask ((a.1==(2:Int))) (.ask ((decide ((x0.size:Int)>(0:Int)))) (.opt (qd n (x0.size:Int) a.2.1 a.2.2) λb=>(.ask (decide (0<=(0:Int)/\(0:Int)<=b.1/\b.1<=x0.size)) (.ask (decide (0<=(IntKind.i64.wrap (b.1+(1:Int)))/\(IntKind.i64.wrap (b.1+(1:Int)))<=(x0.size:Int)/\(x0.size:Int)<=x0.size)) (.opt (qd n (6:Int) b.2.1 b.2.2) λd=>(.ask (decide (6=([[(.s (⟨#[65]⟩:BA))],[(.s (⟨#[49]⟩:BA))],[(.s (⟨#[40]⟩:BA))],[(.s (⟨#[44]⟩:BA))],[(.s (⟨#[34]⟩:BA))],[(.s (⟨#[32]⟩:BA))]]:RW).length/\0<=d.1/\d.1<((6:Nat):Int))) (.opt (([[(.s (⟨#[65]⟩:BA))],[(.s (⟨#[49]⟩:BA))],[(.s (⟨#[40]⟩:BA))],[(.s (⟨#[44]⟩:BA))],[(.s (⟨#[34]⟩:BA))],[(.s (⟨#[32]⟩:BA))]]:RW)[(d.1).toNat]?) λh=>(.opt (z8 h 0) λg=>(.ask (decide ((x0.extract ((0:Int)).toNat (b.1).toNat).size+g.size<=9223372036854775807)) (.ask (decide (((x0.extract ((0:Int)).toNat (b.1).toNat)++g).size+(x0.extract ((IntKind.i64.wrap (b.1+(1:Int)))).toNat ((x0.size:Int)).toNat).size<=9223372036854775807)) (.done ((((x0.extract ((0:Int)).toNat (b.1).toNat)++g)++(x0.extract ((IntKind.i64.wrap (b.1+(1:Int)))).toNat ((x0.size:Int)).toNat)),d.2.1,d.2.2)) .fail) .fail))) .fail)) .fail) .fail)) (.done (x0,a.2.1,a.2.2))) (.done (x0,a.2.1,a.2.2))))))
def Ff:Nat->BA->RW->Int->Option (BA×RW×Int)
 |0,_,_,_=>none
 |n+1,x0,x1,x2=>(GV n x0 x1 x2).run
abbrev Us (n:Nat):List (Ent (Rn n)):= [en (Es n),en (Sa n)]
theorem TS:∀n,Ok (Rn n) Ur (Ff n)
 |0=>ok0 λ_=>rfl
 |n+1=>stO (T:=GV n) (by kernel_rfl) (Us n) [] (λ_=>by kernel_rfl) λ_=>by kernel_rfl
def Qb:Sg:=⟨18,[aL],[],⟨aS,[],[]⟩⟩
def I6 (n:Nat) (x0:RW):Tr (BA):=(.opt (Jf n x0) λb=>(.opt (Hd n b.1 b.2) λa=>(.opt (IL n a.1) λc=>(.opt (Ff n c a.2.1 a.2.2) λd=>(.done d.1)))))
def Hl:Nat->RW->Option (BA)
 |0,_=>none
 |n+1,x0=>(I6 n x0).run
abbrev Qc (n:Nat):List (Ent (Rn n)):= [en (P2 n),en (Md n),en (Ki n),en (TS n)]
theorem Pz:∀n,Ok (Rn n) Qb (Hl n)
 |0=>ok0 λ_=>rfl
 |n+1=>stO (T:=I6 n) (by kernel_rfl) (Qc n) [] (λ_=>by kernel_rfl) λ_=>by kernel_rfl
def V5:Sg:=⟨70,[aS],[],⟨(.tup [(false,[qL]),(false,[qB])]),[],[]⟩⟩
def J6 (n:Nat) (v:BA×Nat×BA×Int×RW):Tr ((BA×Nat×BA×Int×RW)⊕((Nat×BA×RW))):=(.ask ((decide (v.2.2.2.1<(v.1.size:Int)))) (.ask (decide (0<=v.2.2.2.1)) (.opt (v.1.toList[(v.2.2.2.1).toNat]?) λa=>(.ask (((a.toNat:Int)==(10:Int))) (.ask (decide (1=([[(.s v.2.2.1)]]:RW).length)) (.ask (decide (v.2.1=v.2.2.2.2.length/\0<1/\0<16/\(v.2.1+([[(.s v.2.2.1)]]:RW).length)*16<=140737488355328/\([[(.s v.2.2.1)]]:RW).all (λe=>e.length==1)=true)) (.done (.inl (v.1,(v.2.1+1),(⟨#[]⟩:BA),(IntKind.i64.wrap (v.2.2.2.1+(1:Int))),(v.2.2.2.2++([[(.s v.2.2.1)]]:RW))))) .fail) .fail) (.ask (decide (0<=v.2.2.2.1/\v.2.2.2.1<=(IntKind.i64.wrap (v.2.2.2.1+(1:Int)))/\(IntKind.i64.wrap (v.2.2.2.1+(1:Int)))<=v.1.size)) (.ask (decide (v.2.2.1.size+(v.1.extract (v.2.2.2.1).toNat ((IntKind.i64.wrap (v.2.2.2.1+(1:Int)))).toNat).size<=9223372036854775807)) (.done (.inl (v.1,v.2.1,(v.2.2.1++(v.1.extract (v.2.2.2.1).toNat ((IntKind.i64.wrap (v.2.2.2.1+(1:Int)))).toNat)),(IntKind.i64.wrap (v.2.2.2.1+(1:Int))),v.2.2.2.2))) .fail) .fail))) .fail) (.done (.inr ((v.2.1,v.2.2.1,v.2.2.2.2)))))
def Ph (n:Nat) (x0:BA):Tr (RW×Bool):=(.opt (zF (J6 n) n (x0,(0:Nat),(⟨#[]⟩:BA),(0:Int),([]:RW))) λa=>(.ask (decide (a.1=a.2.2.length)) (.done (a.2.2,(a.2.1.toList==(⟨#[]⟩:BA).toList))) .fail))
def Lv:Nat->BA->Option (RW×Bool)
 |0,_=>none
 |n+1,x0=>(Ph n x0).run
def Sb (n:Nat):LEnt (KB 70) (Rn n) n:=lok (zd 70) 61 ⟨⟨[(0,aS),(4,(.c (.own 0 448 0 0))),(5,aS),(6,aI)],b9,[]⟩,[(.exit 0,⟨[(4,(.c (.own 0 448 0 0))),(5,aS)],b9,[]⟩)]⟩ (J6 n) [] [] λ_=>by kernel_rfl
theorem Ut:∀n,Ok (Rn n) V5 (Lv n)
 |0=>ok0 λ_=>rfl
 |n+1=>stO (T:=Ph n) (by kernel_rfl) [] [Sb n] (λ_=>by kernel_rfl) λ_=>by kernel_rfl
def Xr:Sg:=⟨71,[aS],[],⟨(.tup [(false,[qS]),(false,[qS])]),[],[]⟩⟩
def LI (n:Nat) (v:BA×Int):Tr ((BA×Int)⊕((BA×Int))):=(.ask ((decide (v.2<(v.1.size:Int)))) (.ask (decide (0<=v.2)) (.opt (v.1.toList[(v.2).toNat]?) λa=>(.ask (((a.toNat:Int) !=(32:Int))) (.done (.inl (v.1,(IntKind.i64.wrap (v.2+(1:Int)))))) (.done (.inr ((v.1,v.2)))))) .fail) (.done (.inr ((v.1,v.2)))))
def Rr (n:Nat) (x0:BA):Tr (BA×BA):=(.opt (zF (LI n) n (x0,(0:Int))) λa=>(.ask ((a.2==(a.1.size:Int))) (.done (a.1,(⟨#[]⟩:BA))) (.ask (decide (0<=(0:Int)/\(0:Int)<=a.2/\a.2<=a.1.size)) (.ask (decide (0<=(IntKind.i64.wrap (a.2+(1:Int)))/\(IntKind.i64.wrap (a.2+(1:Int)))<=(a.1.size:Int)/\(a.1.size:Int)<=a.1.size)) (.done ((a.1.extract ((0:Int)).toNat (a.2).toNat),(a.1.extract ((IntKind.i64.wrap (a.2+(1:Int)))).toNat ((a.1.size:Int)).toNat))) .fail) .fail)))
def Ii:Nat->BA->Option (BA×BA)
 |0,_=>none
 |n+1,x0=>(Rr n x0).run
def Uu (n:Nat):LEnt (KB 71) (Rn n) n:=lok (zd 71) 14 ⟨⟨[(0,aS),(4,aI)],[],[]⟩,[(.exit 0,⟨[(0,aS),(4,aI)],[],[]⟩)]⟩ (LI n) [] [] λ_=>by kernel_rfl
theorem Wu:∀n,Ok (Rn n) Xr (Ii n)
 |0=>ok0 λ_=>rfl
 |n+1=>stO (T:=Rr n) (by kernel_rfl) [] [Uu n] (λ_=>by kernel_rfl) λ_=>by kernel_rfl
def Uv:Sg:=⟨19,[aS],[],⟨(.tup [(false,[qL]),(false,[qB])]),[],[]⟩⟩
def Hm (n:Nat) (v:BA×RW×Nat×Int×RW):Tr ((BA×RW×Nat×Int×RW)⊕((BA×Nat×RW))):=(.ask ((decide (v.2.2.2.1<(v.2.1.length:Int)))) (.ask (decide (0<=v.2.2.2.1/\v.2.2.2.1<v.2.1.length)) (.opt (v.2.1[(v.2.2.2.1).toNat]?) λf=>(.ask (decide (f.length=1)) (.opt (z8 f 0) λg=>(.opt (Ii n g) λc=>(.ask ((!(c.1.toList==(⟨#[97,98,111,114,116]⟩:BA).toList))) (.opt (Ii n c.2) λb=>(.opt (FA n b.1) λa=>(.opt (E8 n b.1 (2:Int)) λd=>(.ask ((c.1.toList==(⟨#[115,101,116]⟩:BA).toList)) (.ask ((c.1.toList==(⟨#[115,101,116]⟩:BA).toList)) (.ask (decide (1=([[(.i .i64 (1:Int)),(.i .i64 a.1),(.i .i64 a.2.1),(.s b.2),(.i .i64 (0:Int))]]:RW).length)) (.ask (decide (v.2.2.1=v.2.2.2.2.length/\0<5/\0<48/\(v.2.2.1+([[(.i .i64 (1:Int)),(.i .i64 a.1),(.i .i64 a.2.1),(.s b.2),(.i .i64 (0:Int))]]:RW).length)*48<=140737488355328/\([[(.i .i64 (1:Int)),(.i .i64 a.1),(.i .i64 a.2.1),(.s b.2),(.i .i64 (0:Int))]]:RW).all (λe=>e.length==5)=true)) (.done (.inl (v.1,v.2.1,(v.2.2.1+1),(IntKind.i64.wrap (v.2.2.2.1+(1:Int))),(v.2.2.2.2++([[(.i .i64 (1:Int)),(.i .i64 a.1),(.i .i64 a.2.1),(.s b.2),(.i .i64 (0:Int))]]:RW))))) .fail) .fail) (.ask ((c.1.toList==(⟨#[112,117,116]⟩:BA).toList)) (.ask (decide (1=([[(.i .i64 (2:Int)),(.i .i64 a.1),(.i .i64 a.2.1),(.s b.2),(.i .i64 (0:Int))]]:RW).length)) (.ask (decide (v.2.2.1=v.2.2.2.2.length/\0<5/\0<48/\(v.2.2.1+([[(.i .i64 (2:Int)),(.i .i64 a.1),(.i .i64 a.2.1),(.s b.2),(.i .i64 (0:Int))]]:RW).length)*48<=140737488355328/\([[(.i .i64 (2:Int)),(.i .i64 a.1),(.i .i64 a.2.1),(.s b.2),(.i .i64 (0:Int))]]:RW).all (λe=>e.length==5)=true)) (.done (.inl (v.1,v.2.1,(v.2.2.1+1),(IntKind.i64.wrap (v.2.2.2.1+(1:Int))),(v.2.2.2.2++([[(.i .i64 (2:Int)),(.i .i64 a.1),(.i .i64 a.2.1),(.s b.2),(.i .i64 (0:Int))]]:RW))))) .fail) .fail) (.ask ((c.1.toList==(⟨#[117,110,108,101,115,115]⟩:BA).toList)) (.ask (decide (1=([[(.i .i64 (3:Int)),(.i .i64 a.1),(.i .i64 a.2.1),(.s b.2),(.i .i64 (0:Int))]]:RW).length)) (.ask (decide (v.2.2.1=v.2.2.2.2.length/\0<5/\0<48/\(v.2.2.1+([[(.i .i64 (3:Int)),(.i .i64 a.1),(.i .i64 a.2.1),(.s b.2),(.i .i64 (0:Int))]]:RW).length)*48<=140737488355328/\([[(.i .i64 (3:Int)),(.i .i64 a.1),(.i .i64 a.2.1),(.s b.2),(.i .i64 (0:Int))]]:RW).all (λe=>e.length==5)=true)) (.done (.inl (v.1,v.2.1,(v.2.2.1+1),(IntKind.i64.wrap (v.2.2.2.1+(1:Int))),(v.2.2.2.2++([[(.i .i64 (3:Int)),(.i .i64 a.1),(.i .i64 a.2.1),(.s b.2),(.i .i64 (0:Int))]]:RW))))) .fail) .fail) (.ask ((c.1.toList==(⟨#[119,104,105,108,101]⟩:BA).toList)) (.ask (decide (1=([[(.i .i64 (4:Int)),(.i .i64 a.1),(.i .i64 a.2.1),(.s b.2),(.i .i64 (0:Int))]]:RW).length)) (.ask (decide (v.2.2.1=v.2.2.2.2.length/\0<5/\0<48/\(v.2.2.1+([[(.i .i64 (4:Int)),(.i .i64 a.1),(.i .i64 a.2.1),(.s b.2),(.i .i64 (0:Int))]]:RW).length)*48<=140737488355328/\([[(.i .i64 (4:Int)),(.i .i64 a.1),(.i .i64 a.2.1),(.s b.2),(.i .i64 (0:Int))]]:RW).all (λe=>e.length==5)=true)) (.done (.inl (v.1,v.2.1,(v.2.2.1+1),(IntKind.i64.wrap (v.2.2.2.1+(1:Int))),(v.2.2.2.2++([[(.i .i64 (4:Int)),(.i .i64 a.1),(.i .i64 a.2.1),(.s b.2),(.i .i64 (0:Int))]]:RW))))) .fail) .fail) (.ask ((c.1.toList==(⟨#[97,98,111,114,116]⟩:BA).toList)) (.ask (decide (1=([[(.i .i64 (5:Int)),(.i .i64 a.1),(.i .i64 a.2.1),(.s b.2),(.i .i64 (0:Int))]]:RW).length)) (.ask (decide (v.2.2.1=v.2.2.2.2.length/\0<5/\0<48/\(v.2.2.1+([[(.i .i64 (5:Int)),(.i .i64 a.1),(.i .i64 a.2.1),(.s b.2),(.i .i64 (0:Int))]]:RW).length)*48<=140737488355328/\([[(.i .i64 (5:Int)),(.i .i64 a.1),(.i .i64 a.2.1),(.s b.2),(.i .i64 (0:Int))]]:RW).all (λe=>e.length==5)=true)) (.done (.inl (v.1,v.2.1,(v.2.2.1+1),(IntKind.i64.wrap (v.2.2.2.1+(1:Int))),(v.2.2.2.2++([[(.i .i64 (5:Int)),(.i .i64 a.1),(.i .i64 a.2.1),(.s b.2),(.i .i64 (0:Int))]]:RW))))) .fail) .fail) (.ask (decide (1=([[(.i .i64 (0:Int)),(.i .i64 a.1),(.i .i64 a.2.1),(.s b.2),(.i .i64 (0:Int))]]:RW).length)) (.ask (decide (v.2.2.1=v.2.2.2.2.length/\0<5/\0<48/\(v.2.2.1+([[(.i .i64 (0:Int)),(.i .i64 a.1),(.i .i64 a.2.1),(.s b.2),(.i .i64 (0:Int))]]:RW).length)*48<=140737488355328/\([[(.i .i64 (0:Int)),(.i .i64 a.1),(.i .i64 a.2.1),(.s b.2),(.i .i64 (0:Int))]]:RW).all (λe=>e.length==5)=true)) (.done (.inl (v.1,v.2.1,(v.2.2.1+1),(IntKind.i64.wrap (v.2.2.2.1+(1:Int))),(v.2.2.2.2++([[(.i .i64 (0:Int)),(.i .i64 a.1),(.i .i64 a.2.1),(.s b.2),(.i .i64 (0:Int))]]:RW))))) .fail) .fail)))))) (.ask ((c.1.toList==(⟨#[112,117,116]⟩:BA).toList)) (.ask ((c.1.toList==(⟨#[115,101,116]⟩:BA).toList)) (.ask (decide (1=([[(.i .i64 (1:Int)),(.i .i64 a.1),(.i .i64 a.2.1),(.s b.2),(.i .i64 (0:Int))]]:RW).length)) (.ask (decide (v.2.2.1=v.2.2.2.2.length/\0<5/\0<48/\(v.2.2.1+([[(.i .i64 (1:Int)),(.i .i64 a.1),(.i .i64 a.2.1),(.s b.2),(.i .i64 (0:Int))]]:RW).length)*48<=140737488355328/\([[(.i .i64 (1:Int)),(.i .i64 a.1),(.i .i64 a.2.1),(.s b.2),(.i .i64 (0:Int))]]:RW).all (λe=>e.length==5)=true)) (.done (.inl (v.1,v.2.1,(v.2.2.1+1),(IntKind.i64.wrap (v.2.2.2.1+(1:Int))),(v.2.2.2.2++([[(.i .i64 (1:Int)),(.i .i64 a.1),(.i .i64 a.2.1),(.s b.2),(.i .i64 (0:Int))]]:RW))))) .fail) .fail) (.ask ((c.1.toList==(⟨#[112,117,116]⟩:BA).toList)) (.ask (decide (1=([[(.i .i64 (2:Int)),(.i .i64 a.1),(.i .i64 a.2.1),(.s b.2),(.i .i64 (0:Int))]]:RW).length)) (.ask (decide (v.2.2.1=v.2.2.2.2.length/\0<5/\0<48/\(v.2.2.1+([[(.i .i64 (2:Int)),(.i .i64 a.1),(.i .i64 a.2.1),(.s b.2),(.i .i64 (0:Int))]]:RW).length)*48<=140737488355328/\([[(.i .i64 (2:Int)),(.i .i64 a.1),(.i .i64 a.2.1),(.s b.2),(.i .i64 (0:Int))]]:RW).all (λe=>e.length==5)=true)) (.done (.inl (v.1,v.2.1,(v.2.2.1+1),(IntKind.i64.wrap (v.2.2.2.1+(1:Int))),(v.2.2.2.2++([[(.i .i64 (2:Int)),(.i .i64 a.1),(.i .i64 a.2.1),(.s b.2),(.i .i64 (0:Int))]]:RW))))) .fail) .fail) (.ask ((c.1.toList==(⟨#[117,110,108,101,115,115]⟩:BA).toList)) (.ask (decide (1=([[(.i .i64 (3:Int)),(.i .i64 a.1),(.i .i64 a.2.1),(.s b.2),(.i .i64 (0:Int))]]:RW).length)) (.ask (decide (v.2.2.1=v.2.2.2.2.length/\0<5/\0<48/\(v.2.2.1+([[(.i .i64 (3:Int)),(.i .i64 a.1),(.i .i64 a.2.1),(.s b.2),(.i .i64 (0:Int))]]:RW).length)*48<=140737488355328/\([[(.i .i64 (3:Int)),(.i .i64 a.1),(.i .i64 a.2.1),(.s b.2),(.i .i64 (0:Int))]]:RW).all (λe=>e.length==5)=true)) (.done (.inl (v.1,v.2.1,(v.2.2.1+1),(IntKind.i64.wrap (v.2.2.2.1+(1:Int))),(v.2.2.2.2++([[(.i .i64 (3:Int)),(.i .i64 a.1),(.i .i64 a.2.1),(.s b.2),(.i .i64 (0:Int))]]:RW))))) .fail) .fail) (.ask ((c.1.toList==(⟨#[119,104,105,108,101]⟩:BA).toList)) (.ask (decide (1=([[(.i .i64 (4:Int)),(.i .i64 a.1),(.i .i64 a.2.1),(.s b.2),(.i .i64 (0:Int))]]:RW).length)) (.ask (decide (v.2.2.1=v.2.2.2.2.length/\0<5/\0<48/\(v.2.2.1+([[(.i .i64 (4:Int)),(.i .i64 a.1),(.i .i64 a.2.1),(.s b.2),(.i .i64 (0:Int))]]:RW).length)*48<=140737488355328/\([[(.i .i64 (4:Int)),(.i .i64 a.1),(.i .i64 a.2.1),(.s b.2),(.i .i64 (0:Int))]]:RW).all (λe=>e.length==5)=true)) (.done (.inl (v.1,v.2.1,(v.2.2.1+1),(IntKind.i64.wrap (v.2.2.2.1+(1:Int))),(v.2.2.2.2++([[(.i .i64 (4:Int)),(.i .i64 a.1),(.i .i64 a.2.1),(.s b.2),(.i .i64 (0:Int))]]:RW))))) .fail) .fail) (.ask ((c.1.toList==(⟨#[97,98,111,114,116]⟩:BA).toList)) (.ask (decide (1=([[(.i .i64 (5:Int)),(.i .i64 a.1),(.i .i64 a.2.1),(.s b.2),(.i .i64 (0:Int))]]:RW).length)) (.ask (decide (v.2.2.1=v.2.2.2.2.length/\0<5/\0<48/\(v.2.2.1+([[(.i .i64 (5:Int)),(.i .i64 a.1),(.i .i64 a.2.1),(.s b.2),(.i .i64 (0:Int))]]:RW).length)*48<=140737488355328/\([[(.i .i64 (5:Int)),(.i .i64 a.1),(.i .i64 a.2.1),(.s b.2),(.i .i64 (0:Int))]]:RW).all (λe=>e.length==5)=true)) (.done (.inl (v.1,v.2.1,(v.2.2.1+1),(IntKind.i64.wrap (v.2.2.2.1+(1:Int))),(v.2.2.2.2++([[(.i .i64 (5:Int)),(.i .i64 a.1),(.i .i64 a.2.1),(.s b.2),(.i .i64 (0:Int))]]:RW))))) .fail) .fail) (.ask (decide (1=([[(.i .i64 (0:Int)),(.i .i64 a.1),(.i .i64 a.2.1),(.s b.2),(.i .i64 (0:Int))]]:RW).length)) (.ask (decide (v.2.2.1=v.2.2.2.2.length/\0<5/\0<48/\(v.2.2.1+([[(.i .i64 (0:Int)),(.i .i64 a.1),(.i .i64 a.2.1),(.s b.2),(.i .i64 (0:Int))]]:RW).length)*48<=140737488355328/\([[(.i .i64 (0:Int)),(.i .i64 a.1),(.i .i64 a.2.1),(.s b.2),(.i .i64 (0:Int))]]:RW).all (λe=>e.length==5)=true)) (.done (.inl (v.1,v.2.1,(v.2.2.1+1),(IntKind.i64.wrap (v.2.2.2.1+(1:Int))),(v.2.2.2.2++([[(.i .i64 (0:Int)),(.i .i64 a.1),(.i .i64 a.2.1),(.s b.2),(.i .i64 (0:Int))]]:RW))))) .fail) .fail)))))) (.ask ((c.1.toList==(⟨#[115,101,116]⟩:BA).toList)) (.ask (decide (1=([[(.i .i64 (1:Int)),(.i .i64 (0:Int)),(.i .i64 (0:Int)),(.s b.2),(.i .i64 d.1)]]:RW).length)) (.ask (decide (v.2.2.1=v.2.2.2.2.length/\0<5/\0<48/\(v.2.2.1+([[(.i .i64 (1:Int)),(.i .i64 (0:Int)),(.i .i64 (0:Int)),(.s b.2),(.i .i64 d.1)]]:RW).length)*48<=140737488355328/\([[(.i .i64 (1:Int)),(.i .i64 (0:Int)),(.i .i64 (0:Int)),(.s b.2),(.i .i64 d.1)]]:RW).all (λe=>e.length==5)=true)) (.done (.inl (v.1,v.2.1,(v.2.2.1+1),(IntKind.i64.wrap (v.2.2.2.1+(1:Int))),(v.2.2.2.2++([[(.i .i64 (1:Int)),(.i .i64 (0:Int)),(.i .i64 (0:Int)),(.s b.2),(.i .i64 d.1)]]:RW))))) .fail) .fail) (.ask ((c.1.toList==(⟨#[112,117,116]⟩:BA).toList)) (.ask (decide (1=([[(.i .i64 (2:Int)),(.i .i64 (0:Int)),(.i .i64 (0:Int)),(.s b.2),(.i .i64 d.1)]]:RW).length)) (.ask (decide (v.2.2.1=v.2.2.2.2.length/\0<5/\0<48/\(v.2.2.1+([[(.i .i64 (2:Int)),(.i .i64 (0:Int)),(.i .i64 (0:Int)),(.s b.2),(.i .i64 d.1)]]:RW).length)*48<=140737488355328/\([[(.i .i64 (2:Int)),(.i .i64 (0:Int)),(.i .i64 (0:Int)),(.s b.2),(.i .i64 d.1)]]:RW).all (λe=>e.length==5)=true)) (.done (.inl (v.1,v.2.1,(v.2.2.1+1),(IntKind.i64.wrap (v.2.2.2.1+(1:Int))),(v.2.2.2.2++([[(.i .i64 (2:Int)),(.i .i64 (0:Int)),(.i .i64 (0:Int)),(.s b.2),(.i .i64 d.1)]]:RW))))) .fail) .fail) (.ask ((c.1.toList==(⟨#[117,110,108,101,115,115]⟩:BA).toList)) (.ask (decide (1=([[(.i .i64 (3:Int)),(.i .i64 (0:Int)),(.i .i64 (0:Int)),(.s b.2),(.i .i64 d.1)]]:RW).length)) (.ask (decide (v.2.2.1=v.2.2.2.2.length/\0<5/\0<48/\(v.2.2.1+([[(.i .i64 (3:Int)),(.i .i64 (0:Int)),(.i .i64 (0:Int)),(.s b.2),(.i .i64 d.1)]]:RW).length)*48<=140737488355328/\([[(.i .i64 (3:Int)),(.i .i64 (0:Int)),(.i .i64 (0:Int)),(.s b.2),(.i .i64 d.1)]]:RW).all (λe=>e.length==5)=true)) (.done (.inl (v.1,v.2.1,(v.2.2.1+1),(IntKind.i64.wrap (v.2.2.2.1+(1:Int))),(v.2.2.2.2++([[(.i .i64 (3:Int)),(.i .i64 (0:Int)),(.i .i64 (0:Int)),(.s b.2),(.i .i64 d.1)]]:RW))))) .fail) .fail) (.ask ((c.1.toList==(⟨#[119,104,105,108,101]⟩:BA).toList)) (.ask (decide (1=([[(.i .i64 (4:Int)),(.i .i64 (0:Int)),(.i .i64 (0:Int)),(.s b.2),(.i .i64 d.1)]]:RW).length)) (.ask (decide (v.2.2.1=v.2.2.2.2.length/\0<5/\0<48/\(v.2.2.1+([[(.i .i64 (4:Int)),(.i .i64 (0:Int)),(.i .i64 (0:Int)),(.s b.2),(.i .i64 d.1)]]:RW).length)*48<=140737488355328/\([[(.i .i64 (4:Int)),(.i .i64 (0:Int)),(.i .i64 (0:Int)),(.s b.2),(.i .i64 d.1)]]:RW).all (λe=>e.length==5)=true)) (.done (.inl (v.1,v.2.1,(v.2.2.1+1),(IntKind.i64.wrap (v.2.2.2.1+(1:Int))),(v.2.2.2.2++([[(.i .i64 (4:Int)),(.i .i64 (0:Int)),(.i .i64 (0:Int)),(.s b.2),(.i .i64 d.1)]]:RW))))) .fail) .fail) (.ask ((c.1.toList==(⟨#[97,98,111,114,116]⟩:BA).toList)) (.ask (decide (1=([[(.i .i64 (5:Int)),(.i .i64 (0:Int)),(.i .i64 (0:Int)),(.s b.2),(.i .i64 d.1)]]:RW).length)) (.ask (decide (v.2.2.1=v.2.2.2.2.length/\0<5/\0<48/\(v.2.2.1+([[(.i .i64 (5:Int)),(.i .i64 (0:Int)),(.i .i64 (0:Int)),(.s b.2),(.i .i64 d.1)]]:RW).length)*48<=140737488355328/\([[(.i .i64 (5:Int)),(.i .i64 (0:Int)),(.i .i64 (0:Int)),(.s b.2),(.i .i64 d.1)]]:RW).all (λe=>e.length==5)=true)) (.done (.inl (v.1,v.2.1,(v.2.2.1+1),(IntKind.i64.wrap (v.2.2.2.1+(1:Int))),(v.2.2.2.2++([[(.i .i64 (5:Int)),(.i .i64 (0:Int)),(.i .i64 (0:Int)),(.s b.2),(.i .i64 d.1)]]:RW))))) .fail) .fail) (.ask (decide (1=([[(.i .i64 (0:Int)),(.i .i64 (0:Int)),(.i .i64 (0:Int)),(.s b.2),(.i .i64 d.1)]]:RW).length)) (.ask (decide (v.2.2.1=v.2.2.2.2.length/\0<5/\0<48/\(v.2.2.1+([[(.i .i64 (0:Int)),(.i .i64 (0:Int)),(.i .i64 (0:Int)),(.s b.2),(.i .i64 d.1)]]:RW).length)*48<=140737488355328/\([[(.i .i64 (0:Int)),(.i .i64 (0:Int)),(.i .i64 (0:Int)),(.s b.2),(.i .i64 d.1)]]:RW).all (λe=>e.length==5)=true)) (.done (.inl (v.1,v.2.1,(v.2.2.1+1),(IntKind.i64.wrap (v.2.2.2.1+(1:Int))),(v.2.2.2.2++([[(.i .i64 (0:Int)),(.i .i64 (0:Int)),(.i .i64 (0:Int)),(.s b.2),(.i .i64 d.1)]]:RW))))) .fail) .fail))))))))))) (.ask ((c.1.toList==(⟨#[115,101,116]⟩:BA).toList)) (.ask (decide (1=([[(.i .i64 (1:Int)),(.i .i64 (0:Int)),(.i .i64 (0:Int)),(.s c.2),(.i .i64 (0:Int))]]:RW).length)) (.ask (decide (v.2.2.1=v.2.2.2.2.length/\0<5/\0<48/\(v.2.2.1+([[(.i .i64 (1:Int)),(.i .i64 (0:Int)),(.i .i64 (0:Int)),(.s c.2),(.i .i64 (0:Int))]]:RW).length)*48<=140737488355328/\([[(.i .i64 (1:Int)),(.i .i64 (0:Int)),(.i .i64 (0:Int)),(.s c.2),(.i .i64 (0:Int))]]:RW).all (λe=>e.length==5)=true)) (.done (.inl (v.1,v.2.1,(v.2.2.1+1),(IntKind.i64.wrap (v.2.2.2.1+(1:Int))),(v.2.2.2.2++([[(.i .i64 (1:Int)),(.i .i64 (0:Int)),(.i .i64 (0:Int)),(.s c.2),(.i .i64 (0:Int))]]:RW))))) .fail) .fail) (.ask ((c.1.toList==(⟨#[112,117,116]⟩:BA).toList)) (.ask (decide (1=([[(.i .i64 (2:Int)),(.i .i64 (0:Int)),(.i .i64 (0:Int)),(.s c.2),(.i .i64 (0:Int))]]:RW).length)) (.ask (decide (v.2.2.1=v.2.2.2.2.length/\0<5/\0<48/\(v.2.2.1+([[(.i .i64 (2:Int)),(.i .i64 (0:Int)),(.i .i64 (0:Int)),(.s c.2),(.i .i64 (0:Int))]]:RW).length)*48<=140737488355328/\([[(.i .i64 (2:Int)),(.i .i64 (0:Int)),(.i .i64 (0:Int)),(.s c.2),(.i .i64 (0:Int))]]:RW).all (λe=>e.length==5)=true)) (.done (.inl (v.1,v.2.1,(v.2.2.1+1),(IntKind.i64.wrap (v.2.2.2.1+(1:Int))),(v.2.2.2.2++([[(.i .i64 (2:Int)),(.i .i64 (0:Int)),(.i .i64 (0:Int)),(.s c.2),(.i .i64 (0:Int))]]:RW))))) .fail) .fail) (.ask ((c.1.toList==(⟨#[117,110,108,101,115,115]⟩:BA).toList)) (.ask (decide (1=([[(.i .i64 (3:Int)),(.i .i64 (0:Int)),(.i .i64 (0:Int)),(.s c.2),(.i .i64 (0:Int))]]:RW).length)) (.ask (decide (v.2.2.1=v.2.2.2.2.length/\0<5/\0<48/\(v.2.2.1+([[(.i .i64 (3:Int)),(.i .i64 (0:Int)),(.i .i64 (0:Int)),(.s c.2),(.i .i64 (0:Int))]]:RW).length)*48<=140737488355328/\([[(.i .i64 (3:Int)),(.i .i64 (0:Int)),(.i .i64 (0:Int)),(.s c.2),(.i .i64 (0:Int))]]:RW).all (λe=>e.length==5)=true)) (.done (.inl (v.1,v.2.1,(v.2.2.1+1),(IntKind.i64.wrap (v.2.2.2.1+(1:Int))),(v.2.2.2.2++([[(.i .i64 (3:Int)),(.i .i64 (0:Int)),(.i .i64 (0:Int)),(.s c.2),(.i .i64 (0:Int))]]:RW))))) .fail) .fail) (.ask ((c.1.toList==(⟨#[119,104,105,108,101]⟩:BA).toList)) (.ask (decide (1=([[(.i .i64 (4:Int)),(.i .i64 (0:Int)),(.i .i64 (0:Int)),(.s c.2),(.i .i64 (0:Int))]]:RW).length)) (.ask (decide (v.2.2.1=v.2.2.2.2.length/\0<5/\0<48/\(v.2.2.1+([[(.i .i64 (4:Int)),(.i .i64 (0:Int)),(.i .i64 (0:Int)),(.s c.2),(.i .i64 (0:Int))]]:RW).length)*48<=140737488355328/\([[(.i .i64 (4:Int)),(.i .i64 (0:Int)),(.i .i64 (0:Int)),(.s c.2),(.i .i64 (0:Int))]]:RW).all (λe=>e.length==5)=true)) (.done (.inl (v.1,v.2.1,(v.2.2.1+1),(IntKind.i64.wrap (v.2.2.2.1+(1:Int))),(v.2.2.2.2++([[(.i .i64 (4:Int)),(.i .i64 (0:Int)),(.i .i64 (0:Int)),(.s c.2),(.i .i64 (0:Int))]]:RW))))) .fail) .fail) (.ask ((c.1.toList==(⟨#[97,98,111,114,116]⟩:BA).toList)) (.ask (decide (1=([[(.i .i64 (5:Int)),(.i .i64 (0:Int)),(.i .i64 (0:Int)),(.s c.2),(.i .i64 (0:Int))]]:RW).length)) (.ask (decide (v.2.2.1=v.2.2.2.2.length/\0<5/\0<48/\(v.2.2.1+([[(.i .i64 (5:Int)),(.i .i64 (0:Int)),(.i .i64 (0:Int)),(.s c.2),(.i .i64 (0:Int))]]:RW).length)*48<=140737488355328/\([[(.i .i64 (5:Int)),(.i .i64 (0:Int)),(.i .i64 (0:Int)),(.s c.2),(.i .i64 (0:Int))]]:RW).all (λe=>e.length==5)=true)) (.done (.inl (v.1,v.2.1,(v.2.2.1+1),(IntKind.i64.wrap (v.2.2.2.1+(1:Int))),(v.2.2.2.2++([[(.i .i64 (5:Int)),(.i .i64 (0:Int)),(.i .i64 (0:Int)),(.s c.2),(.i .i64 (0:Int))]]:RW))))) .fail) .fail) (.ask (decide (1=([[(.i .i64 (0:Int)),(.i .i64 (0:Int)),(.i .i64 (0:Int)),(.s c.2),(.i .i64 (0:Int))]]:RW).length)) (.ask (decide (v.2.2.1=v.2.2.2.2.length/\0<5/\0<48/\(v.2.2.1+([[(.i .i64 (0:Int)),(.i .i64 (0:Int)),(.i .i64 (0:Int)),(.s c.2),(.i .i64 (0:Int))]]:RW).length)*48<=140737488355328/\([[(.i .i64 (0:Int)),(.i .i64 (0:Int)),(.i .i64 (0:Int)),(.s c.2),(.i .i64 (0:Int))]]:RW).all (λe=>e.length==5)=true)) (.done (.inl (v.1,v.2.1,(v.2.2.1+1),(IntKind.i64.wrap (v.2.2.2.1+(1:Int))),(v.2.2.2.2++([[(.i .i64 (0:Int)),(.i .i64 (0:Int)),(.i .i64 (0:Int)),(.s c.2),(.i .i64 (0:Int))]]:RW))))) .fail) .fail))))))))) .fail)) .fail) (.done (.inr ((v.1,v.2.2.1,v.2.2.2.2)))))
def LJ (n:Nat) (x0:BA):Tr (RW×Bool):=(.opt (Lv n x0) λd=>(.ask ((!d.2)) (.ask (decide (0=([]:RW).length)) (.done (([]:RW),false)) .fail) (.ask ((decide ((d.1.length:Int)>(30:Int)))) (.ask (decide (0=([]:RW).length)) (.done (([]:RW),false)) .fail) (.opt (zF (Hm n) n (x0,d.1,(0:Nat),(0:Int),([]:RW))) λa=>(.ask (decide (a.2.1=a.2.2.length)) (.opt (HF n a.2.2) λf=>(.ask (cI (⟨(.c (.p (.b f))),[],[]⟩:Res)) (.ask ((!f)) (.ask (decide (0=([]:RW).length)) (.done (([]:RW),false)) .fail) (.ask (decide (a.2.1=a.2.2.length)) (.opt (IL n a.2.2) λg=>(.ask (cI (⟨(.c (.p (.s g))),[],[]⟩:Res)) (.ask ((!(g.toList==a.1.toList))) (.ask (decide (0=([]:RW).length)) (.done (([]:RW),false)) .fail) (.ask (decide (a.2.1=a.2.2.length)) (.done (a.2.2,true)) .fail)) .fail)) .fail)) .fail)) .fail)))))
def JK:Nat->BA->Option (RW×Bool)
 |0,_=>none
 |n+1,x0=>(LJ n x0).run
abbrev OW (n:Nat):List (Ent (Rn n)):= [en (Ut n),en (Wu n),en (KM n),en (LR n),en (Jq n),en (Ki n)]
def Qd (n:Nat):LEnt (KB 19) (Rn n) n:=lok (zd 19) 125 ⟨⟨[(0,aS),(4,aL),(6,(.c (.own 0 1856 0 0))),(7,aI)],cz,[]⟩,[(.exit 0,⟨[(0,aS),(6,(.c (.own 0 1856 0 0)))],cz,[]⟩)]⟩ (Hm n) (OW n) [] λ_=>by kernel_rfl
theorem TT:∀n,Ok (Rn n) Uv (JK n)
 |0=>ok0 λ_=>rfl
 |n+1=>stO (T:=LJ n) (by kernel_rfl) (OW n) [Qd n] (λ_=>by kernel_rfl) λ_=>by kernel_rfl
def RZ:Sg:=⟨3,[aL],[],⟨aB,[],[]⟩⟩
def Kl (n:Nat) (x0:RW):Tr (Bool):=(.opt (Hl n x0) λa=>(.opt (IK n a) λb=>(.opt (JK n a) λc=>(.ask ((b.2==c.2)) (.ask ((!b.2)) (.done true) (.opt (IJ n b.1) λd=>(.done (d.toList==a.toList)))) (.done false)))))
def Je (n:Nat) (x0:RW):Tr (Bool):=(.opt (Om n x0) λd=>(.ask (d) (.done true) (.opt (Ix n x0) λa=>(.opt (IJ n a) λb=>(.opt (IK n b) λc=>(.opt (IL n a) λf=>(.ask ((!(b.toList==f.toList))) (.done false) (.opt (II n a) λg=>(.opt (HF n a) λh=>(.ask ((!(g==h))) (.done false) (.opt (II n a) λj=>(.ask (j) (.ask ((!c.2)) (.done false) (.opt (LH n c.1 a) λk=>(.ask ((!k)) (.done false) (Kl n x0)))) (Kl n x0)))))))))))))
def L8:Nat->RW->Option (Bool)
 |0,_=>none
 |n+1,x0=>(Je n x0).run
abbrev Ra (n:Nat):List (Ent (Rn n)):= [en (ZE n),en (Po n),en (TL n),en (TP n),en (Ki n),en (Lu n),en (Jq n),en (TQ n),en (Pz n),en (TT n)]
theorem Qe:∀n,Ok (Rn n) RZ (L8 n)
 |0=>ok0 λ_=>rfl
 |n+1=>stO (T:=Je n) (by kernel_rfl) (Ra n) [] (λ_=>by kernel_rfl) λ_=>by kernel_rfl
end
end Go.Proofs.YtilkdjfhbahhdabGreatDoor.KFnMacroTexts

