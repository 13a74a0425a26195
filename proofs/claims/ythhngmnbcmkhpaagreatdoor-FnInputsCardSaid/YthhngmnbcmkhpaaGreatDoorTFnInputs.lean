import Derived.Test.YthhngmnbcmkhpaaGreatDoorKFnInputs
namespace Go.Proofs.YthhngmnbcmkhpaaGreatDoor.KFnInputs
open Go.Eng
set_option linter.unusedVariables false
set_option maxRecDepth 100000
noncomputable section
abbrev RW:=List (List PV)
abbrev BA:=ByteArray
def qQU:Sg:=⟨14,[aL],[],⟨aB,[],[]⟩⟩
def qKE (n:Nat) (x0:RW):Tr (Bool):=(.done (decide ((x0.length:Int)>(1048576:Int))))
def qHq:Nat→RW→Option (Bool)
 |0,_=>none
 |n+1,x0=>(qKE n x0).run
theorem qPk:∀n,Ok (Rn n) qQU (qHq n)
 |0=>ok0 fun _=>rfl
 |n+1=>stO (T:=qKE n) (by kernel_rfl) [] [] (fun _=>(by kernel_rfl)) fun _=>(by kernel_rfl)
def qOK:Sg:=⟨42,[aL],[],⟨(.c (.ptr 0 0 0 0 0)),[],[⟨0,2,112,(.box [qL,qI])⟩]⟩⟩
def qGz (n:Nat) (x0:RW):Tr (RW×Int):=(.done (x0,(0:Int)))
def qFA:Nat→RW→Option (RW×Int)
 |0,_=>none
 |n+1,x0=>(qGz n x0).run
theorem qNN:∀n,Ok (Rn n) qOK (qFA n)
 |0=>ok0 fun _=>rfl
 |n+1=>stO (T:=qGz n) (by kernel_rfl) [] [] (fun _=>(by kernel_rfl)) fun _=>(by kernel_rfl)
def qLf:Sg:=⟨99,[(.c (.ptr 0 0 0 0 0))],[[(0,⟨0,2,112,(.box [qL,qI])⟩)]],⟨aI,[[(0,⟨0,2,112,(.box [qL,qI])⟩)]],[]⟩⟩
def qDe (n:Nat) (x0:RW) (x1:Int):Tr (Int×RW×Int):=(.ask ((decide (x1≥(x0.length:Int)))) (.done ((0:Int),x0,x1)) (.ask (decide (0≤(IntKind.i64.wrap ((IntKind.i64.wrap (x1+(1:Int)))-(1:Int)))∧(IntKind.i64.wrap ((IntKind.i64.wrap (x1+(1:Int)))-(1:Int)))<x0.length)) (.opt (x0[((IntKind.i64.wrap ((IntKind.i64.wrap (x1+(1:Int)))-(1:Int)))).toNat]?) fun e3=>(.ask (decide (e3.length=1)) (.opt (zF .u8 e3 0) fun y4=>(.done ((IntKind.i64.wrap y4),x0,(IntKind.i64.wrap (x1+(1:Int)))))) .fail)) .fail))
def qBP:Nat→RW→Int→Option (Int×RW×Int)
 |0,_,_=>none
 |n+1,x0,x1=>(qDe n x0 x1).run
theorem qGe:∀n,Ok (Rn n) qLf (qBP n)
 |0=>ok0 fun _=>rfl
 |n+1=>stO (T:=qDe n) (by kernel_rfl) [] [] (fun _=>(by kernel_rfl)) fun _=>(by kernel_rfl)
def qKo:Sg:=⟨44,[(.c (.ptr 0 0 0 0 0)),aI],[[(0,⟨0,2,112,(.box [qL,qI])⟩)]],⟨aI,[[(0,⟨0,2,112,(.box [qL,qI])⟩)]],[]⟩⟩
def qCY (n:Nat) (x0:Int) (x1:RW) (x2:Int):Tr (Int×RW×Int):=(.ask ((decide (x0≤(1:Int)))) (.done ((0:Int),x1,x2)) (.ask ((decide (x0≤(256:Int)))) (.opt (qBP n x1 x2) fun r5=>(.ask (decide (x0=0)) .fail (.done ((Int.tmod r5.1 x0),r5.2.1,r5.2.2)))) (.opt (qBP n x1 x2) fun r6=>(.opt (qBP n r6.2.1 r6.2.2) fun r7=>(.ask (decide (x0=0)) .fail (.done ((Int.tmod (IntKind.i64.wrap ((IntKind.i64.wrap (r6.1*(256:Int)))+r7.1)) x0),r7.2.1,r7.2.2)))))))
def qP:Nat→Int→RW→Int→Option (Int×RW×Int)
 |0,_,_,_=>none
 |n+1,x0,x1,x2=>(qCY n x0 x1 x2).run
abbrev qKp (n:Nat):List (Ent (Rn n)):= [en (qGe n)]
theorem qA2:∀n,Ok (Rn n) qKo (qP n)
 |0=>ok0 fun _=>rfl
 |n+1=>stO (T:=qCY n) (by kernel_rfl) (qKp n) [] (fun _=>(by kernel_rfl)) fun _=>(by kernel_rfl)
def qMl:Sg:=⟨95,[(.c (.ptr 0 0 0 0 0))],[[(0,⟨0,2,112,(.box [qL,qI])⟩)]],⟨(.agg [qI,qI]),[[(0,⟨0,2,112,(.box [qL,qI])⟩)]],[]⟩⟩
def qFV (n:Nat) (x0:RW) (x1:Int):Tr (Int×Int×RW×Int):=(.opt (qP n (3:Int) x0 x1) fun r10=>(.opt (qP n (4:Int) r10.2.1 r10.2.2) fun r11=>(.done ((IntKind.i64.wrap ((1:Int)+r10.1)),(IntKind.i64.wrap ((1:Int)+r11.1)),r11.2.1,r11.2.2))))
def qAi:Nat→RW→Int→Option (Int×Int×RW×Int)
 |0,_,_=>none
 |n+1,x0,x1=>(qFV n x0 x1).run
abbrev qMm (n:Nat):List (Ent (Rn n)):= [en (qA2 n)]
theorem qHR:∀n,Ok (Rn n) qMl (qAi n)
 |0=>ok0 fun _=>rfl
 |n+1=>stO (T:=qFV n) (by kernel_rfl) (qMm n) [] (fun _=>(by kernel_rfl)) fun _=>(by kernel_rfl)
def qLg:Sg:=⟨67,[(.c (.ptr 0 0 0 0 0)),aI],[[(0,⟨0,2,112,(.box [qL,qI])⟩)]],⟨aB,[[(0,⟨0,2,112,(.box [qL,qI])⟩)]],[]⟩⟩
def qEy (n:Nat) (x0:Int) (x1:RW) (x2:Int):Tr (Bool×RW×Int):=(.opt (qP n x0 x1 x2) fun r13=>(.done ((r13.1==(IntKind.i64.wrap (x0-(1:Int)))),r13.2.1,r13.2.2)))
def qf:Nat→Int→RW→Int→Option (Bool×RW×Int)
 |0,_,_,_=>none
 |n+1,x0,x1,x2=>(qEy n x0 x1 x2).run
abbrev qLh (n:Nat):List (Ent (Rn n)):= [en (qA2 n)]
theorem qDO:∀n,Ok (Rn n) qLg (qf n)
 |0=>ok0 fun _=>rfl
 |n+1=>stO (T:=qEy n) (by kernel_rfl) (qLh n) [] (fun _=>(by kernel_rfl)) fun _=>(by kernel_rfl)
def qPl:Sg:=⟨53,[aI,aI,aI],[],⟨aB,[],[]⟩⟩
def qGf (n:Nat) (x0 x1 x2:Int):Tr (Bool):=(.ask ((decide (x0≥x1))) (.done (decide (x0≤x2))) (.done false))
def qBQ:Nat→Int→Int→Int→Option (Bool)
 |0,_,_,_=>none
 |n+1,x0,x1,x2=>(qGf n x0 x1 x2).run
theorem qER:∀n,Ok (Rn n) qPl (qBQ n)
 |0=>ok0 fun _=>rfl
 |n+1=>stO (T:=qGf n) (by kernel_rfl) [] [] (fun _=>(by kernel_rfl)) fun _=>(by kernel_rfl)
def qPA:Sg:=⟨74,[(.agg [qI,qI])],[],⟨aB,[],[]⟩⟩
def qHr (n:Nat) (x0 x1:Int):Tr (Bool):=(.opt (qBQ n x0 (1:Int) (52:Int)) fun r16=>(.ask (r16) (.opt (qBQ n x1 (1:Int) (99:Int)) fun r17=>(.done r17)) (.done false)))
def qAh:Nat→Int→Int→Option (Bool)
 |0,_,_=>none
 |n+1,x0,x1=>(qHr n x0 x1).run
abbrev qPB (n:Nat):List (Ent (Rn n)):= [en (qER n)]
theorem qFB:∀n,Ok (Rn n) qPA (qAh n)
 |0=>ok0 fun _=>rfl
 |n+1=>stO (T:=qHr n) (by kernel_rfl) (qPB n) [] (fun _=>(by kernel_rfl)) fun _=>(by kernel_rfl)
def qNO:Sg:=⟨139,[aI],[],⟨aS,[],[]⟩⟩
def qBY (n:Nat) (v:Int×BA):Tr ((Int×BA)⊕((BA))):=(.ask ((decide (v.1>(0:Int)))) (.ask (decide (1=([[(.i .u8 (IntKind.u8.wrap (IntKind.i64.wrap ((65:Int)+(Int.tmod (IntKind.i64.wrap (v.1-(1:Int))) (26:Int))))))]]:RW).length)) (.opt (bytesOf ([[(.i .u8 (IntKind.u8.wrap (IntKind.i64.wrap ((65:Int)+(Int.tmod (IntKind.i64.wrap (v.1-(1:Int))) (26:Int))))))]]:RW)) fun l20=>(.ask (decide ((⟨l20.toArray⟩:BA).size+v.2.size≤9223372036854775807)) (.done (.inl ((IntKind.i64.wrap (Int.tdiv (IntKind.i64.wrap (v.1-(1:Int))) (26:Int))),((⟨l20.toArray⟩:BA)++v.2)))) .fail)) .fail) (.done (.inr (v.2))))
def qES (n:Nat) (x0:Int):Tr (BA):=(.opt (qBQ n x0 (1:Int) (52:Int)) fun r19=>(.ask ((!r19)) (.done (⟨#[]⟩:BA)) (.opt (zC (qBY n) n (x0,(⟨#[]⟩:BA))) fun r21=>(.done r21))))
def qCw:Nat→Int→Option (BA)
 |0,_=>none
 |n+1,x0=>(qES n x0).run
abbrev qIn (n:Nat):List (Ent (Rn n)):= [en (qER n)]
def qKq (n:Nat):LEnt (KB 139) (Rn n) n:=lok (zU 139) 30 ⟨⟨[(0,aI),(3,aS)],[],[]⟩,[(.exit 0,⟨[(3,aS)],[],[]⟩)]⟩ (qBY n) (qIn n) [] fun _=>(by kernel_rfl)
theorem qIH:∀n,Ok (Rn n) qNO (qCw n)
 |0=>ok0 fun _=>rfl
 |n+1=>stO (T:=qES n) (by kernel_rfl) (qIn n) [qKq n] (fun _=>(by kernel_rfl)) fun _=>(by kernel_rfl)
def qHs:Sg:=⟨96,[aI],[],⟨aS,[],[]⟩⟩
def qDH (n:Nat) (v:Int×BA):Tr ((Int×BA)⊕((Int×BA))):=(.ask ((decide (v.1≥(10:Int)))) (.ask (decide (1=([[(.i .u8 (IntKind.u8.wrap (IntKind.i64.wrap ((48:Int)+(Int.tmod v.1 (10:Int))))))]]:RW).length)) (.opt (bytesOf ([[(.i .u8 (IntKind.u8.wrap (IntKind.i64.wrap ((48:Int)+(Int.tmod v.1 (10:Int))))))]]:RW)) fun l24=>(.ask (decide ((⟨l24.toArray⟩:BA).size+v.2.size≤9223372036854775807)) (.done (.inl ((IntKind.i64.wrap (Int.tdiv v.1 (10:Int))),((⟨l24.toArray⟩:BA)++v.2)))) .fail)) .fail) (.done (.inr ((v.1,v.2)))))
def qFs (rec:Int→Option (BA)) (n:Nat) (x0:Int):Tr (BA):=(.ask ((decide (x0<(0:Int)))) (.opt (rec (IntKind.i64.wrap (0-x0))) fun r23=>(.ask (decide ((⟨#[45]⟩:BA).size+r23.size≤9223372036854775807)) (.done ((⟨#[45]⟩:BA)++r23)) .fail)) (.opt (zC (qDH n) n (x0,(⟨#[]⟩:BA))) fun r25=>(.ask (decide (1=([[(.i .u8 (IntKind.u8.wrap (IntKind.i64.wrap ((48:Int)+r25.1))))]]:RW).length)) (.opt (bytesOf ([[(.i .u8 (IntKind.u8.wrap (IntKind.i64.wrap ((48:Int)+r25.1))))]]:RW)) fun l26=>(.ask (decide ((⟨l26.toArray⟩:BA).size+r25.2.size≤9223372036854775807)) (.done ((⟨l26.toArray⟩:BA)++r25.2)) .fail)) .fail)))
def qAB:Nat→Int→Option (BA)
 |0,_=>none
 |n+1,x0=>(qFs (qAB n) n x0).run
abbrev qKr (n:Nat) (ih:Ok (Rn n) qHs (qAB n)):List (Ent (Rn n)):= [en ih]
def qMn (n:Nat) (ih:Ok (Rn n) qHs (qAB n)):LEnt (KB 96) (Rn n) n:=lok (zU 96) 30 ⟨⟨[(0,aI),(3,aS)],[],[]⟩,[(.exit 0,⟨[(0,aI),(3,aS)],[],[]⟩)]⟩ (qDH n) (qKr n ih) [] fun _=>(by kernel_rfl)
theorem qDK:∀n,Ok (Rn n) qHs (qAB n)
 |0=>ok0 fun _=>rfl
 |n+1=>stO (T:=qFs (qAB n) n) (by kernel_rfl) (qKr n (qDK n)) [qMn n (qDK n)] (fun _=>(by kernel_rfl)) fun _=>(by kernel_rfl)
def qLi:Sg:=⟨94,[(.agg [qI,qI,qB,qB])],[],⟨aS,[],[]⟩⟩
def qDf (n:Nat) (x0 x1:Int) (x2 x3:Bool):Tr (BA):=(.opt (qAh n x0 x1) fun r18=>(.ask ((!r18)) (.done (⟨#[]⟩:BA)) (.opt (qCw n x0) fun r22=>(.ask (x2) (.ask (decide ((⟨#[36]⟩:BA).size+r22.size≤9223372036854775807)) (.ask (x3) (.ask (decide (((⟨#[36]⟩:BA)++r22).size+(⟨#[36]⟩:BA).size≤9223372036854775807)) (.opt (qAB n x1) fun r27=>(.ask (decide ((((⟨#[36]⟩:BA)++r22)++(⟨#[36]⟩:BA)).size+r27.size≤9223372036854775807)) (.done ((((⟨#[36]⟩:BA)++r22)++(⟨#[36]⟩:BA))++r27)) .fail)) .fail) (.opt (qAB n x1) fun r28=>(.ask (decide (((⟨#[36]⟩:BA)++r22).size+r28.size≤9223372036854775807)) (.done (((⟨#[36]⟩:BA)++r22)++r28)) .fail))) .fail) (.ask (x3) (.ask (decide (r22.size+(⟨#[36]⟩:BA).size≤9223372036854775807)) (.opt (qAB n x1) fun r29=>(.ask (decide ((r22++(⟨#[36]⟩:BA)).size+r29.size≤9223372036854775807)) (.done ((r22++(⟨#[36]⟩:BA))++r29)) .fail)) .fail) (.opt (qAB n x1) fun r30=>(.ask (decide (r22.size+r30.size≤9223372036854775807)) (.done (r22++r30)) .fail)))))))
def qh:Nat→Int→Int→Bool→Bool→Option (BA)
 |0,_,_,_,_=>none
 |n+1,x0,x1,x2,x3=>(qDf n x0 x1 x2 x3).run
abbrev qLj (n:Nat):List (Ent (Rn n)):= [en (qFB n),en (qIH n),en (qDK n)]
theorem qGg:∀n,Ok (Rn n) qLi (qh n)
 |0=>ok0 fun _=>rfl
 |n+1=>stO (T:=qDf n) (by kernel_rfl) (qLj n) [] (fun _=>(by kernel_rfl)) fun _=>(by kernel_rfl)
def qLk:Sg:=⟨175,[(.c (.ptr 0 0 0 0 0))],[[(0,⟨0,2,112,(.box [qL,qI])⟩)]],⟨(.c (.p (.i .u64 0))),[[(0,⟨0,2,112,(.box [qL,qI])⟩)]],[]⟩⟩
def qB8 (n:Nat) (v:Int×Int×RW×Int):Tr ((Int×Int×RW×Int)⊕((Int×RW×Int))):=(.ask ((decide (v.2.1<(8:Int)))) (.opt (qBP n v.2.2.1 v.2.2.2) fun r75=>(.done (.inl ((IntKind.u64.wrap ((BitVec.ofInt IntKind.u64.bits (IntKind.u64.wrap (v.1*(2:Int)^(8:Nat)))|||BitVec.ofInt IntKind.u64.bits (IntKind.u64.wrap r75.1)).toNat:Int)),(IntKind.i64.wrap (v.2.1+(1:Int))),r75.2.1,r75.2.2)))) (.done (.inr ((v.1,v.2.2.1,v.2.2.2)))))
def qEz (n:Nat) (x0:RW) (x1:Int):Tr (Int×RW×Int):=(.opt (zC (qB8 n) n ((0:Int),(0:Int),x0,x1)) fun r76=>(.done (r76.1,r76.2.1,r76.2.2)))
def qDg:Nat→RW→Int→Option (Int×RW×Int)
 |0,_,_=>none
 |n+1,x0,x1=>(qEz n x0 x1).run
abbrev qHS (n:Nat):List (Ent (Rn n)):= [en (qGe n)]
def qJh (n:Nat):LEnt (KB 175) (Rn n) n:=lok (zU 175) 29 ⟨⟨[(0,(.c (.ptr 0 0 0 0 0))),(3,(.c (.p (.i .u64 0)))),(4,aI)],[],[[(0,⟨0,2,112,(.box [qL,qI])⟩)]]⟩,[(.exit 0,⟨[(3,(.c (.p (.i .u64 0))))],[],[[(0,⟨0,2,112,(.box [qL,qI])⟩)]]⟩)]⟩ (qB8 n) (qHS n) [] fun _=>(by kernel_rfl)
theorem qKs:∀n,Ok (Rn n) qLk (qDg n)
 |0=>ok0 fun _=>rfl
 |n+1=>stO (T:=qEz n) (by kernel_rfl) (qHS n) [qJh n] (fun _=>(by kernel_rfl)) fun _=>(by kernel_rfl)
def qLl:Sg:=⟨147,[(.c (.ptr 0 0 0 0 0)),aI,aI],[[(0,⟨0,2,112,(.box [qL,qI])⟩)]],⟨aI,[[(0,⟨0,2,112,(.box [qL,qI])⟩)]],[]⟩⟩
def qCx (n:Nat) (x0 x1:Int) (x2:RW) (x3:Int):Tr (Int×RW×Int):=(.opt (qP n (8:Int) x2 x3) fun r74=>(.ask ((r74.1==(0:Int))) (.done (x0,r74.2.1,r74.2.2)) (.ask ((r74.1==(1:Int))) (.done (x1,r74.2.1,r74.2.2)) (.ask ((decide (x1<x0))) (.done (x0,r74.2.1,r74.2.2)) (.opt (qDg n r74.2.1 r74.2.2) fun r77=>(.ask (decide ((IntKind.u64.wrap (IntKind.i64.wrap ((IntKind.i64.wrap (x1-x0))+(1:Int))))=0)) .fail (.done ((IntKind.i64.wrap (x0+(IntKind.i64.wrap (Int.tmod (Int.fdiv r77.1 ((2:Int)^(1:Nat))) (IntKind.u64.wrap (IntKind.i64.wrap ((IntKind.i64.wrap (x1-x0))+(1:Int)))))))),r77.2.1,r77.2.2))))))))
def qCJ:Nat→Int→Int→RW→Int→Option (Int×RW×Int)
 |0,_,_,_,_=>none
 |n+1,x0,x1,x2,x3=>(qCx n x0 x1 x2 x3).run
abbrev qLm (n:Nat):List (Ent (Rn n)):= [en (qA2 n),en (qKs n)]
theorem qKt:∀n,Ok (Rn n) qLl (qCJ n)
 |0=>ok0 fun _=>rfl
 |n+1=>stO (T:=qCx n) (by kernel_rfl) (qLm n) [] (fun _=>(by kernel_rfl)) fun _=>(by kernel_rfl)
def qMo:Sg:=⟨106,[(.c (.ptr 0 0 0 0 0)),aI,aI],[[(0,⟨0,2,112,(.box [qL,qI])⟩)]],⟨aI,[[(0,⟨0,2,112,(.box [qL,qI])⟩)]],[]⟩⟩
def qB6 (n:Nat) (x0 x1:Int) (x2:RW) (x3:Int):Tr (Int×RW×Int):=(.opt (qf n (24:Int) x2 x3) fun r70=>(.ask (r70.1) (.opt (qP n (4:Int) r70.2.1 r70.2.2) fun r71=>(.ask (decide (4=([[(.i .i64 (IntKind.i64.wrap (x0-(1:Int))))],[(.i .i64 (IntKind.i64.wrap (x1+(1:Int))))],[(.i .i64 (-9223372036854775808:Int))],[(.i .i64 (9223372036854775807:Int))]]:RW).length∧0≤r71.1∧r71.1<((4:Nat):Int))) (.opt (([[(.i .i64 (IntKind.i64.wrap (x0-(1:Int))))],[(.i .i64 (IntKind.i64.wrap (x1+(1:Int))))],[(.i .i64 (-9223372036854775808:Int))],[(.i .i64 (9223372036854775807:Int))]]:RW)[(r71.1).toNat]?) fun e72=>(.opt (zF .i64 e72 0) fun y73=>(.done (y73,r71.2.1,r71.2.2)))) .fail)) (.opt (qCJ n x0 x1 r70.2.1 r70.2.2) fun r78=>(.done (r78.1,r78.2.1,r78.2.2)))))
def qBg:Nat→Int→Int→RW→Int→Option (Int×RW×Int)
 |0,_,_,_,_=>none
 |n+1,x0,x1,x2,x3=>(qB6 n x0 x1 x2 x3).run
abbrev qMp (n:Nat):List (Ent (Rn n)):= [en (qDO n),en (qA2 n),en (qKt n)]
theorem qLn:∀n,Ok (Rn n) qMo (qBg n)
 |0=>ok0 fun _=>rfl
 |n+1=>stO (T:=qB6 n) (by kernel_rfl) (qMp n) [] (fun _=>(by kernel_rfl)) fun _=>(by kernel_rfl)
def qLo:Sg:=⟨97,[(.c (.ptr 0 0 0 0 0))],[[(0,⟨0,2,112,(.box [qL,qI])⟩)]],⟨(.agg [qI,qI,qI,qI]),[[(0,⟨0,2,112,(.box [qL,qI])⟩)]],[]⟩⟩
def qDh (n:Nat) (x0:RW) (x1:Int):Tr (Int×Int×Int×Int×RW×Int):=(.opt (qAi n x0 x1) fun r67=>(.opt (qAi n r67.2.2.1 r67.2.2.2) fun r68=>(.opt (qf n (20:Int) r68.2.2.1 r68.2.2.2) fun r69=>(.ask (r69.1) (.opt (qBg n (1:Int) (99:Int) r69.2.1 r69.2.2) fun r79=>(.done ((if r68.1<r67.1 then r68.1 else r67.1),(if r68.2.1<r67.2.1 then r68.2.1 else r67.2.1),(if r68.1>r67.1 then r68.1 else r67.1),r79.1,r79.2.1,r79.2.2))) (.done ((if r68.1<r67.1 then r68.1 else r67.1),(if r68.2.1<r67.2.1 then r68.2.1 else r67.2.1),(if r68.1>r67.1 then r68.1 else r67.1),(if r68.2.1>r67.2.1 then r68.2.1 else r67.2.1),r69.2.1,r69.2.2))))))
def qCK:Nat→RW→Int→Option (Int×Int×Int×Int×RW×Int)
 |0,_,_=>none
 |n+1,x0,x1=>(qDh n x0 x1).run
abbrev qLp (n:Nat):List (Ent (Rn n)):= [en (qHR n),en (qDO n),en (qLn n)]
theorem qKu:∀n,Ok (Rn n) qLo (qCK n)
 |0=>ok0 fun _=>rfl
 |n+1=>stO (T:=qDh n) (by kernel_rfl) (qLp n) [] (fun _=>(by kernel_rfl)) fun _=>(by kernel_rfl)
def qOL:Sg:=⟨98,[aI],[],⟨aS,[],[]⟩⟩
def qG0 (n:Nat) (x0:Int):Tr (BA):=(.ask (decide (12=([[(.s (⟨#[]⟩:BA))],[(.s (⟨#[43]⟩:BA))],[(.s (⟨#[45]⟩:BA))],[(.s (⟨#[42]⟩:BA))],[(.s (⟨#[47]⟩:BA))],[(.s (⟨#[38]⟩:BA))],[(.s (⟨#[61]⟩:BA))],[(.s (⟨#[60,62]⟩:BA))],[(.s (⟨#[60]⟩:BA))],[(.s (⟨#[60,61]⟩:BA))],[(.s (⟨#[62]⟩:BA))],[(.s (⟨#[62,61]⟩:BA))]]:RW).length∧0≤x0∧x0<((12:Nat):Int))) (.opt (([[(.s (⟨#[]⟩:BA))],[(.s (⟨#[43]⟩:BA))],[(.s (⟨#[45]⟩:BA))],[(.s (⟨#[42]⟩:BA))],[(.s (⟨#[47]⟩:BA))],[(.s (⟨#[38]⟩:BA))],[(.s (⟨#[61]⟩:BA))],[(.s (⟨#[60,62]⟩:BA))],[(.s (⟨#[60]⟩:BA))],[(.s (⟨#[60,61]⟩:BA))],[(.s (⟨#[62]⟩:BA))],[(.s (⟨#[62,61]⟩:BA))]]:RW)[(x0).toNat]?) fun e103=>(.opt (zp e103 0) fun y104=>(.done y104))) .fail)
def qCG:Nat→Int→Option (BA)
 |0,_=>none
 |n+1,x0=>(qG0 n x0).run
theorem qFx:∀n,Ok (Rn n) qOL (qCG n)
 |0=>ok0 fun _=>rfl
 |n+1=>stO (T:=qG0 n) (by kernel_rfl) [] [] (fun _=>(by kernel_rfl)) fun _=>(by kernel_rfl)
def qGh:Sg:=⟨43,[(.c (.ptr 0 0 0 0 0)),aI],[[(0,⟨0,2,112,(.box [qL,qI])⟩)]],⟨aS,[[(0,⟨0,2,112,(.box [qL,qI])⟩)]],[]⟩⟩
def qCZ (rec:Int→RW→Int→Option (BA×RW×Int)) (n:Nat) (x0:Int) (x1:RW) (x2:Int):Tr (BA×RW×Int):=(.ask ((x0==(0:Int))) (.opt (qP n (7:Int) x1 x2) fun r9=>(.ask ((r9.1==(0:Int))) (.opt (qAi n r9.2.1 r9.2.2) fun r12=>(.opt (qf n (5:Int) r12.2.2.1 r12.2.2.2) fun r14=>(.opt (qf n (5:Int) r14.2.1 r14.2.2) fun r15=>(.opt (qh n r12.1 r12.2.1 r14.1 r15.1) fun r31=>(.done (r31,r15.2.1,r15.2.2)))))) (.ask ((r9.1==(1:Int))) (.opt (qAi n r9.2.1 r9.2.2) fun r32=>(.opt (qf n (5:Int) r32.2.2.1 r32.2.2.2) fun r33=>(.opt (qf n (5:Int) r33.2.1 r33.2.2) fun r34=>(.opt (qh n r32.1 r32.2.1 r33.1 r34.1) fun r35=>(.done (r35,r34.2.1,r34.2.2)))))) (.ask ((r9.1==(2:Int))) (.opt (qAi n r9.2.1 r9.2.2) fun r36=>(.opt (qf n (5:Int) r36.2.2.1 r36.2.2.2) fun r37=>(.opt (qf n (5:Int) r37.2.1 r37.2.2) fun r38=>(.opt (qh n r36.1 r36.2.1 r37.1 r38.1) fun r39=>(.done (r39,r38.2.1,r38.2.2)))))) (.ask ((r9.1==(3:Int))) (.opt (qP n (6:Int) r9.2.1 r9.2.2) fun r40=>(.ask (decide (6=([[(.s (⟨#[34,97,34]⟩:BA))],[(.s (⟨#[34,34]⟩:BA))],[(.s (⟨#[84,82,85,69]⟩:BA))],[(.s (⟨#[70,65,76,83,69]⟩:BA))],[(.s (⟨#[35,82,69,70,33]⟩:BA))],[(.s (⟨#[34,113,34,34,34]⟩:BA))]]:RW).length∧0≤r40.1∧r40.1<((6:Nat):Int))) (.opt (([[(.s (⟨#[34,97,34]⟩:BA))],[(.s (⟨#[34,34]⟩:BA))],[(.s (⟨#[84,82,85,69]⟩:BA))],[(.s (⟨#[70,65,76,83,69]⟩:BA))],[(.s (⟨#[35,82,69,70,33]⟩:BA))],[(.s (⟨#[34,113,34,34,34]⟩:BA))]]:RW)[(r40.1).toNat]?) fun e41=>(.opt (zp e41 0) fun y42=>(.done (y42,r40.2.1,r40.2.2)))) .fail)) (.opt (qP n (12:Int) r9.2.1 r9.2.2) fun r43=>(.opt (qAB n r43.1) fun r44=>(.done (r44,r43.2.1,r43.2.2))))))))) (.opt (qf n (3:Int) x1 x2) fun r45=>(.ask (r45.1) (.opt (qP n (7:Int) r45.2.1 r45.2.2) fun r46=>(.ask ((r46.1==(0:Int))) (.opt (qAi n r46.2.1 r46.2.2) fun r47=>(.opt (qf n (5:Int) r47.2.2.1 r47.2.2.2) fun r48=>(.opt (qf n (5:Int) r48.2.1 r48.2.2) fun r49=>(.opt (qh n r47.1 r47.2.1 r48.1 r49.1) fun r50=>(.done (r50,r49.2.1,r49.2.2)))))) (.ask ((r46.1==(1:Int))) (.opt (qAi n r46.2.1 r46.2.2) fun r51=>(.opt (qf n (5:Int) r51.2.2.1 r51.2.2.2) fun r52=>(.opt (qf n (5:Int) r52.2.1 r52.2.2) fun r53=>(.opt (qh n r51.1 r51.2.1 r52.1 r53.1) fun r54=>(.done (r54,r53.2.1,r53.2.2)))))) (.ask ((r46.1==(2:Int))) (.opt (qAi n r46.2.1 r46.2.2) fun r55=>(.opt (qf n (5:Int) r55.2.2.1 r55.2.2.2) fun r56=>(.opt (qf n (5:Int) r56.2.1 r56.2.2) fun r57=>(.opt (qh n r55.1 r55.2.1 r56.1 r57.1) fun r58=>(.done (r58,r57.2.1,r57.2.2)))))) (.ask ((r46.1==(3:Int))) (.opt (qP n (6:Int) r46.2.1 r46.2.2) fun r59=>(.ask (decide (6=([[(.s (⟨#[34,97,34]⟩:BA))],[(.s (⟨#[34,34]⟩:BA))],[(.s (⟨#[84,82,85,69]⟩:BA))],[(.s (⟨#[70,65,76,83,69]⟩:BA))],[(.s (⟨#[35,82,69,70,33]⟩:BA))],[(.s (⟨#[34,113,34,34,34]⟩:BA))]]:RW).length∧0≤r59.1∧r59.1<((6:Nat):Int))) (.opt (([[(.s (⟨#[34,97,34]⟩:BA))],[(.s (⟨#[34,34]⟩:BA))],[(.s (⟨#[84,82,85,69]⟩:BA))],[(.s (⟨#[70,65,76,83,69]⟩:BA))],[(.s (⟨#[35,82,69,70,33]⟩:BA))],[(.s (⟨#[34,113,34,34,34]⟩:BA))]]:RW)[(r59.1).toNat]?) fun e60=>(.opt (zp e60 0) fun y61=>(.done (y61,r59.2.1,r59.2.2)))) .fail)) (.opt (qP n (12:Int) r46.2.1 r46.2.2) fun r62=>(.opt (qAB n r62.1) fun r63=>(.done (r63,r62.2.1,r62.2.2))))))))) (.opt (qP n (8:Int) r45.2.1 r45.2.2) fun r64=>(.ask ((r64.1==(0:Int))) (.opt (rec (IntKind.i64.wrap (x0-(1:Int))) r64.2.1 r64.2.2) fun r65=>(.ask (decide ((⟨#[45]⟩:BA).size+r65.1.size≤9223372036854775807)) (.done (((⟨#[45]⟩:BA)++r65.1),r65.2.1,r65.2.2)) .fail)) (.ask ((r64.1==(1:Int))) (.opt (rec (IntKind.i64.wrap (x0-(1:Int))) r64.2.1 r64.2.2) fun r66=>(.ask (decide ((⟨#[40]⟩:BA).size+r66.1.size≤9223372036854775807)) (.ask (decide (((⟨#[40]⟩:BA)++r66.1).size+(⟨#[41]⟩:BA).size≤9223372036854775807)) (.done ((((⟨#[40]⟩:BA)++r66.1)++(⟨#[41]⟩:BA)),r66.2.1,r66.2.2)) .fail) .fail)) (.ask ((r64.1==(2:Int))) (.opt (qCK n r64.2.1 r64.2.2) fun r80=>(.opt (qP n (6:Int) r80.2.2.2.2.1 r80.2.2.2.2.2) fun r81=>(.ask (decide (6=([[(.s (⟨#[83,85,77]⟩:BA))],[(.s (⟨#[77,73,78]⟩:BA))],[(.s (⟨#[77,65,88]⟩:BA))],[(.s (⟨#[67,79,85,78,84]⟩:BA))],[(.s (⟨#[65,78,68]⟩:BA))],[(.s (⟨#[79,82]⟩:BA))]]:RW).length∧0≤r81.1∧r81.1<((6:Nat):Int))) (.opt (([[(.s (⟨#[83,85,77]⟩:BA))],[(.s (⟨#[77,73,78]⟩:BA))],[(.s (⟨#[77,65,88]⟩:BA))],[(.s (⟨#[67,79,85,78,84]⟩:BA))],[(.s (⟨#[65,78,68]⟩:BA))],[(.s (⟨#[79,82]⟩:BA))]]:RW)[(r81.1).toNat]?) fun e82=>(.opt (zp e82 0) fun y83=>(.ask (decide (y83.size+(⟨#[40]⟩:BA).size≤9223372036854775807)) (.opt (qh n r80.1 r80.2.1 false false) fun r84=>(.ask (decide ((y83++(⟨#[40]⟩:BA)).size+r84.size≤9223372036854775807)) (.ask (decide (((y83++(⟨#[40]⟩:BA))++r84).size+(⟨#[58]⟩:BA).size≤9223372036854775807)) (.opt (qh n r80.2.2.1 r80.2.2.2.1 false false) fun r85=>(.ask (decide ((((y83++(⟨#[40]⟩:BA))++r84)++(⟨#[58]⟩:BA)).size+r85.size≤9223372036854775807)) (.ask (decide (((((y83++(⟨#[40]⟩:BA))++r84)++(⟨#[58]⟩:BA))++r85).size+(⟨#[44]⟩:BA).size≤9223372036854775807)) (.opt (rec (IntKind.i64.wrap (x0-(1:Int))) r81.2.1 r81.2.2) fun r86=>(.ask (decide ((((((y83++(⟨#[40]⟩:BA))++r84)++(⟨#[58]⟩:BA))++r85)++(⟨#[44]⟩:BA)).size+r86.1.size≤9223372036854775807)) (.ask (decide (((((((y83++(⟨#[40]⟩:BA))++r84)++(⟨#[58]⟩:BA))++r85)++(⟨#[44]⟩:BA))++r86.1).size+(⟨#[41]⟩:BA).size≤9223372036854775807)) (.done ((((((((y83++(⟨#[40]⟩:BA))++r84)++(⟨#[58]⟩:BA))++r85)++(⟨#[44]⟩:BA))++r86.1)++(⟨#[41]⟩:BA)),r86.2.1,r86.2.2)) .fail) .fail)) .fail) .fail)) .fail) .fail)) .fail))) .fail))) (.ask ((r64.1==(3:Int))) (.opt (qCK n r64.2.1 r64.2.2) fun r87=>(.opt (qP n (6:Int) r87.2.2.2.2.1 r87.2.2.2.2.2) fun r88=>(.ask (decide (6=([[(.s (⟨#[83,85,77]⟩:BA))],[(.s (⟨#[77,73,78]⟩:BA))],[(.s (⟨#[77,65,88]⟩:BA))],[(.s (⟨#[67,79,85,78,84]⟩:BA))],[(.s (⟨#[65,78,68]⟩:BA))],[(.s (⟨#[79,82]⟩:BA))]]:RW).length∧0≤r88.1∧r88.1<((6:Nat):Int))) (.opt (([[(.s (⟨#[83,85,77]⟩:BA))],[(.s (⟨#[77,73,78]⟩:BA))],[(.s (⟨#[77,65,88]⟩:BA))],[(.s (⟨#[67,79,85,78,84]⟩:BA))],[(.s (⟨#[65,78,68]⟩:BA))],[(.s (⟨#[79,82]⟩:BA))]]:RW)[(r88.1).toNat]?) fun e89=>(.opt (zp e89 0) fun y90=>(.ask (decide (y90.size+(⟨#[40]⟩:BA).size≤9223372036854775807)) (.opt (qh n r87.1 r87.2.1 false false) fun r91=>(.ask (decide ((y90++(⟨#[40]⟩:BA)).size+r91.size≤9223372036854775807)) (.ask (decide (((y90++(⟨#[40]⟩:BA))++r91).size+(⟨#[58]⟩:BA).size≤9223372036854775807)) (.opt (qh n r87.2.2.1 r87.2.2.2.1 false false) fun r92=>(.ask (decide ((((y90++(⟨#[40]⟩:BA))++r91)++(⟨#[58]⟩:BA)).size+r92.size≤9223372036854775807)) (.ask (decide (((((y90++(⟨#[40]⟩:BA))++r91)++(⟨#[58]⟩:BA))++r92).size+(⟨#[44]⟩:BA).size≤9223372036854775807)) (.opt (rec (IntKind.i64.wrap (x0-(1:Int))) r88.2.1 r88.2.2) fun r93=>(.ask (decide ((((((y90++(⟨#[40]⟩:BA))++r91)++(⟨#[58]⟩:BA))++r92)++(⟨#[44]⟩:BA)).size+r93.1.size≤9223372036854775807)) (.ask (decide (((((((y90++(⟨#[40]⟩:BA))++r91)++(⟨#[58]⟩:BA))++r92)++(⟨#[44]⟩:BA))++r93.1).size+(⟨#[41]⟩:BA).size≤9223372036854775807)) (.done ((((((((y90++(⟨#[40]⟩:BA))++r91)++(⟨#[58]⟩:BA))++r92)++(⟨#[44]⟩:BA))++r93.1)++(⟨#[41]⟩:BA)),r93.2.1,r93.2.2)) .fail) .fail)) .fail) .fail)) .fail) .fail)) .fail))) .fail))) (.ask ((r64.1==(4:Int))) (.opt (rec (IntKind.i64.wrap (x0-(1:Int))) r64.2.1 r64.2.2) fun r94=>(.ask (decide ((⟨#[73,70,40]⟩:BA).size+r94.1.size≤9223372036854775807)) (.ask (decide (((⟨#[73,70,40]⟩:BA)++r94.1).size+(⟨#[44]⟩:BA).size≤9223372036854775807)) (.opt (rec (IntKind.i64.wrap (x0-(1:Int))) r94.2.1 r94.2.2) fun r95=>(.ask (decide ((((⟨#[73,70,40]⟩:BA)++r94.1)++(⟨#[44]⟩:BA)).size+r95.1.size≤9223372036854775807)) (.ask (decide (((((⟨#[73,70,40]⟩:BA)++r94.1)++(⟨#[44]⟩:BA))++r95.1).size+(⟨#[44]⟩:BA).size≤9223372036854775807)) (.opt (rec (IntKind.i64.wrap (x0-(1:Int))) r95.2.1 r95.2.2) fun r96=>(.ask (decide ((((((⟨#[73,70,40]⟩:BA)++r94.1)++(⟨#[44]⟩:BA))++r95.1)++(⟨#[44]⟩:BA)).size+r96.1.size≤9223372036854775807)) (.ask (decide (((((((⟨#[73,70,40]⟩:BA)++r94.1)++(⟨#[44]⟩:BA))++r95.1)++(⟨#[44]⟩:BA))++r96.1).size+(⟨#[41]⟩:BA).size≤9223372036854775807)) (.done ((((((((⟨#[73,70,40]⟩:BA)++r94.1)++(⟨#[44]⟩:BA))++r95.1)++(⟨#[44]⟩:BA))++r96.1)++(⟨#[41]⟩:BA)),r96.2.1,r96.2.2)) .fail) .fail)) .fail) .fail)) .fail) .fail)) (.ask ((r64.1==(5:Int))) (.opt (qP n (3:Int) r64.2.1 r64.2.2) fun r97=>(.ask (decide (3=([[(.s (⟨#[78,79,84]⟩:BA))],[(.s (⟨#[65,66,83]⟩:BA))],[(.s (⟨#[76,69,78]⟩:BA))]]:RW).length∧0≤r97.1∧r97.1<((3:Nat):Int))) (.opt (([[(.s (⟨#[78,79,84]⟩:BA))],[(.s (⟨#[65,66,83]⟩:BA))],[(.s (⟨#[76,69,78]⟩:BA))]]:RW)[(r97.1).toNat]?) fun e98=>(.opt (zp e98 0) fun y99=>(.ask (decide (y99.size+(⟨#[40]⟩:BA).size≤9223372036854775807)) (.opt (rec (IntKind.i64.wrap (x0-(1:Int))) r97.2.1 r97.2.2) fun r100=>(.ask (decide ((y99++(⟨#[40]⟩:BA)).size+r100.1.size≤9223372036854775807)) (.ask (decide (((y99++(⟨#[40]⟩:BA))++r100.1).size+(⟨#[41]⟩:BA).size≤9223372036854775807)) (.done ((((y99++(⟨#[40]⟩:BA))++r100.1)++(⟨#[41]⟩:BA)),r100.2.1,r100.2.2)) .fail) .fail)) .fail))) .fail)) (.opt (rec (IntKind.i64.wrap (x0-(1:Int))) r64.2.1 r64.2.2) fun r101=>(.opt (qP n (11:Int) r101.2.1 r101.2.2) fun r102=>(.opt (qCG n (IntKind.i64.wrap ((1:Int)+r102.1))) fun r105=>(.ask (decide (r101.1.size+r105.size≤9223372036854775807)) (.opt (rec (IntKind.i64.wrap (x0-(1:Int))) r102.2.1 r102.2.2) fun r106=>(.ask (decide ((r101.1++r105).size+r106.1.size≤9223372036854775807)) (.done (((r101.1++r105)++r106.1),r106.2.1,r106.2.2)) .fail)) .fail))))))))))))))
def qt:Nat→Int→RW→Int→Option (BA×RW×Int)
 |0,_,_,_=>none
 |n+1,x0,x1,x2=>(qCZ (qt n) n x0 x1 x2).run
abbrev qKv (n:Nat) (ih:Ok (Rn n) qGh (qt n)):List (Ent (Rn n)):= [en (qA2 n),en (qHR n),en (qDO n),en (qGg n),en (qDK n),en ih,en (qKu n),en (qFx n)]
theorem qFy:∀n,Ok (Rn n) qGh (qt n)
 |0=>ok0 fun _=>rfl
 |n+1=>stO (T:=qCZ (qt n) n) (by kernel_rfl) (qKv n (qFy n)) [] (fun _=>(by kernel_rfl)) fun _=>(by kernel_rfl)
def qKw:Sg:=⟨66,[(.c (.ptr 0 0 0 0 0))],[[(0,⟨0,2,112,(.box [qL,qI])⟩)]],⟨aS,[[(0,⟨0,2,112,(.box [qL,qI])⟩)]],[]⟩⟩
def qET (n:Nat) (x0:RW) (x1:Int):Tr (BA×RW×Int):=(.opt (qP n (8:Int) x0 x1) fun r8=>(.ask ((r8.1==(0:Int))) (.opt (qt n (2:Int) r8.2.1 r8.2.2) fun r107=>(.ask (decide ((⟨#[61]⟩:BA).size+r107.1.size≤9223372036854775807)) (.done (((⟨#[61]⟩:BA)++r107.1),r107.2.1,r107.2.2)) .fail)) (.ask ((r8.1==(1:Int))) (.opt (qt n (2:Int) r8.2.1 r8.2.2) fun r108=>(.ask (decide ((⟨#[61]⟩:BA).size+r108.1.size≤9223372036854775807)) (.done (((⟨#[61]⟩:BA)++r108.1),r108.2.1,r108.2.2)) .fail)) (.ask ((r8.1==(2:Int))) (.opt (qt n (2:Int) r8.2.1 r8.2.2) fun r109=>(.ask (decide ((⟨#[61]⟩:BA).size+r109.1.size≤9223372036854775807)) (.done (((⟨#[61]⟩:BA)++r109.1),r109.2.1,r109.2.2)) .fail)) (.ask ((r8.1==(3:Int))) (.opt (qP n (20:Int) r8.2.1 r8.2.2) fun r110=>(.opt (qAB n r110.1) fun r111=>(.done (r111,r110.2.1,r110.2.2)))) (.ask ((r8.1==(4:Int))) (.opt (qP n (20:Int) r8.2.1 r8.2.2) fun r112=>(.opt (qAB n r112.1) fun r113=>(.done (r113,r112.2.1,r112.2.2)))) (.ask ((r8.1==(5:Int))) (.opt (qP n (8:Int) r8.2.1 r8.2.2) fun r114=>(.ask (decide (8=([[(.s (⟨#[84,82,85,69]⟩:BA))],[(.s (⟨#[104,101,108,108,111]⟩:BA))],[(.s (⟨#[39,49,50]⟩:BA))],[(.s (⟨#[35,68,73,86,33]⟩:BA))],[(.s (⟨#[45,53]⟩:BA))],[(.s (⟨#[48,48,55]⟩:BA))],[(.s (⟨#[39]⟩:BA))],[(.s (⟨#[35,120]⟩:BA))]]:RW).length∧0≤r114.1∧r114.1<((8:Nat):Int))) (.opt (([[(.s (⟨#[84,82,85,69]⟩:BA))],[(.s (⟨#[104,101,108,108,111]⟩:BA))],[(.s (⟨#[39,49,50]⟩:BA))],[(.s (⟨#[35,68,73,86,33]⟩:BA))],[(.s (⟨#[45,53]⟩:BA))],[(.s (⟨#[48,48,55]⟩:BA))],[(.s (⟨#[39]⟩:BA))],[(.s (⟨#[35,120]⟩:BA))]]:RW)[(r114.1).toNat]?) fun e115=>(.opt (zp e115 0) fun y116=>(.done (y116,r114.2.1,r114.2.2)))) .fail)) (.ask ((r8.1==(6:Int))) (.done ((⟨#[]⟩:BA),r8.2.1,r8.2.2)) (.opt (qt n (1:Int) r8.2.1 r8.2.2) fun r117=>(.ask (decide ((⟨#[61]⟩:BA).size+r117.1.size≤9223372036854775807)) (.done (((⟨#[61]⟩:BA)++r117.1),r117.2.1,r117.2.2)) .fail))))))))))
def qDP:Nat→RW→Int→Option (BA×RW×Int)
 |0,_,_=>none
 |n+1,x0,x1=>(qET n x0 x1).run
abbrev qKx (n:Nat):List (Ent (Rn n)):= [en (qA2 n),en (qFy n),en (qDK n)]
theorem qKF:∀n,Ok (Rn n) qKw (qDP n)
 |0=>ok0 fun _=>rfl
 |n+1=>stO (T:=qET n) (by kernel_rfl) (qKx n) [] (fun _=>(by kernel_rfl)) fun _=>(by kernel_rfl)
def qKy:Sg:=⟨100,[(.c (.ptr 0 0 0 0 0)),aI],[[(0,⟨0,2,112,(.box [qL,qI])⟩)]],⟨aS,[[(0,⟨0,2,112,(.box [qL,qI])⟩)]],[]⟩⟩
def qB1 (n:Nat) (v:Nat×Int×RW×RW×Int):Tr ((Nat×Int×RW×RW×Int)⊕((Nat×RW×RW×Int))):=(.ask ((decide (v.2.1>(0:Int)))) (.opt (qP n (256:Int) v.2.2.2.1 v.2.2.2.2) fun r122=>(.ask (decide (1=([[(.i .u8 (IntKind.u8.wrap r122.1))]]:RW).length)) (.ask (decide (v.1=v.2.2.1.length∧0<1∧0<1∧(v.1+([[(.i .u8 (IntKind.u8.wrap r122.1))]]:RW).length)*1≤140737488355328∧([[(.i .u8 (IntKind.u8.wrap r122.1))]]:RW).all (fun e=>e.length==1)=true)) (.done (.inl ((v.1+1),(IntKind.i64.wrap (v.2.1-(1:Int))),(v.2.2.1++([[(.i .u8 (IntKind.u8.wrap r122.1))]]:RW)),r122.2.1,r122.2.2))) .fail) .fail)) (.done (.inr ((v.1,v.2.2.1,v.2.2.2.1,v.2.2.2.2)))))
def qEU (n:Nat) (x0:Int) (x1:RW) (x2:Int):Tr (BA×RW×Int):=(.opt (qP n (IntKind.i64.wrap (x0+(1:Int))) x1 x2) fun r121=>(.opt (zC (qB1 n) n ((0:Nat),r121.1,([]:RW),r121.2.1,r121.2.2)) fun r123=>(.ask (decide (r123.1=r123.2.1.length)) (.opt (bytesOf r123.2.1) fun l124=>(.done ((⟨l124.toArray⟩:BA),r123.2.2.1,r123.2.2.2))) .fail)))
def qCa:Nat→Int→RW→Int→Option (BA×RW×Int)
 |0,_,_,_=>none
 |n+1,x0,x1,x2=>(qEU n x0 x1 x2).run
abbrev qGi (n:Nat):List (Ent (Rn n)):= [en (qA2 n)]
def qIo (n:Nat):LEnt (KB 100) (Rn n) n:=lok (zU 100) 29 ⟨⟨[(0,(.c (.ptr 0 0 0 0 0))),(5,(.c (.own 1 448 0 0))),(6,aI)],[(448,⟨0,1,5,(.row [])⟩)],[[(0,⟨0,2,112,(.box [qL,qI])⟩)]]⟩,[(.exit 0,⟨[(5,(.c (.own 1 448 0 0)))],[(448,⟨0,1,5,(.row [])⟩)],[[(0,⟨0,2,112,(.box [qL,qI])⟩)]]⟩)]⟩ (qB1 n) (qGi n) [] fun _=>(by kernel_rfl)
theorem qKG:∀n,Ok (Rn n) qKy (qCa n)
 |0=>ok0 fun _=>rfl
 |n+1=>stO (T:=qEU n) (by kernel_rfl) (qGi n) [qIo n] (fun _=>(by kernel_rfl)) fun _=>(by kernel_rfl)
def qLq:Sg:=⟨45,[(.c (.ptr 0 0 0 0 0)),aS],[[(0,⟨0,2,112,(.box [qL,qI])⟩)]],⟨aS,[[(0,⟨0,2,112,(.box [qL,qI])⟩)]],[]⟩⟩
def qBk (n:Nat) (x0:BA) (x1:RW) (x2:Int):Tr (BA×RW×Int):=(.opt (qP n (6:Int) x1 x2) fun r120=>(.ask ((r120.1==(0:Int))) (.opt (qCa n (2:Int) r120.2.1 r120.2.2) fun r125=>(.ask (decide (x0.size+r125.1.size≤9223372036854775807)) (.done ((x0++r125.1),r125.2.1,r125.2.2)) .fail)) (.ask ((r120.1==(1:Int))) (.opt (qP n (IntKind.i64.wrap ((x0.size:Int)+(1:Int))) r120.2.1 r120.2.2) fun r126=>(.ask (decide (0≤(0:Int)∧(0:Int)≤r126.1∧r126.1≤x0.size)) (.done ((x0.extract ((0:Int)).toNat (r126.1).toNat),r126.2.1,r126.2.2)) .fail)) (.ask ((r120.1==(2:Int))) (.ask ((decide ((x0.size:Int)>(0:Int)))) (.opt (qP n (x0.size:Int) r120.2.1 r120.2.2) fun r127=>(.ask (decide (0≤(0:Int)∧(0:Int)≤r127.1∧r127.1≤x0.size)) (.ask (decide (0≤(IntKind.i64.wrap (r127.1+(1:Int)))∧(IntKind.i64.wrap (r127.1+(1:Int)))≤(x0.size:Int)∧(x0.size:Int)≤x0.size)) (.opt (qP n (6:Int) r127.2.1 r127.2.2) fun r128=>(.ask (decide (6=([[(.s (⟨#[65]⟩:BA))],[(.s (⟨#[49]⟩:BA))],[(.s (⟨#[40]⟩:BA))],[(.s (⟨#[44]⟩:BA))],[(.s (⟨#[34]⟩:BA))],[(.s (⟨#[32]⟩:BA))]]:RW).length∧0≤r128.1∧r128.1<((6:Nat):Int))) (.opt (([[(.s (⟨#[65]⟩:BA))],[(.s (⟨#[49]⟩:BA))],[(.s (⟨#[40]⟩:BA))],[(.s (⟨#[44]⟩:BA))],[(.s (⟨#[34]⟩:BA))],[(.s (⟨#[32]⟩:BA))]]:RW)[(r128.1).toNat]?) fun e129=>(.opt (zp e129 0) fun y130=>(.ask (decide ((x0.extract ((0:Int)).toNat (r127.1).toNat).size+y130.size≤9223372036854775807)) (.ask (decide (((x0.extract ((0:Int)).toNat (r127.1).toNat)++y130).size+(x0.extract ((IntKind.i64.wrap (r127.1+(1:Int)))).toNat ((x0.size:Int)).toNat).size≤9223372036854775807)) (.done ((((x0.extract ((0:Int)).toNat (r127.1).toNat)++y130)++(x0.extract ((IntKind.i64.wrap (r127.1+(1:Int)))).toNat ((x0.size:Int)).toNat)),r128.2.1,r128.2.2)) .fail) .fail))) .fail)) .fail) .fail)) (.done (x0,r120.2.1,r120.2.2))) (.done (x0,r120.2.1,r120.2.2))))))
def qA8:Nat→BA→RW→Int→Option (BA×RW×Int)
 |0,_,_,_=>none
 |n+1,x0,x1,x2=>(qBk n x0 x1 x2).run
abbrev qLr (n:Nat):List (Ent (Rn n)):= [en (qA2 n),en (qKG n)]
theorem qKz:∀n,Ok (Rn n) qLq (qA8 n)
 |0=>ok0 fun _=>rfl
 |n+1=>stO (T:=qBk n) (by kernel_rfl) (qLr n) [] (fun _=>(by kernel_rfl)) fun _=>(by kernel_rfl)
def qKH:Sg:=⟨24,[aL],[],⟨aS,[],[]⟩⟩
def qD9 (n:Nat) (x0:RW):Tr (BA):=(.opt (qFA n x0) fun r2=>(.opt (qDP n r2.1 r2.2) fun r118=>(.opt (qf n (8:Int) r118.2.1 r118.2.2) fun r119=>(.ask (r119.1) (.opt (qA8 n r118.1 r119.2.1 r119.2.2) fun r131=>(.done r131.1)) (.done r118.1)))))
def qEA:Nat→RW→Option (BA)
 |0,_=>none
 |n+1,x0=>(qD9 n x0).run
abbrev qKI (n:Nat):List (Ent (Rn n)):= [en (qNN n),en (qKF n),en (qDO n),en (qKz n)]
theorem qJi:∀n,Ok (Rn n) qKH (qEA n)
 |0=>ok0 fun _=>rfl
 |n+1=>stO (T:=qD9 n) (by kernel_rfl) (qKI n) [] (fun _=>(by kernel_rfl)) fun _=>(by kernel_rfl)
def qOM:Sg:=⟨35,[aS,aI],[],⟨aB,[],[]⟩⟩
def qBl (n:Nat) (v:BA×Int×Int×Int):Tr ((BA×Int×Int×Int)⊕((Bool)⊕(BA×Int))):=(.ask ((decide (v.2.2.2<v.2.2.1))) (.ask (decide (0≤v.2.2.2)) (.opt (v.1.toList[(v.2.2.2).toNat]?) fun c133=>(.ask ((decide ((c133.toNat:Int)<(32:Int)))) (.done (.inr (.inl (false)))) (.ask (decide (0≤v.2.2.2)) (.opt (v.1.toList[(v.2.2.2).toNat]?) fun c134=>(.ask ((decide ((c134.toNat:Int)>(126:Int)))) (.done (.inr (.inl (false)))) (.done (.inl (v.1,v.2.1,v.2.2.1,(IntKind.i64.wrap (v.2.2.2+(1:Int)))))))) .fail))) .fail) (.done (.inr (.inr ((v.1,v.2.1))))))
def qG1 (n:Nat) (x0:BA) (x1:Int):Tr (Bool):=(.opt (zC (qBl n) n (x0,x1,(x0.size:Int),(0:Int))) fun r135=>(.alt r135 (fun r136=>(.done r136)) (fun r137=>(.done (decide ((r137.1.size:Int)≤r137.2))))))
def qCr:Nat→BA→Int→Option (Bool)
 |0,_,_=>none
 |n+1,x0,x1=>(qG1 n x0 x1).run
def qLs (n:Nat):LEnt (KB 35) (Rn n) n:=lok (zU 35) 13 ⟨⟨[(0,aS),(1,aI),(7,aI),(8,aI)],[],[]⟩,[(.ret,⟨[(4,aB)],[],[]⟩),(.exit 0,⟨[(0,aS),(1,aI)],[],[]⟩)]⟩ (qBl n) [] [] fun _=>(by kernel_rfl)
theorem qFz:∀n,Ok (Rn n) qOM (qCr n)
 |0=>ok0 fun _=>rfl
 |n+1=>stO (T:=qG1 n) (by kernel_rfl) [] [qLs n] (fun _=>(by kernel_rfl)) fun _=>(by kernel_rfl)
def qFe:Sg:=⟨59,[aS,aS],[],⟨(.tup [(false,[qS]),(false,[qB])]),[],[]⟩⟩
def qAG:Nat→BA→BA→Option ((BA×Bool))
 |0,_,_=>none
 |n+1,x0,x1=>zT x0 x1
theorem qCb:∀n,Ok (Rn n) qFe (qAG n)
 |0=>ok0 fun _=>rfl
 |n+1=>stL (by kernel_rfl) (fun a r e=>congrArg (Option.map fun r=>(qFe.Of r).v) e) rfl rfl rfl
def qF0:Sg:=⟨90,[aS,aS],[],⟨aS,[],[]⟩⟩
def qBM:Nat→BA→BA→Option ((BA))
 |0,_,_=>none
 |n+1,x0,x1=>zL x0 x1
theorem qDp:∀n,Ok (Rn n) qF0 (qBM n)
 |0=>ok0 fun _=>rfl
 |n+1=>stL (by kernel_rfl) (fun a r e=>congrArg (Option.map fun r=>(qF0.Of r).v) e) rfl rfl rfl
def qIp:Sg:=⟨37,[(.c (.ptr 0 0 0 0 0))],[[(0,⟨0,3,55,(.box [qS,(.own 0 1 1 0),qB])⟩),(1,⟨1,14,64,(.row [])⟩)]],⟨(.tup []),[[(0,⟨0,3,55,(.box [qS,(.own 0 1 1 0),qB])⟩),(1,⟨1,14,64,(.row [])⟩)]],[]⟩⟩
def qDS (n:Nat) (x0:BA) (x1:Nat) (x2:Bool) (x3:RW):Tr (BA×Nat×Bool×RW):=(.opt (qBM n x0 (⟨#[32]⟩:BA)) fun r141=>(.done (r141,x1,x2,x3)))
def qA3:Nat→BA→Nat→Bool→RW→Option (BA×Nat×Bool×RW)
 |0,_,_,_,_=>none
 |n+1,x0,x1,x2,x3=>(qDS n x0 x1 x2 x3).run
abbrev qIq (n:Nat):List (Ent (Rn n)):= [en (qDp n)]
theorem qCR:∀n,Ok (Rn n) qIp (qA3 n)
 |0=>ok0 fun _=>rfl
 |n+1=>stO (T:=qDS n) (by kernel_rfl) (qIq n) [] (fun _=>(by kernel_rfl)) fun _=>(by kernel_rfl)
def qEV:Sg:=⟨123,[aS,aS],[],⟨aB,[],[]⟩⟩
def qAw (n:Nat) (x0 x1:BA):Tr (Bool):=(.ask ((decide ((x0.size:Int)≥(x1.size:Int)))) (.ask (decide (0≤(0:Int)∧(0:Int)≤(x1.size:Int)∧(x1.size:Int)≤x0.size)) (.done ((x0.extract ((0:Int)).toNat ((x1.size:Int)).toNat).toList==x1.toList)) .fail) (.done false))
def qAC:Nat→BA→BA→Option (Bool)
 |0,_,_=>none
 |n+1,x0,x1=>(qAw n x0 x1).run
theorem qCU:∀n,Ok (Rn n) qEV (qAC n)
 |0=>ok0 fun _=>rfl
 |n+1=>stO (T:=qAw n) (by kernel_rfl) [] [] (fun _=>(by kernel_rfl)) fun _=>(by kernel_rfl)
def qJj:Sg:=⟨69,[aS,aS],[],⟨aB,[],[]⟩⟩
def qB9 (n:Nat) (x0 x1:BA):Tr (Bool):=(.opt (qAC n x0 x1) fun r145=>(.done r145))
def qn:Nat→BA→BA→Option (Bool)
 |0,_,_=>none
 |n+1,x0,x1=>(qB9 n x0 x1).run
abbrev qJk (n:Nat):List (Ent (Rn n)):= [en (qCU n)]
theorem qCc:∀n,Ok (Rn n) qJj (qn n)
 |0=>ok0 fun _=>rfl
 |n+1=>stO (T:=qB9 n) (by kernel_rfl) (qJk n) [] (fun _=>(by kernel_rfl)) fun _=>(by kernel_rfl)
def qKJ:Sg:=⟨85,[(.c (.ptr 0 0 0 0 0))],[[(0,⟨0,3,55,(.box [qS,(.own 0 1 1 0),qB])⟩),(1,⟨1,14,64,(.row [])⟩)]],⟨aS,[[(0,⟨0,3,55,(.box [qS,(.own 0 1 1 0),qB])⟩),(1,⟨1,14,64,(.row [])⟩)]],[]⟩⟩
def qCS (n:Nat) (v:Nat×Int×Int×RW×BA×Nat×Bool×RW):Tr ((Nat×Int×Int×RW×BA×Nat×Bool×RW)⊕((BA×BA×Nat×Bool×RW)⊕(BA×Nat×Bool×RW))):=(.ask ((decide (v.2.2.1<v.2.1))) (.ask (decide (v.1=v.2.2.2.1.length∧0≤v.2.2.1∧v.2.2.1<((v.1:Nat):Int))) (.opt (v.2.2.2.1[(v.2.2.1).toNat]?) fun e143=>(.opt (zp e143 0) fun y144=>(.opt (qn n v.2.2.2.2.1 y144) fun r145=>(.ask (r145) (.done (.inr (.inl ((y144,v.2.2.2.2.1,v.2.2.2.2.2.1,v.2.2.2.2.2.2.1,v.2.2.2.2.2.2.2))))) (.done (.inl (v.1,v.2.1,(IntKind.i64.wrap (v.2.2.1+(1:Int))),v.2.2.2.1,v.2.2.2.2.1,v.2.2.2.2.2.1,v.2.2.2.2.2.2.1,v.2.2.2.2.2.2.2))))))) .fail) (.done (.inr (.inr ((v.2.2.2.2.1,v.2.2.2.2.2.1,v.2.2.2.2.2.2.1,v.2.2.2.2.2.2.2))))))
def qF1 (n:Nat) (x0:BA) (x1:Nat) (x2:Bool) (x3:RW):Tr (BA×BA×Nat×Bool×RW):=(.opt (qA3 n x0 x1 x2 x3) fun r142=>(.opt (zC (qCS n) n ((15:Nat),(15:Int),(0:Int),([[(.s (⟨#[60,62]⟩:BA))],[(.s (⟨#[60,61]⟩:BA))],[(.s (⟨#[62,61]⟩:BA))],[(.s (⟨#[60]⟩:BA))],[(.s (⟨#[62]⟩:BA))],[(.s (⟨#[61]⟩:BA))],[(.s (⟨#[38]⟩:BA))],[(.s (⟨#[43]⟩:BA))],[(.s (⟨#[45]⟩:BA))],[(.s (⟨#[42]⟩:BA))],[(.s (⟨#[47]⟩:BA))],[(.s (⟨#[40]⟩:BA))],[(.s (⟨#[41]⟩:BA))],[(.s (⟨#[44]⟩:BA))],[(.s (⟨#[58]⟩:BA))]]:RW),r142.1,r142.2.1,r142.2.2.1,r142.2.2.2)) fun r146=>(.alt r146 (fun r147=>(.done (r147.1,r147.2.1,r147.2.2.1,r147.2.2.2.1,r147.2.2.2.2))) (fun r148=>(.done ((⟨#[]⟩:BA),r148.1,r148.2.1,r148.2.2.1,r148.2.2.2))))))
def qBm:Nat→BA→Nat→Bool→RW→Option (BA×BA×Nat×Bool×RW)
 |0,_,_,_,_=>none
 |n+1,x0,x1,x2,x3=>(qF1 n x0 x1 x2 x3).run
abbrev qF2 (n:Nat):List (Ent (Rn n)):= [en (qCR n),en (qCc n)]
def qId (n:Nat):LEnt (KB 85) (Rn n) n:=lok (zU 85) 29 ⟨⟨[(0,(.c (.ptr 0 0 0 0 0))),(7,(.c (.own 1 448 0 0))),(8,aI),(9,aI)],[(448,⟨0,1,9,(.row [])⟩)],[[(0,⟨0,3,55,(.box [qS,(.own 0 1 1 0),qB])⟩),(1,⟨1,14,64,(.row [])⟩)]]⟩,[(.ret,⟨[(2,aS)],[],[[(0,⟨0,3,55,(.box [qS,(.own 0 1 1 0),qB])⟩),(1,⟨1,14,64,(.row [])⟩)]]⟩),(.exit 0,⟨[],[],[[(0,⟨0,3,55,(.box [qS,(.own 0 1 1 0),qB])⟩),(1,⟨1,14,64,(.row [])⟩)]]⟩)]⟩ (qCS n) (qF2 n) [] fun _=>(by kernel_rfl)
theorem qFf:∀n,Ok (Rn n) qKJ (qBm n)
 |0=>ok0 fun _=>rfl
 |n+1=>stO (T:=qF1 n) (by kernel_rfl) (qF2 n) [qId n] (fun _=>(by kernel_rfl)) fun _=>(by kernel_rfl)
def qKK:Sg:=⟨88,[(.c (.ptr 0 0 0 0 0)),aS],[[(0,⟨0,3,55,(.box [qS,(.own 0 1 1 0),qB])⟩),(1,⟨1,14,64,(.row [])⟩)]],⟨aB,[[(0,⟨0,3,55,(.box [qS,(.own 0 1 1 0),qB])⟩),(1,⟨1,14,64,(.row [])⟩)]],[]⟩⟩
def qF3 (n:Nat) (x0 x1:BA) (x2:Nat) (x3:Bool) (x4:RW):Tr (Bool×BA×Nat×Bool×RW):=(.opt (qBm n x1 x2 x3 x4) fun r149=>(.ask ((!(r149.1.toList==x0.toList))) (.done (false,r149.2.1,r149.2.2.1,r149.2.2.2.1,r149.2.2.2.2)) (.ask (decide (0≤(x0.size:Int)∧(x0.size:Int)≤(r149.2.1.size:Int)∧(r149.2.1.size:Int)≤r149.2.1.size)) (.done (true,(r149.2.1.extract ((x0.size:Int)).toNat ((r149.2.1.size:Int)).toNat),r149.2.2.1,r149.2.2.2.1,r149.2.2.2.2)) .fail)))
def qu:Nat→BA→BA→Nat→Bool→RW→Option (Bool×BA×Nat×Bool×RW)
 |0,_,_,_,_,_=>none
 |n+1,x0,x1,x2,x3,x4=>(qF3 n x0 x1 x2 x3 x4).run
abbrev qKL (n:Nat):List (Ent (Rn n)):= [en (qFf n)]
theorem qCA:∀n,Ok (Rn n) qKK (qu n)
 |0=>ok0 fun _=>rfl
 |n+1=>stO (T:=qF3 n) (by kernel_rfl) (qKL n) [] (fun _=>(by kernel_rfl)) fun _=>(by kernel_rfl)
def qK0:Sg:=⟨89,[(.c (.ptr 0 0 0 0 0)),(.agg [qI,qI,qI,qI,qS,qI,qI,qB,qB,qI,qI,qB,qB,qL])],[[(0,⟨0,3,55,(.box [qS,(.own 0 1 1 0),qB])⟩),(1,⟨1,14,64,(.row [])⟩)]],⟨aI,[[(0,⟨0,3,55,(.box [qS,(.own 0 1 1 0),qB])⟩),(1,⟨1,14,64,(.row [])⟩)]],[]⟩⟩
def qGj (n:Nat) (x0 x1 x2 x3:Int) (x4:BA) (x5 x6:Int) (x7 x8:Bool) (x9 x10:Int) (x11 x12:Bool) (x13:RW) (x14:BA) (x15:Nat) (x16:Bool) (x17:RW):Tr (Int×BA×Nat×Bool×RW):=(.ask (x16) (.ask (false) (.ask (decide (1=([[(.i .i64 x0),(.i .i64 x1),(.i .i64 x2),(.i .i64 x3),(.s x4),(.i .i64 x5),(.i .i64 x6),(.b x7),(.b x8),(.i .i64 x9),(.i .i64 x10),(.b x11),(.b x12),(.ls x13)]]:RW).length)) (.ask (decide (x15=x17.length∧0<14∧0<120∧(x15+([[(.i .i64 x0),(.i .i64 x1),(.i .i64 x2),(.i .i64 x3),(.s x4),(.i .i64 x5),(.i .i64 x6),(.b x7),(.b x8),(.i .i64 x9),(.i .i64 x10),(.b x11),(.b x12),(.ls x13)]]:RW).length)*120≤140737488355328∧([[(.i .i64 x0),(.i .i64 x1),(.i .i64 x2),(.i .i64 x3),(.s x4),(.i .i64 x5),(.i .i64 x6),(.b x7),(.b x8),(.i .i64 x9),(.i .i64 x10),(.b x11),(.b x12),(.ls x13)]]:RW).all (fun e=>e.length==14)=true)) (.done ((IntKind.i64.wrap ((((x15+1):Nat):Int)-(1:Int))),x14,(x15+1),true,(x17++([[(.i .i64 x0),(.i .i64 x1),(.i .i64 x2),(.i .i64 x3),(.s x4),(.i .i64 x5),(.i .i64 x6),(.b x7),(.b x8),(.i .i64 x9),(.i .i64 x10),(.b x11),(.b x12),(.ls x13)]]:RW)))) .fail) .fail) (.done ((IntKind.i64.wrap (((x15:Nat):Int)-(1:Int))),x14,x15,true,x17))) (.ask ((!(decide (((x15:Nat):Int)≥(60:Int))))) (.ask (decide (1=([[(.i .i64 x0),(.i .i64 x1),(.i .i64 x2),(.i .i64 x3),(.s x4),(.i .i64 x5),(.i .i64 x6),(.b x7),(.b x8),(.i .i64 x9),(.i .i64 x10),(.b x11),(.b x12),(.ls x13)]]:RW).length)) (.ask (decide (x15=x17.length∧0<14∧0<120∧(x15+([[(.i .i64 x0),(.i .i64 x1),(.i .i64 x2),(.i .i64 x3),(.s x4),(.i .i64 x5),(.i .i64 x6),(.b x7),(.b x8),(.i .i64 x9),(.i .i64 x10),(.b x11),(.b x12),(.ls x13)]]:RW).length)*120≤140737488355328∧([[(.i .i64 x0),(.i .i64 x1),(.i .i64 x2),(.i .i64 x3),(.s x4),(.i .i64 x5),(.i .i64 x6),(.b x7),(.b x8),(.i .i64 x9),(.i .i64 x10),(.b x11),(.b x12),(.ls x13)]]:RW).all (fun e=>e.length==14)=true)) (.done ((IntKind.i64.wrap ((((x15+1):Nat):Int)-(1:Int))),x14,(x15+1),(decide (((x15:Nat):Int)≥(60:Int))),(x17++([[(.i .i64 x0),(.i .i64 x1),(.i .i64 x2),(.i .i64 x3),(.s x4),(.i .i64 x5),(.i .i64 x6),(.b x7),(.b x8),(.i .i64 x9),(.i .i64 x10),(.b x11),(.b x12),(.ls x13)]]:RW)))) .fail) .fail) (.done ((IntKind.i64.wrap (((x15:Nat):Int)-(1:Int))),x14,x15,(decide (((x15:Nat):Int)≥(60:Int))),x17))))
def qv:Nat→Int→Int→Int→Int→BA→Int→Int→Bool→Bool→Int→Int→Bool→Bool→RW→BA→Nat→Bool→RW→Option (Int×BA×Nat×Bool×RW)
 |0,_,_,_,_,_,_,_,_,_,_,_,_,_,_,_,_,_,_=>none
 |n+1,x0,x1,x2,x3,x4,x5,x6,x7,x8,x9,x10,x11,x12,x13,x14,x15,x16,x17=>(qGj n x0 x1 x2 x3 x4 x5 x6 x7 x8 x9 x10 x11 x12 x13 x14 x15 x16 x17).run
theorem qCM:∀n,Ok (Rn n) qK0 (qv n)
 |0=>ok0 fun _=>rfl
 |n+1=>stO (T:=qGj n) (by kernel_rfl) [] [] (fun _=>(by kernel_rfl)) fun _=>(by kernel_rfl)
def qJ1:Sg:=⟨186,[aS,aS],[],⟨(.tup [(false,[qS]),(false,[qS]),(false,[qB])]),[],[]⟩⟩
def qG2:Nat→BA→BA→Option ((BA×BA×Bool))
 |0,_,_=>none
 |n+1,x0,x1=>zAK x0 x1
theorem qNP:∀n,Ok (Rn n) qJ1 (qG2 n)
 |0=>ok0 fun _=>rfl
 |n+1=>stL (by kernel_rfl) (fun a r e=>congrArg (Option.map fun r=>(qJ1.Of r).v) e) rfl rfl rfl
def qHt:Sg:=⟨162,[(.c (.ptr 0 0 0 0 0)),(.agg [qI,qI,qS])],[[(0,⟨0,3,55,(.box [qS,(.own 0 1 1 0),qB])⟩),(1,⟨1,14,64,(.row [])⟩)]],⟨aI,[[(0,⟨0,3,55,(.box [qS,(.own 0 1 1 0),qB])⟩),(1,⟨1,14,64,(.row [])⟩)]],[]⟩⟩
def qEW (n:Nat) (x0 x1:Int) (x2 x3:BA) (x4:Nat) (x5:Bool) (x6:RW):Tr (Int×BA×Nat×Bool×RW):=(.opt (qv n (1:Int) (0:Int) x0 x1 x2 (0:Int) (0:Int) false false (0:Int) (0:Int) false false ([]:RW) x3 x4 x5 x6) fun r160=>(.done (r160.1,r160.2.1,r160.2.2.1,r160.2.2.2.1,r160.2.2.2.2)))
def qm:Nat→Int→Int→BA→BA→Nat→Bool→RW→Option (Int×BA×Nat×Bool×RW)
 |0,_,_,_,_,_,_,_=>none
 |n+1,x0,x1,x2,x3,x4,x5,x6=>(qEW n x0 x1 x2 x3 x4 x5 x6).run
abbrev qHu (n:Nat):List (Ent (Rn n)):= [en (qCM n)]
theorem qEK:∀n,Ok (Rn n) qHt (qm n)
 |0=>ok0 fun _=>rfl
 |n+1=>stO (T:=qEW n) (by kernel_rfl) (qHu n) [] (fun _=>(by kernel_rfl)) fun _=>(by kernel_rfl)
def qIr:Sg:=⟨161,[(.c (.ptr 0 0 0 0 0))],[[(0,⟨0,3,55,(.box [qS,(.own 0 1 1 0),qB])⟩),(1,⟨1,14,64,(.row [])⟩)]],⟨aI,[[(0,⟨0,3,55,(.box [qS,(.own 0 1 1 0),qB])⟩),(1,⟨1,14,64,(.row [])⟩)]],[]⟩⟩
def qCy (n:Nat) (v:BA×BA×BA×Nat×Bool×RW):Tr ((BA×BA×BA×Nat×Bool×RW)⊕((Int×BA×Nat×Bool×RW)⊕(BA×BA×BA×Nat×Bool×RW))):=(.opt (qG2 n v.2.1 (⟨#[34]⟩:BA)) fun r155=>(.ask ((!r155.2.2)) (.done (.inr (.inl (((-1:Int),v.2.2.1,v.2.2.2.1,true,v.2.2.2.2.2))))) (.ask (decide (v.1.size+r155.1.size≤9223372036854775807)) (.opt (qn n r155.2.1 (⟨#[34]⟩:BA)) fun r156=>(.ask ((!r156)) (.done (.inr (.inr (((v.1++r155.1),r155.2.1,v.2.2.1,v.2.2.2.1,v.2.2.2.2.1,v.2.2.2.2.2))))) (.ask (decide ((v.1++r155.1).size+(⟨#[34]⟩:BA).size≤9223372036854775807)) (.ask (decide (0≤(1:Int)∧(1:Int)≤(r155.2.1.size:Int)∧(r155.2.1.size:Int)≤r155.2.1.size)) (.done (.inl (((v.1++r155.1)++(⟨#[34]⟩:BA)),(r155.2.1.extract ((1:Int)).toNat ((r155.2.1.size:Int)).toNat),v.2.2.1,v.2.2.2.1,v.2.2.2.2.1,v.2.2.2.2.2))) .fail) .fail))) .fail)))
def qFH (n:Nat) (x0:BA) (x1:Nat) (x2:Bool) (x3:RW):Tr (Int×BA×Nat×Bool×RW):=(.ask (decide (0≤(1:Int)∧(1:Int)≤(x0.size:Int)∧(x0.size:Int)≤x0.size)) (.opt (zC (qCy n) n ((⟨#[]⟩:BA),(x0.extract ((1:Int)).toNat ((x0.size:Int)).toNat),x0,x1,x2,x3)) fun r157=>(.alt r157 (fun r158=>(.done (r158.1,r158.2.1,r158.2.2.1,r158.2.2.2.1,r158.2.2.2.2))) (fun r159=>(.opt (qm n (2:Int) (0:Int) r159.1 r159.2.1 r159.2.2.2.1 r159.2.2.2.2.1 r159.2.2.2.2.2) fun r161=>(.done (r161.1,r161.2.1,r161.2.2.1,r161.2.2.2.1,r161.2.2.2.2)))))) .fail)
def qDT:Nat→BA→Nat→Bool→RW→Option (Int×BA×Nat×Bool×RW)
 |0,_,_,_,_=>none
 |n+1,x0,x1,x2,x3=>(qFH n x0 x1 x2 x3).run
abbrev qFI (n:Nat):List (Ent (Rn n)):= [en (qNP n),en (qCc n),en (qEK n)]
def qHT (n:Nat):LEnt (KB 161) (Rn n) n:=lok (zU 161) 14 ⟨⟨[(0,(.c (.ptr 0 0 0 0 0))),(3,aS),(4,aS)],[],[[(0,⟨0,3,55,(.box [qS,(.own 0 1 1 0),qB])⟩),(1,⟨1,14,64,(.row [])⟩)]]⟩,[(.ret,⟨[(2,aI)],[],[[(0,⟨0,3,55,(.box [qS,(.own 0 1 1 0),qB])⟩),(1,⟨1,14,64,(.row [])⟩)]]⟩),(.exit 0,⟨[(0,(.c (.ptr 0 0 0 0 0))),(3,aS),(4,aS)],[],[[(0,⟨0,3,55,(.box [qS,(.own 0 1 1 0),qB])⟩),(1,⟨1,14,64,(.row [])⟩)]]⟩)]⟩ (qCy n) (qFI n) [] fun _=>(by kernel_rfl)
theorem qIe:∀n,Ok (Rn n) qIr (qDT n)
 |0=>ok0 fun _=>rfl
 |n+1=>stO (T:=qFH n) (by kernel_rfl) (qFI n) [qHT n] (fun _=>(by kernel_rfl)) fun _=>(by kernel_rfl)
def qLt:Sg:=⟨70,[aI],[],⟨aS,[],[]⟩⟩
def qE0 (n:Nat) (x0:Int):Tr (BA):=(.ask (decide (6=([[(.s (⟨#[]⟩:BA))],[(.s (⟨#[35,68,73,86,33]⟩:BA))],[(.s (⟨#[35,84,89,80,69,33]⟩:BA))],[(.s (⟨#[35,82,69,70,33]⟩:BA))],[(.s (⟨#[35,79,86,69,82,33]⟩:BA))],[(.s (⟨#[35,67,89,67,76,69,33]⟩:BA))]]:RW).length∧0≤x0∧x0<((6:Nat):Int))) (.opt (([[(.s (⟨#[]⟩:BA))],[(.s (⟨#[35,68,73,86,33]⟩:BA))],[(.s (⟨#[35,84,89,80,69,33]⟩:BA))],[(.s (⟨#[35,82,69,70,33]⟩:BA))],[(.s (⟨#[35,79,86,69,82,33]⟩:BA))],[(.s (⟨#[35,67,89,67,76,69,33]⟩:BA))]]:RW)[(x0).toNat]?) fun e164=>(.opt (zp e164 0) fun y165=>(.done y165))) .fail)
def qAj:Nat→Int→Option (BA)
 |0,_=>none
 |n+1,x0=>(qE0 n x0).run
theorem qEX:∀n,Ok (Rn n) qLt (qAj n)
 |0=>ok0 fun _=>rfl
 |n+1=>stO (T:=qE0 n) (by kernel_rfl) [] [] (fun _=>(by kernel_rfl)) fun _=>(by kernel_rfl)
def qPC:Sg:=⟨71,[aI],[],⟨(.agg [qI,qI,qS]),[],[]⟩⟩
def qHv (n:Nat) (x0:Int):Tr (Int×Int×BA):=(.done ((4:Int),x0,(⟨#[]⟩:BA)))
def qBy:Nat→Int→Option (Int×Int×BA)
 |0,_=>none
 |n+1,x0=>(qHv n x0).run
theorem qJ2:∀n,Ok (Rn n) qPC (qBy n)
 |0=>ok0 fun _=>rfl
 |n+1=>stO (T:=qHv n) (by kernel_rfl) [] [] (fun _=>(by kernel_rfl)) fun _=>(by kernel_rfl)
def qKM:Sg:=⟨163,[(.c (.ptr 0 0 0 0 0))],[[(0,⟨0,3,55,(.box [qS,(.own 0 1 1 0),qB])⟩),(1,⟨1,14,64,(.row [])⟩)]],⟨aS,[[(0,⟨0,3,55,(.box [qS,(.own 0 1 1 0),qB])⟩),(1,⟨1,14,64,(.row [])⟩)]],[]⟩⟩
def qF4 (n:Nat) (x0:BA) (x1:Nat) (x2:Bool) (x3:RW):Tr (BA×BA×Nat×Bool×RW):=(.opt (qA3 n x0 x1 x2 x3) fun r171=>(.opt (qBM n r171.1 (⟨#[65,66,67,68,69,70,71,72,73,74,75,76,77,78,79,80,81,82,83,84,85,86,87,88,89,90,48,49,50,51,52,53,54,55,56,57,36]⟩:BA)) fun r172=>(.ask (decide (0≤(0:Int)∧(0:Int)≤(IntKind.i64.wrap ((r171.1.size:Int)-(r172.size:Int)))∧(IntKind.i64.wrap ((r171.1.size:Int)-(r172.size:Int)))≤r171.1.size)) (.ask (decide (0≤(IntKind.i64.wrap ((r171.1.size:Int)-(r172.size:Int)))∧(IntKind.i64.wrap ((r171.1.size:Int)-(r172.size:Int)))≤(r171.1.size:Int)∧(r171.1.size:Int)≤r171.1.size)) (.done ((r171.1.extract ((0:Int)).toNat ((IntKind.i64.wrap ((r171.1.size:Int)-(r172.size:Int)))).toNat),(r171.1.extract ((IntKind.i64.wrap ((r171.1.size:Int)-(r172.size:Int)))).toNat ((r171.1.size:Int)).toNat),r171.2.1,r171.2.2.1,r171.2.2.2)) .fail) .fail)))
def qBN:Nat→BA→Nat→Bool→RW→Option (BA×BA×Nat×Bool×RW)
 |0,_,_,_,_=>none
 |n+1,x0,x1,x2,x3=>(qF4 n x0 x1 x2 x3).run
abbrev qKN (n:Nat):List (Ent (Rn n)):= [en (qCR n),en (qDp n)]
theorem qFg:∀n,Ok (Rn n) qKM (qBN n)
 |0=>ok0 fun _=>rfl
 |n+1=>stO (T:=qF4 n) (by kernel_rfl) (qKN n) [] (fun _=>(by kernel_rfl)) fun _=>(by kernel_rfl)
def qON:Sg:=⟨48,[aI,aI,aI],[],⟨aB,[],[]⟩⟩
def qG3 (n:Nat) (x0 x1 x2:Int):Tr (Bool):=(.ask ((decide (x0≥x1))) (.done (decide (x0≤x2))) (.done false))
def qAl:Nat→Int→Int→Int→Option (Bool)
 |0,_,_,_=>none
 |n+1,x0,x1,x2=>(qG3 n x0 x1 x2).run
theorem qDU:∀n,Ok (Rn n) qON (qAl n)
 |0=>ok0 fun _=>rfl
 |n+1=>stO (T:=qG3 n) (by kernel_rfl) [] [] (fun _=>(by kernel_rfl)) fun _=>(by kernel_rfl)
def qNQ:Sg:=⟨63,[(.agg [qI,qI,qS])],[],⟨aB,[],[]⟩⟩
def qF5 (n:Nat) (x0 x1:Int) (x2:BA):Tr (Bool):=(.ask ((x0==(2:Int))) (.ask ((x1==(0:Int))) (.opt (qCr n x2 (200:Int)) fun r175=>(.done r175)) (.done false)) (.ask ((!(x2.toList==(⟨#[]⟩:BA).toList))) (.done false) (.ask ((x0==(0:Int))) (.done (x1==(0:Int))) (.ask ((x0==(1:Int))) (.opt (qAl n x1 (-1000000000000000:Int) (1000000000000000:Int)) fun r176=>(.done r176)) (.ask ((x0==(3:Int))) (.opt (qAl n x1 (0:Int) (1:Int)) fun r177=>(.done r177)) (.ask ((x0==(4:Int))) (.opt (qAl n x1 (1:Int) (5:Int)) fun r178=>(.done r178)) (.done false)))))))
def qAJ:Nat→Int→Int→BA→Option (Bool)
 |0,_,_,_=>none
 |n+1,x0,x1,x2=>(qF5 n x0 x1 x2).run
abbrev qNR (n:Nat):List (Ent (Rn n)):= [en (qFz n),en (qDU n)]
theorem qD4:∀n,Ok (Rn n) qNQ (qAJ n)
 |0=>ok0 fun _=>rfl
 |n+1=>stO (T:=qF5 n) (by kernel_rfl) (qNR n) [] (fun _=>(by kernel_rfl)) fun _=>(by kernel_rfl)
def qFh:Sg:=⟨122,[aI,aI],[],⟨aS,[],[]⟩⟩
def qDq:Nat→Int→Int→Option ((BA))
 |0,_,_=>none
 |n+1,x0,x1=>zZ x0 x1
theorem qIs:∀n,Ok (Rn n) qFh (qDq n)
 |0=>ok0 fun _=>rfl
 |n+1=>stL (by kernel_rfl) (fun a r e=>congrArg (Option.map fun r=>(qFh.Of r).v) e) rfl rfl rfl
def qNS:Sg:=⟨65,[aI],[],⟨aS,[],[]⟩⟩
def qF6 (n:Nat) (x0:Int):Tr (BA):=(.opt (qDq n x0 (10:Int)) fun r180=>(.done r180))
def qBJ:Nat→Int→Option (BA)
 |0,_=>none
 |n+1,x0=>(qF6 n x0).run
abbrev qNT (n:Nat):List (Ent (Rn n)):= [en (qIs n)]
theorem qFW:∀n,Ok (Rn n) qNS (qBJ n)
 |0=>ok0 fun _=>rfl
 |n+1=>stO (T:=qF6 n) (by kernel_rfl) (qNT n) [] (fun _=>(by kernel_rfl)) fun _=>(by kernel_rfl)
def qLu:Sg:=⟨72,[(.agg [qI,qI,qS])],[],⟨aS,[],[]⟩⟩
def qBn (n:Nat) (x0 x1:Int) (x2:BA):Tr (BA):=(.ask ((x0==(1:Int))) (.opt (qBJ n x1) fun r181=>(.done r181)) (.ask ((x0==(2:Int))) (.ask (decide ((⟨#[39]⟩:BA).size+x2.size≤9223372036854775807)) (.done ((⟨#[39]⟩:BA)++x2)) .fail) (.ask ((x0==(3:Int))) (.ask (decide (2=([[(.s (⟨#[70,65,76,83,69]⟩:BA))],[(.s (⟨#[84,82,85,69]⟩:BA))]]:RW).length∧0≤x1∧x1<((2:Nat):Int))) (.opt (([[(.s (⟨#[70,65,76,83,69]⟩:BA))],[(.s (⟨#[84,82,85,69]⟩:BA))]]:RW)[(x1).toNat]?) fun e182=>(.opt (zp e182 0) fun y183=>(.done y183))) .fail) (.ask ((x0==(4:Int))) (.opt (qAj n x1) fun r184=>(.done r184)) (.done (⟨#[]⟩:BA))))))
def qr:Nat→Int→Int→BA→Option (BA)
 |0,_,_,_=>none
 |n+1,x0,x1,x2=>(qBn n x0 x1 x2).run
abbrev qLv (n:Nat):List (Ent (Rn n)):= [en (qFW n),en (qEX n)]
theorem qEY:∀n,Ok (Rn n) qLu (qr n)
 |0=>ok0 fun _=>rfl
 |n+1=>stO (T:=qBn n) (by kernel_rfl) (qLv n) [] (fun _=>(by kernel_rfl)) fun _=>(by kernel_rfl)
def qPD:Sg:=⟨68,[aB],[],⟨(.agg [qI,qI,qS]),[],[]⟩⟩
def qHw (n:Nat) (x0:Bool):Tr (Int×Int×BA):=(.ask (x0) (.done ((3:Int),(1:Int),(⟨#[]⟩:BA))) (.done ((3:Int),(0:Int),(⟨#[]⟩:BA))))
def qEZ:Nat→Bool→Option (Int×Int×BA)
 |0,_=>none
 |n+1,x0=>(qHw n x0).run
theorem qOO:∀n,Ok (Rn n) qPD (qEZ n)
 |0=>ok0 fun _=>rfl
 |n+1=>stO (T:=qHw n) (by kernel_rfl) [] [] (fun _=>(by kernel_rfl)) fun _=>(by kernel_rfl)
def qKO:Sg2:=⟨61,[aS,aI,aI],(.tup [(false,[qI]),(false,[(.p .nif)])]),(.tup [(false,[qI]),(false,[(.p .ifc)])])⟩
def qA4:Nat→BA→Int→Int→Option ((Int)⊕(Int))
 |0,_,_,_=>none
 |n+1,x0,x1,x2=>zK x0 x1 x2
theorem qDr:∀n,Ok2 (Rn n) qKO (qA4 n)
 |0=>fun a r e=>by cases e
 |n+1=>zJu (by kernel_rfl) fun a r e=>by
  rcases r with r|r
  ·exact congrArg (Option.map z0) e
  ·exact congrArg (Option.map z0) e
def qOP:Sg:=⟨64,[aI],[],⟨(.agg [qI,qI,qS]),[],[]⟩⟩
def qG4 (n:Nat) (x0:Int):Tr (Int×Int×BA):=(.done ((1:Int),x0,(⟨#[]⟩:BA)))
def qCs:Nat→Int→Option (Int×Int×BA)
 |0,_=>none
 |n+1,x0=>(qG4 n x0).run
theorem qIt:∀n,Ok (Rn n) qOP (qCs n)
 |0=>ok0 fun _=>rfl
 |n+1=>stO (T:=qG4 n) (by kernel_rfl) [] [] (fun _=>(by kernel_rfl)) fun _=>(by kernel_rfl)
def qLw:Sg:=⟨25,[aS],[],⟨(.tup [(true,[qI,qI,qS]),(false,[qB])]),[],[]⟩⟩
def qBI (n:Nat) (v:BA×Int×Int×Int×BA×Int×Int×BA):Tr ((BA×Int×Int×Int×BA×Int×Int×BA)⊕((BA×Int×Int×BA×Int×Int×BA))):=(.ask ((decide (v.2.1≤(5:Int)))) (.opt (qAj n v.2.1) fun r193=>(.ask ((r193.toList==v.1.toList)) (.opt (qBy n v.2.1) fun r194=>(.done (.inl (v.1,(IntKind.i64.wrap (v.2.1+(1:Int))),v.2.2.1,v.2.2.2.1,v.2.2.2.2.1,r194.1,r194.2.1,r194.2.2)))) (.done (.inl (v.1,(IntKind.i64.wrap (v.2.1+(1:Int))),v.2.2.1,v.2.2.2.1,v.2.2.2.2.1,v.2.2.2.2.2.1,v.2.2.2.2.2.2.1,v.2.2.2.2.2.2.2))))) (.done (.inr ((v.1,v.2.2.1,v.2.2.2.1,v.2.2.2.2.1,v.2.2.2.2.2.1,v.2.2.2.2.2.2.1,v.2.2.2.2.2.2.2)))))
def qBR (n:Nat) (x0:BA):Tr (Int×Int×BA×Bool):=(.opt (qAG n x0 (⟨#[39]⟩:BA)) fun r174=>(.ask (r174.2) (.opt (qAJ n (2:Int) (0:Int) r174.1) fun r179=>(.ask ((!r179)) (.done ((0:Int),(0:Int),(⟨#[]⟩:BA),false)) (.opt (qr n (2:Int) (0:Int) r174.1) fun r185=>(.ask ((!(r185.toList==x0.toList))) (.done ((0:Int),(0:Int),(⟨#[]⟩:BA),false)) (.done ((2:Int),(0:Int),r174.1,true)))))) (.ask ((x0.toList==(⟨#[70,65,76,83,69]⟩:BA).toList)) (.opt (qEZ n (x0.toList==(⟨#[84,82,85,69]⟩:BA).toList)) fun r186=>(.opt (qAJ n r186.1 r186.2.1 r186.2.2) fun r187=>(.ask ((!r187)) (.done ((0:Int),(0:Int),(⟨#[]⟩:BA),false)) (.opt (qr n r186.1 r186.2.1 r186.2.2) fun r188=>(.ask ((!(r188.toList==x0.toList))) (.done ((0:Int),(0:Int),(⟨#[]⟩:BA),false)) (.done (r186.1,r186.2.1,r186.2.2,true))))))) (.ask ((x0.toList==(⟨#[84,82,85,69]⟩:BA).toList)) (.opt (qEZ n (x0.toList==(⟨#[84,82,85,69]⟩:BA).toList)) fun r189=>(.opt (qAJ n r189.1 r189.2.1 r189.2.2) fun r190=>(.ask ((!r190)) (.done ((0:Int),(0:Int),(⟨#[]⟩:BA),false)) (.opt (qr n r189.1 r189.2.1 r189.2.2) fun r191=>(.ask ((!(r191.toList==x0.toList))) (.done ((0:Int),(0:Int),(⟨#[]⟩:BA),false)) (.done (r189.1,r189.2.1,r189.2.2,true))))))) (.opt (qn n x0 (⟨#[35]⟩:BA)) fun r192=>(.ask (r192) (.opt (zC (qBI n) n (x0,(1:Int),(0:Int),(0:Int),(⟨#[]⟩:BA),(0:Int),(0:Int),(⟨#[]⟩:BA))) fun r195=>(.opt (qAJ n r195.2.2.2.2.1 r195.2.2.2.2.2.1 r195.2.2.2.2.2.2) fun r196=>(.ask ((!r196)) (.done ((0:Int),(0:Int),(⟨#[]⟩:BA),false)) (.opt (qr n r195.2.2.2.2.1 r195.2.2.2.2.2.1 r195.2.2.2.2.2.2) fun r197=>(.ask ((!(r197.toList==r195.1.toList))) (.done ((0:Int),(0:Int),(⟨#[]⟩:BA),false)) (.done (r195.2.2.2.2.1,r195.2.2.2.2.2.1,r195.2.2.2.2.2.2,true))))))) (.ask ((!(x0.toList==(⟨#[]⟩:BA).toList))) (.opt (qA4 n x0 (10:Int) (64:Int)) fun r198=>(.alt r198 (fun r199=>(.opt (qCs n r199) fun r201=>(.opt (qAJ n r201.1 r201.2.1 r201.2.2) fun r202=>(.ask ((!r202)) (.done ((0:Int),(0:Int),(⟨#[]⟩:BA),false)) (.opt (qr n r201.1 r201.2.1 r201.2.2) fun r203=>(.ask ((!(r203.toList==x0.toList))) (.done ((0:Int),(0:Int),(⟨#[]⟩:BA),false)) (.done (r201.1,r201.2.1,r201.2.2,true)))))))) (fun r200=>(.opt (qCs n r200) fun r204=>(.opt (qAJ n r204.1 r204.2.1 r204.2.2) fun r205=>(.ask ((!r205)) (.done ((0:Int),(0:Int),(⟨#[]⟩:BA),false)) (.opt (qr n r204.1 r204.2.1 r204.2.2) fun r206=>(.ask ((!(r206.toList==x0.toList))) (.done ((0:Int),(0:Int),(⟨#[]⟩:BA),false)) (.done (r204.1,r204.2.1,r204.2.2,true)))))))))) (.opt (qAJ n (0:Int) (0:Int) (⟨#[]⟩:BA)) fun r207=>(.ask ((!r207)) (.done ((0:Int),(0:Int),(⟨#[]⟩:BA),false)) (.opt (qr n (0:Int) (0:Int) (⟨#[]⟩:BA)) fun r208=>(.ask ((!(r208.toList==x0.toList))) (.done ((0:Int),(0:Int),(⟨#[]⟩:BA),false)) (.done ((0:Int),(0:Int),(⟨#[]⟩:BA),true)))))))))))))
def qZ:Nat→BA→Option (Int×Int×BA×Bool)
 |0,_=>none
 |n+1,x0=>(qBR n x0).run
abbrev qHU (n:Nat):List (Ent (Rn n)):= [en (qCb n),en (qD4 n),en (qEY n),en (qOO n),en (qCc n),en (qEX n),en (qJ2 n),en2 (qDr n),en (qIt n)]
def qIf (n:Nat):LEnt (KB 25) (Rn n) n:=lok (zU 25) 3837 ⟨⟨[(0,aS),(2,(.c (.ptr 0 128 0 0 0))),(4,(.c (.ptr 0 256 0 0 0))),(7,aI)],[(128,⟨0,3,37,(.box [qI,qI,qS])⟩),(256,⟨0,3,37,(.box [qI,qI,qS])⟩)],[]⟩,[(.exit 1,⟨[(0,aS),(2,(.c (.ptr 0 128 0 0 0))),(4,(.c (.ptr 0 256 0 0 0)))],[(128,⟨0,3,37,(.box [qI,qI,qS])⟩),(256,⟨0,3,37,(.box [qI,qI,qS])⟩)],[]⟩)]⟩ (qBI n) (qHU n) [] fun _=>(by kernel_rfl)
theorem qEa:∀n,Ok (Rn n) qLw (qZ n)
 |0=>ok0 fun _=>rfl
 |n+1=>stO (T:=qBR n) (by kernel_rfl) (qHU n) [qIf n] (fun _=>(by kernel_rfl)) fun _=>(by kernel_rfl)
def qNU:Sg:=⟨141,[aI],[],⟨aS,[],[]⟩⟩
def qDV (n:Nat) (x0:Int):Tr (BA):=(.opt (qAl n x0 (1:Int) (52:Int)) fun r214=>(.ask ((!r214)) (.done (⟨#[]⟩:BA)) (.ask ((decide (x0≤(26:Int)))) (.ask (decide (1=([[(.i .u8 (IntKind.u8.wrap (IntKind.i64.wrap ((IntKind.i64.wrap ((65:Int)+x0))-(1:Int)))))]]:RW).length)) (.opt (bytesOf ([[(.i .u8 (IntKind.u8.wrap (IntKind.i64.wrap ((IntKind.i64.wrap ((65:Int)+x0))-(1:Int)))))]]:RW)) fun l215=>(.done (⟨l215.toArray⟩:BA))) .fail) (.ask (decide (2=([[(.i .u8 (IntKind.u8.wrap (IntKind.i64.wrap ((IntKind.i64.wrap ((65:Int)+(IntKind.i64.wrap (Int.tdiv (IntKind.i64.wrap (x0-(1:Int))) (26:Int)))))-(1:Int)))))],[(.i .u8 (IntKind.u8.wrap (IntKind.i64.wrap ((65:Int)+(Int.tmod (IntKind.i64.wrap (x0-(1:Int))) (26:Int))))))]]:RW).length)) (.opt (bytesOf ([[(.i .u8 (IntKind.u8.wrap (IntKind.i64.wrap ((IntKind.i64.wrap ((65:Int)+(IntKind.i64.wrap (Int.tdiv (IntKind.i64.wrap (x0-(1:Int))) (26:Int)))))-(1:Int)))))],[(.i .u8 (IntKind.u8.wrap (IntKind.i64.wrap ((65:Int)+(Int.tmod (IntKind.i64.wrap (x0-(1:Int))) (26:Int))))))]]:RW)) fun l216=>(.done (⟨l216.toArray⟩:BA))) .fail))))
def qB2:Nat→Int→Option (BA)
 |0,_=>none
 |n+1,x0=>(qDV n x0).run
abbrev qNV (n:Nat):List (Ent (Rn n)):= [en (qDU n)]
theorem qII:∀n,Ok (Rn n) qNU (qB2 n)
 |0=>ok0 fun _=>rfl
 |n+1=>stO (T:=qDV n) (by kernel_rfl) (qNV n) [] (fun _=>(by kernel_rfl)) fun _=>(by kernel_rfl)
def qNW:Sg:=⟨187,[aS],[],⟨aI,[],[]⟩⟩
def qCd (n:Nat) (v:BA×Int):Tr ((BA×Int)⊕((Int)⊕(Unit))):=(.ask ((decide (v.2≤(52:Int)))) (.opt (qB2 n v.2) fun r214=>(.ask ((r214.toList==v.1.toList)) (.done (.inr (.inl (v.2)))) (.done (.inl (v.1,(IntKind.i64.wrap (v.2+(1:Int)))))))) (.done (.inr (.inr (())))))
def qF7 (n:Nat) (x0:BA):Tr (Int):=(.opt (zC (qCd n) n (x0,(1:Int))) fun r215=>(.alt r215 (fun r216=>(.done r216)) (fun r217=>(.done (0:Int)))))
def qEb:Nat→BA→Option (Int)
 |0,_=>none
 |n+1,x0=>(qF7 n x0).run
abbrev qIu (n:Nat):List (Ent (Rn n)):= [en (qII n)]
def qK1 (n:Nat):LEnt (KB 187) (Rn n) n:=lok (zU 187) 13 ⟨⟨[(0,aS),(3,aI)],[],[]⟩,[(.ret,⟨[(2,aI)],[],[]⟩),(.exit 0,⟨[],[],[]⟩)]⟩ (qCd n) (qIu n) [] fun _=>(by kernel_rfl)
theorem qMq:∀n,Ok (Rn n) qNW (qEb n)
 |0=>ok0 fun _=>rfl
 |n+1=>stO (T:=qF7 n) (by kernel_rfl) (qIu n) [qK1 n] (fun _=>(by kernel_rfl)) fun _=>(by kernel_rfl)
def qPE:Sg:=⟨77,[(.agg [qI,qI])],[],⟨aB,[],[]⟩⟩
def qHx (n:Nat) (x0 x1:Int):Tr (Bool):=(.opt (qAl n x0 (1:Int) (52:Int)) fun r223=>(.ask (r223) (.opt (qAl n x1 (1:Int) (99:Int)) fun r224=>(.done r224)) (.done false)))
def qCe:Nat→Int→Int→Option (Bool)
 |0,_,_=>none
 |n+1,x0,x1=>(qHx n x0 x1).run
abbrev qPF (n:Nat):List (Ent (Rn n)):= [en (qDU n)]
theorem qG5:∀n,Ok (Rn n) qPE (qCe n)
 |0=>ok0 fun _=>rfl
 |n+1=>stO (T:=qHx n) (by kernel_rfl) (qPF n) [] (fun _=>(by kernel_rfl)) fun _=>(by kernel_rfl)
def qLx:Sg:=⟨102,[(.agg [qI,qI,qB,qB])],[],⟨aS,[],[]⟩⟩
def qDi (n:Nat) (x0 x1:Int) (x2 x3:Bool):Tr (BA):=(.opt (qCe n x0 x1) fun r226=>(.ask ((!r226)) (.done (⟨#[]⟩:BA)) (.ask (x2) (.opt (qB2 n x0) fun r227=>(.ask (decide ((⟨#[36]⟩:BA).size+r227.size≤9223372036854775807)) (.ask (x3) (.ask (decide (((⟨#[36]⟩:BA)++r227).size+(⟨#[36]⟩:BA).size≤9223372036854775807)) (.opt (qBJ n x1) fun r228=>(.ask (decide ((((⟨#[36]⟩:BA)++r227)++(⟨#[36]⟩:BA)).size+r228.size≤9223372036854775807)) (.done ((((⟨#[36]⟩:BA)++r227)++(⟨#[36]⟩:BA))++r228)) .fail)) .fail) (.opt (qBJ n x1) fun r229=>(.ask (decide (((⟨#[36]⟩:BA)++r227).size+r229.size≤9223372036854775807)) (.done (((⟨#[36]⟩:BA)++r227)++r229)) .fail))) .fail)) (.opt (qB2 n x0) fun r230=>(.ask (decide ((⟨#[]⟩:BA).size+r230.size≤9223372036854775807)) (.ask (x3) (.ask (decide (((⟨#[]⟩:BA)++r230).size+(⟨#[36]⟩:BA).size≤9223372036854775807)) (.opt (qBJ n x1) fun r231=>(.ask (decide ((((⟨#[]⟩:BA)++r230)++(⟨#[36]⟩:BA)).size+r231.size≤9223372036854775807)) (.done ((((⟨#[]⟩:BA)++r230)++(⟨#[36]⟩:BA))++r231)) .fail)) .fail) (.opt (qBJ n x1) fun r232=>(.ask (decide (((⟨#[]⟩:BA)++r230).size+r232.size≤9223372036854775807)) (.done (((⟨#[]⟩:BA)++r230)++r232)) .fail))) .fail)))))
def qA9:Nat→Int→Int→Bool→Bool→Option (BA)
 |0,_,_,_,_=>none
 |n+1,x0,x1,x2,x3=>(qDi n x0 x1 x2 x3).run
abbrev qLy (n:Nat):List (Ent (Rn n)):= [en (qG5 n),en (qII n),en (qFW n)]
theorem qGk:∀n,Ok (Rn n) qLx (qA9 n)
 |0=>ok0 fun _=>rfl
 |n+1=>stO (T:=qDi n) (by kernel_rfl) (qLy n) [] (fun _=>(by kernel_rfl)) fun _=>(by kernel_rfl)
def qLz:Sg:=⟨164,[aS],[],⟨(.tup [(true,[qI,qI,qB,qB]),(false,[qB])]),[],[]⟩⟩
def qE1 (n:Nat) (x0:BA):Tr (Int×Int×Bool×Bool×Bool):=(.opt (qAG n x0 (⟨#[36]⟩:BA)) fun r212=>(.opt (qBM n r212.1 (⟨#[65,66,67,68,69,70,71,72,73,74,75,76,77,78,79,80,81,82,83,84,85,86,87,88,89,90]⟩:BA)) fun r213=>(.ask (decide (0≤(0:Int)∧(0:Int)≤(IntKind.i64.wrap ((r212.1.size:Int)-(r213.size:Int)))∧(IntKind.i64.wrap ((r212.1.size:Int)-(r213.size:Int)))≤r212.1.size)) (.opt (qEb n (r212.1.extract ((0:Int)).toNat ((IntKind.i64.wrap ((r212.1.size:Int)-(r213.size:Int)))).toNat)) fun r218=>(.ask (decide (0≤(IntKind.i64.wrap ((r212.1.size:Int)-(r213.size:Int)))∧(IntKind.i64.wrap ((r212.1.size:Int)-(r213.size:Int)))≤(r212.1.size:Int)∧(r212.1.size:Int)≤r212.1.size)) (.opt (qAG n (r212.1.extract ((IntKind.i64.wrap ((r212.1.size:Int)-(r213.size:Int)))).toNat ((r212.1.size:Int)).toNat) (⟨#[36]⟩:BA)) fun r219=>(.opt (qA4 n r219.1 (10:Int) (64:Int)) fun r220=>(.alt r220 (fun r221=>(.opt (qCe n r218 r221) fun r225=>(.ask ((!r225)) (.done ((0:Int),(0:Int),false,false,false)) (.opt (qA9 n r218 r221 r212.2 r219.2) fun r233=>(.ask ((!(r233.toList==x0.toList))) (.done ((0:Int),(0:Int),false,false,false)) (.done (r218,r221,r212.2,r219.2,true))))))) (fun r222=>(.opt (qCe n r218 r222) fun r234=>(.ask ((!r234)) (.done ((0:Int),(0:Int),false,false,false)) (.opt (qA9 n r218 r222 r212.2 r219.2) fun r235=>(.ask ((!(r235.toList==x0.toList))) (.done ((0:Int),(0:Int),false,false,false)) (.done (r218,r222,r212.2,r219.2,true)))))))))) .fail)) .fail)))
def qAk:Nat→BA→Option (Int×Int×Bool×Bool×Bool)
 |0,_=>none
 |n+1,x0=>(qE1 n x0).run
abbrev qL0 (n:Nat):List (Ent (Rn n)):= [en (qCb n),en (qDp n),en (qMq n),en2 (qDr n),en (qG5 n),en (qGk n)]
theorem qGl:∀n,Ok (Rn n) qLz (qAk n)
 |0=>ok0 fun _=>rfl
 |n+1=>stO (T:=qE1 n) (by kernel_rfl) (qL0 n) [] (fun _=>(by kernel_rfl)) fun _=>(by kernel_rfl)
def qOQ:Sg:=⟨103,[aI],[],⟨aS,[],[]⟩⟩
def qG6 (n:Nat) (x0:Int):Tr (BA):=(.ask (decide (11=([[(.s (⟨#[]⟩:BA))],[(.s (⟨#[83,85,77]⟩:BA))],[(.s (⟨#[77,73,78]⟩:BA))],[(.s (⟨#[77,65,88]⟩:BA))],[(.s (⟨#[67,79,85,78,84]⟩:BA))],[(.s (⟨#[73,70]⟩:BA))],[(.s (⟨#[65,78,68]⟩:BA))],[(.s (⟨#[79,82]⟩:BA))],[(.s (⟨#[78,79,84]⟩:BA))],[(.s (⟨#[65,66,83]⟩:BA))],[(.s (⟨#[76,69,78]⟩:BA))]]:RW).length∧0≤x0∧x0<((11:Nat):Int))) (.opt (([[(.s (⟨#[]⟩:BA))],[(.s (⟨#[83,85,77]⟩:BA))],[(.s (⟨#[77,73,78]⟩:BA))],[(.s (⟨#[77,65,88]⟩:BA))],[(.s (⟨#[67,79,85,78,84]⟩:BA))],[(.s (⟨#[73,70]⟩:BA))],[(.s (⟨#[65,78,68]⟩:BA))],[(.s (⟨#[79,82]⟩:BA))],[(.s (⟨#[78,79,84]⟩:BA))],[(.s (⟨#[65,66,83]⟩:BA))],[(.s (⟨#[76,69,78]⟩:BA))]]:RW)[(x0).toNat]?) fun e238=>(.opt (zp e238 0) fun y239=>(.done y239))) .fail)
def qCH:Nat→Int→Option (BA)
 |0,_=>none
 |n+1,x0=>(qG6 n x0).run
theorem qIv:∀n,Ok (Rn n) qOQ (qCH n)
 |0=>ok0 fun _=>rfl
 |n+1=>stO (T:=qG6 n) (by kernel_rfl) [] [] (fun _=>(by kernel_rfl)) fun _=>(by kernel_rfl)
def qHy:Sg:=⟨188,[(.c (.ptr 0 0 0 0 0))],[[(0,⟨0,3,55,(.box [qS,(.own 0 1 1 0),qB])⟩),(1,⟨1,14,64,(.row [])⟩)]],⟨(.tup [(true,[qI,qI,qI,qI,qS,qI,qI,qB,qB,qI,qI,qB,qB,qL]),(false,[qB])]),[[(0,⟨0,3,55,(.box [qS,(.own 0 1 1 0),qB])⟩),(1,⟨1,14,64,(.row [])⟩)]],[]⟩⟩
def qEc (n:Nat) (x0:BA) (x1:Nat) (x2:Bool) (x3:RW):Tr (Int×Int×Int×Int×BA×Int×Int×Bool×Bool×Int×Int×Bool×Bool×RW×Bool×BA×Nat×Bool×RW):=(.opt (qBN n x0 x1 x2 x3) fun r241=>(.opt (qAk n r241.1) fun r242=>(.ask (r242.2.2.2.2) (.opt (qu n (⟨#[58]⟩:BA) r241.2.1 r241.2.2.1 r241.2.2.2.1 r241.2.2.2.2) fun r243=>(.ask ((!r243.1)) (.done ((0:Int),(0:Int),(0:Int),(0:Int),(⟨#[]⟩:BA),(0:Int),(0:Int),false,false,(0:Int),(0:Int),false,false,([]:RW),false,x0,r243.2.2.1,r243.2.2.2.1,r243.2.2.2.2)) (.opt (qBN n r243.2.1 r243.2.2.1 r243.2.2.2.1 r243.2.2.2.2) fun r244=>(.opt (qAk n r244.1) fun r245=>(.ask (r244.2.2.2.1) (.done ((3:Int),(0:Int),(0:Int),(0:Int),(⟨#[]⟩:BA),r242.1,r242.2.1,r242.2.2.1,r242.2.2.2.1,r245.1,r245.2.1,r245.2.2.1,r245.2.2.2.1,([]:RW),true,r244.2.1,r244.2.2.1,true,r244.2.2.2.2)) (.done ((3:Int),(0:Int),(0:Int),(0:Int),(⟨#[]⟩:BA),r242.1,r242.2.1,r242.2.2.1,r242.2.2.2.1,r245.1,r245.2.1,r245.2.2.1,r245.2.2.2.1,([]:RW),true,r244.2.1,r244.2.2.1,(!r245.2.2.2.2),r244.2.2.2.2))))))) (.done ((0:Int),(0:Int),(0:Int),(0:Int),(⟨#[]⟩:BA),(0:Int),(0:Int),false,false,(0:Int),(0:Int),false,false,([]:RW),false,x0,r241.2.2.1,r241.2.2.2.1,r241.2.2.2.2)))))
def qC9:Nat→BA→Nat→Bool→RW→Option (Int×Int×Int×Int×BA×Int×Int×Bool×Bool×Int×Int×Bool×Bool×RW×Bool×BA×Nat×Bool×RW)
 |0,_,_,_,_=>none
 |n+1,x0,x1,x2,x3=>(qEc n x0 x1 x2 x3).run
abbrev qHz (n:Nat):List (Ent (Rn n)):= [en (qFg n),en (qGl n),en (qCA n)]
theorem qHV:∀n,Ok (Rn n) qHy (qC9 n)
 |0=>ok0 fun _=>rfl
 |n+1=>stO (T:=qEc n) (by kernel_rfl) (qHz n) [] (fun _=>(by kernel_rfl)) fun _=>(by kernel_rfl)
def qOR:Sg:=⟨86,[aI],[],⟨aS,[],[]⟩⟩
def qG7 (n:Nat) (x0:Int):Tr (BA):=(.ask (decide (12=([[(.s (⟨#[]⟩:BA))],[(.s (⟨#[43]⟩:BA))],[(.s (⟨#[45]⟩:BA))],[(.s (⟨#[42]⟩:BA))],[(.s (⟨#[47]⟩:BA))],[(.s (⟨#[38]⟩:BA))],[(.s (⟨#[61]⟩:BA))],[(.s (⟨#[60,62]⟩:BA))],[(.s (⟨#[60]⟩:BA))],[(.s (⟨#[60,61]⟩:BA))],[(.s (⟨#[62]⟩:BA))],[(.s (⟨#[62,61]⟩:BA))]]:RW).length∧0≤x0∧x0<((12:Nat):Int))) (.opt (([[(.s (⟨#[]⟩:BA))],[(.s (⟨#[43]⟩:BA))],[(.s (⟨#[45]⟩:BA))],[(.s (⟨#[42]⟩:BA))],[(.s (⟨#[47]⟩:BA))],[(.s (⟨#[38]⟩:BA))],[(.s (⟨#[61]⟩:BA))],[(.s (⟨#[60,62]⟩:BA))],[(.s (⟨#[60]⟩:BA))],[(.s (⟨#[60,61]⟩:BA))],[(.s (⟨#[62]⟩:BA))],[(.s (⟨#[62,61]⟩:BA))]]:RW)[(x0).toNat]?) fun e272=>(.opt (zp e272 0) fun y273=>(.done y273))) .fail)
def qBW:Nat→Int→Option (BA)
 |0,_=>none
 |n+1,x0=>(qG7 n x0).run
theorem qIw:∀n,Ok (Rn n) qOR (qBW n)
 |0=>ok0 fun _=>rfl
 |n+1=>stO (T:=qG7 n) (by kernel_rfl) [] [] (fun _=>(by kernel_rfl)) fun _=>(by kernel_rfl)
def qPG:Sg:=⟨87,[aI],[],⟨aI,[],[]⟩⟩
def qH0 (n:Nat) (x0:Int):Tr (Int):=(.ask ((x0==(3:Int))) (.done (4:Int)) (.ask ((x0==(4:Int))) (.done (4:Int)) (.ask ((x0==(1:Int))) (.done (3:Int)) (.ask ((x0==(2:Int))) (.done (3:Int)) (.ask ((x0==(5:Int))) (.done (2:Int)) (.done (1:Int)))))))
def qDj:Nat→Int→Option (Int)
 |0,_=>none
 |n+1,x0=>(qH0 n x0).run
theorem qJ3:∀n,Ok (Rn n) qPG (qDj n)
 |0=>ok0 fun _=>rfl
 |n+1=>stO (T:=qH0 n) (by kernel_rfl) [] [] (fun _=>(by kernel_rfl)) fun _=>(by kernel_rfl)
def qFJ:Sg:=⟨36,[(.c (.ptr 0 0 0 0 0)),aI,aI],[[(0,⟨0,3,55,(.box [qS,(.own 0 1 1 0),qB])⟩),(1,⟨1,14,64,(.row [])⟩)]],⟨aI,[[(0,⟨0,3,55,(.box [qS,(.own 0 1 1 0),qB])⟩),(1,⟨1,14,64,(.row [])⟩)]],[]⟩⟩
def qJl:Sg:=⟨84,[(.c (.ptr 0 0 0 0 0)),aI],[[(0,⟨0,3,55,(.box [qS,(.own 0 1 1 0),qB])⟩),(1,⟨1,14,64,(.row [])⟩)]],⟨aI,[[(0,⟨0,3,55,(.box [qS,(.own 0 1 1 0),qB])⟩),(1,⟨1,14,64,(.row [])⟩)]],[]⟩⟩
def qKP:Sg:=⟨134,[(.c (.ptr 0 0 0 0 0)),aI],[[(0,⟨0,3,55,(.box [qS,(.own 0 1 1 0),qB])⟩),(1,⟨1,14,64,(.row [])⟩)]],⟨aI,[[(0,⟨0,3,55,(.box [qS,(.own 0 1 1 0),qB])⟩),(1,⟨1,14,64,(.row [])⟩)]],[]⟩⟩
def qKQ:Sg:=⟨165,[(.c (.ptr 0 0 0 0 0)),aI,aI],[[(0,⟨0,3,55,(.box [qS,(.own 0 1 1 0),qB])⟩),(1,⟨1,14,64,(.row [])⟩)]],⟨aI,[[(0,⟨0,3,55,(.box [qS,(.own 0 1 1 0),qB])⟩),(1,⟨1,14,64,(.row [])⟩)]],[]⟩⟩
structure G_impl_reader_binary where
 impl_reader_binary:Int→Int→BA→Nat→Bool→RW→Option (Int×BA×Nat×Bool×RW)
 impl_reader_unary:Int→BA→Nat→Bool→RW→Option (Int×BA×Nat×Bool×RW)
 impl_reader_atom:Int→BA→Nat→Bool→RW→Option (Int×BA×Nat×Bool×RW)
 impl_reader_call:Int→Int→BA→Nat→Bool→RW→Option (Int×BA×Nat×Bool×RW)
def qBK (n:Nat) (v:Int×Int×Int×Int×Int×BA×Nat×Bool×RW):Tr ((Int×Int×Int×Int×Int×BA×Nat×Bool×RW)⊕((Int×Int×Int×Int×BA×Nat×Bool×RW))):=(.ask ((decide (v.2.2.2.2.1≤(11:Int)))) (.opt (qBm n v.2.2.2.2.2.1 v.2.2.2.2.2.2.1 v.2.2.2.2.2.2.2.1 v.2.2.2.2.2.2.2.2) fun r271=>(.opt (qBW n v.2.2.2.2.1) fun r272=>(.ask ((r271.1.toList==r272.toList)) (.done (.inl (v.1,v.2.1,v.2.2.1,v.2.2.2.2.1,(IntKind.i64.wrap (v.2.2.2.2.1+(1:Int))),r271.2.1,r271.2.2.1,r271.2.2.2.1,r271.2.2.2.2))) (.done (.inl (v.1,v.2.1,v.2.2.1,v.2.2.2.1,(IntKind.i64.wrap (v.2.2.2.2.1+(1:Int))),r271.2.1,r271.2.2.1,r271.2.2.2.1,r271.2.2.2.2)))))) (.done (.inr ((v.1,v.2.1,v.2.2.1,v.2.2.2.1,v.2.2.2.2.2.1,v.2.2.2.2.2.2.1,v.2.2.2.2.2.2.2.1,v.2.2.2.2.2.2.2.2)))))
def qCz (rec:G_impl_reader_binary) (n:Nat) (v:Int×Int×Int×BA×Nat×Bool×RW):Tr ((Int×Int×Int×BA×Nat×Bool×RW)⊕((Int×BA×Nat×Bool×RW))):=(.ask ((!v.2.2.2.2.2.1)) (.opt (zC (qBK n) n (v.1,v.2.1,v.2.2.1,(0:Int),(1:Int),v.2.2.2.1,v.2.2.2.2.1,v.2.2.2.2.2.1,v.2.2.2.2.2.2)) fun r273=>(.ask ((r273.2.2.2.1==(0:Int))) (.done (.inr ((r273.2.2.1,r273.2.2.2.2.1,r273.2.2.2.2.2.1,r273.2.2.2.2.2.2.1,r273.2.2.2.2.2.2.2)))) (.opt (qDj n r273.2.2.2.1) fun r274=>(.ask ((decide (r274<r273.1))) (.done (.inr ((r273.2.2.1,r273.2.2.2.2.1,r273.2.2.2.2.2.1,r273.2.2.2.2.2.2.1,r273.2.2.2.2.2.2.2)))) (.opt (qBW n r273.2.2.2.1) fun r275=>(.opt (qu n r275 r273.2.2.2.2.1 r273.2.2.2.2.2.1 r273.2.2.2.2.2.2.1 r273.2.2.2.2.2.2.2) fun r276=>(.opt (qDj n r273.2.2.2.1) fun r277=>(.opt (rec.impl_reader_binary (IntKind.i64.wrap (r277+(1:Int))) r273.2.1 r276.2.1 r276.2.2.1 r276.2.2.2.1 r276.2.2.2.2) fun r278=>(.ask (decide (2=([[(.i .i64 r273.2.2.1)],[(.i .i64 r278.1)]]:RW).length)) (.opt (qv n (5:Int) r273.2.2.2.1 (0:Int) (0:Int) (⟨#[]⟩:BA) (0:Int) (0:Int) false false (0:Int) (0:Int) false false ([[(.i .i64 r273.2.2.1)],[(.i .i64 r278.1)]]:RW) r278.2.1 r278.2.2.1 r278.2.2.2.1 r278.2.2.2.2) fun r279=>(.done (.inl (r273.1,r273.2.1,r279.1,r279.2.1,r279.2.2.1,r279.2.2.2.1,r279.2.2.2.2)))) .fail))))))))) (.done (.inr ((v.2.2.1,v.2.2.2.1,v.2.2.2.2.1,v.2.2.2.2.2.1,v.2.2.2.2.2.2)))))
def qFK (rec:G_impl_reader_binary) (n:Nat) (x0 x1:Int) (x2:BA) (x3:Nat) (x4:Bool) (x5:RW):Tr (Int×BA×Nat×Bool×RW):=(.opt (rec.impl_reader_unary x1 x2 x3 x4 x5) fun r270=>(.opt (zC (qCz rec n) n (x0,x1,r270.1,r270.2.1,r270.2.2.1,r270.2.2.2.1,r270.2.2.2.2)) fun r280=>(.done (r280.1,r280.2.1,r280.2.2.1,r280.2.2.2.1,r280.2.2.2.2))))
def qFi (rec:G_impl_reader_binary) (n:Nat) (x0:Int) (x1:BA) (x2:Nat) (x3:Bool) (x4:RW):Tr (Int×BA×Nat×Bool×RW):=(.ask ((decide (x0>(400:Int)))) (.ask (true) (.done ((-1:Int),x1,x2,true,x4)) (.opt (qu n (⟨#[45]⟩:BA) x1 x2 true x4) fun r150=>(.ask (r150.1) (.opt (rec.impl_reader_unary (IntKind.i64.wrap (x0+(1:Int))) r150.2.1 r150.2.2.1 r150.2.2.2.1 r150.2.2.2.2) fun r151=>(.ask (decide (1=([[(.i .i64 r151.1)]]:RW).length)) (.opt (qv n (4:Int) (0:Int) (0:Int) (0:Int) (⟨#[]⟩:BA) (0:Int) (0:Int) false false (0:Int) (0:Int) false false ([[(.i .i64 r151.1)]]:RW) r151.2.1 r151.2.2.1 r151.2.2.2.1 r151.2.2.2.2) fun r152=>(.done (r152.1,r152.2.1,r152.2.2.1,r152.2.2.2.1,r152.2.2.2.2))) .fail)) (.opt (rec.impl_reader_atom x0 r150.2.1 r150.2.2.1 r150.2.2.2.1 r150.2.2.2.2) fun r265=>(.done (r265.1,r265.2.1,r265.2.2.1,r265.2.2.2.1,r265.2.2.2.2)))))) (.ask (x3) (.done ((-1:Int),x1,x2,x3,x4)) (.opt (qu n (⟨#[45]⟩:BA) x1 x2 x3 x4) fun r266=>(.ask (r266.1) (.opt (rec.impl_reader_unary (IntKind.i64.wrap (x0+(1:Int))) r266.2.1 r266.2.2.1 r266.2.2.2.1 r266.2.2.2.2) fun r267=>(.ask (decide (1=([[(.i .i64 r267.1)]]:RW).length)) (.opt (qv n (4:Int) (0:Int) (0:Int) (0:Int) (⟨#[]⟩:BA) (0:Int) (0:Int) false false (0:Int) (0:Int) false false ([[(.i .i64 r267.1)]]:RW) r267.2.1 r267.2.2.1 r267.2.2.2.1 r267.2.2.2.2) fun r268=>(.done (r268.1,r268.2.1,r268.2.2.1,r268.2.2.2.1,r268.2.2.2.2))) .fail)) (.opt (rec.impl_reader_atom x0 r266.2.1 r266.2.2.1 r266.2.2.2.1 r266.2.2.2.2) fun r269=>(.done (r269.1,r269.2.1,r269.2.2.1,r269.2.2.2.1,r269.2.2.2.2)))))))
def qCD (n:Nat) (v:Int×Int×BA×Nat×Bool×RW):Tr ((Int×Int×BA×Nat×Bool×RW)⊕((Int×BA×Nat×Bool×RW)⊕(Int×BA×Nat×Bool×RW))):=(.ask ((decide (v.2.1≤(5:Int)))) (.opt (qAj n v.2.1) fun r164=>(.opt (qAG n v.2.2.1 r164) fun r165=>(.ask (r165.2) (.opt (qBy n v.2.1) fun r166=>(.opt (qm n r166.1 r166.2.1 r166.2.2 r165.1 v.2.2.2.1 v.2.2.2.2.1 v.2.2.2.2.2) fun r167=>(.done (.inr (.inl ((r167.1,r167.2.1,r167.2.2.1,r167.2.2.2.1,r167.2.2.2.2))))))) (.done (.inl (v.1,(IntKind.i64.wrap (v.2.1+(1:Int))),v.2.2.1,v.2.2.2.1,v.2.2.2.2.1,v.2.2.2.2.2)))))) (.done (.inr (.inr ((v.1,v.2.2.1,v.2.2.2.1,v.2.2.2.2.1,v.2.2.2.2.2))))))
def qAo (rec:G_impl_reader_binary) (n:Nat) (v:Int×BA×Int×BA×Nat×Bool×RW):Tr ((Int×BA×Int×BA×Nat×Bool×RW)⊕((Int×BA×Nat×Bool×RW)⊕(BA×Nat×Bool×RW))):=(.ask ((decide (v.2.2.1≤(10:Int)))) (.opt (qCH n v.2.2.1) fun r238=>(.ask ((v.2.1.toList==r238.toList)) (.opt (rec.impl_reader_call v.2.2.1 v.1 v.2.2.2.1 v.2.2.2.2.1 v.2.2.2.2.2.1 v.2.2.2.2.2.2) fun r239=>(.done (.inr (.inl ((r239.1,r239.2.1,r239.2.2.1,r239.2.2.2.1,r239.2.2.2.2)))))) (.done (.inl (v.1,v.2.1,(IntKind.i64.wrap (v.2.2.1+(1:Int))),v.2.2.2.1,v.2.2.2.2.1,v.2.2.2.2.2.1,v.2.2.2.2.2.2))))) (.done (.inr (.inr ((v.2.2.2.1,v.2.2.2.2.1,v.2.2.2.2.2.1,v.2.2.2.2.2.2))))))
def qF8 (rec:G_impl_reader_binary) (n:Nat) (x0:Int) (x1:BA) (x2:Nat) (x3:Bool) (x4:RW):Tr (Int×BA×Nat×Bool×RW):=(.opt (qA3 n x1 x2 x3 x4) fun r153=>(.opt (qn n r153.1 (⟨#[34]⟩:BA)) fun r154=>(.ask (r154) (.opt (qDT n r153.1 r153.2.1 r153.2.2.1 r153.2.2.2) fun r162=>(.done (r162.1,r162.2.1,r162.2.2.1,r162.2.2.2.1,r162.2.2.2.2))) (.opt (qn n r153.1 (⟨#[35]⟩:BA)) fun r163=>(.ask (r163) (.opt (zC (qCD n) n (x0,(1:Int),r153.1,r153.2.1,r153.2.2.1,r153.2.2.2)) fun r168=>(.alt r168 (fun r169=>(.done (r169.1,r169.2.1,r169.2.2.1,r169.2.2.2.1,r169.2.2.2.2))) (fun r170=>(.opt (qBN n r170.2.1 r170.2.2.1 r170.2.2.2.1 r170.2.2.2.2) fun r173=>(.opt (qZ n r173.1) fun r209=>(.ask (r209.2.2.2) (.ask ((r209.1==(1:Int))) (.opt (qm n r209.1 r209.2.1 r209.2.2.1 r173.2.1 r173.2.2.1 r173.2.2.2.1 r173.2.2.2.2) fun r210=>(.done (r210.1,r210.2.1,r210.2.2.1,r210.2.2.2.1,r210.2.2.2.2))) (.ask ((r209.1==(3:Int))) (.opt (qm n r209.1 r209.2.1 r209.2.2.1 r173.2.1 r173.2.2.1 r173.2.2.2.1 r173.2.2.2.2) fun r211=>(.done (r211.1,r211.2.1,r211.2.2.1,r211.2.2.2.1,r211.2.2.2.2))) (.opt (qAk n r173.1) fun r236=>(.ask (r236.2.2.2.2) (.opt (qv n (2:Int) (0:Int) (0:Int) (0:Int) (⟨#[]⟩:BA) r236.1 r236.2.1 r236.2.2.1 r236.2.2.2.1 (0:Int) (0:Int) false false ([]:RW) r173.2.1 r173.2.2.1 r173.2.2.2.1 r173.2.2.2.2) fun r237=>(.done (r237.1,r237.2.1,r237.2.2.1,r237.2.2.2.1,r237.2.2.2.2))) (.opt (zC (qAo rec n) n (r170.1,r173.1,(1:Int),r173.2.1,r173.2.2.1,r173.2.2.2.1,r173.2.2.2.2)) fun r240=>(.alt r240 (fun r241=>(.done (r241.1,r241.2.1,r241.2.2.1,r241.2.2.2.1,r241.2.2.2.2))) (fun r242=>(.done ((-1:Int),r242.1,r242.2.1,true,r242.2.2.2))))))))) (.opt (qAk n r173.1) fun r243=>(.ask (r243.2.2.2.2) (.opt (qv n (2:Int) (0:Int) (0:Int) (0:Int) (⟨#[]⟩:BA) r243.1 r243.2.1 r243.2.2.1 r243.2.2.2.1 (0:Int) (0:Int) false false ([]:RW) r173.2.1 r173.2.2.1 r173.2.2.2.1 r173.2.2.2.2) fun r244=>(.done (r244.1,r244.2.1,r244.2.2.1,r244.2.2.2.1,r244.2.2.2.2))) (.opt (zC (qAo rec n) n (r170.1,r173.1,(1:Int),r173.2.1,r173.2.2.1,r173.2.2.2.1,r173.2.2.2.2)) fun r245=>(.alt r245 (fun r246=>(.done (r246.1,r246.2.1,r246.2.2.1,r246.2.2.2.1,r246.2.2.2.2))) (fun r247=>(.done ((-1:Int),r247.1,r247.2.1,true,r247.2.2.2))))))))))))) (.opt (qu n (⟨#[40]⟩:BA) r153.1 r153.2.1 r153.2.2.1 r153.2.2.2) fun r248=>(.ask (r248.1) (.opt (rec.impl_reader_binary (1:Int) (IntKind.i64.wrap (x0+(1:Int))) r248.2.1 r248.2.2.1 r248.2.2.2.1 r248.2.2.2.2) fun r249=>(.ask (r249.2.2.2.1) (.done (r249.1,r249.2.1,r249.2.2.1,true,r249.2.2.2.2)) (.opt (qu n (⟨#[41]⟩:BA) r249.2.1 r249.2.2.1 r249.2.2.2.1 r249.2.2.2.2) fun r250=>(.done (r249.1,r250.2.1,r250.2.2.1,(!r250.1),r250.2.2.2.2))))) (.opt (qBN n r248.2.1 r248.2.2.1 r248.2.2.2.1 r248.2.2.2.2) fun r251=>(.opt (qZ n r251.1) fun r252=>(.ask (r252.2.2.2) (.ask ((r252.1==(1:Int))) (.opt (qm n r252.1 r252.2.1 r252.2.2.1 r251.2.1 r251.2.2.1 r251.2.2.2.1 r251.2.2.2.2) fun r253=>(.done (r253.1,r253.2.1,r253.2.2.1,r253.2.2.2.1,r253.2.2.2.2))) (.ask ((r252.1==(3:Int))) (.opt (qm n r252.1 r252.2.1 r252.2.2.1 r251.2.1 r251.2.2.1 r251.2.2.2.1 r251.2.2.2.2) fun r254=>(.done (r254.1,r254.2.1,r254.2.2.1,r254.2.2.2.1,r254.2.2.2.2))) (.opt (qAk n r251.1) fun r255=>(.ask (r255.2.2.2.2) (.opt (qv n (2:Int) (0:Int) (0:Int) (0:Int) (⟨#[]⟩:BA) r255.1 r255.2.1 r255.2.2.1 r255.2.2.2.1 (0:Int) (0:Int) false false ([]:RW) r251.2.1 r251.2.2.1 r251.2.2.2.1 r251.2.2.2.2) fun r256=>(.done (r256.1,r256.2.1,r256.2.2.1,r256.2.2.2.1,r256.2.2.2.2))) (.opt (zC (qAo rec n) n (x0,r251.1,(1:Int),r251.2.1,r251.2.2.1,r251.2.2.2.1,r251.2.2.2.2)) fun r257=>(.alt r257 (fun r258=>(.done (r258.1,r258.2.1,r258.2.2.1,r258.2.2.2.1,r258.2.2.2.2))) (fun r259=>(.done ((-1:Int),r259.1,r259.2.1,true,r259.2.2.2))))))))) (.opt (qAk n r251.1) fun r260=>(.ask (r260.2.2.2.2) (.opt (qv n (2:Int) (0:Int) (0:Int) (0:Int) (⟨#[]⟩:BA) r260.1 r260.2.1 r260.2.2.1 r260.2.2.2.1 (0:Int) (0:Int) false false ([]:RW) r251.2.1 r251.2.2.1 r251.2.2.2.1 r251.2.2.2.2) fun r261=>(.done (r261.1,r261.2.1,r261.2.2.1,r261.2.2.2.1,r261.2.2.2.2))) (.opt (zC (qAo rec n) n (x0,r251.1,(1:Int),r251.2.1,r251.2.2.1,r251.2.2.2.1,r251.2.2.2.2)) fun r262=>(.alt r262 (fun r263=>(.done (r263.1,r263.2.1,r263.2.2.1,r263.2.2.2.1,r263.2.2.2.2))) (fun r264=>(.done ((-1:Int),r264.1,r264.2.1,true,r264.2.2.2)))))))))))))))))
def qCT (rec:G_impl_reader_binary) (n:Nat) (v:Int×Int×Nat×RW×BA×Nat×Bool×RW):Tr ((Int×Int×Nat×RW×BA×Nat×Bool×RW)⊕((Int×Nat×RW×BA×Nat×Bool×RW))):=(.ask ((!v.2.2.2.2.2.2.1)) (.opt (qC9 n v.2.2.2.2.1 v.2.2.2.2.2.1 v.2.2.2.2.2.2.1 v.2.2.2.2.2.2.2) fun r241=>(.ask (r241.2.2.2.2.2.2.2.2.2.2.2.2.2.2.1) (.opt (qv n r241.1 r241.2.1 r241.2.2.1 r241.2.2.2.1 r241.2.2.2.2.1 r241.2.2.2.2.2.1 r241.2.2.2.2.2.2.1 r241.2.2.2.2.2.2.2.1 r241.2.2.2.2.2.2.2.2.1 r241.2.2.2.2.2.2.2.2.2.1 r241.2.2.2.2.2.2.2.2.2.2.1 r241.2.2.2.2.2.2.2.2.2.2.2.1 r241.2.2.2.2.2.2.2.2.2.2.2.2.1 r241.2.2.2.2.2.2.2.2.2.2.2.2.2.1 r241.2.2.2.2.2.2.2.2.2.2.2.2.2.2.2.1 r241.2.2.2.2.2.2.2.2.2.2.2.2.2.2.2.2.1 r241.2.2.2.2.2.2.2.2.2.2.2.2.2.2.2.2.2.1 r241.2.2.2.2.2.2.2.2.2.2.2.2.2.2.2.2.2.2) fun r242=>(.ask (decide (1=([[(.i .i64 r242.1)]]:RW).length)) (.ask (decide (v.2.2.1=v.2.2.2.1.length∧0<1∧0<8∧(v.2.2.1+([[(.i .i64 r242.1)]]:RW).length)*8≤140737488355328∧([[(.i .i64 r242.1)]]:RW).all (fun e=>e.length==1)=true)) (.opt (qu n (⟨#[44]⟩:BA) r242.2.1 r242.2.2.1 r242.2.2.2.1 r242.2.2.2.2) fun r243=>(.ask ((!r243.1)) (.ask (r243.2.2.2.1) (.done (.inr ((v.1,(v.2.2.1+1),(v.2.2.2.1++([[(.i .i64 r242.1)]]:RW)),r243.2.1,r243.2.2.1,true,r243.2.2.2.2)))) (.opt (qu n (⟨#[41]⟩:BA) r243.2.1 r243.2.2.1 r243.2.2.2.1 r243.2.2.2.2) fun r244=>(.done (.inr ((v.1,(v.2.2.1+1),(v.2.2.2.1++([[(.i .i64 r242.1)]]:RW)),r244.2.1,r244.2.2.1,(!r244.1),r244.2.2.2.2)))))) (.done (.inl (v.1,v.2.1,(v.2.2.1+1),(v.2.2.2.1++([[(.i .i64 r242.1)]]:RW)),r243.2.1,r243.2.2.1,r243.2.2.2.1,r243.2.2.2.2))))) .fail) .fail)) (.opt (rec.impl_reader_binary (1:Int) (IntKind.i64.wrap (v.2.1+(1:Int))) r241.2.2.2.2.2.2.2.2.2.2.2.2.2.2.2.1 r241.2.2.2.2.2.2.2.2.2.2.2.2.2.2.2.2.1 r241.2.2.2.2.2.2.2.2.2.2.2.2.2.2.2.2.2.1 r241.2.2.2.2.2.2.2.2.2.2.2.2.2.2.2.2.2.2) fun r245=>(.ask (decide (1=([[(.i .i64 r245.1)]]:RW).length)) (.ask (decide (v.2.2.1=v.2.2.2.1.length∧0<1∧0<8∧(v.2.2.1+([[(.i .i64 r245.1)]]:RW).length)*8≤140737488355328∧([[(.i .i64 r245.1)]]:RW).all (fun e=>e.length==1)=true)) (.opt (qu n (⟨#[44]⟩:BA) r245.2.1 r245.2.2.1 r245.2.2.2.1 r245.2.2.2.2) fun r246=>(.ask ((!r246.1)) (.ask (r246.2.2.2.1) (.done (.inr ((v.1,(v.2.2.1+1),(v.2.2.2.1++([[(.i .i64 r245.1)]]:RW)),r246.2.1,r246.2.2.1,true,r246.2.2.2.2)))) (.opt (qu n (⟨#[41]⟩:BA) r246.2.1 r246.2.2.1 r246.2.2.2.1 r246.2.2.2.2) fun r247=>(.done (.inr ((v.1,(v.2.2.1+1),(v.2.2.2.1++([[(.i .i64 r245.1)]]:RW)),r247.2.1,r247.2.2.1,(!r247.1),r247.2.2.2.2)))))) (.done (.inl (v.1,v.2.1,(v.2.2.1+1),(v.2.2.2.1++([[(.i .i64 r245.1)]]:RW)),r246.2.1,r246.2.2.1,r246.2.2.2.1,r246.2.2.2.2))))) .fail) .fail)))) (.done (.inr ((v.1,v.2.2.1,v.2.2.2.1,v.2.2.2.2.1,v.2.2.2.2.2.1,v.2.2.2.2.2.2.1,v.2.2.2.2.2.2.2)))))
def qF9 (rec:G_impl_reader_binary) (n:Nat) (x0 x1:Int) (x2:BA) (x3:Nat) (x4:Bool) (x5:RW):Tr (Int×BA×Nat×Bool×RW):=(.ask (x4) (.opt (zC (qCT rec n) n (x0,x1,(0:Nat),([]:RW),x2,x3,true,x5)) fun r248=>(.ask (decide (r248.2.1=r248.2.2.1.length)) (.opt (qv n (6:Int) r248.1 (0:Int) (0:Int) (⟨#[]⟩:BA) (0:Int) (0:Int) false false (0:Int) (0:Int) false false r248.2.2.1 r248.2.2.2.1 r248.2.2.2.2.1 r248.2.2.2.2.2.1 r248.2.2.2.2.2.2) fun r249=>(.done (r249.1,r249.2.1,r249.2.2.1,r249.2.2.2.1,r249.2.2.2.2))) .fail)) (.opt (qu n (⟨#[40]⟩:BA) x2 x3 x4 x5) fun r250=>(.opt (zC (qCT rec n) n (x0,x1,(0:Nat),([]:RW),r250.2.1,r250.2.2.1,(!r250.1),r250.2.2.2.2)) fun r251=>(.ask (decide (r251.2.1=r251.2.2.1.length)) (.opt (qv n (6:Int) r251.1 (0:Int) (0:Int) (⟨#[]⟩:BA) (0:Int) (0:Int) false false (0:Int) (0:Int) false false r251.2.2.1 r251.2.2.2.1 r251.2.2.2.2.1 r251.2.2.2.2.2.1 r251.2.2.2.2.2.2) fun r252=>(.done (r252.1,r252.2.1,r252.2.2.1,r252.2.2.2.1,r252.2.2.2.2))) .fail))))
def qU:Nat→G_impl_reader_binary
 |0=>⟨fun _ _ _ _ _ _=>none,fun _ _ _ _ _=>none,fun _ _ _ _ _=>none,fun _ _ _ _ _ _=>none⟩
 |n+1=>⟨fun x0 x1 x2 x3 x4 x5=>(qFK (qU n) n x0 x1 x2 x3 x4 x5).run,fun x0 x1 x2 x3 x4=>(qFi (qU n) n x0 x1 x2 x3 x4).run,fun x0 x1 x2 x3 x4=>(qF8 (qU n) n x0 x1 x2 x3 x4).run,fun x0 x1 x2 x3 x4 x5=>(qF9 (qU n) n x0 x1 x2 x3 x4 x5).run⟩
def qCf (n:Nat) (x0 x1:Int) (x2:BA) (x3:Nat) (x4:Bool) (x5:RW):Option (Int×BA×Nat×Bool×RW):=(qU n).impl_reader_binary x0 x1 x2 x3 x4 x5
def qFj (n:Nat) (x0:Int) (x1:BA) (x2:Nat) (x3:Bool) (x4:RW):Option (Int×BA×Nat×Bool×RW):=(qU n).impl_reader_unary x0 x1 x2 x3 x4
def qGA (n:Nat) (x0:Int) (x1:BA) (x2:Nat) (x3:Bool) (x4:RW):Option (Int×BA×Nat×Bool×RW):=(qU n).impl_reader_atom x0 x1 x2 x3 x4
def qCN (n:Nat) (x0 x1:Int) (x2:BA) (x3:Nat) (x4:Bool) (x5:RW):Option (Int×BA×Nat×Bool×RW):=(qU n).impl_reader_call x0 x1 x2 x3 x4 x5
def qAD (n:Nat):Prop:=
 Ok (Rn n) qFJ (qCf n)∧
 Ok (Rn n) qJl (qFj n)∧
 Ok (Rn n) qKP (qGA n)∧
 Ok (Rn n) qKQ (qCN n)
abbrev qDW (n:Nat) (ih:qAD n):List (Ent (Rn n)):= [en ih.2.1,en (qFf n),en (qIw n),en (qJ3 n),en (qCA n),en ih.1,en (qCM n)]
def qG8 (n:Nat) (ih:qAD n):LEnt (lb 14 (KB 36)) (Rn n) n:=lok (Uniq.pick (zU 36) 14) 237 ⟨⟨[(0,(.c (.ptr 0 0 0 0 0))),(1,aI),(2,aI),(7,aI),(8,aI),(9,aI)],[],[[(0,⟨0,3,55,(.box [qS,(.own 0 1 1 0),qB])⟩),(1,⟨1,14,64,(.row [])⟩)]]⟩,[(.exit 2,⟨[(0,(.c (.ptr 0 0 0 0 0))),(1,aI),(2,aI),(7,aI),(8,aI)],[],[[(0,⟨0,3,55,(.box [qS,(.own 0 1 1 0),qB])⟩),(1,⟨1,14,64,(.row [])⟩)]]⟩)]⟩ (qBK n) (qDW n ih) [] fun _=>(by kernel_rfl)
def qHW (n:Nat) (ih:qAD n):LEnt (KB 36) (Rn n) n:=lok (zU 36) 14 ⟨⟨[(0,(.c (.ptr 0 0 0 0 0))),(1,aI),(2,aI),(7,aI)],[],[[(0,⟨0,3,55,(.box [qS,(.own 0 1 1 0),qB])⟩),(1,⟨1,14,64,(.row [])⟩)]]⟩,[(.exit 0,⟨[(7,aI)],[],[[(0,⟨0,3,55,(.box [qS,(.own 0 1 1 0),qB])⟩),(1,⟨1,14,64,(.row [])⟩)]]⟩)]⟩ (qCz (qU n) n) (qDW n ih) [qG8 n ih] fun _=>(by kernel_rfl)
abbrev qJm (n:Nat) (ih:qAD n):List (Ent (Rn n)):= [en (qCA n),en ih.2.1,en (qCM n),en ih.2.2.1]
abbrev qEB (n:Nat) (ih:qAD n):List (Ent (Rn n)):= [en (qCR n),en (qCc n),en (qIe n),en (qEX n),en (qCb n),en (qJ2 n),en (qEK n),en (qFg n),en (qEa n),en (qGl n),en (qCM n),en (qIv n),en ih.2.2.2,en (qCA n),en ih.1]
def qH1 (n:Nat) (ih:qAD n):LEnt (KB 134) (Rn n) n:=lok (zU 134) 477 ⟨⟨[(0,(.c (.ptr 0 0 0 0 0))),(1,aI),(5,aI)],[],[[(0,⟨0,3,55,(.box [qS,(.own 0 1 1 0),qB])⟩),(1,⟨1,14,64,(.row [])⟩)]]⟩,[(.ret,⟨[(4,aI)],[],[[(0,⟨0,3,55,(.box [qS,(.own 0 1 1 0),qB])⟩),(1,⟨1,14,64,(.row [])⟩)]]⟩),(.exit 1,⟨[(0,(.c (.ptr 0 0 0 0 0))),(1,aI)],[],[[(0,⟨0,3,55,(.box [qS,(.own 0 1 1 0),qB])⟩),(1,⟨1,14,64,(.row [])⟩)]]⟩)]⟩ (qCD n) (qEB n ih) [] fun _=>(by kernel_rfl)
def qH2 (n:Nat) (ih:qAD n):LEnt (KB 134) (Rn n) n:=lok (zU 134) 509 ⟨⟨[(0,(.c (.ptr 0 0 0 0 0))),(1,aI),(9,aS),(14,aI)],[],[[(0,⟨0,3,55,(.box [qS,(.own 0 1 1 0),qB])⟩),(1,⟨1,14,64,(.row [])⟩)]]⟩,[(.ret,⟨[(4,aI)],[],[[(0,⟨0,3,55,(.box [qS,(.own 0 1 1 0),qB])⟩),(1,⟨1,14,64,(.row [])⟩)]]⟩),(.exit 3,⟨[(0,(.c (.ptr 0 0 0 0 0)))],[],[[(0,⟨0,3,55,(.box [qS,(.own 0 1 1 0),qB])⟩),(1,⟨1,14,64,(.row [])⟩)]]⟩)]⟩ (qAo (qU n) n) (qEB n ih) [] fun _=>(by kernel_rfl)
abbrev qGB (n:Nat) (ih:qAD n):List (Ent (Rn n)):= [en (qHV n),en (qCM n),en (qCA n),en ih.1]
def qIg (n:Nat) (ih:qAD n):LEnt (KB 165) (Rn n) n:=lok (zU 165) 30 ⟨⟨[(0,(.c (.ptr 0 0 0 0 0))),(1,aI),(2,aI),(7,(.c (.own 1 640 0 0)))],[(640,⟨0,1,2,(.row [])⟩)],[[(0,⟨0,3,55,(.box [qS,(.own 0 1 1 0),qB])⟩),(1,⟨1,14,64,(.row [])⟩)]]⟩,[(.exit 0,⟨[(0,(.c (.ptr 0 0 0 0 0))),(1,aI),(7,(.c (.own 1 640 0 0)))],[(640,⟨0,1,2,(.row [])⟩)],[[(0,⟨0,3,55,(.box [qS,(.own 0 1 1 0),qB])⟩),(1,⟨1,14,64,(.row [])⟩)]]⟩)]⟩ (qCT (qU n) n) (qGB n ih) [] fun _=>(by kernel_rfl)
theorem qAL:∀n,qAD n
 |0=>⟨ok0 fun _=>rfl,ok0 fun _=>rfl,ok0 fun _=>rfl,ok0 fun _=>rfl⟩
 |n+1=>⟨stO (T:=qFK (qU n) n) (by kernel_rfl) (qDW n (qAL n)) [qHW n (qAL n)] (fun _=>(by kernel_rfl)) fun _=>(by kernel_rfl),stO (T:=qFi (qU n) n) (by kernel_rfl) (qJm n (qAL n)) [] (fun _=>(by kernel_rfl)) fun _=>(by kernel_rfl),stO (T:=qF8 (qU n) n) (by kernel_rfl) (qEB n (qAL n)) [qH1 n (qAL n),qH2 n (qAL n)] (fun _=>(by kernel_rfl)) fun _=>(by kernel_rfl),stO (T:=qF9 (qU n) n) (by kernel_rfl) (qGB n (qAL n)) [qIg n (qAL n)] (fun _=>(by kernel_rfl)) fun _=>(by kernel_rfl)⟩
theorem qIh (n:Nat):Ok (Rn n) qFJ (qCf n):=(qAL n).1
def qK2:Sg:=⟨174,[(.agg [qI,qI,qI,qI,qS,qI,qI,qB,qB,qI,qI,qB,qB,qL])],[],⟨(.agg [qI,qI,qI,qI]),[],[]⟩⟩
def qEd (n:Nat) (x0 x1 x2 x3:Int) (x4:BA) (x5 x6:Int) (x7 x8:Bool) (x9 x10:Int) (x11 x12:Bool) (x13:RW):Tr (Int×Int×Int×Int):=(.ask ((x0==(2:Int))) (.done (x5,x6,x5,x6)) (.done (x5,x6,x9,x10)))
def qCg:Nat→Int→Int→Int→Int→BA→Int→Int→Bool→Bool→Int→Int→Bool→Bool→RW→Option (Int×Int×Int×Int)
 |0,_,_,_,_,_,_,_,_,_,_,_,_,_,_=>none
 |n+1,x0,x1,x2,x3,x4,x5,x6,x7,x8,x9,x10,x11,x12,x13=>(qEd n x0 x1 x2 x3 x4 x5 x6 x7 x8 x9 x10 x11 x12 x13).run
theorem qKR:∀n,Ok (Rn n) qK2 (qCg n)
 |0=>ok0 fun _=>rfl
 |n+1=>stO (T:=qEd n) (by kernel_rfl) [] [] (fun _=>(by kernel_rfl)) fun _=>(by kernel_rfl)
def qOS:Sg:=⟨173,[(.agg [qI,qI,qI,qI])],[],⟨aB,[],[]⟩⟩
def qG9 (n:Nat) (x0 x1 x2 x3:Int):Tr (Bool):=(.opt (qCe n x0 x1) fun r303=>(.ask (r303) (.opt (qCe n x2 x3) fun r304=>(.ask (r304) (.ask ((decide (x0≤x2))) (.done (decide (x1≤x3))) (.done false)) (.done false))) (.done false)))
def qDx:Nat→Int→Int→Int→Int→Option (Bool)
 |0,_,_,_,_=>none
 |n+1,x0,x1,x2,x3=>(qG9 n x0 x1 x2 x3).run
abbrev qOT (n:Nat):List (Ent (Rn n)):= [en (qG5 n)]
theorem qNX:∀n,Ok (Rn n) qOS (qDx n)
 |0=>ok0 fun _=>rfl
 |n+1=>stO (T:=qG9 n) (by kernel_rfl) (qOT n) [] (fun _=>(by kernel_rfl)) fun _=>(by kernel_rfl)
def qIi:Sg:=⟨145,[(.agg [qI,qI,qI,qI,qS,qI,qI,qB,qB,qI,qI,qB,qB,qL])],[],⟨aB,[],[]⟩⟩
def qDM (n:Nat) (x0 x1 x2 x3:Int) (x4:BA) (x5 x6:Int) (x7 x8:Bool) (x9 x10:Int) (x11 x12:Bool) (x13:RW):Tr (Bool):=(.ask ((x0 !=(2:Int))) (.ask ((x0 !=(3:Int))) (.done true) (.opt (qCg n x0 x1 x2 x3 x4 x5 x6 x7 x8 x9 x10 x11 x12 x13) fun r302=>(.opt (qDx n r302.1 r302.2.1 r302.2.2.1 r302.2.2.2) fun r305=>(.done r305)))) (.opt (qCg n x0 x1 x2 x3 x4 x5 x6 x7 x8 x9 x10 x11 x12 x13) fun r306=>(.opt (qDx n r306.1 r306.2.1 r306.2.2.1 r306.2.2.2) fun r307=>(.done r307))))
def qAE:Nat→Int→Int→Int→Int→BA→Int→Int→Bool→Bool→Int→Int→Bool→Bool→RW→Option (Bool)
 |0,_,_,_,_,_,_,_,_,_,_,_,_,_,_=>none
 |n+1,x0,x1,x2,x3,x4,x5,x6,x7,x8,x9,x10,x11,x12,x13=>(qDM n x0 x1 x2 x3 x4 x5 x6 x7 x8 x9 x10 x11 x12 x13).run
abbrev qIj (n:Nat):List (Ent (Rn n)):= [en (qKR n),en (qNX n)]
theorem qH3:∀n,Ok (Rn n) qIi (qAE n)
 |0=>ok0 fun _=>rfl
 |n+1=>stO (T:=qDM n) (by kernel_rfl) (qIj n) [] (fun _=>(by kernel_rfl)) fun _=>(by kernel_rfl)
def qJn:Sg:=⟨146,[(.agg [qI,qI,qI,qI,qS,qI,qI,qB,qB,qI,qI,qB,qB,qL])],[],⟨aB,[],[]⟩⟩
def qDs (n:Nat) (x0 x1 x2 x3:Int) (x4:BA) (x5 x6:Int) (x7 x8:Bool) (x9 x10:Int) (x11 x12:Bool) (x13:RW):Tr (Bool):=(.ask ((x0==(4:Int))) (.ask ((x1==(0:Int))) (.done ((x13.length:Int)==(1:Int))) (.done false)) (.ask ((x0==(5:Int))) (.opt (qAl n x1 (1:Int) (11:Int)) fun r309=>(.ask (r309) (.done ((x13.length:Int)==(2:Int))) (.done false))) (.ask ((x0==(6:Int))) (.opt (qAl n x1 (1:Int) (10:Int)) fun r310=>(.ask ((!r310)) (.done false) (.ask ((x1==(5:Int))) (.opt (qAl n (x13.length:Int) (2:Int) (3:Int)) fun r311=>(.done r311)) (.ask ((decide (x1≥(8:Int)))) (.done ((x13.length:Int)==(1:Int))) (.opt (qAl n (x13.length:Int) (1:Int) (10:Int)) fun r312=>(.done r312)))))) (.ask ((x1==(0:Int))) (.done ((x13.length:Int)==(0:Int))) (.done false)))))
def qAM:Nat→Int→Int→Int→Int→BA→Int→Int→Bool→Bool→Int→Int→Bool→Bool→RW→Option (Bool)
 |0,_,_,_,_,_,_,_,_,_,_,_,_,_,_=>none
 |n+1,x0,x1,x2,x3,x4,x5,x6,x7,x8,x9,x10,x11,x12,x13=>(qDs n x0 x1 x2 x3 x4 x5 x6 x7 x8 x9 x10 x11 x12 x13).run
abbrev qJo (n:Nat):List (Ent (Rn n)):= [en (qDU n)]
theorem qIx:∀n,Ok (Rn n) qJn (qAM n)
 |0=>ok0 fun _=>rfl
 |n+1=>stO (T:=qDs n) (by kernel_rfl) (qJo n) [] (fun _=>(by kernel_rfl)) fun _=>(by kernel_rfl)
def qKS:Sg:=⟨105,[(.agg [qI,qI,qI,qI,qS,qI,qI,qB,qB,qI,qI,qB,qB,qL])],[],⟨aB,[],[]⟩⟩
def qEC (n:Nat) (x0 x1 x2 x3:Int) (x4:BA) (x5 x6:Int) (x7 x8:Bool) (x9 x10:Int) (x11 x12:Bool) (x13:RW):Tr (Bool):=(.ask ((x0==(1:Int))) (.opt (qAJ n x2 x3 x4) fun r301=>(.ask ((!r301)) (.done false) (.ask ((x2==(0:Int))) (.done false) (.ask ((x2==(1:Int))) (.ask ((decide (x3<(0:Int)))) (.done false) (.opt (qAE n x0 x1 x2 x3 x4 x5 x6 x7 x8 x9 x10 x11 x12 x13) fun r308=>(.ask (r308) (.opt (qAM n x0 x1 x2 x3 x4 x5 x6 x7 x8 x9 x10 x11 x12 x13) fun r313=>(.ask (r313) (.ask (((x2==x2)&&((x3==x3)&&((x4.toList==x4.toList)&&true)))) (.ask ((((0:Int)==x5)&&(((0:Int)==x6)&&((false==x7)&&((false==x8)&&true))))) (.done (((0:Int)==x9)&&(((0:Int)==x10)&&((false==x11)&&((false==x12)&&true))))) (.done false)) (.done false)) (.done false))) (.done false)))) (.opt (qAE n x0 x1 x2 x3 x4 x5 x6 x7 x8 x9 x10 x11 x12 x13) fun r314=>(.ask (r314) (.opt (qAM n x0 x1 x2 x3 x4 x5 x6 x7 x8 x9 x10 x11 x12 x13) fun r315=>(.ask (r315) (.ask (((x2==x2)&&((x3==x3)&&((x4.toList==x4.toList)&&true)))) (.ask ((((0:Int)==x5)&&(((0:Int)==x6)&&((false==x7)&&((false==x8)&&true))))) (.done (((0:Int)==x9)&&(((0:Int)==x10)&&((false==x11)&&((false==x12)&&true))))) (.done false)) (.done false)) (.done false))) (.done false))))))) (.ask ((x0==(2:Int))) (.opt (qAE n x0 x1 x2 x3 x4 x5 x6 x7 x8 x9 x10 x11 x12 x13) fun r316=>(.ask (r316) (.opt (qAM n x0 x1 x2 x3 x4 x5 x6 x7 x8 x9 x10 x11 x12 x13) fun r317=>(.ask (r317) (.ask ((((0:Int)==x2)&&(((0:Int)==x3)&&(((⟨#[]⟩:BA).toList==x4.toList)&&true)))) (.ask (((x5==x5)&&((x6==x6)&&((x7==x7)&&((x8==x8)&&true))))) (.done (((0:Int)==x9)&&(((0:Int)==x10)&&((false==x11)&&((false==x12)&&true))))) (.done false)) (.done false)) (.done false))) (.done false))) (.ask ((x0==(3:Int))) (.opt (qAE n x0 x1 x2 x3 x4 x5 x6 x7 x8 x9 x10 x11 x12 x13) fun r318=>(.ask (r318) (.opt (qAM n x0 x1 x2 x3 x4 x5 x6 x7 x8 x9 x10 x11 x12 x13) fun r319=>(.ask (r319) (.ask ((((0:Int)==x2)&&(((0:Int)==x3)&&(((⟨#[]⟩:BA).toList==x4.toList)&&true)))) (.ask (((x5==x5)&&((x6==x6)&&((x7==x7)&&((x8==x8)&&true))))) (.done ((x9==x9)&&((x10==x10)&&((x11==x11)&&((x12==x12)&&true))))) (.done false)) (.done false)) (.done false))) (.done false))) (.ask ((x0==(4:Int))) (.opt (qAE n x0 x1 x2 x3 x4 x5 x6 x7 x8 x9 x10 x11 x12 x13) fun r320=>(.ask (r320) (.opt (qAM n x0 x1 x2 x3 x4 x5 x6 x7 x8 x9 x10 x11 x12 x13) fun r321=>(.ask (r321) (.ask ((((0:Int)==x2)&&(((0:Int)==x3)&&(((⟨#[]⟩:BA).toList==x4.toList)&&true)))) (.ask ((((0:Int)==x5)&&(((0:Int)==x6)&&((false==x7)&&((false==x8)&&true))))) (.done (((0:Int)==x9)&&(((0:Int)==x10)&&((false==x11)&&((false==x12)&&true))))) (.done false)) (.done false)) (.done false))) (.done false))) (.ask ((x0==(5:Int))) (.opt (qAE n x0 x1 x2 x3 x4 x5 x6 x7 x8 x9 x10 x11 x12 x13) fun r322=>(.ask (r322) (.opt (qAM n x0 x1 x2 x3 x4 x5 x6 x7 x8 x9 x10 x11 x12 x13) fun r323=>(.ask (r323) (.ask ((((0:Int)==x2)&&(((0:Int)==x3)&&(((⟨#[]⟩:BA).toList==x4.toList)&&true)))) (.ask ((((0:Int)==x5)&&(((0:Int)==x6)&&((false==x7)&&((false==x8)&&true))))) (.done (((0:Int)==x9)&&(((0:Int)==x10)&&((false==x11)&&((false==x12)&&true))))) (.done false)) (.done false)) (.done false))) (.done false))) (.ask ((x0==(6:Int))) (.opt (qAE n x0 x1 x2 x3 x4 x5 x6 x7 x8 x9 x10 x11 x12 x13) fun r324=>(.ask (r324) (.opt (qAM n x0 x1 x2 x3 x4 x5 x6 x7 x8 x9 x10 x11 x12 x13) fun r325=>(.ask (r325) (.ask ((((0:Int)==x2)&&(((0:Int)==x3)&&(((⟨#[]⟩:BA).toList==x4.toList)&&true)))) (.ask ((((0:Int)==x5)&&(((0:Int)==x6)&&((false==x7)&&((false==x8)&&true))))) (.done (((0:Int)==x9)&&(((0:Int)==x10)&&((false==x11)&&((false==x12)&&true))))) (.done false)) (.done false)) (.done false))) (.done false))) (.done false)))))))
def qDA:Nat→Int→Int→Int→Int→BA→Int→Int→Bool→Bool→Int→Int→Bool→Bool→RW→Option (Bool)
 |0,_,_,_,_,_,_,_,_,_,_,_,_,_,_=>none
 |n+1,x0,x1,x2,x3,x4,x5,x6,x7,x8,x9,x10,x11,x12,x13=>(qEC n x0 x1 x2 x3 x4 x5 x6 x7 x8 x9 x10 x11 x12 x13).run
abbrev qKT (n:Nat):List (Ent (Rn n)):= [en (qD4 n),en (qH3 n),en (qIx n)]
theorem qJp:∀n,Ok (Rn n) qKS (qDA n)
 |0=>ok0 fun _=>rfl
 |n+1=>stO (T:=qEC n) (by kernel_rfl) (qKT n) [] (fun _=>(by kernel_rfl)) fun _=>(by kernel_rfl)
def qIy:Sg:=⟨49,[aL,aI,aI],[],⟨aI,[],[]⟩⟩
def qAQ (rec:RW→Int→Int→Option (Int)) (n:Nat) (v:RW×Int×Int×Int×Int):Tr ((RW×Int×Int×Int×Int)⊕((Int)⊕(Int))):=(.ask ((decide (v.2.2.2.2≥(0:Int)))) (.ask (decide (0≤v.2.1∧v.2.1<v.1.length)) (.opt (v.1[(v.2.1).toNat]?) fun e329=>(.ask (decide (e329.length=14)) (.opt (zAd e329 13) fun y330=>(.ask (decide (0≤v.2.2.2.2∧v.2.2.2.2<y330.length)) (.opt (y330[(v.2.2.2.2).toNat]?) fun e331=>(.ask (decide (e331.length=1)) (.opt (zF .i64 e331 0) fun y332=>(.ask ((y332 !=(IntKind.i64.wrap (v.2.2.2.1-(1:Int))))) (.done (.inr (.inl ((-1:Int))))) (.ask ((decide (y332<(0:Int)))) (.done (.inr (.inl ((-1:Int))))) (.ask (decide (0≤y332∧y332<v.1.length)) (.opt (v.1[(y332).toNat]?) fun e333=>(.ask (decide (e333.length=14)) (.opt (zF .i64 e333 0) fun y334=>(.ask ((y334==(3:Int))) (.ask (decide (0≤v.2.1∧v.2.1<v.1.length)) (.opt (v.1[(v.2.1).toNat]?) fun e335=>(.ask (decide (e335.length=14)) (.opt (zF .i64 e335 0) fun y336=>(.ask ((y336 !=(6:Int))) (.done (.inr (.inl ((-1:Int))))) (.opt (rec v.1 y332 (IntKind.i64.wrap (v.2.2.1+(1:Int)))) fun r337=>(.ask ((decide (r337<(0:Int)))) (.done (.inr (.inl ((-1:Int))))) (.done (.inl (v.1,v.2.1,v.2.2.1,r337,(IntKind.i64.wrap (v.2.2.2.2-(1:Int)))))))))) .fail)) .fail) (.opt (rec v.1 y332 (IntKind.i64.wrap (v.2.2.1+(1:Int)))) fun r338=>(.ask ((decide (r338<(0:Int)))) (.done (.inr (.inl ((-1:Int))))) (.done (.inl (v.1,v.2.1,v.2.2.1,r338,(IntKind.i64.wrap (v.2.2.2.2-(1:Int)))))))))) .fail)) .fail)))) .fail)) .fail)) .fail)) .fail) (.done (.inr (.inr (v.2.2.2.1)))))
def qFL (rec:RW→Int→Int→Option (Int)) (n:Nat) (x0:RW) (x1 x2:Int):Tr (Int):=(.ask ((decide (x1<(0:Int)))) (.done (-1:Int)) (.ask ((decide (x2≥(12:Int)))) (.done (-1:Int)) (.ask (decide (0≤x1∧x1<x0.length)) (.opt (x0[(x1).toNat]?) fun e286=>(.ask (decide (e286.length=14)) (.opt (zF .i64 e286 0) fun y287=>(.opt (zF .i64 e286 1) fun y288=>(.opt (zF .i64 e286 2) fun y289=>(.opt (zF .i64 e286 3) fun y290=>(.opt (zp e286 4) fun y291=>(.opt (zF .i64 e286 5) fun y292=>(.opt (zF .i64 e286 6) fun y293=>(.opt (zAC e286 7) fun y294=>(.opt (zAC e286 8) fun y295=>(.opt (zF .i64 e286 9) fun y296=>(.opt (zF .i64 e286 10) fun y297=>(.opt (zAC e286 11) fun y298=>(.opt (zAC e286 12) fun y299=>(.opt (zAd e286 13) fun y300=>(.opt (qDA n y287 y288 y289 y290 y291 y292 y293 y294 y295 y296 y297 y298 y299 y300) fun r326=>(.ask ((!r326)) (.done (-1:Int)) (.ask (decide (0≤x1∧x1<x0.length)) (.opt (x0[(x1).toNat]?) fun e327=>(.ask (decide (e327.length=14)) (.opt (zAd e327 13) fun y328=>(.opt (zC (qAQ rec n) n (x0,x1,x2,x1,(IntKind.i64.wrap ((y328.length:Int)-(1:Int))))) fun r339=>(.alt r339 (fun r340=>(.done r340)) (fun r341=>(.done r341))))) .fail)) .fail))))))))))))))))) .fail)) .fail)))
def qAm:Nat→RW→Int→Int→Option (Int)
 |0,_,_,_=>none
 |n+1,x0,x1,x2=>(qFL (qAm n) n x0 x1 x2).run
abbrev qMb (n:Nat) (ih:Ok (Rn n) qIy (qAm n)):List (Ent (Rn n)):= [en (qJp n),en ih]
def qNY (n:Nat) (ih:Ok (Rn n) qIy (qAm n)):LEnt (KB 49) (Rn n) n:=lok (zU 49) 61 ⟨⟨[(0,aL),(1,aI),(2,aI),(7,aI),(8,aI)],[],[]⟩,[(.ret,⟨[(6,aI)],[],[]⟩),(.exit 0,⟨[(7,aI)],[],[]⟩)]⟩ (qAQ (qAm n) n) (qMb n ih) [] fun _=>(by kernel_rfl)
theorem qH4:∀n,Ok (Rn n) qIy (qAm n)
 |0=>ok0 fun _=>rfl
 |n+1=>stO (T:=qFL (qAm n) n) (by kernel_rfl) (qMb n (qH4 n)) [qNY n (qH4 n)] (fun _=>(by kernel_rfl)) fun _=>(by kernel_rfl)
def qL1:Sg:=⟨18,[aL],[],⟨aB,[],[]⟩⟩
def qC0 (n:Nat) (x0:RW):Tr (Bool):=(.opt (qAl n (x0.length:Int) (1:Int) (60:Int)) fun r283=>(.ask (r283) (.ask (decide (0≤(IntKind.i64.wrap ((x0.length:Int)-(1:Int)))∧(IntKind.i64.wrap ((x0.length:Int)-(1:Int)))<x0.length)) (.opt (x0[((IntKind.i64.wrap ((x0.length:Int)-(1:Int)))).toNat]?) fun e284=>(.ask (decide (e284.length=14)) (.opt (zF .i64 e284 0) fun y285=>(.ask ((y285 !=(3:Int))) (.opt (qAm n x0 (IntKind.i64.wrap ((x0.length:Int)-(1:Int))) (0:Int)) fun r342=>(.done (r342==(0:Int)))) (.done false))) .fail)) .fail) (.done false)))
def qBo:Nat→RW→Option (Bool)
 |0,_=>none
 |n+1,x0=>(qC0 n x0).run
abbrev qL2 (n:Nat):List (Ent (Rn n)):= [en (qDU n),en (qH4 n)]
theorem qGm:∀n,Ok (Rn n) qL1 (qBo n)
 |0=>ok0 fun _=>rfl
 |n+1=>stO (T:=qC0 n) (by kernel_rfl) (qL2 n) [] (fun _=>(by kernel_rfl)) fun _=>(by kernel_rfl)
def qKU:Sg:=⟨10,[aS],[],⟨(.tup [(false,[qL]),(false,[qB])]),[],[]⟩⟩
def qGC (n:Nat) (x0:BA):Tr (RW×Bool):=(.opt (qCr n x0 (200:Int)) fun r140=>(.ask ((!r140)) (.ask (decide (0=([]:RW).length)) (.done (([]:RW),false)) .fail) (.opt (qCf n (1:Int) (0:Int) x0 (0:Nat) false ([]:RW)) fun r281=>(.opt (qA3 n r281.2.1 r281.2.2.1 r281.2.2.2.1 r281.2.2.2.2) fun r282=>(.ask (r282.2.2.1) (.ask (decide (0=([]:RW).length)) (.done (([]:RW),false)) .fail) (.ask ((!(r282.1.toList==(⟨#[]⟩:BA).toList))) (.ask (decide (0=([]:RW).length)) (.done (([]:RW),false)) .fail) (.ask (decide (r282.2.1=r282.2.2.2.length)) (.opt (qBo n r282.2.2.2) fun r343=>(.ask (zAz (⟨(.c (.p (.b r343))),[],[]⟩:Res)) (.ask ((!r343)) (.ask (decide (0=([]:RW).length)) (.done (([]:RW),false)) .fail) (.ask (decide (r282.2.1=r282.2.2.2.length)) (.done (r282.2.2.2,true)) .fail)) .fail)) .fail)))))))
def qDB:Nat→BA→Option (RW×Bool)
 |0,_=>none
 |n+1,x0=>(qGC n x0).run
abbrev qKV (n:Nat):List (Ent (Rn n)):= [en (qFz n),en (qIh n),en (qCR n),en (qGm n)]
theorem qFk:∀n,Ok (Rn n) qKU (qDB n)
 |0=>ok0 fun _=>rfl
 |n+1=>stO (T:=qGC n) (by kernel_rfl) (qKV n) [] (fun _=>(by kernel_rfl)) fun _=>(by kernel_rfl)
def qFM:Sg:=⟨101,[aS,aS,aS],[],⟨aS,[],[]⟩⟩
def qDX:Nat→BA→BA→BA→Option ((BA))
 |0,_,_,_=>none
 |n+1,x0,x1,x2=>zX x0 x1 x2
theorem qIk:∀n,Ok (Rn n) qFM (qDX n)
 |0=>ok0 fun _=>rfl
 |n+1=>stL (by kernel_rfl) (fun a r e=>congrArg (Option.map fun r=>(qFM.Of r).v) e) rfl rfl rfl
def qIz:Sg:=⟨104,[aL,aS],[],⟨aS,[],[]⟩⟩
def qGD:Nat→RW→BA→Option ((BA))
 |0,_,_=>none
 |n+1,x0,x1=>zAT x0 x1
theorem qMr:∀n,Ok (Rn n) qIz (qGD n)
 |0=>ok0 fun _=>rfl
 |n+1=>stL (by kernel_rfl) (fun a r e=>congrArg (Option.map fun r=>(qIz.Of r).v) e) rfl rfl rfl
def qED:Sg:=⟨47,[aL,aI,aI],[],⟨aS,[],[]⟩⟩
def qBZ (rec:RW→Int→Int→Option (BA)) (n:Nat) (v:RW×Nat×RW×Int×Int×Int×Int×Int×Int×BA×Int×Int×Bool×Bool×Int×Int×Bool×Bool×RW×RW):Tr ((RW×Nat×RW×Int×Int×Int×Int×Int×Int×BA×Int×Int×Bool×Bool×Int×Int×Bool×Bool×RW×RW)⊕((Nat×Int×Int×Int×Int×BA×Int×Int×Bool×Bool×Int×Int×Bool×Bool×RW×RW))):=(.ask ((decide (v.2.2.2.2.1<v.2.2.2.1))) (.ask (decide (0≤v.2.2.2.2.1∧v.2.2.2.2.1<v.2.2.1.length)) (.opt (v.2.2.1[(v.2.2.2.2.1).toNat]?) fun e377=>(.ask (decide (e377.length=1)) (.opt (zF .i64 e377 0) fun y378=>(.opt (rec v.1 y378 (1:Int)) fun r379=>(.ask (decide (1=([[(.s r379)]]:RW).length)) (.ask (decide (v.2.1=v.2.2.2.2.2.2.2.2.2.2.2.2.2.2.2.2.2.2.2.length∧0<1∧0<16∧(v.2.1+([[(.s r379)]]:RW).length)*16≤140737488355328∧([[(.s r379)]]:RW).all (fun e=>e.length==1)=true)) (.done (.inl (v.1,(v.2.1+1),v.2.2.1,v.2.2.2.1,(IntKind.i64.wrap (v.2.2.2.2.1+(1:Int))),v.2.2.2.2.2.1,v.2.2.2.2.2.2.1,v.2.2.2.2.2.2.2.1,v.2.2.2.2.2.2.2.2.1,v.2.2.2.2.2.2.2.2.2.1,v.2.2.2.2.2.2.2.2.2.2.1,v.2.2.2.2.2.2.2.2.2.2.2.1,v.2.2.2.2.2.2.2.2.2.2.2.2.1,v.2.2.2.2.2.2.2.2.2.2.2.2.2.1,v.2.2.2.2.2.2.2.2.2.2.2.2.2.2.1,v.2.2.2.2.2.2.2.2.2.2.2.2.2.2.2.1,v.2.2.2.2.2.2.2.2.2.2.2.2.2.2.2.2.1,v.2.2.2.2.2.2.2.2.2.2.2.2.2.2.2.2.2.1,v.2.2.2.2.2.2.2.2.2.2.2.2.2.2.2.2.2.2.1,(v.2.2.2.2.2.2.2.2.2.2.2.2.2.2.2.2.2.2.2++([[(.s r379)]]:RW))))) .fail) .fail))) .fail)) .fail) (.done (.inr ((v.2.1,v.2.2.2.2.2.1,v.2.2.2.2.2.2.1,v.2.2.2.2.2.2.2.1,v.2.2.2.2.2.2.2.2.1,v.2.2.2.2.2.2.2.2.2.1,v.2.2.2.2.2.2.2.2.2.2.1,v.2.2.2.2.2.2.2.2.2.2.2.1,v.2.2.2.2.2.2.2.2.2.2.2.2.1,v.2.2.2.2.2.2.2.2.2.2.2.2.2.1,v.2.2.2.2.2.2.2.2.2.2.2.2.2.2.1,v.2.2.2.2.2.2.2.2.2.2.2.2.2.2.2.1,v.2.2.2.2.2.2.2.2.2.2.2.2.2.2.2.2.1,v.2.2.2.2.2.2.2.2.2.2.2.2.2.2.2.2.2.1,v.2.2.2.2.2.2.2.2.2.2.2.2.2.2.2.2.2.2.1,v.2.2.2.2.2.2.2.2.2.2.2.2.2.2.2.2.2.2.2)))))
def qAp (rec:RW→Int→Int→Option (BA)) (n:Nat) (x0:RW) (x1 x2:Int):Tr (BA):=(.ask (decide (0≤x1∧x1<x0.length)) (.opt (x0[(x1).toNat]?) fun e346=>(.ask (decide (e346.length=14)) (.opt (zF .i64 e346 0) fun y347=>(.opt (zF .i64 e346 1) fun y348=>(.opt (zF .i64 e346 2) fun y349=>(.opt (zF .i64 e346 3) fun y350=>(.opt (zp e346 4) fun y351=>(.opt (zF .i64 e346 5) fun y352=>(.opt (zF .i64 e346 6) fun y353=>(.opt (zAC e346 7) fun y354=>(.opt (zAC e346 8) fun y355=>(.opt (zF .i64 e346 9) fun y356=>(.opt (zF .i64 e346 10) fun y357=>(.opt (zAC e346 11) fun y358=>(.opt (zAC e346 12) fun y359=>(.opt (zAd e346 13) fun y360=>(.ask ((y347==(1:Int))) (.ask ((y349==(2:Int))) (.opt (qDX n y351 (⟨#[34]⟩:BA) (⟨#[34,34]⟩:BA)) fun r361=>(.ask (decide ((⟨#[34]⟩:BA).size+r361.size≤9223372036854775807)) (.ask (decide (((⟨#[34]⟩:BA)++r361).size+(⟨#[34]⟩:BA).size≤9223372036854775807)) (.done (((⟨#[34]⟩:BA)++r361)++(⟨#[34]⟩:BA))) .fail) .fail)) (.opt (qr n y349 y350 y351) fun r362=>(.done r362))) (.ask ((y347==(2:Int))) (.opt (qA9 n y352 y353 y354 y355) fun r363=>(.done r363)) (.ask ((y347==(3:Int))) (.opt (qA9 n y352 y353 y354 y355) fun r364=>(.ask (decide (r364.size+(⟨#[58]⟩:BA).size≤9223372036854775807)) (.opt (qA9 n y356 y357 y358 y359) fun r365=>(.ask (decide ((r364++(⟨#[58]⟩:BA)).size+r365.size≤9223372036854775807)) (.done ((r364++(⟨#[58]⟩:BA))++r365)) .fail)) .fail)) (.ask ((y347==(4:Int))) (.ask (decide (0≤(0:Int)∧(0:Int)<y360.length)) (.opt (y360[((0:Int)).toNat]?) fun e366=>(.ask (decide (e366.length=1)) (.opt (zF .i64 e366 0) fun y367=>(.opt (rec x0 y367 (5:Int)) fun r368=>(.ask (decide ((⟨#[45]⟩:BA).size+r368.size≤9223372036854775807)) (.done ((⟨#[45]⟩:BA)++r368)) .fail))) .fail)) .fail) (.ask ((y347==(5:Int))) (.opt (qDj n y348) fun r369=>(.ask (decide (0≤(0:Int)∧(0:Int)<y360.length)) (.opt (y360[((0:Int)).toNat]?) fun e370=>(.ask (decide (e370.length=1)) (.opt (zF .i64 e370 0) fun y371=>(.ask (decide (0≤(1:Int)∧(1:Int)<y360.length)) (.opt (y360[((1:Int)).toNat]?) fun e372=>(.ask (decide (e372.length=1)) (.opt (zF .i64 e372 0) fun y373=>(.opt (rec x0 y371 r369) fun r374=>(.opt (qBW n y348) fun r375=>(.ask (decide (r374.size+r375.size≤9223372036854775807)) (.opt (rec x0 y373 (IntKind.i64.wrap (r369+(1:Int)))) fun r376=>(.ask (decide ((r374++r375).size+r376.size≤9223372036854775807)) (.ask ((decide (r369<x2))) (.ask (decide ((⟨#[40]⟩:BA).size+((r374++r375)++r376).size≤9223372036854775807)) (.ask (decide (((⟨#[40]⟩:BA)++((r374++r375)++r376)).size+(⟨#[41]⟩:BA).size≤9223372036854775807)) (.done (((⟨#[40]⟩:BA)++((r374++r375)++r376))++(⟨#[41]⟩:BA))) .fail) .fail) (.done ((r374++r375)++r376))) .fail)) .fail)))) .fail)) .fail)) .fail)) .fail)) (.opt (zC (qBZ rec n) n (x0,(0:Nat),y360,(y360.length:Int),(0:Int),y347,y348,y349,y350,y351,y352,y353,y354,y355,y356,y357,y358,y359,y360,([]:RW))) fun r380=>(.opt (qCH n r380.2.2.1) fun r381=>(.ask (decide (r381.size+(⟨#[40]⟩:BA).size≤9223372036854775807)) (.ask (decide (r380.1=r380.2.2.2.2.2.2.2.2.2.2.2.2.2.2.2.length)) (.opt (qGD n r380.2.2.2.2.2.2.2.2.2.2.2.2.2.2.2 (⟨#[44]⟩:BA)) fun r382=>(.ask (zAz (⟨(.c (.p (.s r382))),[],[]⟩:Res)) (.ask (decide ((r381++(⟨#[40]⟩:BA)).size+r382.size≤9223372036854775807)) (.ask (decide (((r381++(⟨#[40]⟩:BA))++r382).size+(⟨#[41]⟩:BA).size≤9223372036854775807)) (.done (((r381++(⟨#[40]⟩:BA))++r382)++(⟨#[41]⟩:BA))) .fail) .fail) .fail)) .fail) .fail)))))))))))))))))))))) .fail)) .fail)
def qa:Nat→RW→Int→Int→Option (BA)
 |0,_,_,_=>none
 |n+1,x0,x1,x2=>(qAp (qa n) n x0 x1 x2).run
abbrev qGE (n:Nat) (ih:Ok (Rn n) qED (qa n)):List (Ent (Rn n)):= [en (qIk n),en (qEY n),en (qGk n),en ih,en (qJ3 n),en (qIw n),en (qIv n),en (qMr n)]
def qH5 (n:Nat) (ih:Ok (Rn n) qED (qa n)):LEnt (KB 47) (Rn n) n:=lok (zU 47) 125 ⟨⟨[(0,aL),(7,(.c (.ptr 0 448 0 0 0))),(10,(.c (.own 0 5760 0 0))),(92,aL),(93,aI),(94,aI)],[(448,⟨0,14,64,(.box [qI,qI,qI,qI,qS,qI,qI,qB,qB,qI,qI,qB,qB,qL])⟩),(5760,⟨0,1,9,(.row [])⟩)],[]⟩,[(.exit 1,⟨[(7,(.c (.ptr 0 448 0 0 0))),(10,(.c (.own 0 5760 0 0)))],[(448,⟨0,14,64,(.box [qI,qI,qI,qI,qS,qI,qI,qB,qB,qI,qI,qB,qB,qL])⟩),(5760,⟨0,1,9,(.row [])⟩)],[]⟩)]⟩ (qBZ (qa n) n) (qGE n ih) [] fun _=>(by kernel_rfl)
theorem qDt:∀n,Ok (Rn n) qED (qa n)
 |0=>ok0 fun _=>rfl
 |n+1=>stO (T:=qAp (qa n) n) (by kernel_rfl) (qGE n (qDt n)) [qH5 n (qDt n)] (fun _=>(by kernel_rfl)) fun _=>(by kernel_rfl)
def qKW:Sg:=⟨17,[aL],[],⟨aS,[],[]⟩⟩
def qDC (n:Nat) (x0:RW):Tr (BA):=(.opt (qBo n x0) fun r345=>(.ask ((!r345)) (.done (⟨#[]⟩:BA)) (.opt (qa n x0 (IntKind.i64.wrap ((x0.length:Int)-(1:Int))) (1:Int)) fun r383=>(.ask ((decide ((r383.size:Int)>(200:Int)))) (.done (⟨#[]⟩:BA)) (.done r383)))))
def qBO:Nat→RW→Option (BA)
 |0,_=>none
 |n+1,x0=>(qDC n x0).run
abbrev qKX (n:Nat):List (Ent (Rn n)):= [en (qGm n),en (qDt n)]
theorem qFl:∀n,Ok (Rn n) qKW (qBO n)
 |0=>ok0 fun _=>rfl
 |n+1=>stO (T:=qDC n) (by kernel_rfl) (qKX n) [] (fun _=>(by kernel_rfl)) fun _=>(by kernel_rfl)
def qMs:Sg:=⟨60,[aL],[],⟨(.tup [(false,[qS]),(false,[qB])]),[],[]⟩⟩
def qIJ (n:Nat) (x0:RW):Tr (BA×Bool):=(.opt (qBO n x0) fun r384=>(.ask (decide ((⟨#[61]⟩:BA).size+r384.size≤9223372036854775807)) (.ask ((!(r384.toList==(⟨#[]⟩:BA).toList))) (.done (((⟨#[61]⟩:BA)++r384),(decide ((r384.size:Int)<(200:Int))))) (.done (((⟨#[61]⟩:BA)++r384),false))) .fail))
def qFX:Nat→RW→Option (BA×Bool)
 |0,_=>none
 |n+1,x0=>(qIJ n x0).run
abbrev qMt (n:Nat):List (Ent (Rn n)):= [en (qFl n)]
theorem qL3:∀n,Ok (Rn n) qMs (qFX n)
 |0=>ok0 fun _=>rfl
 |n+1=>stO (T:=qIJ n) (by kernel_rfl) (qMt n) [] (fun _=>(by kernel_rfl)) fun _=>(by kernel_rfl)
def qEO:Sg:=⟨153,[aS,aS],[],⟨aS,[],[]⟩⟩
def qCV (n:Nat) (x0 x1:BA):Tr (BA):=(.opt (qAC n x0 x1) fun r389=>(.ask (r389) (.ask (decide (0≤(x1.size:Int)∧(x1.size:Int)≤(x0.size:Int)∧(x0.size:Int)≤x0.size)) (.done (x0.extract ((x1.size:Int)).toNat ((x0.size:Int)).toNat)) .fail) (.done x0)))
def qBV:Nat→BA→BA→Option (BA)
 |0,_,_=>none
 |n+1,x0,x1=>(qCV n x0 x1).run
abbrev qEP (n:Nat):List (Ent (Rn n)):= [en (qCU n)]
theorem qEE:∀n,Ok (Rn n) qEO (qBV n)
 |0=>ok0 fun _=>rfl
 |n+1=>stO (T:=qCV n) (by kernel_rfl) (qEP n) [] (fun _=>(by kernel_rfl)) fun _=>(by kernel_rfl)
def qI0:Sg:=⟨120,[aS,aS],[],⟨aS,[],[]⟩⟩
def qFN (n:Nat) (x0 x1:BA):Tr (BA):=(.opt (qBV n x0 x1) fun r390=>(.done r390))
def qDY:Nat→BA→BA→Option (BA)
 |0,_,_=>none
 |n+1,x0,x1=>(qFN n x0 x1).run
abbrev qI1 (n:Nat):List (Ent (Rn n)):= [en (qEE n)]
theorem qIl:∀n,Ok (Rn n) qI0 (qDY n)
 |0=>ok0 fun _=>rfl
 |n+1=>stO (T:=qFN n) (by kernel_rfl) (qI1 n) [] (fun _=>(by kernel_rfl)) fun _=>(by kernel_rfl)
def qI2:Sg:=⟨121,[aS,aS],[],⟨aS,[],[]⟩⟩
def qGF:Nat→BA→BA→Option ((BA))
 |0,_,_=>none
 |n+1,x0,x1=>zAE x0 x1
theorem qMu:∀n,Ok (Rn n) qI2 (qGF n)
 |0=>ok0 fun _=>rfl
 |n+1=>stL (by kernel_rfl) (fun a r e=>congrArg (Option.map fun r=>(qI2.Of r).v) e) rfl rfl rfl
def qMv:Sg:=⟨62,[aS],[],⟨aB,[],[]⟩⟩
def qIK (n:Nat) (x0:BA):Tr (Bool):=(.opt (qDY n x0 (⟨#[45]⟩:BA)) fun r391=>(.ask ((!(r391.toList==(⟨#[]⟩:BA).toList))) (.opt (qGF n r391 (⟨#[48,49,50,51,52,53,54,55,56,57]⟩:BA)) fun r392=>(.done (r392.toList==(⟨#[]⟩:BA).toList))) (.done false)))
def qD5:Nat→BA→Option (Bool)
 |0,_=>none
 |n+1,x0=>(qIK n x0).run
abbrev qMw (n:Nat):List (Ent (Rn n)):= [en (qIl n),en (qMu n)]
theorem qL4:∀n,Ok (Rn n) qMv (qD5 n)
 |0=>ok0 fun _=>rfl
 |n+1=>stO (T:=qIK n) (by kernel_rfl) (qMw n) [] (fun _=>(by kernel_rfl)) fun _=>(by kernel_rfl)
def qNZ:Sg:=⟨23,[aS],[],⟨(.tup [(false,[qS]),(false,[qB])]),[],[]⟩⟩
def qI3 (n:Nat) (x0:BA):Tr (BA×Bool):=(.opt (qCr n x0 (200:Int)) fun r138=>(.ask ((!r138)) (.done ((⟨#[]⟩:BA),(x0.toList==(⟨#[]⟩:BA).toList))) (.ask ((x0.toList==(⟨#[]⟩:BA).toList)) (.done ((⟨#[]⟩:BA),(x0.toList==(⟨#[]⟩:BA).toList))) (.opt (qAG n x0 (⟨#[61]⟩:BA)) fun r139=>(.ask (r139.2) (.opt (qDB n r139.1) fun r344=>(.opt (qFX n r344.1) fun r385=>(.ask ((!r344.2)) (.done ((⟨#[]⟩:BA),false)) (.ask ((!r385.2)) (.done ((⟨#[]⟩:BA),false)) (.done (r385.1,true)))))) (.opt (qA4 n x0 (10:Int) (64:Int)) fun r386=>(.alt r386 (fun r387=>(.ask (true) (.opt (qD5 n x0) fun r393=>(.ask (r393) (.opt (qCs n r387) fun r394=>(.opt (qAJ n r394.1 r394.2.1 r394.2.2) fun r395=>(.ask (r395) (.opt (qBJ n r387) fun r396=>(.done (r396,true))) (.opt (qZ n x0) fun r397=>(.ask (r397.2.2.2) (.done (x0,true)) (.ask (((x0.size:Int)==(200:Int))) (.done ((⟨#[]⟩:BA),false)) (.ask (decide ((⟨#[39]⟩:BA).size+x0.size≤9223372036854775807)) (.done (((⟨#[39]⟩:BA)++x0),true)) .fail))))))) (.opt (qZ n x0) fun r398=>(.ask (r398.2.2.2) (.done (x0,true)) (.ask (((x0.size:Int)==(200:Int))) (.done ((⟨#[]⟩:BA),false)) (.ask (decide ((⟨#[39]⟩:BA).size+x0.size≤9223372036854775807)) (.done (((⟨#[39]⟩:BA)++x0),true)) .fail)))))) (.opt (qZ n x0) fun r399=>(.ask (r399.2.2.2) (.done (x0,true)) (.ask (((x0.size:Int)==(200:Int))) (.done ((⟨#[]⟩:BA),false)) (.ask (decide ((⟨#[39]⟩:BA).size+x0.size≤9223372036854775807)) (.done (((⟨#[39]⟩:BA)++x0),true)) .fail)))))) (fun r388=>(.ask (false) (.opt (qD5 n x0) fun r400=>(.ask (r400) (.opt (qCs n r388) fun r401=>(.opt (qAJ n r401.1 r401.2.1 r401.2.2) fun r402=>(.ask (r402) (.opt (qBJ n r388) fun r403=>(.done (r403,true))) (.opt (qZ n x0) fun r404=>(.ask (r404.2.2.2) (.done (x0,true)) (.ask (((x0.size:Int)==(200:Int))) (.done ((⟨#[]⟩:BA),false)) (.ask (decide ((⟨#[39]⟩:BA).size+x0.size≤9223372036854775807)) (.done (((⟨#[39]⟩:BA)++x0),true)) .fail))))))) (.opt (qZ n x0) fun r405=>(.ask (r405.2.2.2) (.done (x0,true)) (.ask (((x0.size:Int)==(200:Int))) (.done ((⟨#[]⟩:BA),false)) (.ask (decide ((⟨#[39]⟩:BA).size+x0.size≤9223372036854775807)) (.done (((⟨#[39]⟩:BA)++x0),true)) .fail)))))) (.opt (qZ n x0) fun r406=>(.ask (r406.2.2.2) (.done (x0,true)) (.ask (((x0.size:Int)==(200:Int))) (.done ((⟨#[]⟩:BA),false)) (.ask (decide ((⟨#[39]⟩:BA).size+x0.size≤9223372036854775807)) (.done (((⟨#[39]⟩:BA)++x0),true)) .fail)))))))))))))
def qEe:Nat→BA→Option (BA×Bool)
 |0,_=>none
 |n+1,x0=>(qI3 n x0).run
abbrev qNa (n:Nat):List (Ent (Rn n)):= [en (qFz n),en (qCb n),en (qFk n),en (qL3 n),en2 (qDr n),en (qL4 n),en (qIt n),en (qD4 n),en (qFW n),en (qEa n)]
theorem qMx:∀n,Ok (Rn n) qNZ (qEe n)
 |0=>ok0 fun _=>rfl
 |n+1=>stO (T:=qI3 n) (by kernel_rfl) (qNa n) [] (fun _=>(by kernel_rfl)) fun _=>(by kernel_rfl)
def qNb:Sg:=⟨32,[aS],[],⟨aB,[],[]⟩⟩
def qBa (n:Nat) (v:BA×Int):Tr ((BA×Int)⊕((Bool)⊕(BA))):=(.ask ((decide (v.2<(v.1.size:Int)))) (.ask (decide (0≤v.2)) (.opt (v.1.toList[(v.2).toNat]?) fun c408=>(.ask ((decide ((c408.toNat:Int)<(32:Int)))) (.done (.inr (.inl (false)))) (.ask (decide (0≤v.2)) (.opt (v.1.toList[(v.2).toNat]?) fun c409=>(.ask ((decide ((c409.toNat:Int)>(126:Int)))) (.done (.inr (.inl (false)))) (.done (.inl (v.1,(IntKind.i64.wrap (v.2+(1:Int)))))))) .fail))) .fail) (.done (.inr (.inr (v.1)))))
def qGG (n:Nat) (x0:BA):Tr (Bool):=(.opt (zC (qBa n) n (x0,(0:Int))) fun r410=>(.alt r410 (fun r411=>(.done r411)) (fun r412=>(.done (decide ((r412.size:Int)≤(200:Int)))))))
def qCO:Nat→BA→Option (Bool)
 |0,_=>none
 |n+1,x0=>(qGG n x0).run
def qK3 (n:Nat):LEnt (KB 32) (Rn n) n:=lok (zU 32) 13 ⟨⟨[(0,aS),(3,aI)],[],[]⟩,[(.ret,⟨[(2,aB)],[],[]⟩),(.exit 0,⟨[(0,aS)],[],[]⟩)]⟩ (qBa n) [] [] fun _=>(by kernel_rfl)
theorem qFY:∀n,Ok (Rn n) qNb (qCO n)
 |0=>ok0 fun _=>rfl
 |n+1=>stO (T:=qGG n) (by kernel_rfl) [] [qK3 n] (fun _=>(by kernel_rfl)) fun _=>(by kernel_rfl)
def qKY:Sg:=⟨34,[(.c (.ptr 0 0 0 0 0))],[[(0,⟨0,4,50,(.box [qS,qI,qB,(.own 0 1 1 0)])⟩),(1,⟨1,14,64,(.row [])⟩)]],⟨(.tup []),[[(0,⟨0,4,50,(.box [qS,qI,qB,(.own 0 1 1 0)])⟩),(1,⟨1,14,64,(.row [])⟩)]],[]⟩⟩
def qDZ (n:Nat) (v:BA×Int×Bool×Nat×RW):Tr ((BA×Int×Bool×Nat×RW)⊕((BA×Int×Bool×Nat×RW))):=(.ask ((decide (v.2.1<(v.1.size:Int)))) (.ask (decide (0≤v.2.1)) (.opt (v.1.toList[(v.2.1).toNat]?) fun c416=>(.ask (((c416.toNat:Int)==(32:Int))) (.done (.inl (v.1,(IntKind.i64.wrap (v.2.1+(1:Int))),v.2.2.1,v.2.2.2.1,v.2.2.2.2))) (.done (.inr ((v.1,v.2.1,v.2.2.1,v.2.2.2.1,v.2.2.2.2)))))) .fail) (.done (.inr ((v.1,v.2.1,v.2.2.1,v.2.2.2.1,v.2.2.2.2)))))
def qGH (n:Nat) (x0:BA) (x1:Int) (x2:Bool) (x3:Nat) (x4:RW):Tr (BA×Int×Bool×Nat×RW):=(.opt (zC (qDZ n) n (x0,x1,x2,x3,x4)) fun r417=>(.done (r417.1,r417.2.1,r417.2.2.1,r417.2.2.2.1,r417.2.2.2.2)))
def qBp:Nat→BA→Int→Bool→Nat→RW→Option (BA×Int×Bool×Nat×RW)
 |0,_,_,_,_,_=>none
 |n+1,x0,x1,x2,x3,x4=>(qGH n x0 x1 x2 x3 x4).run
def qI4 (n:Nat):LEnt (KB 34) (Rn n) n:=lok (zU 34) 1 ⟨⟨[(0,(.c (.ptr 0 0 0 0 0)))],[],[[(0,⟨0,4,50,(.box [qS,qI,qB,(.own 0 1 1 0)])⟩),(1,⟨1,14,64,(.row [])⟩)]]⟩,[(.exit 0,⟨[],[],[[(0,⟨0,4,50,(.box [qS,qI,qB,(.own 0 1 1 0)])⟩),(1,⟨1,14,64,(.row [])⟩)]]⟩)]⟩ (qDZ n) [] [] fun _=>(by kernel_rfl)
theorem qDu:∀n,Ok (Rn n) qKY (qBp n)
 |0=>ok0 fun _=>rfl
 |n+1=>stO (T:=qGH n) (by kernel_rfl) [] [qI4 n] (fun _=>(by kernel_rfl)) fun _=>(by kernel_rfl)
def qNc:Sg:=⟨128,[(.c (.ptr 0 0 0 0 0)),aS],[[(0,⟨0,4,50,(.box [qS,qI,qB,(.own 0 1 1 0)])⟩),(1,⟨1,14,64,(.row [])⟩)]],⟨aB,[[(0,⟨0,4,50,(.box [qS,qI,qB,(.own 0 1 1 0)])⟩),(1,⟨1,14,64,(.row [])⟩)]],[]⟩⟩
def qI5 (n:Nat) (x0 x1:BA) (x2:Int) (x3:Bool) (x4:Nat) (x5:RW):Tr (Bool×BA×Int×Bool×Nat×RW):=(.opt (qBp n x1 x2 x3 x4 x5) fun r418=>(.ask (r418.2.2.1) (.done (false,r418.1,r418.2.1,r418.2.2.1,r418.2.2.2.1,r418.2.2.2.2)) (.ask ((decide ((IntKind.i64.wrap (r418.2.1+(x0.size:Int)))>(r418.1.size:Int)))) (.done (false,r418.1,r418.2.1,r418.2.2.1,r418.2.2.2.1,r418.2.2.2.2)) (.ask (decide (0≤r418.2.1∧r418.2.1≤(IntKind.i64.wrap (r418.2.1+(x0.size:Int)))∧(IntKind.i64.wrap (r418.2.1+(x0.size:Int)))≤r418.1.size)) (.ask ((!((r418.1.extract (r418.2.1).toNat ((IntKind.i64.wrap (r418.2.1+(x0.size:Int)))).toNat).toList==x0.toList))) (.done (false,r418.1,r418.2.1,r418.2.2.1,r418.2.2.2.1,r418.2.2.2.2)) (.done (true,r418.1,(IntKind.i64.wrap (r418.2.1+(x0.size:Int))),r418.2.2.1,r418.2.2.2.1,r418.2.2.2.2))) .fail))))
def qAH:Nat→BA→BA→Int→Bool→Nat→RW→Option (Bool×BA×Int×Bool×Nat×RW)
 |0,_,_,_,_,_,_=>none
 |n+1,x0,x1,x2,x3,x4,x5=>(qI5 n x0 x1 x2 x3 x4 x5).run
abbrev qNd (n:Nat):List (Ent (Rn n)):= [en (qDu n)]
theorem qD6:∀n,Ok (Rn n) qNc (qAH n)
 |0=>ok0 fun _=>rfl
 |n+1=>stO (T:=qI5 n) (by kernel_rfl) (qNd n) [] (fun _=>(by kernel_rfl)) fun _=>(by kernel_rfl)
def qNe:Sg:=⟨111,[(.agg [qI,qI,qS])],[],⟨aB,[],[]⟩⟩
def qGI (n:Nat) (x0 x1:Int) (x2:BA):Tr (Bool):=(.ask ((x0==(0:Int))) (.ask ((x1==(0:Int))) (.done (x2.toList==(⟨#[]⟩:BA).toList)) (.done false)) (.ask ((x0==(1:Int))) (.opt (qBQ n x1 (-1000000000000000:Int) (1000000000000000:Int)) fun r421=>(.ask (r421) (.done (x2.toList==(⟨#[]⟩:BA).toList)) (.done false))) (.ask ((x0==(2:Int))) (.ask ((x1==(0:Int))) (.opt (qCO n x2) fun r422=>(.done r422)) (.done false)) (.ask ((x0==(3:Int))) (.opt (qBQ n x1 (0:Int) (1:Int)) fun r423=>(.ask (r423) (.done (x2.toList==(⟨#[]⟩:BA).toList)) (.done false))) (.ask ((x0==(4:Int))) (.opt (qBQ n x1 (1:Int) (5:Int)) fun r424=>(.ask (r424) (.done (x2.toList==(⟨#[]⟩:BA).toList)) (.done false))) (.done false))))))
def qb:Nat→Int→Int→BA→Option (Bool)
 |0,_,_,_=>none
 |n+1,x0,x1,x2=>(qGI n x0 x1 x2).run
abbrev qNf (n:Nat):List (Ent (Rn n)):= [en (qER n),en (qFY n)]
theorem qD7:∀n,Ok (Rn n) qNe (qb n)
 |0=>ok0 fun _=>rfl
 |n+1=>stO (T:=qGI n) (by kernel_rfl) (qNf n) [] (fun _=>(by kernel_rfl)) fun _=>(by kernel_rfl)
def qOU:Sg:=⟨112,[(.agg [qI,qI,qI,qI])],[],⟨aB,[],[]⟩⟩
def qHA (n:Nat) (x0 x1 x2 x3:Int):Tr (Bool):=(.opt (qAh n x0 x1) fun r427=>(.ask (r427) (.opt (qAh n x2 x3) fun r428=>(.ask (r428) (.ask ((decide (x0≤x2))) (.done (decide (x1≤x3))) (.done false)) (.done false))) (.done false)))
def qFC:Nat→Int→Int→Int→Int→Option (Bool)
 |0,_,_,_,_=>none
 |n+1,x0,x1,x2,x3=>(qHA n x0 x1 x2 x3).run
abbrev qOV (n:Nat):List (Ent (Rn n)):= [en (qFB n)]
theorem qNg:∀n,Ok (Rn n) qOU (qFC n)
 |0=>ok0 fun _=>rfl
 |n+1=>stO (T:=qHA n) (by kernel_rfl) (qOV n) [] (fun _=>(by kernel_rfl)) fun _=>(by kernel_rfl)
def qOW:Sg:=⟨113,[aI,aI],[],⟨aB,[],[]⟩⟩
def qHB (n:Nat) (x0 x1:Int):Tr (Bool):=(.ask ((x0==(1:Int))) (.ask ((decide (x1≥(1:Int)))) (.done (decide (x1≤(10:Int)))) (.done false)) (.ask ((x0==(2:Int))) (.ask ((decide (x1≥(1:Int)))) (.done (decide (x1≤(10:Int)))) (.done false)) (.ask ((x0==(3:Int))) (.ask ((decide (x1≥(1:Int)))) (.done (decide (x1≤(10:Int)))) (.done false)) (.ask ((x0==(4:Int))) (.ask ((decide (x1≥(1:Int)))) (.done (decide (x1≤(10:Int)))) (.done false)) (.ask ((x0==(6:Int))) (.ask ((decide (x1≥(1:Int)))) (.done (decide (x1≤(10:Int)))) (.done false)) (.ask ((x0==(7:Int))) (.ask ((decide (x1≥(1:Int)))) (.done (decide (x1≤(10:Int)))) (.done false)) (.ask ((x0==(5:Int))) (.ask ((x1==(2:Int))) (.done true) (.done (x1==(3:Int)))) (.ask ((x0==(8:Int))) (.done (x1==(1:Int))) (.ask ((x0==(9:Int))) (.done (x1==(1:Int))) (.ask ((x0==(10:Int))) (.done (x1==(1:Int))) (.done false)))))))))))
def qFD:Nat→Int→Int→Option (Bool)
 |0,_,_=>none
 |n+1,x0,x1=>(qHB n x0 x1).run
theorem qNh:∀n,Ok (Rn n) qOW (qFD n)
 |0=>ok0 fun _=>rfl
 |n+1=>stO (T:=qHB n) (by kernel_rfl) [] [] (fun _=>(by kernel_rfl)) fun _=>(by kernel_rfl)
def qMy:Sg:=⟨52,[(.agg [qI,qI,qI,qI,qS,qI,qI,qB,qB,qI,qI,qB,qB,qL])],[],⟨aB,[],[]⟩⟩
def qFZ (n:Nat) (x0 x1 x2 x3:Int) (x4:BA) (x5 x6:Int) (x7 x8:Bool) (x9 x10:Int) (x11 x12:Bool) (x13:RW):Tr (Bool):=(.ask ((x0==(1:Int))) (.ask ((x1==(0:Int))) (.ask (((x5==(0:Int))&&((x6==(0:Int))&&((x7==false)&&((x8==false)&&true))))) (.ask (((x9==(0:Int))&&((x10==(0:Int))&&((x11==false)&&((x12==false)&&true))))) (.ask (((x13.length:Int)==(0:Int))) (.opt (qb n x2 x3 x4) fun r425=>(.ask (r425) (.ask ((x2 !=(0:Int))) (.ask ((x2 !=(1:Int))) (.done true) (.done (decide (x3≥(0:Int))))) (.done false)) (.done false))) (.done false)) (.done false)) (.done false)) (.done false)) (.ask ((x0==(2:Int))) (.ask ((x1==(0:Int))) (.ask (((x2==(0:Int))&&((x3==(0:Int))&&((x4.toList==(⟨#[]⟩:BA).toList)&&true)))) (.ask (((x9==(0:Int))&&((x10==(0:Int))&&((x11==false)&&((x12==false)&&true))))) (.ask (((x13.length:Int)==(0:Int))) (.opt (qAh n x5 x6) fun r426=>(.done r426)) (.done false)) (.done false)) (.done false)) (.done false)) (.ask ((x0==(3:Int))) (.ask ((x1==(0:Int))) (.ask (((x2==(0:Int))&&((x3==(0:Int))&&((x4.toList==(⟨#[]⟩:BA).toList)&&true)))) (.ask (((x13.length:Int)==(0:Int))) (.opt (qFC n x5 x6 x9 x10) fun r429=>(.done r429)) (.done false)) (.done false)) (.done false)) (.ask ((x0==(4:Int))) (.ask ((x1==(0:Int))) (.ask (((x2==(0:Int))&&((x3==(0:Int))&&((x4.toList==(⟨#[]⟩:BA).toList)&&true)))) (.ask (((x5==(0:Int))&&((x6==(0:Int))&&((x7==false)&&((x8==false)&&true))))) (.ask (((x9==(0:Int))&&((x10==(0:Int))&&((x11==false)&&((x12==false)&&true))))) (.done ((x13.length:Int)==(1:Int))) (.done false)) (.done false)) (.done false)) (.done false)) (.ask ((x0==(5:Int))) (.opt (qBQ n x1 (1:Int) (11:Int)) fun r430=>(.ask (r430) (.ask (((x2==(0:Int))&&((x3==(0:Int))&&((x4.toList==(⟨#[]⟩:BA).toList)&&true)))) (.ask (((x5==(0:Int))&&((x6==(0:Int))&&((x7==false)&&((x8==false)&&true))))) (.ask (((x9==(0:Int))&&((x10==(0:Int))&&((x11==false)&&((x12==false)&&true))))) (.done ((x13.length:Int)==(2:Int))) (.done false)) (.done false)) (.done false)) (.done false))) (.ask ((x0==(6:Int))) (.opt (qFD n x1 (x13.length:Int)) fun r431=>(.ask (r431) (.ask (((x2==(0:Int))&&((x3==(0:Int))&&((x4.toList==(⟨#[]⟩:BA).toList)&&true)))) (.ask (((x5==(0:Int))&&((x6==(0:Int))&&((x7==false)&&((x8==false)&&true))))) (.done ((x9==(0:Int))&&((x10==(0:Int))&&((x11==false)&&((x12==false)&&true))))) (.done false)) (.done false)) (.done false))) (.done false)))))))
def qB7:Nat→Int→Int→Int→Int→BA→Int→Int→Bool→Bool→Int→Int→Bool→Bool→RW→Option (Bool)
 |0,_,_,_,_,_,_,_,_,_,_,_,_,_,_=>none
 |n+1,x0,x1,x2,x3,x4,x5,x6,x7,x8,x9,x10,x11,x12,x13=>(qFZ n x0 x1 x2 x3 x4 x5 x6 x7 x8 x9 x10 x11 x12 x13).run
abbrev qMz (n:Nat):List (Ent (Rn n)):= [en (qD7 n),en (qFB n),en (qNg n),en (qER n),en (qNh n)]
theorem qHX:∀n,Ok (Rn n) qMy (qB7 n)
 |0=>ok0 fun _=>rfl
 |n+1=>stO (T:=qFZ n) (by kernel_rfl) (qMz n) [] (fun _=>(by kernel_rfl)) fun _=>(by kernel_rfl)
def qM0:Sg:=⟨83,[(.c (.ptr 0 0 0 0 0)),(.agg [qI,qI,qI,qI,qS,qI,qI,qB,qB,qI,qI,qB,qB,qL])],[[(0,⟨0,4,50,(.box [qS,qI,qB,(.own 0 1 1 0)])⟩),(1,⟨1,14,64,(.row [])⟩)]],⟨aI,[[(0,⟨0,4,50,(.box [qS,qI,qB,(.own 0 1 1 0)])⟩),(1,⟨1,14,64,(.row [])⟩)]],[]⟩⟩
def qIL (n:Nat) (x0 x1 x2 x3:Int) (x4:BA) (x5 x6:Int) (x7 x8:Bool) (x9 x10:Int) (x11 x12:Bool) (x13:RW) (x14:BA) (x15:Int) (x16:Bool) (x17:Nat) (x18:RW):Tr (Int×BA×Int×Bool×Nat×RW):=(.ask (decide (1=([[(.i .i64 x0),(.i .i64 x1),(.i .i64 x2),(.i .i64 x3),(.s x4),(.i .i64 x5),(.i .i64 x6),(.b x7),(.b x8),(.i .i64 x9),(.i .i64 x10),(.b x11),(.b x12),(.ls x13)]]:RW).length)) (.ask (decide (x17=x18.length∧0<14∧0<120∧(x17+([[(.i .i64 x0),(.i .i64 x1),(.i .i64 x2),(.i .i64 x3),(.s x4),(.i .i64 x5),(.i .i64 x6),(.b x7),(.b x8),(.i .i64 x9),(.i .i64 x10),(.b x11),(.b x12),(.ls x13)]]:RW).length)*120≤140737488355328∧([[(.i .i64 x0),(.i .i64 x1),(.i .i64 x2),(.i .i64 x3),(.s x4),(.i .i64 x5),(.i .i64 x6),(.b x7),(.b x8),(.i .i64 x9),(.i .i64 x10),(.b x11),(.b x12),(.ls x13)]]:RW).all (fun e=>e.length==14)=true)) (.ask ((decide ((((x17+1):Nat):Int)>(60:Int)))) (.done ((IntKind.i64.wrap ((((x17+1):Nat):Int)-(1:Int))),x14,x15,true,(x17+1),(x18++([[(.i .i64 x0),(.i .i64 x1),(.i .i64 x2),(.i .i64 x3),(.s x4),(.i .i64 x5),(.i .i64 x6),(.b x7),(.b x8),(.i .i64 x9),(.i .i64 x10),(.b x11),(.b x12),(.ls x13)]]:RW)))) (.opt (qB7 n x0 x1 x2 x3 x4 x5 x6 x7 x8 x9 x10 x11 x12 x13) fun r432=>(.ask ((!r432)) (.done ((IntKind.i64.wrap ((((x17+1):Nat):Int)-(1:Int))),x14,x15,true,(x17+1),(x18++([[(.i .i64 x0),(.i .i64 x1),(.i .i64 x2),(.i .i64 x3),(.s x4),(.i .i64 x5),(.i .i64 x6),(.b x7),(.b x8),(.i .i64 x9),(.i .i64 x10),(.b x11),(.b x12),(.ls x13)]]:RW)))) (.done ((IntKind.i64.wrap ((((x17+1):Nat):Int)-(1:Int))),x14,x15,x16,(x17+1),(x18++([[(.i .i64 x0),(.i .i64 x1),(.i .i64 x2),(.i .i64 x3),(.s x4),(.i .i64 x5),(.i .i64 x6),(.b x7),(.b x8),(.i .i64 x9),(.i .i64 x10),(.b x11),(.b x12),(.ls x13)]]:RW))))))) .fail) .fail)
def qw:Nat→Int→Int→Int→Int→BA→Int→Int→Bool→Bool→Int→Int→Bool→Bool→RW→BA→Int→Bool→Nat→RW→Option (Int×BA×Int×Bool×Nat×RW)
 |0,_,_,_,_,_,_,_,_,_,_,_,_,_,_,_,_,_,_,_=>none
 |n+1,x0,x1,x2,x3,x4,x5,x6,x7,x8,x9,x10,x11,x12,x13,x14,x15,x16,x17,x18=>(qIL n x0 x1 x2 x3 x4 x5 x6 x7 x8 x9 x10 x11 x12 x13 x14 x15 x16 x17 x18).run
abbrev qM1 (n:Nat):List (Ent (Rn n)):= [en (qHX n)]
theorem qC1:∀n,Ok (Rn n) qM0 (qw n)
 |0=>ok0 fun _=>rfl
 |n+1=>stO (T:=qIL n) (by kernel_rfl) (qM1 n) [] (fun _=>(by kernel_rfl)) fun _=>(by kernel_rfl)
def qL5:Sg:=⟨129,[(.c (.ptr 0 0 0 0 0))],[[(0,⟨0,4,50,(.box [qS,qI,qB,(.own 0 1 1 0)])⟩),(1,⟨1,14,64,(.row [])⟩)]],⟨aI,[[(0,⟨0,4,50,(.box [qS,qI,qB,(.own 0 1 1 0)])⟩),(1,⟨1,14,64,(.row [])⟩)]],[]⟩⟩
def qDv (n:Nat) (v:BA×BA×Int×Bool×Nat×RW):Tr ((BA×BA×Int×Bool×Nat×RW)⊕((Int×BA×Int×Bool×Nat×RW)⊕(BA×Int×Bool×Nat×RW))):=(.ask ((decide (v.2.2.1<(v.2.1.size:Int)))) (.ask (decide (0≤v.2.2.1)) (.opt (v.2.1.toList[(v.2.2.1).toNat]?) fun c438=>(.ask (((c438.toNat:Int) !=(34:Int))) (.ask (decide (0≤v.2.2.1∧v.2.2.1≤(IntKind.i64.wrap (v.2.2.1+(1:Int)))∧(IntKind.i64.wrap (v.2.2.1+(1:Int)))≤v.2.1.size)) (.ask (decide (v.1.size+(v.2.1.extract (v.2.2.1).toNat ((IntKind.i64.wrap (v.2.2.1+(1:Int)))).toNat).size≤9223372036854775807)) (.done (.inl ((v.1++(v.2.1.extract (v.2.2.1).toNat ((IntKind.i64.wrap (v.2.2.1+(1:Int)))).toNat)),v.2.1,(IntKind.i64.wrap (v.2.2.1+(1:Int))),v.2.2.2.1,v.2.2.2.2.1,v.2.2.2.2.2))) .fail) .fail) (.ask ((decide ((IntKind.i64.wrap (v.2.2.1+(1:Int)))≥(v.2.1.size:Int)))) (.opt (qw n (1:Int) (0:Int) (2:Int) (0:Int) v.1 (0:Int) (0:Int) false false (0:Int) (0:Int) false false ([]:RW) v.2.1 (IntKind.i64.wrap (v.2.2.1+(1:Int))) v.2.2.2.1 v.2.2.2.2.1 v.2.2.2.2.2) fun r439=>(.done (.inr (.inl ((r439.1,r439.2.1,r439.2.2.1,r439.2.2.2.1,r439.2.2.2.2.1,r439.2.2.2.2.2)))))) (.ask (decide (0≤(IntKind.i64.wrap (v.2.2.1+(1:Int))))) (.opt (v.2.1.toList[((IntKind.i64.wrap (v.2.2.1+(1:Int)))).toNat]?) fun c440=>(.ask (((c440.toNat:Int) !=(34:Int))) (.opt (qw n (1:Int) (0:Int) (2:Int) (0:Int) v.1 (0:Int) (0:Int) false false (0:Int) (0:Int) false false ([]:RW) v.2.1 (IntKind.i64.wrap (v.2.2.1+(1:Int))) v.2.2.2.1 v.2.2.2.2.1 v.2.2.2.2.2) fun r441=>(.done (.inr (.inl ((r441.1,r441.2.1,r441.2.2.1,r441.2.2.2.1,r441.2.2.2.2.1,r441.2.2.2.2.2)))))) (.ask (decide (v.1.size+(⟨#[34]⟩:BA).size≤9223372036854775807)) (.done (.inl ((v.1++(⟨#[34]⟩:BA)),v.2.1,(IntKind.i64.wrap ((IntKind.i64.wrap (v.2.2.1+(1:Int)))+(1:Int))),v.2.2.2.1,v.2.2.2.2.1,v.2.2.2.2.2))) .fail))) .fail)))) .fail) (.done (.inr (.inr ((v.2.1,v.2.2.1,v.2.2.2.1,v.2.2.2.2.1,v.2.2.2.2.2))))))
def qHY (n:Nat) (x0:BA) (x1:Int) (x2:Bool) (x3:Nat) (x4:RW):Tr (Int×BA×Int×Bool×Nat×RW):=(.opt (zC (qDv n) n ((⟨#[]⟩:BA),x0,x1,x2,x3,x4)) fun r442=>(.alt r442 (fun r443=>(.done (r443.1,r443.2.1,r443.2.2.1,r443.2.2.2.1,r443.2.2.2.2.1,r443.2.2.2.2.2))) (fun r444=>(.done ((0:Int),r444.1,r444.2.1,true,r444.2.2.2.1,r444.2.2.2.2)))))
def qE2:Nat→BA→Int→Bool→Nat→RW→Option (Int×BA×Int×Bool×Nat×RW)
 |0,_,_,_,_,_=>none
 |n+1,x0,x1,x2,x3,x4=>(qHY n x0 x1 x2 x3 x4).run
abbrev qHZ (n:Nat):List (Ent (Rn n)):= [en (qC1 n)]
def qJq (n:Nat):LEnt (KB 129) (Rn n) n:=lok (zU 129) 14 ⟨⟨[(0,(.c (.ptr 0 0 0 0 0))),(3,aS)],[],[[(0,⟨0,4,50,(.box [qS,qI,qB,(.own 0 1 1 0)])⟩),(1,⟨1,14,64,(.row [])⟩)]]⟩,[(.ret,⟨[(2,aI)],[],[[(0,⟨0,4,50,(.box [qS,qI,qB,(.own 0 1 1 0)])⟩),(1,⟨1,14,64,(.row [])⟩)]]⟩),(.exit 0,⟨[(0,(.c (.ptr 0 0 0 0 0)))],[],[[(0,⟨0,4,50,(.box [qS,qI,qB,(.own 0 1 1 0)])⟩),(1,⟨1,14,64,(.row [])⟩)]]⟩)]⟩ (qDv n) (qHZ n) [] fun _=>(by kernel_rfl)
theorem qK4:∀n,Ok (Rn n) qL5 (qE2 n)
 |0=>ok0 fun _=>rfl
 |n+1=>stO (T:=qHY n) (by kernel_rfl) (qHZ n) [qJq n] (fun _=>(by kernel_rfl)) fun _=>(by kernel_rfl)
def qOX:Sg:=⟨116,[aI],[],⟨aS,[],[]⟩⟩
def qHC (n:Nat) (x0:Int):Tr (BA):=(.ask (decide (6=([[(.s (⟨#[]⟩:BA))],[(.s (⟨#[35,68,73,86,33]⟩:BA))],[(.s (⟨#[35,84,89,80,69,33]⟩:BA))],[(.s (⟨#[35,82,69,70,33]⟩:BA))],[(.s (⟨#[35,79,86,69,82,33]⟩:BA))],[(.s (⟨#[35,67,89,67,76,69,33]⟩:BA))]]:RW).length∧0≤x0∧x0<((6:Nat):Int))) (.opt (([[(.s (⟨#[]⟩:BA))],[(.s (⟨#[35,68,73,86,33]⟩:BA))],[(.s (⟨#[35,84,89,80,69,33]⟩:BA))],[(.s (⟨#[35,82,69,70,33]⟩:BA))],[(.s (⟨#[35,79,86,69,82,33]⟩:BA))],[(.s (⟨#[35,67,89,67,76,69,33]⟩:BA))]]:RW)[(x0).toNat]?) fun e447=>(.opt (zp e447 0) fun y448=>(.done y448))) .fail)
def qBX:Nat→Int→Option (BA)
 |0,_=>none
 |n+1,x0=>(qHC n x0).run
theorem qGJ:∀n,Ok (Rn n) qOX (qBX n)
 |0=>ok0 fun _=>rfl
 |n+1=>stO (T:=qHC n) (by kernel_rfl) [] [] (fun _=>(by kernel_rfl)) fun _=>(by kernel_rfl)
def qNi:Sg:=⟨130,[aI],[],⟨(.agg [qI,qI,qS]),[],[]⟩⟩
def qGK (n:Nat) (x0:Int):Tr (Int×Int×BA):=(.done ((4:Int),x0,(⟨#[]⟩:BA)))
def qC2:Nat→Int→Option (Int×Int×BA)
 |0,_=>none
 |n+1,x0=>(qGK n x0).run
theorem qM2:∀n,Ok (Rn n) qNi (qC2 n)
 |0=>ok0 fun _=>rfl
 |n+1=>stO (T:=qGK n) (by kernel_rfl) [] [] (fun _=>(by kernel_rfl)) fun _=>(by kernel_rfl)
def qL6:Sg:=⟨131,[(.c (.ptr 0 0 0 0 0))],[[(0,⟨0,4,50,(.box [qS,qI,qB,(.own 0 1 1 0)])⟩),(1,⟨1,14,64,(.row [])⟩)]],⟨aS,[[(0,⟨0,4,50,(.box [qS,qI,qB,(.own 0 1 1 0)])⟩),(1,⟨1,14,64,(.row [])⟩)]],[]⟩⟩
def qCB (n:Nat) (v:Int×BA×Int×Bool×Nat×RW):Tr ((Int×BA×Int×Bool×Nat×RW)⊕((Int×BA×Int×Bool×Nat×RW))):=(.ask ((decide (v.2.2.1<(v.2.1.size:Int)))) (.ask (decide (0≤v.2.2.1)) (.opt (v.2.1.toList[(v.2.2.1).toNat]?) fun c453=>(.ask ((decide ((c453.toNat:Int)≥(65:Int)))) (.ask (decide (0≤v.2.2.1)) (.opt (v.2.1.toList[(v.2.2.1).toNat]?) fun c454=>(.ask ((decide ((c454.toNat:Int)≤(90:Int)))) (.done (.inl (v.1,v.2.1,(IntKind.i64.wrap (v.2.2.1+(1:Int))),v.2.2.2.1,v.2.2.2.2.1,v.2.2.2.2.2))) (.ask (decide (0≤v.2.2.1)) (.opt (v.2.1.toList[(v.2.2.1).toNat]?) fun c455=>(.ask ((decide ((c455.toNat:Int)≥(48:Int)))) (.ask (decide (0≤v.2.2.1)) (.opt (v.2.1.toList[(v.2.2.1).toNat]?) fun c456=>(.ask ((decide ((c456.toNat:Int)≤(57:Int)))) (.done (.inl (v.1,v.2.1,(IntKind.i64.wrap (v.2.2.1+(1:Int))),v.2.2.2.1,v.2.2.2.2.1,v.2.2.2.2.2))) (.ask (decide (0≤v.2.2.1)) (.opt (v.2.1.toList[(v.2.2.1).toNat]?) fun c457=>(.ask (((c457.toNat:Int)==(36:Int))) (.done (.inl (v.1,v.2.1,(IntKind.i64.wrap (v.2.2.1+(1:Int))),v.2.2.2.1,v.2.2.2.2.1,v.2.2.2.2.2))) (.done (.inr ((v.1,v.2.1,v.2.2.1,v.2.2.2.1,v.2.2.2.2.1,v.2.2.2.2.2)))))) .fail))) .fail) (.ask (decide (0≤v.2.2.1)) (.opt (v.2.1.toList[(v.2.2.1).toNat]?) fun c458=>(.ask (((c458.toNat:Int)==(36:Int))) (.done (.inl (v.1,v.2.1,(IntKind.i64.wrap (v.2.2.1+(1:Int))),v.2.2.2.1,v.2.2.2.2.1,v.2.2.2.2.2))) (.done (.inr ((v.1,v.2.1,v.2.2.1,v.2.2.2.1,v.2.2.2.2.1,v.2.2.2.2.2)))))) .fail))) .fail))) .fail) (.ask (decide (0≤v.2.2.1)) (.opt (v.2.1.toList[(v.2.2.1).toNat]?) fun c459=>(.ask ((decide ((c459.toNat:Int)≥(48:Int)))) (.ask (decide (0≤v.2.2.1)) (.opt (v.2.1.toList[(v.2.2.1).toNat]?) fun c460=>(.ask ((decide ((c460.toNat:Int)≤(57:Int)))) (.done (.inl (v.1,v.2.1,(IntKind.i64.wrap (v.2.2.1+(1:Int))),v.2.2.2.1,v.2.2.2.2.1,v.2.2.2.2.2))) (.ask (decide (0≤v.2.2.1)) (.opt (v.2.1.toList[(v.2.2.1).toNat]?) fun c461=>(.ask (((c461.toNat:Int)==(36:Int))) (.done (.inl (v.1,v.2.1,(IntKind.i64.wrap (v.2.2.1+(1:Int))),v.2.2.2.1,v.2.2.2.2.1,v.2.2.2.2.2))) (.done (.inr ((v.1,v.2.1,v.2.2.1,v.2.2.2.1,v.2.2.2.2.1,v.2.2.2.2.2)))))) .fail))) .fail) (.ask (decide (0≤v.2.2.1)) (.opt (v.2.1.toList[(v.2.2.1).toNat]?) fun c462=>(.ask (((c462.toNat:Int)==(36:Int))) (.done (.inl (v.1,v.2.1,(IntKind.i64.wrap (v.2.2.1+(1:Int))),v.2.2.2.1,v.2.2.2.2.1,v.2.2.2.2.2))) (.done (.inr ((v.1,v.2.1,v.2.2.1,v.2.2.2.1,v.2.2.2.2.1,v.2.2.2.2.2)))))) .fail))) .fail))) .fail) (.done (.inr ((v.1,v.2.1,v.2.2.1,v.2.2.2.1,v.2.2.2.2.1,v.2.2.2.2.2)))))
def qHa (n:Nat) (x0:BA) (x1:Int) (x2:Bool) (x3:Nat) (x4:RW):Tr (BA×BA×Int×Bool×Nat×RW):=(.opt (zC (qCB n) n (x1,x0,x1,x2,x3,x4)) fun r463=>(.ask (decide (0≤r463.1∧r463.1≤r463.2.2.1∧r463.2.2.1≤r463.2.1.size)) (.done ((r463.2.1.extract (r463.1).toNat (r463.2.2.1).toNat),r463.2.1,r463.2.2.1,r463.2.2.2.1,r463.2.2.2.2.1,r463.2.2.2.2.2)) .fail))
def qC3:Nat→BA→Int→Bool→Nat→RW→Option (BA×BA×Int×Bool×Nat×RW)
 |0,_,_,_,_,_=>none
 |n+1,x0,x1,x2,x3,x4=>(qHa n x0 x1 x2 x3 x4).run
def qJr (n:Nat):LEnt (KB 131) (Rn n) n:=lok (zU 131) 14 ⟨⟨[(0,(.c (.ptr 0 0 0 0 0))),(3,aI)],[],[[(0,⟨0,4,50,(.box [qS,qI,qB,(.own 0 1 1 0)])⟩),(1,⟨1,14,64,(.row [])⟩)]]⟩,[(.exit 0,⟨[(0,(.c (.ptr 0 0 0 0 0))),(3,aI)],[],[[(0,⟨0,4,50,(.box [qS,qI,qB,(.own 0 1 1 0)])⟩),(1,⟨1,14,64,(.row [])⟩)]]⟩)]⟩ (qCB n) [] [] fun _=>(by kernel_rfl)
theorem qGn:∀n,Ok (Rn n) qL6 (qC3 n)
 |0=>ok0 fun _=>rfl
 |n+1=>stO (T:=qHa n) (by kernel_rfl) [] [qJr n] (fun _=>(by kernel_rfl)) fun _=>(by kernel_rfl)
def qPm:Sg:=⟨110,[aI],[],⟨aS,[],[]⟩⟩
def qI6 (n:Nat) (x0:Int):Tr (BA):=(.ask (decide (11=([[(.s (⟨#[]⟩:BA))],[(.s (⟨#[83,85,77]⟩:BA))],[(.s (⟨#[77,73,78]⟩:BA))],[(.s (⟨#[77,65,88]⟩:BA))],[(.s (⟨#[67,79,85,78,84]⟩:BA))],[(.s (⟨#[73,70]⟩:BA))],[(.s (⟨#[65,78,68]⟩:BA))],[(.s (⟨#[79,82]⟩:BA))],[(.s (⟨#[78,79,84]⟩:BA))],[(.s (⟨#[65,66,83]⟩:BA))],[(.s (⟨#[76,69,78]⟩:BA))]]:RW).length∧0≤x0∧x0<((11:Nat):Int))) (.opt (([[(.s (⟨#[]⟩:BA))],[(.s (⟨#[83,85,77]⟩:BA))],[(.s (⟨#[77,73,78]⟩:BA))],[(.s (⟨#[77,65,88]⟩:BA))],[(.s (⟨#[67,79,85,78,84]⟩:BA))],[(.s (⟨#[73,70]⟩:BA))],[(.s (⟨#[65,78,68]⟩:BA))],[(.s (⟨#[79,82]⟩:BA))],[(.s (⟨#[78,79,84]⟩:BA))],[(.s (⟨#[65,66,83]⟩:BA))],[(.s (⟨#[76,69,78]⟩:BA))]]:RW)[(x0).toNat]?) fun e465=>(.opt (zp e465 0) fun y466=>(.done y466))) .fail)
def qCh:Nat→Int→Option (BA)
 |0,_=>none
 |n+1,x0=>(qI6 n x0).run
theorem qK5:∀n,Ok (Rn n) qPm (qCh n)
 |0=>ok0 fun _=>rfl
 |n+1=>stO (T:=qI6 n) (by kernel_rfl) [] [] (fun _=>(by kernel_rfl)) fun _=>(by kernel_rfl)
def qNj:Sg:=⟨160,[aS],[],⟨aI,[],[]⟩⟩
def qCi (n:Nat) (v:BA×Int):Tr ((BA×Int)⊕((Int)⊕(Unit))):=(.ask ((decide (v.2≤(52:Int)))) (.opt (qCw n v.2) fun r475=>(.ask ((r475.toList==v.1.toList)) (.done (.inr (.inl (v.2)))) (.done (.inl (v.1,(IntKind.i64.wrap (v.2+(1:Int)))))))) (.done (.inr (.inr (())))))
def qGL (n:Nat) (x0:BA):Tr (Int):=(.opt (zC (qCi n) n (x0,(1:Int))) fun r476=>(.alt r476 (fun r477=>(.done r477)) (fun r478=>(.done (0:Int)))))
def qCP:Nat→BA→Option (Int)
 |0,_=>none
 |n+1,x0=>(qGL n x0).run
abbrev qI7 (n:Nat):List (Ent (Rn n)):= [en (qIH n)]
def qK6 (n:Nat):LEnt (KB 160) (Rn n) n:=lok (zU 160) 13 ⟨⟨[(0,aS),(3,aI)],[],[]⟩,[(.ret,⟨[(2,aI)],[],[]⟩),(.exit 0,⟨[],[],[]⟩)]⟩ (qCi n) (qI7 n) [] fun _=>(by kernel_rfl)
theorem qM3:∀n,Ok (Rn n) qNj (qCP n)
 |0=>ok0 fun _=>rfl
 |n+1=>stO (T:=qGL n) (by kernel_rfl) (qI7 n) [qK6 n] (fun _=>(by kernel_rfl)) fun _=>(by kernel_rfl)
def qPH:Sg:=⟨114,[aS,aI],[],⟨(.tup [(false,[qI]),(false,[qB])]),[],[]⟩⟩
def qBh (n:Nat) (v:BA×Int×Int):Tr ((BA×Int×Int)⊕((Int×Bool)⊕(Int))):=(.ask ((decide (v.2.2<(v.1.size:Int)))) (.ask (decide (0≤v.2.2)) (.opt (v.1.toList[(v.2.2).toNat]?) fun c482=>(.ask ((decide ((c482.toNat:Int)<(48:Int)))) (.done (.inr (.inl (((0:Int),false))))) (.ask (decide (0≤v.2.2)) (.opt (v.1.toList[(v.2.2).toNat]?) fun c483=>(.ask ((decide ((c483.toNat:Int)>(57:Int)))) (.done (.inr (.inl (((0:Int),false))))) (.ask (decide (0≤v.2.2)) (.opt (v.1.toList[(v.2.2).toNat]?) fun c484=>(.done (.inl (v.1,(IntKind.i64.wrap ((IntKind.i64.wrap (v.2.1*(10:Int)))+(IntKind.i64.wrap (IntKind.u8.wrap ((c484.toNat:Int)-(48:Int)))))),(IntKind.i64.wrap (v.2.2+(1:Int))))))) .fail))) .fail))) .fail) (.done (.inr (.inr (v.2.1)))))
def qEf (n:Nat) (x0:BA) (x1:Int):Tr (Int×Bool):=(.ask ((decide ((x0.size:Int)<(1:Int)))) (.done ((0:Int),false)) (.ask ((decide ((x0.size:Int)>x1))) (.done ((0:Int),false)) (.ask (decide (0≤(0:Int))) (.opt (x0.toList[((0:Int)).toNat]?) fun c481=>(.ask (((c481.toNat:Int)==(48:Int))) (.ask ((decide ((x0.size:Int)>(1:Int)))) (.done ((0:Int),false)) (.opt (zC (qBh n) n (x0,(0:Int),(0:Int))) fun r485=>(.alt r485 (fun r486=>(.done (r486.1,r486.2))) (fun r487=>(.done (r487,true)))))) (.opt (zC (qBh n) n (x0,(0:Int),(0:Int))) fun r488=>(.alt r488 (fun r489=>(.done (r489.1,r489.2))) (fun r490=>(.done (r490,true))))))) .fail)))
def qx:Nat→BA→Int→Option (Int×Bool)
 |0,_,_=>none
 |n+1,x0,x1=>(qEf n x0 x1).run
def qM4 (n:Nat):LEnt (KB 114) (Rn n) n:=lok (zU 114) 61 ⟨⟨[(0,aS),(6,aI),(7,aI)],[],[]⟩,[(.ret,⟨[(4,aI),(5,aB)],[],[]⟩),(.exit 0,⟨[(6,aI)],[],[]⟩)]⟩ (qBh n) [] [] fun _=>(by kernel_rfl)
theorem qHD:∀n,Ok (Rn n) qPH (qx n)
 |0=>ok0 fun _=>rfl
 |n+1=>stO (T:=qEf n) (by kernel_rfl) [] [qM4 n] (fun _=>(by kernel_rfl)) fun _=>(by kernel_rfl)
def qL7:Sg:=⟨133,[aS],[],⟨(.tup [(true,[qI,qI,qB,qB]),(false,[qB])]),[],[]⟩⟩
def qAN (n:Nat) (v:BA×Int×Int×Int×Bool×Bool×Int×Int×Bool×Bool):Tr ((BA×Int×Int×Int×Bool×Bool×Int×Int×Bool×Bool)⊕((BA×Int×Int×Int×Bool×Bool×Int×Int×Bool×Bool))):=(.ask ((decide (v.2.1<(v.1.size:Int)))) (.ask (decide (0≤v.2.1)) (.opt (v.1.toList[(v.2.1).toNat]?) fun c472=>(.ask ((decide ((c472.toNat:Int)≥(65:Int)))) (.ask (decide (0≤v.2.1)) (.opt (v.1.toList[(v.2.1).toNat]?) fun c473=>(.ask ((decide ((c473.toNat:Int)≤(90:Int)))) (.done (.inl (v.1,(IntKind.i64.wrap (v.2.1+(1:Int))),v.2.2.1,v.2.2.2.1,v.2.2.2.2.1,v.2.2.2.2.2.1,v.2.2.2.2.2.2.1,v.2.2.2.2.2.2.2.1,v.2.2.2.2.2.2.2.2.1,v.2.2.2.2.2.2.2.2.2))) (.done (.inr ((v.1,v.2.1,v.2.2.1,v.2.2.2.1,v.2.2.2.2.1,v.2.2.2.2.2.1,v.2.2.2.2.2.2.1,v.2.2.2.2.2.2.2.1,v.2.2.2.2.2.2.2.2.1,v.2.2.2.2.2.2.2.2.2)))))) .fail) (.done (.inr ((v.1,v.2.1,v.2.2.1,v.2.2.2.1,v.2.2.2.2.1,v.2.2.2.2.2.1,v.2.2.2.2.2.2.1,v.2.2.2.2.2.2.2.1,v.2.2.2.2.2.2.2.2.1,v.2.2.2.2.2.2.2.2.2)))))) .fail) (.done (.inr ((v.1,v.2.1,v.2.2.1,v.2.2.2.1,v.2.2.2.2.1,v.2.2.2.2.2.1,v.2.2.2.2.2.2.1,v.2.2.2.2.2.2.2.1,v.2.2.2.2.2.2.2.2.1,v.2.2.2.2.2.2.2.2.2)))))
def qCL (n:Nat) (x0:BA):Tr (Int×Int×Bool×Bool×Bool):=(.ask ((decide ((x0.size:Int)>(0:Int)))) (.ask (decide (0≤(0:Int))) (.opt (x0.toList[((0:Int)).toNat]?) fun c471=>(.ask (((c471.toNat:Int)==(36:Int))) (.ask (decide (0≤(1:Int)∧(1:Int)≤(x0.size:Int)∧(x0.size:Int)≤x0.size)) (.opt (zC (qAN n) n ((x0.extract ((1:Int)).toNat ((x0.size:Int)).toNat),(0:Int),(0:Int),(0:Int),false,false,(0:Int),(0:Int),true,false)) fun r474=>(.ask (decide (0≤(0:Int)∧(0:Int)≤r474.2.1∧r474.2.1≤r474.1.size)) (.opt (qCP n (r474.1.extract ((0:Int)).toNat (r474.2.1).toNat)) fun r479=>(.ask (decide (0≤r474.2.1∧r474.2.1≤(r474.1.size:Int)∧(r474.1.size:Int)≤r474.1.size)) (.ask ((decide (((r474.1.extract (r474.2.1).toNat ((r474.1.size:Int)).toNat).size:Int)>(0:Int)))) (.ask (decide (0≤(0:Int))) (.opt ((r474.1.extract (r474.2.1).toNat ((r474.1.size:Int)).toNat).toList[((0:Int)).toNat]?) fun c480=>(.ask (((c480.toNat:Int)==(36:Int))) (.ask (decide (0≤(1:Int)∧(1:Int)≤((r474.1.extract (r474.2.1).toNat ((r474.1.size:Int)).toNat).size:Int)∧((r474.1.extract (r474.2.1).toNat ((r474.1.size:Int)).toNat).size:Int)≤(r474.1.extract (r474.2.1).toNat ((r474.1.size:Int)).toNat).size)) (.opt (qx n ((r474.1.extract (r474.2.1).toNat ((r474.1.size:Int)).toNat).extract ((1:Int)).toNat (((r474.1.extract (r474.2.1).toNat ((r474.1.size:Int)).toNat).size:Int)).toNat) (2:Int)) fun r491=>(.ask ((!r491.2)) (.done ((0:Int),(0:Int),false,false,false)) (.opt (qAh n r479 r491.1) fun r492=>(.ask ((!r492)) (.done ((0:Int),(0:Int),false,false,false)) (.done (r479,r491.1,r474.2.2.2.2.2.2.2.2.1,true,true)))))) .fail) (.opt (qx n (r474.1.extract (r474.2.1).toNat ((r474.1.size:Int)).toNat) (2:Int)) fun r493=>(.ask ((!r493.2)) (.done ((0:Int),(0:Int),false,false,false)) (.opt (qAh n r479 r493.1) fun r494=>(.ask ((!r494)) (.done ((0:Int),(0:Int),false,false,false)) (.done (r479,r493.1,r474.2.2.2.2.2.2.2.2.1,r474.2.2.2.2.2.2.2.2.2,true)))))))) .fail) (.opt (qx n (r474.1.extract (r474.2.1).toNat ((r474.1.size:Int)).toNat) (2:Int)) fun r495=>(.ask ((!r495.2)) (.done ((0:Int),(0:Int),false,false,false)) (.opt (qAh n r479 r495.1) fun r496=>(.ask ((!r496)) (.done ((0:Int),(0:Int),false,false,false)) (.done (r479,r495.1,r474.2.2.2.2.2.2.2.2.1,r474.2.2.2.2.2.2.2.2.2,true))))))) .fail)) .fail)) .fail) (.opt (zC (qAN n) n (x0,(0:Int),(0:Int),(0:Int),false,false,(0:Int),(0:Int),false,false)) fun r497=>(.ask (decide (0≤(0:Int)∧(0:Int)≤r497.2.1∧r497.2.1≤r497.1.size)) (.opt (qCP n (r497.1.extract ((0:Int)).toNat (r497.2.1).toNat)) fun r498=>(.ask (decide (0≤r497.2.1∧r497.2.1≤(r497.1.size:Int)∧(r497.1.size:Int)≤r497.1.size)) (.ask ((decide (((r497.1.extract (r497.2.1).toNat ((r497.1.size:Int)).toNat).size:Int)>(0:Int)))) (.ask (decide (0≤(0:Int))) (.opt ((r497.1.extract (r497.2.1).toNat ((r497.1.size:Int)).toNat).toList[((0:Int)).toNat]?) fun c499=>(.ask (((c499.toNat:Int)==(36:Int))) (.ask (decide (0≤(1:Int)∧(1:Int)≤((r497.1.extract (r497.2.1).toNat ((r497.1.size:Int)).toNat).size:Int)∧((r497.1.extract (r497.2.1).toNat ((r497.1.size:Int)).toNat).size:Int)≤(r497.1.extract (r497.2.1).toNat ((r497.1.size:Int)).toNat).size)) (.opt (qx n ((r497.1.extract (r497.2.1).toNat ((r497.1.size:Int)).toNat).extract ((1:Int)).toNat (((r497.1.extract (r497.2.1).toNat ((r497.1.size:Int)).toNat).size:Int)).toNat) (2:Int)) fun r500=>(.ask ((!r500.2)) (.done ((0:Int),(0:Int),false,false,false)) (.opt (qAh n r498 r500.1) fun r501=>(.ask ((!r501)) (.done ((0:Int),(0:Int),false,false,false)) (.done (r498,r500.1,r497.2.2.2.2.2.2.2.2.1,true,true)))))) .fail) (.opt (qx n (r497.1.extract (r497.2.1).toNat ((r497.1.size:Int)).toNat) (2:Int)) fun r502=>(.ask ((!r502.2)) (.done ((0:Int),(0:Int),false,false,false)) (.opt (qAh n r498 r502.1) fun r503=>(.ask ((!r503)) (.done ((0:Int),(0:Int),false,false,false)) (.done (r498,r502.1,r497.2.2.2.2.2.2.2.2.1,r497.2.2.2.2.2.2.2.2.2,true)))))))) .fail) (.opt (qx n (r497.1.extract (r497.2.1).toNat ((r497.1.size:Int)).toNat) (2:Int)) fun r504=>(.ask ((!r504.2)) (.done ((0:Int),(0:Int),false,false,false)) (.opt (qAh n r498 r504.1) fun r505=>(.ask ((!r505)) (.done ((0:Int),(0:Int),false,false,false)) (.done (r498,r504.1,r497.2.2.2.2.2.2.2.2.1,r497.2.2.2.2.2.2.2.2.2,true))))))) .fail)) .fail)))) .fail) (.opt (zC (qAN n) n (x0,(0:Int),(0:Int),(0:Int),false,false,(0:Int),(0:Int),false,false)) fun r506=>(.ask (decide (0≤(0:Int)∧(0:Int)≤r506.2.1∧r506.2.1≤r506.1.size)) (.opt (qCP n (r506.1.extract ((0:Int)).toNat (r506.2.1).toNat)) fun r507=>(.ask (decide (0≤r506.2.1∧r506.2.1≤(r506.1.size:Int)∧(r506.1.size:Int)≤r506.1.size)) (.ask ((decide (((r506.1.extract (r506.2.1).toNat ((r506.1.size:Int)).toNat).size:Int)>(0:Int)))) (.ask (decide (0≤(0:Int))) (.opt ((r506.1.extract (r506.2.1).toNat ((r506.1.size:Int)).toNat).toList[((0:Int)).toNat]?) fun c508=>(.ask (((c508.toNat:Int)==(36:Int))) (.ask (decide (0≤(1:Int)∧(1:Int)≤((r506.1.extract (r506.2.1).toNat ((r506.1.size:Int)).toNat).size:Int)∧((r506.1.extract (r506.2.1).toNat ((r506.1.size:Int)).toNat).size:Int)≤(r506.1.extract (r506.2.1).toNat ((r506.1.size:Int)).toNat).size)) (.opt (qx n ((r506.1.extract (r506.2.1).toNat ((r506.1.size:Int)).toNat).extract ((1:Int)).toNat (((r506.1.extract (r506.2.1).toNat ((r506.1.size:Int)).toNat).size:Int)).toNat) (2:Int)) fun r509=>(.ask ((!r509.2)) (.done ((0:Int),(0:Int),false,false,false)) (.opt (qAh n r507 r509.1) fun r510=>(.ask ((!r510)) (.done ((0:Int),(0:Int),false,false,false)) (.done (r507,r509.1,r506.2.2.2.2.2.2.2.2.1,true,true)))))) .fail) (.opt (qx n (r506.1.extract (r506.2.1).toNat ((r506.1.size:Int)).toNat) (2:Int)) fun r511=>(.ask ((!r511.2)) (.done ((0:Int),(0:Int),false,false,false)) (.opt (qAh n r507 r511.1) fun r512=>(.ask ((!r512)) (.done ((0:Int),(0:Int),false,false,false)) (.done (r507,r511.1,r506.2.2.2.2.2.2.2.2.1,r506.2.2.2.2.2.2.2.2.2,true)))))))) .fail) (.opt (qx n (r506.1.extract (r506.2.1).toNat ((r506.1.size:Int)).toNat) (2:Int)) fun r513=>(.ask ((!r513.2)) (.done ((0:Int),(0:Int),false,false,false)) (.opt (qAh n r507 r513.1) fun r514=>(.ask ((!r514)) (.done ((0:Int),(0:Int),false,false,false)) (.done (r507,r513.1,r506.2.2.2.2.2.2.2.2.1,r506.2.2.2.2.2.2.2.2.2,true))))))) .fail)) .fail)))
def qAr:Nat→BA→Option (Int×Int×Bool×Bool×Bool)
 |0,_=>none
 |n+1,x0=>(qCL n x0).run
abbrev qHb (n:Nat):List (Ent (Rn n)):= [en (qM3 n),en (qHD n),en (qFB n)]
def qJs (n:Nat):LEnt (KB 133) (Rn n) n:=lok (zU 133) 62 ⟨⟨[(0,aS),(2,(.c (.ptr 0 128 0 0 0))),(4,(.c (.ptr 0 256 0 0 0))),(5,aI)],[(128,⟨0,4,61,(.box [qI,qI,qB,qB])⟩),(256,⟨0,4,61,(.box [qI,qI,qB,qB])⟩)],[]⟩,[(.exit 0,⟨[(0,aS),(2,(.c (.ptr 0 128 0 0 0))),(4,(.c (.ptr 0 256 0 0 0))),(5,aI)],[(128,⟨0,4,61,(.box [qI,qI,qB,qB])⟩),(256,⟨0,4,61,(.box [qI,qI,qB,qB])⟩)],[]⟩)]⟩ (qAN n) (qHb n) [] fun _=>(by kernel_rfl)
theorem qGo:∀n,Ok (Rn n) qL7 (qAr n)
 |0=>ok0 fun _=>rfl
 |n+1=>stO (T:=qCL n) (by kernel_rfl) (qHb n) [qJs n] (fun _=>(by kernel_rfl)) fun _=>(by kernel_rfl)
def qL8:Sg:=⟨58,[aS],[],⟨(.tup [(true,[qI,qI,qS]),(false,[qB])]),[],[]⟩⟩
def qBb (n:Nat) (v:BA×Int×Int×Int×BA×Int×Int×BA):Tr ((BA×Int×Int×Int×BA×Int×Int×BA)⊕((Int×Int×BA×Int×Int×BA))):=(.ask ((decide (v.2.1≤(5:Int)))) (.opt (qBX n v.2.1) fun r478=>(.ask ((r478.toList==v.1.toList)) (.done (.inl (v.1,(IntKind.i64.wrap (v.2.1+(1:Int))),v.2.2.1,v.2.2.2.1,v.2.2.2.2.1,v.2.2.2.2.2.1,v.2.1,v.2.2.2.2.2.2.2))) (.done (.inl (v.1,(IntKind.i64.wrap (v.2.1+(1:Int))),v.2.2.1,v.2.2.2.1,v.2.2.2.2.1,v.2.2.2.2.2.1,v.2.2.2.2.2.2.1,v.2.2.2.2.2.2.2))))) (.done (.inr ((v.2.2.1,v.2.2.2.1,v.2.2.2.2.1,v.2.2.2.2.2.1,v.2.2.2.2.2.2.1,v.2.2.2.2.2.2.2)))))
def qBA (n:Nat) (x0:BA):Tr (Int×Int×BA×Bool):=(.ask ((x0.toList==(⟨#[]⟩:BA).toList)) (.done ((0:Int),(0:Int),(⟨#[]⟩:BA),true)) (.ask (decide (0≤(0:Int))) (.opt (x0.toList[((0:Int)).toNat]?) fun c471=>(.ask (((c471.toNat:Int)==(39:Int))) (.ask (decide (0≤(1:Int)∧(1:Int)≤(x0.size:Int)∧(x0.size:Int)≤x0.size)) (.opt (qb n (2:Int) (0:Int) (x0.extract ((1:Int)).toNat ((x0.size:Int)).toNat)) fun r472=>(.ask ((!r472)) (.done ((0:Int),(0:Int),(⟨#[]⟩:BA),false)) (.done ((2:Int),(0:Int),(x0.extract ((1:Int)).toNat ((x0.size:Int)).toNat),true)))) .fail) (.ask ((x0.toList==(⟨#[84,82,85,69]⟩:BA).toList)) (.ask ((x0.toList==(⟨#[84,82,85,69]⟩:BA).toList)) (.opt (qb n (3:Int) (1:Int) (⟨#[]⟩:BA)) fun r473=>(.ask ((!r473)) (.done ((0:Int),(0:Int),(⟨#[]⟩:BA),false)) (.done ((3:Int),(1:Int),(⟨#[]⟩:BA),true)))) (.opt (qb n (3:Int) (0:Int) (⟨#[]⟩:BA)) fun r474=>(.ask ((!r474)) (.done ((0:Int),(0:Int),(⟨#[]⟩:BA),false)) (.done ((3:Int),(0:Int),(⟨#[]⟩:BA),true))))) (.ask ((x0.toList==(⟨#[70,65,76,83,69]⟩:BA).toList)) (.ask ((x0.toList==(⟨#[84,82,85,69]⟩:BA).toList)) (.opt (qb n (3:Int) (1:Int) (⟨#[]⟩:BA)) fun r475=>(.ask ((!r475)) (.done ((0:Int),(0:Int),(⟨#[]⟩:BA),false)) (.done ((3:Int),(1:Int),(⟨#[]⟩:BA),true)))) (.opt (qb n (3:Int) (0:Int) (⟨#[]⟩:BA)) fun r476=>(.ask ((!r476)) (.done ((0:Int),(0:Int),(⟨#[]⟩:BA),false)) (.done ((3:Int),(0:Int),(⟨#[]⟩:BA),true))))) (.ask (decide (0≤(0:Int))) (.opt (x0.toList[((0:Int)).toNat]?) fun c477=>(.ask (((c477.toNat:Int)==(35:Int))) (.opt (zC (qBb n) n (x0,(1:Int),(0:Int),(0:Int),(⟨#[]⟩:BA),(4:Int),(0:Int),(⟨#[]⟩:BA))) fun r479=>(.opt (qb n r479.2.2.2.1 r479.2.2.2.2.1 r479.2.2.2.2.2) fun r480=>(.ask ((!r480)) (.done ((0:Int),(0:Int),(⟨#[]⟩:BA),false)) (.done (r479.2.2.2.1,r479.2.2.2.2.1,r479.2.2.2.2.2,true))))) (.ask (decide (0≤(0:Int))) (.opt (x0.toList[((0:Int)).toNat]?) fun c481=>(.ask (((c481.toNat:Int)==(45:Int))) (.ask (decide (0≤(1:Int)∧(1:Int)≤(x0.size:Int)∧(x0.size:Int)≤x0.size)) (.opt (qx n (x0.extract ((1:Int)).toNat ((x0.size:Int)).toNat) (16:Int)) fun r482=>(.ask ((!r482.2)) (.done ((0:Int),(0:Int),(⟨#[]⟩:BA),false)) (.ask (((c481.toNat:Int)==(45:Int))) (.ask ((r482.1==(0:Int))) (.done ((0:Int),(0:Int),(⟨#[]⟩:BA),false)) (.ask (((c481.toNat:Int)==(45:Int))) (.opt (qb n (1:Int) (IntKind.i64.wrap (0-r482.1)) (⟨#[]⟩:BA)) fun r483=>(.ask ((!r483)) (.done ((0:Int),(0:Int),(⟨#[]⟩:BA),false)) (.done ((1:Int),(IntKind.i64.wrap (0-r482.1)),(⟨#[]⟩:BA),true)))) (.opt (qb n (1:Int) r482.1 (⟨#[]⟩:BA)) fun r484=>(.ask ((!r484)) (.done ((0:Int),(0:Int),(⟨#[]⟩:BA),false)) (.done ((1:Int),r482.1,(⟨#[]⟩:BA),true)))))) (.ask (((c481.toNat:Int)==(45:Int))) (.opt (qb n (1:Int) (IntKind.i64.wrap (0-r482.1)) (⟨#[]⟩:BA)) fun r485=>(.ask ((!r485)) (.done ((0:Int),(0:Int),(⟨#[]⟩:BA),false)) (.done ((1:Int),(IntKind.i64.wrap (0-r482.1)),(⟨#[]⟩:BA),true)))) (.opt (qb n (1:Int) r482.1 (⟨#[]⟩:BA)) fun r486=>(.ask ((!r486)) (.done ((0:Int),(0:Int),(⟨#[]⟩:BA),false)) (.done ((1:Int),r482.1,(⟨#[]⟩:BA),true)))))))) .fail) (.opt (qx n x0 (16:Int)) fun r487=>(.ask ((!r487.2)) (.done ((0:Int),(0:Int),(⟨#[]⟩:BA),false)) (.ask (((c481.toNat:Int)==(45:Int))) (.ask ((r487.1==(0:Int))) (.done ((0:Int),(0:Int),(⟨#[]⟩:BA),false)) (.ask (((c481.toNat:Int)==(45:Int))) (.opt (qb n (1:Int) (IntKind.i64.wrap (0-r487.1)) (⟨#[]⟩:BA)) fun r488=>(.ask ((!r488)) (.done ((0:Int),(0:Int),(⟨#[]⟩:BA),false)) (.done ((1:Int),(IntKind.i64.wrap (0-r487.1)),(⟨#[]⟩:BA),true)))) (.opt (qb n (1:Int) r487.1 (⟨#[]⟩:BA)) fun r489=>(.ask ((!r489)) (.done ((0:Int),(0:Int),(⟨#[]⟩:BA),false)) (.done ((1:Int),r487.1,(⟨#[]⟩:BA),true)))))) (.ask (((c481.toNat:Int)==(45:Int))) (.opt (qb n (1:Int) (IntKind.i64.wrap (0-r487.1)) (⟨#[]⟩:BA)) fun r490=>(.ask ((!r490)) (.done ((0:Int),(0:Int),(⟨#[]⟩:BA),false)) (.done ((1:Int),(IntKind.i64.wrap (0-r487.1)),(⟨#[]⟩:BA),true)))) (.opt (qb n (1:Int) r487.1 (⟨#[]⟩:BA)) fun r491=>(.ask ((!r491)) (.done ((0:Int),(0:Int),(⟨#[]⟩:BA),false)) (.done ((1:Int),r487.1,(⟨#[]⟩:BA),true)))))))))) .fail))) .fail))))) .fail))
def qAI:Nat→BA→Option (Int×Int×BA×Bool)
 |0,_=>none
 |n+1,x0=>(qBA n x0).run
abbrev qHc (n:Nat):List (Ent (Rn n)):= [en (qD7 n),en (qGJ n),en (qHD n)]
def qH6 (n:Nat):LEnt (KB 58) (Rn n) n:=lok (zU 58) 15355 ⟨⟨[(0,aS),(2,(.c (.ptr 0 128 0 0 0))),(4,(.c (.ptr 0 256 0 0 0))),(5,aI)],[(128,⟨0,3,37,(.box [qI,qI,qS])⟩),(256,⟨0,3,37,(.box [qI,qI,qS])⟩)],[]⟩,[(.exit 1,⟨[(2,(.c (.ptr 0 128 0 0 0))),(4,(.c (.ptr 0 256 0 0 0)))],[(128,⟨0,3,37,(.box [qI,qI,qS])⟩),(256,⟨0,3,37,(.box [qI,qI,qS])⟩)],[]⟩)]⟩ (qBb n) (qHc n) [] fun _=>(by kernel_rfl)
theorem qGp:∀n,Ok (Rn n) qL8 (qAI n)
 |0=>ok0 fun _=>rfl
 |n+1=>stO (T:=qBA n) (by kernel_rfl) (qHc n) [qH6 n] (fun _=>(by kernel_rfl)) fun _=>(by kernel_rfl)
def qNk:Sg:=⟨109,[aI],[],⟨aI,[],[]⟩⟩
def qGM (n:Nat) (x0:Int):Tr (Int):=(.ask ((decide (x0≥(6:Int)))) (.done (1:Int)) (.ask ((x0==(5:Int))) (.done (2:Int)) (.ask ((decide (x0≥(3:Int)))) (.done (4:Int)) (.done (3:Int)))))
def qCQ:Nat→Int→Option (Int)
 |0,_=>none
 |n+1,x0=>(qGM n x0).run
theorem qIM:∀n,Ok (Rn n) qNk (qCQ n)
 |0=>ok0 fun _=>rfl
 |n+1=>stO (T:=qGM n) (by kernel_rfl) [] [] (fun _=>(by kernel_rfl)) fun _=>(by kernel_rfl)
def qNl:Sg:=⟨82,[(.c (.ptr 0 0 0 0 0)),aI],[[(0,⟨0,4,50,(.box [qS,qI,qB,(.own 0 1 1 0)])⟩),(1,⟨1,14,64,(.row [])⟩)]],⟨aI,[[(0,⟨0,4,50,(.box [qS,qI,qB,(.own 0 1 1 0)])⟩),(1,⟨1,14,64,(.row [])⟩)]],[]⟩⟩
def qEg (n:Nat) (v:Int×Nat×Int×RW×BA×Int×Bool×Nat×RW):Tr ((Int×Nat×Int×RW×BA×Int×Bool×Nat×RW)⊕((Int×BA×Int×Bool×Nat×RW)⊕(BA×Int×Bool×Nat×RW))):=(.ask ((decide (v.2.2.1<((v.2.1:Nat):Int)))) (.ask (decide (v.2.1=v.2.2.2.1.length∧0≤v.2.2.1∧v.2.2.1<((v.2.1:Nat):Int))) (.opt (v.2.2.2.1[(v.2.2.1).toNat]?) fun e500=>(.opt (zF .i64 e500 0) fun y501=>(.opt (qCQ n y501) fun r502=>(.ask ((r502==v.1)) (.ask (decide (v.2.1=v.2.2.2.1.length∧0≤v.2.2.1∧v.2.2.1<((v.2.1:Nat):Int))) (.opt (v.2.2.2.1[(v.2.2.1).toNat]?) fun e503=>(.opt (zF .i64 e503 0) fun y504=>(.opt (qCG n y504) fun r505=>(.opt (qAH n r505 v.2.2.2.2.1 v.2.2.2.2.2.1 v.2.2.2.2.2.2.1 v.2.2.2.2.2.2.2.1 v.2.2.2.2.2.2.2.2) fun r506=>(.ask (r506.1) (.ask (decide (v.2.1=v.2.2.2.1.length∧0≤v.2.2.1∧v.2.2.1<((v.2.1:Nat):Int))) (.opt (v.2.2.2.1[(v.2.2.1).toNat]?) fun e507=>(.opt (zF .i64 e507 0) fun y508=>(.done (.inr (.inl ((y508,r506.2.1,r506.2.2.1,r506.2.2.2.1,r506.2.2.2.2.1,r506.2.2.2.2.2))))))) .fail) (.done (.inl (v.1,v.2.1,(IntKind.i64.wrap (v.2.2.1+(1:Int))),v.2.2.2.1,r506.2.1,r506.2.2.1,r506.2.2.2.1,r506.2.2.2.2.1,r506.2.2.2.2.2)))))))) .fail) (.done (.inl (v.1,v.2.1,(IntKind.i64.wrap (v.2.2.1+(1:Int))),v.2.2.2.1,v.2.2.2.2.1,v.2.2.2.2.2.1,v.2.2.2.2.2.2.1,v.2.2.2.2.2.2.2.1,v.2.2.2.2.2.2.2.2))))))) .fail) (.done (.inr (.inr ((v.2.2.2.2.1,v.2.2.2.2.2.1,v.2.2.2.2.2.2.1,v.2.2.2.2.2.2.2.1,v.2.2.2.2.2.2.2.2))))))
def qI8 (n:Nat) (x0:Int) (x1:BA) (x2:Int) (x3:Bool) (x4:Nat) (x5:RW):Tr (Int×BA×Int×Bool×Nat×RW):=(.opt (zC (qEg n) n (x0,(11:Nat),(0:Int),([[(.i .i64 (7:Int))],[(.i .i64 (9:Int))],[(.i .i64 (11:Int))],[(.i .i64 (6:Int))],[(.i .i64 (8:Int))],[(.i .i64 (10:Int))],[(.i .i64 (1:Int))],[(.i .i64 (2:Int))],[(.i .i64 (3:Int))],[(.i .i64 (4:Int))],[(.i .i64 (5:Int))]]:RW),x1,x2,x3,x4,x5)) fun r509=>(.alt r509 (fun r510=>(.done (r510.1,r510.2.1,r510.2.2.1,r510.2.2.2.1,r510.2.2.2.2.1,r510.2.2.2.2.2))) (fun r511=>(.done ((0:Int),r511.1,r511.2.1,r511.2.2.1,r511.2.2.2.1,r511.2.2.2.2)))))
def qEh:Nat→Int→BA→Int→Bool→Nat→RW→Option (Int×BA×Int×Bool×Nat×RW)
 |0,_,_,_,_,_,_=>none
 |n+1,x0,x1,x2,x3,x4,x5=>(qI8 n x0 x1 x2 x3 x4 x5).run
abbrev qI9 (n:Nat):List (Ent (Rn n)):= [en (qIM n),en (qFx n),en (qD6 n)]
def qK7 (n:Nat):LEnt (KB 82) (Rn n) n:=lok (zU 82) 29 ⟨⟨[(0,(.c (.ptr 0 0 0 0 0))),(1,aI),(5,(.c (.own 1 448 0 0))),(6,aI)],[(448,⟨0,1,2,(.row [])⟩)],[[(0,⟨0,4,50,(.box [qS,qI,qB,(.own 0 1 1 0)])⟩),(1,⟨1,14,64,(.row [])⟩)]]⟩,[(.ret,⟨[(4,aI)],[],[[(0,⟨0,4,50,(.box [qS,qI,qB,(.own 0 1 1 0)])⟩),(1,⟨1,14,64,(.row [])⟩)]]⟩),(.exit 0,⟨[],[],[[(0,⟨0,4,50,(.box [qS,qI,qB,(.own 0 1 1 0)])⟩),(1,⟨1,14,64,(.row [])⟩)]]⟩)]⟩ (qEg n) (qI9 n) [] fun _=>(by kernel_rfl)
theorem qM5:∀n,Ok (Rn n) qNl (qEh n)
 |0=>ok0 fun _=>rfl
 |n+1=>stO (T:=qI8 n) (by kernel_rfl) (qI9 n) [qK7 n] (fun _=>(by kernel_rfl)) fun _=>(by kernel_rfl)
def qIN:Sg:=⟨33,[(.c (.ptr 0 0 0 0 0)),aI],[[(0,⟨0,4,50,(.box [qS,qI,qB,(.own 0 1 1 0)])⟩),(1,⟨1,14,64,(.row [])⟩)]],⟨aI,[[(0,⟨0,4,50,(.box [qS,qI,qB,(.own 0 1 1 0)])⟩),(1,⟨1,14,64,(.row [])⟩)]],[]⟩⟩
def qM6:Sg:=⟨81,[(.c (.ptr 0 0 0 0 0))],[[(0,⟨0,4,50,(.box [qS,qI,qB,(.own 0 1 1 0)])⟩),(1,⟨1,14,64,(.row [])⟩)]],⟨aI,[[(0,⟨0,4,50,(.box [qS,qI,qB,(.own 0 1 1 0)])⟩),(1,⟨1,14,64,(.row [])⟩)]],[]⟩⟩
def qL9:Sg:=⟨132,[(.c (.ptr 0 0 0 0 0)),aI],[[(0,⟨0,4,50,(.box [qS,qI,qB,(.own 0 1 1 0)])⟩),(1,⟨1,14,64,(.row [])⟩)]],⟨aI,[[(0,⟨0,4,50,(.box [qS,qI,qB,(.own 0 1 1 0)])⟩),(1,⟨1,14,64,(.row [])⟩)]],[]⟩⟩
def qM7:Sg:=⟨159,[(.c (.ptr 0 0 0 0 0))],[[(0,⟨0,4,50,(.box [qS,qI,qB,(.own 0 1 1 0)])⟩),(1,⟨1,14,64,(.row [])⟩)]],⟨aI,[[(0,⟨0,4,50,(.box [qS,qI,qB,(.own 0 1 1 0)])⟩),(1,⟨1,14,64,(.row [])⟩)]],[]⟩⟩
structure G_spec_l3Rd_row where
 spec_l3Rd_row:Int→BA→Int→Bool→Nat→RW→Option (Int×BA×Int×Bool×Nat×RW)
 spec_l3Rd_one:BA→Int→Bool→Nat→RW→Option (Int×BA×Int×Bool×Nat×RW)
 spec_l3Rd_call:Int→BA→Int→Bool→Nat→RW→Option (Int×BA×Int×Bool×Nat×RW)
 spec_l3Rd_arg:BA→Int→Bool→Nat→RW→Option (Int×BA×Int×Bool×Nat×RW)
def qEF (rec:G_spec_l3Rd_row) (n:Nat) (v:Int×Int×BA×Int×Bool×Nat×RW):Tr ((Int×Int×BA×Int×Bool×Nat×RW)⊕((Int×BA×Int×Bool×Nat×RW)⊕(Int×BA×Int×Bool×Nat×RW))):=(.ask ((!v.2.2.2.2.1)) (.opt (qEh n v.1 v.2.2.1 v.2.2.2.1 v.2.2.2.2.1 v.2.2.2.2.2.1 v.2.2.2.2.2.2) fun r500=>(.ask ((r500.1==(0:Int))) (.done (.inr (.inl ((v.2.1,r500.2.1,r500.2.2.1,r500.2.2.2.1,r500.2.2.2.2.1,r500.2.2.2.2.2))))) (.opt (rec.spec_l3Rd_row (IntKind.i64.wrap (v.1+(1:Int))) r500.2.1 r500.2.2.1 r500.2.2.2.1 r500.2.2.2.2.1 r500.2.2.2.2.2) fun r501=>(.ask (decide (2=([[(.i .i64 v.2.1)],[(.i .i64 r501.1)]]:RW).length)) (.opt (qw n (5:Int) r500.1 (0:Int) (0:Int) (⟨#[]⟩:BA) (0:Int) (0:Int) false false (0:Int) (0:Int) false false ([[(.i .i64 v.2.1)],[(.i .i64 r501.1)]]:RW) r501.2.1 r501.2.2.1 r501.2.2.2.1 r501.2.2.2.2.1 r501.2.2.2.2.2) fun r502=>(.done (.inl (v.1,r502.1,r502.2.1,r502.2.2.1,r502.2.2.2.1,r502.2.2.2.2.1,r502.2.2.2.2.2)))) .fail)))) (.done (.inr (.inr ((v.2.1,v.2.2.1,v.2.2.2.1,v.2.2.2.2.1,v.2.2.2.2.2.1,v.2.2.2.2.2.2))))))
def qIO (rec:G_spec_l3Rd_row) (n:Nat) (x0:Int) (x1:BA) (x2:Int) (x3:Bool) (x4:Nat) (x5:RW):Tr (Int×BA×Int×Bool×Nat×RW):=(.ask (x3) (.done ((0:Int),x1,x2,x3,x4,x5)) (.ask ((x0==(5:Int))) (.opt (rec.spec_l3Rd_one x1 x2 x3 x4 x5) fun r498=>(.done (r498.1,r498.2.1,r498.2.2.1,r498.2.2.2.1,r498.2.2.2.2.1,r498.2.2.2.2.2))) (.opt (rec.spec_l3Rd_row (IntKind.i64.wrap (x0+(1:Int))) x1 x2 x3 x4 x5) fun r499=>(.opt (zC (qEF rec n) n (x0,r499.1,r499.2.1,r499.2.2.1,r499.2.2.2.1,r499.2.2.2.2.1,r499.2.2.2.2.2)) fun r503=>(.alt r503 (fun r504=>(.done (r504.1,r504.2.1,r504.2.2.1,r504.2.2.2.1,r504.2.2.2.2.1,r504.2.2.2.2.2))) (fun r505=>(.done (r505.1,r505.2.1,r505.2.2.1,r505.2.2.2.1,r505.2.2.2.2.1,r505.2.2.2.2.2))))))))
def qCj (n:Nat) (v:Int×BA×Int×Bool×Nat×RW):Tr ((Int×BA×Int×Bool×Nat×RW)⊕((Int×BA×Int×Bool×Nat×RW)⊕(BA×Int×Bool×Nat×RW))):=(.ask ((decide (v.1≤(5:Int)))) (.opt (qBX n v.1) fun r447=>(.ask (decide (0≤(1:Int)∧(1:Int)≤(r447.size:Int)∧(r447.size:Int)≤r447.size)) (.ask ((decide ((IntKind.i64.wrap (v.2.2.1+((r447.extract ((1:Int)).toNat ((r447.size:Int)).toNat).size:Int)))≤(v.2.1.size:Int)))) (.ask (decide (0≤v.2.2.1∧v.2.2.1≤(IntKind.i64.wrap (v.2.2.1+((r447.extract ((1:Int)).toNat ((r447.size:Int)).toNat).size:Int)))∧(IntKind.i64.wrap (v.2.2.1+((r447.extract ((1:Int)).toNat ((r447.size:Int)).toNat).size:Int)))≤v.2.1.size)) (.ask (((v.2.1.extract (v.2.2.1).toNat ((IntKind.i64.wrap (v.2.2.1+((r447.extract ((1:Int)).toNat ((r447.size:Int)).toNat).size:Int)))).toNat).toList==(r447.extract ((1:Int)).toNat ((r447.size:Int)).toNat).toList)) (.opt (qC2 n v.1) fun r448=>(.opt (qw n (1:Int) (0:Int) r448.1 r448.2.1 r448.2.2 (0:Int) (0:Int) false false (0:Int) (0:Int) false false ([]:RW) v.2.1 (IntKind.i64.wrap (v.2.2.1+((r447.extract ((1:Int)).toNat ((r447.size:Int)).toNat).size:Int))) v.2.2.2.1 v.2.2.2.2.1 v.2.2.2.2.2) fun r449=>(.done (.inr (.inl ((r449.1,r449.2.1,r449.2.2.1,r449.2.2.2.1,r449.2.2.2.2.1,r449.2.2.2.2.2))))))) (.done (.inl ((IntKind.i64.wrap (v.1+(1:Int))),v.2.1,v.2.2.1,v.2.2.2.1,v.2.2.2.2.1,v.2.2.2.2.2)))) .fail) (.done (.inl ((IntKind.i64.wrap (v.1+(1:Int))),v.2.1,v.2.2.1,v.2.2.2.1,v.2.2.2.2.1,v.2.2.2.2.2)))) .fail)) (.done (.inr (.inr ((v.2.1,v.2.2.1,v.2.2.2.1,v.2.2.2.2.1,v.2.2.2.2.2))))))
def qDD (rec:G_spec_l3Rd_row) (n:Nat) (v:BA×Int×BA×Int×Bool×Nat×RW):Tr ((BA×Int×BA×Int×Bool×Nat×RW)⊕((Int×BA×Int×Bool×Nat×RW)⊕(BA×BA×Int×Bool×Nat×RW))):=(.ask ((decide (v.2.1≤(10:Int)))) (.opt (qCh n v.2.1) fun r465=>(.ask ((r465.toList==v.1.toList)) (.opt (qAH n (⟨#[40]⟩:BA) v.2.2.1 v.2.2.2.1 v.2.2.2.2.1 v.2.2.2.2.2.1 v.2.2.2.2.2.2) fun r466=>(.ask (r466.1) (.opt (rec.spec_l3Rd_call v.2.1 r466.2.1 r466.2.2.1 r466.2.2.2.1 r466.2.2.2.2.1 r466.2.2.2.2.2) fun r467=>(.done (.inr (.inl ((r467.1,r467.2.1,r467.2.2.1,r467.2.2.2.1,r467.2.2.2.2.1,r467.2.2.2.2.2)))))) (.done (.inl (v.1,(IntKind.i64.wrap (v.2.1+(1:Int))),r466.2.1,r466.2.2.1,r466.2.2.2.1,r466.2.2.2.2.1,r466.2.2.2.2.2))))) (.done (.inl (v.1,(IntKind.i64.wrap (v.2.1+(1:Int))),v.2.2.1,v.2.2.2.1,v.2.2.2.2.1,v.2.2.2.2.2.1,v.2.2.2.2.2.2))))) (.done (.inr (.inr ((v.1,v.2.2.1,v.2.2.2.1,v.2.2.2.2.1,v.2.2.2.2.2.1,v.2.2.2.2.2.2))))))
def qIP (rec:G_spec_l3Rd_row) (n:Nat) (x0:BA) (x1:Int) (x2:Bool) (x3:Nat) (x4:RW):Tr (Int×BA×Int×Bool×Nat×RW):=(.opt (qAH n (⟨#[45]⟩:BA) x0 x1 x2 x3 x4) fun r419=>(.ask (r419.1) (.opt (rec.spec_l3Rd_row (5:Int) r419.2.1 r419.2.2.1 r419.2.2.2.1 r419.2.2.2.2.1 r419.2.2.2.2.2) fun r420=>(.ask (decide (1=([[(.i .i64 r420.1)]]:RW).length)) (.opt (qw n (4:Int) (0:Int) (0:Int) (0:Int) (⟨#[]⟩:BA) (0:Int) (0:Int) false false (0:Int) (0:Int) false false ([[(.i .i64 r420.1)]]:RW) r420.2.1 r420.2.2.1 r420.2.2.2.1 r420.2.2.2.2.1 r420.2.2.2.2.2) fun r433=>(.done (r433.1,r433.2.1,r433.2.2.1,r433.2.2.2.1,r433.2.2.2.2.1,r433.2.2.2.2.2))) .fail)) (.opt (qAH n (⟨#[40]⟩:BA) r419.2.1 r419.2.2.1 r419.2.2.2.1 r419.2.2.2.2.1 r419.2.2.2.2.2) fun r434=>(.ask (r434.1) (.opt (rec.spec_l3Rd_row (1:Int) r434.2.1 r434.2.2.1 r434.2.2.2.1 r434.2.2.2.2.1 r434.2.2.2.2.2) fun r435=>(.opt (qAH n (⟨#[41]⟩:BA) r435.2.1 r435.2.2.1 r435.2.2.2.1 r435.2.2.2.2.1 r435.2.2.2.2.2) fun r436=>(.ask ((!r436.1)) (.done (r435.1,r436.2.1,r436.2.2.1,true,r436.2.2.2.2.1,r436.2.2.2.2.2)) (.done (r435.1,r436.2.1,r436.2.2.1,r436.2.2.2.1,r436.2.2.2.2.1,r436.2.2.2.2.2))))) (.opt (qAH n (⟨#[34]⟩:BA) r434.2.1 r434.2.2.1 r434.2.2.2.1 r434.2.2.2.2.1 r434.2.2.2.2.2) fun r437=>(.ask (r437.1) (.opt (qE2 n r437.2.1 r437.2.2.1 r437.2.2.2.1 r437.2.2.2.2.1 r437.2.2.2.2.2) fun r445=>(.done (r445.1,r445.2.1,r445.2.2.1,r445.2.2.2.1,r445.2.2.2.2.1,r445.2.2.2.2.2))) (.opt (qAH n (⟨#[35]⟩:BA) r437.2.1 r437.2.2.1 r437.2.2.2.1 r437.2.2.2.2.1 r437.2.2.2.2.2) fun r446=>(.ask (r446.1) (.opt (zC (qCj n) n ((1:Int),r446.2.1,r446.2.2.1,r446.2.2.2.1,r446.2.2.2.2.1,r446.2.2.2.2.2)) fun r450=>(.alt r450 (fun r451=>(.done (r451.1,r451.2.1,r451.2.2.1,r451.2.2.2.1,r451.2.2.2.2.1,r451.2.2.2.2.2))) (fun r452=>(.done ((0:Int),r452.1,r452.2.1,true,r452.2.2.2.1,r452.2.2.2.2))))) (.opt (qC3 n r446.2.1 r446.2.2.1 r446.2.2.2.1 r446.2.2.2.2.1 r446.2.2.2.2.2) fun r464=>(.opt (zC (qDD rec n) n (r464.1,(1:Int),r464.2.1,r464.2.2.1,r464.2.2.2.1,r464.2.2.2.2.1,r464.2.2.2.2.2)) fun r468=>(.alt r468 (fun r469=>(.done (r469.1,r469.2.1,r469.2.2.1,r469.2.2.2.1,r469.2.2.2.2.1,r469.2.2.2.2.2))) (fun r470=>(.opt (qAI n r470.1) fun r492=>(.ask (r492.2.2.2) (.ask ((!(r470.1.toList==(⟨#[]⟩:BA).toList))) (.opt (qw n (1:Int) (0:Int) r492.1 r492.2.1 r492.2.2.1 (0:Int) (0:Int) false false (0:Int) (0:Int) false false ([]:RW) r470.2.1 r470.2.2.1 r470.2.2.2.1 r470.2.2.2.2.1 r470.2.2.2.2.2) fun r493=>(.done (r493.1,r493.2.1,r493.2.2.1,r493.2.2.2.1,r493.2.2.2.2.1,r493.2.2.2.2.2))) (.opt (qAr n r470.1) fun r494=>(.ask ((!r494.2.2.2.2)) (.done ((0:Int),r470.2.1,r470.2.2.1,true,r470.2.2.2.2.1,r470.2.2.2.2.2)) (.opt (qw n (2:Int) (0:Int) (0:Int) (0:Int) (⟨#[]⟩:BA) r494.1 r494.2.1 r494.2.2.1 r494.2.2.2.1 (0:Int) (0:Int) false false ([]:RW) r470.2.1 r470.2.2.1 r470.2.2.2.1 r470.2.2.2.2.1 r470.2.2.2.2.2) fun r495=>(.done (r495.1,r495.2.1,r495.2.2.1,r495.2.2.2.1,r495.2.2.2.2.1,r495.2.2.2.2.2)))))) (.opt (qAr n r470.1) fun r496=>(.ask ((!r496.2.2.2.2)) (.done ((0:Int),r470.2.1,r470.2.2.1,true,r470.2.2.2.2.1,r470.2.2.2.2.2)) (.opt (qw n (2:Int) (0:Int) (0:Int) (0:Int) (⟨#[]⟩:BA) r496.1 r496.2.1 r496.2.2.1 r496.2.2.2.1 (0:Int) (0:Int) false false ([]:RW) r470.2.1 r470.2.2.1 r470.2.2.2.1 r470.2.2.2.2.1 r470.2.2.2.2.2) fun r497=>(.done (r497.1,r497.2.1,r497.2.2.1,r497.2.2.2.1,r497.2.2.2.2.1,r497.2.2.2.2.2)))))))))))))))))))
def qDw (rec:G_spec_l3Rd_row) (n:Nat) (v:Int×Nat×RW×BA×Int×Bool×Nat×RW):Tr ((Int×Nat×RW×BA×Int×Bool×Nat×RW)⊕((Int×BA×Int×Bool×Nat×RW)⊕(BA×Int×Bool×Nat×RW))):=(.ask ((!v.2.2.2.2.2.1)) (.opt (rec.spec_l3Rd_arg v.2.2.2.1 v.2.2.2.2.1 v.2.2.2.2.2.1 v.2.2.2.2.2.2.1 v.2.2.2.2.2.2.2) fun r469=>(.ask (decide (1=([[(.i .i64 r469.1)]]:RW).length)) (.ask (decide (v.2.1=v.2.2.1.length∧0<1∧0<8∧(v.2.1+([[(.i .i64 r469.1)]]:RW).length)*8≤140737488355328∧([[(.i .i64 r469.1)]]:RW).all (fun e=>e.length==1)=true)) (.opt (qAH n (⟨#[41]⟩:BA) r469.2.1 r469.2.2.1 r469.2.2.2.1 r469.2.2.2.2.1 r469.2.2.2.2.2) fun r470=>(.ask (r470.1) (.ask (decide ((v.2.1+1)=(v.2.2.1++([[(.i .i64 r469.1)]]:RW)).length)) (.opt (qw n (6:Int) v.1 (0:Int) (0:Int) (⟨#[]⟩:BA) (0:Int) (0:Int) false false (0:Int) (0:Int) false false (v.2.2.1++([[(.i .i64 r469.1)]]:RW)) r470.2.1 r470.2.2.1 r470.2.2.2.1 r470.2.2.2.2.1 r470.2.2.2.2.2) fun r471=>(.done (.inr (.inl ((r471.1,r471.2.1,r471.2.2.1,r471.2.2.2.1,r471.2.2.2.2.1,r471.2.2.2.2.2)))))) .fail) (.opt (qAH n (⟨#[44]⟩:BA) r470.2.1 r470.2.2.1 r470.2.2.2.1 r470.2.2.2.2.1 r470.2.2.2.2.2) fun r472=>(.ask ((!r472.1)) (.done (.inl (v.1,(v.2.1+1),(v.2.2.1++([[(.i .i64 r469.1)]]:RW)),r472.2.1,r472.2.2.1,true,r472.2.2.2.2.1,r472.2.2.2.2.2))) (.done (.inl (v.1,(v.2.1+1),(v.2.2.1++([[(.i .i64 r469.1)]]:RW)),r472.2.1,r472.2.2.1,r472.2.2.2.1,r472.2.2.2.2.1,r472.2.2.2.2.2))))))) .fail) .fail)) (.done (.inr (.inr ((v.2.2.2.1,v.2.2.2.2.1,v.2.2.2.2.2.1,v.2.2.2.2.2.2.1,v.2.2.2.2.2.2.2))))))
def qHd (rec:G_spec_l3Rd_row) (n:Nat) (x0:Int) (x1:BA) (x2:Int) (x3:Bool) (x4:Nat) (x5:RW):Tr (Int×BA×Int×Bool×Nat×RW):=(.opt (zC (qDw rec n) n (x0,(0:Nat),([]:RW),x1,x2,x3,x4,x5)) fun r473=>(.alt r473 (fun r474=>(.done (r474.1,r474.2.1,r474.2.2.1,r474.2.2.2.1,r474.2.2.2.2.1,r474.2.2.2.2.2))) (fun r475=>(.done ((0:Int),r475.1,r475.2.1,r475.2.2.1,r475.2.2.2.1,r475.2.2.2.2)))))
def qIQ (rec:G_spec_l3Rd_row) (n:Nat) (x0:BA) (x1:Int) (x2:Bool) (x3:Nat) (x4:RW):Tr (Int×BA×Int×Bool×Nat×RW):=(.opt (qBp n x0 x1 x2 x3 x4) fun r469=>(.opt (qC3 n r469.1 r469.2.1 r469.2.2.1 r469.2.2.2.1 r469.2.2.2.2) fun r470=>(.opt (qAr n r470.1) fun r515=>(.ask (r515.2.2.2.2) (.opt (qAH n (⟨#[58]⟩:BA) r470.2.1 r470.2.2.1 r470.2.2.2.1 r470.2.2.2.2.1 r470.2.2.2.2.2) fun r516=>(.ask (r516.1) (.opt (qBp n r516.2.1 r516.2.2.1 r516.2.2.2.1 r516.2.2.2.2.1 r516.2.2.2.2.2) fun r517=>(.opt (qC3 n r517.1 r517.2.1 r517.2.2.1 r517.2.2.2.1 r517.2.2.2.2) fun r518=>(.opt (qAr n r518.1) fun r519=>(.ask ((!r519.2.2.2.2)) (.done ((0:Int),r518.2.1,r518.2.2.1,true,r518.2.2.2.2.1,r518.2.2.2.2.2)) (.opt (qw n (3:Int) (0:Int) (0:Int) (0:Int) (⟨#[]⟩:BA) r515.1 r515.2.1 r515.2.2.1 r515.2.2.2.1 r519.1 r519.2.1 r519.2.2.1 r519.2.2.2.1 ([]:RW) r518.2.1 r518.2.2.1 r518.2.2.2.1 r518.2.2.2.2.1 r518.2.2.2.2.2) fun r520=>(.done (r520.1,r520.2.1,r520.2.2.1,r520.2.2.2.1,r520.2.2.2.2.1,r520.2.2.2.2.2))))))) (.opt (rec.spec_l3Rd_row (1:Int) r516.2.1 r469.2.1 r516.2.2.2.1 r516.2.2.2.2.1 r516.2.2.2.2.2) fun r521=>(.done (r521.1,r521.2.1,r521.2.2.1,r521.2.2.2.1,r521.2.2.2.2.1,r521.2.2.2.2.2))))) (.opt (rec.spec_l3Rd_row (1:Int) r470.2.1 r469.2.1 r470.2.2.2.1 r470.2.2.2.2.1 r470.2.2.2.2.2) fun r522=>(.done (r522.1,r522.2.1,r522.2.2.1,r522.2.2.2.1,r522.2.2.2.2.1,r522.2.2.2.2.2)))))))
def qi:Nat→G_spec_l3Rd_row
 |0=>⟨fun _ _ _ _ _ _=>none,fun _ _ _ _ _=>none,fun _ _ _ _ _ _=>none,fun _ _ _ _ _=>none⟩
 |n+1=>⟨fun x0 x1 x2 x3 x4 x5=>(qIO (qi n) n x0 x1 x2 x3 x4 x5).run,fun x0 x1 x2 x3 x4=>(qIP (qi n) n x0 x1 x2 x3 x4).run,fun x0 x1 x2 x3 x4 x5=>(qHd (qi n) n x0 x1 x2 x3 x4 x5).run,fun x0 x1 x2 x3 x4=>(qIQ (qi n) n x0 x1 x2 x3 x4).run⟩
def qD8 (n:Nat) (x0:Int) (x1:BA) (x2:Int) (x3:Bool) (x4:Nat) (x5:RW):Option (Int×BA×Int×Bool×Nat×RW):=(qi n).spec_l3Rd_row x0 x1 x2 x3 x4 x5
def qIR (n:Nat) (x0:BA) (x1:Int) (x2:Bool) (x3:Nat) (x4:RW):Option (Int×BA×Int×Bool×Nat×RW):=(qi n).spec_l3Rd_one x0 x1 x2 x3 x4
def qHe (n:Nat) (x0:Int) (x1:BA) (x2:Int) (x3:Bool) (x4:Nat) (x5:RW):Option (Int×BA×Int×Bool×Nat×RW):=(qi n).spec_l3Rd_call x0 x1 x2 x3 x4 x5
def qIS (n:Nat) (x0:BA) (x1:Int) (x2:Bool) (x3:Nat) (x4:RW):Option (Int×BA×Int×Bool×Nat×RW):=(qi n).spec_l3Rd_arg x0 x1 x2 x3 x4
def qBB (n:Nat):Prop:=
 Ok (Rn n) qIN (qD8 n)∧
 Ok (Rn n) qM6 (qIR n)∧
 Ok (Rn n) qL9 (qHe n)∧
 Ok (Rn n) qM7 (qIS n)
abbrev qIT (n:Nat) (ih:qBB n):List (Ent (Rn n)):= [en ih.2.1,en ih.1,en (qM5 n),en (qC1 n)]
def qKZ (n:Nat) (ih:qBB n):LEnt (KB 33) (Rn n) n:=lok (zU 33) 62 ⟨⟨[(0,(.c (.ptr 0 0 0 0 0))),(1,aI),(5,aI)],[],[[(0,⟨0,4,50,(.box [qS,qI,qB,(.own 0 1 1 0)])⟩),(1,⟨1,14,64,(.row [])⟩)]]⟩,[(.ret,⟨[(4,aI)],[],[[(0,⟨0,4,50,(.box [qS,qI,qB,(.own 0 1 1 0)])⟩),(1,⟨1,14,64,(.row [])⟩)]]⟩),(.exit 0,⟨[(5,aI)],[],[[(0,⟨0,4,50,(.box [qS,qI,qB,(.own 0 1 1 0)])⟩),(1,⟨1,14,64,(.row [])⟩)]]⟩)]⟩ (qEF (qi n) n) (qIT n ih) [] fun _=>(by kernel_rfl)
abbrev qFa (n:Nat) (ih:qBB n):List (Ent (Rn n)):= [en (qD6 n),en ih.1,en (qC1 n),en (qK4 n),en (qGJ n),en (qM2 n),en (qGn n),en (qK5 n),en ih.2.2.1,en (qGp n),en (qGo n)]
def qJA (n:Nat) (ih:qBB n):LEnt (KB 81) (Rn n) n:=lok (zU 81) 7161 ⟨⟨[(0,(.c (.ptr 0 0 0 0 0))),(5,aI)],[],[[(0,⟨0,4,50,(.box [qS,qI,qB,(.own 0 1 1 0)])⟩),(1,⟨1,14,64,(.row [])⟩)]]⟩,[(.ret,⟨[(2,aI)],[],[[(0,⟨0,4,50,(.box [qS,qI,qB,(.own 0 1 1 0)])⟩),(1,⟨1,14,64,(.row [])⟩)]]⟩),(.exit 1,⟨[(0,(.c (.ptr 0 0 0 0 0)))],[],[[(0,⟨0,4,50,(.box [qS,qI,qB,(.own 0 1 1 0)])⟩),(1,⟨1,14,64,(.row [])⟩)]]⟩)]⟩ (qCj n) (qFa n ih) [] fun _=>(by kernel_rfl)
def qKa (n:Nat) (ih:qBB n):LEnt (KB 81) (Rn n) n:=lok (zU 81) 61 ⟨⟨[(0,(.c (.ptr 0 0 0 0 0))),(7,aS),(8,aI)],[],[[(0,⟨0,4,50,(.box [qS,qI,qB,(.own 0 1 1 0)])⟩),(1,⟨1,14,64,(.row [])⟩)]]⟩,[(.ret,⟨[(2,aI)],[],[[(0,⟨0,4,50,(.box [qS,qI,qB,(.own 0 1 1 0)])⟩),(1,⟨1,14,64,(.row [])⟩)]]⟩),(.exit 3,⟨[(0,(.c (.ptr 0 0 0 0 0))),(7,aS)],[],[[(0,⟨0,4,50,(.box [qS,qI,qB,(.own 0 1 1 0)])⟩),(1,⟨1,14,64,(.row [])⟩)]]⟩)]⟩ (qDD (qi n) n) (qFa n ih) [] fun _=>(by kernel_rfl)
abbrev qHf (n:Nat) (ih:qBB n):List (Ent (Rn n)):= [en ih.2.2.2,en (qD6 n),en (qC1 n)]
def qJt (n:Nat) (ih:qBB n):LEnt (KB 132) (Rn n) n:=lok (zU 132) 14 ⟨⟨[(0,(.c (.ptr 0 0 0 0 0))),(1,aI),(5,(.c (.own 1 384 0 0)))],[(384,⟨0,1,2,(.row [])⟩)],[[(0,⟨0,4,50,(.box [qS,qI,qB,(.own 0 1 1 0)])⟩),(1,⟨1,14,64,(.row [])⟩)]]⟩,[(.ret,⟨[(4,aI)],[],[[(0,⟨0,4,50,(.box [qS,qI,qB,(.own 0 1 1 0)])⟩),(1,⟨1,14,64,(.row [])⟩)]]⟩),(.exit 0,⟨[],[],[[(0,⟨0,4,50,(.box [qS,qI,qB,(.own 0 1 1 0)])⟩),(1,⟨1,14,64,(.row [])⟩)]]⟩)]⟩ (qDw (qi n) n) (qHf n ih) [] fun _=>(by kernel_rfl)
abbrev qM8 (n:Nat) (ih:qBB n):List (Ent (Rn n)):= [en (qDu n),en (qGn n),en (qGo n),en (qD6 n),en (qC1 n),en ih.1]
theorem qBC:∀n,qBB n
 |0=>⟨ok0 fun _=>rfl,ok0 fun _=>rfl,ok0 fun _=>rfl,ok0 fun _=>rfl⟩
 |n+1=>⟨stO (T:=qIO (qi n) n) (by kernel_rfl) (qIT n (qBC n)) [qKZ n (qBC n)] (fun _=>(by kernel_rfl)) fun _=>(by kernel_rfl),stO (T:=qIP (qi n) n) (by kernel_rfl) (qFa n (qBC n)) [qJA n (qBC n),qKa n (qBC n)] (fun _=>(by kernel_rfl)) fun _=>(by kernel_rfl),stO (T:=qHd (qi n) n) (by kernel_rfl) (qHf n (qBC n)) [qJt n (qBC n)] (fun _=>(by kernel_rfl)) fun _=>(by kernel_rfl),stO (T:=qIQ (qi n) n) (by kernel_rfl) (qM8 n (qBC n)) [] (fun _=>(by kernel_rfl)) fun _=>(by kernel_rfl)⟩
theorem qMA (n:Nat):Ok (Rn n) qIN (qD8 n):=(qBC n).1
def qHE:Sg:=⟨54,[aL,aI],[],⟨aI,[],[]⟩⟩
def qBD (rec:RW→Int→Option (Int)) (n:Nat) (v:RW×Int×Int×Int):Tr ((RW×Int×Int×Int)⊕((Int)⊕(Int))):=(.ask ((decide (v.2.2.2≥(0:Int)))) (.ask ((decide (v.2.2.1<(0:Int)))) (.done (.inr (.inl ((-1:Int))))) (.ask (decide (0≤v.2.1∧v.2.1<v.1.length)) (.opt (v.1[(v.2.1).toNat]?) fun e543=>(.ask (decide (e543.length=14)) (.opt (zAd e543 13) fun y544=>(.ask (decide (0≤v.2.2.2∧v.2.2.2<y544.length)) (.opt (y544[(v.2.2.2).toNat]?) fun e545=>(.ask (decide (e545.length=1)) (.opt (zF .i64 e545 0) fun y546=>(.ask ((y546 !=v.2.2.1)) (.done (.inr (.inl ((-1:Int))))) (.opt (rec v.1 v.2.2.1) fun r547=>(.ask ((decide (r547<(0:Int)))) (.done (.inr (.inl ((-1:Int))))) (.done (.inl (v.1,v.2.1,(IntKind.i64.wrap (r547-(1:Int))),(IntKind.i64.wrap (v.2.2.2-(1:Int)))))))))) .fail)) .fail)) .fail)) .fail)) (.done (.inr (.inr (v.2.2.1)))))
def qHF (rec:RW→Int→Option (Int)) (n:Nat) (x0:RW) (x1:Int):Tr (Int):=(.ask (decide (0≤x1∧x1<x0.length)) (.opt (x0[(x1).toNat]?) fun e541=>(.ask (decide (e541.length=14)) (.opt (zAd e541 13) fun y542=>(.opt (zC (qBD rec n) n (x0,x1,(IntKind.i64.wrap (x1-(1:Int))),(IntKind.i64.wrap ((y542.length:Int)-(1:Int))))) fun r548=>(.alt r548 (fun r549=>(.done r549)) (fun r550=>(.done (IntKind.i64.wrap (r550+(1:Int)))))))) .fail)) .fail)
def qAs:Nat→RW→Int→Option (Int)
 |0,_,_=>none
 |n+1,x0,x1=>(qHF (qAs n) n x0 x1).run
abbrev qJ4 (n:Nat) (ih:Ok (Rn n) qHE (qAs n)):List (Ent (Rn n)):= [en ih]
def qMB (n:Nat) (ih:Ok (Rn n) qHE (qAs n)):LEnt (KB 54) (Rn n) n:=lok (zU 54) 29 ⟨⟨[(0,aL),(1,aI),(5,aI),(6,aI)],[],[]⟩,[(.ret,⟨[(4,aI)],[],[]⟩),(.exit 0,⟨[(5,aI)],[],[]⟩)]⟩ (qBD (qAs n) n) (qJ4 n ih) [] fun _=>(by kernel_rfl)
theorem qGN:∀n,Ok (Rn n) qHE (qAs n)
 |0=>ok0 fun _=>rfl
 |n+1=>stO (T:=qHF (qAs n) n) (by kernel_rfl) (qJ4 n (qGN n)) [qMB n (qGN n)] (fun _=>(by kernel_rfl)) fun _=>(by kernel_rfl)
def qHG:Sg:=⟨55,[aL,aI],[],⟨aI,[],[]⟩⟩
def qC4 (rec:RW→Int→Option (Int)) (n:Nat) (v:RW×Int×Int×Int):Tr ((RW×Int×Int×Int)⊕((Int))):=(.ask (decide (0≤v.2.1∧v.2.1<v.1.length)) (.opt (v.1[(v.2.1).toNat]?) fun e554=>(.ask (decide (e554.length=14)) (.opt (zAd e554 13) fun y555=>(.ask ((decide (v.2.2.2<(y555.length:Int)))) (.ask (decide (0≤v.2.1∧v.2.1<v.1.length)) (.opt (v.1[(v.2.1).toNat]?) fun e556=>(.ask (decide (e556.length=14)) (.opt (zAd e556 13) fun y557=>(.ask (decide (0≤v.2.2.2∧v.2.2.2<y557.length)) (.opt (y557[(v.2.2.2).toNat]?) fun e558=>(.ask (decide (e558.length=1)) (.opt (zF .i64 e558 0) fun y559=>(.opt (rec v.1 y559) fun r560=>(.done (.inl (v.1,v.2.1,(if r560>v.2.2.1 then r560 else v.2.2.1),(IntKind.i64.wrap (v.2.2.2+(1:Int)))))))) .fail)) .fail)) .fail)) .fail) (.done (.inr (v.2.2.1))))) .fail)) .fail)
def qHH (rec:RW→Int→Option (Int)) (n:Nat) (x0:RW) (x1:Int):Tr (Int):=(.opt (zC (qC4 rec n) n (x0,x1,(0:Int),(0:Int))) fun r561=>(.done (IntKind.i64.wrap (r561+(1:Int)))))
def qAt:Nat→RW→Int→Option (Int)
 |0,_,_=>none
 |n+1,x0,x1=>(qHH (qAt n) n x0 x1).run
abbrev qJ5 (n:Nat) (ih:Ok (Rn n) qHG (qAt n)):List (Ent (Rn n)):= [en ih]
def qMC (n:Nat) (ih:Ok (Rn n) qHG (qAt n)):LEnt (KB 55) (Rn n) n:=lok (zU 55) 29 ⟨⟨[(0,aL),(1,aI),(5,aI),(6,aI)],[],[]⟩,[(.exit 0,⟨[(5,aI)],[],[]⟩)]⟩ (qC4 (qAt n) n) (qJ5 n ih) [] fun _=>(by kernel_rfl)
theorem qGO:∀n,Ok (Rn n) qHG (qAt n)
 |0=>ok0 fun _=>rfl
 |n+1=>stO (T:=qHH (qAt n) n) (by kernel_rfl) (qJ5 n (qGO n)) [qMC n (qGO n)] (fun _=>(by kernel_rfl)) fun _=>(by kernel_rfl)
def qMD:Sg:=⟨21,[aL],[],⟨aB,[],[]⟩⟩
def qAn (n:Nat) (v:RW×Int×Int):Tr ((RW×Int×Int)⊕((Bool)⊕(RW×Int))):=(.ask (decide (0≤v.2.1∧v.2.1<v.1.length)) (.opt (v.1[(v.2.1).toNat]?) fun e524=>(.ask (decide (e524.length=14)) (.opt (zAd e524 13) fun y525=>(.ask ((decide (v.2.2<(y525.length:Int)))) (.ask (decide (0≤v.2.1∧v.2.1<v.1.length)) (.opt (v.1[(v.2.1).toNat]?) fun e526=>(.ask (decide (e526.length=14)) (.opt (zAd e526 13) fun y527=>(.ask (decide (0≤v.2.2∧v.2.2<y527.length)) (.opt (y527[(v.2.2).toNat]?) fun e528=>(.ask (decide (e528.length=1)) (.opt (zF .i64 e528 0) fun y529=>(.opt (qBQ n y529 (0:Int) (IntKind.i64.wrap (v.2.1-(1:Int)))) fun r530=>(.ask ((!r530)) (.done (.inr (.inl (false)))) (.ask (decide (0≤y529∧y529<v.1.length)) (.opt (v.1[(y529).toNat]?) fun e531=>(.ask (decide (e531.length=14)) (.opt (zF .i64 e531 0) fun y532=>(.ask ((y532==(3:Int))) (.ask (decide (0≤v.2.1∧v.2.1<v.1.length)) (.opt (v.1[(v.2.1).toNat]?) fun e533=>(.ask (decide (e533.length=14)) (.opt (zF .i64 e533 0) fun y534=>(.ask ((y534 !=(6:Int))) (.done (.inr (.inl (false)))) (.done (.inl (v.1,v.2.1,(IntKind.i64.wrap (v.2.2+(1:Int)))))))) .fail)) .fail) (.done (.inl (v.1,v.2.1,(IntKind.i64.wrap (v.2.2+(1:Int)))))))) .fail)) .fail)))) .fail)) .fail)) .fail)) .fail) (.done (.inr (.inr ((v.1,v.2.1))))))) .fail)) .fail)
def qBG (n:Nat) (v:RW×Int):Tr ((RW×Int)⊕((Bool)⊕(RW))):=(.ask ((decide (v.2<(v.1.length:Int)))) (.ask (decide (0≤v.2∧v.2<v.1.length)) (.opt (v.1[(v.2).toNat]?) fun e508=>(.ask (decide (e508.length=14)) (.opt (zF .i64 e508 0) fun y509=>(.opt (zF .i64 e508 1) fun y510=>(.opt (zF .i64 e508 2) fun y511=>(.opt (zF .i64 e508 3) fun y512=>(.opt (zp e508 4) fun y513=>(.opt (zF .i64 e508 5) fun y514=>(.opt (zF .i64 e508 6) fun y515=>(.opt (zAC e508 7) fun y516=>(.opt (zAC e508 8) fun y517=>(.opt (zF .i64 e508 9) fun y518=>(.opt (zF .i64 e508 10) fun y519=>(.opt (zAC e508 11) fun y520=>(.opt (zAC e508 12) fun y521=>(.opt (zAd e508 13) fun y522=>(.opt (qB7 n y509 y510 y511 y512 y513 y514 y515 y516 y517 y518 y519 y520 y521 y522) fun r523=>(.ask ((!r523)) (.done (.inr (.inl (false)))) (.opt (zC (qAn n) n (v.1,v.2,(0:Int))) fun r535=>(.alt r535 (fun r536=>(.done (.inr (.inl (r536))))) (fun r537=>(.done (.inl (r537.1,(IntKind.i64.wrap (r537.2+(1:Int))))))))))))))))))))))))) .fail)) .fail) (.done (.inr (.inr (v.1)))))
def qC5 (n:Nat) (x0:RW):Tr (Bool):=(.ask ((decide ((x0.length:Int)<(1:Int)))) (.done false) (.ask ((decide ((x0.length:Int)>(60:Int)))) (.done false) (.opt (zC (qBG n) n (x0,(0:Int))) fun r538=>(.alt r538 (fun r539=>(.done r539)) (fun r540=>(.opt (qAs n r540 (IntKind.i64.wrap ((r540.length:Int)-(1:Int)))) fun r551=>(.ask ((r551==(0:Int))) (.ask (decide (0≤(IntKind.i64.wrap ((r540.length:Int)-(1:Int)))∧(IntKind.i64.wrap ((r540.length:Int)-(1:Int)))<r540.length)) (.opt (r540[((IntKind.i64.wrap ((r540.length:Int)-(1:Int)))).toNat]?) fun e552=>(.ask (decide (e552.length=14)) (.opt (zF .i64 e552 0) fun y553=>(.ask ((y553 !=(3:Int))) (.opt (qAt n r540 (IntKind.i64.wrap ((r540.length:Int)-(1:Int)))) fun r562=>(.done (decide (r562≤(12:Int))))) (.done false))) .fail)) .fail) (.done false))))))))
def qBq:Nat→RW→Option (Bool)
 |0,_=>none
 |n+1,x0=>(qC5 n x0).run
abbrev qE3 (n:Nat):List (Ent (Rn n)):= [en (qHX n),en (qER n),en (qGN n),en (qGO n)]
def qJB (n:Nat):LEnt (lb 29 (KB 21)) (Rn n) n:=lok (Uniq.pick (zU 21) 29) 475 ⟨⟨[(0,aL),(3,aI),(4,aI)],[],[]⟩,[(.ret,⟨[(2,aB)],[],[]⟩),(.exit 2,⟨[(0,aL),(3,aI)],[],[]⟩)]⟩ (qAn n) (qE3 n) [] fun _=>(by kernel_rfl)
def qJu (n:Nat):LEnt (KB 21) (Rn n) n:=lok (zU 21) 29 ⟨⟨[(0,aL),(3,aI)],[],[]⟩,[(.ret,⟨[(2,aB)],[],[]⟩),(.exit 0,⟨[(0,aL)],[],[]⟩)]⟩ (qBG n) (qE3 n) [qJB n] fun _=>(by kernel_rfl)
theorem qGq:∀n,Ok (Rn n) qMD (qBq n)
 |0=>ok0 fun _=>rfl
 |n+1=>stO (T:=qC5 n) (by kernel_rfl) (qE3 n) [qJu n] (fun _=>(by kernel_rfl)) fun _=>(by kernel_rfl)
def qKb:Sg:=⟨9,[aS],[],⟨(.tup [(false,[qL]),(false,[qB])]),[],[]⟩⟩
def qGP (n:Nat) (x0:BA):Tr (RW×Bool):=(.opt (qCO n x0) fun r415=>(.ask ((!r415)) (.ask (decide (0=([]:RW).length)) (.done (([]:RW),false)) .fail) (.opt (qD8 n (1:Int) x0 (0:Int) false (0:Nat) ([]:RW)) fun r506=>(.opt (qBp n r506.2.1 r506.2.2.1 r506.2.2.2.1 r506.2.2.2.2.1 r506.2.2.2.2.2) fun r507=>(.ask (r507.2.2.1) (.ask (decide (0=([]:RW).length)) (.done (([]:RW),false)) .fail) (.ask ((decide (r507.2.1<(x0.size:Int)))) (.ask (decide (0=([]:RW).length)) (.done (([]:RW),false)) .fail) (.ask (decide (r507.2.2.2.1=r507.2.2.2.2.length)) (.opt (qBq n r507.2.2.2.2) fun r563=>(.ask (zAz (⟨(.c (.p (.b r563))),[],[]⟩:Res)) (.ask ((!r563)) (.ask (decide (0=([]:RW).length)) (.done (([]:RW),false)) .fail) (.ask (decide (r507.2.2.2.1=r507.2.2.2.2.length)) (.done (r507.2.2.2.2,true)) .fail)) .fail)) .fail)))))))
def qEG:Nat→BA→Option (RW×Bool)
 |0,_=>none
 |n+1,x0=>(qGP n x0).run
abbrev qKc (n:Nat):List (Ent (Rn n)):= [en (qFY n),en (qMA n),en (qDu n),en (qGq n)]
theorem qJv:∀n,Ok (Rn n) qKb (qEG n)
 |0=>ok0 fun _=>rfl
 |n+1=>stO (T:=qGP n) (by kernel_rfl) (qKc n) [] (fun _=>(by kernel_rfl)) fun _=>(by kernel_rfl)
def qNm:Sg:=⟨108,[aS],[],⟨aS,[],[]⟩⟩
def qBc (n:Nat) (v:BA×BA×Int):Tr ((BA×BA×Int)⊕((BA))):=(.ask ((decide (v.2.2<(v.1.size:Int)))) (.ask (decide (0≤v.2.2)) (.opt (v.1.toList[(v.2.2).toNat]?) fun c581=>(.ask (((c581.toNat:Int)==(34:Int))) (.ask (decide (v.2.1.size+(⟨#[34]⟩:BA).size≤9223372036854775807)) (.ask (decide (0≤v.2.2∧v.2.2≤(IntKind.i64.wrap (v.2.2+(1:Int)))∧(IntKind.i64.wrap (v.2.2+(1:Int)))≤v.1.size)) (.ask (decide ((v.2.1++(⟨#[34]⟩:BA)).size+(v.1.extract (v.2.2).toNat ((IntKind.i64.wrap (v.2.2+(1:Int)))).toNat).size≤9223372036854775807)) (.done (.inl (v.1,((v.2.1++(⟨#[34]⟩:BA))++(v.1.extract (v.2.2).toNat ((IntKind.i64.wrap (v.2.2+(1:Int)))).toNat)),(IntKind.i64.wrap (v.2.2+(1:Int)))))) .fail) .fail) .fail) (.ask (decide (0≤v.2.2∧v.2.2≤(IntKind.i64.wrap (v.2.2+(1:Int)))∧(IntKind.i64.wrap (v.2.2+(1:Int)))≤v.1.size)) (.ask (decide (v.2.1.size+(v.1.extract (v.2.2).toNat ((IntKind.i64.wrap (v.2.2+(1:Int)))).toNat).size≤9223372036854775807)) (.done (.inl (v.1,(v.2.1++(v.1.extract (v.2.2).toNat ((IntKind.i64.wrap (v.2.2+(1:Int)))).toNat)),(IntKind.i64.wrap (v.2.2+(1:Int)))))) .fail) .fail))) .fail) (.done (.inr (v.2.1))))
def qGQ (n:Nat) (x0:BA):Tr (BA):=(.opt (zC (qBc n) n (x0,(⟨#[34]⟩:BA),(0:Int))) fun r582=>(.ask (decide (r582.size+(⟨#[34]⟩:BA).size≤9223372036854775807)) (.done (r582++(⟨#[34]⟩:BA))) .fail))
def qEi:Nat→BA→Option (BA)
 |0,_=>none
 |n+1,x0=>(qGQ n x0).run
def qK8 (n:Nat):LEnt (KB 108) (Rn n) n:=lok (zU 108) 29 ⟨⟨[(0,aS),(3,aS),(4,aI)],[],[]⟩,[(.exit 0,⟨[(3,aS)],[],[]⟩)]⟩ (qBc n) [] [] fun _=>(by kernel_rfl)
theorem qM9:∀n,Ok (Rn n) qNm (qEi n)
 |0=>ok0 fun _=>rfl
 |n+1=>stO (T:=qGQ n) (by kernel_rfl) [] [qK8 n] (fun _=>(by kernel_rfl)) fun _=>(by kernel_rfl)
def qOY:Sg:=⟨115,[aI],[],⟨aS,[],[]⟩⟩
def qHI (n:Nat) (x0:Int):Tr (BA):=(.ask ((x0==(1:Int))) (.done (⟨#[84,82,85,69]⟩:BA)) (.done (⟨#[70,65,76,83,69]⟩:BA)))
def qFE:Nat→Int→Option (BA)
 |0,_=>none
 |n+1,x0=>(qHI n x0).run
theorem qNn:∀n,Ok (Rn n) qOY (qFE n)
 |0=>ok0 fun _=>rfl
 |n+1=>stO (T:=qHI n) (by kernel_rfl) [] [] (fun _=>(by kernel_rfl)) fun _=>(by kernel_rfl)
def qME:Sg:=⟨57,[(.agg [qI,qI,qS])],[],⟨aS,[],[]⟩⟩
def qBS (n:Nat) (x0 x1:Int) (x2:BA):Tr (BA):=(.opt (qb n x0 x1 x2) fun r584=>(.ask ((!r584)) (.done (⟨#[]⟩:BA)) (.ask ((x0==(1:Int))) (.opt (qAB n x1) fun r585=>(.done r585)) (.ask ((x0==(2:Int))) (.ask (decide ((⟨#[39]⟩:BA).size+x2.size≤9223372036854775807)) (.done ((⟨#[39]⟩:BA)++x2)) .fail) (.ask ((x0==(3:Int))) (.opt (qFE n x1) fun r586=>(.done r586)) (.ask ((x0==(4:Int))) (.opt (qBX n x1) fun r587=>(.done r587)) (.done (⟨#[]⟩:BA))))))))
def qAP:Nat→Int→Int→BA→Option (BA)
 |0,_,_,_=>none
 |n+1,x0,x1,x2=>(qBS n x0 x1 x2).run
abbrev qMF (n:Nat):List (Ent (Rn n)):= [en (qD7 n),en (qDK n),en (qNn n),en (qGJ n)]
theorem qGr:∀n,Ok (Rn n) qME (qAP n)
 |0=>ok0 fun _=>rfl
 |n+1=>stO (T:=qBS n) (by kernel_rfl) (qMF n) [] (fun _=>(by kernel_rfl)) fun _=>(by kernel_rfl)
def qHJ:Sg:=⟨51,[aL,aI,aI],[],⟨aS,[],[]⟩⟩
def qBd (rec:RW→Int→Int→Option (BA)) (n:Nat) (v:RW×BA×Int×Int×Int×Int×Int×BA×Int×Int×Bool×Bool×Int×Int×Bool×Bool×RW):Tr ((RW×BA×Int×Int×Int×Int×Int×BA×Int×Int×Bool×Bool×Int×Int×Bool×Bool×RW)⊕((BA))):=(.ask ((decide (v.2.2.1<(v.2.2.2.2.2.2.2.2.2.2.2.2.2.2.2.2.length:Int)))) (.ask ((decide (v.2.2.1>(0:Int)))) (.ask (decide (v.2.1.size+(⟨#[44]⟩:BA).size≤9223372036854775807)) (.ask (decide (0≤v.2.2.1∧v.2.2.1<v.2.2.2.2.2.2.2.2.2.2.2.2.2.2.2.2.length)) (.opt (v.2.2.2.2.2.2.2.2.2.2.2.2.2.2.2.2[(v.2.2.1).toNat]?) fun e604=>(.ask (decide (e604.length=1)) (.opt (zF .i64 e604 0) fun y605=>(.opt (rec v.1 y605 (0:Int)) fun r606=>(.ask (decide ((v.2.1++(⟨#[44]⟩:BA)).size+r606.size≤9223372036854775807)) (.done (.inl (v.1,((v.2.1++(⟨#[44]⟩:BA))++r606),(IntKind.i64.wrap (v.2.2.1+(1:Int))),v.2.2.2.1,v.2.2.2.2.1,v.2.2.2.2.2.1,v.2.2.2.2.2.2.1,v.2.2.2.2.2.2.2.1,v.2.2.2.2.2.2.2.2.1,v.2.2.2.2.2.2.2.2.2.1,v.2.2.2.2.2.2.2.2.2.2.1,v.2.2.2.2.2.2.2.2.2.2.2.1,v.2.2.2.2.2.2.2.2.2.2.2.2.1,v.2.2.2.2.2.2.2.2.2.2.2.2.2.1,v.2.2.2.2.2.2.2.2.2.2.2.2.2.2.1,v.2.2.2.2.2.2.2.2.2.2.2.2.2.2.2.1,v.2.2.2.2.2.2.2.2.2.2.2.2.2.2.2.2))) .fail))) .fail)) .fail) .fail) (.ask (decide (0≤v.2.2.1∧v.2.2.1<v.2.2.2.2.2.2.2.2.2.2.2.2.2.2.2.2.length)) (.opt (v.2.2.2.2.2.2.2.2.2.2.2.2.2.2.2.2[(v.2.2.1).toNat]?) fun e607=>(.ask (decide (e607.length=1)) (.opt (zF .i64 e607 0) fun y608=>(.opt (rec v.1 y608 (0:Int)) fun r609=>(.ask (decide (v.2.1.size+r609.size≤9223372036854775807)) (.done (.inl (v.1,(v.2.1++r609),(IntKind.i64.wrap (v.2.2.1+(1:Int))),v.2.2.2.1,v.2.2.2.2.1,v.2.2.2.2.2.1,v.2.2.2.2.2.2.1,v.2.2.2.2.2.2.2.1,v.2.2.2.2.2.2.2.2.1,v.2.2.2.2.2.2.2.2.2.1,v.2.2.2.2.2.2.2.2.2.2.1,v.2.2.2.2.2.2.2.2.2.2.2.1,v.2.2.2.2.2.2.2.2.2.2.2.2.1,v.2.2.2.2.2.2.2.2.2.2.2.2.2.1,v.2.2.2.2.2.2.2.2.2.2.2.2.2.2.1,v.2.2.2.2.2.2.2.2.2.2.2.2.2.2.2.1,v.2.2.2.2.2.2.2.2.2.2.2.2.2.2.2.2))) .fail))) .fail)) .fail)) (.done (.inr (v.2.1))))
def qBz (rec:RW→Int→Int→Option (BA)) (n:Nat) (x0:RW) (x1 x2:Int):Tr (BA):=(.ask (decide (0≤x1∧x1<x0.length)) (.opt (x0[(x1).toNat]?) fun e566=>(.ask (decide (e566.length=14)) (.opt (zF .i64 e566 0) fun y567=>(.opt (zF .i64 e566 1) fun y568=>(.opt (zF .i64 e566 2) fun y569=>(.opt (zF .i64 e566 3) fun y570=>(.opt (zp e566 4) fun y571=>(.opt (zF .i64 e566 5) fun y572=>(.opt (zF .i64 e566 6) fun y573=>(.opt (zAC e566 7) fun y574=>(.opt (zAC e566 8) fun y575=>(.opt (zF .i64 e566 9) fun y576=>(.opt (zF .i64 e566 10) fun y577=>(.opt (zAC e566 11) fun y578=>(.opt (zAC e566 12) fun y579=>(.opt (zAd e566 13) fun y580=>(.ask ((y567==(1:Int))) (.ask ((y569==(2:Int))) (.opt (qEi n y571) fun r583=>(.done r583)) (.opt (qAP n y569 y570 y571) fun r588=>(.done r588))) (.ask ((y567==(2:Int))) (.opt (qh n y572 y573 y574 y575) fun r589=>(.done r589)) (.ask ((y567==(3:Int))) (.opt (qh n y572 y573 y574 y575) fun r590=>(.ask (decide (r590.size+(⟨#[58]⟩:BA).size≤9223372036854775807)) (.opt (qh n y576 y577 y578 y579) fun r591=>(.ask (decide ((r590++(⟨#[58]⟩:BA)).size+r591.size≤9223372036854775807)) (.done ((r590++(⟨#[58]⟩:BA))++r591)) .fail)) .fail)) (.ask ((y567==(4:Int))) (.ask (decide (0≤(0:Int)∧(0:Int)<y580.length)) (.opt (y580[((0:Int)).toNat]?) fun e592=>(.ask (decide (e592.length=1)) (.opt (zF .i64 e592 0) fun y593=>(.opt (rec x0 y593 (5:Int)) fun r594=>(.ask (decide ((⟨#[45]⟩:BA).size+r594.size≤9223372036854775807)) (.done ((⟨#[45]⟩:BA)++r594)) .fail))) .fail)) .fail) (.ask ((y567==(5:Int))) (.opt (qCQ n y568) fun r595=>(.ask (decide (0≤(0:Int)∧(0:Int)<y580.length)) (.opt (y580[((0:Int)).toNat]?) fun e596=>(.ask (decide (e596.length=1)) (.opt (zF .i64 e596 0) fun y597=>(.ask (decide (0≤(1:Int)∧(1:Int)<y580.length)) (.opt (y580[((1:Int)).toNat]?) fun e598=>(.ask (decide (e598.length=1)) (.opt (zF .i64 e598 0) fun y599=>(.opt (rec x0 y597 r595) fun r600=>(.opt (qCG n y568) fun r601=>(.ask (decide (r600.size+r601.size≤9223372036854775807)) (.opt (rec x0 y599 (IntKind.i64.wrap (r595+(1:Int)))) fun r602=>(.ask (decide ((r600++r601).size+r602.size≤9223372036854775807)) (.ask ((decide (r595<x2))) (.ask (decide ((⟨#[40]⟩:BA).size+((r600++r601)++r602).size≤9223372036854775807)) (.ask (decide (((⟨#[40]⟩:BA)++((r600++r601)++r602)).size+(⟨#[41]⟩:BA).size≤9223372036854775807)) (.done (((⟨#[40]⟩:BA)++((r600++r601)++r602))++(⟨#[41]⟩:BA))) .fail) .fail) (.done ((r600++r601)++r602))) .fail)) .fail)))) .fail)) .fail)) .fail)) .fail)) (.opt (qCh n y568) fun r603=>(.ask (decide (r603.size+(⟨#[40]⟩:BA).size≤9223372036854775807)) (.opt (zC (qBd rec n) n (x0,(r603++(⟨#[40]⟩:BA)),(0:Int),y567,y568,y569,y570,y571,y572,y573,y574,y575,y576,y577,y578,y579,y580)) fun r610=>(.ask (decide (r610.size+(⟨#[41]⟩:BA).size≤9223372036854775807)) (.done (r610++(⟨#[41]⟩:BA))) .fail)) .fail))))))))))))))))))))) .fail)) .fail)
def qq:Nat→RW→Int→Int→Option (BA)
 |0,_,_,_=>none
 |n+1,x0,x1,x2=>(qBz (qq n) n x0 x1 x2).run
abbrev qJ6 (n:Nat) (ih:Ok (Rn n) qHJ (qq n)):List (Ent (Rn n)):= [en (qM9 n),en (qGr n),en (qGg n),en ih,en (qIM n),en (qFx n),en (qK5 n)]
def qK9 (n:Nat) (ih:Ok (Rn n) qHJ (qq n)):LEnt (KB 51) (Rn n) n:=lok (zU 51) 125 ⟨⟨[(0,aL),(7,(.c (.ptr 0 448 0 0 0))),(10,aS),(11,aI)],[(448,⟨0,14,64,(.box [qI,qI,qI,qI,qS,qI,qI,qB,qB,qI,qI,qB,qB,qL])⟩)],[]⟩,[(.exit 1,⟨[(10,aS)],[],[]⟩)]⟩ (qBd (qq n) n) (qJ6 n ih) [] fun _=>(by kernel_rfl)
theorem qGR:∀n,Ok (Rn n) qHJ (qq n)
 |0=>ok0 fun _=>rfl
 |n+1=>stO (T:=qBz (qq n) n) (by kernel_rfl) (qJ6 n (qGR n)) [qK9 n (qGR n)] (fun _=>(by kernel_rfl)) fun _=>(by kernel_rfl)
def qKd:Sg:=⟨20,[aL],[],⟨aS,[],[]⟩⟩
def qDE (n:Nat) (x0:RW):Tr (BA):=(.opt (qBq n x0) fun r565=>(.ask ((!r565)) (.done (⟨#[]⟩:BA)) (.opt (qq n x0 (IntKind.i64.wrap ((x0.length:Int)-(1:Int))) (0:Int)) fun r611=>(.ask ((decide ((r611.size:Int)>(200:Int)))) (.done (⟨#[]⟩:BA)) (.done r611)))))
def qBr:Nat→RW→Option (BA)
 |0,_=>none
 |n+1,x0=>(qDE n x0).run
abbrev qKe (n:Nat):List (Ent (Rn n)):= [en (qGq n),en (qGR n)]
theorem qJw:∀n,Ok (Rn n) qKd (qBr n)
 |0=>ok0 fun _=>rfl
 |n+1=>stO (T:=qDE n) (by kernel_rfl) (qKe n) [] (fun _=>(by kernel_rfl)) fun _=>(by kernel_rfl)
def qNA:Sg:=⟨56,[aS],[],⟨(.tup [(true,[qI,qI,qS]),(false,[qB])]),[],[]⟩⟩
def qBs (n:Nat) (v:BA×Bool×Int×Int×BA):Tr ((BA×Bool×Int×Int×BA)⊕((BA×Bool×Int×Int×BA))):=(.ask ((decide ((v.1.size:Int)>(1:Int)))) (.ask (decide (0≤(0:Int))) (.opt (v.1.toList[((0:Int)).toNat]?) fun c614=>(.ask (((c614.toNat:Int)==(48:Int))) (.ask (decide (0≤(1:Int)∧(1:Int)≤(v.1.size:Int)∧(v.1.size:Int)≤v.1.size)) (.done (.inl ((v.1.extract ((1:Int)).toNat ((v.1.size:Int)).toNat),v.2.1,v.2.2.1,v.2.2.2.1,v.2.2.2.2))) .fail) (.done (.inr ((v.1,v.2.1,v.2.2.1,v.2.2.2.1,v.2.2.2.2)))))) .fail) (.done (.inr ((v.1,v.2.1,v.2.2.1,v.2.2.2.1,v.2.2.2.2)))))
def qIU (n:Nat) (x0:BA):Tr (Int×Int×BA×Bool):=(.ask ((decide ((x0.size:Int)>(0:Int)))) (.ask (decide (0≤(0:Int))) (.opt (x0.toList[((0:Int)).toNat]?) fun c613=>(.ask (((c613.toNat:Int)==(45:Int))) (.ask (decide (0≤(1:Int)∧(1:Int)≤(x0.size:Int)∧(x0.size:Int)≤x0.size)) (.ask (((x0.extract ((1:Int)).toNat ((x0.size:Int)).toNat).toList==(⟨#[]⟩:BA).toList)) (.done ((0:Int),(0:Int),(⟨#[]⟩:BA),false)) (.opt (zC (qBs n) n ((x0.extract ((1:Int)).toNat ((x0.size:Int)).toNat),((c613.toNat:Int)==(45:Int)),(0:Int),(0:Int),(⟨#[]⟩:BA))) fun r615=>(.opt (qx n r615.1 (16:Int)) fun r616=>(.ask (r615.2.1) (.ask (r616.2) (.opt (qb n (1:Int) (IntKind.i64.wrap (0-r616.1)) (⟨#[]⟩:BA)) fun r617=>(.done ((1:Int),(IntKind.i64.wrap (0-r616.1)),(⟨#[]⟩:BA),r617))) (.done ((1:Int),(IntKind.i64.wrap (0-r616.1)),(⟨#[]⟩:BA),false))) (.ask (r616.2) (.opt (qb n (1:Int) r616.1 (⟨#[]⟩:BA)) fun r618=>(.done ((1:Int),r616.1,(⟨#[]⟩:BA),r618))) (.done ((1:Int),r616.1,(⟨#[]⟩:BA),false))))))) .fail) (.ask ((x0.toList==(⟨#[]⟩:BA).toList)) (.done ((0:Int),(0:Int),(⟨#[]⟩:BA),false)) (.opt (zC (qBs n) n (x0,((c613.toNat:Int)==(45:Int)),(0:Int),(0:Int),(⟨#[]⟩:BA))) fun r619=>(.opt (qx n r619.1 (16:Int)) fun r620=>(.ask (r619.2.1) (.ask (r620.2) (.opt (qb n (1:Int) (IntKind.i64.wrap (0-r620.1)) (⟨#[]⟩:BA)) fun r621=>(.done ((1:Int),(IntKind.i64.wrap (0-r620.1)),(⟨#[]⟩:BA),r621))) (.done ((1:Int),(IntKind.i64.wrap (0-r620.1)),(⟨#[]⟩:BA),false))) (.ask (r620.2) (.opt (qb n (1:Int) r620.1 (⟨#[]⟩:BA)) fun r622=>(.done ((1:Int),r620.1,(⟨#[]⟩:BA),r622))) (.done ((1:Int),r620.1,(⟨#[]⟩:BA),false))))))))) .fail) (.ask ((x0.toList==(⟨#[]⟩:BA).toList)) (.done ((0:Int),(0:Int),(⟨#[]⟩:BA),false)) (.opt (zC (qBs n) n (x0,false,(0:Int),(0:Int),(⟨#[]⟩:BA))) fun r623=>(.opt (qx n r623.1 (16:Int)) fun r624=>(.ask (r623.2.1) (.ask (r624.2) (.opt (qb n (1:Int) (IntKind.i64.wrap (0-r624.1)) (⟨#[]⟩:BA)) fun r625=>(.done ((1:Int),(IntKind.i64.wrap (0-r624.1)),(⟨#[]⟩:BA),r625))) (.done ((1:Int),(IntKind.i64.wrap (0-r624.1)),(⟨#[]⟩:BA),false))) (.ask (r624.2) (.opt (qb n (1:Int) r624.1 (⟨#[]⟩:BA)) fun r626=>(.done ((1:Int),r624.1,(⟨#[]⟩:BA),r626))) (.done ((1:Int),r624.1,(⟨#[]⟩:BA),false))))))))
def qFb:Nat→BA→Option (Int×Int×BA×Bool)
 |0,_=>none
 |n+1,x0=>(qIU n x0).run
abbrev qIV (n:Nat):List (Ent (Rn n)):= [en (qHD n),en (qD7 n)]
def qKf (n:Nat):LEnt (KB 56) (Rn n) n:=lok (zU 56) 62 ⟨⟨[(0,aS),(2,(.c (.ptr 0 128 0 0 0))),(4,aB)],[(128,⟨0,3,37,(.box [qI,qI,qS])⟩)],[]⟩,[(.exit 0,⟨[(0,aS),(2,(.c (.ptr 0 128 0 0 0))),(4,aB)],[(128,⟨0,3,37,(.box [qI,qI,qS])⟩)],[]⟩)]⟩ (qBs n) (qIV n) [] fun _=>(by kernel_rfl)
theorem qMG:∀n,Ok (Rn n) qNA (qFb n)
 |0=>ok0 fun _=>rfl
 |n+1=>stO (T:=qIU n) (by kernel_rfl) (qIV n) [qKf n] (fun _=>(by kernel_rfl)) fun _=>(by kernel_rfl)
def qNo:Sg:=⟨22,[aS],[],⟨(.tup [(false,[qS]),(false,[qB])]),[],[]⟩⟩
def qJC (n:Nat) (x0:BA):Tr (BA×Bool):=(.opt (qCO n x0) fun r413=>(.ask ((!r413)) (.done ((⟨#[]⟩:BA),false)) (.ask ((x0.toList==(⟨#[]⟩:BA).toList)) (.done ((⟨#[]⟩:BA),true)) (.ask (decide (0≤(0:Int))) (.opt (x0.toList[((0:Int)).toNat]?) fun c414=>(.ask (((c414.toNat:Int)==(61:Int))) (.ask (decide (0≤(1:Int)∧(1:Int)≤(x0.size:Int)∧(x0.size:Int)≤x0.size)) (.opt (qEG n (x0.extract ((1:Int)).toNat ((x0.size:Int)).toNat)) fun r564=>(.opt (qBr n r564.1) fun r612=>(.ask ((!r564.2)) (.done ((⟨#[]⟩:BA),false)) (.ask ((r612.toList==(⟨#[]⟩:BA).toList)) (.done ((⟨#[]⟩:BA),false)) (.ask ((decide ((IntKind.i64.wrap ((r612.size:Int)+(1:Int)))>(200:Int)))) (.done ((⟨#[]⟩:BA),false)) (.ask (decide ((⟨#[61]⟩:BA).size+r612.size≤9223372036854775807)) (.done (((⟨#[61]⟩:BA)++r612),true)) .fail)))))) .fail) (.opt (qFb n x0) fun r627=>(.ask (r627.2.2.2) (.opt (qAP n r627.1 r627.2.1 r627.2.2.1) fun r628=>(.done (r628,true))) (.opt (qAI n x0) fun r629=>(.ask ((!r629.2.2.2)) (.opt (qAP n (2:Int) (0:Int) x0) fun r630=>(.ask ((decide ((r630.size:Int)>(200:Int)))) (.done ((⟨#[]⟩:BA),false)) (.done (r630,true)))) (.opt (qAP n r629.1 r629.2.1 r629.2.2.1) fun r631=>(.ask ((decide ((r631.size:Int)>(200:Int)))) (.done ((⟨#[]⟩:BA),false)) (.done (r631,true)))))))))) .fail))))
def qGS:Nat→BA→Option (BA×Bool)
 |0,_=>none
 |n+1,x0=>(qJC n x0).run
abbrev qNp (n:Nat):List (Ent (Rn n)):= [en (qFY n),en (qJv n),en (qJw n),en (qMG n),en (qGr n),en (qGp n)]
theorem qNB:∀n,Ok (Rn n) qNo (qGS n)
 |0=>ok0 fun _=>rfl
 |n+1=>stO (T:=qJC n) (by kernel_rfl) (qNp n) [] (fun _=>(by kernel_rfl)) fun _=>(by kernel_rfl)
def qMH:Sg:=⟨26,[(.agg [qI,qI,qS])],[],⟨aS,[],[]⟩⟩
def qDk (n:Nat) (x0 x1:Int) (x2:BA):Tr (BA):=(.opt (qAJ n x0 x1 x2) fun r635=>(.ask ((!r635)) (.done (⟨#[]⟩:BA)) (.opt (qr n x0 x1 x2) fun r636=>(.done r636))))
def qBt:Nat→Int→Int→BA→Option (BA)
 |0,_,_,_=>none
 |n+1,x0,x1,x2=>(qDk n x0 x1 x2).run
abbrev qMI (n:Nat):List (Ent (Rn n)):= [en (qD4 n),en (qEY n)]
theorem qLA:∀n,Ok (Rn n) qMH (qBt n)
 |0=>ok0 fun _=>rfl
 |n+1=>stO (T:=qDk n) (by kernel_rfl) (qMI n) [] (fun _=>(by kernel_rfl)) fun _=>(by kernel_rfl)
def qNC:Sg:=⟨7,[aL],[],⟨aB,[],[]⟩⟩
def qFc (n:Nat) (x0:RW):Tr (Bool):=(.opt (qHq n x0) fun r1=>(.ask (r1) (.done true) (.opt (qEA n x0) fun r132=>(.opt (qEe n r132) fun r407=>(.opt (qGS n r132) fun r632=>(.ask ((!(r407.1.toList==r632.1.toList))) (.ask ((r407.1.toList==r632.1.toList)) (.done (r407.2==r632.2)) (.done false)) (.ask ((!(r407.2==r632.2))) (.ask ((r407.1.toList==r632.1.toList)) (.done (r407.2==r632.2)) (.done false)) (.ask ((!r407.2)) (.ask ((r407.1.toList==r632.1.toList)) (.done (r407.2==r632.2)) (.done false)) (.opt (qEe n r407.1) fun r633=>(.ask ((!r633.2)) (.done false) (.ask ((!(r633.1.toList==r407.1.toList))) (.done false) (.ask ((!((r407.1.toList==(⟨#[]⟩:BA).toList)==(r132.toList==(⟨#[]⟩:BA).toList)))) (.done false) (.ask ((r407.1.toList==(⟨#[]⟩:BA).toList)) (.opt (qZ n r407.1) fun r634=>(.ask (r634.2.2.2) (.opt (qBt n r634.1 r634.2.1 r634.2.2.1) fun r637=>(.done (r637.toList==r407.1.toList))) (.done false))) (.ask (decide (0≤(0:Int))) (.opt (r407.1.toList[((0:Int)).toNat]?) fun c638=>(.ask (((c638.toNat:Int) !=(61:Int))) (.opt (qZ n r407.1) fun r639=>(.ask (r639.2.2.2) (.opt (qBt n r639.1 r639.2.1 r639.2.2.1) fun r640=>(.done (r640.toList==r407.1.toList))) (.done false))) (.ask (decide (0≤(1:Int)∧(1:Int)≤(r407.1.size:Int)∧(r407.1.size:Int)≤r407.1.size)) (.opt (qDB n (r407.1.extract ((1:Int)).toNat ((r407.1.size:Int)).toNat)) fun r641=>(.ask (r641.2) (.opt (qBO n r641.1) fun r642=>(.ask (decide ((⟨#[61]⟩:BA).size+r642.size≤9223372036854775807)) (.done (((⟨#[61]⟩:BA)++r642).toList==r407.1.toList)) .fail)) (.done false))) .fail))) .fail))))))))))))))
def qIW:Nat→RW→Option (Bool)
 |0,_=>none
 |n+1,x0=>(qFc n x0).run
abbrev qND (n:Nat):List (Ent (Rn n)):= [en (qPk n),en (qJi n),en (qMx n),en (qNB n),en (qEa n),en (qLA n),en (qFk n),en (qFl n)]
theorem qMJ:∀n,Ok (Rn n) qNC (qIW n)
 |0=>ok0 fun _=>rfl
 |n+1=>stO (T:=qFc n) (by kernel_rfl) (qND n) [] (fun _=>(by kernel_rfl)) fun _=>(by kernel_rfl)
end
end Go.Proofs.YthhngmnbcmkhpaaGreatDoor.KFnInputs

