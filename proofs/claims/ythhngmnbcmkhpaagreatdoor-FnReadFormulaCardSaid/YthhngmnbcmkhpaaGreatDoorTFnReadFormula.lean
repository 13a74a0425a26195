import Derived.Test.YthhngmnbcmkhpaaGreatDoorKFnReadFormula
namespace Go.Proofs.YthhngmnbcmkhpaaGreatDoor.KFnReadFormula
open Go.Eng
set_option linter.unusedVariables false
set_option maxRecDepth 100000
noncomputable section
abbrev RW:=List (List PV)
abbrev BA:=ByteArray
def qOn:Sg:=⟨14,[aL],[],⟨aB,[],[]⟩⟩
def qI7 (n:Nat) (x0:RW):Tr (Bool):=(.done (decide ((x0.length:Int)>(1048576:Int))))
def qGq:Nat→RW→Option (Bool)
 |0,_=>none
 |n+1,x0=>(qI7 n x0).run
theorem qN9:∀n,Ok (Rn n) qOn (qGq n)
 |0=>ok0 fun _=>rfl
 |n+1=>stO (T:=qI7 n) (by kernel_rfl) [] [] (fun _=>(by kernel_rfl)) fun _=>(by kernel_rfl)
def qMk:Sg:=⟨42,[aL],[],⟨(.c (.ptr 0 0 0 0 0)),[],[⟨0,2,112,(.box [qL,qI])⟩]⟩⟩
def qF3 (n:Nat) (x0:RW):Tr (RW×Int):=(.done (x0,(0:Int)))
def qEX:Nat→RW→Option (RW×Int)
 |0,_=>none
 |n+1,x0=>(qF3 n x0).run
theorem qLx:∀n,Ok (Rn n) qMk (qEX n)
 |0=>ok0 fun _=>rfl
 |n+1=>stO (T:=qF3 n) (by kernel_rfl) [] [] (fun _=>(by kernel_rfl)) fun _=>(by kernel_rfl)
def qKT:Sg:=⟨99,[(.c (.ptr 0 0 0 0 0))],[[(0,⟨0,2,112,(.box [qL,qI])⟩)]],⟨aI,[[(0,⟨0,2,112,(.box [qL,qI])⟩)]],[]⟩⟩
def qDI (n:Nat) (x0:RW) (x1:Int):Tr (Int×RW×Int):=(.ask ((decide (x1≥(x0.length:Int)))) (.done ((0:Int),x0,x1)) (.ask (decide (0≤(IntKind.i64.wrap ((IntKind.i64.wrap (x1+(1:Int)))-(1:Int)))∧(IntKind.i64.wrap ((IntKind.i64.wrap (x1+(1:Int)))-(1:Int)))<x0.length)) (.opt (x0[((IntKind.i64.wrap ((IntKind.i64.wrap (x1+(1:Int)))-(1:Int)))).toNat]?) fun e3=>(.ask (decide (e3.length=1)) (.opt (zF .u8 e3 0) fun y4=>(.done ((IntKind.i64.wrap y4),x0,(IntKind.i64.wrap (x1+(1:Int)))))) .fail)) .fail))
def qBC:Nat→RW→Int→Option (Int×RW×Int)
 |0,_,_=>none
 |n+1,x0,x1=>(qDI n x0 x1).run
theorem qFn:∀n,Ok (Rn n) qKT (qBC n)
 |0=>ok0 fun _=>rfl
 |n+1=>stO (T:=qDI n) (by kernel_rfl) [] [] (fun _=>(by kernel_rfl)) fun _=>(by kernel_rfl)
def qJd:Sg:=⟨44,[(.c (.ptr 0 0 0 0 0)),aI],[[(0,⟨0,2,112,(.box [qL,qI])⟩)]],⟨aI,[[(0,⟨0,2,112,(.box [qL,qI])⟩)]],[]⟩⟩
def qCD (n:Nat) (x0:Int) (x1:RW) (x2:Int):Tr (Int×RW×Int):=(.ask ((decide (x0≤(1:Int)))) (.done ((0:Int),x1,x2)) (.ask ((decide (x0≤(256:Int)))) (.opt (qBC n x1 x2) fun r5=>(.ask (decide (x0=0)) .fail (.done ((Int.tmod r5.1 x0),r5.2.1,r5.2.2)))) (.opt (qBC n x1 x2) fun r6=>(.opt (qBC n r6.2.1 r6.2.2) fun r7=>(.ask (decide (x0=0)) .fail (.done ((Int.tmod (IntKind.i64.wrap ((IntKind.i64.wrap (r6.1*(256:Int)))+r7.1)) x0),r7.2.1,r7.2.2)))))))
def qP:Nat→Int→RW→Int→Option (Int×RW×Int)
 |0,_,_,_=>none
 |n+1,x0,x1,x2=>(qCD n x0 x1 x2).run
abbrev qJe (n:Nat):List (Ent (Rn n)):= [en (qFn n)]
theorem qAs:∀n,Ok (Rn n) qJd (qP n)
 |0=>ok0 fun _=>rfl
 |n+1=>stO (T:=qCD n) (by kernel_rfl) (qJe n) [] (fun _=>(by kernel_rfl)) fun _=>(by kernel_rfl)
def qLV:Sg:=⟨95,[(.c (.ptr 0 0 0 0 0))],[[(0,⟨0,2,112,(.box [qL,qI])⟩)]],⟨(.agg [qI,qI]),[[(0,⟨0,2,112,(.box [qL,qI])⟩)]],[]⟩⟩
def qEs (n:Nat) (x0:RW) (x1:Int):Tr (Int×Int×RW×Int):=(.opt (qP n (3:Int) x0 x1) fun r9=>(.opt (qP n (4:Int) r9.2.1 r9.2.2) fun r10=>(.done ((IntKind.i64.wrap ((1:Int)+r9.1)),(IntKind.i64.wrap ((1:Int)+r10.1)),r10.2.1,r10.2.2))))
def qAM:Nat→RW→Int→Option (Int×Int×RW×Int)
 |0,_,_=>none
 |n+1,x0,x1=>(qEs n x0 x1).run
abbrev qLW (n:Nat):List (Ent (Rn n)):= [en (qAs n)]
theorem qGR:∀n,Ok (Rn n) qLV (qAM n)
 |0=>ok0 fun _=>rfl
 |n+1=>stO (T:=qEs n) (by kernel_rfl) (qLW n) [] (fun _=>(by kernel_rfl)) fun _=>(by kernel_rfl)
def qKU:Sg:=⟨67,[(.c (.ptr 0 0 0 0 0)),aI],[[(0,⟨0,2,112,(.box [qL,qI])⟩)]],⟨aB,[[(0,⟨0,2,112,(.box [qL,qI])⟩)]],[]⟩⟩
def qEN (n:Nat) (x0:Int) (x1:RW) (x2:Int):Tr (Bool×RW×Int):=(.opt (qP n x0 x1 x2) fun r12=>(.done ((r12.1==(IntKind.i64.wrap (x0-(1:Int)))),r12.2.1,r12.2.2)))
def qc:Nat→Int→RW→Int→Option (Bool×RW×Int)
 |0,_,_,_=>none
 |n+1,x0,x1,x2=>(qEN n x0 x1 x2).run
abbrev qKV (n:Nat):List (Ent (Rn n)):= [en (qAs n)]
theorem qDu:∀n,Ok (Rn n) qKU (qc n)
 |0=>ok0 fun _=>rfl
 |n+1=>stO (T:=qEN n) (by kernel_rfl) (qKV n) [] (fun _=>(by kernel_rfl)) fun _=>(by kernel_rfl)
def qOA:Sg:=⟨53,[aI,aI,aI],[],⟨aB,[],[]⟩⟩
def qFo (n:Nat) (x0 x1 x2:Int):Tr (Bool):=(.ask ((decide (x0≥x1))) (.done (decide (x0≤x2))) (.done false))
def qBD:Nat→Int→Int→Int→Option (Bool)
 |0,_,_,_=>none
 |n+1,x0,x1,x2=>(qFo n x0 x1 x2).run
theorem qDv:∀n,Ok (Rn n) qOA (qBD n)
 |0=>ok0 fun _=>rfl
 |n+1=>stO (T:=qFo n) (by kernel_rfl) [] [] (fun _=>(by kernel_rfl)) fun _=>(by kernel_rfl)
def qNa:Sg:=⟨74,[(.agg [qI,qI])],[],⟨aB,[],[]⟩⟩
def qGr (n:Nat) (x0 x1:Int):Tr (Bool):=(.opt (qBD n x0 (1:Int) (52:Int)) fun r15=>(.ask (r15) (.opt (qBD n x1 (1:Int) (99:Int)) fun r16=>(.done r16)) (.done false)))
def qAJ:Nat→Int→Int→Option (Bool)
 |0,_,_=>none
 |n+1,x0,x1=>(qGr n x0 x1).run
abbrev qNb (n:Nat):List (Ent (Rn n)):= [en (qDv n)]
theorem qEY:∀n,Ok (Rn n) qNa (qAJ n)
 |0=>ok0 fun _=>rfl
 |n+1=>stO (T:=qGr n) (by kernel_rfl) (qNb n) [] (fun _=>(by kernel_rfl)) fun _=>(by kernel_rfl)
def qLy:Sg:=⟨139,[aI],[],⟨aS,[],[]⟩⟩
def qBJ (n:Nat) (v:Int×BA):Tr ((Int×BA)⊕((BA))):=(.ask ((decide (v.1>(0:Int)))) (.ask (decide (1=([[(.i .u8 (IntKind.u8.wrap (IntKind.i64.wrap ((65:Int)+(Int.tmod (IntKind.i64.wrap (v.1-(1:Int))) (26:Int))))))]]:RW).length)) (.opt (bytesOf ([[(.i .u8 (IntKind.u8.wrap (IntKind.i64.wrap ((65:Int)+(Int.tmod (IntKind.i64.wrap (v.1-(1:Int))) (26:Int))))))]]:RW)) fun l19=>(.ask (decide ((⟨l19.toArray⟩:BA).size+v.2.size≤9223372036854775807)) (.done (.inl ((IntKind.i64.wrap (Int.tdiv (IntKind.i64.wrap (v.1-(1:Int))) (26:Int))),((⟨l19.toArray⟩:BA)++v.2)))) .fail)) .fail) (.done (.inr (v.2))))
def qDw (n:Nat) (x0:Int):Tr (BA):=(.opt (qBD n x0 (1:Int) (52:Int)) fun r18=>(.ask ((!r18)) (.done (⟨#[]⟩:BA)) (.opt (zD (qBJ n) n (x0,(⟨#[]⟩:BA))) fun r20=>(.done r20))))
def qCZ:Nat→Int→Option (BA)
 |0,_=>none
 |n+1,x0=>(qDw n x0).run
abbrev qHk (n:Nat):List (Ent (Rn n)):= [en (qDv n)]
def qJf (n:Nat):LEnt (KB 139) (Rn n) n:=lok (zW 139) 30 ⟨⟨[(0,aI),(3,aS)],[],[]⟩,[(.exit 0,⟨[(3,aS)],[],[]⟩)]⟩ (qBJ n) (qHk n) [] fun _=>(by kernel_rfl)
theorem qHG:∀n,Ok (Rn n) qLy (qCZ n)
 |0=>ok0 fun _=>rfl
 |n+1=>stO (T:=qDw n) (by kernel_rfl) (qHk n) [qJf n] (fun _=>(by kernel_rfl)) fun _=>(by kernel_rfl)
def qGs:Sg:=⟨96,[aI],[],⟨aS,[],[]⟩⟩
def qCw (n:Nat) (v:Int×BA):Tr ((Int×BA)⊕((Int×BA))):=(.ask ((decide (v.1≥(10:Int)))) (.ask (decide (1=([[(.i .u8 (IntKind.u8.wrap (IntKind.i64.wrap ((48:Int)+(Int.tmod v.1 (10:Int))))))]]:RW).length)) (.opt (bytesOf ([[(.i .u8 (IntKind.u8.wrap (IntKind.i64.wrap ((48:Int)+(Int.tmod v.1 (10:Int))))))]]:RW)) fun l23=>(.ask (decide ((⟨l23.toArray⟩:BA).size+v.2.size≤9223372036854775807)) (.done (.inl ((IntKind.i64.wrap (Int.tdiv v.1 (10:Int))),((⟨l23.toArray⟩:BA)++v.2)))) .fail)) .fail) (.done (.inr ((v.1,v.2)))))
def qE8 (rec:Int→Option (BA)) (n:Nat) (x0:Int):Tr (BA):=(.ask ((decide (x0<(0:Int)))) (.opt (rec (IntKind.i64.wrap (0-x0))) fun r22=>(.ask (decide ((⟨#[45]⟩:BA).size+r22.size≤9223372036854775807)) (.done ((⟨#[45]⟩:BA)++r22)) .fail)) (.opt (zD (qCw n) n (x0,(⟨#[]⟩:BA))) fun r24=>(.ask (decide (1=([[(.i .u8 (IntKind.u8.wrap (IntKind.i64.wrap ((48:Int)+r24.1))))]]:RW).length)) (.opt (bytesOf ([[(.i .u8 (IntKind.u8.wrap (IntKind.i64.wrap ((48:Int)+r24.1))))]]:RW)) fun l25=>(.ask (decide ((⟨l25.toArray⟩:BA).size+r24.2.size≤9223372036854775807)) (.done ((⟨l25.toArray⟩:BA)++r24.2)) .fail)) .fail)))
def qAK:Nat→Int→Option (BA)
 |0,_=>none
 |n+1,x0=>(qE8 (qAK n) n x0).run
abbrev qJg (n:Nat) (ih:Ok (Rn n) qGs (qAK n)):List (Ent (Rn n)):= [en ih]
def qLX (n:Nat) (ih:Ok (Rn n) qGs (qAK n)):LEnt (KB 96) (Rn n) n:=lok (zW 96) 30 ⟨⟨[(0,aI),(3,aS)],[],[]⟩,[(.exit 0,⟨[(0,aI),(3,aS)],[],[]⟩)]⟩ (qCw n) (qJg n ih) [] fun _=>(by kernel_rfl)
theorem qEZ:∀n,Ok (Rn n) qGs (qAK n)
 |0=>ok0 fun _=>rfl
 |n+1=>stO (T:=qE8 (qAK n) n) (by kernel_rfl) (qJg n (qEZ n)) [qLX n (qEZ n)] (fun _=>(by kernel_rfl)) fun _=>(by kernel_rfl)
def qKW:Sg:=⟨94,[(.agg [qI,qI,qB,qB])],[],⟨aS,[],[]⟩⟩
def qDJ (n:Nat) (x0 x1:Int) (x2 x3:Bool):Tr (BA):=(.opt (qAJ n x0 x1) fun r17=>(.ask ((!r17)) (.done (⟨#[]⟩:BA)) (.opt (qCZ n x0) fun r21=>(.ask (x2) (.ask (decide ((⟨#[36]⟩:BA).size+r21.size≤9223372036854775807)) (.ask (x3) (.ask (decide (((⟨#[36]⟩:BA)++r21).size+(⟨#[36]⟩:BA).size≤9223372036854775807)) (.opt (qAK n x1) fun r26=>(.ask (decide ((((⟨#[36]⟩:BA)++r21)++(⟨#[36]⟩:BA)).size+r26.size≤9223372036854775807)) (.done ((((⟨#[36]⟩:BA)++r21)++(⟨#[36]⟩:BA))++r26)) .fail)) .fail) (.opt (qAK n x1) fun r27=>(.ask (decide (((⟨#[36]⟩:BA)++r21).size+r27.size≤9223372036854775807)) (.done (((⟨#[36]⟩:BA)++r21)++r27)) .fail))) .fail) (.ask (x3) (.ask (decide (r21.size+(⟨#[36]⟩:BA).size≤9223372036854775807)) (.opt (qAK n x1) fun r28=>(.ask (decide ((r21++(⟨#[36]⟩:BA)).size+r28.size≤9223372036854775807)) (.done ((r21++(⟨#[36]⟩:BA))++r28)) .fail)) .fail) (.opt (qAK n x1) fun r29=>(.ask (decide (r21.size+r29.size≤9223372036854775807)) (.done (r21++r29)) .fail)))))))
def qi:Nat→Int→Int→Bool→Bool→Option (BA)
 |0,_,_,_,_=>none
 |n+1,x0,x1,x2,x3=>(qDJ n x0 x1 x2 x3).run
abbrev qKX (n:Nat):List (Ent (Rn n)):= [en (qEY n),en (qHG n),en (qEZ n)]
theorem qJh:∀n,Ok (Rn n) qKW (qi n)
 |0=>ok0 fun _=>rfl
 |n+1=>stO (T:=qDJ n) (by kernel_rfl) (qKX n) [] (fun _=>(by kernel_rfl)) fun _=>(by kernel_rfl)
def qKY:Sg:=⟨175,[(.c (.ptr 0 0 0 0 0))],[[(0,⟨0,2,112,(.box [qL,qI])⟩)]],⟨(.c (.p (.i .u64 0))),[[(0,⟨0,2,112,(.box [qL,qI])⟩)]],[]⟩⟩
def qBp (n:Nat) (v:Int×Int×RW×Int):Tr ((Int×Int×RW×Int)⊕((Int×RW×Int))):=(.ask ((decide (v.2.1<(8:Int)))) (.opt (qBC n v.2.2.1 v.2.2.2) fun r74=>(.done (.inl ((IntKind.u64.wrap ((BitVec.ofInt IntKind.u64.bits (IntKind.u64.wrap (v.1*(2:Int)^(8:Nat)))|||BitVec.ofInt IntKind.u64.bits (IntKind.u64.wrap r74.1)).toNat:Int)),(IntKind.i64.wrap (v.2.1+(1:Int))),r74.2.1,r74.2.2)))) (.done (.inr ((v.1,v.2.2.1,v.2.2.2)))))
def qEO (n:Nat) (x0:RW) (x1:Int):Tr (Int×RW×Int):=(.opt (zD (qBp n) n ((0:Int),(0:Int),x0,x1)) fun r75=>(.done (r75.1,r75.2.1,r75.2.2)))
def qDK:Nat→RW→Int→Option (Int×RW×Int)
 |0,_,_=>none
 |n+1,x0,x1=>(qEO n x0 x1).run
abbrev qGS (n:Nat):List (Ent (Rn n)):= [en (qFn n)]
def qIb (n:Nat):LEnt (KB 175) (Rn n) n:=lok (zW 175) 29 ⟨⟨[(0,(.c (.ptr 0 0 0 0 0))),(3,(.c (.p (.i .u64 0)))),(4,aI)],[],[[(0,⟨0,2,112,(.box [qL,qI])⟩)]]⟩,[(.exit 0,⟨[(3,(.c (.p (.i .u64 0))))],[],[[(0,⟨0,2,112,(.box [qL,qI])⟩)]]⟩)]⟩ (qBp n) (qGS n) [] fun _=>(by kernel_rfl)
theorem qJi:∀n,Ok (Rn n) qKY (qDK n)
 |0=>ok0 fun _=>rfl
 |n+1=>stO (T:=qEO n) (by kernel_rfl) (qGS n) [qIb n] (fun _=>(by kernel_rfl)) fun _=>(by kernel_rfl)
def qKZ:Sg:=⟨147,[(.c (.ptr 0 0 0 0 0)),aI,aI],[[(0,⟨0,2,112,(.box [qL,qI])⟩)]],⟨aI,[[(0,⟨0,2,112,(.box [qL,qI])⟩)]],[]⟩⟩
def qCa (n:Nat) (x0 x1:Int) (x2:RW) (x3:Int):Tr (Int×RW×Int):=(.opt (qP n (8:Int) x2 x3) fun r73=>(.ask ((r73.1==(0:Int))) (.done (x0,r73.2.1,r73.2.2)) (.ask ((r73.1==(1:Int))) (.done (x1,r73.2.1,r73.2.2)) (.ask ((decide (x1<x0))) (.done (x0,r73.2.1,r73.2.2)) (.opt (qDK n r73.2.1 r73.2.2) fun r76=>(.ask (decide ((IntKind.u64.wrap (IntKind.i64.wrap ((IntKind.i64.wrap (x1-x0))+(1:Int))))=0)) .fail (.done ((IntKind.i64.wrap (x0+(IntKind.i64.wrap (Int.tmod (Int.fdiv r76.1 ((2:Int)^(1:Nat))) (IntKind.u64.wrap (IntKind.i64.wrap ((IntKind.i64.wrap (x1-x0))+(1:Int)))))))),r76.2.1,r76.2.2))))))))
def qBz:Nat→Int→Int→RW→Int→Option (Int×RW×Int)
 |0,_,_,_,_=>none
 |n+1,x0,x1,x2,x3=>(qCa n x0 x1 x2 x3).run
abbrev qKa (n:Nat):List (Ent (Rn n)):= [en (qAs n),en (qJi n)]
theorem qJj:∀n,Ok (Rn n) qKZ (qBz n)
 |0=>ok0 fun _=>rfl
 |n+1=>stO (T:=qCa n) (by kernel_rfl) (qKa n) [] (fun _=>(by kernel_rfl)) fun _=>(by kernel_rfl)
def qLY:Sg:=⟨106,[(.c (.ptr 0 0 0 0 0)),aI,aI],[[(0,⟨0,2,112,(.box [qL,qI])⟩)]],⟨aI,[[(0,⟨0,2,112,(.box [qL,qI])⟩)]],[]⟩⟩
def qBm (n:Nat) (x0 x1:Int) (x2:RW) (x3:Int):Tr (Int×RW×Int):=(.opt (qc n (24:Int) x2 x3) fun r69=>(.ask (r69.1) (.opt (qP n (4:Int) r69.2.1 r69.2.2) fun r70=>(.ask (decide (4=([[(.i .i64 (IntKind.i64.wrap (x0-(1:Int))))],[(.i .i64 (IntKind.i64.wrap (x1+(1:Int))))],[(.i .i64 (-9223372036854775808:Int))],[(.i .i64 (9223372036854775807:Int))]]:RW).length∧0≤r70.1∧r70.1<((4:Nat):Int))) (.opt (([[(.i .i64 (IntKind.i64.wrap (x0-(1:Int))))],[(.i .i64 (IntKind.i64.wrap (x1+(1:Int))))],[(.i .i64 (-9223372036854775808:Int))],[(.i .i64 (9223372036854775807:Int))]]:RW)[(r70.1).toNat]?) fun e71=>(.opt (zF .i64 e71 0) fun y72=>(.done (y72,r70.2.1,r70.2.2)))) .fail)) (.opt (qBz n x0 x1 r69.2.1 r69.2.2) fun r77=>(.done (r77.1,r77.2.1,r77.2.2)))))
def qBP:Nat→Int→Int→RW→Int→Option (Int×RW×Int)
 |0,_,_,_,_=>none
 |n+1,x0,x1,x2,x3=>(qBm n x0 x1 x2 x3).run
abbrev qLZ (n:Nat):List (Ent (Rn n)):= [en (qDu n),en (qAs n),en (qJj n)]
theorem qKb:∀n,Ok (Rn n) qLY (qBP n)
 |0=>ok0 fun _=>rfl
 |n+1=>stO (T:=qBm n) (by kernel_rfl) (qLZ n) [] (fun _=>(by kernel_rfl)) fun _=>(by kernel_rfl)
def qKc:Sg:=⟨97,[(.c (.ptr 0 0 0 0 0))],[[(0,⟨0,2,112,(.box [qL,qI])⟩)]],⟨(.agg [qI,qI,qI,qI]),[[(0,⟨0,2,112,(.box [qL,qI])⟩)]],[]⟩⟩
def qDL (n:Nat) (x0:RW) (x1:Int):Tr (Int×Int×Int×Int×RW×Int):=(.opt (qAM n x0 x1) fun r66=>(.opt (qAM n r66.2.2.1 r66.2.2.2) fun r67=>(.opt (qc n (20:Int) r67.2.2.1 r67.2.2.2) fun r68=>(.ask (r68.1) (.opt (qBP n (1:Int) (99:Int) r68.2.1 r68.2.2) fun r78=>(.done ((if r67.1<r66.1 then r67.1 else r66.1),(if r67.2.1<r66.2.1 then r67.2.1 else r66.2.1),(if r67.1>r66.1 then r67.1 else r66.1),r78.1,r78.2.1,r78.2.2))) (.done ((if r67.1<r66.1 then r67.1 else r66.1),(if r67.2.1<r66.2.1 then r67.2.1 else r66.2.1),(if r67.1>r66.1 then r67.1 else r66.1),(if r67.2.1>r66.2.1 then r67.2.1 else r66.2.1),r68.2.1,r68.2.2))))))
def qB0:Nat→RW→Int→Option (Int×Int×Int×Int×RW×Int)
 |0,_,_=>none
 |n+1,x0,x1=>(qDL n x0 x1).run
abbrev qKd (n:Nat):List (Ent (Rn n)):= [en (qGR n),en (qDu n),en (qKb n)]
theorem qJk:∀n,Ok (Rn n) qKc (qB0 n)
 |0=>ok0 fun _=>rfl
 |n+1=>stO (T:=qDL n) (by kernel_rfl) (qKd n) [] (fun _=>(by kernel_rfl)) fun _=>(by kernel_rfl)
def qMl:Sg:=⟨98,[aI],[],⟨aS,[],[]⟩⟩
def qF4 (n:Nat) (x0:Int):Tr (BA):=(.ask (decide (12=([[(.s (⟨#[]⟩:BA))],[(.s (⟨#[43]⟩:BA))],[(.s (⟨#[45]⟩:BA))],[(.s (⟨#[42]⟩:BA))],[(.s (⟨#[47]⟩:BA))],[(.s (⟨#[38]⟩:BA))],[(.s (⟨#[61]⟩:BA))],[(.s (⟨#[60,62]⟩:BA))],[(.s (⟨#[60]⟩:BA))],[(.s (⟨#[60,61]⟩:BA))],[(.s (⟨#[62]⟩:BA))],[(.s (⟨#[62,61]⟩:BA))]]:RW).length∧0≤x0∧x0<((12:Nat):Int))) (.opt (([[(.s (⟨#[]⟩:BA))],[(.s (⟨#[43]⟩:BA))],[(.s (⟨#[45]⟩:BA))],[(.s (⟨#[42]⟩:BA))],[(.s (⟨#[47]⟩:BA))],[(.s (⟨#[38]⟩:BA))],[(.s (⟨#[61]⟩:BA))],[(.s (⟨#[60,62]⟩:BA))],[(.s (⟨#[60]⟩:BA))],[(.s (⟨#[60,61]⟩:BA))],[(.s (⟨#[62]⟩:BA))],[(.s (⟨#[62,61]⟩:BA))]]:RW)[(x0).toNat]?) fun e102=>(.opt (zh e102 0) fun y103=>(.done y103))) .fail)
def qCT:Nat→Int→Option (BA)
 |0,_=>none
 |n+1,x0=>(qF4 n x0).run
theorem qHl:∀n,Ok (Rn n) qMl (qCT n)
 |0=>ok0 fun _=>rfl
 |n+1=>stO (T:=qF4 n) (by kernel_rfl) [] [] (fun _=>(by kernel_rfl)) fun _=>(by kernel_rfl)
def qFp:Sg:=⟨43,[(.c (.ptr 0 0 0 0 0)),aI],[[(0,⟨0,2,112,(.box [qL,qI])⟩)]],⟨aS,[[(0,⟨0,2,112,(.box [qL,qI])⟩)]],[]⟩⟩
def qCE (rec:Int→RW→Int→Option (BA×RW×Int)) (n:Nat) (x0:Int) (x1:RW) (x2:Int):Tr (BA×RW×Int):=(.ask ((x0==(0:Int))) (.opt (qP n (7:Int) x1 x2) fun r8=>(.ask ((r8.1==(0:Int))) (.opt (qAM n r8.2.1 r8.2.2) fun r11=>(.opt (qc n (5:Int) r11.2.2.1 r11.2.2.2) fun r13=>(.opt (qc n (5:Int) r13.2.1 r13.2.2) fun r14=>(.opt (qi n r11.1 r11.2.1 r13.1 r14.1) fun r30=>(.done (r30,r14.2.1,r14.2.2)))))) (.ask ((r8.1==(1:Int))) (.opt (qAM n r8.2.1 r8.2.2) fun r31=>(.opt (qc n (5:Int) r31.2.2.1 r31.2.2.2) fun r32=>(.opt (qc n (5:Int) r32.2.1 r32.2.2) fun r33=>(.opt (qi n r31.1 r31.2.1 r32.1 r33.1) fun r34=>(.done (r34,r33.2.1,r33.2.2)))))) (.ask ((r8.1==(2:Int))) (.opt (qAM n r8.2.1 r8.2.2) fun r35=>(.opt (qc n (5:Int) r35.2.2.1 r35.2.2.2) fun r36=>(.opt (qc n (5:Int) r36.2.1 r36.2.2) fun r37=>(.opt (qi n r35.1 r35.2.1 r36.1 r37.1) fun r38=>(.done (r38,r37.2.1,r37.2.2)))))) (.ask ((r8.1==(3:Int))) (.opt (qP n (6:Int) r8.2.1 r8.2.2) fun r39=>(.ask (decide (6=([[(.s (⟨#[34,97,34]⟩:BA))],[(.s (⟨#[34,34]⟩:BA))],[(.s (⟨#[84,82,85,69]⟩:BA))],[(.s (⟨#[70,65,76,83,69]⟩:BA))],[(.s (⟨#[35,82,69,70,33]⟩:BA))],[(.s (⟨#[34,113,34,34,34]⟩:BA))]]:RW).length∧0≤r39.1∧r39.1<((6:Nat):Int))) (.opt (([[(.s (⟨#[34,97,34]⟩:BA))],[(.s (⟨#[34,34]⟩:BA))],[(.s (⟨#[84,82,85,69]⟩:BA))],[(.s (⟨#[70,65,76,83,69]⟩:BA))],[(.s (⟨#[35,82,69,70,33]⟩:BA))],[(.s (⟨#[34,113,34,34,34]⟩:BA))]]:RW)[(r39.1).toNat]?) fun e40=>(.opt (zh e40 0) fun y41=>(.done (y41,r39.2.1,r39.2.2)))) .fail)) (.opt (qP n (12:Int) r8.2.1 r8.2.2) fun r42=>(.opt (qAK n r42.1) fun r43=>(.done (r43,r42.2.1,r42.2.2))))))))) (.opt (qc n (3:Int) x1 x2) fun r44=>(.ask (r44.1) (.opt (qP n (7:Int) r44.2.1 r44.2.2) fun r45=>(.ask ((r45.1==(0:Int))) (.opt (qAM n r45.2.1 r45.2.2) fun r46=>(.opt (qc n (5:Int) r46.2.2.1 r46.2.2.2) fun r47=>(.opt (qc n (5:Int) r47.2.1 r47.2.2) fun r48=>(.opt (qi n r46.1 r46.2.1 r47.1 r48.1) fun r49=>(.done (r49,r48.2.1,r48.2.2)))))) (.ask ((r45.1==(1:Int))) (.opt (qAM n r45.2.1 r45.2.2) fun r50=>(.opt (qc n (5:Int) r50.2.2.1 r50.2.2.2) fun r51=>(.opt (qc n (5:Int) r51.2.1 r51.2.2) fun r52=>(.opt (qi n r50.1 r50.2.1 r51.1 r52.1) fun r53=>(.done (r53,r52.2.1,r52.2.2)))))) (.ask ((r45.1==(2:Int))) (.opt (qAM n r45.2.1 r45.2.2) fun r54=>(.opt (qc n (5:Int) r54.2.2.1 r54.2.2.2) fun r55=>(.opt (qc n (5:Int) r55.2.1 r55.2.2) fun r56=>(.opt (qi n r54.1 r54.2.1 r55.1 r56.1) fun r57=>(.done (r57,r56.2.1,r56.2.2)))))) (.ask ((r45.1==(3:Int))) (.opt (qP n (6:Int) r45.2.1 r45.2.2) fun r58=>(.ask (decide (6=([[(.s (⟨#[34,97,34]⟩:BA))],[(.s (⟨#[34,34]⟩:BA))],[(.s (⟨#[84,82,85,69]⟩:BA))],[(.s (⟨#[70,65,76,83,69]⟩:BA))],[(.s (⟨#[35,82,69,70,33]⟩:BA))],[(.s (⟨#[34,113,34,34,34]⟩:BA))]]:RW).length∧0≤r58.1∧r58.1<((6:Nat):Int))) (.opt (([[(.s (⟨#[34,97,34]⟩:BA))],[(.s (⟨#[34,34]⟩:BA))],[(.s (⟨#[84,82,85,69]⟩:BA))],[(.s (⟨#[70,65,76,83,69]⟩:BA))],[(.s (⟨#[35,82,69,70,33]⟩:BA))],[(.s (⟨#[34,113,34,34,34]⟩:BA))]]:RW)[(r58.1).toNat]?) fun e59=>(.opt (zh e59 0) fun y60=>(.done (y60,r58.2.1,r58.2.2)))) .fail)) (.opt (qP n (12:Int) r45.2.1 r45.2.2) fun r61=>(.opt (qAK n r61.1) fun r62=>(.done (r62,r61.2.1,r61.2.2))))))))) (.opt (qP n (8:Int) r44.2.1 r44.2.2) fun r63=>(.ask ((r63.1==(0:Int))) (.opt (rec (IntKind.i64.wrap (x0-(1:Int))) r63.2.1 r63.2.2) fun r64=>(.ask (decide ((⟨#[45]⟩:BA).size+r64.1.size≤9223372036854775807)) (.done (((⟨#[45]⟩:BA)++r64.1),r64.2.1,r64.2.2)) .fail)) (.ask ((r63.1==(1:Int))) (.opt (rec (IntKind.i64.wrap (x0-(1:Int))) r63.2.1 r63.2.2) fun r65=>(.ask (decide ((⟨#[40]⟩:BA).size+r65.1.size≤9223372036854775807)) (.ask (decide (((⟨#[40]⟩:BA)++r65.1).size+(⟨#[41]⟩:BA).size≤9223372036854775807)) (.done ((((⟨#[40]⟩:BA)++r65.1)++(⟨#[41]⟩:BA)),r65.2.1,r65.2.2)) .fail) .fail)) (.ask ((r63.1==(2:Int))) (.opt (qB0 n r63.2.1 r63.2.2) fun r79=>(.opt (qP n (6:Int) r79.2.2.2.2.1 r79.2.2.2.2.2) fun r80=>(.ask (decide (6=([[(.s (⟨#[83,85,77]⟩:BA))],[(.s (⟨#[77,73,78]⟩:BA))],[(.s (⟨#[77,65,88]⟩:BA))],[(.s (⟨#[67,79,85,78,84]⟩:BA))],[(.s (⟨#[65,78,68]⟩:BA))],[(.s (⟨#[79,82]⟩:BA))]]:RW).length∧0≤r80.1∧r80.1<((6:Nat):Int))) (.opt (([[(.s (⟨#[83,85,77]⟩:BA))],[(.s (⟨#[77,73,78]⟩:BA))],[(.s (⟨#[77,65,88]⟩:BA))],[(.s (⟨#[67,79,85,78,84]⟩:BA))],[(.s (⟨#[65,78,68]⟩:BA))],[(.s (⟨#[79,82]⟩:BA))]]:RW)[(r80.1).toNat]?) fun e81=>(.opt (zh e81 0) fun y82=>(.ask (decide (y82.size+(⟨#[40]⟩:BA).size≤9223372036854775807)) (.opt (qi n r79.1 r79.2.1 false false) fun r83=>(.ask (decide ((y82++(⟨#[40]⟩:BA)).size+r83.size≤9223372036854775807)) (.ask (decide (((y82++(⟨#[40]⟩:BA))++r83).size+(⟨#[58]⟩:BA).size≤9223372036854775807)) (.opt (qi n r79.2.2.1 r79.2.2.2.1 false false) fun r84=>(.ask (decide ((((y82++(⟨#[40]⟩:BA))++r83)++(⟨#[58]⟩:BA)).size+r84.size≤9223372036854775807)) (.ask (decide (((((y82++(⟨#[40]⟩:BA))++r83)++(⟨#[58]⟩:BA))++r84).size+(⟨#[44]⟩:BA).size≤9223372036854775807)) (.opt (rec (IntKind.i64.wrap (x0-(1:Int))) r80.2.1 r80.2.2) fun r85=>(.ask (decide ((((((y82++(⟨#[40]⟩:BA))++r83)++(⟨#[58]⟩:BA))++r84)++(⟨#[44]⟩:BA)).size+r85.1.size≤9223372036854775807)) (.ask (decide (((((((y82++(⟨#[40]⟩:BA))++r83)++(⟨#[58]⟩:BA))++r84)++(⟨#[44]⟩:BA))++r85.1).size+(⟨#[41]⟩:BA).size≤9223372036854775807)) (.done ((((((((y82++(⟨#[40]⟩:BA))++r83)++(⟨#[58]⟩:BA))++r84)++(⟨#[44]⟩:BA))++r85.1)++(⟨#[41]⟩:BA)),r85.2.1,r85.2.2)) .fail) .fail)) .fail) .fail)) .fail) .fail)) .fail))) .fail))) (.ask ((r63.1==(3:Int))) (.opt (qB0 n r63.2.1 r63.2.2) fun r86=>(.opt (qP n (6:Int) r86.2.2.2.2.1 r86.2.2.2.2.2) fun r87=>(.ask (decide (6=([[(.s (⟨#[83,85,77]⟩:BA))],[(.s (⟨#[77,73,78]⟩:BA))],[(.s (⟨#[77,65,88]⟩:BA))],[(.s (⟨#[67,79,85,78,84]⟩:BA))],[(.s (⟨#[65,78,68]⟩:BA))],[(.s (⟨#[79,82]⟩:BA))]]:RW).length∧0≤r87.1∧r87.1<((6:Nat):Int))) (.opt (([[(.s (⟨#[83,85,77]⟩:BA))],[(.s (⟨#[77,73,78]⟩:BA))],[(.s (⟨#[77,65,88]⟩:BA))],[(.s (⟨#[67,79,85,78,84]⟩:BA))],[(.s (⟨#[65,78,68]⟩:BA))],[(.s (⟨#[79,82]⟩:BA))]]:RW)[(r87.1).toNat]?) fun e88=>(.opt (zh e88 0) fun y89=>(.ask (decide (y89.size+(⟨#[40]⟩:BA).size≤9223372036854775807)) (.opt (qi n r86.1 r86.2.1 false false) fun r90=>(.ask (decide ((y89++(⟨#[40]⟩:BA)).size+r90.size≤9223372036854775807)) (.ask (decide (((y89++(⟨#[40]⟩:BA))++r90).size+(⟨#[58]⟩:BA).size≤9223372036854775807)) (.opt (qi n r86.2.2.1 r86.2.2.2.1 false false) fun r91=>(.ask (decide ((((y89++(⟨#[40]⟩:BA))++r90)++(⟨#[58]⟩:BA)).size+r91.size≤9223372036854775807)) (.ask (decide (((((y89++(⟨#[40]⟩:BA))++r90)++(⟨#[58]⟩:BA))++r91).size+(⟨#[44]⟩:BA).size≤9223372036854775807)) (.opt (rec (IntKind.i64.wrap (x0-(1:Int))) r87.2.1 r87.2.2) fun r92=>(.ask (decide ((((((y89++(⟨#[40]⟩:BA))++r90)++(⟨#[58]⟩:BA))++r91)++(⟨#[44]⟩:BA)).size+r92.1.size≤9223372036854775807)) (.ask (decide (((((((y89++(⟨#[40]⟩:BA))++r90)++(⟨#[58]⟩:BA))++r91)++(⟨#[44]⟩:BA))++r92.1).size+(⟨#[41]⟩:BA).size≤9223372036854775807)) (.done ((((((((y89++(⟨#[40]⟩:BA))++r90)++(⟨#[58]⟩:BA))++r91)++(⟨#[44]⟩:BA))++r92.1)++(⟨#[41]⟩:BA)),r92.2.1,r92.2.2)) .fail) .fail)) .fail) .fail)) .fail) .fail)) .fail))) .fail))) (.ask ((r63.1==(4:Int))) (.opt (rec (IntKind.i64.wrap (x0-(1:Int))) r63.2.1 r63.2.2) fun r93=>(.ask (decide ((⟨#[73,70,40]⟩:BA).size+r93.1.size≤9223372036854775807)) (.ask (decide (((⟨#[73,70,40]⟩:BA)++r93.1).size+(⟨#[44]⟩:BA).size≤9223372036854775807)) (.opt (rec (IntKind.i64.wrap (x0-(1:Int))) r93.2.1 r93.2.2) fun r94=>(.ask (decide ((((⟨#[73,70,40]⟩:BA)++r93.1)++(⟨#[44]⟩:BA)).size+r94.1.size≤9223372036854775807)) (.ask (decide (((((⟨#[73,70,40]⟩:BA)++r93.1)++(⟨#[44]⟩:BA))++r94.1).size+(⟨#[44]⟩:BA).size≤9223372036854775807)) (.opt (rec (IntKind.i64.wrap (x0-(1:Int))) r94.2.1 r94.2.2) fun r95=>(.ask (decide ((((((⟨#[73,70,40]⟩:BA)++r93.1)++(⟨#[44]⟩:BA))++r94.1)++(⟨#[44]⟩:BA)).size+r95.1.size≤9223372036854775807)) (.ask (decide (((((((⟨#[73,70,40]⟩:BA)++r93.1)++(⟨#[44]⟩:BA))++r94.1)++(⟨#[44]⟩:BA))++r95.1).size+(⟨#[41]⟩:BA).size≤9223372036854775807)) (.done ((((((((⟨#[73,70,40]⟩:BA)++r93.1)++(⟨#[44]⟩:BA))++r94.1)++(⟨#[44]⟩:BA))++r95.1)++(⟨#[41]⟩:BA)),r95.2.1,r95.2.2)) .fail) .fail)) .fail) .fail)) .fail) .fail)) (.ask ((r63.1==(5:Int))) (.opt (qP n (3:Int) r63.2.1 r63.2.2) fun r96=>(.ask (decide (3=([[(.s (⟨#[78,79,84]⟩:BA))],[(.s (⟨#[65,66,83]⟩:BA))],[(.s (⟨#[76,69,78]⟩:BA))]]:RW).length∧0≤r96.1∧r96.1<((3:Nat):Int))) (.opt (([[(.s (⟨#[78,79,84]⟩:BA))],[(.s (⟨#[65,66,83]⟩:BA))],[(.s (⟨#[76,69,78]⟩:BA))]]:RW)[(r96.1).toNat]?) fun e97=>(.opt (zh e97 0) fun y98=>(.ask (decide (y98.size+(⟨#[40]⟩:BA).size≤9223372036854775807)) (.opt (rec (IntKind.i64.wrap (x0-(1:Int))) r96.2.1 r96.2.2) fun r99=>(.ask (decide ((y98++(⟨#[40]⟩:BA)).size+r99.1.size≤9223372036854775807)) (.ask (decide (((y98++(⟨#[40]⟩:BA))++r99.1).size+(⟨#[41]⟩:BA).size≤9223372036854775807)) (.done ((((y98++(⟨#[40]⟩:BA))++r99.1)++(⟨#[41]⟩:BA)),r99.2.1,r99.2.2)) .fail) .fail)) .fail))) .fail)) (.opt (rec (IntKind.i64.wrap (x0-(1:Int))) r63.2.1 r63.2.2) fun r100=>(.opt (qP n (11:Int) r100.2.1 r100.2.2) fun r101=>(.opt (qCT n (IntKind.i64.wrap ((1:Int)+r101.1))) fun r104=>(.ask (decide (r100.1.size+r104.size≤9223372036854775807)) (.opt (rec (IntKind.i64.wrap (x0-(1:Int))) r101.2.1 r101.2.2) fun r105=>(.ask (decide ((r100.1++r104).size+r105.1.size≤9223372036854775807)) (.done (((r100.1++r104)++r105.1),r105.2.1,r105.2.2)) .fail)) .fail))))))))))))))
def qAE:Nat→Int→RW→Int→Option (BA×RW×Int)
 |0,_,_,_=>none
 |n+1,x0,x1,x2=>(qCE (qAE n) n x0 x1 x2).run
abbrev qJl (n:Nat) (ih:Ok (Rn n) qFp (qAE n)):List (Ent (Rn n)):= [en (qAs n),en (qGR n),en (qDu n),en (qJh n),en (qEZ n),en ih,en (qJk n),en (qHl n)]
theorem qFE:∀n,Ok (Rn n) qFp (qAE n)
 |0=>ok0 fun _=>rfl
 |n+1=>stO (T:=qCE (qAE n) n) (by kernel_rfl) (qJl n (qFE n)) [] (fun _=>(by kernel_rfl)) fun _=>(by kernel_rfl)
def qJm:Sg:=⟨100,[(.c (.ptr 0 0 0 0 0)),aI],[[(0,⟨0,2,112,(.box [qL,qI])⟩)]],⟨aS,[[(0,⟨0,2,112,(.box [qL,qI])⟩)]],[]⟩⟩
def qBh (n:Nat) (v:Nat×Int×RW×RW×Int):Tr ((Nat×Int×RW×RW×Int)⊕((Nat×RW×RW×Int))):=(.ask ((decide (v.2.1>(0:Int)))) (.opt (qP n (256:Int) v.2.2.2.1 v.2.2.2.2) fun r110=>(.ask (decide (1=([[(.i .u8 (IntKind.u8.wrap r110.1))]]:RW).length)) (.ask (decide (v.1=v.2.2.1.length∧0<1∧0<1∧(v.1+([[(.i .u8 (IntKind.u8.wrap r110.1))]]:RW).length)*1≤140737488355328∧([[(.i .u8 (IntKind.u8.wrap r110.1))]]:RW).all (fun e=>e.length==1)=true)) (.done (.inl ((v.1+1),(IntKind.i64.wrap (v.2.1-(1:Int))),(v.2.2.1++([[(.i .u8 (IntKind.u8.wrap r110.1))]]:RW)),r110.2.1,r110.2.2))) .fail) .fail)) (.done (.inr ((v.1,v.2.2.1,v.2.2.2.1,v.2.2.2.2)))))
def qDx (n:Nat) (x0:Int) (x1:RW) (x2:Int):Tr (BA×RW×Int):=(.opt (qP n (IntKind.i64.wrap (x0+(1:Int))) x1 x2) fun r109=>(.opt (zD (qBh n) n ((0:Nat),r109.1,([]:RW),r109.2.1,r109.2.2)) fun r111=>(.ask (decide (r111.1=r111.2.1.length)) (.opt (bytesOf r111.2.1) fun l112=>(.done ((⟨l112.toArray⟩:BA),r111.2.2.1,r111.2.2.2))) .fail)))
def qCF:Nat→Int→RW→Int→Option (BA×RW×Int)
 |0,_,_,_=>none
 |n+1,x0,x1,x2=>(qDx n x0 x1 x2).run
abbrev qFq (n:Nat):List (Ent (Rn n)):= [en (qAs n)]
def qHm (n:Nat):LEnt (KB 100) (Rn n) n:=lok (zW 100) 29 ⟨⟨[(0,(.c (.ptr 0 0 0 0 0))),(5,(.c (.own 1 448 0 0))),(6,aI)],[(448,⟨0,1,5,(.row [])⟩)],[[(0,⟨0,2,112,(.box [qL,qI])⟩)]]⟩,[(.exit 0,⟨[(5,(.c (.own 1 448 0 0)))],[(448,⟨0,1,5,(.row [])⟩)],[[(0,⟨0,2,112,(.box [qL,qI])⟩)]]⟩)]⟩ (qBh n) (qFq n) [] fun _=>(by kernel_rfl)
theorem qI8:∀n,Ok (Rn n) qJm (qCF n)
 |0=>ok0 fun _=>rfl
 |n+1=>stO (T:=qDx n) (by kernel_rfl) (qFq n) [qHm n] (fun _=>(by kernel_rfl)) fun _=>(by kernel_rfl)
def qKe:Sg:=⟨45,[(.c (.ptr 0 0 0 0 0)),aS],[[(0,⟨0,2,112,(.box [qL,qI])⟩)]],⟨aS,[[(0,⟨0,2,112,(.box [qL,qI])⟩)]],[]⟩⟩
def qBS (n:Nat) (x0:BA) (x1:RW) (x2:Int):Tr (BA×RW×Int):=(.opt (qP n (6:Int) x1 x2) fun r108=>(.ask ((r108.1==(0:Int))) (.opt (qCF n (2:Int) r108.2.1 r108.2.2) fun r113=>(.ask (decide (x0.size+r113.1.size≤9223372036854775807)) (.done ((x0++r113.1),r113.2.1,r113.2.2)) .fail)) (.ask ((r108.1==(1:Int))) (.opt (qP n (IntKind.i64.wrap ((x0.size:Int)+(1:Int))) r108.2.1 r108.2.2) fun r114=>(.ask (decide (0≤(0:Int)∧(0:Int)≤r114.1∧r114.1≤x0.size)) (.done ((x0.extract ((0:Int)).toNat (r114.1).toNat),r114.2.1,r114.2.2)) .fail)) (.ask ((r108.1==(2:Int))) (.ask ((decide ((x0.size:Int)>(0:Int)))) (.opt (qP n (x0.size:Int) r108.2.1 r108.2.2) fun r115=>(.ask (decide (0≤(0:Int)∧(0:Int)≤r115.1∧r115.1≤x0.size)) (.ask (decide (0≤(IntKind.i64.wrap (r115.1+(1:Int)))∧(IntKind.i64.wrap (r115.1+(1:Int)))≤(x0.size:Int)∧(x0.size:Int)≤x0.size)) (.opt (qP n (6:Int) r115.2.1 r115.2.2) fun r116=>(.ask (decide (6=([[(.s (⟨#[65]⟩:BA))],[(.s (⟨#[49]⟩:BA))],[(.s (⟨#[40]⟩:BA))],[(.s (⟨#[44]⟩:BA))],[(.s (⟨#[34]⟩:BA))],[(.s (⟨#[32]⟩:BA))]]:RW).length∧0≤r116.1∧r116.1<((6:Nat):Int))) (.opt (([[(.s (⟨#[65]⟩:BA))],[(.s (⟨#[49]⟩:BA))],[(.s (⟨#[40]⟩:BA))],[(.s (⟨#[44]⟩:BA))],[(.s (⟨#[34]⟩:BA))],[(.s (⟨#[32]⟩:BA))]]:RW)[(r116.1).toNat]?) fun e117=>(.opt (zh e117 0) fun y118=>(.ask (decide ((x0.extract ((0:Int)).toNat (r115.1).toNat).size+y118.size≤9223372036854775807)) (.ask (decide (((x0.extract ((0:Int)).toNat (r115.1).toNat)++y118).size+(x0.extract ((IntKind.i64.wrap (r115.1+(1:Int)))).toNat ((x0.size:Int)).toNat).size≤9223372036854775807)) (.done ((((x0.extract ((0:Int)).toNat (r115.1).toNat)++y118)++(x0.extract ((IntKind.i64.wrap (r115.1+(1:Int)))).toNat ((x0.size:Int)).toNat)),r116.2.1,r116.2.2)) .fail) .fail))) .fail)) .fail) .fail)) (.done (x0,r108.2.1,r108.2.2))) (.done (x0,r108.2.1,r108.2.2))))))
def qAw:Nat→BA→RW→Int→Option (BA×RW×Int)
 |0,_,_,_=>none
 |n+1,x0,x1,x2=>(qBS n x0 x1 x2).run
abbrev qKf (n:Nat):List (Ent (Rn n)):= [en (qAs n),en (qI8 n)]
theorem qJn:∀n,Ok (Rn n) qKe (qAw n)
 |0=>ok0 fun _=>rfl
 |n+1=>stO (T:=qBS n) (by kernel_rfl) (qKf n) [] (fun _=>(by kernel_rfl)) fun _=>(by kernel_rfl)
def qGt:Sg:=⟨15,[aL],[],⟨aS,[],[]⟩⟩
def qCo (n:Nat) (x0:RW):Tr (BA):=(.opt (qEX n x0) fun r2=>(.opt (qAE n (3:Int) r2.1 r2.2) fun r106=>(.opt (qP n (6:Int) r106.2.1 r106.2.2) fun r107=>(.ask ((r107.1==(0:Int))) (.opt (qAw n r106.1 r107.2.1 r107.2.2) fun r119=>(.done r119.1)) (.ask ((r107.1==(1:Int))) (.opt (qP n (17:Int) r107.2.1 r107.2.2) fun r120=>(.ask (decide (17=([[(.s (⟨#[]⟩:BA))],[(.s (⟨#[49,43]⟩:BA))],[(.s (⟨#[65,49,58,66,50]⟩:BA))],[(.s (⟨#[83,85,77,40,41]⟩:BA))],[(.s (⟨#[73,70,40,49,41]⟩:BA))],[(.s (⟨#[83,85,77,40,66,50,58,65,49,41]⟩:BA))],[(.s (⟨#[49,32,43,32,65,49,32]⟩:BA))],[(.s (⟨#[45,45,49]⟩:BA))],[(.s (⟨#[49,60,50,60,51]⟩:BA))],[(.s (⟨#[78,79,84,40,49,44,50,41]⟩:BA))],[(.s (⟨#[35,88,33]⟩:BA))],[(.s (⟨#[35,32,68,73,86,33]⟩:BA))],[(.s (⟨#[34,97]⟩:BA))],[(.s (⟨#[97,49]⟩:BA))],[(.s (⟨#[65,49,66]⟩:BA))],[(.s (⟨#[40,49]⟩:BA))],[(.s (⟨#[49,41]⟩:BA))]]:RW).length∧0≤r120.1∧r120.1<((17:Nat):Int))) (.opt (([[(.s (⟨#[]⟩:BA))],[(.s (⟨#[49,43]⟩:BA))],[(.s (⟨#[65,49,58,66,50]⟩:BA))],[(.s (⟨#[83,85,77,40,41]⟩:BA))],[(.s (⟨#[73,70,40,49,41]⟩:BA))],[(.s (⟨#[83,85,77,40,66,50,58,65,49,41]⟩:BA))],[(.s (⟨#[49,32,43,32,65,49,32]⟩:BA))],[(.s (⟨#[45,45,49]⟩:BA))],[(.s (⟨#[49,60,50,60,51]⟩:BA))],[(.s (⟨#[78,79,84,40,49,44,50,41]⟩:BA))],[(.s (⟨#[35,88,33]⟩:BA))],[(.s (⟨#[35,32,68,73,86,33]⟩:BA))],[(.s (⟨#[34,97]⟩:BA))],[(.s (⟨#[97,49]⟩:BA))],[(.s (⟨#[65,49,66]⟩:BA))],[(.s (⟨#[40,49]⟩:BA))],[(.s (⟨#[49,41]⟩:BA))]]:RW)[(r120.1).toNat]?) fun e121=>(.opt (zh e121 0) fun y122=>(.done y122))) .fail)) (.done r106.1))))))
def qCp:Nat→RW→Option (BA)
 |0,_=>none
 |n+1,x0=>(qCo n x0).run
abbrev qGu (n:Nat):List (Ent (Rn n)):= [en (qLx n),en (qFE n),en (qAs n),en (qJn n)]
theorem qGT:∀n,Ok (Rn n) qGt (qCp n)
 |0=>ok0 fun _=>rfl
 |n+1=>stO (T:=qCo n) (by kernel_rfl) (qGu n) [] (fun _=>(by kernel_rfl)) fun _=>(by kernel_rfl)
def qMm:Sg:=⟨35,[aS,aI],[],⟨aB,[],[]⟩⟩
def qBT (n:Nat) (v:BA×Int×Int×Int):Tr ((BA×Int×Int×Int)⊕((Bool)⊕(BA×Int))):=(.ask ((decide (v.2.2.2<v.2.2.1))) (.ask (decide (0≤v.2.2.2)) (.opt (v.1.toList[(v.2.2.2).toNat]?) fun c124=>(.ask ((decide ((c124.toNat:Int)<(32:Int)))) (.done (.inr (.inl (false)))) (.ask (decide (0≤v.2.2.2)) (.opt (v.1.toList[(v.2.2.2).toNat]?) fun c125=>(.ask ((decide ((c125.toNat:Int)>(126:Int)))) (.done (.inr (.inl (false)))) (.done (.inl (v.1,v.2.1,v.2.2.1,(IntKind.i64.wrap (v.2.2.2+(1:Int)))))))) .fail))) .fail) (.done (.inr (.inr ((v.1,v.2.1))))))
def qF5 (n:Nat) (x0:BA) (x1:Int):Tr (Bool):=(.opt (zD (qBT n) n (x0,x1,(x0.size:Int),(0:Int))) fun r126=>(.alt r126 (fun r127=>(.done r127)) (fun r128=>(.done (decide ((r128.1.size:Int)≤r128.2))))))
def qDZ:Nat→BA→Int→Option (Bool)
 |0,_,_=>none
 |n+1,x0,x1=>(qF5 n x0 x1).run
def qKg (n:Nat):LEnt (KB 35) (Rn n) n:=lok (zW 35) 13 ⟨⟨[(0,aS),(1,aI),(7,aI),(8,aI)],[],[]⟩,[(.ret,⟨[(4,aB)],[],[]⟩),(.exit 0,⟨[(0,aS),(1,aI)],[],[]⟩)]⟩ (qBT n) [] [] fun _=>(by kernel_rfl)
theorem qHn:∀n,Ok (Rn n) qMm (qDZ n)
 |0=>ok0 fun _=>rfl
 |n+1=>stO (T:=qF5 n) (by kernel_rfl) [] [qKg n] (fun _=>(by kernel_rfl)) fun _=>(by kernel_rfl)
def qFF:Sg:=⟨90,[aS,aS],[],⟨aS,[],[]⟩⟩
def qBA:Nat→BA→BA→Option ((BA))
 |0,_,_=>none
 |n+1,x0,x1=>zK x0 x1
theorem qDQ:∀n,Ok (Rn n) qFF (qBA n)
 |0=>ok0 fun _=>rfl
 |n+1=>stL (by kernel_rfl) (fun a r e=>congrArg (Option.map fun r=>(qFF.Of r).v) e) rfl rfl rfl
def qHo:Sg:=⟨37,[(.c (.ptr 0 0 0 0 0))],[[(0,⟨0,3,55,(.box [qS,(.own 0 1 1 0),qB])⟩),(1,⟨1,14,64,(.row [])⟩)]],⟨(.tup []),[[(0,⟨0,3,55,(.box [qS,(.own 0 1 1 0),qB])⟩),(1,⟨1,14,64,(.row [])⟩)]],[]⟩⟩
def qC3 (n:Nat) (x0:BA) (x1:Nat) (x2:Bool) (x3:RW):Tr (BA×Nat×Bool×RW):=(.opt (qBA n x0 (⟨#[32]⟩:BA)) fun r130=>(.done (r130,x1,x2,x3)))
def qAt:Nat→BA→Nat→Bool→RW→Option (BA×Nat×Bool×RW)
 |0,_,_,_,_=>none
 |n+1,x0,x1,x2,x3=>(qC3 n x0 x1 x2 x3).run
abbrev qHp (n:Nat):List (Ent (Rn n)):= [en (qDQ n)]
theorem qB7:∀n,Ok (Rn n) qHo (qAt n)
 |0=>ok0 fun _=>rfl
 |n+1=>stO (T:=qC3 n) (by kernel_rfl) (qHp n) [] (fun _=>(by kernel_rfl)) fun _=>(by kernel_rfl)
def qDy:Sg:=⟨123,[aS,aS],[],⟨aB,[],[]⟩⟩
def qAb (n:Nat) (x0 x1:BA):Tr (Bool):=(.ask ((decide ((x0.size:Int)≥(x1.size:Int)))) (.ask (decide (0≤(0:Int)∧(0:Int)≤(x1.size:Int)∧(x1.size:Int)≤x0.size)) (.done ((x0.extract ((0:Int)).toNat ((x1.size:Int)).toNat).toList==x1.toList)) .fail) (.done false))
def qAc:Nat→BA→BA→Option (Bool)
 |0,_,_=>none
 |n+1,x0,x1=>(qAb n x0 x1).run
theorem qDs:∀n,Ok (Rn n) qDy (qAc n)
 |0=>ok0 fun _=>rfl
 |n+1=>stO (T:=qAb n) (by kernel_rfl) [] [] (fun _=>(by kernel_rfl)) fun _=>(by kernel_rfl)
def qIc:Sg:=⟨69,[aS,aS],[],⟨aB,[],[]⟩⟩
def qCV (n:Nat) (x0 x1:BA):Tr (Bool):=(.opt (qAc n x0 x1) fun r134=>(.done r134))
def qn:Nat→BA→BA→Option (Bool)
 |0,_,_=>none
 |n+1,x0,x1=>(qCV n x0 x1).run
abbrev qId (n:Nat):List (Ent (Rn n)):= [en (qDs n)]
theorem qCG:∀n,Ok (Rn n) qIc (qn n)
 |0=>ok0 fun _=>rfl
 |n+1=>stO (T:=qCV n) (by kernel_rfl) (qId n) [] (fun _=>(by kernel_rfl)) fun _=>(by kernel_rfl)
def qI9:Sg:=⟨85,[(.c (.ptr 0 0 0 0 0))],[[(0,⟨0,3,55,(.box [qS,(.own 0 1 1 0),qB])⟩),(1,⟨1,14,64,(.row [])⟩)]],⟨aS,[[(0,⟨0,3,55,(.box [qS,(.own 0 1 1 0),qB])⟩),(1,⟨1,14,64,(.row [])⟩)]],[]⟩⟩
def qB8 (n:Nat) (v:Nat×Int×Int×RW×BA×Nat×Bool×RW):Tr ((Nat×Int×Int×RW×BA×Nat×Bool×RW)⊕((BA×BA×Nat×Bool×RW)⊕(BA×Nat×Bool×RW))):=(.ask ((decide (v.2.2.1<v.2.1))) (.ask (decide (v.1=v.2.2.2.1.length∧0≤v.2.2.1∧v.2.2.1<((v.1:Nat):Int))) (.opt (v.2.2.2.1[(v.2.2.1).toNat]?) fun e132=>(.opt (zh e132 0) fun y133=>(.opt (qn n v.2.2.2.2.1 y133) fun r134=>(.ask (r134) (.done (.inr (.inl ((y133,v.2.2.2.2.1,v.2.2.2.2.2.1,v.2.2.2.2.2.2.1,v.2.2.2.2.2.2.2))))) (.done (.inl (v.1,v.2.1,(IntKind.i64.wrap (v.2.2.1+(1:Int))),v.2.2.2.1,v.2.2.2.2.1,v.2.2.2.2.2.1,v.2.2.2.2.2.2.1,v.2.2.2.2.2.2.2))))))) .fail) (.done (.inr (.inr ((v.2.2.2.2.1,v.2.2.2.2.2.1,v.2.2.2.2.2.2.1,v.2.2.2.2.2.2.2))))))
def qFG (n:Nat) (x0:BA) (x1:Nat) (x2:Bool) (x3:RW):Tr (BA×BA×Nat×Bool×RW):=(.opt (qAt n x0 x1 x2 x3) fun r131=>(.opt (zD (qB8 n) n ((15:Nat),(15:Int),(0:Int),([[(.s (⟨#[60,62]⟩:BA))],[(.s (⟨#[60,61]⟩:BA))],[(.s (⟨#[62,61]⟩:BA))],[(.s (⟨#[60]⟩:BA))],[(.s (⟨#[62]⟩:BA))],[(.s (⟨#[61]⟩:BA))],[(.s (⟨#[38]⟩:BA))],[(.s (⟨#[43]⟩:BA))],[(.s (⟨#[45]⟩:BA))],[(.s (⟨#[42]⟩:BA))],[(.s (⟨#[47]⟩:BA))],[(.s (⟨#[40]⟩:BA))],[(.s (⟨#[41]⟩:BA))],[(.s (⟨#[44]⟩:BA))],[(.s (⟨#[58]⟩:BA))]]:RW),r131.1,r131.2.1,r131.2.2.1,r131.2.2.2)) fun r135=>(.alt r135 (fun r136=>(.done (r136.1,r136.2.1,r136.2.2.1,r136.2.2.2.1,r136.2.2.2.2))) (fun r137=>(.done ((⟨#[]⟩:BA),r137.1,r137.2.1,r137.2.2.1,r137.2.2.2))))))
def qBU:Nat→BA→Nat→Bool→RW→Option (BA×BA×Nat×Bool×RW)
 |0,_,_,_,_=>none
 |n+1,x0,x1,x2,x3=>(qFG n x0 x1 x2 x3).run
abbrev qFH (n:Nat):List (Ent (Rn n)):= [en (qB7 n),en (qCG n)]
def qHZ (n:Nat):LEnt (KB 85) (Rn n) n:=lok (zW 85) 29 ⟨⟨[(0,(.c (.ptr 0 0 0 0 0))),(7,(.c (.own 1 448 0 0))),(8,aI),(9,aI)],[(448,⟨0,1,9,(.row [])⟩)],[[(0,⟨0,3,55,(.box [qS,(.own 0 1 1 0),qB])⟩),(1,⟨1,14,64,(.row [])⟩)]]⟩,[(.ret,⟨[(2,aS)],[],[[(0,⟨0,3,55,(.box [qS,(.own 0 1 1 0),qB])⟩),(1,⟨1,14,64,(.row [])⟩)]]⟩),(.exit 0,⟨[],[],[[(0,⟨0,3,55,(.box [qS,(.own 0 1 1 0),qB])⟩),(1,⟨1,14,64,(.row [])⟩)]]⟩)]⟩ (qB8 n) (qFH n) [] fun _=>(by kernel_rfl)
theorem qEx:∀n,Ok (Rn n) qI9 (qBU n)
 |0=>ok0 fun _=>rfl
 |n+1=>stO (T:=qFG n) (by kernel_rfl) (qFH n) [qHZ n] (fun _=>(by kernel_rfl)) fun _=>(by kernel_rfl)
def qJA:Sg:=⟨88,[(.c (.ptr 0 0 0 0 0)),aS],[[(0,⟨0,3,55,(.box [qS,(.own 0 1 1 0),qB])⟩),(1,⟨1,14,64,(.row [])⟩)]],⟨aB,[[(0,⟨0,3,55,(.box [qS,(.own 0 1 1 0),qB])⟩),(1,⟨1,14,64,(.row [])⟩)]],[]⟩⟩
def qFI (n:Nat) (x0 x1:BA) (x2:Nat) (x3:Bool) (x4:RW):Tr (Bool×BA×Nat×Bool×RW):=(.opt (qBU n x1 x2 x3 x4) fun r138=>(.ask ((!(r138.1.toList==x0.toList))) (.done (false,r138.2.1,r138.2.2.1,r138.2.2.2.1,r138.2.2.2.2)) (.ask (decide (0≤(x0.size:Int)∧(x0.size:Int)≤(r138.2.1.size:Int)∧(r138.2.1.size:Int)≤r138.2.1.size)) (.done (true,(r138.2.1.extract ((x0.size:Int)).toNat ((r138.2.1.size:Int)).toNat),r138.2.2.1,r138.2.2.2.1,r138.2.2.2.2)) .fail)))
def ql:Nat→BA→BA→Nat→Bool→RW→Option (Bool×BA×Nat×Bool×RW)
 |0,_,_,_,_,_=>none
 |n+1,x0,x1,x2,x3,x4=>(qFI n x0 x1 x2 x3 x4).run
abbrev qJB (n:Nat):List (Ent (Rn n)):= [en (qEx n)]
theorem qBq:∀n,Ok (Rn n) qJA (ql n)
 |0=>ok0 fun _=>rfl
 |n+1=>stO (T:=qFI n) (by kernel_rfl) (qJB n) [] (fun _=>(by kernel_rfl)) fun _=>(by kernel_rfl)
def qJo:Sg:=⟨89,[(.c (.ptr 0 0 0 0 0)),(.agg [qI,qI,qI,qI,qS,qI,qI,qB,qB,qI,qI,qB,qB,qL])],[[(0,⟨0,3,55,(.box [qS,(.own 0 1 1 0),qB])⟩),(1,⟨1,14,64,(.row [])⟩)]],⟨aI,[[(0,⟨0,3,55,(.box [qS,(.own 0 1 1 0),qB])⟩),(1,⟨1,14,64,(.row [])⟩)]],[]⟩⟩
def qFr (n:Nat) (x0 x1 x2 x3:Int) (x4:BA) (x5 x6:Int) (x7 x8:Bool) (x9 x10:Int) (x11 x12:Bool) (x13:RW) (x14:BA) (x15:Nat) (x16:Bool) (x17:RW):Tr (Int×BA×Nat×Bool×RW):=(.ask (x16) (.ask (false) (.ask (decide (1=([[(.i .i64 x0),(.i .i64 x1),(.i .i64 x2),(.i .i64 x3),(.s x4),(.i .i64 x5),(.i .i64 x6),(.b x7),(.b x8),(.i .i64 x9),(.i .i64 x10),(.b x11),(.b x12),(.ls x13)]]:RW).length)) (.ask (decide (x15=x17.length∧0<14∧0<120∧(x15+([[(.i .i64 x0),(.i .i64 x1),(.i .i64 x2),(.i .i64 x3),(.s x4),(.i .i64 x5),(.i .i64 x6),(.b x7),(.b x8),(.i .i64 x9),(.i .i64 x10),(.b x11),(.b x12),(.ls x13)]]:RW).length)*120≤140737488355328∧([[(.i .i64 x0),(.i .i64 x1),(.i .i64 x2),(.i .i64 x3),(.s x4),(.i .i64 x5),(.i .i64 x6),(.b x7),(.b x8),(.i .i64 x9),(.i .i64 x10),(.b x11),(.b x12),(.ls x13)]]:RW).all (fun e=>e.length==14)=true)) (.done ((IntKind.i64.wrap ((((x15+1):Nat):Int)-(1:Int))),x14,(x15+1),true,(x17++([[(.i .i64 x0),(.i .i64 x1),(.i .i64 x2),(.i .i64 x3),(.s x4),(.i .i64 x5),(.i .i64 x6),(.b x7),(.b x8),(.i .i64 x9),(.i .i64 x10),(.b x11),(.b x12),(.ls x13)]]:RW)))) .fail) .fail) (.done ((IntKind.i64.wrap (((x15:Nat):Int)-(1:Int))),x14,x15,true,x17))) (.ask ((!(decide (((x15:Nat):Int)≥(60:Int))))) (.ask (decide (1=([[(.i .i64 x0),(.i .i64 x1),(.i .i64 x2),(.i .i64 x3),(.s x4),(.i .i64 x5),(.i .i64 x6),(.b x7),(.b x8),(.i .i64 x9),(.i .i64 x10),(.b x11),(.b x12),(.ls x13)]]:RW).length)) (.ask (decide (x15=x17.length∧0<14∧0<120∧(x15+([[(.i .i64 x0),(.i .i64 x1),(.i .i64 x2),(.i .i64 x3),(.s x4),(.i .i64 x5),(.i .i64 x6),(.b x7),(.b x8),(.i .i64 x9),(.i .i64 x10),(.b x11),(.b x12),(.ls x13)]]:RW).length)*120≤140737488355328∧([[(.i .i64 x0),(.i .i64 x1),(.i .i64 x2),(.i .i64 x3),(.s x4),(.i .i64 x5),(.i .i64 x6),(.b x7),(.b x8),(.i .i64 x9),(.i .i64 x10),(.b x11),(.b x12),(.ls x13)]]:RW).all (fun e=>e.length==14)=true)) (.done ((IntKind.i64.wrap ((((x15+1):Nat):Int)-(1:Int))),x14,(x15+1),(decide (((x15:Nat):Int)≥(60:Int))),(x17++([[(.i .i64 x0),(.i .i64 x1),(.i .i64 x2),(.i .i64 x3),(.s x4),(.i .i64 x5),(.i .i64 x6),(.b x7),(.b x8),(.i .i64 x9),(.i .i64 x10),(.b x11),(.b x12),(.ls x13)]]:RW)))) .fail) .fail) (.done ((IntKind.i64.wrap (((x15:Nat):Int)-(1:Int))),x14,x15,(decide (((x15:Nat):Int)≥(60:Int))),x17))))
def qm:Nat→Int→Int→Int→Int→BA→Int→Int→Bool→Bool→Int→Int→Bool→Bool→RW→BA→Nat→Bool→RW→Option (Int×BA×Nat×Bool×RW)
 |0,_,_,_,_,_,_,_,_,_,_,_,_,_,_,_,_,_,_=>none
 |n+1,x0,x1,x2,x3,x4,x5,x6,x7,x8,x9,x10,x11,x12,x13,x14,x15,x16,x17=>(qFr n x0 x1 x2 x3 x4 x5 x6 x7 x8 x9 x10 x11 x12 x13 x14 x15 x16 x17).run
theorem qB3:∀n,Ok (Rn n) qJo (qm n)
 |0=>ok0 fun _=>rfl
 |n+1=>stO (T:=qFr n) (by kernel_rfl) [] [] (fun _=>(by kernel_rfl)) fun _=>(by kernel_rfl)
def qIu:Sg:=⟨186,[aS,aS],[],⟨(.tup [(false,[qS]),(false,[qS]),(false,[qB])]),[],[]⟩⟩
def qF6:Nat→BA→BA→Option ((BA×BA×Bool))
 |0,_,_=>none
 |n+1,x0,x1=>zAI x0 x1
theorem qLz:∀n,Ok (Rn n) qIu (qF6 n)
 |0=>ok0 fun _=>rfl
 |n+1=>stL (by kernel_rfl) (fun a r e=>congrArg (Option.map fun r=>(qIu.Of r).v) e) rfl rfl rfl
def qGv:Sg:=⟨162,[(.c (.ptr 0 0 0 0 0)),(.agg [qI,qI,qS])],[[(0,⟨0,3,55,(.box [qS,(.own 0 1 1 0),qB])⟩),(1,⟨1,14,64,(.row [])⟩)]],⟨aI,[[(0,⟨0,3,55,(.box [qS,(.own 0 1 1 0),qB])⟩),(1,⟨1,14,64,(.row [])⟩)]],[]⟩⟩
def qDz (n:Nat) (x0 x1:Int) (x2 x3:BA) (x4:Nat) (x5:Bool) (x6:RW):Tr (Int×BA×Nat×Bool×RW):=(.opt (qm n (1:Int) (0:Int) x0 x1 x2 (0:Int) (0:Int) false false (0:Int) (0:Int) false false ([]:RW) x3 x4 x5 x6) fun r149=>(.done (r149.1,r149.2.1,r149.2.2.1,r149.2.2.2.1,r149.2.2.2.2)))
def qh:Nat→Int→Int→BA→BA→Nat→Bool→RW→Option (Int×BA×Nat×Bool×RW)
 |0,_,_,_,_,_,_,_=>none
 |n+1,x0,x1,x2,x3,x4,x5,x6=>(qDz n x0 x1 x2 x3 x4 x5 x6).run
abbrev qGw (n:Nat):List (Ent (Rn n)):= [en (qB3 n)]
theorem qDo:∀n,Ok (Rn n) qGv (qh n)
 |0=>ok0 fun _=>rfl
 |n+1=>stO (T:=qDz n) (by kernel_rfl) (qGw n) [] (fun _=>(by kernel_rfl)) fun _=>(by kernel_rfl)
def qHq:Sg:=⟨161,[(.c (.ptr 0 0 0 0 0))],[[(0,⟨0,3,55,(.box [qS,(.own 0 1 1 0),qB])⟩),(1,⟨1,14,64,(.row [])⟩)]],⟨aI,[[(0,⟨0,3,55,(.box [qS,(.own 0 1 1 0),qB])⟩),(1,⟨1,14,64,(.row [])⟩)]],[]⟩⟩
def qCb (n:Nat) (v:BA×BA×BA×Nat×Bool×RW):Tr ((BA×BA×BA×Nat×Bool×RW)⊕((Int×BA×Nat×Bool×RW)⊕(BA×BA×BA×Nat×Bool×RW))):=(.opt (qF6 n v.2.1 (⟨#[34]⟩:BA)) fun r144=>(.ask ((!r144.2.2)) (.done (.inr (.inl (((-1:Int),v.2.2.1,v.2.2.2.1,true,v.2.2.2.2.2))))) (.ask (decide (v.1.size+r144.1.size≤9223372036854775807)) (.opt (qn n r144.2.1 (⟨#[34]⟩:BA)) fun r145=>(.ask ((!r145)) (.done (.inr (.inr (((v.1++r144.1),r144.2.1,v.2.2.1,v.2.2.2.1,v.2.2.2.2.1,v.2.2.2.2.2))))) (.ask (decide ((v.1++r144.1).size+(⟨#[34]⟩:BA).size≤9223372036854775807)) (.ask (decide (0≤(1:Int)∧(1:Int)≤(r144.2.1.size:Int)∧(r144.2.1.size:Int)≤r144.2.1.size)) (.done (.inl (((v.1++r144.1)++(⟨#[34]⟩:BA)),(r144.2.1.extract ((1:Int)).toNat ((r144.2.1.size:Int)).toNat),v.2.2.1,v.2.2.2.1,v.2.2.2.2.1,v.2.2.2.2.2))) .fail) .fail))) .fail)))
def qEg (n:Nat) (x0:BA) (x1:Nat) (x2:Bool) (x3:RW):Tr (Int×BA×Nat×Bool×RW):=(.ask (decide (0≤(1:Int)∧(1:Int)≤(x0.size:Int)∧(x0.size:Int)≤x0.size)) (.opt (zD (qCb n) n ((⟨#[]⟩:BA),(x0.extract ((1:Int)).toNat ((x0.size:Int)).toNat),x0,x1,x2,x3)) fun r146=>(.alt r146 (fun r147=>(.done (r147.1,r147.2.1,r147.2.2.1,r147.2.2.2.1,r147.2.2.2.2))) (fun r148=>(.opt (qh n (2:Int) (0:Int) r148.1 r148.2.1 r148.2.2.2.1 r148.2.2.2.2.1 r148.2.2.2.2.2) fun r150=>(.done (r150.1,r150.2.1,r150.2.2.1,r150.2.2.2.1,r150.2.2.2.2)))))) .fail)
def qC4:Nat→BA→Nat→Bool→RW→Option (Int×BA×Nat×Bool×RW)
 |0,_,_,_,_=>none
 |n+1,x0,x1,x2,x3=>(qEg n x0 x1 x2 x3).run
abbrev qEh (n:Nat):List (Ent (Rn n)):= [en (qLz n),en (qCG n),en (qDo n)]
def qGU (n:Nat):LEnt (KB 161) (Rn n) n:=lok (zW 161) 14 ⟨⟨[(0,(.c (.ptr 0 0 0 0 0))),(3,aS),(4,aS)],[],[[(0,⟨0,3,55,(.box [qS,(.own 0 1 1 0),qB])⟩),(1,⟨1,14,64,(.row [])⟩)]]⟩,[(.ret,⟨[(2,aI)],[],[[(0,⟨0,3,55,(.box [qS,(.own 0 1 1 0),qB])⟩),(1,⟨1,14,64,(.row [])⟩)]]⟩),(.exit 0,⟨[(0,(.c (.ptr 0 0 0 0 0))),(3,aS),(4,aS)],[],[[(0,⟨0,3,55,(.box [qS,(.own 0 1 1 0),qB])⟩),(1,⟨1,14,64,(.row [])⟩)]]⟩)]⟩ (qCb n) (qEh n) [] fun _=>(by kernel_rfl)
theorem qHa:∀n,Ok (Rn n) qHq (qC4 n)
 |0=>ok0 fun _=>rfl
 |n+1=>stO (T:=qEg n) (by kernel_rfl) (qEh n) [qGU n] (fun _=>(by kernel_rfl)) fun _=>(by kernel_rfl)
def qKh:Sg:=⟨70,[aI],[],⟨aS,[],[]⟩⟩
def qEP (n:Nat) (x0:Int):Tr (BA):=(.ask (decide (6=([[(.s (⟨#[]⟩:BA))],[(.s (⟨#[35,68,73,86,33]⟩:BA))],[(.s (⟨#[35,84,89,80,69,33]⟩:BA))],[(.s (⟨#[35,82,69,70,33]⟩:BA))],[(.s (⟨#[35,79,86,69,82,33]⟩:BA))],[(.s (⟨#[35,67,89,67,76,69,33]⟩:BA))]]:RW).length∧0≤x0∧x0<((6:Nat):Int))) (.opt (([[(.s (⟨#[]⟩:BA))],[(.s (⟨#[35,68,73,86,33]⟩:BA))],[(.s (⟨#[35,84,89,80,69,33]⟩:BA))],[(.s (⟨#[35,82,69,70,33]⟩:BA))],[(.s (⟨#[35,79,86,69,82,33]⟩:BA))],[(.s (⟨#[35,67,89,67,76,69,33]⟩:BA))]]:RW)[(x0).toNat]?) fun e153=>(.opt (zh e153 0) fun y154=>(.done y154))) .fail)
def qAN:Nat→Int→Option (BA)
 |0,_=>none
 |n+1,x0=>(qEP n x0).run
theorem qD0:∀n,Ok (Rn n) qKh (qAN n)
 |0=>ok0 fun _=>rfl
 |n+1=>stO (T:=qEP n) (by kernel_rfl) [] [] (fun _=>(by kernel_rfl)) fun _=>(by kernel_rfl)
def qEy:Sg:=⟨59,[aS,aS],[],⟨(.tup [(false,[qS]),(false,[qB])]),[],[]⟩⟩
def qAL:Nat→BA→BA→Option ((BA×Bool))
 |0,_,_=>none
 |n+1,x0,x1=>zT x0 x1
theorem qC5:∀n,Ok (Rn n) qEy (qAL n)
 |0=>ok0 fun _=>rfl
 |n+1=>stL (by kernel_rfl) (fun a r e=>congrArg (Option.map fun r=>(qEy.Of r).v) e) rfl rfl rfl
def qNc:Sg:=⟨71,[aI],[],⟨(.agg [qI,qI,qS]),[],[]⟩⟩
def qGx (n:Nat) (x0:Int):Tr (Int×Int×BA):=(.done ((4:Int),x0,(⟨#[]⟩:BA)))
def qBe:Nat→Int→Option (Int×Int×BA)
 |0,_=>none
 |n+1,x0=>(qGx n x0).run
theorem qIv:∀n,Ok (Rn n) qNc (qBe n)
 |0=>ok0 fun _=>rfl
 |n+1=>stO (T:=qGx n) (by kernel_rfl) [] [] (fun _=>(by kernel_rfl)) fun _=>(by kernel_rfl)
def qJC:Sg:=⟨163,[(.c (.ptr 0 0 0 0 0))],[[(0,⟨0,3,55,(.box [qS,(.own 0 1 1 0),qB])⟩),(1,⟨1,14,64,(.row [])⟩)]],⟨aS,[[(0,⟨0,3,55,(.box [qS,(.own 0 1 1 0),qB])⟩),(1,⟨1,14,64,(.row [])⟩)]],[]⟩⟩
def qFJ (n:Nat) (x0:BA) (x1:Nat) (x2:Bool) (x3:RW):Tr (BA×BA×Nat×Bool×RW):=(.opt (qAt n x0 x1 x2 x3) fun r160=>(.opt (qBA n r160.1 (⟨#[65,66,67,68,69,70,71,72,73,74,75,76,77,78,79,80,81,82,83,84,85,86,87,88,89,90,48,49,50,51,52,53,54,55,56,57,36]⟩:BA)) fun r161=>(.ask (decide (0≤(0:Int)∧(0:Int)≤(IntKind.i64.wrap ((r160.1.size:Int)-(r161.size:Int)))∧(IntKind.i64.wrap ((r160.1.size:Int)-(r161.size:Int)))≤r160.1.size)) (.ask (decide (0≤(IntKind.i64.wrap ((r160.1.size:Int)-(r161.size:Int)))∧(IntKind.i64.wrap ((r160.1.size:Int)-(r161.size:Int)))≤(r160.1.size:Int)∧(r160.1.size:Int)≤r160.1.size)) (.done ((r160.1.extract ((0:Int)).toNat ((IntKind.i64.wrap ((r160.1.size:Int)-(r161.size:Int)))).toNat),(r160.1.extract ((IntKind.i64.wrap ((r160.1.size:Int)-(r161.size:Int)))).toNat ((r160.1.size:Int)).toNat),r160.2.1,r160.2.2.1,r160.2.2.2)) .fail) .fail)))
def qBB:Nat→BA→Nat→Bool→RW→Option (BA×BA×Nat×Bool×RW)
 |0,_,_,_,_=>none
 |n+1,x0,x1,x2,x3=>(qFJ n x0 x1 x2 x3).run
abbrev qJD (n:Nat):List (Ent (Rn n)):= [en (qB7 n),en (qDQ n)]
theorem qEz:∀n,Ok (Rn n) qJC (qBB n)
 |0=>ok0 fun _=>rfl
 |n+1=>stO (T:=qFJ n) (by kernel_rfl) (qJD n) [] (fun _=>(by kernel_rfl)) fun _=>(by kernel_rfl)
def qMn:Sg:=⟨48,[aI,aI,aI],[],⟨aB,[],[]⟩⟩
def qF7 (n:Nat) (x0 x1 x2:Int):Tr (Bool):=(.ask ((decide (x0≥x1))) (.done (decide (x0≤x2))) (.done false))
def qAP:Nat→Int→Int→Int→Option (Bool)
 |0,_,_,_=>none
 |n+1,x0,x1,x2=>(qF7 n x0 x1 x2).run
theorem qC6:∀n,Ok (Rn n) qMn (qAP n)
 |0=>ok0 fun _=>rfl
 |n+1=>stO (T:=qF7 n) (by kernel_rfl) [] [] (fun _=>(by kernel_rfl)) fun _=>(by kernel_rfl)
def qL0:Sg:=⟨63,[(.agg [qI,qI,qS])],[],⟨aB,[],[]⟩⟩
def qFK (n:Nat) (x0 x1:Int) (x2:BA):Tr (Bool):=(.ask ((x0==(2:Int))) (.ask ((x1==(0:Int))) (.opt (qDZ n x2 (200:Int)) fun r164=>(.done r164)) (.done false)) (.ask ((!(x2.toList==(⟨#[]⟩:BA).toList))) (.done false) (.ask ((x0==(0:Int))) (.done (x1==(0:Int))) (.ask ((x0==(1:Int))) (.opt (qAP n x1 (-1000000000000000:Int) (1000000000000000:Int)) fun r165=>(.done r165)) (.ask ((x0==(3:Int))) (.opt (qAP n x1 (0:Int) (1:Int)) fun r166=>(.done r166)) (.ask ((x0==(4:Int))) (.opt (qAP n x1 (1:Int) (5:Int)) fun r167=>(.done r167)) (.done false)))))))
def qAV:Nat→Int→Int→BA→Option (Bool)
 |0,_,_,_=>none
 |n+1,x0,x1,x2=>(qFK n x0 x1 x2).run
abbrev qL1 (n:Nat):List (Ent (Rn n)):= [en (qHn n),en (qC6 n)]
theorem qHH:∀n,Ok (Rn n) qL0 (qAV n)
 |0=>ok0 fun _=>rfl
 |n+1=>stO (T:=qFK n) (by kernel_rfl) (qL1 n) [] (fun _=>(by kernel_rfl)) fun _=>(by kernel_rfl)
def qE0:Sg:=⟨122,[aI,aI],[],⟨aS,[],[]⟩⟩
def qDR:Nat→Int→Int→Option ((BA))
 |0,_,_=>none
 |n+1,x0,x1=>zZ x0 x1
theorem qHr:∀n,Ok (Rn n) qE0 (qDR n)
 |0=>ok0 fun _=>rfl
 |n+1=>stL (by kernel_rfl) (fun a r e=>congrArg (Option.map fun r=>(qE0.Of r).v) e) rfl rfl rfl
def qL2:Sg:=⟨65,[aI],[],⟨aS,[],[]⟩⟩
def qFL (n:Nat) (x0:Int):Tr (BA):=(.opt (qDR n x0 (10:Int)) fun r169=>(.done r169))
def qBi:Nat→Int→Option (BA)
 |0,_=>none
 |n+1,x0=>(qFL n x0).run
abbrev qL3 (n:Nat):List (Ent (Rn n)):= [en (qHr n)]
theorem qHI:∀n,Ok (Rn n) qL2 (qBi n)
 |0=>ok0 fun _=>rfl
 |n+1=>stO (T:=qFL n) (by kernel_rfl) (qL3 n) [] (fun _=>(by kernel_rfl)) fun _=>(by kernel_rfl)
def qKi:Sg:=⟨72,[(.agg [qI,qI,qS])],[],⟨aS,[],[]⟩⟩
def qBV (n:Nat) (x0 x1:Int) (x2:BA):Tr (BA):=(.ask ((x0==(1:Int))) (.opt (qBi n x1) fun r170=>(.done r170)) (.ask ((x0==(2:Int))) (.ask (decide ((⟨#[39]⟩:BA).size+x2.size≤9223372036854775807)) (.done ((⟨#[39]⟩:BA)++x2)) .fail) (.ask ((x0==(3:Int))) (.ask (decide (2=([[(.s (⟨#[70,65,76,83,69]⟩:BA))],[(.s (⟨#[84,82,85,69]⟩:BA))]]:RW).length∧0≤x1∧x1<((2:Nat):Int))) (.opt (([[(.s (⟨#[70,65,76,83,69]⟩:BA))],[(.s (⟨#[84,82,85,69]⟩:BA))]]:RW)[(x1).toNat]?) fun e171=>(.opt (zh e171 0) fun y172=>(.done y172))) .fail) (.ask ((x0==(4:Int))) (.opt (qAN n x1) fun r173=>(.done r173)) (.done (⟨#[]⟩:BA))))))
def qo:Nat→Int→Int→BA→Option (BA)
 |0,_,_,_=>none
 |n+1,x0,x1,x2=>(qBV n x0 x1 x2).run
abbrev qKj (n:Nat):List (Ent (Rn n)):= [en (qHI n),en (qD0 n)]
theorem qFs:∀n,Ok (Rn n) qKi (qo n)
 |0=>ok0 fun _=>rfl
 |n+1=>stO (T:=qBV n) (by kernel_rfl) (qKj n) [] (fun _=>(by kernel_rfl)) fun _=>(by kernel_rfl)
def qNd:Sg:=⟨68,[aB],[],⟨(.agg [qI,qI,qS]),[],[]⟩⟩
def qGy (n:Nat) (x0:Bool):Tr (Int×Int×BA):=(.ask (x0) (.done ((3:Int),(1:Int),(⟨#[]⟩:BA))) (.done ((3:Int),(0:Int),(⟨#[]⟩:BA))))
def qD1:Nat→Bool→Option (Int×Int×BA)
 |0,_=>none
 |n+1,x0=>(qGy n x0).run
theorem qMo:∀n,Ok (Rn n) qNd (qD1 n)
 |0=>ok0 fun _=>rfl
 |n+1=>stO (T:=qGy n) (by kernel_rfl) [] [] (fun _=>(by kernel_rfl)) fun _=>(by kernel_rfl)
def qJE:Sg2:=⟨61,[aS,aI,aI],(.tup [(false,[qI]),(false,[(.p .nif)])]),(.tup [(false,[qI]),(false,[(.p .ifc)])])⟩
def qBW:Nat→BA→Int→Int→Option ((Int)⊕(Int))
 |0,_,_,_=>none
 |n+1,x0,x1,x2=>zQ x0 x1 x2
theorem qE1:∀n,Ok2 (Rn n) qJE (qBW n)
 |0=>fun a r e=>by cases e
 |n+1=>zJf (by kernel_rfl) fun a r e=>by
  rcases r with r|r
  ·exact congrArg (Option.map z0) e
  ·exact congrArg (Option.map z0) e
def qMp:Sg:=⟨64,[aI],[],⟨(.agg [qI,qI,qS]),[],[]⟩⟩
def qF8 (n:Nat) (x0:Int):Tr (Int×Int×BA):=(.done ((1:Int),x0,(⟨#[]⟩:BA)))
def qDa:Nat→Int→Option (Int×Int×BA)
 |0,_=>none
 |n+1,x0=>(qF8 n x0).run
theorem qL4:∀n,Ok (Rn n) qMp (qDa n)
 |0=>ok0 fun _=>rfl
 |n+1=>stO (T:=qF8 n) (by kernel_rfl) [] [] (fun _=>(by kernel_rfl)) fun _=>(by kernel_rfl)
def qKk:Sg:=⟨25,[aS],[],⟨(.tup [(true,[qI,qI,qS]),(false,[qB])]),[],[]⟩⟩
def qA6 (n:Nat) (v:BA×Int×Int×Int×BA×Int×Int×BA):Tr ((BA×Int×Int×Int×BA×Int×Int×BA)⊕((BA×Int×Int×BA×Int×Int×BA))):=(.ask ((decide (v.2.1≤(5:Int)))) (.opt (qAN n v.2.1) fun r182=>(.ask ((r182.toList==v.1.toList)) (.opt (qBe n v.2.1) fun r183=>(.done (.inl (v.1,(IntKind.i64.wrap (v.2.1+(1:Int))),v.2.2.1,v.2.2.2.1,v.2.2.2.2.1,r183.1,r183.2.1,r183.2.2)))) (.done (.inl (v.1,(IntKind.i64.wrap (v.2.1+(1:Int))),v.2.2.1,v.2.2.2.1,v.2.2.2.2.1,v.2.2.2.2.2.1,v.2.2.2.2.2.2.1,v.2.2.2.2.2.2.2))))) (.done (.inr ((v.1,v.2.2.1,v.2.2.2.1,v.2.2.2.2.1,v.2.2.2.2.2.1,v.2.2.2.2.2.2.1,v.2.2.2.2.2.2.2)))))
def qBE (n:Nat) (x0:BA):Tr (Int×Int×BA×Bool):=(.opt (qAL n x0 (⟨#[39]⟩:BA)) fun r163=>(.ask (r163.2) (.opt (qAV n (2:Int) (0:Int) r163.1) fun r168=>(.ask ((!r168)) (.done ((0:Int),(0:Int),(⟨#[]⟩:BA),false)) (.opt (qo n (2:Int) (0:Int) r163.1) fun r174=>(.ask ((!(r174.toList==x0.toList))) (.done ((0:Int),(0:Int),(⟨#[]⟩:BA),false)) (.done ((2:Int),(0:Int),r163.1,true)))))) (.ask ((x0.toList==(⟨#[70,65,76,83,69]⟩:BA).toList)) (.opt (qD1 n (x0.toList==(⟨#[84,82,85,69]⟩:BA).toList)) fun r175=>(.opt (qAV n r175.1 r175.2.1 r175.2.2) fun r176=>(.ask ((!r176)) (.done ((0:Int),(0:Int),(⟨#[]⟩:BA),false)) (.opt (qo n r175.1 r175.2.1 r175.2.2) fun r177=>(.ask ((!(r177.toList==x0.toList))) (.done ((0:Int),(0:Int),(⟨#[]⟩:BA),false)) (.done (r175.1,r175.2.1,r175.2.2,true))))))) (.ask ((x0.toList==(⟨#[84,82,85,69]⟩:BA).toList)) (.opt (qD1 n (x0.toList==(⟨#[84,82,85,69]⟩:BA).toList)) fun r178=>(.opt (qAV n r178.1 r178.2.1 r178.2.2) fun r179=>(.ask ((!r179)) (.done ((0:Int),(0:Int),(⟨#[]⟩:BA),false)) (.opt (qo n r178.1 r178.2.1 r178.2.2) fun r180=>(.ask ((!(r180.toList==x0.toList))) (.done ((0:Int),(0:Int),(⟨#[]⟩:BA),false)) (.done (r178.1,r178.2.1,r178.2.2,true))))))) (.opt (qn n x0 (⟨#[35]⟩:BA)) fun r181=>(.ask (r181) (.opt (zD (qA6 n) n (x0,(1:Int),(0:Int),(0:Int),(⟨#[]⟩:BA),(0:Int),(0:Int),(⟨#[]⟩:BA))) fun r184=>(.opt (qAV n r184.2.2.2.2.1 r184.2.2.2.2.2.1 r184.2.2.2.2.2.2) fun r185=>(.ask ((!r185)) (.done ((0:Int),(0:Int),(⟨#[]⟩:BA),false)) (.opt (qo n r184.2.2.2.2.1 r184.2.2.2.2.2.1 r184.2.2.2.2.2.2) fun r186=>(.ask ((!(r186.toList==r184.1.toList))) (.done ((0:Int),(0:Int),(⟨#[]⟩:BA),false)) (.done (r184.2.2.2.2.1,r184.2.2.2.2.2.1,r184.2.2.2.2.2.2,true))))))) (.ask ((!(x0.toList==(⟨#[]⟩:BA).toList))) (.opt (qBW n x0 (10:Int) (64:Int)) fun r187=>(.alt r187 (fun r188=>(.opt (qDa n r188) fun r190=>(.opt (qAV n r190.1 r190.2.1 r190.2.2) fun r191=>(.ask ((!r191)) (.done ((0:Int),(0:Int),(⟨#[]⟩:BA),false)) (.opt (qo n r190.1 r190.2.1 r190.2.2) fun r192=>(.ask ((!(r192.toList==x0.toList))) (.done ((0:Int),(0:Int),(⟨#[]⟩:BA),false)) (.done (r190.1,r190.2.1,r190.2.2,true)))))))) (fun r189=>(.opt (qDa n r189) fun r193=>(.opt (qAV n r193.1 r193.2.1 r193.2.2) fun r194=>(.ask ((!r194)) (.done ((0:Int),(0:Int),(⟨#[]⟩:BA),false)) (.opt (qo n r193.1 r193.2.1 r193.2.2) fun r195=>(.ask ((!(r195.toList==x0.toList))) (.done ((0:Int),(0:Int),(⟨#[]⟩:BA),false)) (.done (r193.1,r193.2.1,r193.2.2,true)))))))))) (.opt (qAV n (0:Int) (0:Int) (⟨#[]⟩:BA)) fun r196=>(.ask ((!r196)) (.done ((0:Int),(0:Int),(⟨#[]⟩:BA),false)) (.opt (qo n (0:Int) (0:Int) (⟨#[]⟩:BA)) fun r197=>(.ask ((!(r197.toList==x0.toList))) (.done ((0:Int),(0:Int),(⟨#[]⟩:BA),false)) (.done ((0:Int),(0:Int),(⟨#[]⟩:BA),true)))))))))))))
def qw:Nat→BA→Option (Int×Int×BA×Bool)
 |0,_=>none
 |n+1,x0=>(qBE n x0).run
abbrev qGV (n:Nat):List (Ent (Rn n)):= [en (qC5 n),en (qHH n),en (qFs n),en (qMo n),en (qCG n),en (qD0 n),en (qIv n),en2 (qE1 n),en (qL4 n)]
def qHb (n:Nat):LEnt (KB 25) (Rn n) n:=lok (zW 25) 3837 ⟨⟨[(0,aS),(2,(.c (.ptr 0 128 0 0 0))),(4,(.c (.ptr 0 256 0 0 0))),(7,aI)],[(128,⟨0,3,37,(.box [qI,qI,qS])⟩),(256,⟨0,3,37,(.box [qI,qI,qS])⟩)],[]⟩,[(.exit 1,⟨[(0,aS),(2,(.c (.ptr 0 128 0 0 0))),(4,(.c (.ptr 0 256 0 0 0)))],[(128,⟨0,3,37,(.box [qI,qI,qS])⟩),(256,⟨0,3,37,(.box [qI,qI,qS])⟩)],[]⟩)]⟩ (qA6 n) (qGV n) [] fun _=>(by kernel_rfl)
theorem qJp:∀n,Ok (Rn n) qKk (qw n)
 |0=>ok0 fun _=>rfl
 |n+1=>stO (T:=qBE n) (by kernel_rfl) (qGV n) [qHb n] (fun _=>(by kernel_rfl)) fun _=>(by kernel_rfl)
def qL5:Sg:=⟨141,[aI],[],⟨aS,[],[]⟩⟩
def qC7 (n:Nat) (x0:Int):Tr (BA):=(.opt (qAP n x0 (1:Int) (52:Int)) fun r203=>(.ask ((!r203)) (.done (⟨#[]⟩:BA)) (.ask ((decide (x0≤(26:Int)))) (.ask (decide (1=([[(.i .u8 (IntKind.u8.wrap (IntKind.i64.wrap ((IntKind.i64.wrap ((65:Int)+x0))-(1:Int)))))]]:RW).length)) (.opt (bytesOf ([[(.i .u8 (IntKind.u8.wrap (IntKind.i64.wrap ((IntKind.i64.wrap ((65:Int)+x0))-(1:Int)))))]]:RW)) fun l204=>(.done (⟨l204.toArray⟩:BA))) .fail) (.ask (decide (2=([[(.i .u8 (IntKind.u8.wrap (IntKind.i64.wrap ((IntKind.i64.wrap ((65:Int)+(IntKind.i64.wrap (Int.tdiv (IntKind.i64.wrap (x0-(1:Int))) (26:Int)))))-(1:Int)))))],[(.i .u8 (IntKind.u8.wrap (IntKind.i64.wrap ((65:Int)+(Int.tmod (IntKind.i64.wrap (x0-(1:Int))) (26:Int))))))]]:RW).length)) (.opt (bytesOf ([[(.i .u8 (IntKind.u8.wrap (IntKind.i64.wrap ((IntKind.i64.wrap ((65:Int)+(IntKind.i64.wrap (Int.tdiv (IntKind.i64.wrap (x0-(1:Int))) (26:Int)))))-(1:Int)))))],[(.i .u8 (IntKind.u8.wrap (IntKind.i64.wrap ((65:Int)+(Int.tmod (IntKind.i64.wrap (x0-(1:Int))) (26:Int))))))]]:RW)) fun l205=>(.done (⟨l205.toArray⟩:BA))) .fail))))
def qBj:Nat→Int→Option (BA)
 |0,_=>none
 |n+1,x0=>(qC7 n x0).run
abbrev qL6 (n:Nat):List (Ent (Rn n)):= [en (qC6 n)]
theorem qHJ:∀n,Ok (Rn n) qL5 (qBj n)
 |0=>ok0 fun _=>rfl
 |n+1=>stO (T:=qC7 n) (by kernel_rfl) (qL6 n) [] (fun _=>(by kernel_rfl)) fun _=>(by kernel_rfl)
def qL7:Sg:=⟨187,[aS],[],⟨aI,[],[]⟩⟩
def qCH (n:Nat) (v:BA×Int):Tr ((BA×Int)⊕((Int)⊕(Unit))):=(.ask ((decide (v.2≤(52:Int)))) (.opt (qBj n v.2) fun r203=>(.ask ((r203.toList==v.1.toList)) (.done (.inr (.inl (v.2)))) (.done (.inl (v.1,(IntKind.i64.wrap (v.2+(1:Int)))))))) (.done (.inr (.inr (())))))
def qFM (n:Nat) (x0:BA):Tr (Int):=(.opt (zD (qCH n) n (x0,(1:Int))) fun r204=>(.alt r204 (fun r205=>(.done r205)) (fun r206=>(.done (0:Int)))))
def qD2:Nat→BA→Option (Int)
 |0,_=>none
 |n+1,x0=>(qFM n x0).run
abbrev qHs (n:Nat):List (Ent (Rn n)):= [en (qHJ n)]
def qJq (n:Nat):LEnt (KB 187) (Rn n) n:=lok (zW 187) 13 ⟨⟨[(0,aS),(3,aI)],[],[]⟩,[(.ret,⟨[(2,aI)],[],[]⟩),(.exit 0,⟨[],[],[]⟩)]⟩ (qCH n) (qHs n) [] fun _=>(by kernel_rfl)
theorem qLa:∀n,Ok (Rn n) qL7 (qD2 n)
 |0=>ok0 fun _=>rfl
 |n+1=>stO (T:=qFM n) (by kernel_rfl) (qHs n) [qJq n] (fun _=>(by kernel_rfl)) fun _=>(by kernel_rfl)
def qNe:Sg:=⟨77,[(.agg [qI,qI])],[],⟨aB,[],[]⟩⟩
def qGz (n:Nat) (x0 x1:Int):Tr (Bool):=(.opt (qAP n x0 (1:Int) (52:Int)) fun r212=>(.ask (r212) (.opt (qAP n x1 (1:Int) (99:Int)) fun r213=>(.done r213)) (.done false)))
def qCI:Nat→Int→Int→Option (Bool)
 |0,_,_=>none
 |n+1,x0,x1=>(qGz n x0 x1).run
abbrev qNf (n:Nat):List (Ent (Rn n)):= [en (qC6 n)]
theorem qF9:∀n,Ok (Rn n) qNe (qCI n)
 |0=>ok0 fun _=>rfl
 |n+1=>stO (T:=qGz n) (by kernel_rfl) (qNf n) [] (fun _=>(by kernel_rfl)) fun _=>(by kernel_rfl)
def qKl:Sg:=⟨102,[(.agg [qI,qI,qB,qB])],[],⟨aS,[],[]⟩⟩
def qDM (n:Nat) (x0 x1:Int) (x2 x3:Bool):Tr (BA):=(.opt (qCI n x0 x1) fun r215=>(.ask ((!r215)) (.done (⟨#[]⟩:BA)) (.ask (x2) (.opt (qBj n x0) fun r216=>(.ask (decide ((⟨#[36]⟩:BA).size+r216.size≤9223372036854775807)) (.ask (x3) (.ask (decide (((⟨#[36]⟩:BA)++r216).size+(⟨#[36]⟩:BA).size≤9223372036854775807)) (.opt (qBi n x1) fun r217=>(.ask (decide ((((⟨#[36]⟩:BA)++r216)++(⟨#[36]⟩:BA)).size+r217.size≤9223372036854775807)) (.done ((((⟨#[36]⟩:BA)++r216)++(⟨#[36]⟩:BA))++r217)) .fail)) .fail) (.opt (qBi n x1) fun r218=>(.ask (decide (((⟨#[36]⟩:BA)++r216).size+r218.size≤9223372036854775807)) (.done (((⟨#[36]⟩:BA)++r216)++r218)) .fail))) .fail)) (.opt (qBj n x0) fun r219=>(.ask (decide ((⟨#[]⟩:BA).size+r219.size≤9223372036854775807)) (.ask (x3) (.ask (decide (((⟨#[]⟩:BA)++r219).size+(⟨#[36]⟩:BA).size≤9223372036854775807)) (.opt (qBi n x1) fun r220=>(.ask (decide ((((⟨#[]⟩:BA)++r219)++(⟨#[36]⟩:BA)).size+r220.size≤9223372036854775807)) (.done ((((⟨#[]⟩:BA)++r219)++(⟨#[36]⟩:BA))++r220)) .fail)) .fail) (.opt (qBi n x1) fun r221=>(.ask (decide (((⟨#[]⟩:BA)++r219).size+r221.size≤9223372036854775807)) (.done (((⟨#[]⟩:BA)++r219)++r221)) .fail))) .fail)))))
def qAx:Nat→Int→Int→Bool→Bool→Option (BA)
 |0,_,_,_,_=>none
 |n+1,x0,x1,x2,x3=>(qDM n x0 x1 x2 x3).run
abbrev qKm (n:Nat):List (Ent (Rn n)):= [en (qF9 n),en (qHJ n),en (qHI n)]
theorem qFt:∀n,Ok (Rn n) qKl (qAx n)
 |0=>ok0 fun _=>rfl
 |n+1=>stO (T:=qDM n) (by kernel_rfl) (qKm n) [] (fun _=>(by kernel_rfl)) fun _=>(by kernel_rfl)
def qKn:Sg:=⟨164,[aS],[],⟨(.tup [(true,[qI,qI,qB,qB]),(false,[qB])]),[],[]⟩⟩
def qEQ (n:Nat) (x0:BA):Tr (Int×Int×Bool×Bool×Bool):=(.opt (qAL n x0 (⟨#[36]⟩:BA)) fun r201=>(.opt (qBA n r201.1 (⟨#[65,66,67,68,69,70,71,72,73,74,75,76,77,78,79,80,81,82,83,84,85,86,87,88,89,90]⟩:BA)) fun r202=>(.ask (decide (0≤(0:Int)∧(0:Int)≤(IntKind.i64.wrap ((r201.1.size:Int)-(r202.size:Int)))∧(IntKind.i64.wrap ((r201.1.size:Int)-(r202.size:Int)))≤r201.1.size)) (.opt (qD2 n (r201.1.extract ((0:Int)).toNat ((IntKind.i64.wrap ((r201.1.size:Int)-(r202.size:Int)))).toNat)) fun r207=>(.ask (decide (0≤(IntKind.i64.wrap ((r201.1.size:Int)-(r202.size:Int)))∧(IntKind.i64.wrap ((r201.1.size:Int)-(r202.size:Int)))≤(r201.1.size:Int)∧(r201.1.size:Int)≤r201.1.size)) (.opt (qAL n (r201.1.extract ((IntKind.i64.wrap ((r201.1.size:Int)-(r202.size:Int)))).toNat ((r201.1.size:Int)).toNat) (⟨#[36]⟩:BA)) fun r208=>(.opt (qBW n r208.1 (10:Int) (64:Int)) fun r209=>(.alt r209 (fun r210=>(.opt (qCI n r207 r210) fun r214=>(.ask ((!r214)) (.done ((0:Int),(0:Int),false,false,false)) (.opt (qAx n r207 r210 r201.2 r208.2) fun r222=>(.ask ((!(r222.toList==x0.toList))) (.done ((0:Int),(0:Int),false,false,false)) (.done (r207,r210,r201.2,r208.2,true))))))) (fun r211=>(.opt (qCI n r207 r211) fun r223=>(.ask ((!r223)) (.done ((0:Int),(0:Int),false,false,false)) (.opt (qAx n r207 r211 r201.2 r208.2) fun r224=>(.ask ((!(r224.toList==x0.toList))) (.done ((0:Int),(0:Int),false,false,false)) (.done (r207,r211,r201.2,r208.2,true)))))))))) .fail)) .fail)))
def qAO:Nat→BA→Option (Int×Int×Bool×Bool×Bool)
 |0,_=>none
 |n+1,x0=>(qEQ n x0).run
abbrev qKo (n:Nat):List (Ent (Rn n)):= [en (qC5 n),en (qDQ n),en (qLa n),en2 (qE1 n),en (qF9 n),en (qFt n)]
theorem qFu:∀n,Ok (Rn n) qKn (qAO n)
 |0=>ok0 fun _=>rfl
 |n+1=>stO (T:=qEQ n) (by kernel_rfl) (qKo n) [] (fun _=>(by kernel_rfl)) fun _=>(by kernel_rfl)
def qMq:Sg:=⟨103,[aI],[],⟨aS,[],[]⟩⟩
def qGA (n:Nat) (x0:Int):Tr (BA):=(.ask (decide (11=([[(.s (⟨#[]⟩:BA))],[(.s (⟨#[83,85,77]⟩:BA))],[(.s (⟨#[77,73,78]⟩:BA))],[(.s (⟨#[77,65,88]⟩:BA))],[(.s (⟨#[67,79,85,78,84]⟩:BA))],[(.s (⟨#[73,70]⟩:BA))],[(.s (⟨#[65,78,68]⟩:BA))],[(.s (⟨#[79,82]⟩:BA))],[(.s (⟨#[78,79,84]⟩:BA))],[(.s (⟨#[65,66,83]⟩:BA))],[(.s (⟨#[76,69,78]⟩:BA))]]:RW).length∧0≤x0∧x0<((11:Nat):Int))) (.opt (([[(.s (⟨#[]⟩:BA))],[(.s (⟨#[83,85,77]⟩:BA))],[(.s (⟨#[77,73,78]⟩:BA))],[(.s (⟨#[77,65,88]⟩:BA))],[(.s (⟨#[67,79,85,78,84]⟩:BA))],[(.s (⟨#[73,70]⟩:BA))],[(.s (⟨#[65,78,68]⟩:BA))],[(.s (⟨#[79,82]⟩:BA))],[(.s (⟨#[78,79,84]⟩:BA))],[(.s (⟨#[65,66,83]⟩:BA))],[(.s (⟨#[76,69,78]⟩:BA))]]:RW)[(x0).toNat]?) fun e227=>(.opt (zh e227 0) fun y228=>(.done y228))) .fail)
def qBw:Nat→Int→Option (BA)
 |0,_=>none
 |n+1,x0=>(qGA n x0).run
theorem qHt:∀n,Ok (Rn n) qMq (qBw n)
 |0=>ok0 fun _=>rfl
 |n+1=>stO (T:=qGA n) (by kernel_rfl) [] [] (fun _=>(by kernel_rfl)) fun _=>(by kernel_rfl)
def qG0:Sg:=⟨188,[(.c (.ptr 0 0 0 0 0))],[[(0,⟨0,3,55,(.box [qS,(.own 0 1 1 0),qB])⟩),(1,⟨1,14,64,(.row [])⟩)]],⟨(.tup [(true,[qI,qI,qI,qI,qS,qI,qI,qB,qB,qI,qI,qB,qB,qL]),(false,[qB])]),[[(0,⟨0,3,55,(.box [qS,(.own 0 1 1 0),qB])⟩),(1,⟨1,14,64,(.row [])⟩)]],[]⟩⟩
def qD3 (n:Nat) (x0:BA) (x1:Nat) (x2:Bool) (x3:RW):Tr (Int×Int×Int×Int×BA×Int×Int×Bool×Bool×Int×Int×Bool×Bool×RW×Bool×BA×Nat×Bool×RW):=(.opt (qBB n x0 x1 x2 x3) fun r230=>(.opt (qAO n r230.1) fun r231=>(.ask (r231.2.2.2.2) (.opt (ql n (⟨#[58]⟩:BA) r230.2.1 r230.2.2.1 r230.2.2.2.1 r230.2.2.2.2) fun r232=>(.ask ((!r232.1)) (.done ((0:Int),(0:Int),(0:Int),(0:Int),(⟨#[]⟩:BA),(0:Int),(0:Int),false,false,(0:Int),(0:Int),false,false,([]:RW),false,x0,r232.2.2.1,r232.2.2.2.1,r232.2.2.2.2)) (.opt (qBB n r232.2.1 r232.2.2.1 r232.2.2.2.1 r232.2.2.2.2) fun r233=>(.opt (qAO n r233.1) fun r234=>(.ask (r233.2.2.2.1) (.done ((3:Int),(0:Int),(0:Int),(0:Int),(⟨#[]⟩:BA),r231.1,r231.2.1,r231.2.2.1,r231.2.2.2.1,r234.1,r234.2.1,r234.2.2.1,r234.2.2.2.1,([]:RW),true,r233.2.1,r233.2.2.1,true,r233.2.2.2.2)) (.done ((3:Int),(0:Int),(0:Int),(0:Int),(⟨#[]⟩:BA),r231.1,r231.2.1,r231.2.2.1,r231.2.2.2.1,r234.1,r234.2.1,r234.2.2.1,r234.2.2.2.1,([]:RW),true,r233.2.1,r233.2.2.1,(!r234.2.2.2.2),r233.2.2.2.2))))))) (.done ((0:Int),(0:Int),(0:Int),(0:Int),(⟨#[]⟩:BA),(0:Int),(0:Int),false,false,(0:Int),(0:Int),false,false,([]:RW),false,x0,r230.2.2.1,r230.2.2.2.1,r230.2.2.2.2)))))
def qCq:Nat→BA→Nat→Bool→RW→Option (Int×Int×Int×Int×BA×Int×Int×Bool×Bool×Int×Int×Bool×Bool×RW×Bool×BA×Nat×Bool×RW)
 |0,_,_,_,_=>none
 |n+1,x0,x1,x2,x3=>(qD3 n x0 x1 x2 x3).run
abbrev qG1 (n:Nat):List (Ent (Rn n)):= [en (qEz n),en (qFu n),en (qBq n)]
theorem qGW:∀n,Ok (Rn n) qG0 (qCq n)
 |0=>ok0 fun _=>rfl
 |n+1=>stO (T:=qD3 n) (by kernel_rfl) (qG1 n) [] (fun _=>(by kernel_rfl)) fun _=>(by kernel_rfl)
def qMr:Sg:=⟨86,[aI],[],⟨aS,[],[]⟩⟩
def qGB (n:Nat) (x0:Int):Tr (BA):=(.ask (decide (12=([[(.s (⟨#[]⟩:BA))],[(.s (⟨#[43]⟩:BA))],[(.s (⟨#[45]⟩:BA))],[(.s (⟨#[42]⟩:BA))],[(.s (⟨#[47]⟩:BA))],[(.s (⟨#[38]⟩:BA))],[(.s (⟨#[61]⟩:BA))],[(.s (⟨#[60,62]⟩:BA))],[(.s (⟨#[60]⟩:BA))],[(.s (⟨#[60,61]⟩:BA))],[(.s (⟨#[62]⟩:BA))],[(.s (⟨#[62,61]⟩:BA))]]:RW).length∧0≤x0∧x0<((12:Nat):Int))) (.opt (([[(.s (⟨#[]⟩:BA))],[(.s (⟨#[43]⟩:BA))],[(.s (⟨#[45]⟩:BA))],[(.s (⟨#[42]⟩:BA))],[(.s (⟨#[47]⟩:BA))],[(.s (⟨#[38]⟩:BA))],[(.s (⟨#[61]⟩:BA))],[(.s (⟨#[60,62]⟩:BA))],[(.s (⟨#[60]⟩:BA))],[(.s (⟨#[60,61]⟩:BA))],[(.s (⟨#[62]⟩:BA))],[(.s (⟨#[62,61]⟩:BA))]]:RW)[(x0).toNat]?) fun e261=>(.opt (zh e261 0) fun y262=>(.done y262))) .fail)
def qBI:Nat→Int→Option (BA)
 |0,_=>none
 |n+1,x0=>(qGB n x0).run
theorem qHu:∀n,Ok (Rn n) qMr (qBI n)
 |0=>ok0 fun _=>rfl
 |n+1=>stO (T:=qGB n) (by kernel_rfl) [] [] (fun _=>(by kernel_rfl)) fun _=>(by kernel_rfl)
def qNg:Sg:=⟨87,[aI],[],⟨aI,[],[]⟩⟩
def qG2 (n:Nat) (x0:Int):Tr (Int):=(.ask ((x0==(3:Int))) (.done (4:Int)) (.ask ((x0==(4:Int))) (.done (4:Int)) (.ask ((x0==(1:Int))) (.done (3:Int)) (.ask ((x0==(2:Int))) (.done (3:Int)) (.ask ((x0==(5:Int))) (.done (2:Int)) (.done (1:Int)))))))
def qDN:Nat→Int→Option (Int)
 |0,_=>none
 |n+1,x0=>(qG2 n x0).run
theorem qIw:∀n,Ok (Rn n) qNg (qDN n)
 |0=>ok0 fun _=>rfl
 |n+1=>stO (T:=qG2 n) (by kernel_rfl) [] [] (fun _=>(by kernel_rfl)) fun _=>(by kernel_rfl)
def qEi:Sg:=⟨36,[(.c (.ptr 0 0 0 0 0)),aI,aI],[[(0,⟨0,3,55,(.box [qS,(.own 0 1 1 0),qB])⟩),(1,⟨1,14,64,(.row [])⟩)]],⟨aI,[[(0,⟨0,3,55,(.box [qS,(.own 0 1 1 0),qB])⟩),(1,⟨1,14,64,(.row [])⟩)]],[]⟩⟩
def qIe:Sg:=⟨84,[(.c (.ptr 0 0 0 0 0)),aI],[[(0,⟨0,3,55,(.box [qS,(.own 0 1 1 0),qB])⟩),(1,⟨1,14,64,(.row [])⟩)]],⟨aI,[[(0,⟨0,3,55,(.box [qS,(.own 0 1 1 0),qB])⟩),(1,⟨1,14,64,(.row [])⟩)]],[]⟩⟩
def qJF:Sg:=⟨134,[(.c (.ptr 0 0 0 0 0)),aI],[[(0,⟨0,3,55,(.box [qS,(.own 0 1 1 0),qB])⟩),(1,⟨1,14,64,(.row [])⟩)]],⟨aI,[[(0,⟨0,3,55,(.box [qS,(.own 0 1 1 0),qB])⟩),(1,⟨1,14,64,(.row [])⟩)]],[]⟩⟩
def qJG:Sg:=⟨165,[(.c (.ptr 0 0 0 0 0)),aI,aI],[[(0,⟨0,3,55,(.box [qS,(.own 0 1 1 0),qB])⟩),(1,⟨1,14,64,(.row [])⟩)]],⟨aI,[[(0,⟨0,3,55,(.box [qS,(.own 0 1 1 0),qB])⟩),(1,⟨1,14,64,(.row [])⟩)]],[]⟩⟩
structure G_impl_reader_binary where
 impl_reader_binary:Int→Int→BA→Nat→Bool→RW→Option (Int×BA×Nat×Bool×RW)
 impl_reader_unary:Int→BA→Nat→Bool→RW→Option (Int×BA×Nat×Bool×RW)
 impl_reader_atom:Int→BA→Nat→Bool→RW→Option (Int×BA×Nat×Bool×RW)
 impl_reader_call:Int→Int→BA→Nat→Bool→RW→Option (Int×BA×Nat×Bool×RW)
def qA7 (n:Nat) (v:Int×Int×Int×Int×Int×BA×Nat×Bool×RW):Tr ((Int×Int×Int×Int×Int×BA×Nat×Bool×RW)⊕((Int×Int×Int×Int×BA×Nat×Bool×RW))):=(.ask ((decide (v.2.2.2.2.1≤(11:Int)))) (.opt (qBU n v.2.2.2.2.2.1 v.2.2.2.2.2.2.1 v.2.2.2.2.2.2.2.1 v.2.2.2.2.2.2.2.2) fun r260=>(.opt (qBI n v.2.2.2.2.1) fun r261=>(.ask ((r260.1.toList==r261.toList)) (.done (.inl (v.1,v.2.1,v.2.2.1,v.2.2.2.2.1,(IntKind.i64.wrap (v.2.2.2.2.1+(1:Int))),r260.2.1,r260.2.2.1,r260.2.2.2.1,r260.2.2.2.2))) (.done (.inl (v.1,v.2.1,v.2.2.1,v.2.2.2.1,(IntKind.i64.wrap (v.2.2.2.2.1+(1:Int))),r260.2.1,r260.2.2.1,r260.2.2.2.1,r260.2.2.2.2)))))) (.done (.inr ((v.1,v.2.1,v.2.2.1,v.2.2.2.1,v.2.2.2.2.2.1,v.2.2.2.2.2.2.1,v.2.2.2.2.2.2.2.1,v.2.2.2.2.2.2.2.2)))))
def qCc (rec:G_impl_reader_binary) (n:Nat) (v:Int×Int×Int×BA×Nat×Bool×RW):Tr ((Int×Int×Int×BA×Nat×Bool×RW)⊕((Int×BA×Nat×Bool×RW))):=(.ask ((!v.2.2.2.2.2.1)) (.opt (zD (qA7 n) n (v.1,v.2.1,v.2.2.1,(0:Int),(1:Int),v.2.2.2.1,v.2.2.2.2.1,v.2.2.2.2.2.1,v.2.2.2.2.2.2)) fun r262=>(.ask ((r262.2.2.2.1==(0:Int))) (.done (.inr ((r262.2.2.1,r262.2.2.2.2.1,r262.2.2.2.2.2.1,r262.2.2.2.2.2.2.1,r262.2.2.2.2.2.2.2)))) (.opt (qDN n r262.2.2.2.1) fun r263=>(.ask ((decide (r263<r262.1))) (.done (.inr ((r262.2.2.1,r262.2.2.2.2.1,r262.2.2.2.2.2.1,r262.2.2.2.2.2.2.1,r262.2.2.2.2.2.2.2)))) (.opt (qBI n r262.2.2.2.1) fun r264=>(.opt (ql n r264 r262.2.2.2.2.1 r262.2.2.2.2.2.1 r262.2.2.2.2.2.2.1 r262.2.2.2.2.2.2.2) fun r265=>(.opt (qDN n r262.2.2.2.1) fun r266=>(.opt (rec.impl_reader_binary (IntKind.i64.wrap (r266+(1:Int))) r262.2.1 r265.2.1 r265.2.2.1 r265.2.2.2.1 r265.2.2.2.2) fun r267=>(.ask (decide (2=([[(.i .i64 r262.2.2.1)],[(.i .i64 r267.1)]]:RW).length)) (.opt (qm n (5:Int) r262.2.2.2.1 (0:Int) (0:Int) (⟨#[]⟩:BA) (0:Int) (0:Int) false false (0:Int) (0:Int) false false ([[(.i .i64 r262.2.2.1)],[(.i .i64 r267.1)]]:RW) r267.2.1 r267.2.2.1 r267.2.2.2.1 r267.2.2.2.2) fun r268=>(.done (.inl (r262.1,r262.2.1,r268.1,r268.2.1,r268.2.2.1,r268.2.2.2.1,r268.2.2.2.2)))) .fail))))))))) (.done (.inr ((v.2.2.1,v.2.2.2.1,v.2.2.2.2.1,v.2.2.2.2.2.1,v.2.2.2.2.2.2)))))
def qEj (rec:G_impl_reader_binary) (n:Nat) (x0 x1:Int) (x2:BA) (x3:Nat) (x4:Bool) (x5:RW):Tr (Int×BA×Nat×Bool×RW):=(.opt (rec.impl_reader_unary x1 x2 x3 x4 x5) fun r259=>(.opt (zD (qCc rec n) n (x0,x1,r259.1,r259.2.1,r259.2.2.1,r259.2.2.2.1,r259.2.2.2.2)) fun r269=>(.done (r269.1,r269.2.1,r269.2.2.1,r269.2.2.2.1,r269.2.2.2.2))))
def qE2 (rec:G_impl_reader_binary) (n:Nat) (x0:Int) (x1:BA) (x2:Nat) (x3:Bool) (x4:RW):Tr (Int×BA×Nat×Bool×RW):=(.ask ((decide (x0>(400:Int)))) (.ask (true) (.done ((-1:Int),x1,x2,true,x4)) (.opt (ql n (⟨#[45]⟩:BA) x1 x2 true x4) fun r139=>(.ask (r139.1) (.opt (rec.impl_reader_unary (IntKind.i64.wrap (x0+(1:Int))) r139.2.1 r139.2.2.1 r139.2.2.2.1 r139.2.2.2.2) fun r140=>(.ask (decide (1=([[(.i .i64 r140.1)]]:RW).length)) (.opt (qm n (4:Int) (0:Int) (0:Int) (0:Int) (⟨#[]⟩:BA) (0:Int) (0:Int) false false (0:Int) (0:Int) false false ([[(.i .i64 r140.1)]]:RW) r140.2.1 r140.2.2.1 r140.2.2.2.1 r140.2.2.2.2) fun r141=>(.done (r141.1,r141.2.1,r141.2.2.1,r141.2.2.2.1,r141.2.2.2.2))) .fail)) (.opt (rec.impl_reader_atom x0 r139.2.1 r139.2.2.1 r139.2.2.2.1 r139.2.2.2.2) fun r254=>(.done (r254.1,r254.2.1,r254.2.2.1,r254.2.2.2.1,r254.2.2.2.2)))))) (.ask (x3) (.done ((-1:Int),x1,x2,x3,x4)) (.opt (ql n (⟨#[45]⟩:BA) x1 x2 x3 x4) fun r255=>(.ask (r255.1) (.opt (rec.impl_reader_unary (IntKind.i64.wrap (x0+(1:Int))) r255.2.1 r255.2.2.1 r255.2.2.2.1 r255.2.2.2.2) fun r256=>(.ask (decide (1=([[(.i .i64 r256.1)]]:RW).length)) (.opt (qm n (4:Int) (0:Int) (0:Int) (0:Int) (⟨#[]⟩:BA) (0:Int) (0:Int) false false (0:Int) (0:Int) false false ([[(.i .i64 r256.1)]]:RW) r256.2.1 r256.2.2.1 r256.2.2.2.1 r256.2.2.2.2) fun r257=>(.done (r257.1,r257.2.1,r257.2.2.1,r257.2.2.2.1,r257.2.2.2.2))) .fail)) (.opt (rec.impl_reader_atom x0 r255.2.1 r255.2.2.1 r255.2.2.2.1 r255.2.2.2.2) fun r258=>(.done (r258.1,r258.2.1,r258.2.2.1,r258.2.2.2.1,r258.2.2.2.2)))))))
def qBt (n:Nat) (v:Int×Int×BA×Nat×Bool×RW):Tr ((Int×Int×BA×Nat×Bool×RW)⊕((Int×BA×Nat×Bool×RW)⊕(Int×BA×Nat×Bool×RW))):=(.ask ((decide (v.2.1≤(5:Int)))) (.opt (qAN n v.2.1) fun r153=>(.opt (qAL n v.2.2.1 r153) fun r154=>(.ask (r154.2) (.opt (qBe n v.2.1) fun r155=>(.opt (qh n r155.1 r155.2.1 r155.2.2 r154.1 v.2.2.2.1 v.2.2.2.2.1 v.2.2.2.2.2) fun r156=>(.done (.inr (.inl ((r156.1,r156.2.1,r156.2.2.1,r156.2.2.2.1,r156.2.2.2.2))))))) (.done (.inl (v.1,(IntKind.i64.wrap (v.2.1+(1:Int))),v.2.2.1,v.2.2.2.1,v.2.2.2.2.1,v.2.2.2.2.2)))))) (.done (.inr (.inr ((v.1,v.2.2.1,v.2.2.2.1,v.2.2.2.2.1,v.2.2.2.2.2))))))
def qAS (rec:G_impl_reader_binary) (n:Nat) (v:Int×BA×Int×BA×Nat×Bool×RW):Tr ((Int×BA×Int×BA×Nat×Bool×RW)⊕((Int×BA×Nat×Bool×RW)⊕(BA×Nat×Bool×RW))):=(.ask ((decide (v.2.2.1≤(10:Int)))) (.opt (qBw n v.2.2.1) fun r227=>(.ask ((v.2.1.toList==r227.toList)) (.opt (rec.impl_reader_call v.2.2.1 v.1 v.2.2.2.1 v.2.2.2.2.1 v.2.2.2.2.2.1 v.2.2.2.2.2.2) fun r228=>(.done (.inr (.inl ((r228.1,r228.2.1,r228.2.2.1,r228.2.2.2.1,r228.2.2.2.2)))))) (.done (.inl (v.1,v.2.1,(IntKind.i64.wrap (v.2.2.1+(1:Int))),v.2.2.2.1,v.2.2.2.2.1,v.2.2.2.2.2.1,v.2.2.2.2.2.2))))) (.done (.inr (.inr ((v.2.2.2.1,v.2.2.2.2.1,v.2.2.2.2.2.1,v.2.2.2.2.2.2))))))
def qFN (rec:G_impl_reader_binary) (n:Nat) (x0:Int) (x1:BA) (x2:Nat) (x3:Bool) (x4:RW):Tr (Int×BA×Nat×Bool×RW):=(.opt (qAt n x1 x2 x3 x4) fun r142=>(.opt (qn n r142.1 (⟨#[34]⟩:BA)) fun r143=>(.ask (r143) (.opt (qC4 n r142.1 r142.2.1 r142.2.2.1 r142.2.2.2) fun r151=>(.done (r151.1,r151.2.1,r151.2.2.1,r151.2.2.2.1,r151.2.2.2.2))) (.opt (qn n r142.1 (⟨#[35]⟩:BA)) fun r152=>(.ask (r152) (.opt (zD (qBt n) n (x0,(1:Int),r142.1,r142.2.1,r142.2.2.1,r142.2.2.2)) fun r157=>(.alt r157 (fun r158=>(.done (r158.1,r158.2.1,r158.2.2.1,r158.2.2.2.1,r158.2.2.2.2))) (fun r159=>(.opt (qBB n r159.2.1 r159.2.2.1 r159.2.2.2.1 r159.2.2.2.2) fun r162=>(.opt (qw n r162.1) fun r198=>(.ask (r198.2.2.2) (.ask ((r198.1==(1:Int))) (.opt (qh n r198.1 r198.2.1 r198.2.2.1 r162.2.1 r162.2.2.1 r162.2.2.2.1 r162.2.2.2.2) fun r199=>(.done (r199.1,r199.2.1,r199.2.2.1,r199.2.2.2.1,r199.2.2.2.2))) (.ask ((r198.1==(3:Int))) (.opt (qh n r198.1 r198.2.1 r198.2.2.1 r162.2.1 r162.2.2.1 r162.2.2.2.1 r162.2.2.2.2) fun r200=>(.done (r200.1,r200.2.1,r200.2.2.1,r200.2.2.2.1,r200.2.2.2.2))) (.opt (qAO n r162.1) fun r225=>(.ask (r225.2.2.2.2) (.opt (qm n (2:Int) (0:Int) (0:Int) (0:Int) (⟨#[]⟩:BA) r225.1 r225.2.1 r225.2.2.1 r225.2.2.2.1 (0:Int) (0:Int) false false ([]:RW) r162.2.1 r162.2.2.1 r162.2.2.2.1 r162.2.2.2.2) fun r226=>(.done (r226.1,r226.2.1,r226.2.2.1,r226.2.2.2.1,r226.2.2.2.2))) (.opt (zD (qAS rec n) n (r159.1,r162.1,(1:Int),r162.2.1,r162.2.2.1,r162.2.2.2.1,r162.2.2.2.2)) fun r229=>(.alt r229 (fun r230=>(.done (r230.1,r230.2.1,r230.2.2.1,r230.2.2.2.1,r230.2.2.2.2))) (fun r231=>(.done ((-1:Int),r231.1,r231.2.1,true,r231.2.2.2))))))))) (.opt (qAO n r162.1) fun r232=>(.ask (r232.2.2.2.2) (.opt (qm n (2:Int) (0:Int) (0:Int) (0:Int) (⟨#[]⟩:BA) r232.1 r232.2.1 r232.2.2.1 r232.2.2.2.1 (0:Int) (0:Int) false false ([]:RW) r162.2.1 r162.2.2.1 r162.2.2.2.1 r162.2.2.2.2) fun r233=>(.done (r233.1,r233.2.1,r233.2.2.1,r233.2.2.2.1,r233.2.2.2.2))) (.opt (zD (qAS rec n) n (r159.1,r162.1,(1:Int),r162.2.1,r162.2.2.1,r162.2.2.2.1,r162.2.2.2.2)) fun r234=>(.alt r234 (fun r235=>(.done (r235.1,r235.2.1,r235.2.2.1,r235.2.2.2.1,r235.2.2.2.2))) (fun r236=>(.done ((-1:Int),r236.1,r236.2.1,true,r236.2.2.2))))))))))))) (.opt (ql n (⟨#[40]⟩:BA) r142.1 r142.2.1 r142.2.2.1 r142.2.2.2) fun r237=>(.ask (r237.1) (.opt (rec.impl_reader_binary (1:Int) (IntKind.i64.wrap (x0+(1:Int))) r237.2.1 r237.2.2.1 r237.2.2.2.1 r237.2.2.2.2) fun r238=>(.ask (r238.2.2.2.1) (.done (r238.1,r238.2.1,r238.2.2.1,true,r238.2.2.2.2)) (.opt (ql n (⟨#[41]⟩:BA) r238.2.1 r238.2.2.1 r238.2.2.2.1 r238.2.2.2.2) fun r239=>(.done (r238.1,r239.2.1,r239.2.2.1,(!r239.1),r239.2.2.2.2))))) (.opt (qBB n r237.2.1 r237.2.2.1 r237.2.2.2.1 r237.2.2.2.2) fun r240=>(.opt (qw n r240.1) fun r241=>(.ask (r241.2.2.2) (.ask ((r241.1==(1:Int))) (.opt (qh n r241.1 r241.2.1 r241.2.2.1 r240.2.1 r240.2.2.1 r240.2.2.2.1 r240.2.2.2.2) fun r242=>(.done (r242.1,r242.2.1,r242.2.2.1,r242.2.2.2.1,r242.2.2.2.2))) (.ask ((r241.1==(3:Int))) (.opt (qh n r241.1 r241.2.1 r241.2.2.1 r240.2.1 r240.2.2.1 r240.2.2.2.1 r240.2.2.2.2) fun r243=>(.done (r243.1,r243.2.1,r243.2.2.1,r243.2.2.2.1,r243.2.2.2.2))) (.opt (qAO n r240.1) fun r244=>(.ask (r244.2.2.2.2) (.opt (qm n (2:Int) (0:Int) (0:Int) (0:Int) (⟨#[]⟩:BA) r244.1 r244.2.1 r244.2.2.1 r244.2.2.2.1 (0:Int) (0:Int) false false ([]:RW) r240.2.1 r240.2.2.1 r240.2.2.2.1 r240.2.2.2.2) fun r245=>(.done (r245.1,r245.2.1,r245.2.2.1,r245.2.2.2.1,r245.2.2.2.2))) (.opt (zD (qAS rec n) n (x0,r240.1,(1:Int),r240.2.1,r240.2.2.1,r240.2.2.2.1,r240.2.2.2.2)) fun r246=>(.alt r246 (fun r247=>(.done (r247.1,r247.2.1,r247.2.2.1,r247.2.2.2.1,r247.2.2.2.2))) (fun r248=>(.done ((-1:Int),r248.1,r248.2.1,true,r248.2.2.2))))))))) (.opt (qAO n r240.1) fun r249=>(.ask (r249.2.2.2.2) (.opt (qm n (2:Int) (0:Int) (0:Int) (0:Int) (⟨#[]⟩:BA) r249.1 r249.2.1 r249.2.2.1 r249.2.2.2.1 (0:Int) (0:Int) false false ([]:RW) r240.2.1 r240.2.2.1 r240.2.2.2.1 r240.2.2.2.2) fun r250=>(.done (r250.1,r250.2.1,r250.2.2.1,r250.2.2.2.1,r250.2.2.2.2))) (.opt (zD (qAS rec n) n (x0,r240.1,(1:Int),r240.2.1,r240.2.2.1,r240.2.2.2.1,r240.2.2.2.2)) fun r251=>(.alt r251 (fun r252=>(.done (r252.1,r252.2.1,r252.2.2.1,r252.2.2.2.1,r252.2.2.2.2))) (fun r253=>(.done ((-1:Int),r253.1,r253.2.1,true,r253.2.2.2)))))))))))))))))
def qB9 (rec:G_impl_reader_binary) (n:Nat) (v:Int×Int×Nat×RW×BA×Nat×Bool×RW):Tr ((Int×Int×Nat×RW×BA×Nat×Bool×RW)⊕((Int×Nat×RW×BA×Nat×Bool×RW))):=(.ask ((!v.2.2.2.2.2.2.1)) (.opt (qCq n v.2.2.2.2.1 v.2.2.2.2.2.1 v.2.2.2.2.2.2.1 v.2.2.2.2.2.2.2) fun r230=>(.ask (r230.2.2.2.2.2.2.2.2.2.2.2.2.2.2.1) (.opt (qm n r230.1 r230.2.1 r230.2.2.1 r230.2.2.2.1 r230.2.2.2.2.1 r230.2.2.2.2.2.1 r230.2.2.2.2.2.2.1 r230.2.2.2.2.2.2.2.1 r230.2.2.2.2.2.2.2.2.1 r230.2.2.2.2.2.2.2.2.2.1 r230.2.2.2.2.2.2.2.2.2.2.1 r230.2.2.2.2.2.2.2.2.2.2.2.1 r230.2.2.2.2.2.2.2.2.2.2.2.2.1 r230.2.2.2.2.2.2.2.2.2.2.2.2.2.1 r230.2.2.2.2.2.2.2.2.2.2.2.2.2.2.2.1 r230.2.2.2.2.2.2.2.2.2.2.2.2.2.2.2.2.1 r230.2.2.2.2.2.2.2.2.2.2.2.2.2.2.2.2.2.1 r230.2.2.2.2.2.2.2.2.2.2.2.2.2.2.2.2.2.2) fun r231=>(.ask (decide (1=([[(.i .i64 r231.1)]]:RW).length)) (.ask (decide (v.2.2.1=v.2.2.2.1.length∧0<1∧0<8∧(v.2.2.1+([[(.i .i64 r231.1)]]:RW).length)*8≤140737488355328∧([[(.i .i64 r231.1)]]:RW).all (fun e=>e.length==1)=true)) (.opt (ql n (⟨#[44]⟩:BA) r231.2.1 r231.2.2.1 r231.2.2.2.1 r231.2.2.2.2) fun r232=>(.ask ((!r232.1)) (.ask (r232.2.2.2.1) (.done (.inr ((v.1,(v.2.2.1+1),(v.2.2.2.1++([[(.i .i64 r231.1)]]:RW)),r232.2.1,r232.2.2.1,true,r232.2.2.2.2)))) (.opt (ql n (⟨#[41]⟩:BA) r232.2.1 r232.2.2.1 r232.2.2.2.1 r232.2.2.2.2) fun r233=>(.done (.inr ((v.1,(v.2.2.1+1),(v.2.2.2.1++([[(.i .i64 r231.1)]]:RW)),r233.2.1,r233.2.2.1,(!r233.1),r233.2.2.2.2)))))) (.done (.inl (v.1,v.2.1,(v.2.2.1+1),(v.2.2.2.1++([[(.i .i64 r231.1)]]:RW)),r232.2.1,r232.2.2.1,r232.2.2.2.1,r232.2.2.2.2))))) .fail) .fail)) (.opt (rec.impl_reader_binary (1:Int) (IntKind.i64.wrap (v.2.1+(1:Int))) r230.2.2.2.2.2.2.2.2.2.2.2.2.2.2.2.1 r230.2.2.2.2.2.2.2.2.2.2.2.2.2.2.2.2.1 r230.2.2.2.2.2.2.2.2.2.2.2.2.2.2.2.2.2.1 r230.2.2.2.2.2.2.2.2.2.2.2.2.2.2.2.2.2.2) fun r234=>(.ask (decide (1=([[(.i .i64 r234.1)]]:RW).length)) (.ask (decide (v.2.2.1=v.2.2.2.1.length∧0<1∧0<8∧(v.2.2.1+([[(.i .i64 r234.1)]]:RW).length)*8≤140737488355328∧([[(.i .i64 r234.1)]]:RW).all (fun e=>e.length==1)=true)) (.opt (ql n (⟨#[44]⟩:BA) r234.2.1 r234.2.2.1 r234.2.2.2.1 r234.2.2.2.2) fun r235=>(.ask ((!r235.1)) (.ask (r235.2.2.2.1) (.done (.inr ((v.1,(v.2.2.1+1),(v.2.2.2.1++([[(.i .i64 r234.1)]]:RW)),r235.2.1,r235.2.2.1,true,r235.2.2.2.2)))) (.opt (ql n (⟨#[41]⟩:BA) r235.2.1 r235.2.2.1 r235.2.2.2.1 r235.2.2.2.2) fun r236=>(.done (.inr ((v.1,(v.2.2.1+1),(v.2.2.2.1++([[(.i .i64 r234.1)]]:RW)),r236.2.1,r236.2.2.1,(!r236.1),r236.2.2.2.2)))))) (.done (.inl (v.1,v.2.1,(v.2.2.1+1),(v.2.2.2.1++([[(.i .i64 r234.1)]]:RW)),r235.2.1,r235.2.2.1,r235.2.2.2.1,r235.2.2.2.2))))) .fail) .fail)))) (.done (.inr ((v.1,v.2.2.1,v.2.2.2.1,v.2.2.2.2.1,v.2.2.2.2.2.1,v.2.2.2.2.2.2.1,v.2.2.2.2.2.2.2)))))
def qFO (rec:G_impl_reader_binary) (n:Nat) (x0 x1:Int) (x2:BA) (x3:Nat) (x4:Bool) (x5:RW):Tr (Int×BA×Nat×Bool×RW):=(.ask (x4) (.opt (zD (qB9 rec n) n (x0,x1,(0:Nat),([]:RW),x2,x3,true,x5)) fun r237=>(.ask (decide (r237.2.1=r237.2.2.1.length)) (.opt (qm n (6:Int) r237.1 (0:Int) (0:Int) (⟨#[]⟩:BA) (0:Int) (0:Int) false false (0:Int) (0:Int) false false r237.2.2.1 r237.2.2.2.1 r237.2.2.2.2.1 r237.2.2.2.2.2.1 r237.2.2.2.2.2.2) fun r238=>(.done (r238.1,r238.2.1,r238.2.2.1,r238.2.2.2.1,r238.2.2.2.2))) .fail)) (.opt (ql n (⟨#[40]⟩:BA) x2 x3 x4 x5) fun r239=>(.opt (zD (qB9 rec n) n (x0,x1,(0:Nat),([]:RW),r239.2.1,r239.2.2.1,(!r239.1),r239.2.2.2.2)) fun r240=>(.ask (decide (r240.2.1=r240.2.2.1.length)) (.opt (qm n (6:Int) r240.1 (0:Int) (0:Int) (⟨#[]⟩:BA) (0:Int) (0:Int) false false (0:Int) (0:Int) false false r240.2.2.1 r240.2.2.2.1 r240.2.2.2.2.1 r240.2.2.2.2.2.1 r240.2.2.2.2.2.2) fun r241=>(.done (r241.1,r241.2.1,r241.2.2.1,r241.2.2.2.1,r241.2.2.2.2))) .fail))))
def qT:Nat→G_impl_reader_binary
 |0=>⟨fun _ _ _ _ _ _=>none,fun _ _ _ _ _=>none,fun _ _ _ _ _=>none,fun _ _ _ _ _ _=>none⟩
 |n+1=>⟨fun x0 x1 x2 x3 x4 x5=>(qEj (qT n) n x0 x1 x2 x3 x4 x5).run,fun x0 x1 x2 x3 x4=>(qE2 (qT n) n x0 x1 x2 x3 x4).run,fun x0 x1 x2 x3 x4=>(qFN (qT n) n x0 x1 x2 x3 x4).run,fun x0 x1 x2 x3 x4 x5=>(qFO (qT n) n x0 x1 x2 x3 x4 x5).run⟩
def qCJ (n:Nat) (x0 x1:Int) (x2:BA) (x3:Nat) (x4:Bool) (x5:RW):Option (Int×BA×Nat×Bool×RW):=(qT n).impl_reader_binary x0 x1 x2 x3 x4 x5
def qE3 (n:Nat) (x0:Int) (x1:BA) (x2:Nat) (x3:Bool) (x4:RW):Option (Int×BA×Nat×Bool×RW):=(qT n).impl_reader_unary x0 x1 x2 x3 x4
def qFP (n:Nat) (x0:Int) (x1:BA) (x2:Nat) (x3:Bool) (x4:RW):Option (Int×BA×Nat×Bool×RW):=(qT n).impl_reader_atom x0 x1 x2 x3 x4
def qB4 (n:Nat) (x0 x1:Int) (x2:BA) (x3:Nat) (x4:Bool) (x5:RW):Option (Int×BA×Nat×Bool×RW):=(qT n).impl_reader_call x0 x1 x2 x3 x4 x5
def qt (n:Nat):Prop:=
 Ok (Rn n) qEi (qCJ n)∧
 Ok (Rn n) qIe (qE3 n)∧
 Ok (Rn n) qJF (qFP n)∧
 Ok (Rn n) qJG (qB4 n)
abbrev qC8 (n:Nat) (ih:qt n):List (Ent (Rn n)):= [en ih.2.1,en (qEx n),en (qHu n),en (qIw n),en (qBq n),en ih.1,en (qB3 n)]
def qGC (n:Nat) (ih:qt n):LEnt (lb 14 (KB 36)) (Rn n) n:=lok (Uniq.pick (zW 36) 14) 237 ⟨⟨[(0,(.c (.ptr 0 0 0 0 0))),(1,aI),(2,aI),(7,aI),(8,aI),(9,aI)],[],[[(0,⟨0,3,55,(.box [qS,(.own 0 1 1 0),qB])⟩),(1,⟨1,14,64,(.row [])⟩)]]⟩,[(.exit 2,⟨[(0,(.c (.ptr 0 0 0 0 0))),(1,aI),(2,aI),(7,aI),(8,aI)],[],[[(0,⟨0,3,55,(.box [qS,(.own 0 1 1 0),qB])⟩),(1,⟨1,14,64,(.row [])⟩)]]⟩)]⟩ (qA7 n) (qC8 n ih) [] fun _=>(by kernel_rfl)
def qGX (n:Nat) (ih:qt n):LEnt (KB 36) (Rn n) n:=lok (zW 36) 14 ⟨⟨[(0,(.c (.ptr 0 0 0 0 0))),(1,aI),(2,aI),(7,aI)],[],[[(0,⟨0,3,55,(.box [qS,(.own 0 1 1 0),qB])⟩),(1,⟨1,14,64,(.row [])⟩)]]⟩,[(.exit 0,⟨[(7,aI)],[],[[(0,⟨0,3,55,(.box [qS,(.own 0 1 1 0),qB])⟩),(1,⟨1,14,64,(.row [])⟩)]]⟩)]⟩ (qCc (qT n) n) (qC8 n ih) [qGC n ih] fun _=>(by kernel_rfl)
abbrev qIf (n:Nat) (ih:qt n):List (Ent (Rn n)):= [en (qBq n),en ih.2.1,en (qB3 n),en ih.2.2.1]
abbrev qDi (n:Nat) (ih:qt n):List (Ent (Rn n)):= [en (qB7 n),en (qCG n),en (qHa n),en (qD0 n),en (qC5 n),en (qIv n),en (qDo n),en (qEz n),en (qJp n),en (qFu n),en (qB3 n),en (qHt n),en ih.2.2.2,en (qBq n),en ih.1]
def qG3 (n:Nat) (ih:qt n):LEnt (KB 134) (Rn n) n:=lok (zW 134) 477 ⟨⟨[(0,(.c (.ptr 0 0 0 0 0))),(1,aI),(5,aI)],[],[[(0,⟨0,3,55,(.box [qS,(.own 0 1 1 0),qB])⟩),(1,⟨1,14,64,(.row [])⟩)]]⟩,[(.ret,⟨[(4,aI)],[],[[(0,⟨0,3,55,(.box [qS,(.own 0 1 1 0),qB])⟩),(1,⟨1,14,64,(.row [])⟩)]]⟩),(.exit 1,⟨[(0,(.c (.ptr 0 0 0 0 0))),(1,aI)],[],[[(0,⟨0,3,55,(.box [qS,(.own 0 1 1 0),qB])⟩),(1,⟨1,14,64,(.row [])⟩)]]⟩)]⟩ (qBt n) (qDi n ih) [] fun _=>(by kernel_rfl)
def qG4 (n:Nat) (ih:qt n):LEnt (KB 134) (Rn n) n:=lok (zW 134) 509 ⟨⟨[(0,(.c (.ptr 0 0 0 0 0))),(1,aI),(9,aS),(14,aI)],[],[[(0,⟨0,3,55,(.box [qS,(.own 0 1 1 0),qB])⟩),(1,⟨1,14,64,(.row [])⟩)]]⟩,[(.ret,⟨[(4,aI)],[],[[(0,⟨0,3,55,(.box [qS,(.own 0 1 1 0),qB])⟩),(1,⟨1,14,64,(.row [])⟩)]]⟩),(.exit 3,⟨[(0,(.c (.ptr 0 0 0 0 0)))],[],[[(0,⟨0,3,55,(.box [qS,(.own 0 1 1 0),qB])⟩),(1,⟨1,14,64,(.row [])⟩)]]⟩)]⟩ (qAS (qT n) n) (qDi n ih) [] fun _=>(by kernel_rfl)
abbrev qFQ (n:Nat) (ih:qt n):List (Ent (Rn n)):= [en (qGW n),en (qB3 n),en (qBq n),en ih.1]
def qHc (n:Nat) (ih:qt n):LEnt (KB 165) (Rn n) n:=lok (zW 165) 30 ⟨⟨[(0,(.c (.ptr 0 0 0 0 0))),(1,aI),(2,aI),(7,(.c (.own 1 640 0 0)))],[(640,⟨0,1,2,(.row [])⟩)],[[(0,⟨0,3,55,(.box [qS,(.own 0 1 1 0),qB])⟩),(1,⟨1,14,64,(.row [])⟩)]]⟩,[(.exit 0,⟨[(0,(.c (.ptr 0 0 0 0 0))),(1,aI),(7,(.c (.own 1 640 0 0)))],[(640,⟨0,1,2,(.row [])⟩)],[[(0,⟨0,3,55,(.box [qS,(.own 0 1 1 0),qB])⟩),(1,⟨1,14,64,(.row [])⟩)]]⟩)]⟩ (qB9 (qT n) n) (qFQ n ih) [] fun _=>(by kernel_rfl)
theorem qy:∀n,qt n
 |0=>⟨ok0 fun _=>rfl,ok0 fun _=>rfl,ok0 fun _=>rfl,ok0 fun _=>rfl⟩
 |n+1=>⟨stO (T:=qEj (qT n) n) (by kernel_rfl) (qC8 n (qy n)) [qGX n (qy n)] (fun _=>(by kernel_rfl)) fun _=>(by kernel_rfl),stO (T:=qE2 (qT n) n) (by kernel_rfl) (qIf n (qy n)) [] (fun _=>(by kernel_rfl)) fun _=>(by kernel_rfl),stO (T:=qFN (qT n) n) (by kernel_rfl) (qDi n (qy n)) [qG3 n (qy n),qG4 n (qy n)] (fun _=>(by kernel_rfl)) fun _=>(by kernel_rfl),stO (T:=qFO (qT n) n) (by kernel_rfl) (qFQ n (qy n)) [qHc n (qy n)] (fun _=>(by kernel_rfl)) fun _=>(by kernel_rfl)⟩
theorem qHd (n:Nat):Ok (Rn n) qEi (qCJ n):=(qy n).1
def qJr:Sg:=⟨174,[(.agg [qI,qI,qI,qI,qS,qI,qI,qB,qB,qI,qI,qB,qB,qL])],[],⟨(.agg [qI,qI,qI,qI]),[],[]⟩⟩
def qD4 (n:Nat) (x0 x1 x2 x3:Int) (x4:BA) (x5 x6:Int) (x7 x8:Bool) (x9 x10:Int) (x11 x12:Bool) (x13:RW):Tr (Int×Int×Int×Int):=(.ask ((x0==(2:Int))) (.done (x5,x6,x5,x6)) (.done (x5,x6,x9,x10)))
def qCK:Nat→Int→Int→Int→Int→BA→Int→Int→Bool→Bool→Int→Int→Bool→Bool→RW→Option (Int×Int×Int×Int)
 |0,_,_,_,_,_,_,_,_,_,_,_,_,_,_=>none
 |n+1,x0,x1,x2,x3,x4,x5,x6,x7,x8,x9,x10,x11,x12,x13=>(qD4 n x0 x1 x2 x3 x4 x5 x6 x7 x8 x9 x10 x11 x12 x13).run
theorem qJH:∀n,Ok (Rn n) qJr (qCK n)
 |0=>ok0 fun _=>rfl
 |n+1=>stO (T:=qD4 n) (by kernel_rfl) [] [] (fun _=>(by kernel_rfl)) fun _=>(by kernel_rfl)
def qMs:Sg:=⟨173,[(.agg [qI,qI,qI,qI])],[],⟨aB,[],[]⟩⟩
def qGD (n:Nat) (x0 x1 x2 x3:Int):Tr (Bool):=(.opt (qCI n x0 x1) fun r292=>(.ask (r292) (.opt (qCI n x2 x3) fun r293=>(.ask (r293) (.ask ((decide (x0≤x2))) (.done (decide (x1≤x3))) (.done false)) (.done false))) (.done false)))
def qDb:Nat→Int→Int→Int→Int→Option (Bool)
 |0,_,_,_,_=>none
 |n+1,x0,x1,x2,x3=>(qGD n x0 x1 x2 x3).run
abbrev qMt (n:Nat):List (Ent (Rn n)):= [en (qF9 n)]
theorem qL8:∀n,Ok (Rn n) qMs (qDb n)
 |0=>ok0 fun _=>rfl
 |n+1=>stO (T:=qGD n) (by kernel_rfl) (qMt n) [] (fun _=>(by kernel_rfl)) fun _=>(by kernel_rfl)
def qHe:Sg:=⟨145,[(.agg [qI,qI,qI,qI,qS,qI,qI,qB,qB,qI,qI,qB,qB,qL])],[],⟨aB,[],[]⟩⟩
def qC0 (n:Nat) (x0 x1 x2 x3:Int) (x4:BA) (x5 x6:Int) (x7 x8:Bool) (x9 x10:Int) (x11 x12:Bool) (x13:RW):Tr (Bool):=(.ask ((x0 !=(2:Int))) (.ask ((x0 !=(3:Int))) (.done true) (.opt (qCK n x0 x1 x2 x3 x4 x5 x6 x7 x8 x9 x10 x11 x12 x13) fun r291=>(.opt (qDb n r291.1 r291.2.1 r291.2.2.1 r291.2.2.2) fun r294=>(.done r294)))) (.opt (qCK n x0 x1 x2 x3 x4 x5 x6 x7 x8 x9 x10 x11 x12 x13) fun r295=>(.opt (qDb n r295.1 r295.2.1 r295.2.2.1 r295.2.2.2) fun r296=>(.done r296))))
def qu:Nat→Int→Int→Int→Int→BA→Int→Int→Bool→Bool→Int→Int→Bool→Bool→RW→Option (Bool)
 |0,_,_,_,_,_,_,_,_,_,_,_,_,_,_=>none
 |n+1,x0,x1,x2,x3,x4,x5,x6,x7,x8,x9,x10,x11,x12,x13=>(qC0 n x0 x1 x2 x3 x4 x5 x6 x7 x8 x9 x10 x11 x12 x13).run
abbrev qHf (n:Nat):List (Ent (Rn n)):= [en (qJH n),en (qL8 n)]
theorem qG5:∀n,Ok (Rn n) qHe (qu n)
 |0=>ok0 fun _=>rfl
 |n+1=>stO (T:=qC0 n) (by kernel_rfl) (qHf n) [] (fun _=>(by kernel_rfl)) fun _=>(by kernel_rfl)
def qIg:Sg:=⟨146,[(.agg [qI,qI,qI,qI,qS,qI,qI,qB,qB,qI,qI,qB,qB,qL])],[],⟨aB,[],[]⟩⟩
def qDS (n:Nat) (x0 x1 x2 x3:Int) (x4:BA) (x5 x6:Int) (x7 x8:Bool) (x9 x10:Int) (x11 x12:Bool) (x13:RW):Tr (Bool):=(.ask ((x0==(4:Int))) (.ask ((x1==(0:Int))) (.done ((x13.length:Int)==(1:Int))) (.done false)) (.ask ((x0==(5:Int))) (.opt (qAP n x1 (1:Int) (11:Int)) fun r298=>(.ask (r298) (.done ((x13.length:Int)==(2:Int))) (.done false))) (.ask ((x0==(6:Int))) (.opt (qAP n x1 (1:Int) (10:Int)) fun r299=>(.ask ((!r299)) (.done false) (.ask ((x1==(5:Int))) (.opt (qAP n (x13.length:Int) (2:Int) (3:Int)) fun r300=>(.done r300)) (.ask ((decide (x1≥(8:Int)))) (.done ((x13.length:Int)==(1:Int))) (.opt (qAP n (x13.length:Int) (1:Int) (10:Int)) fun r301=>(.done r301)))))) (.ask ((x1==(0:Int))) (.done ((x13.length:Int)==(0:Int))) (.done false)))))
def q7:Nat→Int→Int→Int→Int→BA→Int→Int→Bool→Bool→Int→Int→Bool→Bool→RW→Option (Bool)
 |0,_,_,_,_,_,_,_,_,_,_,_,_,_,_=>none
 |n+1,x0,x1,x2,x3,x4,x5,x6,x7,x8,x9,x10,x11,x12,x13=>(qDS n x0 x1 x2 x3 x4 x5 x6 x7 x8 x9 x10 x11 x12 x13).run
abbrev qIh (n:Nat):List (Ent (Rn n)):= [en (qC6 n)]
theorem qHv:∀n,Ok (Rn n) qIg (q7 n)
 |0=>ok0 fun _=>rfl
 |n+1=>stO (T:=qDS n) (by kernel_rfl) (qIh n) [] (fun _=>(by kernel_rfl)) fun _=>(by kernel_rfl)
def qJI:Sg:=⟨105,[(.agg [qI,qI,qI,qI,qS,qI,qI,qB,qB,qI,qI,qB,qB,qL])],[],⟨aB,[],[]⟩⟩
def qDj (n:Nat) (x0 x1 x2 x3:Int) (x4:BA) (x5 x6:Int) (x7 x8:Bool) (x9 x10:Int) (x11 x12:Bool) (x13:RW):Tr (Bool):=(.ask ((x0==(1:Int))) (.opt (qAV n x2 x3 x4) fun r290=>(.ask ((!r290)) (.done false) (.ask ((x2==(0:Int))) (.done false) (.ask ((x2==(1:Int))) (.ask ((decide (x3<(0:Int)))) (.done false) (.opt (qu n x0 x1 x2 x3 x4 x5 x6 x7 x8 x9 x10 x11 x12 x13) fun r297=>(.ask (r297) (.opt (q7 n x0 x1 x2 x3 x4 x5 x6 x7 x8 x9 x10 x11 x12 x13) fun r302=>(.ask (r302) (.ask (((x2==x2)&&((x3==x3)&&((x4.toList==x4.toList)&&true)))) (.ask ((((0:Int)==x5)&&(((0:Int)==x6)&&((false==x7)&&((false==x8)&&true))))) (.done (((0:Int)==x9)&&(((0:Int)==x10)&&((false==x11)&&((false==x12)&&true))))) (.done false)) (.done false)) (.done false))) (.done false)))) (.opt (qu n x0 x1 x2 x3 x4 x5 x6 x7 x8 x9 x10 x11 x12 x13) fun r303=>(.ask (r303) (.opt (q7 n x0 x1 x2 x3 x4 x5 x6 x7 x8 x9 x10 x11 x12 x13) fun r304=>(.ask (r304) (.ask (((x2==x2)&&((x3==x3)&&((x4.toList==x4.toList)&&true)))) (.ask ((((0:Int)==x5)&&(((0:Int)==x6)&&((false==x7)&&((false==x8)&&true))))) (.done (((0:Int)==x9)&&(((0:Int)==x10)&&((false==x11)&&((false==x12)&&true))))) (.done false)) (.done false)) (.done false))) (.done false))))))) (.ask ((x0==(2:Int))) (.opt (qu n x0 x1 x2 x3 x4 x5 x6 x7 x8 x9 x10 x11 x12 x13) fun r305=>(.ask (r305) (.opt (q7 n x0 x1 x2 x3 x4 x5 x6 x7 x8 x9 x10 x11 x12 x13) fun r306=>(.ask (r306) (.ask ((((0:Int)==x2)&&(((0:Int)==x3)&&(((⟨#[]⟩:BA).toList==x4.toList)&&true)))) (.ask (((x5==x5)&&((x6==x6)&&((x7==x7)&&((x8==x8)&&true))))) (.done (((0:Int)==x9)&&(((0:Int)==x10)&&((false==x11)&&((false==x12)&&true))))) (.done false)) (.done false)) (.done false))) (.done false))) (.ask ((x0==(3:Int))) (.opt (qu n x0 x1 x2 x3 x4 x5 x6 x7 x8 x9 x10 x11 x12 x13) fun r307=>(.ask (r307) (.opt (q7 n x0 x1 x2 x3 x4 x5 x6 x7 x8 x9 x10 x11 x12 x13) fun r308=>(.ask (r308) (.ask ((((0:Int)==x2)&&(((0:Int)==x3)&&(((⟨#[]⟩:BA).toList==x4.toList)&&true)))) (.ask (((x5==x5)&&((x6==x6)&&((x7==x7)&&((x8==x8)&&true))))) (.done ((x9==x9)&&((x10==x10)&&((x11==x11)&&((x12==x12)&&true))))) (.done false)) (.done false)) (.done false))) (.done false))) (.ask ((x0==(4:Int))) (.opt (qu n x0 x1 x2 x3 x4 x5 x6 x7 x8 x9 x10 x11 x12 x13) fun r309=>(.ask (r309) (.opt (q7 n x0 x1 x2 x3 x4 x5 x6 x7 x8 x9 x10 x11 x12 x13) fun r310=>(.ask (r310) (.ask ((((0:Int)==x2)&&(((0:Int)==x3)&&(((⟨#[]⟩:BA).toList==x4.toList)&&true)))) (.ask ((((0:Int)==x5)&&(((0:Int)==x6)&&((false==x7)&&((false==x8)&&true))))) (.done (((0:Int)==x9)&&(((0:Int)==x10)&&((false==x11)&&((false==x12)&&true))))) (.done false)) (.done false)) (.done false))) (.done false))) (.ask ((x0==(5:Int))) (.opt (qu n x0 x1 x2 x3 x4 x5 x6 x7 x8 x9 x10 x11 x12 x13) fun r311=>(.ask (r311) (.opt (q7 n x0 x1 x2 x3 x4 x5 x6 x7 x8 x9 x10 x11 x12 x13) fun r312=>(.ask (r312) (.ask ((((0:Int)==x2)&&(((0:Int)==x3)&&(((⟨#[]⟩:BA).toList==x4.toList)&&true)))) (.ask ((((0:Int)==x5)&&(((0:Int)==x6)&&((false==x7)&&((false==x8)&&true))))) (.done (((0:Int)==x9)&&(((0:Int)==x10)&&((false==x11)&&((false==x12)&&true))))) (.done false)) (.done false)) (.done false))) (.done false))) (.ask ((x0==(6:Int))) (.opt (qu n x0 x1 x2 x3 x4 x5 x6 x7 x8 x9 x10 x11 x12 x13) fun r313=>(.ask (r313) (.opt (q7 n x0 x1 x2 x3 x4 x5 x6 x7 x8 x9 x10 x11 x12 x13) fun r314=>(.ask (r314) (.ask ((((0:Int)==x2)&&(((0:Int)==x3)&&(((⟨#[]⟩:BA).toList==x4.toList)&&true)))) (.ask ((((0:Int)==x5)&&(((0:Int)==x6)&&((false==x7)&&((false==x8)&&true))))) (.done (((0:Int)==x9)&&(((0:Int)==x10)&&((false==x11)&&((false==x12)&&true))))) (.done false)) (.done false)) (.done false))) (.done false))) (.done false)))))))
def qCr:Nat→Int→Int→Int→Int→BA→Int→Int→Bool→Bool→Int→Int→Bool→Bool→RW→Option (Bool)
 |0,_,_,_,_,_,_,_,_,_,_,_,_,_,_=>none
 |n+1,x0,x1,x2,x3,x4,x5,x6,x7,x8,x9,x10,x11,x12,x13=>(qDj n x0 x1 x2 x3 x4 x5 x6 x7 x8 x9 x10 x11 x12 x13).run
abbrev qJJ (n:Nat):List (Ent (Rn n)):= [en (qHH n),en (qG5 n),en (qHv n)]
theorem qIi:∀n,Ok (Rn n) qJI (qCr n)
 |0=>ok0 fun _=>rfl
 |n+1=>stO (T:=qDj n) (by kernel_rfl) (qJJ n) [] (fun _=>(by kernel_rfl)) fun _=>(by kernel_rfl)
def qHw:Sg:=⟨49,[aL,aI,aI],[],⟨aI,[],[]⟩⟩
def qAF (rec:RW→Int→Int→Option (Int)) (n:Nat) (v:RW×Int×Int×Int×Int):Tr ((RW×Int×Int×Int×Int)⊕((Int)⊕(Int))):=(.ask ((decide (v.2.2.2.2≥(0:Int)))) (.ask (decide (0≤v.2.1∧v.2.1<v.1.length)) (.opt (v.1[(v.2.1).toNat]?) fun e318=>(.ask (decide (e318.length=14)) (.opt (zAY e318 13) fun y319=>(.ask (decide (0≤v.2.2.2.2∧v.2.2.2.2<y319.length)) (.opt (y319[(v.2.2.2.2).toNat]?) fun e320=>(.ask (decide (e320.length=1)) (.opt (zF .i64 e320 0) fun y321=>(.ask ((y321 !=(IntKind.i64.wrap (v.2.2.2.1-(1:Int))))) (.done (.inr (.inl ((-1:Int))))) (.ask ((decide (y321<(0:Int)))) (.done (.inr (.inl ((-1:Int))))) (.ask (decide (0≤y321∧y321<v.1.length)) (.opt (v.1[(y321).toNat]?) fun e322=>(.ask (decide (e322.length=14)) (.opt (zF .i64 e322 0) fun y323=>(.ask ((y323==(3:Int))) (.ask (decide (0≤v.2.1∧v.2.1<v.1.length)) (.opt (v.1[(v.2.1).toNat]?) fun e324=>(.ask (decide (e324.length=14)) (.opt (zF .i64 e324 0) fun y325=>(.ask ((y325 !=(6:Int))) (.done (.inr (.inl ((-1:Int))))) (.opt (rec v.1 y321 (IntKind.i64.wrap (v.2.2.1+(1:Int)))) fun r326=>(.ask ((decide (r326<(0:Int)))) (.done (.inr (.inl ((-1:Int))))) (.done (.inl (v.1,v.2.1,v.2.2.1,r326,(IntKind.i64.wrap (v.2.2.2.2-(1:Int)))))))))) .fail)) .fail) (.opt (rec v.1 y321 (IntKind.i64.wrap (v.2.2.1+(1:Int)))) fun r327=>(.ask ((decide (r327<(0:Int)))) (.done (.inr (.inl ((-1:Int))))) (.done (.inl (v.1,v.2.1,v.2.2.1,r327,(IntKind.i64.wrap (v.2.2.2.2-(1:Int)))))))))) .fail)) .fail)))) .fail)) .fail)) .fail)) .fail) (.done (.inr (.inr (v.2.2.2.1)))))
def qEk (rec:RW→Int→Int→Option (Int)) (n:Nat) (x0:RW) (x1 x2:Int):Tr (Int):=(.ask ((decide (x1<(0:Int)))) (.done (-1:Int)) (.ask ((decide (x2≥(12:Int)))) (.done (-1:Int)) (.ask (decide (0≤x1∧x1<x0.length)) (.opt (x0[(x1).toNat]?) fun e275=>(.ask (decide (e275.length=14)) (.opt (zF .i64 e275 0) fun y276=>(.opt (zF .i64 e275 1) fun y277=>(.opt (zF .i64 e275 2) fun y278=>(.opt (zF .i64 e275 3) fun y279=>(.opt (zh e275 4) fun y280=>(.opt (zF .i64 e275 5) fun y281=>(.opt (zF .i64 e275 6) fun y282=>(.opt (zw e275 7) fun y283=>(.opt (zw e275 8) fun y284=>(.opt (zF .i64 e275 9) fun y285=>(.opt (zF .i64 e275 10) fun y286=>(.opt (zw e275 11) fun y287=>(.opt (zw e275 12) fun y288=>(.opt (zAY e275 13) fun y289=>(.opt (qCr n y276 y277 y278 y279 y280 y281 y282 y283 y284 y285 y286 y287 y288 y289) fun r315=>(.ask ((!r315)) (.done (-1:Int)) (.ask (decide (0≤x1∧x1<x0.length)) (.opt (x0[(x1).toNat]?) fun e316=>(.ask (decide (e316.length=14)) (.opt (zAY e316 13) fun y317=>(.opt (zD (qAF rec n) n (x0,x1,x2,x1,(IntKind.i64.wrap ((y317.length:Int)-(1:Int))))) fun r328=>(.alt r328 (fun r329=>(.done r329)) (fun r330=>(.done r330))))) .fail)) .fail))))))))))))))))) .fail)) .fail)))
def qAQ:Nat→RW→Int→Int→Option (Int)
 |0,_,_,_=>none
 |n+1,x0,x1,x2=>(qEk (qAQ n) n x0 x1 x2).run
abbrev qLK (n:Nat) (ih:Ok (Rn n) qHw (qAQ n)):List (Ent (Rn n)):= [en (qIi n),en ih]
def qL9 (n:Nat) (ih:Ok (Rn n) qHw (qAQ n)):LEnt (KB 49) (Rn n) n:=lok (zW 49) 61 ⟨⟨[(0,aL),(1,aI),(2,aI),(7,aI),(8,aI)],[],[]⟩,[(.ret,⟨[(6,aI)],[],[]⟩),(.exit 0,⟨[(7,aI)],[],[]⟩)]⟩ (qAF (qAQ n) n) (qLK n ih) [] fun _=>(by kernel_rfl)
theorem qG6:∀n,Ok (Rn n) qHw (qAQ n)
 |0=>ok0 fun _=>rfl
 |n+1=>stO (T:=qEk (qAQ n) n) (by kernel_rfl) (qLK n (qG6 n)) [qL9 n (qG6 n)] (fun _=>(by kernel_rfl)) fun _=>(by kernel_rfl)
def qKp:Sg:=⟨18,[aL],[],⟨aB,[],[]⟩⟩
def qCd (n:Nat) (x0:RW):Tr (Bool):=(.opt (qAP n (x0.length:Int) (1:Int) (60:Int)) fun r272=>(.ask (r272) (.ask (decide (0≤(IntKind.i64.wrap ((x0.length:Int)-(1:Int)))∧(IntKind.i64.wrap ((x0.length:Int)-(1:Int)))<x0.length)) (.opt (x0[((IntKind.i64.wrap ((x0.length:Int)-(1:Int)))).toNat]?) fun e273=>(.ask (decide (e273.length=14)) (.opt (zF .i64 e273 0) fun y274=>(.ask ((y274 !=(3:Int))) (.opt (qAQ n x0 (IntKind.i64.wrap ((x0.length:Int)-(1:Int))) (0:Int)) fun r331=>(.done (r331==(0:Int)))) (.done false))) .fail)) .fail) (.done false)))
def qBF:Nat→RW→Option (Bool)
 |0,_=>none
 |n+1,x0=>(qCd n x0).run
abbrev qKq (n:Nat):List (Ent (Rn n)):= [en (qC6 n),en (qG6 n)]
theorem qD5:∀n,Ok (Rn n) qKp (qBF n)
 |0=>ok0 fun _=>rfl
 |n+1=>stO (T:=qCd n) (by kernel_rfl) (qKq n) [] (fun _=>(by kernel_rfl)) fun _=>(by kernel_rfl)
def qJK:Sg:=⟨10,[aS],[],⟨(.tup [(false,[qL]),(false,[qB])]),[],[]⟩⟩
def qFR (n:Nat) (x0:BA):Tr (RW×Bool):=(.opt (qDZ n x0 (200:Int)) fun r129=>(.ask ((!r129)) (.ask (decide (0=([]:RW).length)) (.done (([]:RW),false)) .fail) (.opt (qCJ n (1:Int) (0:Int) x0 (0:Nat) false ([]:RW)) fun r270=>(.opt (qAt n r270.2.1 r270.2.2.1 r270.2.2.2.1 r270.2.2.2.2) fun r271=>(.ask (r271.2.2.1) (.ask (decide (0=([]:RW).length)) (.done (([]:RW),false)) .fail) (.ask ((!(r271.1.toList==(⟨#[]⟩:BA).toList))) (.ask (decide (0=([]:RW).length)) (.done (([]:RW),false)) .fail) (.ask (decide (r271.2.1=r271.2.2.2.length)) (.opt (qBF n r271.2.2.2) fun r332=>(.ask (zAx (⟨(.c (.p (.b r332))),[],[]⟩:Res)) (.ask ((!r332)) (.ask (decide (0=([]:RW).length)) (.done (([]:RW),false)) .fail) (.ask (decide (r271.2.1=r271.2.2.2.length)) (.done (r271.2.2.2,true)) .fail)) .fail)) .fail)))))))
def qCs:Nat→BA→Option (RW×Bool)
 |0,_=>none
 |n+1,x0=>(qFR n x0).run
abbrev qJL (n:Nat):List (Ent (Rn n)):= [en (qHn n),en (qHd n),en (qB7 n),en (qD5 n)]
theorem qIj:∀n,Ok (Rn n) qJK (qCs n)
 |0=>ok0 fun _=>rfl
 |n+1=>stO (T:=qFR n) (by kernel_rfl) (qJL n) [] (fun _=>(by kernel_rfl)) fun _=>(by kernel_rfl)
def qMA:Sg:=⟨32,[aS],[],⟨aB,[],[]⟩⟩
def qBK (n:Nat) (v:BA×Int):Tr ((BA×Int)⊕((Bool)⊕(BA))):=(.ask ((decide (v.2<(v.1.size:Int)))) (.ask (decide (0≤v.2)) (.opt (v.1.toList[(v.2).toNat]?) fun c334=>(.ask ((decide ((c334.toNat:Int)<(32:Int)))) (.done (.inr (.inl (false)))) (.ask (decide (0≤v.2)) (.opt (v.1.toList[(v.2).toNat]?) fun c335=>(.ask ((decide ((c335.toNat:Int)>(126:Int)))) (.done (.inr (.inl (false)))) (.done (.inl (v.1,(IntKind.i64.wrap (v.2+(1:Int)))))))) .fail))) .fail) (.done (.inr (.inr (v.1)))))
def qFS (n:Nat) (x0:BA):Tr (Bool):=(.opt (zD (qBK n) n (x0,(0:Int))) fun r336=>(.alt r336 (fun r337=>(.done r337)) (fun r338=>(.done (decide ((r338.size:Int)≤(200:Int)))))))
def qC9:Nat→BA→Option (Bool)
 |0,_=>none
 |n+1,x0=>(qFS n x0).run
def qJs (n:Nat):LEnt (KB 32) (Rn n) n:=lok (zW 32) 13 ⟨⟨[(0,aS),(3,aI)],[],[]⟩,[(.ret,⟨[(2,aB)],[],[]⟩),(.exit 0,⟨[(0,aS)],[],[]⟩)]⟩ (qBK n) [] [] fun _=>(by kernel_rfl)
theorem qHK:∀n,Ok (Rn n) qMA (qC9 n)
 |0=>ok0 fun _=>rfl
 |n+1=>stO (T:=qFS n) (by kernel_rfl) [] [qJs n] (fun _=>(by kernel_rfl)) fun _=>(by kernel_rfl)
def qJM:Sg:=⟨34,[(.c (.ptr 0 0 0 0 0))],[[(0,⟨0,4,50,(.box [qS,qI,qB,(.own 0 1 1 0)])⟩),(1,⟨1,14,64,(.row [])⟩)]],⟨(.tup []),[[(0,⟨0,4,50,(.box [qS,qI,qB,(.own 0 1 1 0)])⟩),(1,⟨1,14,64,(.row [])⟩)]],[]⟩⟩
def qDA (n:Nat) (v:BA×Int×Bool×Nat×RW):Tr ((BA×Int×Bool×Nat×RW)⊕((BA×Int×Bool×Nat×RW))):=(.ask ((decide (v.2.1<(v.1.size:Int)))) (.ask (decide (0≤v.2.1)) (.opt (v.1.toList[(v.2.1).toNat]?) fun c340=>(.ask (((c340.toNat:Int)==(32:Int))) (.done (.inl (v.1,(IntKind.i64.wrap (v.2.1+(1:Int))),v.2.2.1,v.2.2.2.1,v.2.2.2.2))) (.done (.inr ((v.1,v.2.1,v.2.2.1,v.2.2.2.1,v.2.2.2.2)))))) .fail) (.done (.inr ((v.1,v.2.1,v.2.2.1,v.2.2.2.1,v.2.2.2.2)))))
def qFT (n:Nat) (x0:BA) (x1:Int) (x2:Bool) (x3:Nat) (x4:RW):Tr (BA×Int×Bool×Nat×RW):=(.opt (zD (qDA n) n (x0,x1,x2,x3,x4)) fun r341=>(.done (r341.1,r341.2.1,r341.2.2.1,r341.2.2.2.1,r341.2.2.2.2)))
def qBX:Nat→BA→Int→Bool→Nat→RW→Option (BA×Int×Bool×Nat×RW)
 |0,_,_,_,_,_=>none
 |n+1,x0,x1,x2,x3,x4=>(qFT n x0 x1 x2 x3 x4).run
def qHx (n:Nat):LEnt (KB 34) (Rn n) n:=lok (zW 34) 1 ⟨⟨[(0,(.c (.ptr 0 0 0 0 0)))],[],[[(0,⟨0,4,50,(.box [qS,qI,qB,(.own 0 1 1 0)])⟩),(1,⟨1,14,64,(.row [])⟩)]]⟩,[(.exit 0,⟨[],[],[[(0,⟨0,4,50,(.box [qS,qI,qB,(.own 0 1 1 0)])⟩),(1,⟨1,14,64,(.row [])⟩)]]⟩)]⟩ (qDA n) [] [] fun _=>(by kernel_rfl)
theorem qDT:∀n,Ok (Rn n) qJM (qBX n)
 |0=>ok0 fun _=>rfl
 |n+1=>stO (T:=qFT n) (by kernel_rfl) [] [qHx n] (fun _=>(by kernel_rfl)) fun _=>(by kernel_rfl)
def qMB:Sg:=⟨128,[(.c (.ptr 0 0 0 0 0)),aS],[[(0,⟨0,4,50,(.box [qS,qI,qB,(.own 0 1 1 0)])⟩),(1,⟨1,14,64,(.row [])⟩)]],⟨aB,[[(0,⟨0,4,50,(.box [qS,qI,qB,(.own 0 1 1 0)])⟩),(1,⟨1,14,64,(.row [])⟩)]],[]⟩⟩
def qHy (n:Nat) (x0 x1:BA) (x2:Int) (x3:Bool) (x4:Nat) (x5:RW):Tr (Bool×BA×Int×Bool×Nat×RW):=(.opt (qBX n x1 x2 x3 x4 x5) fun r342=>(.ask (r342.2.2.1) (.done (false,r342.1,r342.2.1,r342.2.2.1,r342.2.2.2.1,r342.2.2.2.2)) (.ask ((decide ((IntKind.i64.wrap (r342.2.1+(x0.size:Int)))>(r342.1.size:Int)))) (.done (false,r342.1,r342.2.1,r342.2.2.1,r342.2.2.2.1,r342.2.2.2.2)) (.ask (decide (0≤r342.2.1∧r342.2.1≤(IntKind.i64.wrap (r342.2.1+(x0.size:Int)))∧(IntKind.i64.wrap (r342.2.1+(x0.size:Int)))≤r342.1.size)) (.ask ((!((r342.1.extract (r342.2.1).toNat ((IntKind.i64.wrap (r342.2.1+(x0.size:Int)))).toNat).toList==x0.toList))) (.done (false,r342.1,r342.2.1,r342.2.2.1,r342.2.2.2.1,r342.2.2.2.2)) (.done (true,r342.1,(IntKind.i64.wrap (r342.2.1+(x0.size:Int))),r342.2.2.1,r342.2.2.2.1,r342.2.2.2.2))) .fail))))
def qv:Nat→BA→BA→Int→Bool→Nat→RW→Option (Bool×BA×Int×Bool×Nat×RW)
 |0,_,_,_,_,_,_=>none
 |n+1,x0,x1,x2,x3,x4,x5=>(qHy n x0 x1 x2 x3 x4 x5).run
abbrev qMC (n:Nat):List (Ent (Rn n)):= [en (qDT n)]
theorem qDg:∀n,Ok (Rn n) qMB (qv n)
 |0=>ok0 fun _=>rfl
 |n+1=>stO (T:=qHy n) (by kernel_rfl) (qMC n) [] (fun _=>(by kernel_rfl)) fun _=>(by kernel_rfl)
def qMD:Sg:=⟨111,[(.agg [qI,qI,qS])],[],⟨aB,[],[]⟩⟩
def qFU (n:Nat) (x0 x1:Int) (x2:BA):Tr (Bool):=(.ask ((x0==(0:Int))) (.ask ((x1==(0:Int))) (.done (x2.toList==(⟨#[]⟩:BA).toList)) (.done false)) (.ask ((x0==(1:Int))) (.opt (qBD n x1 (-1000000000000000:Int) (1000000000000000:Int)) fun r345=>(.ask (r345) (.done (x2.toList==(⟨#[]⟩:BA).toList)) (.done false))) (.ask ((x0==(2:Int))) (.ask ((x1==(0:Int))) (.opt (qC9 n x2) fun r346=>(.done r346)) (.done false)) (.ask ((x0==(3:Int))) (.opt (qBD n x1 (0:Int) (1:Int)) fun r347=>(.ask (r347) (.done (x2.toList==(⟨#[]⟩:BA).toList)) (.done false))) (.ask ((x0==(4:Int))) (.opt (qBD n x1 (1:Int) (5:Int)) fun r348=>(.ask (r348) (.done (x2.toList==(⟨#[]⟩:BA).toList)) (.done false))) (.done false))))))
def qq:Nat→Int→Int→BA→Option (Bool)
 |0,_,_,_=>none
 |n+1,x0,x1,x2=>(qFU n x0 x1 x2).run
abbrev qME (n:Nat):List (Ent (Rn n)):= [en (qDv n),en (qHK n)]
theorem qHL:∀n,Ok (Rn n) qMD (qq n)
 |0=>ok0 fun _=>rfl
 |n+1=>stO (T:=qFU n) (by kernel_rfl) (qME n) [] (fun _=>(by kernel_rfl)) fun _=>(by kernel_rfl)
def qMu:Sg:=⟨112,[(.agg [qI,qI,qI,qI])],[],⟨aB,[],[]⟩⟩
def qGE (n:Nat) (x0 x1 x2 x3:Int):Tr (Bool):=(.opt (qAJ n x0 x1) fun r351=>(.ask (r351) (.opt (qAJ n x2 x3) fun r352=>(.ask (r352) (.ask ((decide (x0≤x2))) (.done (decide (x1≤x3))) (.done false)) (.done false))) (.done false)))
def qEa:Nat→Int→Int→Int→Int→Option (Bool)
 |0,_,_,_,_=>none
 |n+1,x0,x1,x2,x3=>(qGE n x0 x1 x2 x3).run
abbrev qMv (n:Nat):List (Ent (Rn n)):= [en (qEY n)]
theorem qMF:∀n,Ok (Rn n) qMu (qEa n)
 |0=>ok0 fun _=>rfl
 |n+1=>stO (T:=qGE n) (by kernel_rfl) (qMv n) [] (fun _=>(by kernel_rfl)) fun _=>(by kernel_rfl)
def qMw:Sg:=⟨113,[aI,aI],[],⟨aB,[],[]⟩⟩
def qGF (n:Nat) (x0 x1:Int):Tr (Bool):=(.ask ((x0==(1:Int))) (.ask ((decide (x1≥(1:Int)))) (.done (decide (x1≤(10:Int)))) (.done false)) (.ask ((x0==(2:Int))) (.ask ((decide (x1≥(1:Int)))) (.done (decide (x1≤(10:Int)))) (.done false)) (.ask ((x0==(3:Int))) (.ask ((decide (x1≥(1:Int)))) (.done (decide (x1≤(10:Int)))) (.done false)) (.ask ((x0==(4:Int))) (.ask ((decide (x1≥(1:Int)))) (.done (decide (x1≤(10:Int)))) (.done false)) (.ask ((x0==(6:Int))) (.ask ((decide (x1≥(1:Int)))) (.done (decide (x1≤(10:Int)))) (.done false)) (.ask ((x0==(7:Int))) (.ask ((decide (x1≥(1:Int)))) (.done (decide (x1≤(10:Int)))) (.done false)) (.ask ((x0==(5:Int))) (.ask ((x1==(2:Int))) (.done true) (.done (x1==(3:Int)))) (.ask ((x0==(8:Int))) (.done (x1==(1:Int))) (.ask ((x0==(9:Int))) (.done (x1==(1:Int))) (.ask ((x0==(10:Int))) (.done (x1==(1:Int))) (.done false)))))))))))
def qEb:Nat→Int→Int→Option (Bool)
 |0,_,_=>none
 |n+1,x0,x1=>(qGF n x0 x1).run
theorem qMG:∀n,Ok (Rn n) qMw (qEb n)
 |0=>ok0 fun _=>rfl
 |n+1=>stO (T:=qGF n) (by kernel_rfl) [] [] (fun _=>(by kernel_rfl)) fun _=>(by kernel_rfl)
def qLb:Sg:=⟨52,[(.agg [qI,qI,qI,qI,qS,qI,qI,qB,qB,qI,qI,qB,qB,qL])],[],⟨aB,[],[]⟩⟩
def qEt (n:Nat) (x0 x1 x2 x3:Int) (x4:BA) (x5 x6:Int) (x7 x8:Bool) (x9 x10:Int) (x11 x12:Bool) (x13:RW):Tr (Bool):=(.ask ((x0==(1:Int))) (.ask ((x1==(0:Int))) (.ask (((x5==(0:Int))&&((x6==(0:Int))&&((x7==false)&&((x8==false)&&true))))) (.ask (((x9==(0:Int))&&((x10==(0:Int))&&((x11==false)&&((x12==false)&&true))))) (.ask (((x13.length:Int)==(0:Int))) (.opt (qq n x2 x3 x4) fun r349=>(.ask (r349) (.ask ((x2 !=(0:Int))) (.ask ((x2 !=(1:Int))) (.done true) (.done (decide (x3≥(0:Int))))) (.done false)) (.done false))) (.done false)) (.done false)) (.done false)) (.done false)) (.ask ((x0==(2:Int))) (.ask ((x1==(0:Int))) (.ask (((x2==(0:Int))&&((x3==(0:Int))&&((x4.toList==(⟨#[]⟩:BA).toList)&&true)))) (.ask (((x9==(0:Int))&&((x10==(0:Int))&&((x11==false)&&((x12==false)&&true))))) (.ask (((x13.length:Int)==(0:Int))) (.opt (qAJ n x5 x6) fun r350=>(.done r350)) (.done false)) (.done false)) (.done false)) (.done false)) (.ask ((x0==(3:Int))) (.ask ((x1==(0:Int))) (.ask (((x2==(0:Int))&&((x3==(0:Int))&&((x4.toList==(⟨#[]⟩:BA).toList)&&true)))) (.ask (((x13.length:Int)==(0:Int))) (.opt (qEa n x5 x6 x9 x10) fun r353=>(.done r353)) (.done false)) (.done false)) (.done false)) (.ask ((x0==(4:Int))) (.ask ((x1==(0:Int))) (.ask (((x2==(0:Int))&&((x3==(0:Int))&&((x4.toList==(⟨#[]⟩:BA).toList)&&true)))) (.ask (((x5==(0:Int))&&((x6==(0:Int))&&((x7==false)&&((x8==false)&&true))))) (.ask (((x9==(0:Int))&&((x10==(0:Int))&&((x11==false)&&((x12==false)&&true))))) (.done ((x13.length:Int)==(1:Int))) (.done false)) (.done false)) (.done false)) (.done false)) (.ask ((x0==(5:Int))) (.opt (qBD n x1 (1:Int) (11:Int)) fun r354=>(.ask (r354) (.ask (((x2==(0:Int))&&((x3==(0:Int))&&((x4.toList==(⟨#[]⟩:BA).toList)&&true)))) (.ask (((x5==(0:Int))&&((x6==(0:Int))&&((x7==false)&&((x8==false)&&true))))) (.ask (((x9==(0:Int))&&((x10==(0:Int))&&((x11==false)&&((x12==false)&&true))))) (.done ((x13.length:Int)==(2:Int))) (.done false)) (.done false)) (.done false)) (.done false))) (.ask ((x0==(6:Int))) (.opt (qEb n x1 (x13.length:Int)) fun r355=>(.ask (r355) (.ask (((x2==(0:Int))&&((x3==(0:Int))&&((x4.toList==(⟨#[]⟩:BA).toList)&&true)))) (.ask (((x5==(0:Int))&&((x6==(0:Int))&&((x7==false)&&((x8==false)&&true))))) (.done ((x9==(0:Int))&&((x10==(0:Int))&&((x11==false)&&((x12==false)&&true))))) (.done false)) (.done false)) (.done false))) (.done false)))))))
def qBn:Nat→Int→Int→Int→Int→BA→Int→Int→Bool→Bool→Int→Int→Bool→Bool→RW→Option (Bool)
 |0,_,_,_,_,_,_,_,_,_,_,_,_,_,_=>none
 |n+1,x0,x1,x2,x3,x4,x5,x6,x7,x8,x9,x10,x11,x12,x13=>(qEt n x0 x1 x2 x3 x4 x5 x6 x7 x8 x9 x10 x11 x12 x13).run
abbrev qLc (n:Nat):List (Ent (Rn n)):= [en (qHL n),en (qEY n),en (qMF n),en (qDv n),en (qMG n)]
theorem qGY:∀n,Ok (Rn n) qLb (qBn n)
 |0=>ok0 fun _=>rfl
 |n+1=>stO (T:=qEt n) (by kernel_rfl) (qLc n) [] (fun _=>(by kernel_rfl)) fun _=>(by kernel_rfl)
def qLd:Sg:=⟨83,[(.c (.ptr 0 0 0 0 0)),(.agg [qI,qI,qI,qI,qS,qI,qI,qB,qB,qI,qI,qB,qB,qL])],[[(0,⟨0,4,50,(.box [qS,qI,qB,(.own 0 1 1 0)])⟩),(1,⟨1,14,64,(.row [])⟩)]],⟨aI,[[(0,⟨0,4,50,(.box [qS,qI,qB,(.own 0 1 1 0)])⟩),(1,⟨1,14,64,(.row [])⟩)]],[]⟩⟩
def qHM (n:Nat) (x0 x1 x2 x3:Int) (x4:BA) (x5 x6:Int) (x7 x8:Bool) (x9 x10:Int) (x11 x12:Bool) (x13:RW) (x14:BA) (x15:Int) (x16:Bool) (x17:Nat) (x18:RW):Tr (Int×BA×Int×Bool×Nat×RW):=(.ask (decide (1=([[(.i .i64 x0),(.i .i64 x1),(.i .i64 x2),(.i .i64 x3),(.s x4),(.i .i64 x5),(.i .i64 x6),(.b x7),(.b x8),(.i .i64 x9),(.i .i64 x10),(.b x11),(.b x12),(.ls x13)]]:RW).length)) (.ask (decide (x17=x18.length∧0<14∧0<120∧(x17+([[(.i .i64 x0),(.i .i64 x1),(.i .i64 x2),(.i .i64 x3),(.s x4),(.i .i64 x5),(.i .i64 x6),(.b x7),(.b x8),(.i .i64 x9),(.i .i64 x10),(.b x11),(.b x12),(.ls x13)]]:RW).length)*120≤140737488355328∧([[(.i .i64 x0),(.i .i64 x1),(.i .i64 x2),(.i .i64 x3),(.s x4),(.i .i64 x5),(.i .i64 x6),(.b x7),(.b x8),(.i .i64 x9),(.i .i64 x10),(.b x11),(.b x12),(.ls x13)]]:RW).all (fun e=>e.length==14)=true)) (.ask ((decide ((((x17+1):Nat):Int)>(60:Int)))) (.done ((IntKind.i64.wrap ((((x17+1):Nat):Int)-(1:Int))),x14,x15,true,(x17+1),(x18++([[(.i .i64 x0),(.i .i64 x1),(.i .i64 x2),(.i .i64 x3),(.s x4),(.i .i64 x5),(.i .i64 x6),(.b x7),(.b x8),(.i .i64 x9),(.i .i64 x10),(.b x11),(.b x12),(.ls x13)]]:RW)))) (.opt (qBn n x0 x1 x2 x3 x4 x5 x6 x7 x8 x9 x10 x11 x12 x13) fun r356=>(.ask ((!r356)) (.done ((IntKind.i64.wrap ((((x17+1):Nat):Int)-(1:Int))),x14,x15,true,(x17+1),(x18++([[(.i .i64 x0),(.i .i64 x1),(.i .i64 x2),(.i .i64 x3),(.s x4),(.i .i64 x5),(.i .i64 x6),(.b x7),(.b x8),(.i .i64 x9),(.i .i64 x10),(.b x11),(.b x12),(.ls x13)]]:RW)))) (.done ((IntKind.i64.wrap ((((x17+1):Nat):Int)-(1:Int))),x14,x15,x16,(x17+1),(x18++([[(.i .i64 x0),(.i .i64 x1),(.i .i64 x2),(.i .i64 x3),(.s x4),(.i .i64 x5),(.i .i64 x6),(.b x7),(.b x8),(.i .i64 x9),(.i .i64 x10),(.b x11),(.b x12),(.ls x13)]]:RW))))))) .fail) .fail)
def qp:Nat→Int→Int→Int→Int→BA→Int→Int→Bool→Bool→Int→Int→Bool→Bool→RW→BA→Int→Bool→Nat→RW→Option (Int×BA×Int×Bool×Nat×RW)
 |0,_,_,_,_,_,_,_,_,_,_,_,_,_,_,_,_,_,_,_=>none
 |n+1,x0,x1,x2,x3,x4,x5,x6,x7,x8,x9,x10,x11,x12,x13,x14,x15,x16,x17,x18=>(qHM n x0 x1 x2 x3 x4 x5 x6 x7 x8 x9 x10 x11 x12 x13 x14 x15 x16 x17 x18).run
abbrev qLe (n:Nat):List (Ent (Rn n)):= [en (qGY n)]
theorem qCe:∀n,Ok (Rn n) qLd (qp n)
 |0=>ok0 fun _=>rfl
 |n+1=>stO (T:=qHM n) (by kernel_rfl) (qLe n) [] (fun _=>(by kernel_rfl)) fun _=>(by kernel_rfl)
def qKr:Sg:=⟨129,[(.c (.ptr 0 0 0 0 0))],[[(0,⟨0,4,50,(.box [qS,qI,qB,(.own 0 1 1 0)])⟩),(1,⟨1,14,64,(.row [])⟩)]],⟨aI,[[(0,⟨0,4,50,(.box [qS,qI,qB,(.own 0 1 1 0)])⟩),(1,⟨1,14,64,(.row [])⟩)]],[]⟩⟩
def qDU (n:Nat) (v:BA×BA×Int×Bool×Nat×RW):Tr ((BA×BA×Int×Bool×Nat×RW)⊕((Int×BA×Int×Bool×Nat×RW)⊕(BA×Int×Bool×Nat×RW))):=(.ask ((decide (v.2.2.1<(v.2.1.size:Int)))) (.ask (decide (0≤v.2.2.1)) (.opt (v.2.1.toList[(v.2.2.1).toNat]?) fun c362=>(.ask (((c362.toNat:Int) !=(34:Int))) (.ask (decide (0≤v.2.2.1∧v.2.2.1≤(IntKind.i64.wrap (v.2.2.1+(1:Int)))∧(IntKind.i64.wrap (v.2.2.1+(1:Int)))≤v.2.1.size)) (.ask (decide (v.1.size+(v.2.1.extract (v.2.2.1).toNat ((IntKind.i64.wrap (v.2.2.1+(1:Int)))).toNat).size≤9223372036854775807)) (.done (.inl ((v.1++(v.2.1.extract (v.2.2.1).toNat ((IntKind.i64.wrap (v.2.2.1+(1:Int)))).toNat)),v.2.1,(IntKind.i64.wrap (v.2.2.1+(1:Int))),v.2.2.2.1,v.2.2.2.2.1,v.2.2.2.2.2))) .fail) .fail) (.ask ((decide ((IntKind.i64.wrap (v.2.2.1+(1:Int)))≥(v.2.1.size:Int)))) (.opt (qp n (1:Int) (0:Int) (2:Int) (0:Int) v.1 (0:Int) (0:Int) false false (0:Int) (0:Int) false false ([]:RW) v.2.1 (IntKind.i64.wrap (v.2.2.1+(1:Int))) v.2.2.2.1 v.2.2.2.2.1 v.2.2.2.2.2) fun r363=>(.done (.inr (.inl ((r363.1,r363.2.1,r363.2.2.1,r363.2.2.2.1,r363.2.2.2.2.1,r363.2.2.2.2.2)))))) (.ask (decide (0≤(IntKind.i64.wrap (v.2.2.1+(1:Int))))) (.opt (v.2.1.toList[((IntKind.i64.wrap (v.2.2.1+(1:Int)))).toNat]?) fun c364=>(.ask (((c364.toNat:Int) !=(34:Int))) (.opt (qp n (1:Int) (0:Int) (2:Int) (0:Int) v.1 (0:Int) (0:Int) false false (0:Int) (0:Int) false false ([]:RW) v.2.1 (IntKind.i64.wrap (v.2.2.1+(1:Int))) v.2.2.2.1 v.2.2.2.2.1 v.2.2.2.2.2) fun r365=>(.done (.inr (.inl ((r365.1,r365.2.1,r365.2.2.1,r365.2.2.2.1,r365.2.2.2.2.1,r365.2.2.2.2.2)))))) (.ask (decide (v.1.size+(⟨#[34]⟩:BA).size≤9223372036854775807)) (.done (.inl ((v.1++(⟨#[34]⟩:BA)),v.2.1,(IntKind.i64.wrap ((IntKind.i64.wrap (v.2.2.1+(1:Int)))+(1:Int))),v.2.2.2.1,v.2.2.2.2.1,v.2.2.2.2.2))) .fail))) .fail)))) .fail) (.done (.inr (.inr ((v.2.1,v.2.2.1,v.2.2.2.1,v.2.2.2.2.1,v.2.2.2.2.2))))))
def qGZ (n:Nat) (x0:BA) (x1:Int) (x2:Bool) (x3:Nat) (x4:RW):Tr (Int×BA×Int×Bool×Nat×RW):=(.opt (zD (qDU n) n ((⟨#[]⟩:BA),x0,x1,x2,x3,x4)) fun r366=>(.alt r366 (fun r367=>(.done (r367.1,r367.2.1,r367.2.2.1,r367.2.2.2.1,r367.2.2.2.2.1,r367.2.2.2.2.2))) (fun r368=>(.done ((0:Int),r368.1,r368.2.1,true,r368.2.2.2.1,r368.2.2.2.2)))))
def qER:Nat→BA→Int→Bool→Nat→RW→Option (Int×BA×Int×Bool×Nat×RW)
 |0,_,_,_,_,_=>none
 |n+1,x0,x1,x2,x3,x4=>(qGZ n x0 x1 x2 x3 x4).run
abbrev qGa (n:Nat):List (Ent (Rn n)):= [en (qCe n)]
def qIk (n:Nat):LEnt (KB 129) (Rn n) n:=lok (zW 129) 14 ⟨⟨[(0,(.c (.ptr 0 0 0 0 0))),(3,aS)],[],[[(0,⟨0,4,50,(.box [qS,qI,qB,(.own 0 1 1 0)])⟩),(1,⟨1,14,64,(.row [])⟩)]]⟩,[(.ret,⟨[(2,aI)],[],[[(0,⟨0,4,50,(.box [qS,qI,qB,(.own 0 1 1 0)])⟩),(1,⟨1,14,64,(.row [])⟩)]]⟩),(.exit 0,⟨[(0,(.c (.ptr 0 0 0 0 0)))],[],[[(0,⟨0,4,50,(.box [qS,qI,qB,(.own 0 1 1 0)])⟩),(1,⟨1,14,64,(.row [])⟩)]]⟩)]⟩ (qDU n) (qGa n) [] fun _=>(by kernel_rfl)
theorem qJt:∀n,Ok (Rn n) qKr (qER n)
 |0=>ok0 fun _=>rfl
 |n+1=>stO (T:=qGZ n) (by kernel_rfl) (qGa n) [qIk n] (fun _=>(by kernel_rfl)) fun _=>(by kernel_rfl)
def qMx:Sg:=⟨116,[aI],[],⟨aS,[],[]⟩⟩
def qGG (n:Nat) (x0:Int):Tr (BA):=(.ask (decide (6=([[(.s (⟨#[]⟩:BA))],[(.s (⟨#[35,68,73,86,33]⟩:BA))],[(.s (⟨#[35,84,89,80,69,33]⟩:BA))],[(.s (⟨#[35,82,69,70,33]⟩:BA))],[(.s (⟨#[35,79,86,69,82,33]⟩:BA))],[(.s (⟨#[35,67,89,67,76,69,33]⟩:BA))]]:RW).length∧0≤x0∧x0<((6:Nat):Int))) (.opt (([[(.s (⟨#[]⟩:BA))],[(.s (⟨#[35,68,73,86,33]⟩:BA))],[(.s (⟨#[35,84,89,80,69,33]⟩:BA))],[(.s (⟨#[35,82,69,70,33]⟩:BA))],[(.s (⟨#[35,79,86,69,82,33]⟩:BA))],[(.s (⟨#[35,67,89,67,76,69,33]⟩:BA))]]:RW)[(x0).toNat]?) fun e371=>(.opt (zh e371 0) fun y372=>(.done y372))) .fail)
def qBf:Nat→Int→Option (BA)
 |0,_=>none
 |n+1,x0=>(qGG n x0).run
theorem qHz:∀n,Ok (Rn n) qMx (qBf n)
 |0=>ok0 fun _=>rfl
 |n+1=>stO (T:=qGG n) (by kernel_rfl) [] [] (fun _=>(by kernel_rfl)) fun _=>(by kernel_rfl)
def qMH:Sg:=⟨130,[aI],[],⟨(.agg [qI,qI,qS]),[],[]⟩⟩
def qFV (n:Nat) (x0:Int):Tr (Int×Int×BA):=(.done ((4:Int),x0,(⟨#[]⟩:BA)))
def qCf:Nat→Int→Option (Int×Int×BA)
 |0,_=>none
 |n+1,x0=>(qFV n x0).run
theorem qLf:∀n,Ok (Rn n) qMH (qCf n)
 |0=>ok0 fun _=>rfl
 |n+1=>stO (T:=qFV n) (by kernel_rfl) [] [] (fun _=>(by kernel_rfl)) fun _=>(by kernel_rfl)
def qKs:Sg:=⟨131,[(.c (.ptr 0 0 0 0 0))],[[(0,⟨0,4,50,(.box [qS,qI,qB,(.own 0 1 1 0)])⟩),(1,⟨1,14,64,(.row [])⟩)]],⟨aS,[[(0,⟨0,4,50,(.box [qS,qI,qB,(.own 0 1 1 0)])⟩),(1,⟨1,14,64,(.row [])⟩)]],[]⟩⟩
def qBr (n:Nat) (v:Int×BA×Int×Bool×Nat×RW):Tr ((Int×BA×Int×Bool×Nat×RW)⊕((Int×BA×Int×Bool×Nat×RW))):=(.ask ((decide (v.2.2.1<(v.2.1.size:Int)))) (.ask (decide (0≤v.2.2.1)) (.opt (v.2.1.toList[(v.2.2.1).toNat]?) fun c377=>(.ask ((decide ((c377.toNat:Int)≥(65:Int)))) (.ask (decide (0≤v.2.2.1)) (.opt (v.2.1.toList[(v.2.2.1).toNat]?) fun c378=>(.ask ((decide ((c378.toNat:Int)≤(90:Int)))) (.done (.inl (v.1,v.2.1,(IntKind.i64.wrap (v.2.2.1+(1:Int))),v.2.2.2.1,v.2.2.2.2.1,v.2.2.2.2.2))) (.ask (decide (0≤v.2.2.1)) (.opt (v.2.1.toList[(v.2.2.1).toNat]?) fun c379=>(.ask ((decide ((c379.toNat:Int)≥(48:Int)))) (.ask (decide (0≤v.2.2.1)) (.opt (v.2.1.toList[(v.2.2.1).toNat]?) fun c380=>(.ask ((decide ((c380.toNat:Int)≤(57:Int)))) (.done (.inl (v.1,v.2.1,(IntKind.i64.wrap (v.2.2.1+(1:Int))),v.2.2.2.1,v.2.2.2.2.1,v.2.2.2.2.2))) (.ask (decide (0≤v.2.2.1)) (.opt (v.2.1.toList[(v.2.2.1).toNat]?) fun c381=>(.ask (((c381.toNat:Int)==(36:Int))) (.done (.inl (v.1,v.2.1,(IntKind.i64.wrap (v.2.2.1+(1:Int))),v.2.2.2.1,v.2.2.2.2.1,v.2.2.2.2.2))) (.done (.inr ((v.1,v.2.1,v.2.2.1,v.2.2.2.1,v.2.2.2.2.1,v.2.2.2.2.2)))))) .fail))) .fail) (.ask (decide (0≤v.2.2.1)) (.opt (v.2.1.toList[(v.2.2.1).toNat]?) fun c382=>(.ask (((c382.toNat:Int)==(36:Int))) (.done (.inl (v.1,v.2.1,(IntKind.i64.wrap (v.2.2.1+(1:Int))),v.2.2.2.1,v.2.2.2.2.1,v.2.2.2.2.2))) (.done (.inr ((v.1,v.2.1,v.2.2.1,v.2.2.2.1,v.2.2.2.2.1,v.2.2.2.2.2)))))) .fail))) .fail))) .fail) (.ask (decide (0≤v.2.2.1)) (.opt (v.2.1.toList[(v.2.2.1).toNat]?) fun c383=>(.ask ((decide ((c383.toNat:Int)≥(48:Int)))) (.ask (decide (0≤v.2.2.1)) (.opt (v.2.1.toList[(v.2.2.1).toNat]?) fun c384=>(.ask ((decide ((c384.toNat:Int)≤(57:Int)))) (.done (.inl (v.1,v.2.1,(IntKind.i64.wrap (v.2.2.1+(1:Int))),v.2.2.2.1,v.2.2.2.2.1,v.2.2.2.2.2))) (.ask (decide (0≤v.2.2.1)) (.opt (v.2.1.toList[(v.2.2.1).toNat]?) fun c385=>(.ask (((c385.toNat:Int)==(36:Int))) (.done (.inl (v.1,v.2.1,(IntKind.i64.wrap (v.2.2.1+(1:Int))),v.2.2.2.1,v.2.2.2.2.1,v.2.2.2.2.2))) (.done (.inr ((v.1,v.2.1,v.2.2.1,v.2.2.2.1,v.2.2.2.2.1,v.2.2.2.2.2)))))) .fail))) .fail) (.ask (decide (0≤v.2.2.1)) (.opt (v.2.1.toList[(v.2.2.1).toNat]?) fun c386=>(.ask (((c386.toNat:Int)==(36:Int))) (.done (.inl (v.1,v.2.1,(IntKind.i64.wrap (v.2.2.1+(1:Int))),v.2.2.2.1,v.2.2.2.2.1,v.2.2.2.2.2))) (.done (.inr ((v.1,v.2.1,v.2.2.1,v.2.2.2.1,v.2.2.2.2.1,v.2.2.2.2.2)))))) .fail))) .fail))) .fail) (.done (.inr ((v.1,v.2.1,v.2.2.1,v.2.2.2.1,v.2.2.2.2.1,v.2.2.2.2.2)))))
def qGb (n:Nat) (x0:BA) (x1:Int) (x2:Bool) (x3:Nat) (x4:RW):Tr (BA×BA×Int×Bool×Nat×RW):=(.opt (zD (qBr n) n (x1,x0,x1,x2,x3,x4)) fun r387=>(.ask (decide (0≤r387.1∧r387.1≤r387.2.2.1∧r387.2.2.1≤r387.2.1.size)) (.done ((r387.2.1.extract (r387.1).toNat (r387.2.2.1).toNat),r387.2.1,r387.2.2.1,r387.2.2.2.1,r387.2.2.2.2.1,r387.2.2.2.2.2)) .fail))
def qCg:Nat→BA→Int→Bool→Nat→RW→Option (BA×BA×Int×Bool×Nat×RW)
 |0,_,_,_,_,_=>none
 |n+1,x0,x1,x2,x3,x4=>(qGb n x0 x1 x2 x3 x4).run
def qIl (n:Nat):LEnt (KB 131) (Rn n) n:=lok (zW 131) 14 ⟨⟨[(0,(.c (.ptr 0 0 0 0 0))),(3,aI)],[],[[(0,⟨0,4,50,(.box [qS,qI,qB,(.own 0 1 1 0)])⟩),(1,⟨1,14,64,(.row [])⟩)]]⟩,[(.exit 0,⟨[(0,(.c (.ptr 0 0 0 0 0))),(3,aI)],[],[[(0,⟨0,4,50,(.box [qS,qI,qB,(.own 0 1 1 0)])⟩),(1,⟨1,14,64,(.row [])⟩)]]⟩)]⟩ (qBr n) [] [] fun _=>(by kernel_rfl)
theorem qFv:∀n,Ok (Rn n) qKs (qCg n)
 |0=>ok0 fun _=>rfl
 |n+1=>stO (T:=qGb n) (by kernel_rfl) [] [qIl n] (fun _=>(by kernel_rfl)) fun _=>(by kernel_rfl)
def qOB:Sg:=⟨110,[aI],[],⟨aS,[],[]⟩⟩
def qH0 (n:Nat) (x0:Int):Tr (BA):=(.ask (decide (11=([[(.s (⟨#[]⟩:BA))],[(.s (⟨#[83,85,77]⟩:BA))],[(.s (⟨#[77,73,78]⟩:BA))],[(.s (⟨#[77,65,88]⟩:BA))],[(.s (⟨#[67,79,85,78,84]⟩:BA))],[(.s (⟨#[73,70]⟩:BA))],[(.s (⟨#[65,78,68]⟩:BA))],[(.s (⟨#[79,82]⟩:BA))],[(.s (⟨#[78,79,84]⟩:BA))],[(.s (⟨#[65,66,83]⟩:BA))],[(.s (⟨#[76,69,78]⟩:BA))]]:RW).length∧0≤x0∧x0<((11:Nat):Int))) (.opt (([[(.s (⟨#[]⟩:BA))],[(.s (⟨#[83,85,77]⟩:BA))],[(.s (⟨#[77,73,78]⟩:BA))],[(.s (⟨#[77,65,88]⟩:BA))],[(.s (⟨#[67,79,85,78,84]⟩:BA))],[(.s (⟨#[73,70]⟩:BA))],[(.s (⟨#[65,78,68]⟩:BA))],[(.s (⟨#[79,82]⟩:BA))],[(.s (⟨#[78,79,84]⟩:BA))],[(.s (⟨#[65,66,83]⟩:BA))],[(.s (⟨#[76,69,78]⟩:BA))]]:RW)[(x0).toNat]?) fun e389=>(.opt (zh e389 0) fun y390=>(.done y390))) .fail)
def qCm:Nat→Int→Option (BA)
 |0,_=>none
 |n+1,x0=>(qH0 n x0).run
theorem qNh:∀n,Ok (Rn n) qOB (qCm n)
 |0=>ok0 fun _=>rfl
 |n+1=>stO (T:=qH0 n) (by kernel_rfl) [] [] (fun _=>(by kernel_rfl)) fun _=>(by kernel_rfl)
def qMI:Sg:=⟨160,[aS],[],⟨aI,[],[]⟩⟩
def qCL (n:Nat) (v:BA×Int):Tr ((BA×Int)⊕((Int)⊕(Unit))):=(.ask ((decide (v.2≤(52:Int)))) (.opt (qCZ n v.2) fun r399=>(.ask ((r399.toList==v.1.toList)) (.done (.inr (.inl (v.2)))) (.done (.inl (v.1,(IntKind.i64.wrap (v.2+(1:Int)))))))) (.done (.inr (.inr (())))))
def qFW (n:Nat) (x0:BA):Tr (Int):=(.opt (zD (qCL n) n (x0,(1:Int))) fun r400=>(.alt r400 (fun r401=>(.done r401)) (fun r402=>(.done (0:Int)))))
def qB5:Nat→BA→Option (Int)
 |0,_=>none
 |n+1,x0=>(qFW n x0).run
abbrev qH1 (n:Nat):List (Ent (Rn n)):= [en (qHG n)]
def qJu (n:Nat):LEnt (KB 160) (Rn n) n:=lok (zW 160) 13 ⟨⟨[(0,aS),(3,aI)],[],[]⟩,[(.ret,⟨[(2,aI)],[],[]⟩),(.exit 0,⟨[],[],[]⟩)]⟩ (qCL n) (qH1 n) [] fun _=>(by kernel_rfl)
theorem qLg:∀n,Ok (Rn n) qMI (qB5 n)
 |0=>ok0 fun _=>rfl
 |n+1=>stO (T:=qFW n) (by kernel_rfl) (qH1 n) [qJu n] (fun _=>(by kernel_rfl)) fun _=>(by kernel_rfl)
def qNi:Sg:=⟨114,[aS,aI],[],⟨(.tup [(false,[qI]),(false,[qB])]),[],[]⟩⟩
def qBQ (n:Nat) (v:BA×Int×Int):Tr ((BA×Int×Int)⊕((Int×Bool)⊕(Int))):=(.ask ((decide (v.2.2<(v.1.size:Int)))) (.ask (decide (0≤v.2.2)) (.opt (v.1.toList[(v.2.2).toNat]?) fun c406=>(.ask ((decide ((c406.toNat:Int)<(48:Int)))) (.done (.inr (.inl (((0:Int),false))))) (.ask (decide (0≤v.2.2)) (.opt (v.1.toList[(v.2.2).toNat]?) fun c407=>(.ask ((decide ((c407.toNat:Int)>(57:Int)))) (.done (.inr (.inl (((0:Int),false))))) (.ask (decide (0≤v.2.2)) (.opt (v.1.toList[(v.2.2).toNat]?) fun c408=>(.done (.inl (v.1,(IntKind.i64.wrap ((IntKind.i64.wrap (v.2.1*(10:Int)))+(IntKind.i64.wrap (IntKind.u8.wrap ((c408.toNat:Int)-(48:Int)))))),(IntKind.i64.wrap (v.2.2+(1:Int))))))) .fail))) .fail))) .fail) (.done (.inr (.inr (v.2.1)))))
def qD6 (n:Nat) (x0:BA) (x1:Int):Tr (Int×Bool):=(.ask ((decide ((x0.size:Int)<(1:Int)))) (.done ((0:Int),false)) (.ask ((decide ((x0.size:Int)>x1))) (.done ((0:Int),false)) (.ask (decide (0≤(0:Int))) (.opt (x0.toList[((0:Int)).toNat]?) fun c405=>(.ask (((c405.toNat:Int)==(48:Int))) (.ask ((decide ((x0.size:Int)>(1:Int)))) (.done ((0:Int),false)) (.opt (zD (qBQ n) n (x0,(0:Int),(0:Int))) fun r409=>(.alt r409 (fun r410=>(.done (r410.1,r410.2))) (fun r411=>(.done (r411,true)))))) (.opt (zD (qBQ n) n (x0,(0:Int),(0:Int))) fun r412=>(.alt r412 (fun r413=>(.done (r413.1,r413.2))) (fun r414=>(.done (r414,true))))))) .fail)))
def qz:Nat→BA→Int→Option (Int×Bool)
 |0,_,_=>none
 |n+1,x0,x1=>(qD6 n x0 x1).run
def qLh (n:Nat):LEnt (KB 114) (Rn n) n:=lok (zW 114) 61 ⟨⟨[(0,aS),(6,aI),(7,aI)],[],[]⟩,[(.ret,⟨[(4,aI),(5,aB)],[],[]⟩),(.exit 0,⟨[(6,aI)],[],[]⟩)]⟩ (qBQ n) [] [] fun _=>(by kernel_rfl)
theorem qIx:∀n,Ok (Rn n) qNi (qz n)
 |0=>ok0 fun _=>rfl
 |n+1=>stO (T:=qD6 n) (by kernel_rfl) [] [qLh n] (fun _=>(by kernel_rfl)) fun _=>(by kernel_rfl)
def qKt:Sg:=⟨133,[aS],[],⟨(.tup [(true,[qI,qI,qB,qB]),(false,[qB])]),[],[]⟩⟩
def q8 (n:Nat) (v:BA×Int×Int×Int×Bool×Bool×Int×Int×Bool×Bool):Tr ((BA×Int×Int×Int×Bool×Bool×Int×Int×Bool×Bool)⊕((BA×Int×Int×Int×Bool×Bool×Int×Int×Bool×Bool))):=(.ask ((decide (v.2.1<(v.1.size:Int)))) (.ask (decide (0≤v.2.1)) (.opt (v.1.toList[(v.2.1).toNat]?) fun c396=>(.ask ((decide ((c396.toNat:Int)≥(65:Int)))) (.ask (decide (0≤v.2.1)) (.opt (v.1.toList[(v.2.1).toNat]?) fun c397=>(.ask ((decide ((c397.toNat:Int)≤(90:Int)))) (.done (.inl (v.1,(IntKind.i64.wrap (v.2.1+(1:Int))),v.2.2.1,v.2.2.2.1,v.2.2.2.2.1,v.2.2.2.2.2.1,v.2.2.2.2.2.2.1,v.2.2.2.2.2.2.2.1,v.2.2.2.2.2.2.2.2.1,v.2.2.2.2.2.2.2.2.2))) (.done (.inr ((v.1,v.2.1,v.2.2.1,v.2.2.2.1,v.2.2.2.2.1,v.2.2.2.2.2.1,v.2.2.2.2.2.2.1,v.2.2.2.2.2.2.2.1,v.2.2.2.2.2.2.2.2.1,v.2.2.2.2.2.2.2.2.2)))))) .fail) (.done (.inr ((v.1,v.2.1,v.2.2.1,v.2.2.2.1,v.2.2.2.2.1,v.2.2.2.2.2.1,v.2.2.2.2.2.2.1,v.2.2.2.2.2.2.2.1,v.2.2.2.2.2.2.2.2.1,v.2.2.2.2.2.2.2.2.2)))))) .fail) (.done (.inr ((v.1,v.2.1,v.2.2.1,v.2.2.2.1,v.2.2.2.2.1,v.2.2.2.2.2.1,v.2.2.2.2.2.2.1,v.2.2.2.2.2.2.2.1,v.2.2.2.2.2.2.2.2.1,v.2.2.2.2.2.2.2.2.2)))))
def qB1 (n:Nat) (x0:BA):Tr (Int×Int×Bool×Bool×Bool):=(.ask ((decide ((x0.size:Int)>(0:Int)))) (.ask (decide (0≤(0:Int))) (.opt (x0.toList[((0:Int)).toNat]?) fun c395=>(.ask (((c395.toNat:Int)==(36:Int))) (.ask (decide (0≤(1:Int)∧(1:Int)≤(x0.size:Int)∧(x0.size:Int)≤x0.size)) (.opt (zD (q8 n) n ((x0.extract ((1:Int)).toNat ((x0.size:Int)).toNat),(0:Int),(0:Int),(0:Int),false,false,(0:Int),(0:Int),true,false)) fun r398=>(.ask (decide (0≤(0:Int)∧(0:Int)≤r398.2.1∧r398.2.1≤r398.1.size)) (.opt (qB5 n (r398.1.extract ((0:Int)).toNat (r398.2.1).toNat)) fun r403=>(.ask (decide (0≤r398.2.1∧r398.2.1≤(r398.1.size:Int)∧(r398.1.size:Int)≤r398.1.size)) (.ask ((decide (((r398.1.extract (r398.2.1).toNat ((r398.1.size:Int)).toNat).size:Int)>(0:Int)))) (.ask (decide (0≤(0:Int))) (.opt ((r398.1.extract (r398.2.1).toNat ((r398.1.size:Int)).toNat).toList[((0:Int)).toNat]?) fun c404=>(.ask (((c404.toNat:Int)==(36:Int))) (.ask (decide (0≤(1:Int)∧(1:Int)≤((r398.1.extract (r398.2.1).toNat ((r398.1.size:Int)).toNat).size:Int)∧((r398.1.extract (r398.2.1).toNat ((r398.1.size:Int)).toNat).size:Int)≤(r398.1.extract (r398.2.1).toNat ((r398.1.size:Int)).toNat).size)) (.opt (qz n ((r398.1.extract (r398.2.1).toNat ((r398.1.size:Int)).toNat).extract ((1:Int)).toNat (((r398.1.extract (r398.2.1).toNat ((r398.1.size:Int)).toNat).size:Int)).toNat) (2:Int)) fun r415=>(.ask ((!r415.2)) (.done ((0:Int),(0:Int),false,false,false)) (.opt (qAJ n r403 r415.1) fun r416=>(.ask ((!r416)) (.done ((0:Int),(0:Int),false,false,false)) (.done (r403,r415.1,r398.2.2.2.2.2.2.2.2.1,true,true)))))) .fail) (.opt (qz n (r398.1.extract (r398.2.1).toNat ((r398.1.size:Int)).toNat) (2:Int)) fun r417=>(.ask ((!r417.2)) (.done ((0:Int),(0:Int),false,false,false)) (.opt (qAJ n r403 r417.1) fun r418=>(.ask ((!r418)) (.done ((0:Int),(0:Int),false,false,false)) (.done (r403,r417.1,r398.2.2.2.2.2.2.2.2.1,r398.2.2.2.2.2.2.2.2.2,true)))))))) .fail) (.opt (qz n (r398.1.extract (r398.2.1).toNat ((r398.1.size:Int)).toNat) (2:Int)) fun r419=>(.ask ((!r419.2)) (.done ((0:Int),(0:Int),false,false,false)) (.opt (qAJ n r403 r419.1) fun r420=>(.ask ((!r420)) (.done ((0:Int),(0:Int),false,false,false)) (.done (r403,r419.1,r398.2.2.2.2.2.2.2.2.1,r398.2.2.2.2.2.2.2.2.2,true))))))) .fail)) .fail)) .fail) (.opt (zD (q8 n) n (x0,(0:Int),(0:Int),(0:Int),false,false,(0:Int),(0:Int),false,false)) fun r421=>(.ask (decide (0≤(0:Int)∧(0:Int)≤r421.2.1∧r421.2.1≤r421.1.size)) (.opt (qB5 n (r421.1.extract ((0:Int)).toNat (r421.2.1).toNat)) fun r422=>(.ask (decide (0≤r421.2.1∧r421.2.1≤(r421.1.size:Int)∧(r421.1.size:Int)≤r421.1.size)) (.ask ((decide (((r421.1.extract (r421.2.1).toNat ((r421.1.size:Int)).toNat).size:Int)>(0:Int)))) (.ask (decide (0≤(0:Int))) (.opt ((r421.1.extract (r421.2.1).toNat ((r421.1.size:Int)).toNat).toList[((0:Int)).toNat]?) fun c423=>(.ask (((c423.toNat:Int)==(36:Int))) (.ask (decide (0≤(1:Int)∧(1:Int)≤((r421.1.extract (r421.2.1).toNat ((r421.1.size:Int)).toNat).size:Int)∧((r421.1.extract (r421.2.1).toNat ((r421.1.size:Int)).toNat).size:Int)≤(r421.1.extract (r421.2.1).toNat ((r421.1.size:Int)).toNat).size)) (.opt (qz n ((r421.1.extract (r421.2.1).toNat ((r421.1.size:Int)).toNat).extract ((1:Int)).toNat (((r421.1.extract (r421.2.1).toNat ((r421.1.size:Int)).toNat).size:Int)).toNat) (2:Int)) fun r424=>(.ask ((!r424.2)) (.done ((0:Int),(0:Int),false,false,false)) (.opt (qAJ n r422 r424.1) fun r425=>(.ask ((!r425)) (.done ((0:Int),(0:Int),false,false,false)) (.done (r422,r424.1,r421.2.2.2.2.2.2.2.2.1,true,true)))))) .fail) (.opt (qz n (r421.1.extract (r421.2.1).toNat ((r421.1.size:Int)).toNat) (2:Int)) fun r426=>(.ask ((!r426.2)) (.done ((0:Int),(0:Int),false,false,false)) (.opt (qAJ n r422 r426.1) fun r427=>(.ask ((!r427)) (.done ((0:Int),(0:Int),false,false,false)) (.done (r422,r426.1,r421.2.2.2.2.2.2.2.2.1,r421.2.2.2.2.2.2.2.2.2,true)))))))) .fail) (.opt (qz n (r421.1.extract (r421.2.1).toNat ((r421.1.size:Int)).toNat) (2:Int)) fun r428=>(.ask ((!r428.2)) (.done ((0:Int),(0:Int),false,false,false)) (.opt (qAJ n r422 r428.1) fun r429=>(.ask ((!r429)) (.done ((0:Int),(0:Int),false,false,false)) (.done (r422,r428.1,r421.2.2.2.2.2.2.2.2.1,r421.2.2.2.2.2.2.2.2.2,true))))))) .fail)) .fail)))) .fail) (.opt (zD (q8 n) n (x0,(0:Int),(0:Int),(0:Int),false,false,(0:Int),(0:Int),false,false)) fun r430=>(.ask (decide (0≤(0:Int)∧(0:Int)≤r430.2.1∧r430.2.1≤r430.1.size)) (.opt (qB5 n (r430.1.extract ((0:Int)).toNat (r430.2.1).toNat)) fun r431=>(.ask (decide (0≤r430.2.1∧r430.2.1≤(r430.1.size:Int)∧(r430.1.size:Int)≤r430.1.size)) (.ask ((decide (((r430.1.extract (r430.2.1).toNat ((r430.1.size:Int)).toNat).size:Int)>(0:Int)))) (.ask (decide (0≤(0:Int))) (.opt ((r430.1.extract (r430.2.1).toNat ((r430.1.size:Int)).toNat).toList[((0:Int)).toNat]?) fun c432=>(.ask (((c432.toNat:Int)==(36:Int))) (.ask (decide (0≤(1:Int)∧(1:Int)≤((r430.1.extract (r430.2.1).toNat ((r430.1.size:Int)).toNat).size:Int)∧((r430.1.extract (r430.2.1).toNat ((r430.1.size:Int)).toNat).size:Int)≤(r430.1.extract (r430.2.1).toNat ((r430.1.size:Int)).toNat).size)) (.opt (qz n ((r430.1.extract (r430.2.1).toNat ((r430.1.size:Int)).toNat).extract ((1:Int)).toNat (((r430.1.extract (r430.2.1).toNat ((r430.1.size:Int)).toNat).size:Int)).toNat) (2:Int)) fun r433=>(.ask ((!r433.2)) (.done ((0:Int),(0:Int),false,false,false)) (.opt (qAJ n r431 r433.1) fun r434=>(.ask ((!r434)) (.done ((0:Int),(0:Int),false,false,false)) (.done (r431,r433.1,r430.2.2.2.2.2.2.2.2.1,true,true)))))) .fail) (.opt (qz n (r430.1.extract (r430.2.1).toNat ((r430.1.size:Int)).toNat) (2:Int)) fun r435=>(.ask ((!r435.2)) (.done ((0:Int),(0:Int),false,false,false)) (.opt (qAJ n r431 r435.1) fun r436=>(.ask ((!r436)) (.done ((0:Int),(0:Int),false,false,false)) (.done (r431,r435.1,r430.2.2.2.2.2.2.2.2.1,r430.2.2.2.2.2.2.2.2.2,true)))))))) .fail) (.opt (qz n (r430.1.extract (r430.2.1).toNat ((r430.1.size:Int)).toNat) (2:Int)) fun r437=>(.ask ((!r437.2)) (.done ((0:Int),(0:Int),false,false,false)) (.opt (qAJ n r431 r437.1) fun r438=>(.ask ((!r438)) (.done ((0:Int),(0:Int),false,false,false)) (.done (r431,r437.1,r430.2.2.2.2.2.2.2.2.1,r430.2.2.2.2.2.2.2.2.2,true))))))) .fail)) .fail)))
def qAW:Nat→BA→Option (Int×Int×Bool×Bool×Bool)
 |0,_=>none
 |n+1,x0=>(qB1 n x0).run
abbrev qGc (n:Nat):List (Ent (Rn n)):= [en (qLg n),en (qIx n),en (qEY n)]
def qIm (n:Nat):LEnt (KB 133) (Rn n) n:=lok (zW 133) 62 ⟨⟨[(0,aS),(2,(.c (.ptr 0 128 0 0 0))),(4,(.c (.ptr 0 256 0 0 0))),(5,aI)],[(128,⟨0,4,61,(.box [qI,qI,qB,qB])⟩),(256,⟨0,4,61,(.box [qI,qI,qB,qB])⟩)],[]⟩,[(.exit 0,⟨[(0,aS),(2,(.c (.ptr 0 128 0 0 0))),(4,(.c (.ptr 0 256 0 0 0))),(5,aI)],[(128,⟨0,4,61,(.box [qI,qI,qB,qB])⟩),(256,⟨0,4,61,(.box [qI,qI,qB,qB])⟩)],[]⟩)]⟩ (q8 n) (qGc n) [] fun _=>(by kernel_rfl)
theorem qFw:∀n,Ok (Rn n) qKt (qAW n)
 |0=>ok0 fun _=>rfl
 |n+1=>stO (T:=qB1 n) (by kernel_rfl) (qGc n) [qIm n] (fun _=>(by kernel_rfl)) fun _=>(by kernel_rfl)
def qKu:Sg:=⟨58,[aS],[],⟨(.tup [(true,[qI,qI,qS]),(false,[qB])]),[],[]⟩⟩
def qBL (n:Nat) (v:BA×Int×Int×Int×BA×Int×Int×BA):Tr ((BA×Int×Int×Int×BA×Int×Int×BA)⊕((Int×Int×BA×Int×Int×BA))):=(.ask ((decide (v.2.1≤(5:Int)))) (.opt (qBf n v.2.1) fun r402=>(.ask ((r402.toList==v.1.toList)) (.done (.inl (v.1,(IntKind.i64.wrap (v.2.1+(1:Int))),v.2.2.1,v.2.2.2.1,v.2.2.2.2.1,v.2.2.2.2.2.1,v.2.1,v.2.2.2.2.2.2.2))) (.done (.inl (v.1,(IntKind.i64.wrap (v.2.1+(1:Int))),v.2.2.1,v.2.2.2.1,v.2.2.2.2.1,v.2.2.2.2.2.1,v.2.2.2.2.2.2.1,v.2.2.2.2.2.2.2))))) (.done (.inr ((v.2.2.1,v.2.2.2.1,v.2.2.2.2.1,v.2.2.2.2.2.1,v.2.2.2.2.2.2.1,v.2.2.2.2.2.2.2)))))
def qAy (n:Nat) (x0:BA):Tr (Int×Int×BA×Bool):=(.ask ((x0.toList==(⟨#[]⟩:BA).toList)) (.done ((0:Int),(0:Int),(⟨#[]⟩:BA),true)) (.ask (decide (0≤(0:Int))) (.opt (x0.toList[((0:Int)).toNat]?) fun c395=>(.ask (((c395.toNat:Int)==(39:Int))) (.ask (decide (0≤(1:Int)∧(1:Int)≤(x0.size:Int)∧(x0.size:Int)≤x0.size)) (.opt (qq n (2:Int) (0:Int) (x0.extract ((1:Int)).toNat ((x0.size:Int)).toNat)) fun r396=>(.ask ((!r396)) (.done ((0:Int),(0:Int),(⟨#[]⟩:BA),false)) (.done ((2:Int),(0:Int),(x0.extract ((1:Int)).toNat ((x0.size:Int)).toNat),true)))) .fail) (.ask ((x0.toList==(⟨#[84,82,85,69]⟩:BA).toList)) (.ask ((x0.toList==(⟨#[84,82,85,69]⟩:BA).toList)) (.opt (qq n (3:Int) (1:Int) (⟨#[]⟩:BA)) fun r397=>(.ask ((!r397)) (.done ((0:Int),(0:Int),(⟨#[]⟩:BA),false)) (.done ((3:Int),(1:Int),(⟨#[]⟩:BA),true)))) (.opt (qq n (3:Int) (0:Int) (⟨#[]⟩:BA)) fun r398=>(.ask ((!r398)) (.done ((0:Int),(0:Int),(⟨#[]⟩:BA),false)) (.done ((3:Int),(0:Int),(⟨#[]⟩:BA),true))))) (.ask ((x0.toList==(⟨#[70,65,76,83,69]⟩:BA).toList)) (.ask ((x0.toList==(⟨#[84,82,85,69]⟩:BA).toList)) (.opt (qq n (3:Int) (1:Int) (⟨#[]⟩:BA)) fun r399=>(.ask ((!r399)) (.done ((0:Int),(0:Int),(⟨#[]⟩:BA),false)) (.done ((3:Int),(1:Int),(⟨#[]⟩:BA),true)))) (.opt (qq n (3:Int) (0:Int) (⟨#[]⟩:BA)) fun r400=>(.ask ((!r400)) (.done ((0:Int),(0:Int),(⟨#[]⟩:BA),false)) (.done ((3:Int),(0:Int),(⟨#[]⟩:BA),true))))) (.ask (decide (0≤(0:Int))) (.opt (x0.toList[((0:Int)).toNat]?) fun c401=>(.ask (((c401.toNat:Int)==(35:Int))) (.opt (zD (qBL n) n (x0,(1:Int),(0:Int),(0:Int),(⟨#[]⟩:BA),(4:Int),(0:Int),(⟨#[]⟩:BA))) fun r403=>(.opt (qq n r403.2.2.2.1 r403.2.2.2.2.1 r403.2.2.2.2.2) fun r404=>(.ask ((!r404)) (.done ((0:Int),(0:Int),(⟨#[]⟩:BA),false)) (.done (r403.2.2.2.1,r403.2.2.2.2.1,r403.2.2.2.2.2,true))))) (.ask (decide (0≤(0:Int))) (.opt (x0.toList[((0:Int)).toNat]?) fun c405=>(.ask (((c405.toNat:Int)==(45:Int))) (.ask (decide (0≤(1:Int)∧(1:Int)≤(x0.size:Int)∧(x0.size:Int)≤x0.size)) (.opt (qz n (x0.extract ((1:Int)).toNat ((x0.size:Int)).toNat) (16:Int)) fun r406=>(.ask ((!r406.2)) (.done ((0:Int),(0:Int),(⟨#[]⟩:BA),false)) (.ask (((c405.toNat:Int)==(45:Int))) (.ask ((r406.1==(0:Int))) (.done ((0:Int),(0:Int),(⟨#[]⟩:BA),false)) (.ask (((c405.toNat:Int)==(45:Int))) (.opt (qq n (1:Int) (IntKind.i64.wrap (0-r406.1)) (⟨#[]⟩:BA)) fun r407=>(.ask ((!r407)) (.done ((0:Int),(0:Int),(⟨#[]⟩:BA),false)) (.done ((1:Int),(IntKind.i64.wrap (0-r406.1)),(⟨#[]⟩:BA),true)))) (.opt (qq n (1:Int) r406.1 (⟨#[]⟩:BA)) fun r408=>(.ask ((!r408)) (.done ((0:Int),(0:Int),(⟨#[]⟩:BA),false)) (.done ((1:Int),r406.1,(⟨#[]⟩:BA),true)))))) (.ask (((c405.toNat:Int)==(45:Int))) (.opt (qq n (1:Int) (IntKind.i64.wrap (0-r406.1)) (⟨#[]⟩:BA)) fun r409=>(.ask ((!r409)) (.done ((0:Int),(0:Int),(⟨#[]⟩:BA),false)) (.done ((1:Int),(IntKind.i64.wrap (0-r406.1)),(⟨#[]⟩:BA),true)))) (.opt (qq n (1:Int) r406.1 (⟨#[]⟩:BA)) fun r410=>(.ask ((!r410)) (.done ((0:Int),(0:Int),(⟨#[]⟩:BA),false)) (.done ((1:Int),r406.1,(⟨#[]⟩:BA),true)))))))) .fail) (.opt (qz n x0 (16:Int)) fun r411=>(.ask ((!r411.2)) (.done ((0:Int),(0:Int),(⟨#[]⟩:BA),false)) (.ask (((c405.toNat:Int)==(45:Int))) (.ask ((r411.1==(0:Int))) (.done ((0:Int),(0:Int),(⟨#[]⟩:BA),false)) (.ask (((c405.toNat:Int)==(45:Int))) (.opt (qq n (1:Int) (IntKind.i64.wrap (0-r411.1)) (⟨#[]⟩:BA)) fun r412=>(.ask ((!r412)) (.done ((0:Int),(0:Int),(⟨#[]⟩:BA),false)) (.done ((1:Int),(IntKind.i64.wrap (0-r411.1)),(⟨#[]⟩:BA),true)))) (.opt (qq n (1:Int) r411.1 (⟨#[]⟩:BA)) fun r413=>(.ask ((!r413)) (.done ((0:Int),(0:Int),(⟨#[]⟩:BA),false)) (.done ((1:Int),r411.1,(⟨#[]⟩:BA),true)))))) (.ask (((c405.toNat:Int)==(45:Int))) (.opt (qq n (1:Int) (IntKind.i64.wrap (0-r411.1)) (⟨#[]⟩:BA)) fun r414=>(.ask ((!r414)) (.done ((0:Int),(0:Int),(⟨#[]⟩:BA),false)) (.done ((1:Int),(IntKind.i64.wrap (0-r411.1)),(⟨#[]⟩:BA),true)))) (.opt (qq n (1:Int) r411.1 (⟨#[]⟩:BA)) fun r415=>(.ask ((!r415)) (.done ((0:Int),(0:Int),(⟨#[]⟩:BA),false)) (.done ((1:Int),r411.1,(⟨#[]⟩:BA),true)))))))))) .fail))) .fail))))) .fail))
def qAD:Nat→BA→Option (Int×Int×BA×Bool)
 |0,_=>none
 |n+1,x0=>(qAy n x0).run
abbrev qGd (n:Nat):List (Ent (Rn n)):= [en (qHL n),en (qHz n),en (qIx n)]
def qG7 (n:Nat):LEnt (KB 58) (Rn n) n:=lok (zW 58) 15355 ⟨⟨[(0,aS),(2,(.c (.ptr 0 128 0 0 0))),(4,(.c (.ptr 0 256 0 0 0))),(5,aI)],[(128,⟨0,3,37,(.box [qI,qI,qS])⟩),(256,⟨0,3,37,(.box [qI,qI,qS])⟩)],[]⟩,[(.exit 1,⟨[(2,(.c (.ptr 0 128 0 0 0))),(4,(.c (.ptr 0 256 0 0 0)))],[(128,⟨0,3,37,(.box [qI,qI,qS])⟩),(256,⟨0,3,37,(.box [qI,qI,qS])⟩)],[]⟩)]⟩ (qBL n) (qGd n) [] fun _=>(by kernel_rfl)
theorem qJv:∀n,Ok (Rn n) qKu (qAD n)
 |0=>ok0 fun _=>rfl
 |n+1=>stO (T:=qAy n) (by kernel_rfl) (qGd n) [qG7 n] (fun _=>(by kernel_rfl)) fun _=>(by kernel_rfl)
def qMJ:Sg:=⟨109,[aI],[],⟨aI,[],[]⟩⟩
def qFX (n:Nat) (x0:Int):Tr (Int):=(.ask ((decide (x0≥(6:Int)))) (.done (1:Int)) (.ask ((x0==(5:Int))) (.done (2:Int)) (.ask ((decide (x0≥(3:Int)))) (.done (4:Int)) (.done (3:Int)))))
def qCh:Nat→Int→Option (Int)
 |0,_=>none
 |n+1,x0=>(qFX n x0).run
theorem qLi:∀n,Ok (Rn n) qMJ (qCh n)
 |0=>ok0 fun _=>rfl
 |n+1=>stO (T:=qFX n) (by kernel_rfl) [] [] (fun _=>(by kernel_rfl)) fun _=>(by kernel_rfl)
def qMK:Sg:=⟨82,[(.c (.ptr 0 0 0 0 0)),aI],[[(0,⟨0,4,50,(.box [qS,qI,qB,(.own 0 1 1 0)])⟩),(1,⟨1,14,64,(.row [])⟩)]],⟨aI,[[(0,⟨0,4,50,(.box [qS,qI,qB,(.own 0 1 1 0)])⟩),(1,⟨1,14,64,(.row [])⟩)]],[]⟩⟩
def qD7 (n:Nat) (v:Int×Nat×Int×RW×BA×Int×Bool×Nat×RW):Tr ((Int×Nat×Int×RW×BA×Int×Bool×Nat×RW)⊕((Int×BA×Int×Bool×Nat×RW)⊕(BA×Int×Bool×Nat×RW))):=(.ask ((decide (v.2.2.1<((v.2.1:Nat):Int)))) (.ask (decide (v.2.1=v.2.2.2.1.length∧0≤v.2.2.1∧v.2.2.1<((v.2.1:Nat):Int))) (.opt (v.2.2.2.1[(v.2.2.1).toNat]?) fun e424=>(.opt (zF .i64 e424 0) fun y425=>(.opt (qCh n y425) fun r426=>(.ask ((r426==v.1)) (.ask (decide (v.2.1=v.2.2.2.1.length∧0≤v.2.2.1∧v.2.2.1<((v.2.1:Nat):Int))) (.opt (v.2.2.2.1[(v.2.2.1).toNat]?) fun e427=>(.opt (zF .i64 e427 0) fun y428=>(.opt (qCT n y428) fun r429=>(.opt (qv n r429 v.2.2.2.2.1 v.2.2.2.2.2.1 v.2.2.2.2.2.2.1 v.2.2.2.2.2.2.2.1 v.2.2.2.2.2.2.2.2) fun r430=>(.ask (r430.1) (.ask (decide (v.2.1=v.2.2.2.1.length∧0≤v.2.2.1∧v.2.2.1<((v.2.1:Nat):Int))) (.opt (v.2.2.2.1[(v.2.2.1).toNat]?) fun e431=>(.opt (zF .i64 e431 0) fun y432=>(.done (.inr (.inl ((y432,r430.2.1,r430.2.2.1,r430.2.2.2.1,r430.2.2.2.2.1,r430.2.2.2.2.2))))))) .fail) (.done (.inl (v.1,v.2.1,(IntKind.i64.wrap (v.2.2.1+(1:Int))),v.2.2.2.1,r430.2.1,r430.2.2.1,r430.2.2.2.1,r430.2.2.2.2.1,r430.2.2.2.2.2)))))))) .fail) (.done (.inl (v.1,v.2.1,(IntKind.i64.wrap (v.2.2.1+(1:Int))),v.2.2.2.1,v.2.2.2.2.1,v.2.2.2.2.2.1,v.2.2.2.2.2.2.1,v.2.2.2.2.2.2.2.1,v.2.2.2.2.2.2.2.2))))))) .fail) (.done (.inr (.inr ((v.2.2.2.2.1,v.2.2.2.2.2.1,v.2.2.2.2.2.2.1,v.2.2.2.2.2.2.2.1,v.2.2.2.2.2.2.2.2))))))
def qH2 (n:Nat) (x0:Int) (x1:BA) (x2:Int) (x3:Bool) (x4:Nat) (x5:RW):Tr (Int×BA×Int×Bool×Nat×RW):=(.opt (zD (qD7 n) n (x0,(11:Nat),(0:Int),([[(.i .i64 (7:Int))],[(.i .i64 (9:Int))],[(.i .i64 (11:Int))],[(.i .i64 (6:Int))],[(.i .i64 (8:Int))],[(.i .i64 (10:Int))],[(.i .i64 (1:Int))],[(.i .i64 (2:Int))],[(.i .i64 (3:Int))],[(.i .i64 (4:Int))],[(.i .i64 (5:Int))]]:RW),x1,x2,x3,x4,x5)) fun r433=>(.alt r433 (fun r434=>(.done (r434.1,r434.2.1,r434.2.2.1,r434.2.2.2.1,r434.2.2.2.2.1,r434.2.2.2.2.2))) (fun r435=>(.done ((0:Int),r435.1,r435.2.1,r435.2.2.1,r435.2.2.2.1,r435.2.2.2.2)))))
def qD8:Nat→Int→BA→Int→Bool→Nat→RW→Option (Int×BA×Int×Bool×Nat×RW)
 |0,_,_,_,_,_,_=>none
 |n+1,x0,x1,x2,x3,x4,x5=>(qH2 n x0 x1 x2 x3 x4 x5).run
abbrev qH3 (n:Nat):List (Ent (Rn n)):= [en (qLi n),en (qHl n),en (qDg n)]
def qJw (n:Nat):LEnt (KB 82) (Rn n) n:=lok (zW 82) 29 ⟨⟨[(0,(.c (.ptr 0 0 0 0 0))),(1,aI),(5,(.c (.own 1 448 0 0))),(6,aI)],[(448,⟨0,1,2,(.row [])⟩)],[[(0,⟨0,4,50,(.box [qS,qI,qB,(.own 0 1 1 0)])⟩),(1,⟨1,14,64,(.row [])⟩)]]⟩,[(.ret,⟨[(4,aI)],[],[[(0,⟨0,4,50,(.box [qS,qI,qB,(.own 0 1 1 0)])⟩),(1,⟨1,14,64,(.row [])⟩)]]⟩),(.exit 0,⟨[],[],[[(0,⟨0,4,50,(.box [qS,qI,qB,(.own 0 1 1 0)])⟩),(1,⟨1,14,64,(.row [])⟩)]]⟩)]⟩ (qD7 n) (qH3 n) [] fun _=>(by kernel_rfl)
theorem qLj:∀n,Ok (Rn n) qMK (qD8 n)
 |0=>ok0 fun _=>rfl
 |n+1=>stO (T:=qH2 n) (by kernel_rfl) (qH3 n) [qJw n] (fun _=>(by kernel_rfl)) fun _=>(by kernel_rfl)
def qHN:Sg:=⟨33,[(.c (.ptr 0 0 0 0 0)),aI],[[(0,⟨0,4,50,(.box [qS,qI,qB,(.own 0 1 1 0)])⟩),(1,⟨1,14,64,(.row [])⟩)]],⟨aI,[[(0,⟨0,4,50,(.box [qS,qI,qB,(.own 0 1 1 0)])⟩),(1,⟨1,14,64,(.row [])⟩)]],[]⟩⟩
def qLk:Sg:=⟨81,[(.c (.ptr 0 0 0 0 0))],[[(0,⟨0,4,50,(.box [qS,qI,qB,(.own 0 1 1 0)])⟩),(1,⟨1,14,64,(.row [])⟩)]],⟨aI,[[(0,⟨0,4,50,(.box [qS,qI,qB,(.own 0 1 1 0)])⟩),(1,⟨1,14,64,(.row [])⟩)]],[]⟩⟩
def qKv:Sg:=⟨132,[(.c (.ptr 0 0 0 0 0)),aI],[[(0,⟨0,4,50,(.box [qS,qI,qB,(.own 0 1 1 0)])⟩),(1,⟨1,14,64,(.row [])⟩)]],⟨aI,[[(0,⟨0,4,50,(.box [qS,qI,qB,(.own 0 1 1 0)])⟩),(1,⟨1,14,64,(.row [])⟩)]],[]⟩⟩
def qLl:Sg:=⟨159,[(.c (.ptr 0 0 0 0 0))],[[(0,⟨0,4,50,(.box [qS,qI,qB,(.own 0 1 1 0)])⟩),(1,⟨1,14,64,(.row [])⟩)]],⟨aI,[[(0,⟨0,4,50,(.box [qS,qI,qB,(.own 0 1 1 0)])⟩),(1,⟨1,14,64,(.row [])⟩)]],[]⟩⟩
structure G_spec_l3Rd_row where
 spec_l3Rd_row:Int→BA→Int→Bool→Nat→RW→Option (Int×BA×Int×Bool×Nat×RW)
 spec_l3Rd_one:BA→Int→Bool→Nat→RW→Option (Int×BA×Int×Bool×Nat×RW)
 spec_l3Rd_call:Int→BA→Int→Bool→Nat→RW→Option (Int×BA×Int×Bool×Nat×RW)
 spec_l3Rd_arg:BA→Int→Bool→Nat→RW→Option (Int×BA×Int×Bool×Nat×RW)
def qDk (rec:G_spec_l3Rd_row) (n:Nat) (v:Int×Int×BA×Int×Bool×Nat×RW):Tr ((Int×Int×BA×Int×Bool×Nat×RW)⊕((Int×BA×Int×Bool×Nat×RW)⊕(Int×BA×Int×Bool×Nat×RW))):=(.ask ((!v.2.2.2.2.1)) (.opt (qD8 n v.1 v.2.2.1 v.2.2.2.1 v.2.2.2.2.1 v.2.2.2.2.2.1 v.2.2.2.2.2.2) fun r424=>(.ask ((r424.1==(0:Int))) (.done (.inr (.inl ((v.2.1,r424.2.1,r424.2.2.1,r424.2.2.2.1,r424.2.2.2.2.1,r424.2.2.2.2.2))))) (.opt (rec.spec_l3Rd_row (IntKind.i64.wrap (v.1+(1:Int))) r424.2.1 r424.2.2.1 r424.2.2.2.1 r424.2.2.2.2.1 r424.2.2.2.2.2) fun r425=>(.ask (decide (2=([[(.i .i64 v.2.1)],[(.i .i64 r425.1)]]:RW).length)) (.opt (qp n (5:Int) r424.1 (0:Int) (0:Int) (⟨#[]⟩:BA) (0:Int) (0:Int) false false (0:Int) (0:Int) false false ([[(.i .i64 v.2.1)],[(.i .i64 r425.1)]]:RW) r425.2.1 r425.2.2.1 r425.2.2.2.1 r425.2.2.2.2.1 r425.2.2.2.2.2) fun r426=>(.done (.inl (v.1,r426.1,r426.2.1,r426.2.2.1,r426.2.2.2.1,r426.2.2.2.2.1,r426.2.2.2.2.2)))) .fail)))) (.done (.inr (.inr ((v.2.1,v.2.2.1,v.2.2.2.1,v.2.2.2.2.1,v.2.2.2.2.2.1,v.2.2.2.2.2.2))))))
def qHO (rec:G_spec_l3Rd_row) (n:Nat) (x0:Int) (x1:BA) (x2:Int) (x3:Bool) (x4:Nat) (x5:RW):Tr (Int×BA×Int×Bool×Nat×RW):=(.ask (x3) (.done ((0:Int),x1,x2,x3,x4,x5)) (.ask ((x0==(5:Int))) (.opt (rec.spec_l3Rd_one x1 x2 x3 x4 x5) fun r422=>(.done (r422.1,r422.2.1,r422.2.2.1,r422.2.2.2.1,r422.2.2.2.2.1,r422.2.2.2.2.2))) (.opt (rec.spec_l3Rd_row (IntKind.i64.wrap (x0+(1:Int))) x1 x2 x3 x4 x5) fun r423=>(.opt (zD (qDk rec n) n (x0,r423.1,r423.2.1,r423.2.2.1,r423.2.2.2.1,r423.2.2.2.2.1,r423.2.2.2.2.2)) fun r427=>(.alt r427 (fun r428=>(.done (r428.1,r428.2.1,r428.2.2.1,r428.2.2.2.1,r428.2.2.2.2.1,r428.2.2.2.2.2))) (fun r429=>(.done (r429.1,r429.2.1,r429.2.2.1,r429.2.2.2.1,r429.2.2.2.2.1,r429.2.2.2.2.2))))))))
def qCM (n:Nat) (v:Int×BA×Int×Bool×Nat×RW):Tr ((Int×BA×Int×Bool×Nat×RW)⊕((Int×BA×Int×Bool×Nat×RW)⊕(BA×Int×Bool×Nat×RW))):=(.ask ((decide (v.1≤(5:Int)))) (.opt (qBf n v.1) fun r371=>(.ask (decide (0≤(1:Int)∧(1:Int)≤(r371.size:Int)∧(r371.size:Int)≤r371.size)) (.ask ((decide ((IntKind.i64.wrap (v.2.2.1+((r371.extract ((1:Int)).toNat ((r371.size:Int)).toNat).size:Int)))≤(v.2.1.size:Int)))) (.ask (decide (0≤v.2.2.1∧v.2.2.1≤(IntKind.i64.wrap (v.2.2.1+((r371.extract ((1:Int)).toNat ((r371.size:Int)).toNat).size:Int)))∧(IntKind.i64.wrap (v.2.2.1+((r371.extract ((1:Int)).toNat ((r371.size:Int)).toNat).size:Int)))≤v.2.1.size)) (.ask (((v.2.1.extract (v.2.2.1).toNat ((IntKind.i64.wrap (v.2.2.1+((r371.extract ((1:Int)).toNat ((r371.size:Int)).toNat).size:Int)))).toNat).toList==(r371.extract ((1:Int)).toNat ((r371.size:Int)).toNat).toList)) (.opt (qCf n v.1) fun r372=>(.opt (qp n (1:Int) (0:Int) r372.1 r372.2.1 r372.2.2 (0:Int) (0:Int) false false (0:Int) (0:Int) false false ([]:RW) v.2.1 (IntKind.i64.wrap (v.2.2.1+((r371.extract ((1:Int)).toNat ((r371.size:Int)).toNat).size:Int))) v.2.2.2.1 v.2.2.2.2.1 v.2.2.2.2.2) fun r373=>(.done (.inr (.inl ((r373.1,r373.2.1,r373.2.2.1,r373.2.2.2.1,r373.2.2.2.2.1,r373.2.2.2.2.2))))))) (.done (.inl ((IntKind.i64.wrap (v.1+(1:Int))),v.2.1,v.2.2.1,v.2.2.2.1,v.2.2.2.2.1,v.2.2.2.2.2)))) .fail) (.done (.inl ((IntKind.i64.wrap (v.1+(1:Int))),v.2.1,v.2.2.1,v.2.2.2.1,v.2.2.2.2.1,v.2.2.2.2.2)))) .fail)) (.done (.inr (.inr ((v.2.1,v.2.2.1,v.2.2.2.1,v.2.2.2.2.1,v.2.2.2.2.2))))))
def qCt (rec:G_spec_l3Rd_row) (n:Nat) (v:BA×Int×BA×Int×Bool×Nat×RW):Tr ((BA×Int×BA×Int×Bool×Nat×RW)⊕((Int×BA×Int×Bool×Nat×RW)⊕(BA×BA×Int×Bool×Nat×RW))):=(.ask ((decide (v.2.1≤(10:Int)))) (.opt (qCm n v.2.1) fun r389=>(.ask ((r389.toList==v.1.toList)) (.opt (qv n (⟨#[40]⟩:BA) v.2.2.1 v.2.2.2.1 v.2.2.2.2.1 v.2.2.2.2.2.1 v.2.2.2.2.2.2) fun r390=>(.ask (r390.1) (.opt (rec.spec_l3Rd_call v.2.1 r390.2.1 r390.2.2.1 r390.2.2.2.1 r390.2.2.2.2.1 r390.2.2.2.2.2) fun r391=>(.done (.inr (.inl ((r391.1,r391.2.1,r391.2.2.1,r391.2.2.2.1,r391.2.2.2.2.1,r391.2.2.2.2.2)))))) (.done (.inl (v.1,(IntKind.i64.wrap (v.2.1+(1:Int))),r390.2.1,r390.2.2.1,r390.2.2.2.1,r390.2.2.2.2.1,r390.2.2.2.2.2))))) (.done (.inl (v.1,(IntKind.i64.wrap (v.2.1+(1:Int))),v.2.2.1,v.2.2.2.1,v.2.2.2.2.1,v.2.2.2.2.2.1,v.2.2.2.2.2.2))))) (.done (.inr (.inr ((v.1,v.2.2.1,v.2.2.2.1,v.2.2.2.2.1,v.2.2.2.2.2.1,v.2.2.2.2.2.2))))))
def qHP (rec:G_spec_l3Rd_row) (n:Nat) (x0:BA) (x1:Int) (x2:Bool) (x3:Nat) (x4:RW):Tr (Int×BA×Int×Bool×Nat×RW):=(.opt (qv n (⟨#[45]⟩:BA) x0 x1 x2 x3 x4) fun r343=>(.ask (r343.1) (.opt (rec.spec_l3Rd_row (5:Int) r343.2.1 r343.2.2.1 r343.2.2.2.1 r343.2.2.2.2.1 r343.2.2.2.2.2) fun r344=>(.ask (decide (1=([[(.i .i64 r344.1)]]:RW).length)) (.opt (qp n (4:Int) (0:Int) (0:Int) (0:Int) (⟨#[]⟩:BA) (0:Int) (0:Int) false false (0:Int) (0:Int) false false ([[(.i .i64 r344.1)]]:RW) r344.2.1 r344.2.2.1 r344.2.2.2.1 r344.2.2.2.2.1 r344.2.2.2.2.2) fun r357=>(.done (r357.1,r357.2.1,r357.2.2.1,r357.2.2.2.1,r357.2.2.2.2.1,r357.2.2.2.2.2))) .fail)) (.opt (qv n (⟨#[40]⟩:BA) r343.2.1 r343.2.2.1 r343.2.2.2.1 r343.2.2.2.2.1 r343.2.2.2.2.2) fun r358=>(.ask (r358.1) (.opt (rec.spec_l3Rd_row (1:Int) r358.2.1 r358.2.2.1 r358.2.2.2.1 r358.2.2.2.2.1 r358.2.2.2.2.2) fun r359=>(.opt (qv n (⟨#[41]⟩:BA) r359.2.1 r359.2.2.1 r359.2.2.2.1 r359.2.2.2.2.1 r359.2.2.2.2.2) fun r360=>(.ask ((!r360.1)) (.done (r359.1,r360.2.1,r360.2.2.1,true,r360.2.2.2.2.1,r360.2.2.2.2.2)) (.done (r359.1,r360.2.1,r360.2.2.1,r360.2.2.2.1,r360.2.2.2.2.1,r360.2.2.2.2.2))))) (.opt (qv n (⟨#[34]⟩:BA) r358.2.1 r358.2.2.1 r358.2.2.2.1 r358.2.2.2.2.1 r358.2.2.2.2.2) fun r361=>(.ask (r361.1) (.opt (qER n r361.2.1 r361.2.2.1 r361.2.2.2.1 r361.2.2.2.2.1 r361.2.2.2.2.2) fun r369=>(.done (r369.1,r369.2.1,r369.2.2.1,r369.2.2.2.1,r369.2.2.2.2.1,r369.2.2.2.2.2))) (.opt (qv n (⟨#[35]⟩:BA) r361.2.1 r361.2.2.1 r361.2.2.2.1 r361.2.2.2.2.1 r361.2.2.2.2.2) fun r370=>(.ask (r370.1) (.opt (zD (qCM n) n ((1:Int),r370.2.1,r370.2.2.1,r370.2.2.2.1,r370.2.2.2.2.1,r370.2.2.2.2.2)) fun r374=>(.alt r374 (fun r375=>(.done (r375.1,r375.2.1,r375.2.2.1,r375.2.2.2.1,r375.2.2.2.2.1,r375.2.2.2.2.2))) (fun r376=>(.done ((0:Int),r376.1,r376.2.1,true,r376.2.2.2.1,r376.2.2.2.2))))) (.opt (qCg n r370.2.1 r370.2.2.1 r370.2.2.2.1 r370.2.2.2.2.1 r370.2.2.2.2.2) fun r388=>(.opt (zD (qCt rec n) n (r388.1,(1:Int),r388.2.1,r388.2.2.1,r388.2.2.2.1,r388.2.2.2.2.1,r388.2.2.2.2.2)) fun r392=>(.alt r392 (fun r393=>(.done (r393.1,r393.2.1,r393.2.2.1,r393.2.2.2.1,r393.2.2.2.2.1,r393.2.2.2.2.2))) (fun r394=>(.opt (qAD n r394.1) fun r416=>(.ask (r416.2.2.2) (.ask ((!(r394.1.toList==(⟨#[]⟩:BA).toList))) (.opt (qp n (1:Int) (0:Int) r416.1 r416.2.1 r416.2.2.1 (0:Int) (0:Int) false false (0:Int) (0:Int) false false ([]:RW) r394.2.1 r394.2.2.1 r394.2.2.2.1 r394.2.2.2.2.1 r394.2.2.2.2.2) fun r417=>(.done (r417.1,r417.2.1,r417.2.2.1,r417.2.2.2.1,r417.2.2.2.2.1,r417.2.2.2.2.2))) (.opt (qAW n r394.1) fun r418=>(.ask ((!r418.2.2.2.2)) (.done ((0:Int),r394.2.1,r394.2.2.1,true,r394.2.2.2.2.1,r394.2.2.2.2.2)) (.opt (qp n (2:Int) (0:Int) (0:Int) (0:Int) (⟨#[]⟩:BA) r418.1 r418.2.1 r418.2.2.1 r418.2.2.2.1 (0:Int) (0:Int) false false ([]:RW) r394.2.1 r394.2.2.1 r394.2.2.2.1 r394.2.2.2.2.1 r394.2.2.2.2.2) fun r419=>(.done (r419.1,r419.2.1,r419.2.2.1,r419.2.2.2.1,r419.2.2.2.2.1,r419.2.2.2.2.2)))))) (.opt (qAW n r394.1) fun r420=>(.ask ((!r420.2.2.2.2)) (.done ((0:Int),r394.2.1,r394.2.2.1,true,r394.2.2.2.2.1,r394.2.2.2.2.2)) (.opt (qp n (2:Int) (0:Int) (0:Int) (0:Int) (⟨#[]⟩:BA) r420.1 r420.2.1 r420.2.2.1 r420.2.2.2.1 (0:Int) (0:Int) false false ([]:RW) r394.2.1 r394.2.2.1 r394.2.2.2.1 r394.2.2.2.2.1 r394.2.2.2.2.2) fun r421=>(.done (r421.1,r421.2.1,r421.2.2.1,r421.2.2.2.1,r421.2.2.2.2.1,r421.2.2.2.2.2)))))))))))))))))))
def qDV (rec:G_spec_l3Rd_row) (n:Nat) (v:Int×Nat×RW×BA×Int×Bool×Nat×RW):Tr ((Int×Nat×RW×BA×Int×Bool×Nat×RW)⊕((Int×BA×Int×Bool×Nat×RW)⊕(BA×Int×Bool×Nat×RW))):=(.ask ((!v.2.2.2.2.2.1)) (.opt (rec.spec_l3Rd_arg v.2.2.2.1 v.2.2.2.2.1 v.2.2.2.2.2.1 v.2.2.2.2.2.2.1 v.2.2.2.2.2.2.2) fun r393=>(.ask (decide (1=([[(.i .i64 r393.1)]]:RW).length)) (.ask (decide (v.2.1=v.2.2.1.length∧0<1∧0<8∧(v.2.1+([[(.i .i64 r393.1)]]:RW).length)*8≤140737488355328∧([[(.i .i64 r393.1)]]:RW).all (fun e=>e.length==1)=true)) (.opt (qv n (⟨#[41]⟩:BA) r393.2.1 r393.2.2.1 r393.2.2.2.1 r393.2.2.2.2.1 r393.2.2.2.2.2) fun r394=>(.ask (r394.1) (.ask (decide ((v.2.1+1)=(v.2.2.1++([[(.i .i64 r393.1)]]:RW)).length)) (.opt (qp n (6:Int) v.1 (0:Int) (0:Int) (⟨#[]⟩:BA) (0:Int) (0:Int) false false (0:Int) (0:Int) false false (v.2.2.1++([[(.i .i64 r393.1)]]:RW)) r394.2.1 r394.2.2.1 r394.2.2.2.1 r394.2.2.2.2.1 r394.2.2.2.2.2) fun r395=>(.done (.inr (.inl ((r395.1,r395.2.1,r395.2.2.1,r395.2.2.2.1,r395.2.2.2.2.1,r395.2.2.2.2.2)))))) .fail) (.opt (qv n (⟨#[44]⟩:BA) r394.2.1 r394.2.2.1 r394.2.2.2.1 r394.2.2.2.2.1 r394.2.2.2.2.2) fun r396=>(.ask ((!r396.1)) (.done (.inl (v.1,(v.2.1+1),(v.2.2.1++([[(.i .i64 r393.1)]]:RW)),r396.2.1,r396.2.2.1,true,r396.2.2.2.2.1,r396.2.2.2.2.2))) (.done (.inl (v.1,(v.2.1+1),(v.2.2.1++([[(.i .i64 r393.1)]]:RW)),r396.2.1,r396.2.2.1,r396.2.2.2.1,r396.2.2.2.2.1,r396.2.2.2.2.2))))))) .fail) .fail)) (.done (.inr (.inr ((v.2.2.2.1,v.2.2.2.2.1,v.2.2.2.2.2.1,v.2.2.2.2.2.2.1,v.2.2.2.2.2.2.2))))))
def qGe (rec:G_spec_l3Rd_row) (n:Nat) (x0:Int) (x1:BA) (x2:Int) (x3:Bool) (x4:Nat) (x5:RW):Tr (Int×BA×Int×Bool×Nat×RW):=(.opt (zD (qDV rec n) n (x0,(0:Nat),([]:RW),x1,x2,x3,x4,x5)) fun r397=>(.alt r397 (fun r398=>(.done (r398.1,r398.2.1,r398.2.2.1,r398.2.2.2.1,r398.2.2.2.2.1,r398.2.2.2.2.2))) (fun r399=>(.done ((0:Int),r399.1,r399.2.1,r399.2.2.1,r399.2.2.2.1,r399.2.2.2.2)))))
def qHQ (rec:G_spec_l3Rd_row) (n:Nat) (x0:BA) (x1:Int) (x2:Bool) (x3:Nat) (x4:RW):Tr (Int×BA×Int×Bool×Nat×RW):=(.opt (qBX n x0 x1 x2 x3 x4) fun r393=>(.opt (qCg n r393.1 r393.2.1 r393.2.2.1 r393.2.2.2.1 r393.2.2.2.2) fun r394=>(.opt (qAW n r394.1) fun r439=>(.ask (r439.2.2.2.2) (.opt (qv n (⟨#[58]⟩:BA) r394.2.1 r394.2.2.1 r394.2.2.2.1 r394.2.2.2.2.1 r394.2.2.2.2.2) fun r440=>(.ask (r440.1) (.opt (qBX n r440.2.1 r440.2.2.1 r440.2.2.2.1 r440.2.2.2.2.1 r440.2.2.2.2.2) fun r441=>(.opt (qCg n r441.1 r441.2.1 r441.2.2.1 r441.2.2.2.1 r441.2.2.2.2) fun r442=>(.opt (qAW n r442.1) fun r443=>(.ask ((!r443.2.2.2.2)) (.done ((0:Int),r442.2.1,r442.2.2.1,true,r442.2.2.2.2.1,r442.2.2.2.2.2)) (.opt (qp n (3:Int) (0:Int) (0:Int) (0:Int) (⟨#[]⟩:BA) r439.1 r439.2.1 r439.2.2.1 r439.2.2.2.1 r443.1 r443.2.1 r443.2.2.1 r443.2.2.2.1 ([]:RW) r442.2.1 r442.2.2.1 r442.2.2.2.1 r442.2.2.2.2.1 r442.2.2.2.2.2) fun r444=>(.done (r444.1,r444.2.1,r444.2.2.1,r444.2.2.2.1,r444.2.2.2.2.1,r444.2.2.2.2.2))))))) (.opt (rec.spec_l3Rd_row (1:Int) r440.2.1 r393.2.1 r440.2.2.2.1 r440.2.2.2.2.1 r440.2.2.2.2.2) fun r445=>(.done (r445.1,r445.2.1,r445.2.2.1,r445.2.2.2.1,r445.2.2.2.2.1,r445.2.2.2.2.2))))) (.opt (rec.spec_l3Rd_row (1:Int) r394.2.1 r393.2.1 r394.2.2.2.1 r394.2.2.2.2.1 r394.2.2.2.2.2) fun r446=>(.done (r446.1,r446.2.1,r446.2.2.1,r446.2.2.2.1,r446.2.2.2.2.1,r446.2.2.2.2.2)))))))
def qd:Nat→G_spec_l3Rd_row
 |0=>⟨fun _ _ _ _ _ _=>none,fun _ _ _ _ _=>none,fun _ _ _ _ _ _=>none,fun _ _ _ _ _=>none⟩
 |n+1=>⟨fun x0 x1 x2 x3 x4 x5=>(qHO (qd n) n x0 x1 x2 x3 x4 x5).run,fun x0 x1 x2 x3 x4=>(qHP (qd n) n x0 x1 x2 x3 x4).run,fun x0 x1 x2 x3 x4 x5=>(qGe (qd n) n x0 x1 x2 x3 x4 x5).run,fun x0 x1 x2 x3 x4=>(qHQ (qd n) n x0 x1 x2 x3 x4).run⟩
def qDh (n:Nat) (x0:Int) (x1:BA) (x2:Int) (x3:Bool) (x4:Nat) (x5:RW):Option (Int×BA×Int×Bool×Nat×RW):=(qd n).spec_l3Rd_row x0 x1 x2 x3 x4 x5
def qHR (n:Nat) (x0:BA) (x1:Int) (x2:Bool) (x3:Nat) (x4:RW):Option (Int×BA×Int×Bool×Nat×RW):=(qd n).spec_l3Rd_one x0 x1 x2 x3 x4
def qGf (n:Nat) (x0:Int) (x1:BA) (x2:Int) (x3:Bool) (x4:Nat) (x5:RW):Option (Int×BA×Int×Bool×Nat×RW):=(qd n).spec_l3Rd_call x0 x1 x2 x3 x4 x5
def qHS (n:Nat) (x0:BA) (x1:Int) (x2:Bool) (x3:Nat) (x4:RW):Option (Int×BA×Int×Bool×Nat×RW):=(qd n).spec_l3Rd_arg x0 x1 x2 x3 x4
def qAz (n:Nat):Prop:=
 Ok (Rn n) qHN (qDh n)∧
 Ok (Rn n) qLk (qHR n)∧
 Ok (Rn n) qKv (qGf n)∧
 Ok (Rn n) qLl (qHS n)
abbrev qHT (n:Nat) (ih:qAz n):List (Ent (Rn n)):= [en ih.2.1,en ih.1,en (qLj n),en (qCe n)]
def qJN (n:Nat) (ih:qAz n):LEnt (KB 33) (Rn n) n:=lok (zW 33) 62 ⟨⟨[(0,(.c (.ptr 0 0 0 0 0))),(1,aI),(5,aI)],[],[[(0,⟨0,4,50,(.box [qS,qI,qB,(.own 0 1 1 0)])⟩),(1,⟨1,14,64,(.row [])⟩)]]⟩,[(.ret,⟨[(4,aI)],[],[[(0,⟨0,4,50,(.box [qS,qI,qB,(.own 0 1 1 0)])⟩),(1,⟨1,14,64,(.row [])⟩)]]⟩),(.exit 0,⟨[(5,aI)],[],[[(0,⟨0,4,50,(.box [qS,qI,qB,(.own 0 1 1 0)])⟩),(1,⟨1,14,64,(.row [])⟩)]]⟩)]⟩ (qDk (qd n) n) (qHT n ih) [] fun _=>(by kernel_rfl)
abbrev qEu (n:Nat) (ih:qAz n):List (Ent (Rn n)):= [en (qDg n),en ih.1,en (qCe n),en (qJt n),en (qHz n),en (qLf n),en (qFv n),en (qNh n),en ih.2.2.1,en (qJv n),en (qFw n)]
def qH4 (n:Nat) (ih:qAz n):LEnt (KB 81) (Rn n) n:=lok (zW 81) 7161 ⟨⟨[(0,(.c (.ptr 0 0 0 0 0))),(5,aI)],[],[[(0,⟨0,4,50,(.box [qS,qI,qB,(.own 0 1 1 0)])⟩),(1,⟨1,14,64,(.row [])⟩)]]⟩,[(.ret,⟨[(2,aI)],[],[[(0,⟨0,4,50,(.box [qS,qI,qB,(.own 0 1 1 0)])⟩),(1,⟨1,14,64,(.row [])⟩)]]⟩),(.exit 1,⟨[(0,(.c (.ptr 0 0 0 0 0)))],[],[[(0,⟨0,4,50,(.box [qS,qI,qB,(.own 0 1 1 0)])⟩),(1,⟨1,14,64,(.row [])⟩)]]⟩)]⟩ (qCM n) (qEu n ih) [] fun _=>(by kernel_rfl)
def qJO (n:Nat) (ih:qAz n):LEnt (KB 81) (Rn n) n:=lok (zW 81) 61 ⟨⟨[(0,(.c (.ptr 0 0 0 0 0))),(7,aS),(8,aI)],[],[[(0,⟨0,4,50,(.box [qS,qI,qB,(.own 0 1 1 0)])⟩),(1,⟨1,14,64,(.row [])⟩)]]⟩,[(.ret,⟨[(2,aI)],[],[[(0,⟨0,4,50,(.box [qS,qI,qB,(.own 0 1 1 0)])⟩),(1,⟨1,14,64,(.row [])⟩)]]⟩),(.exit 3,⟨[(0,(.c (.ptr 0 0 0 0 0))),(7,aS)],[],[[(0,⟨0,4,50,(.box [qS,qI,qB,(.own 0 1 1 0)])⟩),(1,⟨1,14,64,(.row [])⟩)]]⟩)]⟩ (qCt (qd n) n) (qEu n ih) [] fun _=>(by kernel_rfl)
abbrev qGg (n:Nat) (ih:qAz n):List (Ent (Rn n)):= [en ih.2.2.2,en (qDg n),en (qCe n)]
def qIn (n:Nat) (ih:qAz n):LEnt (KB 132) (Rn n) n:=lok (zW 132) 14 ⟨⟨[(0,(.c (.ptr 0 0 0 0 0))),(1,aI),(5,(.c (.own 1 384 0 0)))],[(384,⟨0,1,2,(.row [])⟩)],[[(0,⟨0,4,50,(.box [qS,qI,qB,(.own 0 1 1 0)])⟩),(1,⟨1,14,64,(.row [])⟩)]]⟩,[(.ret,⟨[(4,aI)],[],[[(0,⟨0,4,50,(.box [qS,qI,qB,(.own 0 1 1 0)])⟩),(1,⟨1,14,64,(.row [])⟩)]]⟩),(.exit 0,⟨[],[],[[(0,⟨0,4,50,(.box [qS,qI,qB,(.own 0 1 1 0)])⟩),(1,⟨1,14,64,(.row [])⟩)]]⟩)]⟩ (qDV (qd n) n) (qGg n ih) [] fun _=>(by kernel_rfl)
abbrev qLm (n:Nat) (ih:qAz n):List (Ent (Rn n)):= [en (qDT n),en (qFv n),en (qFw n),en (qDg n),en (qCe n),en ih.1]
theorem qA0:∀n,qAz n
 |0=>⟨ok0 fun _=>rfl,ok0 fun _=>rfl,ok0 fun _=>rfl,ok0 fun _=>rfl⟩
 |n+1=>⟨stO (T:=qHO (qd n) n) (by kernel_rfl) (qHT n (qA0 n)) [qJN n (qA0 n)] (fun _=>(by kernel_rfl)) fun _=>(by kernel_rfl),stO (T:=qHP (qd n) n) (by kernel_rfl) (qEu n (qA0 n)) [qH4 n (qA0 n),qJO n (qA0 n)] (fun _=>(by kernel_rfl)) fun _=>(by kernel_rfl),stO (T:=qGe (qd n) n) (by kernel_rfl) (qGg n (qA0 n)) [qIn n (qA0 n)] (fun _=>(by kernel_rfl)) fun _=>(by kernel_rfl),stO (T:=qHQ (qd n) n) (by kernel_rfl) (qLm n (qA0 n)) [] (fun _=>(by kernel_rfl)) fun _=>(by kernel_rfl)⟩
theorem qKw (n:Nat):Ok (Rn n) qHN (qDh n):=(qA0 n).1
def qGH:Sg:=⟨54,[aL,aI],[],⟨aI,[],[]⟩⟩
def qA1 (rec:RW→Int→Option (Int)) (n:Nat) (v:RW×Int×Int×Int):Tr ((RW×Int×Int×Int)⊕((Int)⊕(Int))):=(.ask ((decide (v.2.2.2≥(0:Int)))) (.ask ((decide (v.2.2.1<(0:Int)))) (.done (.inr (.inl ((-1:Int))))) (.ask (decide (0≤v.2.1∧v.2.1<v.1.length)) (.opt (v.1[(v.2.1).toNat]?) fun e467=>(.ask (decide (e467.length=14)) (.opt (zAY e467 13) fun y468=>(.ask (decide (0≤v.2.2.2∧v.2.2.2<y468.length)) (.opt (y468[(v.2.2.2).toNat]?) fun e469=>(.ask (decide (e469.length=1)) (.opt (zF .i64 e469 0) fun y470=>(.ask ((y470 !=v.2.2.1)) (.done (.inr (.inl ((-1:Int))))) (.opt (rec v.1 v.2.2.1) fun r471=>(.ask ((decide (r471<(0:Int)))) (.done (.inr (.inl ((-1:Int))))) (.done (.inl (v.1,v.2.1,(IntKind.i64.wrap (r471-(1:Int))),(IntKind.i64.wrap (v.2.2.2-(1:Int)))))))))) .fail)) .fail)) .fail)) .fail)) (.done (.inr (.inr (v.2.2.1)))))
def qGI (rec:RW→Int→Option (Int)) (n:Nat) (x0:RW) (x1:Int):Tr (Int):=(.ask (decide (0≤x1∧x1<x0.length)) (.opt (x0[(x1).toNat]?) fun e465=>(.ask (decide (e465.length=14)) (.opt (zAY e465 13) fun y466=>(.opt (zD (qA1 rec n) n (x0,x1,(IntKind.i64.wrap (x1-(1:Int))),(IntKind.i64.wrap ((y466.length:Int)-(1:Int))))) fun r472=>(.alt r472 (fun r473=>(.done r473)) (fun r474=>(.done (IntKind.i64.wrap (r474+(1:Int)))))))) .fail)) .fail)
def qAX:Nat→RW→Int→Option (Int)
 |0,_,_=>none
 |n+1,x0,x1=>(qGI (qAX n) n x0 x1).run
abbrev qIy (n:Nat) (ih:Ok (Rn n) qGH (qAX n)):List (Ent (Rn n)):= [en ih]
def qKx (n:Nat) (ih:Ok (Rn n) qGH (qAX n)):LEnt (KB 54) (Rn n) n:=lok (zW 54) 29 ⟨⟨[(0,aL),(1,aI),(5,aI),(6,aI)],[],[]⟩,[(.ret,⟨[(4,aI)],[],[]⟩),(.exit 0,⟨[(5,aI)],[],[]⟩)]⟩ (qA1 (qAX n) n) (qIy n ih) [] fun _=>(by kernel_rfl)
theorem qFY:∀n,Ok (Rn n) qGH (qAX n)
 |0=>ok0 fun _=>rfl
 |n+1=>stO (T:=qGI (qAX n) n) (by kernel_rfl) (qIy n (qFY n)) [qKx n (qFY n)] (fun _=>(by kernel_rfl)) fun _=>(by kernel_rfl)
def qGJ:Sg:=⟨55,[aL,aI],[],⟨aI,[],[]⟩⟩
def qCi (rec:RW→Int→Option (Int)) (n:Nat) (v:RW×Int×Int×Int):Tr ((RW×Int×Int×Int)⊕((Int))):=(.ask (decide (0≤v.2.1∧v.2.1<v.1.length)) (.opt (v.1[(v.2.1).toNat]?) fun e478=>(.ask (decide (e478.length=14)) (.opt (zAY e478 13) fun y479=>(.ask ((decide (v.2.2.2<(y479.length:Int)))) (.ask (decide (0≤v.2.1∧v.2.1<v.1.length)) (.opt (v.1[(v.2.1).toNat]?) fun e480=>(.ask (decide (e480.length=14)) (.opt (zAY e480 13) fun y481=>(.ask (decide (0≤v.2.2.2∧v.2.2.2<y481.length)) (.opt (y481[(v.2.2.2).toNat]?) fun e482=>(.ask (decide (e482.length=1)) (.opt (zF .i64 e482 0) fun y483=>(.opt (rec v.1 y483) fun r484=>(.done (.inl (v.1,v.2.1,(if r484>v.2.2.1 then r484 else v.2.2.1),(IntKind.i64.wrap (v.2.2.2+(1:Int)))))))) .fail)) .fail)) .fail)) .fail) (.done (.inr (v.2.2.1))))) .fail)) .fail)
def qGK (rec:RW→Int→Option (Int)) (n:Nat) (x0:RW) (x1:Int):Tr (Int):=(.opt (zD (qCi rec n) n (x0,x1,(0:Int),(0:Int))) fun r485=>(.done (IntKind.i64.wrap (r485+(1:Int)))))
def qAY:Nat→RW→Int→Option (Int)
 |0,_,_=>none
 |n+1,x0,x1=>(qGK (qAY n) n x0 x1).run
abbrev qIz (n:Nat) (ih:Ok (Rn n) qGJ (qAY n)):List (Ent (Rn n)):= [en ih]
def qKy (n:Nat) (ih:Ok (Rn n) qGJ (qAY n)):LEnt (KB 55) (Rn n) n:=lok (zW 55) 29 ⟨⟨[(0,aL),(1,aI),(5,aI),(6,aI)],[],[]⟩,[(.exit 0,⟨[(5,aI)],[],[]⟩)]⟩ (qCi (qAY n) n) (qIz n ih) [] fun _=>(by kernel_rfl)
theorem qFZ:∀n,Ok (Rn n) qGJ (qAY n)
 |0=>ok0 fun _=>rfl
 |n+1=>stO (T:=qGK (qAY n) n) (by kernel_rfl) (qIz n (qFZ n)) [qKy n (qFZ n)] (fun _=>(by kernel_rfl)) fun _=>(by kernel_rfl)
def qKz:Sg:=⟨21,[aL],[],⟨aB,[],[]⟩⟩
def qAR (n:Nat) (v:RW×Int×Int):Tr ((RW×Int×Int)⊕((Bool)⊕(RW×Int))):=(.ask (decide (0≤v.2.1∧v.2.1<v.1.length)) (.opt (v.1[(v.2.1).toNat]?) fun e448=>(.ask (decide (e448.length=14)) (.opt (zAY e448 13) fun y449=>(.ask ((decide (v.2.2<(y449.length:Int)))) (.ask (decide (0≤v.2.1∧v.2.1<v.1.length)) (.opt (v.1[(v.2.1).toNat]?) fun e450=>(.ask (decide (e450.length=14)) (.opt (zAY e450 13) fun y451=>(.ask (decide (0≤v.2.2∧v.2.2<y451.length)) (.opt (y451[(v.2.2).toNat]?) fun e452=>(.ask (decide (e452.length=1)) (.opt (zF .i64 e452 0) fun y453=>(.opt (qBD n y453 (0:Int) (IntKind.i64.wrap (v.2.1-(1:Int)))) fun r454=>(.ask ((!r454)) (.done (.inr (.inl (false)))) (.ask (decide (0≤y453∧y453<v.1.length)) (.opt (v.1[(y453).toNat]?) fun e455=>(.ask (decide (e455.length=14)) (.opt (zF .i64 e455 0) fun y456=>(.ask ((y456==(3:Int))) (.ask (decide (0≤v.2.1∧v.2.1<v.1.length)) (.opt (v.1[(v.2.1).toNat]?) fun e457=>(.ask (decide (e457.length=14)) (.opt (zF .i64 e457 0) fun y458=>(.ask ((y458 !=(6:Int))) (.done (.inr (.inl (false)))) (.done (.inl (v.1,v.2.1,(IntKind.i64.wrap (v.2.2+(1:Int)))))))) .fail)) .fail) (.done (.inl (v.1,v.2.1,(IntKind.i64.wrap (v.2.2+(1:Int)))))))) .fail)) .fail)))) .fail)) .fail)) .fail)) .fail) (.done (.inr (.inr ((v.1,v.2.1))))))) .fail)) .fail)
def qA3 (n:Nat) (v:RW×Int):Tr ((RW×Int)⊕((Bool)⊕(RW))):=(.ask ((decide (v.2<(v.1.length:Int)))) (.ask (decide (0≤v.2∧v.2<v.1.length)) (.opt (v.1[(v.2).toNat]?) fun e432=>(.ask (decide (e432.length=14)) (.opt (zF .i64 e432 0) fun y433=>(.opt (zF .i64 e432 1) fun y434=>(.opt (zF .i64 e432 2) fun y435=>(.opt (zF .i64 e432 3) fun y436=>(.opt (zh e432 4) fun y437=>(.opt (zF .i64 e432 5) fun y438=>(.opt (zF .i64 e432 6) fun y439=>(.opt (zw e432 7) fun y440=>(.opt (zw e432 8) fun y441=>(.opt (zF .i64 e432 9) fun y442=>(.opt (zF .i64 e432 10) fun y443=>(.opt (zw e432 11) fun y444=>(.opt (zw e432 12) fun y445=>(.opt (zAY e432 13) fun y446=>(.opt (qBn n y433 y434 y435 y436 y437 y438 y439 y440 y441 y442 y443 y444 y445 y446) fun r447=>(.ask ((!r447)) (.done (.inr (.inl (false)))) (.opt (zD (qAR n) n (v.1,v.2,(0:Int))) fun r459=>(.alt r459 (fun r460=>(.done (.inr (.inl (r460))))) (fun r461=>(.done (.inl (r461.1,(IntKind.i64.wrap (r461.2+(1:Int))))))))))))))))))))))))) .fail)) .fail) (.done (.inr (.inr (v.1)))))
def qCj (n:Nat) (x0:RW):Tr (Bool):=(.ask ((decide ((x0.length:Int)<(1:Int)))) (.done false) (.ask ((decide ((x0.length:Int)>(60:Int)))) (.done false) (.opt (zD (qA3 n) n (x0,(0:Int))) fun r462=>(.alt r462 (fun r463=>(.done r463)) (fun r464=>(.opt (qAX n r464 (IntKind.i64.wrap ((r464.length:Int)-(1:Int)))) fun r475=>(.ask ((r475==(0:Int))) (.ask (decide (0≤(IntKind.i64.wrap ((r464.length:Int)-(1:Int)))∧(IntKind.i64.wrap ((r464.length:Int)-(1:Int)))<r464.length)) (.opt (r464[((IntKind.i64.wrap ((r464.length:Int)-(1:Int)))).toNat]?) fun e476=>(.ask (decide (e476.length=14)) (.opt (zF .i64 e476 0) fun y477=>(.ask ((y477 !=(3:Int))) (.opt (qAY n r464 (IntKind.i64.wrap ((r464.length:Int)-(1:Int)))) fun r486=>(.done (decide (r486≤(12:Int))))) (.done false))) .fail)) .fail) (.done false))))))))
def qB2:Nat→RW→Option (Bool)
 |0,_=>none
 |n+1,x0=>(qCj n x0).run
abbrev qES (n:Nat):List (Ent (Rn n)):= [en (qGY n),en (qDv n),en (qFY n),en (qFZ n)]
def qH5 (n:Nat):LEnt (lb 29 (KB 21)) (Rn n) n:=lok (Uniq.pick (zW 21) 29) 475 ⟨⟨[(0,aL),(3,aI),(4,aI)],[],[]⟩,[(.ret,⟨[(2,aB)],[],[]⟩),(.exit 2,⟨[(0,aL),(3,aI)],[],[]⟩)]⟩ (qAR n) (qES n) [] fun _=>(by kernel_rfl)
def qIo (n:Nat):LEnt (KB 21) (Rn n) n:=lok (zW 21) 29 ⟨⟨[(0,aL),(3,aI)],[],[]⟩,[(.ret,⟨[(2,aB)],[],[]⟩),(.exit 0,⟨[(0,aL)],[],[]⟩)]⟩ (qA3 n) (qES n) [qH5 n] fun _=>(by kernel_rfl)
theorem qJx:∀n,Ok (Rn n) qKz (qB2 n)
 |0=>ok0 fun _=>rfl
 |n+1=>stO (T:=qCj n) (by kernel_rfl) (qES n) [qIo n] (fun _=>(by kernel_rfl)) fun _=>(by kernel_rfl)
def qJP:Sg:=⟨9,[aS],[],⟨(.tup [(false,[qL]),(false,[qB])]),[],[]⟩⟩
def qFa (n:Nat) (x0:BA):Tr (RW×Bool):=(.opt (qC9 n x0) fun r339=>(.ask ((!r339)) (.ask (decide (0=([]:RW).length)) (.done (([]:RW),false)) .fail) (.opt (qDh n (1:Int) x0 (0:Int) false (0:Nat) ([]:RW)) fun r430=>(.opt (qBX n r430.2.1 r430.2.2.1 r430.2.2.2.1 r430.2.2.2.2.1 r430.2.2.2.2.2) fun r431=>(.ask (r431.2.2.1) (.ask (decide (0=([]:RW).length)) (.done (([]:RW),false)) .fail) (.ask ((decide (r431.2.1<(x0.size:Int)))) (.ask (decide (0=([]:RW).length)) (.done (([]:RW),false)) .fail) (.ask (decide (r431.2.2.2.1=r431.2.2.2.2.length)) (.opt (qB2 n r431.2.2.2.2) fun r487=>(.ask (zAx (⟨(.c (.p (.b r487))),[],[]⟩:Res)) (.ask ((!r487)) (.ask (decide (0=([]:RW).length)) (.done (([]:RW),false)) .fail) (.ask (decide (r431.2.2.2.1=r431.2.2.2.2.length)) (.done (r431.2.2.2.2,true)) .fail)) .fail)) .fail)))))))
def qDl:Nat→BA→Option (RW×Bool)
 |0,_=>none
 |n+1,x0=>(qFa n x0).run
abbrev qJQ (n:Nat):List (Ent (Rn n)):= [en (qHK n),en (qKw n),en (qDT n),en (qJx n)]
theorem qIp:∀n,Ok (Rn n) qJP (qDl n)
 |0=>ok0 fun _=>rfl
 |n+1=>stO (T:=qFa n) (by kernel_rfl) (qJQ n) [] (fun _=>(by kernel_rfl)) fun _=>(by kernel_rfl)
def qLn:Sg:=⟨46,[aL,aL],[],⟨aB,[],[]⟩⟩
def qB6 (n:Nat) (v:RW×RW×Int):Tr ((RW×RW×Int)⊕((Bool)⊕(Unit))):=(.ask ((decide (v.2.2<(v.1.length:Int)))) (.ask (decide (0≤v.2.2∧v.2.2<v.1.length)) (.opt (v.1[(v.2.2).toNat]?) fun e519=>(.ask (decide (e519.length=1)) (.opt (zF .i64 e519 0) fun y520=>(.ask (decide (0≤v.2.2∧v.2.2<v.2.1.length)) (.opt (v.2.1[(v.2.2).toNat]?) fun e521=>(.ask (decide (e521.length=1)) (.opt (zF .i64 e521 0) fun y522=>(.ask ((y520 !=y522)) (.done (.inr (.inl (false)))) (.done (.inl (v.1,v.2.1,(IntKind.i64.wrap (v.2.2+(1:Int)))))))) .fail)) .fail)) .fail)) .fail) (.done (.inr (.inr (())))))
def qEv (n:Nat) (x0 x1:RW):Tr (Bool):=(.ask (((x0.length:Int) !=(x1.length:Int))) (.done false) (.opt (zD (qB6 n) n (x0,x1,(0:Int))) fun r523=>(.alt r523 (fun r524=>(.done r524)) (fun r525=>(.done true)))))
def qCx:Nat→RW→RW→Option (Bool)
 |0,_,_=>none
 |n+1,x0,x1=>(qEv n x0 x1).run
def qJR (n:Nat):LEnt (KB 46) (Rn n) n:=lok (zW 46) 29 ⟨⟨[(0,aL),(1,aL),(5,aI)],[],[]⟩,[(.ret,⟨[(4,aB)],[],[]⟩),(.exit 0,⟨[],[],[]⟩)]⟩ (qB6 n) [] [] fun _=>(by kernel_rfl)
theorem qK0:∀n,Ok (Rn n) qLn (qCx n)
 |0=>ok0 fun _=>rfl
 |n+1=>stO (T:=qEv n) (by kernel_rfl) [] [qJR n] (fun _=>(by kernel_rfl)) fun _=>(by kernel_rfl)
def qK1:Sg:=⟨16,[aL,aL],[],⟨aB,[],[]⟩⟩
def qDW (n:Nat) (v:RW×RW×Int):Tr ((RW×RW×Int)⊕((Bool)⊕(Unit))):=(.ask ((decide (v.2.2<(v.1.length:Int)))) (.ask (decide (0≤v.2.2∧v.2.2<v.1.length)) (.opt (v.1[(v.2.2).toNat]?) fun e489=>(.ask (decide (e489.length=14)) (.opt (zF .i64 e489 0) fun y490=>(.opt (zF .i64 e489 1) fun y491=>(.opt (zF .i64 e489 2) fun y492=>(.opt (zF .i64 e489 3) fun y493=>(.opt (zh e489 4) fun y494=>(.opt (zF .i64 e489 5) fun y495=>(.opt (zF .i64 e489 6) fun y496=>(.opt (zw e489 7) fun y497=>(.opt (zw e489 8) fun y498=>(.opt (zF .i64 e489 9) fun y499=>(.opt (zF .i64 e489 10) fun y500=>(.opt (zw e489 11) fun y501=>(.opt (zw e489 12) fun y502=>(.opt (zAY e489 13) fun y503=>(.ask (decide (0≤v.2.2∧v.2.2<v.2.1.length)) (.opt (v.2.1[(v.2.2).toNat]?) fun e504=>(.ask (decide (e504.length=14)) (.opt (zF .i64 e504 0) fun y505=>(.opt (zF .i64 e504 1) fun y506=>(.opt (zF .i64 e504 2) fun y507=>(.opt (zF .i64 e504 3) fun y508=>(.opt (zh e504 4) fun y509=>(.opt (zF .i64 e504 5) fun y510=>(.opt (zF .i64 e504 6) fun y511=>(.opt (zw e504 7) fun y512=>(.opt (zw e504 8) fun y513=>(.opt (zF .i64 e504 9) fun y514=>(.opt (zF .i64 e504 10) fun y515=>(.opt (zw e504 11) fun y516=>(.opt (zw e504 12) fun y517=>(.opt (zAY e504 13) fun y518=>(.ask ((y490 !=y505)) (.done (.inr (.inl (false)))) (.ask ((y491 !=y506)) (.done (.inr (.inl (false)))) (.ask ((!((y492==y507)&&((y493==y508)&&((y494.toList==y509.toList)&&true))))) (.done (.inr (.inl (false)))) (.ask ((!((y495==y510)&&((y496==y511)&&((y497==y512)&&((y498==y513)&&true)))))) (.done (.inr (.inl (false)))) (.ask ((!((y499==y514)&&((y500==y515)&&((y501==y516)&&((y502==y517)&&true)))))) (.done (.inr (.inl (false)))) (.opt (qCx n y503 y518) fun r519=>(.ask ((!r519)) (.done (.inr (.inl (false)))) (.done (.inl (v.1,v.2.1,(IntKind.i64.wrap (v.2.2+(1:Int))))))))))))))))))))))))))) .fail)) .fail))))))))))))))) .fail)) .fail) (.done (.inr (.inr (())))))
def qGh (n:Nat) (x0 x1:RW):Tr (Bool):=(.ask (((x0.length:Int) !=(x1.length:Int))) (.done false) (.opt (zD (qDW n) n (x0,x1,(0:Int))) fun r520=>(.alt r520 (fun r521=>(.done r521)) (fun r522=>(.done true)))))
def qBG:Nat→RW→RW→Option (Bool)
 |0,_,_=>none
 |n+1,x0,x1=>(qGh n x0 x1).run
abbrev qGi (n:Nat):List (Ent (Rn n)):= [en (qK0 n)]
def qIq (n:Nat):LEnt (KB 16) (Rn n) n:=lok (zW 16) 29 ⟨⟨[(0,aL),(1,aL),(5,aI)],[],[]⟩,[(.ret,⟨[(4,aB)],[],[]⟩),(.exit 0,⟨[],[],[]⟩)]⟩ (qDW n) (qGi n) [] fun _=>(by kernel_rfl)
theorem qJy:∀n,Ok (Rn n) qK1 (qBG n)
 |0=>ok0 fun _=>rfl
 |n+1=>stO (T:=qGh n) (by kernel_rfl) (qGi n) [qIq n] (fun _=>(by kernel_rfl)) fun _=>(by kernel_rfl)
def qEl:Sg:=⟨101,[aS,aS,aS],[],⟨aS,[],[]⟩⟩
def qDB:Nat→BA→BA→BA→Option ((BA))
 |0,_,_,_=>none
 |n+1,x0,x1,x2=>zX x0 x1 x2
theorem qHg:∀n,Ok (Rn n) qEl (qDB n)
 |0=>ok0 fun _=>rfl
 |n+1=>stL (by kernel_rfl) (fun a r e=>congrArg (Option.map fun r=>(qEl.Of r).v) e) rfl rfl rfl
def qH6:Sg:=⟨104,[aL,aS],[],⟨aS,[],[]⟩⟩
def qFb:Nat→RW→BA→Option ((BA))
 |0,_,_=>none
 |n+1,x0,x1=>zAQ x0 x1
theorem qLo:∀n,Ok (Rn n) qH6 (qFb n)
 |0=>ok0 fun _=>rfl
 |n+1=>stL (by kernel_rfl) (fun a r e=>congrArg (Option.map fun r=>(qH6.Of r).v) e) rfl rfl rfl
def qDm:Sg:=⟨47,[aL,aI,aI],[],⟨aS,[],[]⟩⟩
def qBM (rec:RW→Int→Int→Option (BA)) (n:Nat) (v:RW×Nat×RW×Int×Int×Int×Int×Int×Int×BA×Int×Int×Bool×Bool×Int×Int×Bool×Bool×RW×RW):Tr ((RW×Nat×RW×Int×Int×Int×Int×Int×Int×BA×Int×Int×Bool×Bool×Int×Int×Bool×Bool×RW×RW)⊕((Nat×Int×Int×Int×Int×BA×Int×Int×Bool×Bool×Int×Int×Bool×Bool×RW×RW))):=(.ask ((decide (v.2.2.2.2.1<v.2.2.2.1))) (.ask (decide (0≤v.2.2.2.2.1∧v.2.2.2.2.1<v.2.2.1.length)) (.opt (v.2.2.1[(v.2.2.2.2.1).toNat]?) fun e559=>(.ask (decide (e559.length=1)) (.opt (zF .i64 e559 0) fun y560=>(.opt (rec v.1 y560 (1:Int)) fun r561=>(.ask (decide (1=([[(.s r561)]]:RW).length)) (.ask (decide (v.2.1=v.2.2.2.2.2.2.2.2.2.2.2.2.2.2.2.2.2.2.2.length∧0<1∧0<16∧(v.2.1+([[(.s r561)]]:RW).length)*16≤140737488355328∧([[(.s r561)]]:RW).all (fun e=>e.length==1)=true)) (.done (.inl (v.1,(v.2.1+1),v.2.2.1,v.2.2.2.1,(IntKind.i64.wrap (v.2.2.2.2.1+(1:Int))),v.2.2.2.2.2.1,v.2.2.2.2.2.2.1,v.2.2.2.2.2.2.2.1,v.2.2.2.2.2.2.2.2.1,v.2.2.2.2.2.2.2.2.2.1,v.2.2.2.2.2.2.2.2.2.2.1,v.2.2.2.2.2.2.2.2.2.2.2.1,v.2.2.2.2.2.2.2.2.2.2.2.2.1,v.2.2.2.2.2.2.2.2.2.2.2.2.2.1,v.2.2.2.2.2.2.2.2.2.2.2.2.2.2.1,v.2.2.2.2.2.2.2.2.2.2.2.2.2.2.2.1,v.2.2.2.2.2.2.2.2.2.2.2.2.2.2.2.2.1,v.2.2.2.2.2.2.2.2.2.2.2.2.2.2.2.2.2.1,v.2.2.2.2.2.2.2.2.2.2.2.2.2.2.2.2.2.2.1,(v.2.2.2.2.2.2.2.2.2.2.2.2.2.2.2.2.2.2.2++([[(.s r561)]]:RW))))) .fail) .fail))) .fail)) .fail) (.done (.inr ((v.2.1,v.2.2.2.2.2.1,v.2.2.2.2.2.2.1,v.2.2.2.2.2.2.2.1,v.2.2.2.2.2.2.2.2.1,v.2.2.2.2.2.2.2.2.2.1,v.2.2.2.2.2.2.2.2.2.2.1,v.2.2.2.2.2.2.2.2.2.2.2.1,v.2.2.2.2.2.2.2.2.2.2.2.2.1,v.2.2.2.2.2.2.2.2.2.2.2.2.2.1,v.2.2.2.2.2.2.2.2.2.2.2.2.2.2.1,v.2.2.2.2.2.2.2.2.2.2.2.2.2.2.2.1,v.2.2.2.2.2.2.2.2.2.2.2.2.2.2.2.2.1,v.2.2.2.2.2.2.2.2.2.2.2.2.2.2.2.2.2.1,v.2.2.2.2.2.2.2.2.2.2.2.2.2.2.2.2.2.2.1,v.2.2.2.2.2.2.2.2.2.2.2.2.2.2.2.2.2.2.2)))))
def qAT (rec:RW→Int→Int→Option (BA)) (n:Nat) (x0:RW) (x1 x2:Int):Tr (BA):=(.ask (decide (0≤x1∧x1<x0.length)) (.opt (x0[(x1).toNat]?) fun e528=>(.ask (decide (e528.length=14)) (.opt (zF .i64 e528 0) fun y529=>(.opt (zF .i64 e528 1) fun y530=>(.opt (zF .i64 e528 2) fun y531=>(.opt (zF .i64 e528 3) fun y532=>(.opt (zh e528 4) fun y533=>(.opt (zF .i64 e528 5) fun y534=>(.opt (zF .i64 e528 6) fun y535=>(.opt (zw e528 7) fun y536=>(.opt (zw e528 8) fun y537=>(.opt (zF .i64 e528 9) fun y538=>(.opt (zF .i64 e528 10) fun y539=>(.opt (zw e528 11) fun y540=>(.opt (zw e528 12) fun y541=>(.opt (zAY e528 13) fun y542=>(.ask ((y529==(1:Int))) (.ask ((y531==(2:Int))) (.opt (qDB n y533 (⟨#[34]⟩:BA) (⟨#[34,34]⟩:BA)) fun r543=>(.ask (decide ((⟨#[34]⟩:BA).size+r543.size≤9223372036854775807)) (.ask (decide (((⟨#[34]⟩:BA)++r543).size+(⟨#[34]⟩:BA).size≤9223372036854775807)) (.done (((⟨#[34]⟩:BA)++r543)++(⟨#[34]⟩:BA))) .fail) .fail)) (.opt (qo n y531 y532 y533) fun r544=>(.done r544))) (.ask ((y529==(2:Int))) (.opt (qAx n y534 y535 y536 y537) fun r545=>(.done r545)) (.ask ((y529==(3:Int))) (.opt (qAx n y534 y535 y536 y537) fun r546=>(.ask (decide (r546.size+(⟨#[58]⟩:BA).size≤9223372036854775807)) (.opt (qAx n y538 y539 y540 y541) fun r547=>(.ask (decide ((r546++(⟨#[58]⟩:BA)).size+r547.size≤9223372036854775807)) (.done ((r546++(⟨#[58]⟩:BA))++r547)) .fail)) .fail)) (.ask ((y529==(4:Int))) (.ask (decide (0≤(0:Int)∧(0:Int)<y542.length)) (.opt (y542[((0:Int)).toNat]?) fun e548=>(.ask (decide (e548.length=1)) (.opt (zF .i64 e548 0) fun y549=>(.opt (rec x0 y549 (5:Int)) fun r550=>(.ask (decide ((⟨#[45]⟩:BA).size+r550.size≤9223372036854775807)) (.done ((⟨#[45]⟩:BA)++r550)) .fail))) .fail)) .fail) (.ask ((y529==(5:Int))) (.opt (qDN n y530) fun r551=>(.ask (decide (0≤(0:Int)∧(0:Int)<y542.length)) (.opt (y542[((0:Int)).toNat]?) fun e552=>(.ask (decide (e552.length=1)) (.opt (zF .i64 e552 0) fun y553=>(.ask (decide (0≤(1:Int)∧(1:Int)<y542.length)) (.opt (y542[((1:Int)).toNat]?) fun e554=>(.ask (decide (e554.length=1)) (.opt (zF .i64 e554 0) fun y555=>(.opt (rec x0 y553 r551) fun r556=>(.opt (qBI n y530) fun r557=>(.ask (decide (r556.size+r557.size≤9223372036854775807)) (.opt (rec x0 y555 (IntKind.i64.wrap (r551+(1:Int)))) fun r558=>(.ask (decide ((r556++r557).size+r558.size≤9223372036854775807)) (.ask ((decide (r551<x2))) (.ask (decide ((⟨#[40]⟩:BA).size+((r556++r557)++r558).size≤9223372036854775807)) (.ask (decide (((⟨#[40]⟩:BA)++((r556++r557)++r558)).size+(⟨#[41]⟩:BA).size≤9223372036854775807)) (.done (((⟨#[40]⟩:BA)++((r556++r557)++r558))++(⟨#[41]⟩:BA))) .fail) .fail) (.done ((r556++r557)++r558))) .fail)) .fail)))) .fail)) .fail)) .fail)) .fail)) (.opt (zD (qBM rec n) n (x0,(0:Nat),y542,(y542.length:Int),(0:Int),y529,y530,y531,y532,y533,y534,y535,y536,y537,y538,y539,y540,y541,y542,([]:RW))) fun r562=>(.opt (qBw n r562.2.2.1) fun r563=>(.ask (decide (r563.size+(⟨#[40]⟩:BA).size≤9223372036854775807)) (.ask (decide (r562.1=r562.2.2.2.2.2.2.2.2.2.2.2.2.2.2.2.length)) (.opt (qFb n r562.2.2.2.2.2.2.2.2.2.2.2.2.2.2.2 (⟨#[44]⟩:BA)) fun r564=>(.ask (zAx (⟨(.c (.p (.s r564))),[],[]⟩:Res)) (.ask (decide ((r563++(⟨#[40]⟩:BA)).size+r564.size≤9223372036854775807)) (.ask (decide (((r563++(⟨#[40]⟩:BA))++r564).size+(⟨#[41]⟩:BA).size≤9223372036854775807)) (.done (((r563++(⟨#[40]⟩:BA))++r564)++(⟨#[41]⟩:BA))) .fail) .fail) .fail)) .fail) .fail)))))))))))))))))))))) .fail)) .fail)
def qY:Nat→RW→Int→Int→Option (BA)
 |0,_,_,_=>none
 |n+1,x0,x1,x2=>(qAT (qY n) n x0 x1 x2).run
abbrev qFc (n:Nat) (ih:Ok (Rn n) qDm (qY n)):List (Ent (Rn n)):= [en (qHg n),en (qFs n),en (qFt n),en ih,en (qIw n),en (qHu n),en (qHt n),en (qLo n)]
def qG8 (n:Nat) (ih:Ok (Rn n) qDm (qY n)):LEnt (KB 47) (Rn n) n:=lok (zW 47) 125 ⟨⟨[(0,aL),(7,(.c (.ptr 0 448 0 0 0))),(10,(.c (.own 0 5760 0 0))),(92,aL),(93,aI),(94,aI)],[(448,⟨0,14,64,(.box [qI,qI,qI,qI,qS,qI,qI,qB,qB,qI,qI,qB,qB,qL])⟩),(5760,⟨0,1,9,(.row [])⟩)],[]⟩,[(.exit 1,⟨[(7,(.c (.ptr 0 448 0 0 0))),(10,(.c (.own 0 5760 0 0)))],[(448,⟨0,14,64,(.box [qI,qI,qI,qI,qS,qI,qI,qB,qB,qI,qI,qB,qB,qL])⟩),(5760,⟨0,1,9,(.row [])⟩)],[]⟩)]⟩ (qBM (qY n) n) (qFc n ih) [] fun _=>(by kernel_rfl)
theorem qDX:∀n,Ok (Rn n) qDm (qY n)
 |0=>ok0 fun _=>rfl
 |n+1=>stO (T:=qAT (qY n) n) (by kernel_rfl) (qFc n (qDX n)) [qG8 n (qDX n)] (fun _=>(by kernel_rfl)) fun _=>(by kernel_rfl)
def qJS:Sg:=⟨17,[aL],[],⟨aS,[],[]⟩⟩
def qCu (n:Nat) (x0:RW):Tr (BA):=(.opt (qBF n x0) fun r527=>(.ask ((!r527)) (.done (⟨#[]⟩:BA)) (.opt (qY n x0 (IntKind.i64.wrap ((x0.length:Int)-(1:Int))) (1:Int)) fun r565=>(.ask ((decide ((r565.size:Int)>(200:Int)))) (.done (⟨#[]⟩:BA)) (.done r565)))))
def qBY:Nat→RW→Option (BA)
 |0,_=>none
 |n+1,x0=>(qCu n x0).run
abbrev qJT (n:Nat):List (Ent (Rn n)):= [en (qD5 n),en (qDX n)]
theorem qIr:∀n,Ok (Rn n) qJS (qBY n)
 |0=>ok0 fun _=>rfl
 |n+1=>stO (T:=qCu n) (by kernel_rfl) (qJT n) [] (fun _=>(by kernel_rfl)) fun _=>(by kernel_rfl)
def qH7:Sg:=⟨4,[aL],[],⟨aB,[],[]⟩⟩
def qDC (n:Nat) (x0:RW):Tr (Bool):=(.opt (qGq n x0) fun r1=>(.ask (r1) (.done true) (.opt (qCp n x0) fun r123=>(.opt (qCs n r123) fun r333=>(.opt (qDl n r123) fun r488=>(.ask ((!(r333.2==r488.2))) (.ask ((r333.2==r488.2)) (.opt (qBG n r333.1 r488.1) fun r523=>(.done r523)) (.done false)) (.opt (qBG n r333.1 r488.1) fun r524=>(.ask ((!r524)) (.ask ((r333.2==r488.2)) (.opt (qBG n r333.1 r488.1) fun r525=>(.done r525)) (.done false)) (.ask ((!r333.2)) (.ask ((r333.2==r488.2)) (.opt (qBG n r333.1 r488.1) fun r526=>(.done r526)) (.done false)) (.opt (qBY n r333.1) fun r566=>(.opt (qCs n r566) fun r567=>(.opt (qBF n r333.1) fun r568=>(.ask (r568) (.ask ((r566.toList==(⟨#[]⟩:BA).toList)) (.done true) (.ask (r567.2) (.opt (qBG n r567.1 r333.1) fun r569=>(.done r569)) (.done false))) (.done false))))))))))))))
def qDD:Nat→RW→Option (Bool)
 |0,_=>none
 |n+1,x0=>(qDC n x0).run
abbrev qH8 (n:Nat):List (Ent (Rn n)):= [en (qN9 n),en (qGT n),en (qIj n),en (qIp n),en (qJy n),en (qIr n),en (qD5 n)]
theorem qHh:∀n,Ok (Rn n) qH7 (qDD n)
 |0=>ok0 fun _=>rfl
 |n+1=>stO (T:=qDC n) (by kernel_rfl) (qH8 n) [] (fun _=>(by kernel_rfl)) fun _=>(by kernel_rfl)
end
end Go.Proofs.YthhngmnbcmkhpaaGreatDoor.KFnReadFormula

