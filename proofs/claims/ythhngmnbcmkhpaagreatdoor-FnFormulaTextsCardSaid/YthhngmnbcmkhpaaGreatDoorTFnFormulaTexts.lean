import Derived.Test.YthhngmnbcmkhpaaGreatDoorKFnFormulaTexts
namespace Go.Proofs.YthhngmnbcmkhpaaGreatDoor.KFnFormulaTexts
open Go.Eng
set_option linter.unusedVariables false
set_option maxRecDepth 100000
noncomputable section
abbrev RW:=List (List PV)
abbrev BA:=ByteArray
def qPN:Sg:=⟨14,[aL],[],⟨aB,[],[]⟩⟩
def qJa (n:Nat) (x0:RW):Tr (Bool):=(.done (decide ((x0.length:Int)>(1048576:Int))))
def qHD:Nat→RW→Option (Bool)
 |0,_=>none
 |n+1,x0=>(qJa n x0).run
theorem qOk:∀n,Ok (Rn n) qPN (qHD n)
 |0=>ok0 fun _=>rfl
 |n+1=>stO (T:=qJa n) (by kernel_rfl) [] [] (fun _=>(by kernel_rfl)) fun _=>(by kernel_rfl)
def qNO:Sg:=⟨42,[aL],[],⟨(.c (.ptr 0 0 0 0 0)),[],[⟨0,2,112,(.box [qL,qI])⟩]⟩⟩
def qGN (n:Nat) (x0:RW):Tr (RW×Int):=(.done (x0,(0:Int)))
def qEn:Nat→RW→Option (RW×Int)
 |0,_=>none
 |n+1,x0=>(qGN n x0).run
theorem qMW:∀n,Ok (Rn n) qNO (qEn n)
 |0=>ok0 fun _=>rfl
 |n+1=>stO (T:=qGN n) (by kernel_rfl) [] [] (fun _=>(by kernel_rfl)) fun _=>(by kernel_rfl)
def qK2:Sg:=⟨99,[(.c (.ptr 0 0 0 0 0))],[[(0,⟨0,2,112,(.box [qL,qI])⟩)]],⟨aI,[[(0,⟨0,2,112,(.box [qL,qI])⟩)]],[]⟩⟩
def qDQ (n:Nat) (x0:RW) (x1:Int):Tr (Int×RW×Int):=(.ask ((decide (x1≥(x0.length:Int)))) (.done ((0:Int),x0,x1)) (.ask (decide (0≤(IntKind.i64.wrap ((IntKind.i64.wrap (x1+(1:Int)))-(1:Int)))∧(IntKind.i64.wrap ((IntKind.i64.wrap (x1+(1:Int)))-(1:Int)))<x0.length)) (.opt (x0[((IntKind.i64.wrap ((IntKind.i64.wrap (x1+(1:Int)))-(1:Int)))).toNat]?) fun e3=>(.ask (decide (e3.length=1)) (.opt (zE .u8 e3 0) fun y4=>(.done ((IntKind.i64.wrap y4),x0,(IntKind.i64.wrap (x1+(1:Int)))))) .fail)) .fail))
def qBH:Nat→RW→Int→Option (Int×RW×Int)
 |0,_,_=>none
 |n+1,x0,x1=>(qDQ n x0 x1).run
theorem qF7:∀n,Ok (Rn n) qK2 (qBH n)
 |0=>ok0 fun _=>rfl
 |n+1=>stO (T:=qDQ n) (by kernel_rfl) [] [] (fun _=>(by kernel_rfl)) fun _=>(by kernel_rfl)
def qJ8:Sg:=⟨44,[(.c (.ptr 0 0 0 0 0)),aI],[[(0,⟨0,2,112,(.box [qL,qI])⟩)]],⟨aI,[[(0,⟨0,2,112,(.box [qL,qI])⟩)]],[]⟩⟩
def qCJ (n:Nat) (x0:Int) (x1:RW) (x2:Int):Tr (Int×RW×Int):=(.ask ((decide (x0≤(1:Int)))) (.done ((0:Int),x1,x2)) (.ask ((decide (x0≤(256:Int)))) (.opt (qBH n x1 x2) fun r5=>(.ask (decide (x0=0)) .fail (.done ((Int.tmod r5.1 x0),r5.2.1,r5.2.2)))) (.opt (qBH n x1 x2) fun r6=>(.opt (qBH n r6.2.1 r6.2.2) fun r7=>(.ask (decide (x0=0)) .fail (.done ((Int.tmod (IntKind.i64.wrap ((IntKind.i64.wrap (r6.1*(256:Int)))+r7.1)) x0),r7.2.1,r7.2.2)))))))
def qT:Nat→Int→RW→Int→Option (Int×RW×Int)
 |0,_,_,_=>none
 |n+1,x0,x1,x2=>(qCJ n x0 x1 x2).run
abbrev qJ9 (n:Nat):List (Ent (Rn n)):= [en (qF7 n)]
theorem qBY:∀n,Ok (Rn n) qJ8 (qT n)
 |0=>ok0 fun _=>rfl
 |n+1=>stO (T:=qCJ n) (by kernel_rfl) (qJ9 n) [] (fun _=>(by kernel_rfl)) fun _=>(by kernel_rfl)
def qL3:Sg:=⟨95,[(.c (.ptr 0 0 0 0 0))],[[(0,⟨0,2,112,(.box [qL,qI])⟩)]],⟨(.agg [qI,qI]),[[(0,⟨0,2,112,(.box [qL,qI])⟩)]],[]⟩⟩
def qE8 (n:Nat) (x0:RW) (x1:Int):Tr (Int×Int×RW×Int):=(.opt (qT n (3:Int) x0 x1) fun r9=>(.opt (qT n (4:Int) r9.2.1 r9.2.2) fun r10=>(.done ((IntKind.i64.wrap ((1:Int)+r9.1)),(IntKind.i64.wrap ((1:Int)+r10.1)),r10.2.1,r10.2.2))))
def qAG:Nat→RW→Int→Option (Int×Int×RW×Int)
 |0,_,_=>none
 |n+1,x0,x1=>(qE8 n x0 x1).run
abbrev qL4 (n:Nat):List (Ent (Rn n)):= [en (qBY n)]
theorem qEb:∀n,Ok (Rn n) qL3 (qAG n)
 |0=>ok0 fun _=>rfl
 |n+1=>stO (T:=qE8 n) (by kernel_rfl) (qL4 n) [] (fun _=>(by kernel_rfl)) fun _=>(by kernel_rfl)
def qK3:Sg:=⟨67,[(.c (.ptr 0 0 0 0 0)),aI],[[(0,⟨0,2,112,(.box [qL,qI])⟩)]],⟨aB,[[(0,⟨0,2,112,(.box [qL,qI])⟩)]],[]⟩⟩
def qEc (n:Nat) (x0:Int) (x1:RW) (x2:Int):Tr (Bool×RW×Int):=(.opt (qT n x0 x1 x2) fun r12=>(.done ((r12.1==(IntKind.i64.wrap (x0-(1:Int)))),r12.2.1,r12.2.2)))
def qY:Nat→Int→RW→Int→Option (Bool×RW×Int)
 |0,_,_,_=>none
 |n+1,x0,x1,x2=>(qEc n x0 x1 x2).run
abbrev qK4 (n:Nat):List (Ent (Rn n)):= [en (qBY n)]
theorem qCK:∀n,Ok (Rn n) qK3 (qY n)
 |0=>ok0 fun _=>rfl
 |n+1=>stO (T:=qEc n) (by kernel_rfl) (qK4 n) [] (fun _=>(by kernel_rfl)) fun _=>(by kernel_rfl)
def qOl:Sg:=⟨53,[aI,aI,aI],[],⟨aB,[],[]⟩⟩
def qF8 (n:Nat) (x0 x1 x2:Int):Tr (Bool):=(.ask ((decide (x0≥x1))) (.done (decide (x0≤x2))) (.done false))
def qBI:Nat→Int→Int→Int→Option (Bool)
 |0,_,_,_=>none
 |n+1,x0,x1,x2=>(qF8 n x0 x1 x2).run
theorem qD8:∀n,Ok (Rn n) qOl (qBI n)
 |0=>ok0 fun _=>rfl
 |n+1=>stO (T:=qF8 n) (by kernel_rfl) [] [] (fun _=>(by kernel_rfl)) fun _=>(by kernel_rfl)
def qOC:Sg:=⟨74,[(.agg [qI,qI])],[],⟨aB,[],[]⟩⟩
def qHE (n:Nat) (x0 x1:Int):Tr (Bool):=(.opt (qBI n x0 (1:Int) (52:Int)) fun r15=>(.ask (r15) (.opt (qBI n x1 (1:Int) (99:Int)) fun r16=>(.done r16)) (.done false)))
def qAa:Nat→Int→Int→Option (Bool)
 |0,_,_=>none
 |n+1,x0,x1=>(qHE n x0 x1).run
abbrev qOD (n:Nat):List (Ent (Rn n)):= [en (qD8 n)]
theorem qEo:∀n,Ok (Rn n) qOC (qAa n)
 |0=>ok0 fun _=>rfl
 |n+1=>stO (T:=qHE n) (by kernel_rfl) (qOD n) [] (fun _=>(by kernel_rfl)) fun _=>(by kernel_rfl)
def qMX:Sg:=⟨139,[aI],[],⟨aS,[],[]⟩⟩
def qBO (n:Nat) (v:Int×BA):Tr ((Int×BA)⊕((BA))):=(.ask ((decide (v.1>(0:Int)))) (.ask (decide (1=([[(.i .u8 (IntKind.u8.wrap (IntKind.i64.wrap ((65:Int)+(Int.tmod (IntKind.i64.wrap (v.1-(1:Int))) (26:Int))))))]]:RW).length)) (.opt (bytesOf ([[(.i .u8 (IntKind.u8.wrap (IntKind.i64.wrap ((65:Int)+(Int.tmod (IntKind.i64.wrap (v.1-(1:Int))) (26:Int))))))]]:RW)) fun l19=>(.ask (decide ((⟨l19.toArray⟩:BA).size+v.2.size≤9223372036854775807)) (.done (.inl ((IntKind.i64.wrap (Int.tdiv (IntKind.i64.wrap (v.1-(1:Int))) (26:Int))),((⟨l19.toArray⟩:BA)++v.2)))) .fail)) .fail) (.done (.inr (v.2))))
def qD9 (n:Nat) (x0:Int):Tr (BA):=(.opt (qBI n x0 (1:Int) (52:Int)) fun r18=>(.ask ((!r18)) (.done (⟨#[]⟩:BA)) (.opt (zD (qBO n) n (x0,(⟨#[]⟩:BA))) fun r20=>(.done r20))))
def qCi:Nat→Int→Option (BA)
 |0,_=>none
 |n+1,x0=>(qD9 n x0).run
abbrev qIB (n:Nat):List (Ent (Rn n)):= [en (qD8 n)]
def qKA (n:Nat):LEnt (KB 139) (Rn n) n:=lok (zU 139) 30 ⟨⟨[(0,aI),(3,aS)],[],[]⟩,[(.exit 0,⟨[(3,aS)],[],[]⟩)]⟩ (qBO n) (qIB n) [] fun _=>(by kernel_rfl)
theorem qHg:∀n,Ok (Rn n) qMX (qCi n)
 |0=>ok0 fun _=>rfl
 |n+1=>stO (T:=qD9 n) (by kernel_rfl) (qIB n) [qKA n] (fun _=>(by kernel_rfl)) fun _=>(by kernel_rfl)
def qHF:Sg:=⟨96,[aI],[],⟨aS,[],[]⟩⟩
def qC5 (n:Nat) (v:Int×BA):Tr ((Int×BA)⊕((Int×BA))):=(.ask ((decide (v.1≥(10:Int)))) (.ask (decide (1=([[(.i .u8 (IntKind.u8.wrap (IntKind.i64.wrap ((48:Int)+(Int.tmod v.1 (10:Int))))))]]:RW).length)) (.opt (bytesOf ([[(.i .u8 (IntKind.u8.wrap (IntKind.i64.wrap ((48:Int)+(Int.tmod v.1 (10:Int))))))]]:RW)) fun l23=>(.ask (decide ((⟨l23.toArray⟩:BA).size+v.2.size≤9223372036854775807)) (.done (.inl ((IntKind.i64.wrap (Int.tdiv v.1 (10:Int))),((⟨l23.toArray⟩:BA)++v.2)))) .fail)) .fail) (.done (.inr ((v.1,v.2)))))
def qFP (rec:Int→Option (BA)) (n:Nat) (x0:Int):Tr (BA):=(.ask ((decide (x0<(0:Int)))) (.opt (rec (IntKind.i64.wrap (0-x0))) fun r22=>(.ask (decide ((⟨#[45]⟩:BA).size+r22.size≤9223372036854775807)) (.done ((⟨#[45]⟩:BA)++r22)) .fail)) (.opt (zD (qC5 n) n (x0,(⟨#[]⟩:BA))) fun r24=>(.ask (decide (1=([[(.i .u8 (IntKind.u8.wrap (IntKind.i64.wrap ((48:Int)+r24.1))))]]:RW).length)) (.opt (bytesOf ([[(.i .u8 (IntKind.u8.wrap (IntKind.i64.wrap ((48:Int)+r24.1))))]]:RW)) fun l25=>(.ask (decide ((⟨l25.toArray⟩:BA).size+r24.2.size≤9223372036854775807)) (.done ((⟨l25.toArray⟩:BA)++r24.2)) .fail)) .fail)))
def qAJ:Nat→Int→Option (BA)
 |0,_=>none
 |n+1,x0=>(qFP (qAJ n) n x0).run
abbrev qKB (n:Nat) (ih:Ok (Rn n) qHF (qAJ n)):List (Ent (Rn n)):= [en ih]
def qL5 (n:Nat) (ih:Ok (Rn n) qHF (qAJ n)):LEnt (KB 96) (Rn n) n:=lok (zU 96) 30 ⟨⟨[(0,aI),(3,aS)],[],[]⟩,[(.exit 0,⟨[(0,aI),(3,aS)],[],[]⟩)]⟩ (qC5 n) (qKB n ih) [] fun _=>(by kernel_rfl)
theorem qDk:∀n,Ok (Rn n) qHF (qAJ n)
 |0=>ok0 fun _=>rfl
 |n+1=>stO (T:=qFP (qAJ n) n) (by kernel_rfl) (qKB n (qDk n)) [qL5 n (qDk n)] (fun _=>(by kernel_rfl)) fun _=>(by kernel_rfl)
def qK5:Sg:=⟨94,[(.agg [qI,qI,qB,qB])],[],⟨aS,[],[]⟩⟩
def qDR (n:Nat) (x0 x1:Int) (x2 x3:Bool):Tr (BA):=(.opt (qAa n x0 x1) fun r17=>(.ask ((!r17)) (.done (⟨#[]⟩:BA)) (.opt (qCi n x0) fun r21=>(.ask (x2) (.ask (decide ((⟨#[36]⟩:BA).size+r21.size≤9223372036854775807)) (.ask (x3) (.ask (decide (((⟨#[36]⟩:BA)++r21).size+(⟨#[36]⟩:BA).size≤9223372036854775807)) (.opt (qAJ n x1) fun r26=>(.ask (decide ((((⟨#[36]⟩:BA)++r21)++(⟨#[36]⟩:BA)).size+r26.size≤9223372036854775807)) (.done ((((⟨#[36]⟩:BA)++r21)++(⟨#[36]⟩:BA))++r26)) .fail)) .fail) (.opt (qAJ n x1) fun r27=>(.ask (decide (((⟨#[36]⟩:BA)++r21).size+r27.size≤9223372036854775807)) (.done (((⟨#[36]⟩:BA)++r21)++r27)) .fail))) .fail) (.ask (x3) (.ask (decide (r21.size+(⟨#[36]⟩:BA).size≤9223372036854775807)) (.opt (qAJ n x1) fun r28=>(.ask (decide ((r21++(⟨#[36]⟩:BA)).size+r28.size≤9223372036854775807)) (.done ((r21++(⟨#[36]⟩:BA))++r28)) .fail)) .fail) (.opt (qAJ n x1) fun r29=>(.ask (decide (r21.size+r29.size≤9223372036854775807)) (.done (r21++r29)) .fail)))))))
def qd:Nat→Int→Int→Bool→Bool→Option (BA)
 |0,_,_,_,_=>none
 |n+1,x0,x1,x2,x3=>(qDR n x0 x1 x2 x3).run
abbrev qK6 (n:Nat):List (Ent (Rn n)):= [en (qEo n),en (qHg n),en (qDk n)]
theorem qF9:∀n,Ok (Rn n) qK5 (qd n)
 |0=>ok0 fun _=>rfl
 |n+1=>stO (T:=qDR n) (by kernel_rfl) (qK6 n) [] (fun _=>(by kernel_rfl)) fun _=>(by kernel_rfl)
def qK7:Sg:=⟨175,[(.c (.ptr 0 0 0 0 0))],[[(0,⟨0,2,112,(.box [qL,qI])⟩)]],⟨(.c (.p (.i .u64 0))),[[(0,⟨0,2,112,(.box [qL,qI])⟩)]],[]⟩⟩
def qBt (n:Nat) (v:Int×Int×RW×Int):Tr ((Int×Int×RW×Int)⊕((Int×RW×Int))):=(.ask ((decide (v.2.1<(8:Int)))) (.opt (qBH n v.2.2.1 v.2.2.2) fun r74=>(.done (.inl ((IntKind.u64.wrap ((BitVec.ofInt IntKind.u64.bits (IntKind.u64.wrap (v.1*(2:Int)^(8:Nat)))|||BitVec.ofInt IntKind.u64.bits (IntKind.u64.wrap r74.1)).toNat:Int)),(IntKind.i64.wrap (v.2.1+(1:Int))),r74.2.1,r74.2.2)))) (.done (.inr ((v.1,v.2.2.1,v.2.2.2)))))
def qEd (n:Nat) (x0:RW) (x1:Int):Tr (Int×RW×Int):=(.opt (zD (qBt n) n ((0:Int),(0:Int),x0,x1)) fun r75=>(.done (r75.1,r75.2.1,r75.2.2)))
def qDS:Nat→RW→Int→Option (Int×RW×Int)
 |0,_,_=>none
 |n+1,x0,x1=>(qEd n x0 x1).run
abbrev qGo (n:Nat):List (Ent (Rn n)):= [en (qF7 n)]
def qIy (n:Nat):LEnt (KB 175) (Rn n) n:=lok (zU 175) 29 ⟨⟨[(0,(.c (.ptr 0 0 0 0 0))),(3,(.c (.p (.i .u64 0)))),(4,aI)],[],[[(0,⟨0,2,112,(.box [qL,qI])⟩)]]⟩,[(.exit 0,⟨[(3,(.c (.p (.i .u64 0))))],[],[[(0,⟨0,2,112,(.box [qL,qI])⟩)]]⟩)]⟩ (qBt n) (qGo n) [] fun _=>(by kernel_rfl)
theorem qKC:∀n,Ok (Rn n) qK7 (qDS n)
 |0=>ok0 fun _=>rfl
 |n+1=>stO (T:=qEd n) (by kernel_rfl) (qGo n) [qIy n] (fun _=>(by kernel_rfl)) fun _=>(by kernel_rfl)
def qK8:Sg:=⟨147,[(.c (.ptr 0 0 0 0 0)),aI,aI],[[(0,⟨0,2,112,(.box [qL,qI])⟩)]],⟨aI,[[(0,⟨0,2,112,(.box [qL,qI])⟩)]],[]⟩⟩
def qCj (n:Nat) (x0 x1:Int) (x2:RW) (x3:Int):Tr (Int×RW×Int):=(.opt (qT n (8:Int) x2 x3) fun r73=>(.ask ((r73.1==(0:Int))) (.done (x0,r73.2.1,r73.2.2)) (.ask ((r73.1==(1:Int))) (.done (x1,r73.2.1,r73.2.2)) (.ask ((decide (x1<x0))) (.done (x0,r73.2.1,r73.2.2)) (.opt (qDS n r73.2.1 r73.2.2) fun r76=>(.ask (decide ((IntKind.u64.wrap (IntKind.i64.wrap ((IntKind.i64.wrap (x1-x0))+(1:Int))))=0)) .fail (.done ((IntKind.i64.wrap (x0+(IntKind.i64.wrap (Int.tmod (Int.fdiv r76.1 ((2:Int)^(1:Nat))) (IntKind.u64.wrap (IntKind.i64.wrap ((IntKind.i64.wrap (x1-x0))+(1:Int)))))))),r76.2.1,r76.2.2))))))))
def qB3:Nat→Int→Int→RW→Int→Option (Int×RW×Int)
 |0,_,_,_,_=>none
 |n+1,x0,x1,x2,x3=>(qCj n x0 x1 x2 x3).run
abbrev qK9 (n:Nat):List (Ent (Rn n)):= [en (qBY n),en (qKC n)]
theorem qKD:∀n,Ok (Rn n) qK8 (qB3 n)
 |0=>ok0 fun _=>rfl
 |n+1=>stO (T:=qCj n) (by kernel_rfl) (qK9 n) [] (fun _=>(by kernel_rfl)) fun _=>(by kernel_rfl)
def qL6:Sg:=⟨106,[(.c (.ptr 0 0 0 0 0)),aI,aI],[[(0,⟨0,2,112,(.box [qL,qI])⟩)]],⟨aI,[[(0,⟨0,2,112,(.box [qL,qI])⟩)]],[]⟩⟩
def qBr (n:Nat) (x0 x1:Int) (x2:RW) (x3:Int):Tr (Int×RW×Int):=(.opt (qY n (24:Int) x2 x3) fun r69=>(.ask (r69.1) (.opt (qT n (4:Int) r69.2.1 r69.2.2) fun r70=>(.ask (decide (4=([[(.i .i64 (IntKind.i64.wrap (x0-(1:Int))))],[(.i .i64 (IntKind.i64.wrap (x1+(1:Int))))],[(.i .i64 (-9223372036854775808:Int))],[(.i .i64 (9223372036854775807:Int))]]:RW).length∧0≤r70.1∧r70.1<((4:Nat):Int))) (.opt (([[(.i .i64 (IntKind.i64.wrap (x0-(1:Int))))],[(.i .i64 (IntKind.i64.wrap (x1+(1:Int))))],[(.i .i64 (-9223372036854775808:Int))],[(.i .i64 (9223372036854775807:Int))]]:RW)[(r70.1).toNat]?) fun e71=>(.opt (zE .i64 e71 0) fun y72=>(.done (y72,r70.2.1,r70.2.2)))) .fail)) (.opt (qB3 n x0 x1 r69.2.1 r69.2.2) fun r77=>(.done (r77.1,r77.2.1,r77.2.2)))))
def qAc:Nat→Int→Int→RW→Int→Option (Int×RW×Int)
 |0,_,_,_,_=>none
 |n+1,x0,x1,x2,x3=>(qBr n x0 x1 x2 x3).run
abbrev qL7 (n:Nat):List (Ent (Rn n)):= [en (qCK n),en (qBY n),en (qKD n)]
theorem qEe:∀n,Ok (Rn n) qL6 (qAc n)
 |0=>ok0 fun _=>rfl
 |n+1=>stO (T:=qBr n) (by kernel_rfl) (qL7 n) [] (fun _=>(by kernel_rfl)) fun _=>(by kernel_rfl)
def qLA:Sg:=⟨97,[(.c (.ptr 0 0 0 0 0))],[[(0,⟨0,2,112,(.box [qL,qI])⟩)]],⟨(.agg [qI,qI,qI,qI]),[[(0,⟨0,2,112,(.box [qL,qI])⟩)]],[]⟩⟩
def qDT (n:Nat) (x0:RW) (x1:Int):Tr (Int×Int×Int×Int×RW×Int):=(.opt (qAG n x0 x1) fun r66=>(.opt (qAG n r66.2.2.1 r66.2.2.2) fun r67=>(.opt (qY n (20:Int) r67.2.2.1 r67.2.2.2) fun r68=>(.ask (r68.1) (.opt (qAc n (1:Int) (99:Int) r68.2.1 r68.2.2) fun r78=>(.done ((if r67.1<r66.1 then r67.1 else r66.1),(if r67.2.1<r66.2.1 then r67.2.1 else r66.2.1),(if r67.1>r66.1 then r67.1 else r66.1),r78.1,r78.2.1,r78.2.2))) (.done ((if r67.1<r66.1 then r67.1 else r66.1),(if r67.2.1<r66.2.1 then r67.2.1 else r66.2.1),(if r67.1>r66.1 then r67.1 else r66.1),(if r67.2.1>r66.2.1 then r67.2.1 else r66.2.1),r68.2.1,r68.2.2))))))
def qB4:Nat→RW→Int→Option (Int×Int×Int×Int×RW×Int)
 |0,_,_=>none
 |n+1,x0,x1=>(qDT n x0 x1).run
abbrev qLB (n:Nat):List (Ent (Rn n)):= [en (qEb n),en (qCK n),en (qEe n)]
theorem qKE:∀n,Ok (Rn n) qLA (qB4 n)
 |0=>ok0 fun _=>rfl
 |n+1=>stO (T:=qDT n) (by kernel_rfl) (qLB n) [] (fun _=>(by kernel_rfl)) fun _=>(by kernel_rfl)
def qNP:Sg:=⟨98,[aI],[],⟨aS,[],[]⟩⟩
def qGO (n:Nat) (x0:Int):Tr (BA):=(.ask (decide (12=([[(.s (⟨#[]⟩:BA))],[(.s (⟨#[43]⟩:BA))],[(.s (⟨#[45]⟩:BA))],[(.s (⟨#[42]⟩:BA))],[(.s (⟨#[47]⟩:BA))],[(.s (⟨#[38]⟩:BA))],[(.s (⟨#[61]⟩:BA))],[(.s (⟨#[60,62]⟩:BA))],[(.s (⟨#[60]⟩:BA))],[(.s (⟨#[60,61]⟩:BA))],[(.s (⟨#[62]⟩:BA))],[(.s (⟨#[62,61]⟩:BA))]]:RW).length∧0≤x0∧x0<((12:Nat):Int))) (.opt (([[(.s (⟨#[]⟩:BA))],[(.s (⟨#[43]⟩:BA))],[(.s (⟨#[45]⟩:BA))],[(.s (⟨#[42]⟩:BA))],[(.s (⟨#[47]⟩:BA))],[(.s (⟨#[38]⟩:BA))],[(.s (⟨#[61]⟩:BA))],[(.s (⟨#[60,62]⟩:BA))],[(.s (⟨#[60]⟩:BA))],[(.s (⟨#[60,61]⟩:BA))],[(.s (⟨#[62]⟩:BA))],[(.s (⟨#[62,61]⟩:BA))]]:RW)[(x0).toNat]?) fun e102=>(.opt (zu e102 0) fun y103=>(.done y103))) .fail)
def qBz:Nat→Int→Option (BA)
 |0,_=>none
 |n+1,x0=>(qGO n x0).run
theorem qFU:∀n,Ok (Rn n) qNP (qBz n)
 |0=>ok0 fun _=>rfl
 |n+1=>stO (T:=qGO n) (by kernel_rfl) [] [] (fun _=>(by kernel_rfl)) fun _=>(by kernel_rfl)
def qGA:Sg:=⟨43,[(.c (.ptr 0 0 0 0 0)),aI],[[(0,⟨0,2,112,(.box [qL,qI])⟩)]],⟨aS,[[(0,⟨0,2,112,(.box [qL,qI])⟩)]],[]⟩⟩
def qCL (rec:Int→RW→Int→Option (BA×RW×Int)) (n:Nat) (x0:Int) (x1:RW) (x2:Int):Tr (BA×RW×Int):=(.ask ((x0==(0:Int))) (.opt (qT n (7:Int) x1 x2) fun r8=>(.ask ((r8.1==(0:Int))) (.opt (qAG n r8.2.1 r8.2.2) fun r11=>(.opt (qY n (5:Int) r11.2.2.1 r11.2.2.2) fun r13=>(.opt (qY n (5:Int) r13.2.1 r13.2.2) fun r14=>(.opt (qd n r11.1 r11.2.1 r13.1 r14.1) fun r30=>(.done (r30,r14.2.1,r14.2.2)))))) (.ask ((r8.1==(1:Int))) (.opt (qAG n r8.2.1 r8.2.2) fun r31=>(.opt (qY n (5:Int) r31.2.2.1 r31.2.2.2) fun r32=>(.opt (qY n (5:Int) r32.2.1 r32.2.2) fun r33=>(.opt (qd n r31.1 r31.2.1 r32.1 r33.1) fun r34=>(.done (r34,r33.2.1,r33.2.2)))))) (.ask ((r8.1==(2:Int))) (.opt (qAG n r8.2.1 r8.2.2) fun r35=>(.opt (qY n (5:Int) r35.2.2.1 r35.2.2.2) fun r36=>(.opt (qY n (5:Int) r36.2.1 r36.2.2) fun r37=>(.opt (qd n r35.1 r35.2.1 r36.1 r37.1) fun r38=>(.done (r38,r37.2.1,r37.2.2)))))) (.ask ((r8.1==(3:Int))) (.opt (qT n (6:Int) r8.2.1 r8.2.2) fun r39=>(.ask (decide (6=([[(.s (⟨#[34,97,34]⟩:BA))],[(.s (⟨#[34,34]⟩:BA))],[(.s (⟨#[84,82,85,69]⟩:BA))],[(.s (⟨#[70,65,76,83,69]⟩:BA))],[(.s (⟨#[35,82,69,70,33]⟩:BA))],[(.s (⟨#[34,113,34,34,34]⟩:BA))]]:RW).length∧0≤r39.1∧r39.1<((6:Nat):Int))) (.opt (([[(.s (⟨#[34,97,34]⟩:BA))],[(.s (⟨#[34,34]⟩:BA))],[(.s (⟨#[84,82,85,69]⟩:BA))],[(.s (⟨#[70,65,76,83,69]⟩:BA))],[(.s (⟨#[35,82,69,70,33]⟩:BA))],[(.s (⟨#[34,113,34,34,34]⟩:BA))]]:RW)[(r39.1).toNat]?) fun e40=>(.opt (zu e40 0) fun y41=>(.done (y41,r39.2.1,r39.2.2)))) .fail)) (.opt (qT n (12:Int) r8.2.1 r8.2.2) fun r42=>(.opt (qAJ n r42.1) fun r43=>(.done (r43,r42.2.1,r42.2.2))))))))) (.opt (qY n (3:Int) x1 x2) fun r44=>(.ask (r44.1) (.opt (qT n (7:Int) r44.2.1 r44.2.2) fun r45=>(.ask ((r45.1==(0:Int))) (.opt (qAG n r45.2.1 r45.2.2) fun r46=>(.opt (qY n (5:Int) r46.2.2.1 r46.2.2.2) fun r47=>(.opt (qY n (5:Int) r47.2.1 r47.2.2) fun r48=>(.opt (qd n r46.1 r46.2.1 r47.1 r48.1) fun r49=>(.done (r49,r48.2.1,r48.2.2)))))) (.ask ((r45.1==(1:Int))) (.opt (qAG n r45.2.1 r45.2.2) fun r50=>(.opt (qY n (5:Int) r50.2.2.1 r50.2.2.2) fun r51=>(.opt (qY n (5:Int) r51.2.1 r51.2.2) fun r52=>(.opt (qd n r50.1 r50.2.1 r51.1 r52.1) fun r53=>(.done (r53,r52.2.1,r52.2.2)))))) (.ask ((r45.1==(2:Int))) (.opt (qAG n r45.2.1 r45.2.2) fun r54=>(.opt (qY n (5:Int) r54.2.2.1 r54.2.2.2) fun r55=>(.opt (qY n (5:Int) r55.2.1 r55.2.2) fun r56=>(.opt (qd n r54.1 r54.2.1 r55.1 r56.1) fun r57=>(.done (r57,r56.2.1,r56.2.2)))))) (.ask ((r45.1==(3:Int))) (.opt (qT n (6:Int) r45.2.1 r45.2.2) fun r58=>(.ask (decide (6=([[(.s (⟨#[34,97,34]⟩:BA))],[(.s (⟨#[34,34]⟩:BA))],[(.s (⟨#[84,82,85,69]⟩:BA))],[(.s (⟨#[70,65,76,83,69]⟩:BA))],[(.s (⟨#[35,82,69,70,33]⟩:BA))],[(.s (⟨#[34,113,34,34,34]⟩:BA))]]:RW).length∧0≤r58.1∧r58.1<((6:Nat):Int))) (.opt (([[(.s (⟨#[34,97,34]⟩:BA))],[(.s (⟨#[34,34]⟩:BA))],[(.s (⟨#[84,82,85,69]⟩:BA))],[(.s (⟨#[70,65,76,83,69]⟩:BA))],[(.s (⟨#[35,82,69,70,33]⟩:BA))],[(.s (⟨#[34,113,34,34,34]⟩:BA))]]:RW)[(r58.1).toNat]?) fun e59=>(.opt (zu e59 0) fun y60=>(.done (y60,r58.2.1,r58.2.2)))) .fail)) (.opt (qT n (12:Int) r45.2.1 r45.2.2) fun r61=>(.opt (qAJ n r61.1) fun r62=>(.done (r62,r61.2.1,r61.2.2))))))))) (.opt (qT n (8:Int) r44.2.1 r44.2.2) fun r63=>(.ask ((r63.1==(0:Int))) (.opt (rec (IntKind.i64.wrap (x0-(1:Int))) r63.2.1 r63.2.2) fun r64=>(.ask (decide ((⟨#[45]⟩:BA).size+r64.1.size≤9223372036854775807)) (.done (((⟨#[45]⟩:BA)++r64.1),r64.2.1,r64.2.2)) .fail)) (.ask ((r63.1==(1:Int))) (.opt (rec (IntKind.i64.wrap (x0-(1:Int))) r63.2.1 r63.2.2) fun r65=>(.ask (decide ((⟨#[40]⟩:BA).size+r65.1.size≤9223372036854775807)) (.ask (decide (((⟨#[40]⟩:BA)++r65.1).size+(⟨#[41]⟩:BA).size≤9223372036854775807)) (.done ((((⟨#[40]⟩:BA)++r65.1)++(⟨#[41]⟩:BA)),r65.2.1,r65.2.2)) .fail) .fail)) (.ask ((r63.1==(2:Int))) (.opt (qB4 n r63.2.1 r63.2.2) fun r79=>(.opt (qT n (6:Int) r79.2.2.2.2.1 r79.2.2.2.2.2) fun r80=>(.ask (decide (6=([[(.s (⟨#[83,85,77]⟩:BA))],[(.s (⟨#[77,73,78]⟩:BA))],[(.s (⟨#[77,65,88]⟩:BA))],[(.s (⟨#[67,79,85,78,84]⟩:BA))],[(.s (⟨#[65,78,68]⟩:BA))],[(.s (⟨#[79,82]⟩:BA))]]:RW).length∧0≤r80.1∧r80.1<((6:Nat):Int))) (.opt (([[(.s (⟨#[83,85,77]⟩:BA))],[(.s (⟨#[77,73,78]⟩:BA))],[(.s (⟨#[77,65,88]⟩:BA))],[(.s (⟨#[67,79,85,78,84]⟩:BA))],[(.s (⟨#[65,78,68]⟩:BA))],[(.s (⟨#[79,82]⟩:BA))]]:RW)[(r80.1).toNat]?) fun e81=>(.opt (zu e81 0) fun y82=>(.ask (decide (y82.size+(⟨#[40]⟩:BA).size≤9223372036854775807)) (.opt (qd n r79.1 r79.2.1 false false) fun r83=>(.ask (decide ((y82++(⟨#[40]⟩:BA)).size+r83.size≤9223372036854775807)) (.ask (decide (((y82++(⟨#[40]⟩:BA))++r83).size+(⟨#[58]⟩:BA).size≤9223372036854775807)) (.opt (qd n r79.2.2.1 r79.2.2.2.1 false false) fun r84=>(.ask (decide ((((y82++(⟨#[40]⟩:BA))++r83)++(⟨#[58]⟩:BA)).size+r84.size≤9223372036854775807)) (.ask (decide (((((y82++(⟨#[40]⟩:BA))++r83)++(⟨#[58]⟩:BA))++r84).size+(⟨#[44]⟩:BA).size≤9223372036854775807)) (.opt (rec (IntKind.i64.wrap (x0-(1:Int))) r80.2.1 r80.2.2) fun r85=>(.ask (decide ((((((y82++(⟨#[40]⟩:BA))++r83)++(⟨#[58]⟩:BA))++r84)++(⟨#[44]⟩:BA)).size+r85.1.size≤9223372036854775807)) (.ask (decide (((((((y82++(⟨#[40]⟩:BA))++r83)++(⟨#[58]⟩:BA))++r84)++(⟨#[44]⟩:BA))++r85.1).size+(⟨#[41]⟩:BA).size≤9223372036854775807)) (.done ((((((((y82++(⟨#[40]⟩:BA))++r83)++(⟨#[58]⟩:BA))++r84)++(⟨#[44]⟩:BA))++r85.1)++(⟨#[41]⟩:BA)),r85.2.1,r85.2.2)) .fail) .fail)) .fail) .fail)) .fail) .fail)) .fail))) .fail))) (.ask ((r63.1==(3:Int))) (.opt (qB4 n r63.2.1 r63.2.2) fun r86=>(.opt (qT n (6:Int) r86.2.2.2.2.1 r86.2.2.2.2.2) fun r87=>(.ask (decide (6=([[(.s (⟨#[83,85,77]⟩:BA))],[(.s (⟨#[77,73,78]⟩:BA))],[(.s (⟨#[77,65,88]⟩:BA))],[(.s (⟨#[67,79,85,78,84]⟩:BA))],[(.s (⟨#[65,78,68]⟩:BA))],[(.s (⟨#[79,82]⟩:BA))]]:RW).length∧0≤r87.1∧r87.1<((6:Nat):Int))) (.opt (([[(.s (⟨#[83,85,77]⟩:BA))],[(.s (⟨#[77,73,78]⟩:BA))],[(.s (⟨#[77,65,88]⟩:BA))],[(.s (⟨#[67,79,85,78,84]⟩:BA))],[(.s (⟨#[65,78,68]⟩:BA))],[(.s (⟨#[79,82]⟩:BA))]]:RW)[(r87.1).toNat]?) fun e88=>(.opt (zu e88 0) fun y89=>(.ask (decide (y89.size+(⟨#[40]⟩:BA).size≤9223372036854775807)) (.opt (qd n r86.1 r86.2.1 false false) fun r90=>(.ask (decide ((y89++(⟨#[40]⟩:BA)).size+r90.size≤9223372036854775807)) (.ask (decide (((y89++(⟨#[40]⟩:BA))++r90).size+(⟨#[58]⟩:BA).size≤9223372036854775807)) (.opt (qd n r86.2.2.1 r86.2.2.2.1 false false) fun r91=>(.ask (decide ((((y89++(⟨#[40]⟩:BA))++r90)++(⟨#[58]⟩:BA)).size+r91.size≤9223372036854775807)) (.ask (decide (((((y89++(⟨#[40]⟩:BA))++r90)++(⟨#[58]⟩:BA))++r91).size+(⟨#[44]⟩:BA).size≤9223372036854775807)) (.opt (rec (IntKind.i64.wrap (x0-(1:Int))) r87.2.1 r87.2.2) fun r92=>(.ask (decide ((((((y89++(⟨#[40]⟩:BA))++r90)++(⟨#[58]⟩:BA))++r91)++(⟨#[44]⟩:BA)).size+r92.1.size≤9223372036854775807)) (.ask (decide (((((((y89++(⟨#[40]⟩:BA))++r90)++(⟨#[58]⟩:BA))++r91)++(⟨#[44]⟩:BA))++r92.1).size+(⟨#[41]⟩:BA).size≤9223372036854775807)) (.done ((((((((y89++(⟨#[40]⟩:BA))++r90)++(⟨#[58]⟩:BA))++r91)++(⟨#[44]⟩:BA))++r92.1)++(⟨#[41]⟩:BA)),r92.2.1,r92.2.2)) .fail) .fail)) .fail) .fail)) .fail) .fail)) .fail))) .fail))) (.ask ((r63.1==(4:Int))) (.opt (rec (IntKind.i64.wrap (x0-(1:Int))) r63.2.1 r63.2.2) fun r93=>(.ask (decide ((⟨#[73,70,40]⟩:BA).size+r93.1.size≤9223372036854775807)) (.ask (decide (((⟨#[73,70,40]⟩:BA)++r93.1).size+(⟨#[44]⟩:BA).size≤9223372036854775807)) (.opt (rec (IntKind.i64.wrap (x0-(1:Int))) r93.2.1 r93.2.2) fun r94=>(.ask (decide ((((⟨#[73,70,40]⟩:BA)++r93.1)++(⟨#[44]⟩:BA)).size+r94.1.size≤9223372036854775807)) (.ask (decide (((((⟨#[73,70,40]⟩:BA)++r93.1)++(⟨#[44]⟩:BA))++r94.1).size+(⟨#[44]⟩:BA).size≤9223372036854775807)) (.opt (rec (IntKind.i64.wrap (x0-(1:Int))) r94.2.1 r94.2.2) fun r95=>(.ask (decide ((((((⟨#[73,70,40]⟩:BA)++r93.1)++(⟨#[44]⟩:BA))++r94.1)++(⟨#[44]⟩:BA)).size+r95.1.size≤9223372036854775807)) (.ask (decide (((((((⟨#[73,70,40]⟩:BA)++r93.1)++(⟨#[44]⟩:BA))++r94.1)++(⟨#[44]⟩:BA))++r95.1).size+(⟨#[41]⟩:BA).size≤9223372036854775807)) (.done ((((((((⟨#[73,70,40]⟩:BA)++r93.1)++(⟨#[44]⟩:BA))++r94.1)++(⟨#[44]⟩:BA))++r95.1)++(⟨#[41]⟩:BA)),r95.2.1,r95.2.2)) .fail) .fail)) .fail) .fail)) .fail) .fail)) (.ask ((r63.1==(5:Int))) (.opt (qT n (3:Int) r63.2.1 r63.2.2) fun r96=>(.ask (decide (3=([[(.s (⟨#[78,79,84]⟩:BA))],[(.s (⟨#[65,66,83]⟩:BA))],[(.s (⟨#[76,69,78]⟩:BA))]]:RW).length∧0≤r96.1∧r96.1<((3:Nat):Int))) (.opt (([[(.s (⟨#[78,79,84]⟩:BA))],[(.s (⟨#[65,66,83]⟩:BA))],[(.s (⟨#[76,69,78]⟩:BA))]]:RW)[(r96.1).toNat]?) fun e97=>(.opt (zu e97 0) fun y98=>(.ask (decide (y98.size+(⟨#[40]⟩:BA).size≤9223372036854775807)) (.opt (rec (IntKind.i64.wrap (x0-(1:Int))) r96.2.1 r96.2.2) fun r99=>(.ask (decide ((y98++(⟨#[40]⟩:BA)).size+r99.1.size≤9223372036854775807)) (.ask (decide (((y98++(⟨#[40]⟩:BA))++r99.1).size+(⟨#[41]⟩:BA).size≤9223372036854775807)) (.done ((((y98++(⟨#[40]⟩:BA))++r99.1)++(⟨#[41]⟩:BA)),r99.2.1,r99.2.2)) .fail) .fail)) .fail))) .fail)) (.opt (rec (IntKind.i64.wrap (x0-(1:Int))) r63.2.1 r63.2.2) fun r100=>(.opt (qT n (11:Int) r100.2.1 r100.2.2) fun r101=>(.opt (qBz n (IntKind.i64.wrap ((1:Int)+r101.1))) fun r104=>(.ask (decide (r100.1.size+r104.size≤9223372036854775807)) (.opt (rec (IntKind.i64.wrap (x0-(1:Int))) r101.2.1 r101.2.2) fun r105=>(.ask (decide ((r100.1++r104).size+r105.1.size≤9223372036854775807)) (.done (((r100.1++r104)++r105.1),r105.2.1,r105.2.2)) .fail)) .fail))))))))))))))
def qAK:Nat→Int→RW→Int→Option (BA×RW×Int)
 |0,_,_,_=>none
 |n+1,x0,x1,x2=>(qCL (qAK n) n x0 x1 x2).run
abbrev qKF (n:Nat) (ih:Ok (Rn n) qGA (qAK n)):List (Ent (Rn n)):= [en (qBY n),en (qEb n),en (qCK n),en (qF9 n),en (qDk n),en ih,en (qKE n),en (qFU n)]
theorem qFV:∀n,Ok (Rn n) qGA (qAK n)
 |0=>ok0 fun _=>rfl
 |n+1=>stO (T:=qCL (qAK n) n) (by kernel_rfl) (qKF n (qFV n)) [] (fun _=>(by kernel_rfl)) fun _=>(by kernel_rfl)
def qMY:Sg:=⟨32,[aS],[],⟨aB,[],[]⟩⟩
def qBP (n:Nat) (v:BA×Int):Tr ((BA×Int)⊕((Bool)⊕(BA))):=(.ask ((decide (v.2<(v.1.size:Int)))) (.ask (decide (0≤v.2)) (.opt (v.1.toList[(v.2).toNat]?) fun c107=>(.ask ((decide ((c107.toNat:Int)<(32:Int)))) (.done (.inr (.inl (false)))) (.ask (decide (0≤v.2)) (.opt (v.1.toList[(v.2).toNat]?) fun c108=>(.ask ((decide ((c108.toNat:Int)>(126:Int)))) (.done (.inr (.inl (false)))) (.done (.inl (v.1,(IntKind.i64.wrap (v.2+(1:Int)))))))) .fail))) .fail) (.done (.inr (.inr (v.1)))))
def qFW (n:Nat) (x0:BA):Tr (Bool):=(.opt (zD (qBP n) n (x0,(0:Int))) fun r109=>(.alt r109 (fun r110=>(.done r110)) (fun r111=>(.done (decide ((r111.size:Int)≤(200:Int)))))))
def qCk:Nat→BA→Option (Bool)
 |0,_=>none
 |n+1,x0=>(qFW n x0).run
def qKG (n:Nat):LEnt (KB 32) (Rn n) n:=lok (zU 32) 13 ⟨⟨[(0,aS),(3,aI)],[],[]⟩,[(.ret,⟨[(2,aB)],[],[]⟩),(.exit 0,⟨[(0,aS)],[],[]⟩)]⟩ (qBP n) [] [] fun _=>(by kernel_rfl)
theorem qHh:∀n,Ok (Rn n) qMY (qCk n)
 |0=>ok0 fun _=>rfl
 |n+1=>stO (T:=qFW n) (by kernel_rfl) [] [qKG n] (fun _=>(by kernel_rfl)) fun _=>(by kernel_rfl)
def qJb:Sg:=⟨34,[(.c (.ptr 0 0 0 0 0))],[[(0,⟨0,4,50,(.box [qS,qI,qB,(.own 0 1 1 0)])⟩),(1,⟨1,14,64,(.row [])⟩)]],⟨(.tup []),[[(0,⟨0,4,50,(.box [qS,qI,qB,(.own 0 1 1 0)])⟩),(1,⟨1,14,64,(.row [])⟩)]],[]⟩⟩
def qDD (n:Nat) (v:BA×Int×Bool×Nat×RW):Tr ((BA×Int×Bool×Nat×RW)⊕((BA×Int×Bool×Nat×RW))):=(.ask ((decide (v.2.1<(v.1.size:Int)))) (.ask (decide (0≤v.2.1)) (.opt (v.1.toList[(v.2.1).toNat]?) fun c113=>(.ask (((c113.toNat:Int)==(32:Int))) (.done (.inl (v.1,(IntKind.i64.wrap (v.2.1+(1:Int))),v.2.2.1,v.2.2.2.1,v.2.2.2.2))) (.done (.inr ((v.1,v.2.1,v.2.2.1,v.2.2.2.1,v.2.2.2.2)))))) .fail) (.done (.inr ((v.1,v.2.1,v.2.2.1,v.2.2.2.1,v.2.2.2.2)))))
def qFX (n:Nat) (x0:BA) (x1:Int) (x2:Bool) (x3:Nat) (x4:RW):Tr (BA×Int×Bool×Nat×RW):=(.opt (zD (qDD n) n (x0,x1,x2,x3,x4)) fun r114=>(.done (r114.1,r114.2.1,r114.2.2.1,r114.2.2.2.1,r114.2.2.2.2)))
def qBZ:Nat→BA→Int→Bool→Nat→RW→Option (BA×Int×Bool×Nat×RW)
 |0,_,_,_,_,_=>none
 |n+1,x0,x1,x2,x3,x4=>(qFX n x0 x1 x2 x3 x4).run
def qIC (n:Nat):LEnt (KB 34) (Rn n) n:=lok (zU 34) 1 ⟨⟨[(0,(.c (.ptr 0 0 0 0 0)))],[],[[(0,⟨0,4,50,(.box [qS,qI,qB,(.own 0 1 1 0)])⟩),(1,⟨1,14,64,(.row [])⟩)]]⟩,[(.exit 0,⟨[],[],[[(0,⟨0,4,50,(.box [qS,qI,qB,(.own 0 1 1 0)])⟩),(1,⟨1,14,64,(.row [])⟩)]]⟩)]⟩ (qDD n) [] [] fun _=>(by kernel_rfl)
theorem qDa:∀n,Ok (Rn n) qJb (qBZ n)
 |0=>ok0 fun _=>rfl
 |n+1=>stO (T:=qFX n) (by kernel_rfl) [] [qIC n] (fun _=>(by kernel_rfl)) fun _=>(by kernel_rfl)
def qMZ:Sg:=⟨128,[(.c (.ptr 0 0 0 0 0)),aS],[[(0,⟨0,4,50,(.box [qS,qI,qB,(.own 0 1 1 0)])⟩),(1,⟨1,14,64,(.row [])⟩)]],⟨aB,[[(0,⟨0,4,50,(.box [qS,qI,qB,(.own 0 1 1 0)])⟩),(1,⟨1,14,64,(.row [])⟩)]],[]⟩⟩
def qID (n:Nat) (x0 x1:BA) (x2:Int) (x3:Bool) (x4:Nat) (x5:RW):Tr (Bool×BA×Int×Bool×Nat×RW):=(.opt (qBZ n x1 x2 x3 x4 x5) fun r115=>(.ask (r115.2.2.1) (.done (false,r115.1,r115.2.1,r115.2.2.1,r115.2.2.2.1,r115.2.2.2.2)) (.ask ((decide ((IntKind.i64.wrap (r115.2.1+(x0.size:Int)))>(r115.1.size:Int)))) (.done (false,r115.1,r115.2.1,r115.2.2.1,r115.2.2.2.1,r115.2.2.2.2)) (.ask (decide (0≤r115.2.1∧r115.2.1≤(IntKind.i64.wrap (r115.2.1+(x0.size:Int)))∧(IntKind.i64.wrap (r115.2.1+(x0.size:Int)))≤r115.1.size)) (.ask ((!((r115.1.extract (r115.2.1).toNat ((IntKind.i64.wrap (r115.2.1+(x0.size:Int)))).toNat).toList==x0.toList))) (.done (false,r115.1,r115.2.1,r115.2.2.1,r115.2.2.2.1,r115.2.2.2.2)) (.done (true,r115.1,(IntKind.i64.wrap (r115.2.1+(x0.size:Int))),r115.2.2.1,r115.2.2.2.1,r115.2.2.2.2))) .fail))))
def q8:Nat→BA→BA→Int→Bool→Nat→RW→Option (Bool×BA×Int×Bool×Nat×RW)
 |0,_,_,_,_,_,_=>none
 |n+1,x0,x1,x2,x3,x4,x5=>(qID n x0 x1 x2 x3 x4 x5).run
abbrev qMa (n:Nat):List (Ent (Rn n)):= [en (qDa n)]
theorem qDs:∀n,Ok (Rn n) qMZ (q8 n)
 |0=>ok0 fun _=>rfl
 |n+1=>stO (T:=qID n) (by kernel_rfl) (qMa n) [] (fun _=>(by kernel_rfl)) fun _=>(by kernel_rfl)
def qMb:Sg:=⟨111,[(.agg [qI,qI,qS])],[],⟨aB,[],[]⟩⟩
def qFY (n:Nat) (x0 x1:Int) (x2:BA):Tr (Bool):=(.ask ((x0==(0:Int))) (.ask ((x1==(0:Int))) (.done (x2.toList==(⟨#[]⟩:BA).toList)) (.done false)) (.ask ((x0==(1:Int))) (.opt (qBI n x1 (-1000000000000000:Int) (1000000000000000:Int)) fun r118=>(.ask (r118) (.done (x2.toList==(⟨#[]⟩:BA).toList)) (.done false))) (.ask ((x0==(2:Int))) (.ask ((x1==(0:Int))) (.opt (qCk n x2) fun r119=>(.done r119)) (.done false)) (.ask ((x0==(3:Int))) (.opt (qBI n x1 (0:Int) (1:Int)) fun r120=>(.ask (r120) (.done (x2.toList==(⟨#[]⟩:BA).toList)) (.done false))) (.ask ((x0==(4:Int))) (.opt (qBI n x1 (1:Int) (5:Int)) fun r121=>(.ask (r121) (.done (x2.toList==(⟨#[]⟩:BA).toList)) (.done false))) (.done false))))))
def qn:Nat→Int→Int→BA→Option (Bool)
 |0,_,_,_=>none
 |n+1,x0,x1,x2=>(qFY n x0 x1 x2).run
abbrev qMc (n:Nat):List (Ent (Rn n)):= [en (qD8 n),en (qHh n)]
theorem qE9:∀n,Ok (Rn n) qMb (qn n)
 |0=>ok0 fun _=>rfl
 |n+1=>stO (T:=qFY n) (by kernel_rfl) (qMc n) [] (fun _=>(by kernel_rfl)) fun _=>(by kernel_rfl)
def qNQ:Sg:=⟨112,[(.agg [qI,qI,qI,qI])],[],⟨aB,[],[]⟩⟩
def qGP (n:Nat) (x0 x1 x2 x3:Int):Tr (Bool):=(.opt (qAa n x0 x1) fun r124=>(.ask (r124) (.opt (qAa n x2 x3) fun r125=>(.ask (r125) (.ask ((decide (x0≤x2))) (.done (decide (x1≤x3))) (.done false)) (.done false))) (.done false)))
def qEp:Nat→Int→Int→Int→Int→Option (Bool)
 |0,_,_,_,_=>none
 |n+1,x0,x1,x2,x3=>(qGP n x0 x1 x2 x3).run
abbrev qNR (n:Nat):List (Ent (Rn n)):= [en (qEo n)]
theorem qMd:∀n,Ok (Rn n) qNQ (qEp n)
 |0=>ok0 fun _=>rfl
 |n+1=>stO (T:=qGP n) (by kernel_rfl) (qNR n) [] (fun _=>(by kernel_rfl)) fun _=>(by kernel_rfl)
def qNS:Sg:=⟨113,[aI,aI],[],⟨aB,[],[]⟩⟩
def qGQ (n:Nat) (x0 x1:Int):Tr (Bool):=(.ask ((x0==(1:Int))) (.ask ((decide (x1≥(1:Int)))) (.done (decide (x1≤(10:Int)))) (.done false)) (.ask ((x0==(2:Int))) (.ask ((decide (x1≥(1:Int)))) (.done (decide (x1≤(10:Int)))) (.done false)) (.ask ((x0==(3:Int))) (.ask ((decide (x1≥(1:Int)))) (.done (decide (x1≤(10:Int)))) (.done false)) (.ask ((x0==(4:Int))) (.ask ((decide (x1≥(1:Int)))) (.done (decide (x1≤(10:Int)))) (.done false)) (.ask ((x0==(6:Int))) (.ask ((decide (x1≥(1:Int)))) (.done (decide (x1≤(10:Int)))) (.done false)) (.ask ((x0==(7:Int))) (.ask ((decide (x1≥(1:Int)))) (.done (decide (x1≤(10:Int)))) (.done false)) (.ask ((x0==(5:Int))) (.ask ((x1==(2:Int))) (.done true) (.done (x1==(3:Int)))) (.ask ((x0==(8:Int))) (.done (x1==(1:Int))) (.ask ((x0==(9:Int))) (.done (x1==(1:Int))) (.ask ((x0==(10:Int))) (.done (x1==(1:Int))) (.done false)))))))))))
def qEq:Nat→Int→Int→Option (Bool)
 |0,_,_=>none
 |n+1,x0,x1=>(qGQ n x0 x1).run
theorem qMe:∀n,Ok (Rn n) qNS (qEq n)
 |0=>ok0 fun _=>rfl
 |n+1=>stO (T:=qGQ n) (by kernel_rfl) [] [] (fun _=>(by kernel_rfl)) fun _=>(by kernel_rfl)
def qL8:Sg:=⟨52,[(.agg [qI,qI,qI,qI,qS,qI,qI,qB,qB,qI,qI,qB,qB,qL])],[],⟨aB,[],[]⟩⟩
def qFA (n:Nat) (x0 x1 x2 x3:Int) (x4:BA) (x5 x6:Int) (x7 x8:Bool) (x9 x10:Int) (x11 x12:Bool) (x13:RW):Tr (Bool):=(.ask ((x0==(1:Int))) (.ask ((x1==(0:Int))) (.ask (((x5==(0:Int))&&((x6==(0:Int))&&((x7==false)&&((x8==false)&&true))))) (.ask (((x9==(0:Int))&&((x10==(0:Int))&&((x11==false)&&((x12==false)&&true))))) (.ask (((x13.length:Int)==(0:Int))) (.opt (qn n x2 x3 x4) fun r122=>(.ask (r122) (.ask ((x2 !=(0:Int))) (.ask ((x2 !=(1:Int))) (.done true) (.done (decide (x3≥(0:Int))))) (.done false)) (.done false))) (.done false)) (.done false)) (.done false)) (.done false)) (.ask ((x0==(2:Int))) (.ask ((x1==(0:Int))) (.ask (((x2==(0:Int))&&((x3==(0:Int))&&((x4.toList==(⟨#[]⟩:BA).toList)&&true)))) (.ask (((x9==(0:Int))&&((x10==(0:Int))&&((x11==false)&&((x12==false)&&true))))) (.ask (((x13.length:Int)==(0:Int))) (.opt (qAa n x5 x6) fun r123=>(.done r123)) (.done false)) (.done false)) (.done false)) (.done false)) (.ask ((x0==(3:Int))) (.ask ((x1==(0:Int))) (.ask (((x2==(0:Int))&&((x3==(0:Int))&&((x4.toList==(⟨#[]⟩:BA).toList)&&true)))) (.ask (((x13.length:Int)==(0:Int))) (.opt (qEp n x5 x6 x9 x10) fun r126=>(.done r126)) (.done false)) (.done false)) (.done false)) (.ask ((x0==(4:Int))) (.ask ((x1==(0:Int))) (.ask (((x2==(0:Int))&&((x3==(0:Int))&&((x4.toList==(⟨#[]⟩:BA).toList)&&true)))) (.ask (((x5==(0:Int))&&((x6==(0:Int))&&((x7==false)&&((x8==false)&&true))))) (.ask (((x9==(0:Int))&&((x10==(0:Int))&&((x11==false)&&((x12==false)&&true))))) (.done ((x13.length:Int)==(1:Int))) (.done false)) (.done false)) (.done false)) (.done false)) (.ask ((x0==(5:Int))) (.opt (qBI n x1 (1:Int) (11:Int)) fun r127=>(.ask (r127) (.ask (((x2==(0:Int))&&((x3==(0:Int))&&((x4.toList==(⟨#[]⟩:BA).toList)&&true)))) (.ask (((x5==(0:Int))&&((x6==(0:Int))&&((x7==false)&&((x8==false)&&true))))) (.ask (((x9==(0:Int))&&((x10==(0:Int))&&((x11==false)&&((x12==false)&&true))))) (.done ((x13.length:Int)==(2:Int))) (.done false)) (.done false)) (.done false)) (.done false))) (.ask ((x0==(6:Int))) (.opt (qEq n x1 (x13.length:Int)) fun r128=>(.ask (r128) (.ask (((x2==(0:Int))&&((x3==(0:Int))&&((x4.toList==(⟨#[]⟩:BA).toList)&&true)))) (.ask (((x5==(0:Int))&&((x6==(0:Int))&&((x7==false)&&((x8==false)&&true))))) (.done ((x9==(0:Int))&&((x10==(0:Int))&&((x11==false)&&((x12==false)&&true))))) (.done false)) (.done false)) (.done false))) (.done false)))))))
def qBs:Nat→Int→Int→Int→Int→BA→Int→Int→Bool→Bool→Int→Int→Bool→Bool→RW→Option (Bool)
 |0,_,_,_,_,_,_,_,_,_,_,_,_,_,_=>none
 |n+1,x0,x1,x2,x3,x4,x5,x6,x7,x8,x9,x10,x11,x12,x13=>(qFA n x0 x1 x2 x3 x4 x5 x6 x7 x8 x9 x10 x11 x12 x13).run
abbrev qL9 (n:Nat):List (Ent (Rn n)):= [en (qE9 n),en (qEo n),en (qMd n),en (qD8 n),en (qMe n)]
theorem qGp:∀n,Ok (Rn n) qL8 (qBs n)
 |0=>ok0 fun _=>rfl
 |n+1=>stO (T:=qFA n) (by kernel_rfl) (qL9 n) [] (fun _=>(by kernel_rfl)) fun _=>(by kernel_rfl)
def qMA:Sg:=⟨83,[(.c (.ptr 0 0 0 0 0)),(.agg [qI,qI,qI,qI,qS,qI,qI,qB,qB,qI,qI,qB,qB,qL])],[[(0,⟨0,4,50,(.box [qS,qI,qB,(.own 0 1 1 0)])⟩),(1,⟨1,14,64,(.row [])⟩)]],⟨aI,[[(0,⟨0,4,50,(.box [qS,qI,qB,(.own 0 1 1 0)])⟩),(1,⟨1,14,64,(.row [])⟩)]],[]⟩⟩
def qHi (n:Nat) (x0 x1 x2 x3:Int) (x4:BA) (x5 x6:Int) (x7 x8:Bool) (x9 x10:Int) (x11 x12:Bool) (x13:RW) (x14:BA) (x15:Int) (x16:Bool) (x17:Nat) (x18:RW):Tr (Int×BA×Int×Bool×Nat×RW):=(.ask (decide (1=([[(.i .i64 x0),(.i .i64 x1),(.i .i64 x2),(.i .i64 x3),(.s x4),(.i .i64 x5),(.i .i64 x6),(.b x7),(.b x8),(.i .i64 x9),(.i .i64 x10),(.b x11),(.b x12),(.ls x13)]]:RW).length)) (.ask (decide (x17=x18.length∧0<14∧0<120∧(x17+([[(.i .i64 x0),(.i .i64 x1),(.i .i64 x2),(.i .i64 x3),(.s x4),(.i .i64 x5),(.i .i64 x6),(.b x7),(.b x8),(.i .i64 x9),(.i .i64 x10),(.b x11),(.b x12),(.ls x13)]]:RW).length)*120≤140737488355328∧([[(.i .i64 x0),(.i .i64 x1),(.i .i64 x2),(.i .i64 x3),(.s x4),(.i .i64 x5),(.i .i64 x6),(.b x7),(.b x8),(.i .i64 x9),(.i .i64 x10),(.b x11),(.b x12),(.ls x13)]]:RW).all (fun e=>e.length==14)=true)) (.ask ((decide ((((x17+1):Nat):Int)>(60:Int)))) (.done ((IntKind.i64.wrap ((((x17+1):Nat):Int)-(1:Int))),x14,x15,true,(x17+1),(x18++([[(.i .i64 x0),(.i .i64 x1),(.i .i64 x2),(.i .i64 x3),(.s x4),(.i .i64 x5),(.i .i64 x6),(.b x7),(.b x8),(.i .i64 x9),(.i .i64 x10),(.b x11),(.b x12),(.ls x13)]]:RW)))) (.opt (qBs n x0 x1 x2 x3 x4 x5 x6 x7 x8 x9 x10 x11 x12 x13) fun r129=>(.ask ((!r129)) (.done ((IntKind.i64.wrap ((((x17+1):Nat):Int)-(1:Int))),x14,x15,true,(x17+1),(x18++([[(.i .i64 x0),(.i .i64 x1),(.i .i64 x2),(.i .i64 x3),(.s x4),(.i .i64 x5),(.i .i64 x6),(.b x7),(.b x8),(.i .i64 x9),(.i .i64 x10),(.b x11),(.b x12),(.ls x13)]]:RW)))) (.done ((IntKind.i64.wrap ((((x17+1):Nat):Int)-(1:Int))),x14,x15,x16,(x17+1),(x18++([[(.i .i64 x0),(.i .i64 x1),(.i .i64 x2),(.i .i64 x3),(.s x4),(.i .i64 x5),(.i .i64 x6),(.b x7),(.b x8),(.i .i64 x9),(.i .i64 x10),(.b x11),(.b x12),(.ls x13)]]:RW))))))) .fail) .fail)
def qt:Nat→Int→Int→Int→Int→BA→Int→Int→Bool→Bool→Int→Int→Bool→Bool→RW→BA→Int→Bool→Nat→RW→Option (Int×BA×Int×Bool×Nat×RW)
 |0,_,_,_,_,_,_,_,_,_,_,_,_,_,_,_,_,_,_,_=>none
 |n+1,x0,x1,x2,x3,x4,x5,x6,x7,x8,x9,x10,x11,x12,x13,x14,x15,x16,x17,x18=>(qHi n x0 x1 x2 x3 x4 x5 x6 x7 x8 x9 x10 x11 x12 x13 x14 x15 x16 x17 x18).run
abbrev qMB (n:Nat):List (Ent (Rn n)):= [en (qGp n)]
theorem qCl:∀n,Ok (Rn n) qMA (qt n)
 |0=>ok0 fun _=>rfl
 |n+1=>stO (T:=qHi n) (by kernel_rfl) (qMB n) [] (fun _=>(by kernel_rfl)) fun _=>(by kernel_rfl)
def qLC:Sg:=⟨129,[(.c (.ptr 0 0 0 0 0))],[[(0,⟨0,4,50,(.box [qS,qI,qB,(.own 0 1 1 0)])⟩),(1,⟨1,14,64,(.row [])⟩)]],⟨aI,[[(0,⟨0,4,50,(.box [qS,qI,qB,(.own 0 1 1 0)])⟩),(1,⟨1,14,64,(.row [])⟩)]],[]⟩⟩
def qDb (n:Nat) (v:BA×BA×Int×Bool×Nat×RW):Tr ((BA×BA×Int×Bool×Nat×RW)⊕((Int×BA×Int×Bool×Nat×RW)⊕(BA×Int×Bool×Nat×RW))):=(.ask ((decide (v.2.2.1<(v.2.1.size:Int)))) (.ask (decide (0≤v.2.2.1)) (.opt (v.2.1.toList[(v.2.2.1).toNat]?) fun c135=>(.ask (((c135.toNat:Int) !=(34:Int))) (.ask (decide (0≤v.2.2.1∧v.2.2.1≤(IntKind.i64.wrap (v.2.2.1+(1:Int)))∧(IntKind.i64.wrap (v.2.2.1+(1:Int)))≤v.2.1.size)) (.ask (decide (v.1.size+(v.2.1.extract (v.2.2.1).toNat ((IntKind.i64.wrap (v.2.2.1+(1:Int)))).toNat).size≤9223372036854775807)) (.done (.inl ((v.1++(v.2.1.extract (v.2.2.1).toNat ((IntKind.i64.wrap (v.2.2.1+(1:Int)))).toNat)),v.2.1,(IntKind.i64.wrap (v.2.2.1+(1:Int))),v.2.2.2.1,v.2.2.2.2.1,v.2.2.2.2.2))) .fail) .fail) (.ask ((decide ((IntKind.i64.wrap (v.2.2.1+(1:Int)))≥(v.2.1.size:Int)))) (.opt (qt n (1:Int) (0:Int) (2:Int) (0:Int) v.1 (0:Int) (0:Int) false false (0:Int) (0:Int) false false ([]:RW) v.2.1 (IntKind.i64.wrap (v.2.2.1+(1:Int))) v.2.2.2.1 v.2.2.2.2.1 v.2.2.2.2.2) fun r136=>(.done (.inr (.inl ((r136.1,r136.2.1,r136.2.2.1,r136.2.2.2.1,r136.2.2.2.2.1,r136.2.2.2.2.2)))))) (.ask (decide (0≤(IntKind.i64.wrap (v.2.2.1+(1:Int))))) (.opt (v.2.1.toList[((IntKind.i64.wrap (v.2.2.1+(1:Int)))).toNat]?) fun c137=>(.ask (((c137.toNat:Int) !=(34:Int))) (.opt (qt n (1:Int) (0:Int) (2:Int) (0:Int) v.1 (0:Int) (0:Int) false false (0:Int) (0:Int) false false ([]:RW) v.2.1 (IntKind.i64.wrap (v.2.2.1+(1:Int))) v.2.2.2.1 v.2.2.2.2.1 v.2.2.2.2.2) fun r138=>(.done (.inr (.inl ((r138.1,r138.2.1,r138.2.2.1,r138.2.2.2.1,r138.2.2.2.2.1,r138.2.2.2.2.2)))))) (.ask (decide (v.1.size+(⟨#[34]⟩:BA).size≤9223372036854775807)) (.done (.inl ((v.1++(⟨#[34]⟩:BA)),v.2.1,(IntKind.i64.wrap ((IntKind.i64.wrap (v.2.2.1+(1:Int)))+(1:Int))),v.2.2.2.1,v.2.2.2.2.1,v.2.2.2.2.2))) .fail))) .fail)))) .fail) (.done (.inr (.inr ((v.2.1,v.2.2.1,v.2.2.2.1,v.2.2.2.2.1,v.2.2.2.2.2))))))
def qGq (n:Nat) (x0:BA) (x1:Int) (x2:Bool) (x3:Nat) (x4:RW):Tr (Int×BA×Int×Bool×Nat×RW):=(.opt (zD (qDb n) n ((⟨#[]⟩:BA),x0,x1,x2,x3,x4)) fun r139=>(.alt r139 (fun r140=>(.done (r140.1,r140.2.1,r140.2.2.1,r140.2.2.2.1,r140.2.2.2.2.1,r140.2.2.2.2.2))) (fun r141=>(.done ((0:Int),r141.1,r141.2.1,true,r141.2.2.2.1,r141.2.2.2.2)))))
def qEf:Nat→BA→Int→Bool→Nat→RW→Option (Int×BA×Int×Bool×Nat×RW)
 |0,_,_,_,_,_=>none
 |n+1,x0,x1,x2,x3,x4=>(qGq n x0 x1 x2 x3 x4).run
abbrev qGr (n:Nat):List (Ent (Rn n)):= [en (qCl n)]
def qIz (n:Nat):LEnt (KB 129) (Rn n) n:=lok (zU 129) 14 ⟨⟨[(0,(.c (.ptr 0 0 0 0 0))),(3,aS)],[],[[(0,⟨0,4,50,(.box [qS,qI,qB,(.own 0 1 1 0)])⟩),(1,⟨1,14,64,(.row [])⟩)]]⟩,[(.ret,⟨[(2,aI)],[],[[(0,⟨0,4,50,(.box [qS,qI,qB,(.own 0 1 1 0)])⟩),(1,⟨1,14,64,(.row [])⟩)]]⟩),(.exit 0,⟨[(0,(.c (.ptr 0 0 0 0 0)))],[],[[(0,⟨0,4,50,(.box [qS,qI,qB,(.own 0 1 1 0)])⟩),(1,⟨1,14,64,(.row [])⟩)]]⟩)]⟩ (qDb n) (qGr n) [] fun _=>(by kernel_rfl)
theorem qKH:∀n,Ok (Rn n) qLC (qEf n)
 |0=>ok0 fun _=>rfl
 |n+1=>stO (T:=qGq n) (by kernel_rfl) (qGr n) [qIz n] (fun _=>(by kernel_rfl)) fun _=>(by kernel_rfl)
def qNT:Sg:=⟨116,[aI],[],⟨aS,[],[]⟩⟩
def qGR (n:Nat) (x0:Int):Tr (BA):=(.ask (decide (6=([[(.s (⟨#[]⟩:BA))],[(.s (⟨#[35,68,73,86,33]⟩:BA))],[(.s (⟨#[35,84,89,80,69,33]⟩:BA))],[(.s (⟨#[35,82,69,70,33]⟩:BA))],[(.s (⟨#[35,79,86,69,82,33]⟩:BA))],[(.s (⟨#[35,67,89,67,76,69,33]⟩:BA))]]:RW).length∧0≤x0∧x0<((6:Nat):Int))) (.opt (([[(.s (⟨#[]⟩:BA))],[(.s (⟨#[35,68,73,86,33]⟩:BA))],[(.s (⟨#[35,84,89,80,69,33]⟩:BA))],[(.s (⟨#[35,82,69,70,33]⟩:BA))],[(.s (⟨#[35,79,86,69,82,33]⟩:BA))],[(.s (⟨#[35,67,89,67,76,69,33]⟩:BA))]]:RW)[(x0).toNat]?) fun e144=>(.opt (zu e144 0) fun y145=>(.done y145))) .fail)
def qBM:Nat→Int→Option (BA)
 |0,_=>none
 |n+1,x0=>(qGR n x0).run
theorem qFZ:∀n,Ok (Rn n) qNT (qBM n)
 |0=>ok0 fun _=>rfl
 |n+1=>stO (T:=qGR n) (by kernel_rfl) [] [] (fun _=>(by kernel_rfl)) fun _=>(by kernel_rfl)
def qMf:Sg:=⟨130,[aI],[],⟨(.agg [qI,qI,qS]),[],[]⟩⟩
def qFa (n:Nat) (x0:Int):Tr (Int×Int×BA):=(.done ((4:Int),x0,(⟨#[]⟩:BA)))
def qCm:Nat→Int→Option (Int×Int×BA)
 |0,_=>none
 |n+1,x0=>(qFa n x0).run
theorem qMC:∀n,Ok (Rn n) qMf (qCm n)
 |0=>ok0 fun _=>rfl
 |n+1=>stO (T:=qFa n) (by kernel_rfl) [] [] (fun _=>(by kernel_rfl)) fun _=>(by kernel_rfl)
def qLD:Sg:=⟨131,[(.c (.ptr 0 0 0 0 0))],[[(0,⟨0,4,50,(.box [qS,qI,qB,(.own 0 1 1 0)])⟩),(1,⟨1,14,64,(.row [])⟩)]],⟨aS,[[(0,⟨0,4,50,(.box [qS,qI,qB,(.own 0 1 1 0)])⟩),(1,⟨1,14,64,(.row [])⟩)]],[]⟩⟩
def qBu (n:Nat) (v:Int×BA×Int×Bool×Nat×RW):Tr ((Int×BA×Int×Bool×Nat×RW)⊕((Int×BA×Int×Bool×Nat×RW))):=(.ask ((decide (v.2.2.1<(v.2.1.size:Int)))) (.ask (decide (0≤v.2.2.1)) (.opt (v.2.1.toList[(v.2.2.1).toNat]?) fun c150=>(.ask ((decide ((c150.toNat:Int)≥(65:Int)))) (.ask (decide (0≤v.2.2.1)) (.opt (v.2.1.toList[(v.2.2.1).toNat]?) fun c151=>(.ask ((decide ((c151.toNat:Int)≤(90:Int)))) (.done (.inl (v.1,v.2.1,(IntKind.i64.wrap (v.2.2.1+(1:Int))),v.2.2.2.1,v.2.2.2.2.1,v.2.2.2.2.2))) (.ask (decide (0≤v.2.2.1)) (.opt (v.2.1.toList[(v.2.2.1).toNat]?) fun c152=>(.ask ((decide ((c152.toNat:Int)≥(48:Int)))) (.ask (decide (0≤v.2.2.1)) (.opt (v.2.1.toList[(v.2.2.1).toNat]?) fun c153=>(.ask ((decide ((c153.toNat:Int)≤(57:Int)))) (.done (.inl (v.1,v.2.1,(IntKind.i64.wrap (v.2.2.1+(1:Int))),v.2.2.2.1,v.2.2.2.2.1,v.2.2.2.2.2))) (.ask (decide (0≤v.2.2.1)) (.opt (v.2.1.toList[(v.2.2.1).toNat]?) fun c154=>(.ask (((c154.toNat:Int)==(36:Int))) (.done (.inl (v.1,v.2.1,(IntKind.i64.wrap (v.2.2.1+(1:Int))),v.2.2.2.1,v.2.2.2.2.1,v.2.2.2.2.2))) (.done (.inr ((v.1,v.2.1,v.2.2.1,v.2.2.2.1,v.2.2.2.2.1,v.2.2.2.2.2)))))) .fail))) .fail) (.ask (decide (0≤v.2.2.1)) (.opt (v.2.1.toList[(v.2.2.1).toNat]?) fun c155=>(.ask (((c155.toNat:Int)==(36:Int))) (.done (.inl (v.1,v.2.1,(IntKind.i64.wrap (v.2.2.1+(1:Int))),v.2.2.2.1,v.2.2.2.2.1,v.2.2.2.2.2))) (.done (.inr ((v.1,v.2.1,v.2.2.1,v.2.2.2.1,v.2.2.2.2.1,v.2.2.2.2.2)))))) .fail))) .fail))) .fail) (.ask (decide (0≤v.2.2.1)) (.opt (v.2.1.toList[(v.2.2.1).toNat]?) fun c156=>(.ask ((decide ((c156.toNat:Int)≥(48:Int)))) (.ask (decide (0≤v.2.2.1)) (.opt (v.2.1.toList[(v.2.2.1).toNat]?) fun c157=>(.ask ((decide ((c157.toNat:Int)≤(57:Int)))) (.done (.inl (v.1,v.2.1,(IntKind.i64.wrap (v.2.2.1+(1:Int))),v.2.2.2.1,v.2.2.2.2.1,v.2.2.2.2.2))) (.ask (decide (0≤v.2.2.1)) (.opt (v.2.1.toList[(v.2.2.1).toNat]?) fun c158=>(.ask (((c158.toNat:Int)==(36:Int))) (.done (.inl (v.1,v.2.1,(IntKind.i64.wrap (v.2.2.1+(1:Int))),v.2.2.2.1,v.2.2.2.2.1,v.2.2.2.2.2))) (.done (.inr ((v.1,v.2.1,v.2.2.1,v.2.2.2.1,v.2.2.2.2.1,v.2.2.2.2.2)))))) .fail))) .fail) (.ask (decide (0≤v.2.2.1)) (.opt (v.2.1.toList[(v.2.2.1).toNat]?) fun c159=>(.ask (((c159.toNat:Int)==(36:Int))) (.done (.inl (v.1,v.2.1,(IntKind.i64.wrap (v.2.2.1+(1:Int))),v.2.2.2.1,v.2.2.2.2.1,v.2.2.2.2.2))) (.done (.inr ((v.1,v.2.1,v.2.2.1,v.2.2.2.1,v.2.2.2.2.1,v.2.2.2.2.2)))))) .fail))) .fail))) .fail) (.done (.inr ((v.1,v.2.1,v.2.2.1,v.2.2.2.1,v.2.2.2.2.1,v.2.2.2.2.2)))))
def qGs (n:Nat) (x0:BA) (x1:Int) (x2:Bool) (x3:Nat) (x4:RW):Tr (BA×BA×Int×Bool×Nat×RW):=(.opt (zD (qBu n) n (x1,x0,x1,x2,x3,x4)) fun r160=>(.ask (decide (0≤r160.1∧r160.1≤r160.2.2.1∧r160.2.2.1≤r160.2.1.size)) (.done ((r160.2.1.extract (r160.1).toNat (r160.2.2.1).toNat),r160.2.1,r160.2.2.1,r160.2.2.2.1,r160.2.2.2.2.1,r160.2.2.2.2.2)) .fail))
def qCn:Nat→BA→Int→Bool→Nat→RW→Option (BA×BA×Int×Bool×Nat×RW)
 |0,_,_,_,_,_=>none
 |n+1,x0,x1,x2,x3,x4=>(qGs n x0 x1 x2 x3 x4).run
def qI0 (n:Nat):LEnt (KB 131) (Rn n) n:=lok (zU 131) 14 ⟨⟨[(0,(.c (.ptr 0 0 0 0 0))),(3,aI)],[],[[(0,⟨0,4,50,(.box [qS,qI,qB,(.own 0 1 1 0)])⟩),(1,⟨1,14,64,(.row [])⟩)]]⟩,[(.exit 0,⟨[(0,(.c (.ptr 0 0 0 0 0))),(3,aI)],[],[[(0,⟨0,4,50,(.box [qS,qI,qB,(.own 0 1 1 0)])⟩),(1,⟨1,14,64,(.row [])⟩)]]⟩)]⟩ (qBu n) [] [] fun _=>(by kernel_rfl)
theorem qGB:∀n,Ok (Rn n) qLD (qCn n)
 |0=>ok0 fun _=>rfl
 |n+1=>stO (T:=qGs n) (by kernel_rfl) [] [qI0 n] (fun _=>(by kernel_rfl)) fun _=>(by kernel_rfl)
def qOm:Sg:=⟨110,[aI],[],⟨aS,[],[]⟩⟩
def qIE (n:Nat) (x0:Int):Tr (BA):=(.ask (decide (11=([[(.s (⟨#[]⟩:BA))],[(.s (⟨#[83,85,77]⟩:BA))],[(.s (⟨#[77,73,78]⟩:BA))],[(.s (⟨#[77,65,88]⟩:BA))],[(.s (⟨#[67,79,85,78,84]⟩:BA))],[(.s (⟨#[73,70]⟩:BA))],[(.s (⟨#[65,78,68]⟩:BA))],[(.s (⟨#[79,82]⟩:BA))],[(.s (⟨#[78,79,84]⟩:BA))],[(.s (⟨#[65,66,83]⟩:BA))],[(.s (⟨#[76,69,78]⟩:BA))]]:RW).length∧0≤x0∧x0<((11:Nat):Int))) (.opt (([[(.s (⟨#[]⟩:BA))],[(.s (⟨#[83,85,77]⟩:BA))],[(.s (⟨#[77,73,78]⟩:BA))],[(.s (⟨#[77,65,88]⟩:BA))],[(.s (⟨#[67,79,85,78,84]⟩:BA))],[(.s (⟨#[73,70]⟩:BA))],[(.s (⟨#[65,78,68]⟩:BA))],[(.s (⟨#[79,82]⟩:BA))],[(.s (⟨#[78,79,84]⟩:BA))],[(.s (⟨#[65,66,83]⟩:BA))],[(.s (⟨#[76,69,78]⟩:BA))]]:RW)[(x0).toNat]?) fun e162=>(.opt (zu e162 0) fun y163=>(.done y163))) .fail)
def qCM:Nat→Int→Option (BA)
 |0,_=>none
 |n+1,x0=>(qIE n x0).run
theorem qKI:∀n,Ok (Rn n) qOm (qCM n)
 |0=>ok0 fun _=>rfl
 |n+1=>stO (T:=qIE n) (by kernel_rfl) [] [] (fun _=>(by kernel_rfl)) fun _=>(by kernel_rfl)
def qMg:Sg:=⟨160,[aS],[],⟨aI,[],[]⟩⟩
def qCN (n:Nat) (v:BA×Int):Tr ((BA×Int)⊕((Int)⊕(Unit))):=(.ask ((decide (v.2≤(52:Int)))) (.opt (qCi n v.2) fun r172=>(.ask ((r172.toList==v.1.toList)) (.done (.inr (.inl (v.2)))) (.done (.inl (v.1,(IntKind.i64.wrap (v.2+(1:Int)))))))) (.done (.inr (.inr (())))))
def qFb (n:Nat) (x0:BA):Tr (Int):=(.opt (zD (qCN n) n (x0,(1:Int))) fun r173=>(.alt r173 (fun r174=>(.done r174)) (fun r175=>(.done (0:Int)))))
def qB6:Nat→BA→Option (Int)
 |0,_=>none
 |n+1,x0=>(qFb n x0).run
abbrev qIF (n:Nat):List (Ent (Rn n)):= [en (qHg n)]
def qKJ (n:Nat):LEnt (KB 160) (Rn n) n:=lok (zU 160) 13 ⟨⟨[(0,aS),(3,aI)],[],[]⟩,[(.ret,⟨[(2,aI)],[],[]⟩),(.exit 0,⟨[],[],[]⟩)]⟩ (qCN n) (qIF n) [] fun _=>(by kernel_rfl)
theorem qMD:∀n,Ok (Rn n) qMg (qB6 n)
 |0=>ok0 fun _=>rfl
 |n+1=>stO (T:=qFb n) (by kernel_rfl) (qIF n) [qKJ n] (fun _=>(by kernel_rfl)) fun _=>(by kernel_rfl)
def qOE:Sg:=⟨114,[aS,aI],[],⟨(.tup [(false,[qI]),(false,[qB])]),[],[]⟩⟩
def qBV (n:Nat) (v:BA×Int×Int):Tr ((BA×Int×Int)⊕((Int×Bool)⊕(Int))):=(.ask ((decide (v.2.2<(v.1.size:Int)))) (.ask (decide (0≤v.2.2)) (.opt (v.1.toList[(v.2.2).toNat]?) fun c179=>(.ask ((decide ((c179.toNat:Int)<(48:Int)))) (.done (.inr (.inl (((0:Int),false))))) (.ask (decide (0≤v.2.2)) (.opt (v.1.toList[(v.2.2).toNat]?) fun c180=>(.ask ((decide ((c180.toNat:Int)>(57:Int)))) (.done (.inr (.inl (((0:Int),false))))) (.ask (decide (0≤v.2.2)) (.opt (v.1.toList[(v.2.2).toNat]?) fun c181=>(.done (.inl (v.1,(IntKind.i64.wrap ((IntKind.i64.wrap (v.2.1*(10:Int)))+(IntKind.i64.wrap (IntKind.u8.wrap ((c181.toNat:Int)-(48:Int)))))),(IntKind.i64.wrap (v.2.2+(1:Int))))))) .fail))) .fail))) .fail) (.done (.inr (.inr (v.2.1)))))
def qEA (n:Nat) (x0:BA) (x1:Int):Tr (Int×Bool):=(.ask ((decide ((x0.size:Int)<(1:Int)))) (.done ((0:Int),false)) (.ask ((decide ((x0.size:Int)>x1))) (.done ((0:Int),false)) (.ask (decide (0≤(0:Int))) (.opt (x0.toList[((0:Int)).toNat]?) fun c178=>(.ask (((c178.toNat:Int)==(48:Int))) (.ask ((decide ((x0.size:Int)>(1:Int)))) (.done ((0:Int),false)) (.opt (zD (qBV n) n (x0,(0:Int),(0:Int))) fun r182=>(.alt r182 (fun r183=>(.done (r183.1,r183.2))) (fun r184=>(.done (r184,true)))))) (.opt (zD (qBV n) n (x0,(0:Int),(0:Int))) fun r185=>(.alt r185 (fun r186=>(.done (r186.1,r186.2))) (fun r187=>(.done (r187,true))))))) .fail)))
def qAC:Nat→BA→Int→Option (Int×Bool)
 |0,_,_=>none
 |n+1,x0,x1=>(qEA n x0 x1).run
def qME (n:Nat):LEnt (KB 114) (Rn n) n:=lok (zU 114) 61 ⟨⟨[(0,aS),(6,aI),(7,aI)],[],[]⟩,[(.ret,⟨[(4,aI),(5,aB)],[],[]⟩),(.exit 0,⟨[(6,aI)],[],[]⟩)]⟩ (qBV n) [] [] fun _=>(by kernel_rfl)
theorem qJM:∀n,Ok (Rn n) qOE (qAC n)
 |0=>ok0 fun _=>rfl
 |n+1=>stO (T:=qEA n) (by kernel_rfl) [] [qME n] (fun _=>(by kernel_rfl)) fun _=>(by kernel_rfl)
def qLE:Sg:=⟨133,[aS],[],⟨(.tup [(true,[qI,qI,qB,qB]),(false,[qB])]),[],[]⟩⟩
def qAE (n:Nat) (v:BA×Int×Int×Int×Bool×Bool×Int×Int×Bool×Bool):Tr ((BA×Int×Int×Int×Bool×Bool×Int×Int×Bool×Bool)⊕((BA×Int×Int×Int×Bool×Bool×Int×Int×Bool×Bool))):=(.ask ((decide (v.2.1<(v.1.size:Int)))) (.ask (decide (0≤v.2.1)) (.opt (v.1.toList[(v.2.1).toNat]?) fun c169=>(.ask ((decide ((c169.toNat:Int)≥(65:Int)))) (.ask (decide (0≤v.2.1)) (.opt (v.1.toList[(v.2.1).toNat]?) fun c170=>(.ask ((decide ((c170.toNat:Int)≤(90:Int)))) (.done (.inl (v.1,(IntKind.i64.wrap (v.2.1+(1:Int))),v.2.2.1,v.2.2.2.1,v.2.2.2.2.1,v.2.2.2.2.2.1,v.2.2.2.2.2.2.1,v.2.2.2.2.2.2.2.1,v.2.2.2.2.2.2.2.2.1,v.2.2.2.2.2.2.2.2.2))) (.done (.inr ((v.1,v.2.1,v.2.2.1,v.2.2.2.1,v.2.2.2.2.1,v.2.2.2.2.2.1,v.2.2.2.2.2.2.1,v.2.2.2.2.2.2.2.1,v.2.2.2.2.2.2.2.2.1,v.2.2.2.2.2.2.2.2.2)))))) .fail) (.done (.inr ((v.1,v.2.1,v.2.2.1,v.2.2.2.1,v.2.2.2.2.1,v.2.2.2.2.2.1,v.2.2.2.2.2.2.1,v.2.2.2.2.2.2.2.1,v.2.2.2.2.2.2.2.2.1,v.2.2.2.2.2.2.2.2.2)))))) .fail) (.done (.inr ((v.1,v.2.1,v.2.2.1,v.2.2.2.1,v.2.2.2.2.1,v.2.2.2.2.2.1,v.2.2.2.2.2.2.1,v.2.2.2.2.2.2.2.1,v.2.2.2.2.2.2.2.2.1,v.2.2.2.2.2.2.2.2.2)))))
def qB5 (n:Nat) (x0:BA):Tr (Int×Int×Bool×Bool×Bool):=(.ask ((decide ((x0.size:Int)>(0:Int)))) (.ask (decide (0≤(0:Int))) (.opt (x0.toList[((0:Int)).toNat]?) fun c168=>(.ask (((c168.toNat:Int)==(36:Int))) (.ask (decide (0≤(1:Int)∧(1:Int)≤(x0.size:Int)∧(x0.size:Int)≤x0.size)) (.opt (zD (qAE n) n ((x0.extract ((1:Int)).toNat ((x0.size:Int)).toNat),(0:Int),(0:Int),(0:Int),false,false,(0:Int),(0:Int),true,false)) fun r171=>(.ask (decide (0≤(0:Int)∧(0:Int)≤r171.2.1∧r171.2.1≤r171.1.size)) (.opt (qB6 n (r171.1.extract ((0:Int)).toNat (r171.2.1).toNat)) fun r176=>(.ask (decide (0≤r171.2.1∧r171.2.1≤(r171.1.size:Int)∧(r171.1.size:Int)≤r171.1.size)) (.ask ((decide (((r171.1.extract (r171.2.1).toNat ((r171.1.size:Int)).toNat).size:Int)>(0:Int)))) (.ask (decide (0≤(0:Int))) (.opt ((r171.1.extract (r171.2.1).toNat ((r171.1.size:Int)).toNat).toList[((0:Int)).toNat]?) fun c177=>(.ask (((c177.toNat:Int)==(36:Int))) (.ask (decide (0≤(1:Int)∧(1:Int)≤((r171.1.extract (r171.2.1).toNat ((r171.1.size:Int)).toNat).size:Int)∧((r171.1.extract (r171.2.1).toNat ((r171.1.size:Int)).toNat).size:Int)≤(r171.1.extract (r171.2.1).toNat ((r171.1.size:Int)).toNat).size)) (.opt (qAC n ((r171.1.extract (r171.2.1).toNat ((r171.1.size:Int)).toNat).extract ((1:Int)).toNat (((r171.1.extract (r171.2.1).toNat ((r171.1.size:Int)).toNat).size:Int)).toNat) (2:Int)) fun r188=>(.ask ((!r188.2)) (.done ((0:Int),(0:Int),false,false,false)) (.opt (qAa n r176 r188.1) fun r189=>(.ask ((!r189)) (.done ((0:Int),(0:Int),false,false,false)) (.done (r176,r188.1,r171.2.2.2.2.2.2.2.2.1,true,true)))))) .fail) (.opt (qAC n (r171.1.extract (r171.2.1).toNat ((r171.1.size:Int)).toNat) (2:Int)) fun r190=>(.ask ((!r190.2)) (.done ((0:Int),(0:Int),false,false,false)) (.opt (qAa n r176 r190.1) fun r191=>(.ask ((!r191)) (.done ((0:Int),(0:Int),false,false,false)) (.done (r176,r190.1,r171.2.2.2.2.2.2.2.2.1,r171.2.2.2.2.2.2.2.2.2,true)))))))) .fail) (.opt (qAC n (r171.1.extract (r171.2.1).toNat ((r171.1.size:Int)).toNat) (2:Int)) fun r192=>(.ask ((!r192.2)) (.done ((0:Int),(0:Int),false,false,false)) (.opt (qAa n r176 r192.1) fun r193=>(.ask ((!r193)) (.done ((0:Int),(0:Int),false,false,false)) (.done (r176,r192.1,r171.2.2.2.2.2.2.2.2.1,r171.2.2.2.2.2.2.2.2.2,true))))))) .fail)) .fail)) .fail) (.opt (zD (qAE n) n (x0,(0:Int),(0:Int),(0:Int),false,false,(0:Int),(0:Int),false,false)) fun r194=>(.ask (decide (0≤(0:Int)∧(0:Int)≤r194.2.1∧r194.2.1≤r194.1.size)) (.opt (qB6 n (r194.1.extract ((0:Int)).toNat (r194.2.1).toNat)) fun r195=>(.ask (decide (0≤r194.2.1∧r194.2.1≤(r194.1.size:Int)∧(r194.1.size:Int)≤r194.1.size)) (.ask ((decide (((r194.1.extract (r194.2.1).toNat ((r194.1.size:Int)).toNat).size:Int)>(0:Int)))) (.ask (decide (0≤(0:Int))) (.opt ((r194.1.extract (r194.2.1).toNat ((r194.1.size:Int)).toNat).toList[((0:Int)).toNat]?) fun c196=>(.ask (((c196.toNat:Int)==(36:Int))) (.ask (decide (0≤(1:Int)∧(1:Int)≤((r194.1.extract (r194.2.1).toNat ((r194.1.size:Int)).toNat).size:Int)∧((r194.1.extract (r194.2.1).toNat ((r194.1.size:Int)).toNat).size:Int)≤(r194.1.extract (r194.2.1).toNat ((r194.1.size:Int)).toNat).size)) (.opt (qAC n ((r194.1.extract (r194.2.1).toNat ((r194.1.size:Int)).toNat).extract ((1:Int)).toNat (((r194.1.extract (r194.2.1).toNat ((r194.1.size:Int)).toNat).size:Int)).toNat) (2:Int)) fun r197=>(.ask ((!r197.2)) (.done ((0:Int),(0:Int),false,false,false)) (.opt (qAa n r195 r197.1) fun r198=>(.ask ((!r198)) (.done ((0:Int),(0:Int),false,false,false)) (.done (r195,r197.1,r194.2.2.2.2.2.2.2.2.1,true,true)))))) .fail) (.opt (qAC n (r194.1.extract (r194.2.1).toNat ((r194.1.size:Int)).toNat) (2:Int)) fun r199=>(.ask ((!r199.2)) (.done ((0:Int),(0:Int),false,false,false)) (.opt (qAa n r195 r199.1) fun r200=>(.ask ((!r200)) (.done ((0:Int),(0:Int),false,false,false)) (.done (r195,r199.1,r194.2.2.2.2.2.2.2.2.1,r194.2.2.2.2.2.2.2.2.2,true)))))))) .fail) (.opt (qAC n (r194.1.extract (r194.2.1).toNat ((r194.1.size:Int)).toNat) (2:Int)) fun r201=>(.ask ((!r201.2)) (.done ((0:Int),(0:Int),false,false,false)) (.opt (qAa n r195 r201.1) fun r202=>(.ask ((!r202)) (.done ((0:Int),(0:Int),false,false,false)) (.done (r195,r201.1,r194.2.2.2.2.2.2.2.2.1,r194.2.2.2.2.2.2.2.2.2,true))))))) .fail)) .fail)))) .fail) (.opt (zD (qAE n) n (x0,(0:Int),(0:Int),(0:Int),false,false,(0:Int),(0:Int),false,false)) fun r203=>(.ask (decide (0≤(0:Int)∧(0:Int)≤r203.2.1∧r203.2.1≤r203.1.size)) (.opt (qB6 n (r203.1.extract ((0:Int)).toNat (r203.2.1).toNat)) fun r204=>(.ask (decide (0≤r203.2.1∧r203.2.1≤(r203.1.size:Int)∧(r203.1.size:Int)≤r203.1.size)) (.ask ((decide (((r203.1.extract (r203.2.1).toNat ((r203.1.size:Int)).toNat).size:Int)>(0:Int)))) (.ask (decide (0≤(0:Int))) (.opt ((r203.1.extract (r203.2.1).toNat ((r203.1.size:Int)).toNat).toList[((0:Int)).toNat]?) fun c205=>(.ask (((c205.toNat:Int)==(36:Int))) (.ask (decide (0≤(1:Int)∧(1:Int)≤((r203.1.extract (r203.2.1).toNat ((r203.1.size:Int)).toNat).size:Int)∧((r203.1.extract (r203.2.1).toNat ((r203.1.size:Int)).toNat).size:Int)≤(r203.1.extract (r203.2.1).toNat ((r203.1.size:Int)).toNat).size)) (.opt (qAC n ((r203.1.extract (r203.2.1).toNat ((r203.1.size:Int)).toNat).extract ((1:Int)).toNat (((r203.1.extract (r203.2.1).toNat ((r203.1.size:Int)).toNat).size:Int)).toNat) (2:Int)) fun r206=>(.ask ((!r206.2)) (.done ((0:Int),(0:Int),false,false,false)) (.opt (qAa n r204 r206.1) fun r207=>(.ask ((!r207)) (.done ((0:Int),(0:Int),false,false,false)) (.done (r204,r206.1,r203.2.2.2.2.2.2.2.2.1,true,true)))))) .fail) (.opt (qAC n (r203.1.extract (r203.2.1).toNat ((r203.1.size:Int)).toNat) (2:Int)) fun r208=>(.ask ((!r208.2)) (.done ((0:Int),(0:Int),false,false,false)) (.opt (qAa n r204 r208.1) fun r209=>(.ask ((!r209)) (.done ((0:Int),(0:Int),false,false,false)) (.done (r204,r208.1,r203.2.2.2.2.2.2.2.2.1,r203.2.2.2.2.2.2.2.2.2,true)))))))) .fail) (.opt (qAC n (r203.1.extract (r203.2.1).toNat ((r203.1.size:Int)).toNat) (2:Int)) fun r210=>(.ask ((!r210.2)) (.done ((0:Int),(0:Int),false,false,false)) (.opt (qAa n r204 r210.1) fun r211=>(.ask ((!r211)) (.done ((0:Int),(0:Int),false,false,false)) (.done (r204,r210.1,r203.2.2.2.2.2.2.2.2.1,r203.2.2.2.2.2.2.2.2.2,true))))))) .fail)) .fail)))
def qAn:Nat→BA→Option (Int×Int×Bool×Bool×Bool)
 |0,_=>none
 |n+1,x0=>(qB5 n x0).run
abbrev qGt (n:Nat):List (Ent (Rn n)):= [en (qMD n),en (qJM n),en (qEo n)]
def qI1 (n:Nat):LEnt (KB 133) (Rn n) n:=lok (zU 133) 62 ⟨⟨[(0,aS),(2,(.c (.ptr 0 128 0 0 0))),(4,(.c (.ptr 0 256 0 0 0))),(5,aI)],[(128,⟨0,4,61,(.box [qI,qI,qB,qB])⟩),(256,⟨0,4,61,(.box [qI,qI,qB,qB])⟩)],[]⟩,[(.exit 0,⟨[(0,aS),(2,(.c (.ptr 0 128 0 0 0))),(4,(.c (.ptr 0 256 0 0 0))),(5,aI)],[(128,⟨0,4,61,(.box [qI,qI,qB,qB])⟩),(256,⟨0,4,61,(.box [qI,qI,qB,qB])⟩)],[]⟩)]⟩ (qAE n) (qGt n) [] fun _=>(by kernel_rfl)
theorem qGC:∀n,Ok (Rn n) qLE (qAn n)
 |0=>ok0 fun _=>rfl
 |n+1=>stO (T:=qB5 n) (by kernel_rfl) (qGt n) [qI1 n] (fun _=>(by kernel_rfl)) fun _=>(by kernel_rfl)
def qLF:Sg:=⟨58,[aS],[],⟨(.tup [(true,[qI,qI,qS]),(false,[qB])]),[],[]⟩⟩
def qBQ (n:Nat) (v:BA×Int×Int×Int×BA×Int×Int×BA):Tr ((BA×Int×Int×Int×BA×Int×Int×BA)⊕((Int×Int×BA×Int×Int×BA))):=(.ask ((decide (v.2.1≤(5:Int)))) (.opt (qBM n v.2.1) fun r175=>(.ask ((r175.toList==v.1.toList)) (.done (.inl (v.1,(IntKind.i64.wrap (v.2.1+(1:Int))),v.2.2.1,v.2.2.2.1,v.2.2.2.2.1,v.2.2.2.2.2.1,v.2.1,v.2.2.2.2.2.2.2))) (.done (.inl (v.1,(IntKind.i64.wrap (v.2.1+(1:Int))),v.2.2.1,v.2.2.2.1,v.2.2.2.2.1,v.2.2.2.2.2.1,v.2.2.2.2.2.2.1,v.2.2.2.2.2.2.2))))) (.done (.inr ((v.2.2.1,v.2.2.2.1,v.2.2.2.2.1,v.2.2.2.2.2.1,v.2.2.2.2.2.2.1,v.2.2.2.2.2.2.2)))))
def qA3 (n:Nat) (x0:BA):Tr (Int×Int×BA×Bool):=(.ask ((x0.toList==(⟨#[]⟩:BA).toList)) (.done ((0:Int),(0:Int),(⟨#[]⟩:BA),true)) (.ask (decide (0≤(0:Int))) (.opt (x0.toList[((0:Int)).toNat]?) fun c168=>(.ask (((c168.toNat:Int)==(39:Int))) (.ask (decide (0≤(1:Int)∧(1:Int)≤(x0.size:Int)∧(x0.size:Int)≤x0.size)) (.opt (qn n (2:Int) (0:Int) (x0.extract ((1:Int)).toNat ((x0.size:Int)).toNat)) fun r169=>(.ask ((!r169)) (.done ((0:Int),(0:Int),(⟨#[]⟩:BA),false)) (.done ((2:Int),(0:Int),(x0.extract ((1:Int)).toNat ((x0.size:Int)).toNat),true)))) .fail) (.ask ((x0.toList==(⟨#[84,82,85,69]⟩:BA).toList)) (.ask ((x0.toList==(⟨#[84,82,85,69]⟩:BA).toList)) (.opt (qn n (3:Int) (1:Int) (⟨#[]⟩:BA)) fun r170=>(.ask ((!r170)) (.done ((0:Int),(0:Int),(⟨#[]⟩:BA),false)) (.done ((3:Int),(1:Int),(⟨#[]⟩:BA),true)))) (.opt (qn n (3:Int) (0:Int) (⟨#[]⟩:BA)) fun r171=>(.ask ((!r171)) (.done ((0:Int),(0:Int),(⟨#[]⟩:BA),false)) (.done ((3:Int),(0:Int),(⟨#[]⟩:BA),true))))) (.ask ((x0.toList==(⟨#[70,65,76,83,69]⟩:BA).toList)) (.ask ((x0.toList==(⟨#[84,82,85,69]⟩:BA).toList)) (.opt (qn n (3:Int) (1:Int) (⟨#[]⟩:BA)) fun r172=>(.ask ((!r172)) (.done ((0:Int),(0:Int),(⟨#[]⟩:BA),false)) (.done ((3:Int),(1:Int),(⟨#[]⟩:BA),true)))) (.opt (qn n (3:Int) (0:Int) (⟨#[]⟩:BA)) fun r173=>(.ask ((!r173)) (.done ((0:Int),(0:Int),(⟨#[]⟩:BA),false)) (.done ((3:Int),(0:Int),(⟨#[]⟩:BA),true))))) (.ask (decide (0≤(0:Int))) (.opt (x0.toList[((0:Int)).toNat]?) fun c174=>(.ask (((c174.toNat:Int)==(35:Int))) (.opt (zD (qBQ n) n (x0,(1:Int),(0:Int),(0:Int),(⟨#[]⟩:BA),(4:Int),(0:Int),(⟨#[]⟩:BA))) fun r176=>(.opt (qn n r176.2.2.2.1 r176.2.2.2.2.1 r176.2.2.2.2.2) fun r177=>(.ask ((!r177)) (.done ((0:Int),(0:Int),(⟨#[]⟩:BA),false)) (.done (r176.2.2.2.1,r176.2.2.2.2.1,r176.2.2.2.2.2,true))))) (.ask (decide (0≤(0:Int))) (.opt (x0.toList[((0:Int)).toNat]?) fun c178=>(.ask (((c178.toNat:Int)==(45:Int))) (.ask (decide (0≤(1:Int)∧(1:Int)≤(x0.size:Int)∧(x0.size:Int)≤x0.size)) (.opt (qAC n (x0.extract ((1:Int)).toNat ((x0.size:Int)).toNat) (16:Int)) fun r179=>(.ask ((!r179.2)) (.done ((0:Int),(0:Int),(⟨#[]⟩:BA),false)) (.ask (((c178.toNat:Int)==(45:Int))) (.ask ((r179.1==(0:Int))) (.done ((0:Int),(0:Int),(⟨#[]⟩:BA),false)) (.ask (((c178.toNat:Int)==(45:Int))) (.opt (qn n (1:Int) (IntKind.i64.wrap (0-r179.1)) (⟨#[]⟩:BA)) fun r180=>(.ask ((!r180)) (.done ((0:Int),(0:Int),(⟨#[]⟩:BA),false)) (.done ((1:Int),(IntKind.i64.wrap (0-r179.1)),(⟨#[]⟩:BA),true)))) (.opt (qn n (1:Int) r179.1 (⟨#[]⟩:BA)) fun r181=>(.ask ((!r181)) (.done ((0:Int),(0:Int),(⟨#[]⟩:BA),false)) (.done ((1:Int),r179.1,(⟨#[]⟩:BA),true)))))) (.ask (((c178.toNat:Int)==(45:Int))) (.opt (qn n (1:Int) (IntKind.i64.wrap (0-r179.1)) (⟨#[]⟩:BA)) fun r182=>(.ask ((!r182)) (.done ((0:Int),(0:Int),(⟨#[]⟩:BA),false)) (.done ((1:Int),(IntKind.i64.wrap (0-r179.1)),(⟨#[]⟩:BA),true)))) (.opt (qn n (1:Int) r179.1 (⟨#[]⟩:BA)) fun r183=>(.ask ((!r183)) (.done ((0:Int),(0:Int),(⟨#[]⟩:BA),false)) (.done ((1:Int),r179.1,(⟨#[]⟩:BA),true)))))))) .fail) (.opt (qAC n x0 (16:Int)) fun r184=>(.ask ((!r184.2)) (.done ((0:Int),(0:Int),(⟨#[]⟩:BA),false)) (.ask (((c178.toNat:Int)==(45:Int))) (.ask ((r184.1==(0:Int))) (.done ((0:Int),(0:Int),(⟨#[]⟩:BA),false)) (.ask (((c178.toNat:Int)==(45:Int))) (.opt (qn n (1:Int) (IntKind.i64.wrap (0-r184.1)) (⟨#[]⟩:BA)) fun r185=>(.ask ((!r185)) (.done ((0:Int),(0:Int),(⟨#[]⟩:BA),false)) (.done ((1:Int),(IntKind.i64.wrap (0-r184.1)),(⟨#[]⟩:BA),true)))) (.opt (qn n (1:Int) r184.1 (⟨#[]⟩:BA)) fun r186=>(.ask ((!r186)) (.done ((0:Int),(0:Int),(⟨#[]⟩:BA),false)) (.done ((1:Int),r184.1,(⟨#[]⟩:BA),true)))))) (.ask (((c178.toNat:Int)==(45:Int))) (.opt (qn n (1:Int) (IntKind.i64.wrap (0-r184.1)) (⟨#[]⟩:BA)) fun r187=>(.ask ((!r187)) (.done ((0:Int),(0:Int),(⟨#[]⟩:BA),false)) (.done ((1:Int),(IntKind.i64.wrap (0-r184.1)),(⟨#[]⟩:BA),true)))) (.opt (qn n (1:Int) r184.1 (⟨#[]⟩:BA)) fun r188=>(.ask ((!r188)) (.done ((0:Int),(0:Int),(⟨#[]⟩:BA),false)) (.done ((1:Int),r184.1,(⟨#[]⟩:BA),true)))))))))) .fail))) .fail))))) .fail))
def qAH:Nat→BA→Option (Int×Int×BA×Bool)
 |0,_=>none
 |n+1,x0=>(qA3 n x0).run
abbrev qGu (n:Nat):List (Ent (Rn n)):= [en (qE9 n),en (qFZ n),en (qJM n)]
def qHG (n:Nat):LEnt (KB 58) (Rn n) n:=lok (zU 58) 15355 ⟨⟨[(0,aS),(2,(.c (.ptr 0 128 0 0 0))),(4,(.c (.ptr 0 256 0 0 0))),(5,aI)],[(128,⟨0,3,37,(.box [qI,qI,qS])⟩),(256,⟨0,3,37,(.box [qI,qI,qS])⟩)],[]⟩,[(.exit 1,⟨[(2,(.c (.ptr 0 128 0 0 0))),(4,(.c (.ptr 0 256 0 0 0)))],[(128,⟨0,3,37,(.box [qI,qI,qS])⟩),(256,⟨0,3,37,(.box [qI,qI,qS])⟩)],[]⟩)]⟩ (qBQ n) (qGu n) [] fun _=>(by kernel_rfl)
theorem qKK:∀n,Ok (Rn n) qLF (qAH n)
 |0=>ok0 fun _=>rfl
 |n+1=>stO (T:=qA3 n) (by kernel_rfl) (qGu n) [qHG n] (fun _=>(by kernel_rfl)) fun _=>(by kernel_rfl)
def qMh:Sg:=⟨109,[aI],[],⟨aI,[],[]⟩⟩
def qFc (n:Nat) (x0:Int):Tr (Int):=(.ask ((decide (x0≥(6:Int)))) (.done (1:Int)) (.ask ((x0==(5:Int))) (.done (2:Int)) (.ask ((decide (x0≥(3:Int)))) (.done (4:Int)) (.done (3:Int)))))
def qB7:Nat→Int→Option (Int)
 |0,_=>none
 |n+1,x0=>(qFc n x0).run
theorem qHj:∀n,Ok (Rn n) qMh (qB7 n)
 |0=>ok0 fun _=>rfl
 |n+1=>stO (T:=qFc n) (by kernel_rfl) [] [] (fun _=>(by kernel_rfl)) fun _=>(by kernel_rfl)
def qMi:Sg:=⟨82,[(.c (.ptr 0 0 0 0 0)),aI],[[(0,⟨0,4,50,(.box [qS,qI,qB,(.own 0 1 1 0)])⟩),(1,⟨1,14,64,(.row [])⟩)]],⟨aI,[[(0,⟨0,4,50,(.box [qS,qI,qB,(.own 0 1 1 0)])⟩),(1,⟨1,14,64,(.row [])⟩)]],[]⟩⟩
def qEB (n:Nat) (v:Int×Nat×Int×RW×BA×Int×Bool×Nat×RW):Tr ((Int×Nat×Int×RW×BA×Int×Bool×Nat×RW)⊕((Int×BA×Int×Bool×Nat×RW)⊕(BA×Int×Bool×Nat×RW))):=(.ask ((decide (v.2.2.1<((v.2.1:Nat):Int)))) (.ask (decide (v.2.1=v.2.2.2.1.length∧0≤v.2.2.1∧v.2.2.1<((v.2.1:Nat):Int))) (.opt (v.2.2.2.1[(v.2.2.1).toNat]?) fun e197=>(.opt (zE .i64 e197 0) fun y198=>(.opt (qB7 n y198) fun r199=>(.ask ((r199==v.1)) (.ask (decide (v.2.1=v.2.2.2.1.length∧0≤v.2.2.1∧v.2.2.1<((v.2.1:Nat):Int))) (.opt (v.2.2.2.1[(v.2.2.1).toNat]?) fun e200=>(.opt (zE .i64 e200 0) fun y201=>(.opt (qBz n y201) fun r202=>(.opt (q8 n r202 v.2.2.2.2.1 v.2.2.2.2.2.1 v.2.2.2.2.2.2.1 v.2.2.2.2.2.2.2.1 v.2.2.2.2.2.2.2.2) fun r203=>(.ask (r203.1) (.ask (decide (v.2.1=v.2.2.2.1.length∧0≤v.2.2.1∧v.2.2.1<((v.2.1:Nat):Int))) (.opt (v.2.2.2.1[(v.2.2.1).toNat]?) fun e204=>(.opt (zE .i64 e204 0) fun y205=>(.done (.inr (.inl ((y205,r203.2.1,r203.2.2.1,r203.2.2.2.1,r203.2.2.2.2.1,r203.2.2.2.2.2))))))) .fail) (.done (.inl (v.1,v.2.1,(IntKind.i64.wrap (v.2.2.1+(1:Int))),v.2.2.2.1,r203.2.1,r203.2.2.1,r203.2.2.2.1,r203.2.2.2.2.1,r203.2.2.2.2.2)))))))) .fail) (.done (.inl (v.1,v.2.1,(IntKind.i64.wrap (v.2.2.1+(1:Int))),v.2.2.2.1,v.2.2.2.2.1,v.2.2.2.2.2.1,v.2.2.2.2.2.2.1,v.2.2.2.2.2.2.2.1,v.2.2.2.2.2.2.2.2))))))) .fail) (.done (.inr (.inr ((v.2.2.2.2.1,v.2.2.2.2.2.1,v.2.2.2.2.2.2.1,v.2.2.2.2.2.2.2.1,v.2.2.2.2.2.2.2.2))))))
def qIG (n:Nat) (x0:Int) (x1:BA) (x2:Int) (x3:Bool) (x4:Nat) (x5:RW):Tr (Int×BA×Int×Bool×Nat×RW):=(.opt (zD (qEB n) n (x0,(11:Nat),(0:Int),([[(.i .i64 (7:Int))],[(.i .i64 (9:Int))],[(.i .i64 (11:Int))],[(.i .i64 (6:Int))],[(.i .i64 (8:Int))],[(.i .i64 (10:Int))],[(.i .i64 (1:Int))],[(.i .i64 (2:Int))],[(.i .i64 (3:Int))],[(.i .i64 (4:Int))],[(.i .i64 (5:Int))]]:RW),x1,x2,x3,x4,x5)) fun r206=>(.alt r206 (fun r207=>(.done (r207.1,r207.2.1,r207.2.2.1,r207.2.2.2.1,r207.2.2.2.2.1,r207.2.2.2.2.2))) (fun r208=>(.done ((0:Int),r208.1,r208.2.1,r208.2.2.1,r208.2.2.2.1,r208.2.2.2.2)))))
def qEC:Nat→Int→BA→Int→Bool→Nat→RW→Option (Int×BA×Int×Bool×Nat×RW)
 |0,_,_,_,_,_,_=>none
 |n+1,x0,x1,x2,x3,x4,x5=>(qIG n x0 x1 x2 x3 x4 x5).run
abbrev qIH (n:Nat):List (Ent (Rn n)):= [en (qHj n),en (qFU n),en (qDs n)]
def qKL (n:Nat):LEnt (KB 82) (Rn n) n:=lok (zU 82) 29 ⟨⟨[(0,(.c (.ptr 0 0 0 0 0))),(1,aI),(5,(.c (.own 1 448 0 0))),(6,aI)],[(448,⟨0,1,2,(.row [])⟩)],[[(0,⟨0,4,50,(.box [qS,qI,qB,(.own 0 1 1 0)])⟩),(1,⟨1,14,64,(.row [])⟩)]]⟩,[(.ret,⟨[(4,aI)],[],[[(0,⟨0,4,50,(.box [qS,qI,qB,(.own 0 1 1 0)])⟩),(1,⟨1,14,64,(.row [])⟩)]]⟩),(.exit 0,⟨[],[],[[(0,⟨0,4,50,(.box [qS,qI,qB,(.own 0 1 1 0)])⟩),(1,⟨1,14,64,(.row [])⟩)]]⟩)]⟩ (qEB n) (qIH n) [] fun _=>(by kernel_rfl)
theorem qMF:∀n,Ok (Rn n) qMi (qEC n)
 |0=>ok0 fun _=>rfl
 |n+1=>stO (T:=qIG n) (by kernel_rfl) (qIH n) [qKL n] (fun _=>(by kernel_rfl)) fun _=>(by kernel_rfl)
def qHk:Sg:=⟨33,[(.c (.ptr 0 0 0 0 0)),aI],[[(0,⟨0,4,50,(.box [qS,qI,qB,(.own 0 1 1 0)])⟩),(1,⟨1,14,64,(.row [])⟩)]],⟨aI,[[(0,⟨0,4,50,(.box [qS,qI,qB,(.own 0 1 1 0)])⟩),(1,⟨1,14,64,(.row [])⟩)]],[]⟩⟩
def qMG:Sg:=⟨81,[(.c (.ptr 0 0 0 0 0))],[[(0,⟨0,4,50,(.box [qS,qI,qB,(.own 0 1 1 0)])⟩),(1,⟨1,14,64,(.row [])⟩)]],⟨aI,[[(0,⟨0,4,50,(.box [qS,qI,qB,(.own 0 1 1 0)])⟩),(1,⟨1,14,64,(.row [])⟩)]],[]⟩⟩
def qLG:Sg:=⟨132,[(.c (.ptr 0 0 0 0 0)),aI],[[(0,⟨0,4,50,(.box [qS,qI,qB,(.own 0 1 1 0)])⟩),(1,⟨1,14,64,(.row [])⟩)]],⟨aI,[[(0,⟨0,4,50,(.box [qS,qI,qB,(.own 0 1 1 0)])⟩),(1,⟨1,14,64,(.row [])⟩)]],[]⟩⟩
def qMH:Sg:=⟨159,[(.c (.ptr 0 0 0 0 0))],[[(0,⟨0,4,50,(.box [qS,qI,qB,(.own 0 1 1 0)])⟩),(1,⟨1,14,64,(.row [])⟩)]],⟨aI,[[(0,⟨0,4,50,(.box [qS,qI,qB,(.own 0 1 1 0)])⟩),(1,⟨1,14,64,(.row [])⟩)]],[]⟩⟩
structure G_spec_l3Rd_row where
 spec_l3Rd_row:Int→BA→Int→Bool→Nat→RW→Option (Int×BA×Int×Bool×Nat×RW)
 spec_l3Rd_one:BA→Int→Bool→Nat→RW→Option (Int×BA×Int×Bool×Nat×RW)
 spec_l3Rd_call:Int→BA→Int→Bool→Nat→RW→Option (Int×BA×Int×Bool×Nat×RW)
 spec_l3Rd_arg:BA→Int→Bool→Nat→RW→Option (Int×BA×Int×Bool×Nat×RW)
def qDu (rec:G_spec_l3Rd_row) (n:Nat) (v:Int×Int×BA×Int×Bool×Nat×RW):Tr ((Int×Int×BA×Int×Bool×Nat×RW)⊕((Int×BA×Int×Bool×Nat×RW)⊕(Int×BA×Int×Bool×Nat×RW))):=(.ask ((!v.2.2.2.2.1)) (.opt (qEC n v.1 v.2.2.1 v.2.2.2.1 v.2.2.2.2.1 v.2.2.2.2.2.1 v.2.2.2.2.2.2) fun r197=>(.ask ((r197.1==(0:Int))) (.done (.inr (.inl ((v.2.1,r197.2.1,r197.2.2.1,r197.2.2.2.1,r197.2.2.2.2.1,r197.2.2.2.2.2))))) (.opt (rec.spec_l3Rd_row (IntKind.i64.wrap (v.1+(1:Int))) r197.2.1 r197.2.2.1 r197.2.2.2.1 r197.2.2.2.2.1 r197.2.2.2.2.2) fun r198=>(.ask (decide (2=([[(.i .i64 v.2.1)],[(.i .i64 r198.1)]]:RW).length)) (.opt (qt n (5:Int) r197.1 (0:Int) (0:Int) (⟨#[]⟩:BA) (0:Int) (0:Int) false false (0:Int) (0:Int) false false ([[(.i .i64 v.2.1)],[(.i .i64 r198.1)]]:RW) r198.2.1 r198.2.2.1 r198.2.2.2.1 r198.2.2.2.2.1 r198.2.2.2.2.2) fun r199=>(.done (.inl (v.1,r199.1,r199.2.1,r199.2.2.1,r199.2.2.2.1,r199.2.2.2.2.1,r199.2.2.2.2.2)))) .fail)))) (.done (.inr (.inr ((v.2.1,v.2.2.1,v.2.2.2.1,v.2.2.2.2.1,v.2.2.2.2.2.1,v.2.2.2.2.2.2))))))
def qHl (rec:G_spec_l3Rd_row) (n:Nat) (x0:Int) (x1:BA) (x2:Int) (x3:Bool) (x4:Nat) (x5:RW):Tr (Int×BA×Int×Bool×Nat×RW):=(.ask (x3) (.done ((0:Int),x1,x2,x3,x4,x5)) (.ask ((x0==(5:Int))) (.opt (rec.spec_l3Rd_one x1 x2 x3 x4 x5) fun r195=>(.done (r195.1,r195.2.1,r195.2.2.1,r195.2.2.2.1,r195.2.2.2.2.1,r195.2.2.2.2.2))) (.opt (rec.spec_l3Rd_row (IntKind.i64.wrap (x0+(1:Int))) x1 x2 x3 x4 x5) fun r196=>(.opt (zD (qDu rec n) n (x0,r196.1,r196.2.1,r196.2.2.1,r196.2.2.2.1,r196.2.2.2.2.1,r196.2.2.2.2.2)) fun r200=>(.alt r200 (fun r201=>(.done (r201.1,r201.2.1,r201.2.2.1,r201.2.2.2.1,r201.2.2.2.2.1,r201.2.2.2.2.2))) (fun r202=>(.done (r202.1,r202.2.1,r202.2.2.1,r202.2.2.2.1,r202.2.2.2.2.1,r202.2.2.2.2.2))))))))
def qCO (n:Nat) (v:Int×BA×Int×Bool×Nat×RW):Tr ((Int×BA×Int×Bool×Nat×RW)⊕((Int×BA×Int×Bool×Nat×RW)⊕(BA×Int×Bool×Nat×RW))):=(.ask ((decide (v.1≤(5:Int)))) (.opt (qBM n v.1) fun r144=>(.ask (decide (0≤(1:Int)∧(1:Int)≤(r144.size:Int)∧(r144.size:Int)≤r144.size)) (.ask ((decide ((IntKind.i64.wrap (v.2.2.1+((r144.extract ((1:Int)).toNat ((r144.size:Int)).toNat).size:Int)))≤(v.2.1.size:Int)))) (.ask (decide (0≤v.2.2.1∧v.2.2.1≤(IntKind.i64.wrap (v.2.2.1+((r144.extract ((1:Int)).toNat ((r144.size:Int)).toNat).size:Int)))∧(IntKind.i64.wrap (v.2.2.1+((r144.extract ((1:Int)).toNat ((r144.size:Int)).toNat).size:Int)))≤v.2.1.size)) (.ask (((v.2.1.extract (v.2.2.1).toNat ((IntKind.i64.wrap (v.2.2.1+((r144.extract ((1:Int)).toNat ((r144.size:Int)).toNat).size:Int)))).toNat).toList==(r144.extract ((1:Int)).toNat ((r144.size:Int)).toNat).toList)) (.opt (qCm n v.1) fun r145=>(.opt (qt n (1:Int) (0:Int) r145.1 r145.2.1 r145.2.2 (0:Int) (0:Int) false false (0:Int) (0:Int) false false ([]:RW) v.2.1 (IntKind.i64.wrap (v.2.2.1+((r144.extract ((1:Int)).toNat ((r144.size:Int)).toNat).size:Int))) v.2.2.2.1 v.2.2.2.2.1 v.2.2.2.2.2) fun r146=>(.done (.inr (.inl ((r146.1,r146.2.1,r146.2.2.1,r146.2.2.2.1,r146.2.2.2.2.1,r146.2.2.2.2.2))))))) (.done (.inl ((IntKind.i64.wrap (v.1+(1:Int))),v.2.1,v.2.2.1,v.2.2.2.1,v.2.2.2.2.1,v.2.2.2.2.2)))) .fail) (.done (.inl ((IntKind.i64.wrap (v.1+(1:Int))),v.2.1,v.2.2.1,v.2.2.2.1,v.2.2.2.2.1,v.2.2.2.2.2)))) .fail)) (.done (.inr (.inr ((v.2.1,v.2.2.1,v.2.2.2.1,v.2.2.2.2.1,v.2.2.2.2.2))))))
def qCv (rec:G_spec_l3Rd_row) (n:Nat) (v:BA×Int×BA×Int×Bool×Nat×RW):Tr ((BA×Int×BA×Int×Bool×Nat×RW)⊕((Int×BA×Int×Bool×Nat×RW)⊕(BA×BA×Int×Bool×Nat×RW))):=(.ask ((decide (v.2.1≤(10:Int)))) (.opt (qCM n v.2.1) fun r162=>(.ask ((r162.toList==v.1.toList)) (.opt (q8 n (⟨#[40]⟩:BA) v.2.2.1 v.2.2.2.1 v.2.2.2.2.1 v.2.2.2.2.2.1 v.2.2.2.2.2.2) fun r163=>(.ask (r163.1) (.opt (rec.spec_l3Rd_call v.2.1 r163.2.1 r163.2.2.1 r163.2.2.2.1 r163.2.2.2.2.1 r163.2.2.2.2.2) fun r164=>(.done (.inr (.inl ((r164.1,r164.2.1,r164.2.2.1,r164.2.2.2.1,r164.2.2.2.2.1,r164.2.2.2.2.2)))))) (.done (.inl (v.1,(IntKind.i64.wrap (v.2.1+(1:Int))),r163.2.1,r163.2.2.1,r163.2.2.2.1,r163.2.2.2.2.1,r163.2.2.2.2.2))))) (.done (.inl (v.1,(IntKind.i64.wrap (v.2.1+(1:Int))),v.2.2.1,v.2.2.2.1,v.2.2.2.2.1,v.2.2.2.2.2.1,v.2.2.2.2.2.2))))) (.done (.inr (.inr ((v.1,v.2.2.1,v.2.2.2.1,v.2.2.2.2.1,v.2.2.2.2.2.1,v.2.2.2.2.2.2))))))
def qHm (rec:G_spec_l3Rd_row) (n:Nat) (x0:BA) (x1:Int) (x2:Bool) (x3:Nat) (x4:RW):Tr (Int×BA×Int×Bool×Nat×RW):=(.opt (q8 n (⟨#[45]⟩:BA) x0 x1 x2 x3 x4) fun r116=>(.ask (r116.1) (.opt (rec.spec_l3Rd_row (5:Int) r116.2.1 r116.2.2.1 r116.2.2.2.1 r116.2.2.2.2.1 r116.2.2.2.2.2) fun r117=>(.ask (decide (1=([[(.i .i64 r117.1)]]:RW).length)) (.opt (qt n (4:Int) (0:Int) (0:Int) (0:Int) (⟨#[]⟩:BA) (0:Int) (0:Int) false false (0:Int) (0:Int) false false ([[(.i .i64 r117.1)]]:RW) r117.2.1 r117.2.2.1 r117.2.2.2.1 r117.2.2.2.2.1 r117.2.2.2.2.2) fun r130=>(.done (r130.1,r130.2.1,r130.2.2.1,r130.2.2.2.1,r130.2.2.2.2.1,r130.2.2.2.2.2))) .fail)) (.opt (q8 n (⟨#[40]⟩:BA) r116.2.1 r116.2.2.1 r116.2.2.2.1 r116.2.2.2.2.1 r116.2.2.2.2.2) fun r131=>(.ask (r131.1) (.opt (rec.spec_l3Rd_row (1:Int) r131.2.1 r131.2.2.1 r131.2.2.2.1 r131.2.2.2.2.1 r131.2.2.2.2.2) fun r132=>(.opt (q8 n (⟨#[41]⟩:BA) r132.2.1 r132.2.2.1 r132.2.2.2.1 r132.2.2.2.2.1 r132.2.2.2.2.2) fun r133=>(.ask ((!r133.1)) (.done (r132.1,r133.2.1,r133.2.2.1,true,r133.2.2.2.2.1,r133.2.2.2.2.2)) (.done (r132.1,r133.2.1,r133.2.2.1,r133.2.2.2.1,r133.2.2.2.2.1,r133.2.2.2.2.2))))) (.opt (q8 n (⟨#[34]⟩:BA) r131.2.1 r131.2.2.1 r131.2.2.2.1 r131.2.2.2.2.1 r131.2.2.2.2.2) fun r134=>(.ask (r134.1) (.opt (qEf n r134.2.1 r134.2.2.1 r134.2.2.2.1 r134.2.2.2.2.1 r134.2.2.2.2.2) fun r142=>(.done (r142.1,r142.2.1,r142.2.2.1,r142.2.2.2.1,r142.2.2.2.2.1,r142.2.2.2.2.2))) (.opt (q8 n (⟨#[35]⟩:BA) r134.2.1 r134.2.2.1 r134.2.2.2.1 r134.2.2.2.2.1 r134.2.2.2.2.2) fun r143=>(.ask (r143.1) (.opt (zD (qCO n) n ((1:Int),r143.2.1,r143.2.2.1,r143.2.2.2.1,r143.2.2.2.2.1,r143.2.2.2.2.2)) fun r147=>(.alt r147 (fun r148=>(.done (r148.1,r148.2.1,r148.2.2.1,r148.2.2.2.1,r148.2.2.2.2.1,r148.2.2.2.2.2))) (fun r149=>(.done ((0:Int),r149.1,r149.2.1,true,r149.2.2.2.1,r149.2.2.2.2))))) (.opt (qCn n r143.2.1 r143.2.2.1 r143.2.2.2.1 r143.2.2.2.2.1 r143.2.2.2.2.2) fun r161=>(.opt (zD (qCv rec n) n (r161.1,(1:Int),r161.2.1,r161.2.2.1,r161.2.2.2.1,r161.2.2.2.2.1,r161.2.2.2.2.2)) fun r165=>(.alt r165 (fun r166=>(.done (r166.1,r166.2.1,r166.2.2.1,r166.2.2.2.1,r166.2.2.2.2.1,r166.2.2.2.2.2))) (fun r167=>(.opt (qAH n r167.1) fun r189=>(.ask (r189.2.2.2) (.ask ((!(r167.1.toList==(⟨#[]⟩:BA).toList))) (.opt (qt n (1:Int) (0:Int) r189.1 r189.2.1 r189.2.2.1 (0:Int) (0:Int) false false (0:Int) (0:Int) false false ([]:RW) r167.2.1 r167.2.2.1 r167.2.2.2.1 r167.2.2.2.2.1 r167.2.2.2.2.2) fun r190=>(.done (r190.1,r190.2.1,r190.2.2.1,r190.2.2.2.1,r190.2.2.2.2.1,r190.2.2.2.2.2))) (.opt (qAn n r167.1) fun r191=>(.ask ((!r191.2.2.2.2)) (.done ((0:Int),r167.2.1,r167.2.2.1,true,r167.2.2.2.2.1,r167.2.2.2.2.2)) (.opt (qt n (2:Int) (0:Int) (0:Int) (0:Int) (⟨#[]⟩:BA) r191.1 r191.2.1 r191.2.2.1 r191.2.2.2.1 (0:Int) (0:Int) false false ([]:RW) r167.2.1 r167.2.2.1 r167.2.2.2.1 r167.2.2.2.2.1 r167.2.2.2.2.2) fun r192=>(.done (r192.1,r192.2.1,r192.2.2.1,r192.2.2.2.1,r192.2.2.2.2.1,r192.2.2.2.2.2)))))) (.opt (qAn n r167.1) fun r193=>(.ask ((!r193.2.2.2.2)) (.done ((0:Int),r167.2.1,r167.2.2.1,true,r167.2.2.2.2.1,r167.2.2.2.2.2)) (.opt (qt n (2:Int) (0:Int) (0:Int) (0:Int) (⟨#[]⟩:BA) r193.1 r193.2.1 r193.2.2.1 r193.2.2.2.1 (0:Int) (0:Int) false false ([]:RW) r167.2.1 r167.2.2.1 r167.2.2.2.1 r167.2.2.2.2.1 r167.2.2.2.2.2) fun r194=>(.done (r194.1,r194.2.1,r194.2.2.1,r194.2.2.2.1,r194.2.2.2.2.1,r194.2.2.2.2.2)))))))))))))))))))
def qDc (rec:G_spec_l3Rd_row) (n:Nat) (v:Int×Nat×RW×BA×Int×Bool×Nat×RW):Tr ((Int×Nat×RW×BA×Int×Bool×Nat×RW)⊕((Int×BA×Int×Bool×Nat×RW)⊕(BA×Int×Bool×Nat×RW))):=(.ask ((!v.2.2.2.2.2.1)) (.opt (rec.spec_l3Rd_arg v.2.2.2.1 v.2.2.2.2.1 v.2.2.2.2.2.1 v.2.2.2.2.2.2.1 v.2.2.2.2.2.2.2) fun r166=>(.ask (decide (1=([[(.i .i64 r166.1)]]:RW).length)) (.ask (decide (v.2.1=v.2.2.1.length∧0<1∧0<8∧(v.2.1+([[(.i .i64 r166.1)]]:RW).length)*8≤140737488355328∧([[(.i .i64 r166.1)]]:RW).all (fun e=>e.length==1)=true)) (.opt (q8 n (⟨#[41]⟩:BA) r166.2.1 r166.2.2.1 r166.2.2.2.1 r166.2.2.2.2.1 r166.2.2.2.2.2) fun r167=>(.ask (r167.1) (.ask (decide ((v.2.1+1)=(v.2.2.1++([[(.i .i64 r166.1)]]:RW)).length)) (.opt (qt n (6:Int) v.1 (0:Int) (0:Int) (⟨#[]⟩:BA) (0:Int) (0:Int) false false (0:Int) (0:Int) false false (v.2.2.1++([[(.i .i64 r166.1)]]:RW)) r167.2.1 r167.2.2.1 r167.2.2.2.1 r167.2.2.2.2.1 r167.2.2.2.2.2) fun r168=>(.done (.inr (.inl ((r168.1,r168.2.1,r168.2.2.1,r168.2.2.2.1,r168.2.2.2.2.1,r168.2.2.2.2.2)))))) .fail) (.opt (q8 n (⟨#[44]⟩:BA) r167.2.1 r167.2.2.1 r167.2.2.2.1 r167.2.2.2.2.1 r167.2.2.2.2.2) fun r169=>(.ask ((!r169.1)) (.done (.inl (v.1,(v.2.1+1),(v.2.2.1++([[(.i .i64 r166.1)]]:RW)),r169.2.1,r169.2.2.1,true,r169.2.2.2.2.1,r169.2.2.2.2.2))) (.done (.inl (v.1,(v.2.1+1),(v.2.2.1++([[(.i .i64 r166.1)]]:RW)),r169.2.1,r169.2.2.1,r169.2.2.2.1,r169.2.2.2.2.1,r169.2.2.2.2.2))))))) .fail) .fail)) (.done (.inr (.inr ((v.2.2.2.1,v.2.2.2.2.1,v.2.2.2.2.2.1,v.2.2.2.2.2.2.1,v.2.2.2.2.2.2.2))))))
def qGv (rec:G_spec_l3Rd_row) (n:Nat) (x0:Int) (x1:BA) (x2:Int) (x3:Bool) (x4:Nat) (x5:RW):Tr (Int×BA×Int×Bool×Nat×RW):=(.opt (zD (qDc rec n) n (x0,(0:Nat),([]:RW),x1,x2,x3,x4,x5)) fun r170=>(.alt r170 (fun r171=>(.done (r171.1,r171.2.1,r171.2.2.1,r171.2.2.2.1,r171.2.2.2.2.1,r171.2.2.2.2.2))) (fun r172=>(.done ((0:Int),r172.1,r172.2.1,r172.2.2.1,r172.2.2.2.1,r172.2.2.2.2)))))
def qHn (rec:G_spec_l3Rd_row) (n:Nat) (x0:BA) (x1:Int) (x2:Bool) (x3:Nat) (x4:RW):Tr (Int×BA×Int×Bool×Nat×RW):=(.opt (qBZ n x0 x1 x2 x3 x4) fun r166=>(.opt (qCn n r166.1 r166.2.1 r166.2.2.1 r166.2.2.2.1 r166.2.2.2.2) fun r167=>(.opt (qAn n r167.1) fun r212=>(.ask (r212.2.2.2.2) (.opt (q8 n (⟨#[58]⟩:BA) r167.2.1 r167.2.2.1 r167.2.2.2.1 r167.2.2.2.2.1 r167.2.2.2.2.2) fun r213=>(.ask (r213.1) (.opt (qBZ n r213.2.1 r213.2.2.1 r213.2.2.2.1 r213.2.2.2.2.1 r213.2.2.2.2.2) fun r214=>(.opt (qCn n r214.1 r214.2.1 r214.2.2.1 r214.2.2.2.1 r214.2.2.2.2) fun r215=>(.opt (qAn n r215.1) fun r216=>(.ask ((!r216.2.2.2.2)) (.done ((0:Int),r215.2.1,r215.2.2.1,true,r215.2.2.2.2.1,r215.2.2.2.2.2)) (.opt (qt n (3:Int) (0:Int) (0:Int) (0:Int) (⟨#[]⟩:BA) r212.1 r212.2.1 r212.2.2.1 r212.2.2.2.1 r216.1 r216.2.1 r216.2.2.1 r216.2.2.2.1 ([]:RW) r215.2.1 r215.2.2.1 r215.2.2.2.1 r215.2.2.2.2.1 r215.2.2.2.2.2) fun r217=>(.done (r217.1,r217.2.1,r217.2.2.1,r217.2.2.2.1,r217.2.2.2.2.1,r217.2.2.2.2.2))))))) (.opt (rec.spec_l3Rd_row (1:Int) r213.2.1 r166.2.1 r213.2.2.2.1 r213.2.2.2.2.1 r213.2.2.2.2.2) fun r218=>(.done (r218.1,r218.2.1,r218.2.2.1,r218.2.2.2.1,r218.2.2.2.2.1,r218.2.2.2.2.2))))) (.opt (rec.spec_l3Rd_row (1:Int) r167.2.1 r166.2.1 r167.2.2.2.1 r167.2.2.2.2.1 r167.2.2.2.2.2) fun r219=>(.done (r219.1,r219.2.1,r219.2.2.1,r219.2.2.2.1,r219.2.2.2.2.1,r219.2.2.2.2.2)))))))
def qe:Nat→G_spec_l3Rd_row
 |0=>⟨fun _ _ _ _ _ _=>none,fun _ _ _ _ _=>none,fun _ _ _ _ _ _=>none,fun _ _ _ _ _=>none⟩
 |n+1=>⟨fun x0 x1 x2 x3 x4 x5=>(qHl (qe n) n x0 x1 x2 x3 x4 x5).run,fun x0 x1 x2 x3 x4=>(qHm (qe n) n x0 x1 x2 x3 x4).run,fun x0 x1 x2 x3 x4 x5=>(qGv (qe n) n x0 x1 x2 x3 x4 x5).run,fun x0 x1 x2 x3 x4=>(qHn (qe n) n x0 x1 x2 x3 x4).run⟩
def qDt (n:Nat) (x0:Int) (x1:BA) (x2:Int) (x3:Bool) (x4:Nat) (x5:RW):Option (Int×BA×Int×Bool×Nat×RW):=(qe n).spec_l3Rd_row x0 x1 x2 x3 x4 x5
def qHo (n:Nat) (x0:BA) (x1:Int) (x2:Bool) (x3:Nat) (x4:RW):Option (Int×BA×Int×Bool×Nat×RW):=(qe n).spec_l3Rd_one x0 x1 x2 x3 x4
def qGw (n:Nat) (x0:Int) (x1:BA) (x2:Int) (x3:Bool) (x4:Nat) (x5:RW):Option (Int×BA×Int×Bool×Nat×RW):=(qe n).spec_l3Rd_call x0 x1 x2 x3 x4 x5
def qHp (n:Nat) (x0:BA) (x1:Int) (x2:Bool) (x3:Nat) (x4:RW):Option (Int×BA×Int×Bool×Nat×RW):=(qe n).spec_l3Rd_arg x0 x1 x2 x3 x4
def qA4 (n:Nat):Prop:=
 Ok (Rn n) qHk (qDt n)∧
 Ok (Rn n) qMG (qHo n)∧
 Ok (Rn n) qLG (qGw n)∧
 Ok (Rn n) qMH (qHp n)
abbrev qHq (n:Nat) (ih:qA4 n):List (Ent (Rn n)):= [en ih.2.1,en ih.1,en (qMF n),en (qCl n)]
def qJc (n:Nat) (ih:qA4 n):LEnt (KB 33) (Rn n) n:=lok (zU 33) 62 ⟨⟨[(0,(.c (.ptr 0 0 0 0 0))),(1,aI),(5,aI)],[],[[(0,⟨0,4,50,(.box [qS,qI,qB,(.own 0 1 1 0)])⟩),(1,⟨1,14,64,(.row [])⟩)]]⟩,[(.ret,⟨[(4,aI)],[],[[(0,⟨0,4,50,(.box [qS,qI,qB,(.own 0 1 1 0)])⟩),(1,⟨1,14,64,(.row [])⟩)]]⟩),(.exit 0,⟨[(5,aI)],[],[[(0,⟨0,4,50,(.box [qS,qI,qB,(.own 0 1 1 0)])⟩),(1,⟨1,14,64,(.row [])⟩)]]⟩)]⟩ (qDu (qe n) n) (qHq n ih) [] fun _=>(by kernel_rfl)
abbrev qFB (n:Nat) (ih:qA4 n):List (Ent (Rn n)):= [en (qDs n),en ih.1,en (qCl n),en (qKH n),en (qFZ n),en (qMC n),en (qGB n),en (qKI n),en ih.2.2.1,en (qKK n),en (qGC n)]
def qII (n:Nat) (ih:qA4 n):LEnt (KB 81) (Rn n) n:=lok (zU 81) 7161 ⟨⟨[(0,(.c (.ptr 0 0 0 0 0))),(5,aI)],[],[[(0,⟨0,4,50,(.box [qS,qI,qB,(.own 0 1 1 0)])⟩),(1,⟨1,14,64,(.row [])⟩)]]⟩,[(.ret,⟨[(2,aI)],[],[[(0,⟨0,4,50,(.box [qS,qI,qB,(.own 0 1 1 0)])⟩),(1,⟨1,14,64,(.row [])⟩)]]⟩),(.exit 1,⟨[(0,(.c (.ptr 0 0 0 0 0)))],[],[[(0,⟨0,4,50,(.box [qS,qI,qB,(.own 0 1 1 0)])⟩),(1,⟨1,14,64,(.row [])⟩)]]⟩)]⟩ (qCO n) (qFB n ih) [] fun _=>(by kernel_rfl)
def qJd (n:Nat) (ih:qA4 n):LEnt (KB 81) (Rn n) n:=lok (zU 81) 61 ⟨⟨[(0,(.c (.ptr 0 0 0 0 0))),(7,aS),(8,aI)],[],[[(0,⟨0,4,50,(.box [qS,qI,qB,(.own 0 1 1 0)])⟩),(1,⟨1,14,64,(.row [])⟩)]]⟩,[(.ret,⟨[(2,aI)],[],[[(0,⟨0,4,50,(.box [qS,qI,qB,(.own 0 1 1 0)])⟩),(1,⟨1,14,64,(.row [])⟩)]]⟩),(.exit 3,⟨[(0,(.c (.ptr 0 0 0 0 0))),(7,aS)],[],[[(0,⟨0,4,50,(.box [qS,qI,qB,(.own 0 1 1 0)])⟩),(1,⟨1,14,64,(.row [])⟩)]]⟩)]⟩ (qCv (qe n) n) (qFB n ih) [] fun _=>(by kernel_rfl)
abbrev qGx (n:Nat) (ih:qA4 n):List (Ent (Rn n)):= [en ih.2.2.2,en (qDs n),en (qCl n)]
def qI2 (n:Nat) (ih:qA4 n):LEnt (KB 132) (Rn n) n:=lok (zU 132) 14 ⟨⟨[(0,(.c (.ptr 0 0 0 0 0))),(1,aI),(5,(.c (.own 1 384 0 0)))],[(384,⟨0,1,2,(.row [])⟩)],[[(0,⟨0,4,50,(.box [qS,qI,qB,(.own 0 1 1 0)])⟩),(1,⟨1,14,64,(.row [])⟩)]]⟩,[(.ret,⟨[(4,aI)],[],[[(0,⟨0,4,50,(.box [qS,qI,qB,(.own 0 1 1 0)])⟩),(1,⟨1,14,64,(.row [])⟩)]]⟩),(.exit 0,⟨[],[],[[(0,⟨0,4,50,(.box [qS,qI,qB,(.own 0 1 1 0)])⟩),(1,⟨1,14,64,(.row [])⟩)]]⟩)]⟩ (qDc (qe n) n) (qGx n ih) [] fun _=>(by kernel_rfl)
abbrev qMI (n:Nat) (ih:qA4 n):List (Ent (Rn n)):= [en (qDa n),en (qGB n),en (qGC n),en (qDs n),en (qCl n),en ih.1]
theorem qA5:∀n,qA4 n
 |0=>⟨ok0 fun _=>rfl,ok0 fun _=>rfl,ok0 fun _=>rfl,ok0 fun _=>rfl⟩
 |n+1=>⟨stO (T:=qHl (qe n) n) (by kernel_rfl) (qHq n (qA5 n)) [qJc n (qA5 n)] (fun _=>(by kernel_rfl)) fun _=>(by kernel_rfl),stO (T:=qHm (qe n) n) (by kernel_rfl) (qFB n (qA5 n)) [qII n (qA5 n),qJd n (qA5 n)] (fun _=>(by kernel_rfl)) fun _=>(by kernel_rfl),stO (T:=qGv (qe n) n) (by kernel_rfl) (qGx n (qA5 n)) [qI2 n (qA5 n)] (fun _=>(by kernel_rfl)) fun _=>(by kernel_rfl),stO (T:=qHn (qe n) n) (by kernel_rfl) (qMI n (qA5 n)) [] (fun _=>(by kernel_rfl)) fun _=>(by kernel_rfl)⟩
theorem qLH (n:Nat):Ok (Rn n) qHk (qDt n):=(qA5 n).1
def qGS:Sg:=⟨54,[aL,aI],[],⟨aI,[],[]⟩⟩
def qA6 (rec:RW→Int→Option (Int)) (n:Nat) (v:RW×Int×Int×Int):Tr ((RW×Int×Int×Int)⊕((Int)⊕(Int))):=(.ask ((decide (v.2.2.2≥(0:Int)))) (.ask ((decide (v.2.2.1<(0:Int)))) (.done (.inr (.inl ((-1:Int))))) (.ask (decide (0≤v.2.1∧v.2.1<v.1.length)) (.opt (v.1[(v.2.1).toNat]?) fun e240=>(.ask (decide (e240.length=14)) (.opt (zAW e240 13) fun y241=>(.ask (decide (0≤v.2.2.2∧v.2.2.2<y241.length)) (.opt (y241[(v.2.2.2).toNat]?) fun e242=>(.ask (decide (e242.length=1)) (.opt (zE .i64 e242 0) fun y243=>(.ask ((y243 !=v.2.2.1)) (.done (.inr (.inl ((-1:Int))))) (.opt (rec v.1 v.2.2.1) fun r244=>(.ask ((decide (r244<(0:Int)))) (.done (.inr (.inl ((-1:Int))))) (.done (.inl (v.1,v.2.1,(IntKind.i64.wrap (r244-(1:Int))),(IntKind.i64.wrap (v.2.2.2-(1:Int)))))))))) .fail)) .fail)) .fail)) .fail)) (.done (.inr (.inr (v.2.2.1)))))
def qGT (rec:RW→Int→Option (Int)) (n:Nat) (x0:RW) (x1:Int):Tr (Int):=(.ask (decide (0≤x1∧x1<x0.length)) (.opt (x0[(x1).toNat]?) fun e238=>(.ask (decide (e238.length=14)) (.opt (zAW e238 13) fun y239=>(.opt (zD (qA6 rec n) n (x0,x1,(IntKind.i64.wrap (x1-(1:Int))),(IntKind.i64.wrap ((y239.length:Int)-(1:Int))))) fun r245=>(.alt r245 (fun r246=>(.done r246)) (fun r247=>(.done (IntKind.i64.wrap (r247+(1:Int)))))))) .fail)) .fail)
def qAo:Nat→RW→Int→Option (Int)
 |0,_,_=>none
 |n+1,x0,x1=>(qGT (qAo n) n x0 x1).run
abbrev qJN (n:Nat) (ih:Ok (Rn n) qGS (qAo n)):List (Ent (Rn n)):= [en ih]
def qLI (n:Nat) (ih:Ok (Rn n) qGS (qAo n)):LEnt (KB 54) (Rn n) n:=lok (zU 54) 29 ⟨⟨[(0,aL),(1,aI),(5,aI),(6,aI)],[],[]⟩,[(.ret,⟨[(4,aI)],[],[]⟩),(.exit 0,⟨[(5,aI)],[],[]⟩)]⟩ (qA6 (qAo n) n) (qJN n ih) [] fun _=>(by kernel_rfl)
theorem qFd:∀n,Ok (Rn n) qGS (qAo n)
 |0=>ok0 fun _=>rfl
 |n+1=>stO (T:=qGT (qAo n) n) (by kernel_rfl) (qJN n (qFd n)) [qLI n (qFd n)] (fun _=>(by kernel_rfl)) fun _=>(by kernel_rfl)
def qGU:Sg:=⟨55,[aL,aI],[],⟨aI,[],[]⟩⟩
def qCo (rec:RW→Int→Option (Int)) (n:Nat) (v:RW×Int×Int×Int):Tr ((RW×Int×Int×Int)⊕((Int))):=(.ask (decide (0≤v.2.1∧v.2.1<v.1.length)) (.opt (v.1[(v.2.1).toNat]?) fun e251=>(.ask (decide (e251.length=14)) (.opt (zAW e251 13) fun y252=>(.ask ((decide (v.2.2.2<(y252.length:Int)))) (.ask (decide (0≤v.2.1∧v.2.1<v.1.length)) (.opt (v.1[(v.2.1).toNat]?) fun e253=>(.ask (decide (e253.length=14)) (.opt (zAW e253 13) fun y254=>(.ask (decide (0≤v.2.2.2∧v.2.2.2<y254.length)) (.opt (y254[(v.2.2.2).toNat]?) fun e255=>(.ask (decide (e255.length=1)) (.opt (zE .i64 e255 0) fun y256=>(.opt (rec v.1 y256) fun r257=>(.done (.inl (v.1,v.2.1,(if r257>v.2.2.1 then r257 else v.2.2.1),(IntKind.i64.wrap (v.2.2.2+(1:Int)))))))) .fail)) .fail)) .fail)) .fail) (.done (.inr (v.2.2.1))))) .fail)) .fail)
def qGV (rec:RW→Int→Option (Int)) (n:Nat) (x0:RW) (x1:Int):Tr (Int):=(.opt (zD (qCo rec n) n (x0,x1,(0:Int),(0:Int))) fun r258=>(.done (IntKind.i64.wrap (r258+(1:Int)))))
def qAp:Nat→RW→Int→Option (Int)
 |0,_,_=>none
 |n+1,x0,x1=>(qGV (qAp n) n x0 x1).run
abbrev qJO (n:Nat) (ih:Ok (Rn n) qGU (qAp n)):List (Ent (Rn n)):= [en ih]
def qLJ (n:Nat) (ih:Ok (Rn n) qGU (qAp n)):LEnt (KB 55) (Rn n) n:=lok (zU 55) 29 ⟨⟨[(0,aL),(1,aI),(5,aI),(6,aI)],[],[]⟩,[(.exit 0,⟨[(5,aI)],[],[]⟩)]⟩ (qCo (qAp n) n) (qJO n ih) [] fun _=>(by kernel_rfl)
theorem qFe:∀n,Ok (Rn n) qGU (qAp n)
 |0=>ok0 fun _=>rfl
 |n+1=>stO (T:=qGV (qAp n) n) (by kernel_rfl) (qJO n (qFe n)) [qLJ n (qFe n)] (fun _=>(by kernel_rfl)) fun _=>(by kernel_rfl)
def qLK:Sg:=⟨21,[aL],[],⟨aB,[],[]⟩⟩
def qAg (n:Nat) (v:RW×Int×Int):Tr ((RW×Int×Int)⊕((Bool)⊕(RW×Int))):=(.ask (decide (0≤v.2.1∧v.2.1<v.1.length)) (.opt (v.1[(v.2.1).toNat]?) fun e221=>(.ask (decide (e221.length=14)) (.opt (zAW e221 13) fun y222=>(.ask ((decide (v.2.2<(y222.length:Int)))) (.ask (decide (0≤v.2.1∧v.2.1<v.1.length)) (.opt (v.1[(v.2.1).toNat]?) fun e223=>(.ask (decide (e223.length=14)) (.opt (zAW e223 13) fun y224=>(.ask (decide (0≤v.2.2∧v.2.2<y224.length)) (.opt (y224[(v.2.2).toNat]?) fun e225=>(.ask (decide (e225.length=1)) (.opt (zE .i64 e225 0) fun y226=>(.opt (qBI n y226 (0:Int) (IntKind.i64.wrap (v.2.1-(1:Int)))) fun r227=>(.ask ((!r227)) (.done (.inr (.inl (false)))) (.ask (decide (0≤y226∧y226<v.1.length)) (.opt (v.1[(y226).toNat]?) fun e228=>(.ask (decide (e228.length=14)) (.opt (zE .i64 e228 0) fun y229=>(.ask ((y229==(3:Int))) (.ask (decide (0≤v.2.1∧v.2.1<v.1.length)) (.opt (v.1[(v.2.1).toNat]?) fun e230=>(.ask (decide (e230.length=14)) (.opt (zE .i64 e230 0) fun y231=>(.ask ((y231 !=(6:Int))) (.done (.inr (.inl (false)))) (.done (.inl (v.1,v.2.1,(IntKind.i64.wrap (v.2.2+(1:Int)))))))) .fail)) .fail) (.done (.inl (v.1,v.2.1,(IntKind.i64.wrap (v.2.2+(1:Int)))))))) .fail)) .fail)))) .fail)) .fail)) .fail)) .fail) (.done (.inr (.inr ((v.1,v.2.1))))))) .fail)) .fail)
def qBA (n:Nat) (v:RW×Int):Tr ((RW×Int)⊕((Bool)⊕(RW))):=(.ask ((decide (v.2<(v.1.length:Int)))) (.ask (decide (0≤v.2∧v.2<v.1.length)) (.opt (v.1[(v.2).toNat]?) fun e205=>(.ask (decide (e205.length=14)) (.opt (zE .i64 e205 0) fun y206=>(.opt (zE .i64 e205 1) fun y207=>(.opt (zE .i64 e205 2) fun y208=>(.opt (zE .i64 e205 3) fun y209=>(.opt (zu e205 4) fun y210=>(.opt (zE .i64 e205 5) fun y211=>(.opt (zE .i64 e205 6) fun y212=>(.opt (zi e205 7) fun y213=>(.opt (zi e205 8) fun y214=>(.opt (zE .i64 e205 9) fun y215=>(.opt (zE .i64 e205 10) fun y216=>(.opt (zi e205 11) fun y217=>(.opt (zi e205 12) fun y218=>(.opt (zAW e205 13) fun y219=>(.opt (qBs n y206 y207 y208 y209 y210 y211 y212 y213 y214 y215 y216 y217 y218 y219) fun r220=>(.ask ((!r220)) (.done (.inr (.inl (false)))) (.opt (zD (qAg n) n (v.1,v.2,(0:Int))) fun r232=>(.alt r232 (fun r233=>(.done (.inr (.inl (r233))))) (fun r234=>(.done (.inl (r234.1,(IntKind.i64.wrap (r234.2+(1:Int))))))))))))))))))))))))) .fail)) .fail) (.done (.inr (.inr (v.1)))))
def qCp (n:Nat) (x0:RW):Tr (Bool):=(.ask ((decide ((x0.length:Int)<(1:Int)))) (.done false) (.ask ((decide ((x0.length:Int)>(60:Int)))) (.done false) (.opt (zD (qBA n) n (x0,(0:Int))) fun r235=>(.alt r235 (fun r236=>(.done r236)) (fun r237=>(.opt (qAo n r237 (IntKind.i64.wrap ((r237.length:Int)-(1:Int)))) fun r248=>(.ask ((r248==(0:Int))) (.ask (decide (0≤(IntKind.i64.wrap ((r237.length:Int)-(1:Int)))∧(IntKind.i64.wrap ((r237.length:Int)-(1:Int)))<r237.length)) (.opt (r237[((IntKind.i64.wrap ((r237.length:Int)-(1:Int)))).toNat]?) fun e249=>(.ask (decide (e249.length=14)) (.opt (zE .i64 e249 0) fun y250=>(.ask ((y250 !=(3:Int))) (.opt (qAp n r237 (IntKind.i64.wrap ((r237.length:Int)-(1:Int)))) fun r259=>(.done (decide (r259≤(12:Int))))) (.done false))) .fail)) .fail) (.done false))))))))
def qBJ:Nat→RW→Option (Bool)
 |0,_=>none
 |n+1,x0=>(qCp n x0).run
abbrev qEg (n:Nat):List (Ent (Rn n)):= [en (qGp n),en (qD8 n),en (qFd n),en (qFe n)]
def qIJ (n:Nat):LEnt (lb 29 (KB 21)) (Rn n) n:=lok (Uniq.pick (zU 21) 29) 475 ⟨⟨[(0,aL),(3,aI),(4,aI)],[],[]⟩,[(.ret,⟨[(2,aB)],[],[]⟩),(.exit 2,⟨[(0,aL),(3,aI)],[],[]⟩)]⟩ (qAg n) (qEg n) [] fun _=>(by kernel_rfl)
def qI3 (n:Nat):LEnt (KB 21) (Rn n) n:=lok (zU 21) 29 ⟨⟨[(0,aL),(3,aI)],[],[]⟩,[(.ret,⟨[(2,aB)],[],[]⟩),(.exit 0,⟨[(0,aL)],[],[]⟩)]⟩ (qBA n) (qEg n) [qIJ n] fun _=>(by kernel_rfl)
theorem qED:∀n,Ok (Rn n) qLK (qBJ n)
 |0=>ok0 fun _=>rfl
 |n+1=>stO (T:=qCp n) (by kernel_rfl) (qEg n) [qI3 n] (fun _=>(by kernel_rfl)) fun _=>(by kernel_rfl)
def qJe:Sg:=⟨9,[aS],[],⟨(.tup [(false,[(.own 0 0 0 0)]),(false,[qB])]),[],[⟨0,14,64,(.row [])⟩]⟩⟩
def qFf (n:Nat) (x0:BA):Tr (Nat×Bool×RW):=(.opt (qCk n x0) fun r112=>(.ask ((!r112)) (.done ((0:Nat),false,([]:RW))) (.opt (qDt n (1:Int) x0 (0:Int) false (0:Nat) ([]:RW)) fun r203=>(.opt (qBZ n r203.2.1 r203.2.2.1 r203.2.2.2.1 r203.2.2.2.2.1 r203.2.2.2.2.2) fun r204=>(.ask (r204.2.2.1) (.done ((0:Nat),false,([]:RW))) (.ask ((decide (r204.2.1<(x0.size:Int)))) (.done ((0:Nat),false,([]:RW))) (.ask (decide (r204.2.2.2.1=r204.2.2.2.2.length)) (.opt (qBJ n r204.2.2.2.2) fun r260=>(.ask (zA3 (⟨(.c (.p (.b r260))),[],[]⟩:Res)) (.ask ((!r260)) (.done ((0:Nat),false,([]:RW))) (.done (r204.2.2.2.1,true,r204.2.2.2.2))) .fail)) .fail)))))))
def qDv:Nat→BA→Option (Nat×Bool×RW)
 |0,_=>none
 |n+1,x0=>(qFf n x0).run
abbrev qJf (n:Nat):List (Ent (Rn n)):= [en (qHh n),en (qLH n),en (qDa n),en (qED n)]
theorem qI4:∀n,Ok (Rn n) qJe (qDv n)
 |0=>ok0 fun _=>rfl
 |n+1=>stO (T:=qFf n) (by kernel_rfl) (qJf n) [] (fun _=>(by kernel_rfl)) fun _=>(by kernel_rfl)
def qKM:Sg:=⟨107,[(.c (.ptr 0 0 0 0 0))],[[(0,⟨0,2,112,(.box [qL,qI])⟩)]],⟨(.agg [qI,qI,qB,qB]),[[(0,⟨0,2,112,(.box [qL,qI])⟩)]],[]⟩⟩
def qDB (n:Nat) (x0:RW) (x1:Int):Tr (Int×Int×Bool×Bool×RW×Int):=(.opt (qAG n x0 x1) fun r269=>(.opt (qY n (4:Int) r269.2.2.1 r269.2.2.2) fun r270=>(.opt (qY n (4:Int) r270.2.1 r270.2.2) fun r271=>(.opt (qY n (20:Int) r271.2.1 r271.2.2) fun r272=>(.ask (r272.1) (.opt (qAc n (1:Int) (52:Int) r272.2.1 r272.2.2) fun r273=>(.opt (qAc n (1:Int) (99:Int) r273.2.1 r273.2.2) fun r274=>(.done (r273.1,r274.1,r270.1,r271.1,r274.2.1,r274.2.2)))) (.done (r269.1,r269.2.1,r270.1,r271.1,r272.2.1,r272.2.2)))))))
def qCP:Nat→RW→Int→Option (Int×Int×Bool×Bool×RW×Int)
 |0,_,_=>none
 |n+1,x0,x1=>(qDB n x0 x1).run
abbrev qKN (n:Nat):List (Ent (Rn n)):= [en (qEb n),en (qCK n),en (qEe n)]
theorem qJg:∀n,Ok (Rn n) qKM (qCP n)
 |0=>ok0 fun _=>rfl
 |n+1=>stO (T:=qDB n) (by kernel_rfl) (qKN n) [] (fun _=>(by kernel_rfl)) fun _=>(by kernel_rfl)
def qI5:Sg:=⟨50,[(.c (.ptr 0 0 0 0 0))],[[(0,⟨0,2,112,(.box [qL,qI])⟩)]],⟨aL,[[(0,⟨0,2,112,(.box [qL,qI])⟩)]],[]⟩⟩
def qDd (n:Nat) (x0:RW) (x1:Int):Tr (RW×RW×Int):=(.opt (qAK n (3:Int) x0 x1) fun r106=>(.opt (qDv n r106.1) fun r261=>(.opt (qY n (30:Int) r106.2.1 r106.2.2) fun r262=>(.ask (r262.1) (.ask ((decide (((r261.1:Nat):Int)>(0:Int)))) (.opt (qT n ((r261.1:Nat):Int) r262.2.1 r262.2.2) fun r263=>(.opt (qT n (3:Int) r263.2.1 r263.2.2) fun r264=>(.ask ((r264.1==(0:Int))) (.opt (qAc n (0:Int) (11:Int) r264.2.1 r264.2.2) fun r265=>(.ask (decide (r261.1=r261.2.2.length∧0≤r263.1∧r263.1<((r261.1:Nat):Int))) (.opt (r261.2.2[(r263.1).toNat]?) fun e266=>(.ask (decide (1+1≤e266.length)) (.ask (decide (r261.1=(r261.2.2.set (r263.1).toNat (zZ e266 1 [(.i .i64 r265.1)])).length)) (.done ((r261.2.2.set (r263.1).toNat (zZ e266 1 [(.i .i64 r265.1)])),r265.2.1,r265.2.2)) .fail) .fail)) .fail)) (.ask ((r264.1==(1:Int))) (.opt (qAc n (1:Int) (6:Int) r264.2.1 r264.2.2) fun r267=>(.ask (decide (r261.1=r261.2.2.length∧0≤r263.1∧r263.1<((r261.1:Nat):Int))) (.opt (r261.2.2[(r263.1).toNat]?) fun e268=>(.ask (decide (0+1≤e268.length)) (.ask (decide (r261.1=(r261.2.2.set (r263.1).toNat (zZ e268 0 [(.i .i64 r267.1)])).length)) (.done ((r261.2.2.set (r263.1).toNat (zZ e268 0 [(.i .i64 r267.1)])),r267.2.1,r267.2.2)) .fail) .fail)) .fail)) (.ask ((r264.1==(2:Int))) (.opt (qCP n r264.2.1 r264.2.2) fun r275=>(.ask (decide (r261.1=r261.2.2.length∧0≤r263.1∧r263.1<((r261.1:Nat):Int))) (.opt (r261.2.2[(r263.1).toNat]?) fun e276=>(.ask (decide (5+4≤e276.length)) (.ask (decide (r261.1=(r261.2.2.set (r263.1).toNat (zZ e276 5 [(.i .i64 r275.1),(.i .i64 r275.2.1),(.b r275.2.2.1),(.b r275.2.2.2.1)])).length)) (.done ((r261.2.2.set (r263.1).toNat (zZ e276 5 [(.i .i64 r275.1),(.i .i64 r275.2.1),(.b r275.2.2.1),(.b r275.2.2.2.1)])),r275.2.2.2.2.1,r275.2.2.2.2.2)) .fail) .fail)) .fail)) (.ask (decide (r261.1=r261.2.2.length)) (.done (r261.2.2,r264.2.1,r264.2.2)) .fail)))))) (.ask (decide (r261.1=r261.2.2.length)) (.done (r261.2.2,r262.2.1,r262.2.2)) .fail)) (.ask (decide (r261.1=r261.2.2.length)) (.done (r261.2.2,r262.2.1,r262.2.2)) .fail)))))
def qCe:Nat→RW→Int→Option (RW×RW×Int)
 |0,_,_=>none
 |n+1,x0,x1=>(qDd n x0 x1).run
abbrev qI6 (n:Nat):List (Ent (Rn n)):= [en (qFV n),en (qI4 n),en (qCK n),en (qBY n),en (qEe n),en (qJg n)]
theorem qIK:∀n,Ok (Rn n) qI5 (qCe n)
 |0=>ok0 fun _=>rfl
 |n+1=>stO (T:=qDd n) (by kernel_rfl) (qI6 n) [] (fun _=>(by kernel_rfl)) fun _=>(by kernel_rfl)
def qHH:Sg:=⟨19,[aL],[],⟨aL,[],[]⟩⟩
def qCw (n:Nat) (x0:RW):Tr (RW):=(.opt (qEn n x0) fun r2=>(.opt (qCe n r2.1 r2.2) fun r277=>(.done r277.1)))
def qCx:Nat→RW→Option (RW)
 |0,_=>none
 |n+1,x0=>(qCw n x0).run
abbrev qHI (n:Nat):List (Ent (Rn n)):= [en (qMW n),en (qIK n)]
theorem qGy:∀n,Ok (Rn n) qHH (qCx n)
 |0=>ok0 fun _=>rfl
 |n+1=>stO (T:=qCw n) (by kernel_rfl) (qHI n) [] (fun _=>(by kernel_rfl)) fun _=>(by kernel_rfl)
def qNU:Sg:=⟨48,[aI,aI,aI],[],⟨aB,[],[]⟩⟩
def qGW (n:Nat) (x0 x1 x2:Int):Tr (Bool):=(.ask ((decide (x0≥x1))) (.done (decide (x0≤x2))) (.done false))
def qAf:Nat→Int→Int→Int→Option (Bool)
 |0,_,_,_=>none
 |n+1,x0,x1,x2=>(qGW n x0 x1 x2).run
theorem qDE:∀n,Ok (Rn n) qNU (qAf n)
 |0=>ok0 fun _=>rfl
 |n+1=>stO (T:=qGW n) (by kernel_rfl) [] [] (fun _=>(by kernel_rfl)) fun _=>(by kernel_rfl)
def qNV:Sg:=⟨35,[aS,aI],[],⟨aB,[],[]⟩⟩
def qBa (n:Nat) (v:BA×Int×Int×Int):Tr ((BA×Int×Int×Int)⊕((Bool)⊕(BA×Int))):=(.ask ((decide (v.2.2.2<v.2.2.1))) (.ask (decide (0≤v.2.2.2)) (.opt (v.1.toList[(v.2.2.2).toNat]?) fun c297=>(.ask ((decide ((c297.toNat:Int)<(32:Int)))) (.done (.inr (.inl (false)))) (.ask (decide (0≤v.2.2.2)) (.opt (v.1.toList[(v.2.2.2).toNat]?) fun c298=>(.ask ((decide ((c298.toNat:Int)>(126:Int)))) (.done (.inr (.inl (false)))) (.done (.inl (v.1,v.2.1,v.2.2.1,(IntKind.i64.wrap (v.2.2.2+(1:Int)))))))) .fail))) .fail) (.done (.inr (.inr ((v.1,v.2.1))))))
def qGX (n:Nat) (x0:BA) (x1:Int):Tr (Bool):=(.opt (zD (qBa n) n (x0,x1,(x0.size:Int),(0:Int))) fun r299=>(.alt r299 (fun r300=>(.done r300)) (fun r301=>(.done (decide ((r301.1.size:Int)≤r301.2))))))
def qC7:Nat→BA→Int→Option (Bool)
 |0,_,_=>none
 |n+1,x0,x1=>(qGX n x0 x1).run
def qLL (n:Nat):LEnt (KB 35) (Rn n) n:=lok (zU 35) 13 ⟨⟨[(0,aS),(1,aI),(7,aI),(8,aI)],[],[]⟩,[(.ret,⟨[(4,aB)],[],[]⟩),(.exit 0,⟨[(0,aS),(1,aI)],[],[]⟩)]⟩ (qBa n) [] [] fun _=>(by kernel_rfl)
theorem qIL:∀n,Ok (Rn n) qNV (qC7 n)
 |0=>ok0 fun _=>rfl
 |n+1=>stO (T:=qGX n) (by kernel_rfl) [] [qLL n] (fun _=>(by kernel_rfl)) fun _=>(by kernel_rfl)
def qMj:Sg:=⟨63,[(.agg [qI,qI,qS])],[],⟨aB,[],[]⟩⟩
def qFg (n:Nat) (x0 x1:Int) (x2:BA):Tr (Bool):=(.ask ((x0==(2:Int))) (.ask ((x1==(0:Int))) (.opt (qC7 n x2 (200:Int)) fun r302=>(.done r302)) (.done false)) (.ask ((!(x2.toList==(⟨#[]⟩:BA).toList))) (.done false) (.ask ((x0==(0:Int))) (.done (x1==(0:Int))) (.ask ((x0==(1:Int))) (.opt (qAf n x1 (-1000000000000000:Int) (1000000000000000:Int)) fun r303=>(.done r303)) (.ask ((x0==(3:Int))) (.opt (qAf n x1 (0:Int) (1:Int)) fun r304=>(.done r304)) (.ask ((x0==(4:Int))) (.opt (qAf n x1 (1:Int) (5:Int)) fun r305=>(.done r305)) (.done false)))))))
def qAk:Nat→Int→Int→BA→Option (Bool)
 |0,_,_,_=>none
 |n+1,x0,x1,x2=>(qFg n x0 x1 x2).run
abbrev qMk (n:Nat):List (Ent (Rn n)):= [en (qIL n),en (qDE n)]
theorem qHr:∀n,Ok (Rn n) qMj (qAk n)
 |0=>ok0 fun _=>rfl
 |n+1=>stO (T:=qFg n) (by kernel_rfl) (qMk n) [] (fun _=>(by kernel_rfl)) fun _=>(by kernel_rfl)
def qKO:Sg:=⟨174,[(.agg [qI,qI,qI,qI,qS,qI,qI,qB,qB,qI,qI,qB,qB,qL])],[],⟨(.agg [qI,qI,qI,qI]),[],[]⟩⟩
def qEE (n:Nat) (x0 x1 x2 x3:Int) (x4:BA) (x5 x6:Int) (x7 x8:Bool) (x9 x10:Int) (x11 x12:Bool) (x13:RW):Tr (Int×Int×Int×Int):=(.ask ((x0==(2:Int))) (.done (x5,x6,x5,x6)) (.done (x5,x6,x9,x10)))
def qCQ:Nat→Int→Int→Int→Int→BA→Int→Int→Bool→Bool→Int→Int→Bool→Bool→RW→Option (Int×Int×Int×Int)
 |0,_,_,_,_,_,_,_,_,_,_,_,_,_,_=>none
 |n+1,x0,x1,x2,x3,x4,x5,x6,x7,x8,x9,x10,x11,x12,x13=>(qEE n x0 x1 x2 x3 x4 x5 x6 x7 x8 x9 x10 x11 x12 x13).run
theorem qJh:∀n,Ok (Rn n) qKO (qCQ n)
 |0=>ok0 fun _=>rfl
 |n+1=>stO (T:=qEE n) (by kernel_rfl) [] [] (fun _=>(by kernel_rfl)) fun _=>(by kernel_rfl)
def qOF:Sg:=⟨77,[(.agg [qI,qI])],[],⟨aB,[],[]⟩⟩
def qHJ (n:Nat) (x0 x1:Int):Tr (Bool):=(.opt (qAf n x0 (1:Int) (52:Int)) fun r308=>(.ask (r308) (.opt (qAf n x1 (1:Int) (99:Int)) fun r309=>(.done r309)) (.done false)))
def qCR:Nat→Int→Int→Option (Bool)
 |0,_,_=>none
 |n+1,x0,x1=>(qHJ n x0 x1).run
abbrev qOG (n:Nat):List (Ent (Rn n)):= [en (qDE n)]
theorem qGY:∀n,Ok (Rn n) qOF (qCR n)
 |0=>ok0 fun _=>rfl
 |n+1=>stO (T:=qHJ n) (by kernel_rfl) (qOG n) [] (fun _=>(by kernel_rfl)) fun _=>(by kernel_rfl)
def qNW:Sg:=⟨173,[(.agg [qI,qI,qI,qI])],[],⟨aB,[],[]⟩⟩
def qGZ (n:Nat) (x0 x1 x2 x3:Int):Tr (Bool):=(.opt (qCR n x0 x1) fun r310=>(.ask (r310) (.opt (qCR n x2 x3) fun r311=>(.ask (r311) (.ask ((decide (x0≤x2))) (.done (decide (x1≤x3))) (.done false)) (.done false))) (.done false)))
def qDl:Nat→Int→Int→Int→Int→Option (Bool)
 |0,_,_,_,_=>none
 |n+1,x0,x1,x2,x3=>(qGZ n x0 x1 x2 x3).run
abbrev qNX (n:Nat):List (Ent (Rn n)):= [en (qGY n)]
theorem qMl:∀n,Ok (Rn n) qNW (qDl n)
 |0=>ok0 fun _=>rfl
 |n+1=>stO (T:=qGZ n) (by kernel_rfl) (qNX n) [] (fun _=>(by kernel_rfl)) fun _=>(by kernel_rfl)
def qH0:Sg:=⟨145,[(.agg [qI,qI,qI,qI,qS,qI,qI,qB,qB,qI,qI,qB,qB,qL])],[],⟨aB,[],[]⟩⟩
def qC9 (n:Nat) (x0 x1 x2 x3:Int) (x4:BA) (x5 x6:Int) (x7 x8:Bool) (x9 x10:Int) (x11 x12:Bool) (x13:RW):Tr (Bool):=(.ask ((x0 !=(2:Int))) (.ask ((x0 !=(3:Int))) (.done true) (.opt (qCQ n x0 x1 x2 x3 x4 x5 x6 x7 x8 x9 x10 x11 x12 x13) fun r307=>(.opt (qDl n r307.1 r307.2.1 r307.2.2.1 r307.2.2.2) fun r312=>(.done r312)))) (.opt (qCQ n x0 x1 x2 x3 x4 x5 x6 x7 x8 x9 x10 x11 x12 x13) fun r313=>(.opt (qDl n r313.1 r313.2.1 r313.2.2.1 r313.2.2.2) fun r314=>(.done r314))))
def qz:Nat→Int→Int→Int→Int→BA→Int→Int→Bool→Bool→Int→Int→Bool→Bool→RW→Option (Bool)
 |0,_,_,_,_,_,_,_,_,_,_,_,_,_,_=>none
 |n+1,x0,x1,x2,x3,x4,x5,x6,x7,x8,x9,x10,x11,x12,x13=>(qC9 n x0 x1 x2 x3 x4 x5 x6 x7 x8 x9 x10 x11 x12 x13).run
abbrev qH1 (n:Nat):List (Ent (Rn n)):= [en (qJh n),en (qMl n)]
theorem qHK:∀n,Ok (Rn n) qH0 (qz n)
 |0=>ok0 fun _=>rfl
 |n+1=>stO (T:=qC9 n) (by kernel_rfl) (qH1 n) [] (fun _=>(by kernel_rfl)) fun _=>(by kernel_rfl)
def qI7:Sg:=⟨146,[(.agg [qI,qI,qI,qI,qS,qI,qI,qB,qB,qI,qI,qB,qB,qL])],[],⟨aB,[],[]⟩⟩
def qDe (n:Nat) (x0 x1 x2 x3:Int) (x4:BA) (x5 x6:Int) (x7 x8:Bool) (x9 x10:Int) (x11 x12:Bool) (x13:RW):Tr (Bool):=(.ask ((x0==(4:Int))) (.ask ((x1==(0:Int))) (.done ((x13.length:Int)==(1:Int))) (.done false)) (.ask ((x0==(5:Int))) (.opt (qAf n x1 (1:Int) (11:Int)) fun r316=>(.ask (r316) (.done ((x13.length:Int)==(2:Int))) (.done false))) (.ask ((x0==(6:Int))) (.opt (qAf n x1 (1:Int) (10:Int)) fun r317=>(.ask ((!r317)) (.done false) (.ask ((x1==(5:Int))) (.opt (qAf n (x13.length:Int) (2:Int) (3:Int)) fun r318=>(.done r318)) (.ask ((decide (x1≥(8:Int)))) (.done ((x13.length:Int)==(1:Int))) (.opt (qAf n (x13.length:Int) (1:Int) (10:Int)) fun r319=>(.done r319)))))) (.ask ((x1==(0:Int))) (.done ((x13.length:Int)==(0:Int))) (.done false)))))
def qAF:Nat→Int→Int→Int→Int→BA→Int→Int→Bool→Bool→Int→Int→Bool→Bool→RW→Option (Bool)
 |0,_,_,_,_,_,_,_,_,_,_,_,_,_,_=>none
 |n+1,x0,x1,x2,x3,x4,x5,x6,x7,x8,x9,x10,x11,x12,x13=>(qDe n x0 x1 x2 x3 x4 x5 x6 x7 x8 x9 x10 x11 x12 x13).run
abbrev qI8 (n:Nat):List (Ent (Rn n)):= [en (qDE n)]
theorem qIM:∀n,Ok (Rn n) qI7 (qAF n)
 |0=>ok0 fun _=>rfl
 |n+1=>stO (T:=qDe n) (by kernel_rfl) (qI8 n) [] (fun _=>(by kernel_rfl)) fun _=>(by kernel_rfl)
def qJi:Sg:=⟨105,[(.agg [qI,qI,qI,qI,qS,qI,qI,qB,qB,qI,qI,qB,qB,qL])],[],⟨aB,[],[]⟩⟩
def qDw (n:Nat) (x0 x1 x2 x3:Int) (x4:BA) (x5 x6:Int) (x7 x8:Bool) (x9 x10:Int) (x11 x12:Bool) (x13:RW):Tr (Bool):=(.ask ((x0==(1:Int))) (.opt (qAk n x2 x3 x4) fun r306=>(.ask ((!r306)) (.done false) (.ask ((x2==(0:Int))) (.done false) (.ask ((x2==(1:Int))) (.ask ((decide (x3<(0:Int)))) (.done false) (.opt (qz n x0 x1 x2 x3 x4 x5 x6 x7 x8 x9 x10 x11 x12 x13) fun r315=>(.ask (r315) (.opt (qAF n x0 x1 x2 x3 x4 x5 x6 x7 x8 x9 x10 x11 x12 x13) fun r320=>(.ask (r320) (.ask (((x2==x2)&&((x3==x3)&&((x4.toList==x4.toList)&&true)))) (.ask ((((0:Int)==x5)&&(((0:Int)==x6)&&((false==x7)&&((false==x8)&&true))))) (.done (((0:Int)==x9)&&(((0:Int)==x10)&&((false==x11)&&((false==x12)&&true))))) (.done false)) (.done false)) (.done false))) (.done false)))) (.opt (qz n x0 x1 x2 x3 x4 x5 x6 x7 x8 x9 x10 x11 x12 x13) fun r321=>(.ask (r321) (.opt (qAF n x0 x1 x2 x3 x4 x5 x6 x7 x8 x9 x10 x11 x12 x13) fun r322=>(.ask (r322) (.ask (((x2==x2)&&((x3==x3)&&((x4.toList==x4.toList)&&true)))) (.ask ((((0:Int)==x5)&&(((0:Int)==x6)&&((false==x7)&&((false==x8)&&true))))) (.done (((0:Int)==x9)&&(((0:Int)==x10)&&((false==x11)&&((false==x12)&&true))))) (.done false)) (.done false)) (.done false))) (.done false))))))) (.ask ((x0==(2:Int))) (.opt (qz n x0 x1 x2 x3 x4 x5 x6 x7 x8 x9 x10 x11 x12 x13) fun r323=>(.ask (r323) (.opt (qAF n x0 x1 x2 x3 x4 x5 x6 x7 x8 x9 x10 x11 x12 x13) fun r324=>(.ask (r324) (.ask ((((0:Int)==x2)&&(((0:Int)==x3)&&(((⟨#[]⟩:BA).toList==x4.toList)&&true)))) (.ask (((x5==x5)&&((x6==x6)&&((x7==x7)&&((x8==x8)&&true))))) (.done (((0:Int)==x9)&&(((0:Int)==x10)&&((false==x11)&&((false==x12)&&true))))) (.done false)) (.done false)) (.done false))) (.done false))) (.ask ((x0==(3:Int))) (.opt (qz n x0 x1 x2 x3 x4 x5 x6 x7 x8 x9 x10 x11 x12 x13) fun r325=>(.ask (r325) (.opt (qAF n x0 x1 x2 x3 x4 x5 x6 x7 x8 x9 x10 x11 x12 x13) fun r326=>(.ask (r326) (.ask ((((0:Int)==x2)&&(((0:Int)==x3)&&(((⟨#[]⟩:BA).toList==x4.toList)&&true)))) (.ask (((x5==x5)&&((x6==x6)&&((x7==x7)&&((x8==x8)&&true))))) (.done ((x9==x9)&&((x10==x10)&&((x11==x11)&&((x12==x12)&&true))))) (.done false)) (.done false)) (.done false))) (.done false))) (.ask ((x0==(4:Int))) (.opt (qz n x0 x1 x2 x3 x4 x5 x6 x7 x8 x9 x10 x11 x12 x13) fun r327=>(.ask (r327) (.opt (qAF n x0 x1 x2 x3 x4 x5 x6 x7 x8 x9 x10 x11 x12 x13) fun r328=>(.ask (r328) (.ask ((((0:Int)==x2)&&(((0:Int)==x3)&&(((⟨#[]⟩:BA).toList==x4.toList)&&true)))) (.ask ((((0:Int)==x5)&&(((0:Int)==x6)&&((false==x7)&&((false==x8)&&true))))) (.done (((0:Int)==x9)&&(((0:Int)==x10)&&((false==x11)&&((false==x12)&&true))))) (.done false)) (.done false)) (.done false))) (.done false))) (.ask ((x0==(5:Int))) (.opt (qz n x0 x1 x2 x3 x4 x5 x6 x7 x8 x9 x10 x11 x12 x13) fun r329=>(.ask (r329) (.opt (qAF n x0 x1 x2 x3 x4 x5 x6 x7 x8 x9 x10 x11 x12 x13) fun r330=>(.ask (r330) (.ask ((((0:Int)==x2)&&(((0:Int)==x3)&&(((⟨#[]⟩:BA).toList==x4.toList)&&true)))) (.ask ((((0:Int)==x5)&&(((0:Int)==x6)&&((false==x7)&&((false==x8)&&true))))) (.done (((0:Int)==x9)&&(((0:Int)==x10)&&((false==x11)&&((false==x12)&&true))))) (.done false)) (.done false)) (.done false))) (.done false))) (.ask ((x0==(6:Int))) (.opt (qz n x0 x1 x2 x3 x4 x5 x6 x7 x8 x9 x10 x11 x12 x13) fun r331=>(.ask (r331) (.opt (qAF n x0 x1 x2 x3 x4 x5 x6 x7 x8 x9 x10 x11 x12 x13) fun r332=>(.ask (r332) (.ask ((((0:Int)==x2)&&(((0:Int)==x3)&&(((⟨#[]⟩:BA).toList==x4.toList)&&true)))) (.ask ((((0:Int)==x5)&&(((0:Int)==x6)&&((false==x7)&&((false==x8)&&true))))) (.done (((0:Int)==x9)&&(((0:Int)==x10)&&((false==x11)&&((false==x12)&&true))))) (.done false)) (.done false)) (.done false))) (.done false))) (.done false)))))))
def qCy:Nat→Int→Int→Int→Int→BA→Int→Int→Bool→Bool→Int→Int→Bool→Bool→RW→Option (Bool)
 |0,_,_,_,_,_,_,_,_,_,_,_,_,_,_=>none
 |n+1,x0,x1,x2,x3,x4,x5,x6,x7,x8,x9,x10,x11,x12,x13=>(qDw n x0 x1 x2 x3 x4 x5 x6 x7 x8 x9 x10 x11 x12 x13).run
abbrev qJj (n:Nat):List (Ent (Rn n)):= [en (qHr n),en (qHK n),en (qIM n)]
theorem qI9:∀n,Ok (Rn n) qJi (qCy n)
 |0=>ok0 fun _=>rfl
 |n+1=>stO (T:=qDw n) (by kernel_rfl) (qJj n) [] (fun _=>(by kernel_rfl)) fun _=>(by kernel_rfl)
def qIN:Sg:=⟨49,[aL,aI,aI],[],⟨aI,[],[]⟩⟩
def qAL (rec:RW→Int→Int→Option (Int)) (n:Nat) (v:RW×Int×Int×Int×Int):Tr ((RW×Int×Int×Int×Int)⊕((Int)⊕(Int))):=(.ask ((decide (v.2.2.2.2≥(0:Int)))) (.ask (decide (0≤v.2.1∧v.2.1<v.1.length)) (.opt (v.1[(v.2.1).toNat]?) fun e336=>(.ask (decide (e336.length=14)) (.opt (zAW e336 13) fun y337=>(.ask (decide (0≤v.2.2.2.2∧v.2.2.2.2<y337.length)) (.opt (y337[(v.2.2.2.2).toNat]?) fun e338=>(.ask (decide (e338.length=1)) (.opt (zE .i64 e338 0) fun y339=>(.ask ((y339 !=(IntKind.i64.wrap (v.2.2.2.1-(1:Int))))) (.done (.inr (.inl ((-1:Int))))) (.ask ((decide (y339<(0:Int)))) (.done (.inr (.inl ((-1:Int))))) (.ask (decide (0≤y339∧y339<v.1.length)) (.opt (v.1[(y339).toNat]?) fun e340=>(.ask (decide (e340.length=14)) (.opt (zE .i64 e340 0) fun y341=>(.ask ((y341==(3:Int))) (.ask (decide (0≤v.2.1∧v.2.1<v.1.length)) (.opt (v.1[(v.2.1).toNat]?) fun e342=>(.ask (decide (e342.length=14)) (.opt (zE .i64 e342 0) fun y343=>(.ask ((y343 !=(6:Int))) (.done (.inr (.inl ((-1:Int))))) (.opt (rec v.1 y339 (IntKind.i64.wrap (v.2.2.1+(1:Int)))) fun r344=>(.ask ((decide (r344<(0:Int)))) (.done (.inr (.inl ((-1:Int))))) (.done (.inl (v.1,v.2.1,v.2.2.1,r344,(IntKind.i64.wrap (v.2.2.2.2-(1:Int)))))))))) .fail)) .fail) (.opt (rec v.1 y339 (IntKind.i64.wrap (v.2.2.1+(1:Int)))) fun r345=>(.ask ((decide (r345<(0:Int)))) (.done (.inr (.inl ((-1:Int))))) (.done (.inl (v.1,v.2.1,v.2.2.1,r345,(IntKind.i64.wrap (v.2.2.2.2-(1:Int)))))))))) .fail)) .fail)))) .fail)) .fail)) .fail)) .fail) (.done (.inr (.inr (v.2.2.2.1)))))
def qEv (rec:RW→Int→Int→Option (Int)) (n:Nat) (x0:RW) (x1 x2:Int):Tr (Int):=(.ask ((decide (x1<(0:Int)))) (.done (-1:Int)) (.ask ((decide (x2≥(12:Int)))) (.done (-1:Int)) (.ask (decide (0≤x1∧x1<x0.length)) (.opt (x0[(x1).toNat]?) fun e282=>(.ask (decide (e282.length=14)) (.opt (zE .i64 e282 0) fun y283=>(.opt (zE .i64 e282 1) fun y284=>(.opt (zE .i64 e282 2) fun y285=>(.opt (zE .i64 e282 3) fun y286=>(.opt (zu e282 4) fun y287=>(.opt (zE .i64 e282 5) fun y288=>(.opt (zE .i64 e282 6) fun y289=>(.opt (zi e282 7) fun y290=>(.opt (zi e282 8) fun y291=>(.opt (zE .i64 e282 9) fun y292=>(.opt (zE .i64 e282 10) fun y293=>(.opt (zi e282 11) fun y294=>(.opt (zi e282 12) fun y295=>(.opt (zAW e282 13) fun y296=>(.opt (qCy n y283 y284 y285 y286 y287 y288 y289 y290 y291 y292 y293 y294 y295 y296) fun r333=>(.ask ((!r333)) (.done (-1:Int)) (.ask (decide (0≤x1∧x1<x0.length)) (.opt (x0[(x1).toNat]?) fun e334=>(.ask (decide (e334.length=14)) (.opt (zAW e334 13) fun y335=>(.opt (zD (qAL rec n) n (x0,x1,x2,x1,(IntKind.i64.wrap ((y335.length:Int)-(1:Int))))) fun r346=>(.alt r346 (fun r347=>(.done r347)) (fun r348=>(.done r348))))) .fail)) .fail))))))))))))))))) .fail)) .fail)))
def qAh:Nat→RW→Int→Int→Option (Int)
 |0,_,_,_=>none
 |n+1,x0,x1,x2=>(qEv (qAh n) n x0 x1 x2).run
abbrev qLu (n:Nat) (ih:Ok (Rn n) qIN (qAh n)):List (Ent (Rn n)):= [en (qI9 n),en ih]
def qMm (n:Nat) (ih:Ok (Rn n) qIN (qAh n)):LEnt (KB 49) (Rn n) n:=lok (zU 49) 61 ⟨⟨[(0,aL),(1,aI),(2,aI),(7,aI),(8,aI)],[],[]⟩,[(.ret,⟨[(6,aI)],[],[]⟩),(.exit 0,⟨[(7,aI)],[],[]⟩)]⟩ (qAL (qAh n) n) (qLu n ih) [] fun _=>(by kernel_rfl)
theorem qHL:∀n,Ok (Rn n) qIN (qAh n)
 |0=>ok0 fun _=>rfl
 |n+1=>stO (T:=qEv (qAh n) n) (by kernel_rfl) (qLu n (qHL n)) [qMm n (qHL n)] (fun _=>(by kernel_rfl)) fun _=>(by kernel_rfl)
def qLM:Sg:=⟨18,[aL],[],⟨aB,[],[]⟩⟩
def qCq (n:Nat) (x0:RW):Tr (Bool):=(.opt (qAf n (x0.length:Int) (1:Int) (60:Int)) fun r279=>(.ask (r279) (.ask (decide (0≤(IntKind.i64.wrap ((x0.length:Int)-(1:Int)))∧(IntKind.i64.wrap ((x0.length:Int)-(1:Int)))<x0.length)) (.opt (x0[((IntKind.i64.wrap ((x0.length:Int)-(1:Int)))).toNat]?) fun e280=>(.ask (decide (e280.length=14)) (.opt (zE .i64 e280 0) fun y281=>(.ask ((y281 !=(3:Int))) (.opt (qAh n x0 (IntKind.i64.wrap ((x0.length:Int)-(1:Int))) (0:Int)) fun r349=>(.done (r349==(0:Int)))) (.done false))) .fail)) .fail) (.done false)))
def qAq:Nat→RW→Option (Bool)
 |0,_=>none
 |n+1,x0=>(qCq n x0).run
abbrev qLN (n:Nat):List (Ent (Rn n)):= [en (qDE n),en (qHL n)]
theorem qEF:∀n,Ok (Rn n) qLM (qAq n)
 |0=>ok0 fun _=>rfl
 |n+1=>stO (T:=qCq n) (by kernel_rfl) (qLN n) [] (fun _=>(by kernel_rfl)) fun _=>(by kernel_rfl)
def qEw:Sg:=⟨101,[aS,aS,aS],[],⟨aS,[],[]⟩⟩
def qDF:Nat→BA→BA→BA→Option ((BA))
 |0,_,_,_=>none
 |n+1,x0,x1,x2=>zY x0 x1 x2
theorem qH2:∀n,Ok (Rn n) qEw (qDF n)
 |0=>ok0 fun _=>rfl
 |n+1=>stL (by kernel_rfl) (fun a r e=>congrArg (Option.map fun r=>(qEw.Of r).v) e) rfl rfl rfl
def qFE:Sg:=⟨122,[aI,aI],[],⟨aS,[],[]⟩⟩
def qDf:Nat→Int→Int→Option ((BA))
 |0,_,_=>none
 |n+1,x0,x1=>za x0 x1
theorem qIO:∀n,Ok (Rn n) qFE (qDf n)
 |0=>ok0 fun _=>rfl
 |n+1=>stL (by kernel_rfl) (fun a r e=>congrArg (Option.map fun r=>(qFE.Of r).v) e) rfl rfl rfl
def qMn:Sg:=⟨65,[aI],[],⟨aS,[],[]⟩⟩
def qFh (n:Nat) (x0:Int):Tr (BA):=(.opt (qDf n x0 (10:Int)) fun r367=>(.done r367))
def qBl:Nat→Int→Option (BA)
 |0,_=>none
 |n+1,x0=>(qFh n x0).run
abbrev qMo (n:Nat):List (Ent (Rn n)):= [en (qIO n)]
theorem qHs:∀n,Ok (Rn n) qMn (qBl n)
 |0=>ok0 fun _=>rfl
 |n+1=>stO (T:=qFh n) (by kernel_rfl) (qMo n) [] (fun _=>(by kernel_rfl)) fun _=>(by kernel_rfl)
def qLO:Sg:=⟨70,[aI],[],⟨aS,[],[]⟩⟩
def qEh (n:Nat) (x0:Int):Tr (BA):=(.ask (decide (6=([[(.s (⟨#[]⟩:BA))],[(.s (⟨#[35,68,73,86,33]⟩:BA))],[(.s (⟨#[35,84,89,80,69,33]⟩:BA))],[(.s (⟨#[35,82,69,70,33]⟩:BA))],[(.s (⟨#[35,79,86,69,82,33]⟩:BA))],[(.s (⟨#[35,67,89,67,76,69,33]⟩:BA))]]:RW).length∧0≤x0∧x0<((6:Nat):Int))) (.opt (([[(.s (⟨#[]⟩:BA))],[(.s (⟨#[35,68,73,86,33]⟩:BA))],[(.s (⟨#[35,84,89,80,69,33]⟩:BA))],[(.s (⟨#[35,82,69,70,33]⟩:BA))],[(.s (⟨#[35,79,86,69,82,33]⟩:BA))],[(.s (⟨#[35,67,89,67,76,69,33]⟩:BA))]]:RW)[(x0).toNat]?) fun e371=>(.opt (zu e371 0) fun y372=>(.done y372))) .fail)
def qAd:Nat→Int→Option (BA)
 |0,_=>none
 |n+1,x0=>(qEh n x0).run
theorem qEG:∀n,Ok (Rn n) qLO (qAd n)
 |0=>ok0 fun _=>rfl
 |n+1=>stO (T:=qEh n) (by kernel_rfl) [] [] (fun _=>(by kernel_rfl)) fun _=>(by kernel_rfl)
def qLP:Sg:=⟨72,[(.agg [qI,qI,qS])],[],⟨aS,[],[]⟩⟩
def qBb (n:Nat) (x0 x1:Int) (x2:BA):Tr (BA):=(.ask ((x0==(1:Int))) (.opt (qBl n x1) fun r368=>(.done r368)) (.ask ((x0==(2:Int))) (.ask (decide ((⟨#[39]⟩:BA).size+x2.size≤9223372036854775807)) (.done ((⟨#[39]⟩:BA)++x2)) .fail) (.ask ((x0==(3:Int))) (.ask (decide (2=([[(.s (⟨#[70,65,76,83,69]⟩:BA))],[(.s (⟨#[84,82,85,69]⟩:BA))]]:RW).length∧0≤x1∧x1<((2:Nat):Int))) (.opt (([[(.s (⟨#[70,65,76,83,69]⟩:BA))],[(.s (⟨#[84,82,85,69]⟩:BA))]]:RW)[(x1).toNat]?) fun e369=>(.opt (zu e369 0) fun y370=>(.done y370))) .fail) (.ask ((x0==(4:Int))) (.opt (qAd n x1) fun r373=>(.done r373)) (.done (⟨#[]⟩:BA))))))
def qq:Nat→Int→Int→BA→Option (BA)
 |0,_,_,_=>none
 |n+1,x0,x1,x2=>(qBb n x0 x1 x2).run
abbrev qLQ (n:Nat):List (Ent (Rn n)):= [en (qHs n),en (qEG n)]
theorem qGD:∀n,Ok (Rn n) qLP (qq n)
 |0=>ok0 fun _=>rfl
 |n+1=>stO (T:=qBb n) (by kernel_rfl) (qLQ n) [] (fun _=>(by kernel_rfl)) fun _=>(by kernel_rfl)
def qMp:Sg:=⟨141,[aI],[],⟨aS,[],[]⟩⟩
def qDG (n:Nat) (x0:Int):Tr (BA):=(.opt (qAf n x0 (1:Int) (52:Int)) fun r376=>(.ask ((!r376)) (.done (⟨#[]⟩:BA)) (.ask ((decide (x0≤(26:Int)))) (.ask (decide (1=([[(.i .u8 (IntKind.u8.wrap (IntKind.i64.wrap ((IntKind.i64.wrap ((65:Int)+x0))-(1:Int)))))]]:RW).length)) (.opt (bytesOf ([[(.i .u8 (IntKind.u8.wrap (IntKind.i64.wrap ((IntKind.i64.wrap ((65:Int)+x0))-(1:Int)))))]]:RW)) fun l377=>(.done (⟨l377.toArray⟩:BA))) .fail) (.ask (decide (2=([[(.i .u8 (IntKind.u8.wrap (IntKind.i64.wrap ((IntKind.i64.wrap ((65:Int)+(IntKind.i64.wrap (Int.tdiv (IntKind.i64.wrap (x0-(1:Int))) (26:Int)))))-(1:Int)))))],[(.i .u8 (IntKind.u8.wrap (IntKind.i64.wrap ((65:Int)+(Int.tmod (IntKind.i64.wrap (x0-(1:Int))) (26:Int))))))]]:RW).length)) (.opt (bytesOf ([[(.i .u8 (IntKind.u8.wrap (IntKind.i64.wrap ((IntKind.i64.wrap ((65:Int)+(IntKind.i64.wrap (Int.tdiv (IntKind.i64.wrap (x0-(1:Int))) (26:Int)))))-(1:Int)))))],[(.i .u8 (IntKind.u8.wrap (IntKind.i64.wrap ((65:Int)+(Int.tmod (IntKind.i64.wrap (x0-(1:Int))) (26:Int))))))]]:RW)) fun l378=>(.done (⟨l378.toArray⟩:BA))) .fail))))
def qBm:Nat→Int→Option (BA)
 |0,_=>none
 |n+1,x0=>(qDG n x0).run
abbrev qMq (n:Nat):List (Ent (Rn n)):= [en (qDE n)]
theorem qHt:∀n,Ok (Rn n) qMp (qBm n)
 |0=>ok0 fun _=>rfl
 |n+1=>stO (T:=qDG n) (by kernel_rfl) (qMq n) [] (fun _=>(by kernel_rfl)) fun _=>(by kernel_rfl)
def qLR:Sg:=⟨102,[(.agg [qI,qI,qB,qB])],[],⟨aS,[],[]⟩⟩
def qDU (n:Nat) (x0 x1:Int) (x2 x3:Bool):Tr (BA):=(.opt (qCR n x0 x1) fun r375=>(.ask ((!r375)) (.done (⟨#[]⟩:BA)) (.ask (x2) (.opt (qBm n x0) fun r379=>(.ask (decide ((⟨#[36]⟩:BA).size+r379.size≤9223372036854775807)) (.ask (x3) (.ask (decide (((⟨#[36]⟩:BA)++r379).size+(⟨#[36]⟩:BA).size≤9223372036854775807)) (.opt (qBl n x1) fun r380=>(.ask (decide ((((⟨#[36]⟩:BA)++r379)++(⟨#[36]⟩:BA)).size+r380.size≤9223372036854775807)) (.done ((((⟨#[36]⟩:BA)++r379)++(⟨#[36]⟩:BA))++r380)) .fail)) .fail) (.opt (qBl n x1) fun r381=>(.ask (decide (((⟨#[36]⟩:BA)++r379).size+r381.size≤9223372036854775807)) (.done (((⟨#[36]⟩:BA)++r379)++r381)) .fail))) .fail)) (.opt (qBm n x0) fun r382=>(.ask (decide ((⟨#[]⟩:BA).size+r382.size≤9223372036854775807)) (.ask (x3) (.ask (decide (((⟨#[]⟩:BA)++r382).size+(⟨#[36]⟩:BA).size≤9223372036854775807)) (.opt (qBl n x1) fun r383=>(.ask (decide ((((⟨#[]⟩:BA)++r382)++(⟨#[36]⟩:BA)).size+r383.size≤9223372036854775807)) (.done ((((⟨#[]⟩:BA)++r382)++(⟨#[36]⟩:BA))++r383)) .fail)) .fail) (.opt (qBl n x1) fun r384=>(.ask (decide (((⟨#[]⟩:BA)++r382).size+r384.size≤9223372036854775807)) (.done (((⟨#[]⟩:BA)++r382)++r384)) .fail))) .fail)))))
def qA7:Nat→Int→Int→Bool→Bool→Option (BA)
 |0,_,_,_,_=>none
 |n+1,x0,x1,x2,x3=>(qDU n x0 x1 x2 x3).run
abbrev qLS (n:Nat):List (Ent (Rn n)):= [en (qGY n),en (qHt n),en (qHs n)]
theorem qGE:∀n,Ok (Rn n) qLR (qA7 n)
 |0=>ok0 fun _=>rfl
 |n+1=>stO (T:=qDU n) (by kernel_rfl) (qLS n) [] (fun _=>(by kernel_rfl)) fun _=>(by kernel_rfl)
def qOH:Sg:=⟨87,[aI],[],⟨aI,[],[]⟩⟩
def qHM (n:Nat) (x0:Int):Tr (Int):=(.ask ((x0==(3:Int))) (.done (4:Int)) (.ask ((x0==(4:Int))) (.done (4:Int)) (.ask ((x0==(1:Int))) (.done (3:Int)) (.ask ((x0==(2:Int))) (.done (3:Int)) (.ask ((x0==(5:Int))) (.done (2:Int)) (.done (1:Int)))))))
def qDV:Nat→Int→Option (Int)
 |0,_=>none
 |n+1,x0=>(qHM n x0).run
theorem qJP:∀n,Ok (Rn n) qOH (qDV n)
 |0=>ok0 fun _=>rfl
 |n+1=>stO (T:=qHM n) (by kernel_rfl) [] [] (fun _=>(by kernel_rfl)) fun _=>(by kernel_rfl)
def qNY:Sg:=⟨86,[aI],[],⟨aS,[],[]⟩⟩
def qGa (n:Nat) (x0:Int):Tr (BA):=(.ask (decide (12=([[(.s (⟨#[]⟩:BA))],[(.s (⟨#[43]⟩:BA))],[(.s (⟨#[45]⟩:BA))],[(.s (⟨#[42]⟩:BA))],[(.s (⟨#[47]⟩:BA))],[(.s (⟨#[38]⟩:BA))],[(.s (⟨#[61]⟩:BA))],[(.s (⟨#[60,62]⟩:BA))],[(.s (⟨#[60]⟩:BA))],[(.s (⟨#[60,61]⟩:BA))],[(.s (⟨#[62]⟩:BA))],[(.s (⟨#[62,61]⟩:BA))]]:RW).length∧0≤x0∧x0<((12:Nat):Int))) (.opt (([[(.s (⟨#[]⟩:BA))],[(.s (⟨#[43]⟩:BA))],[(.s (⟨#[45]⟩:BA))],[(.s (⟨#[42]⟩:BA))],[(.s (⟨#[47]⟩:BA))],[(.s (⟨#[38]⟩:BA))],[(.s (⟨#[61]⟩:BA))],[(.s (⟨#[60,62]⟩:BA))],[(.s (⟨#[60]⟩:BA))],[(.s (⟨#[60,61]⟩:BA))],[(.s (⟨#[62]⟩:BA))],[(.s (⟨#[62,61]⟩:BA))]]:RW)[(x0).toNat]?) fun e397=>(.opt (zu e397 0) fun y398=>(.done y398))) .fail)
def qBN:Nat→Int→Option (BA)
 |0,_=>none
 |n+1,x0=>(qGa n x0).run
theorem qIP:∀n,Ok (Rn n) qNY (qBN n)
 |0=>ok0 fun _=>rfl
 |n+1=>stO (T:=qGa n) (by kernel_rfl) [] [] (fun _=>(by kernel_rfl)) fun _=>(by kernel_rfl)
def qNZ:Sg:=⟨103,[aI],[],⟨aS,[],[]⟩⟩
def qGb (n:Nat) (x0:Int):Tr (BA):=(.ask (decide (11=([[(.s (⟨#[]⟩:BA))],[(.s (⟨#[83,85,77]⟩:BA))],[(.s (⟨#[77,73,78]⟩:BA))],[(.s (⟨#[77,65,88]⟩:BA))],[(.s (⟨#[67,79,85,78,84]⟩:BA))],[(.s (⟨#[73,70]⟩:BA))],[(.s (⟨#[65,78,68]⟩:BA))],[(.s (⟨#[79,82]⟩:BA))],[(.s (⟨#[78,79,84]⟩:BA))],[(.s (⟨#[65,66,83]⟩:BA))],[(.s (⟨#[76,69,78]⟩:BA))]]:RW).length∧0≤x0∧x0<((11:Nat):Int))) (.opt (([[(.s (⟨#[]⟩:BA))],[(.s (⟨#[83,85,77]⟩:BA))],[(.s (⟨#[77,73,78]⟩:BA))],[(.s (⟨#[77,65,88]⟩:BA))],[(.s (⟨#[67,79,85,78,84]⟩:BA))],[(.s (⟨#[73,70]⟩:BA))],[(.s (⟨#[65,78,68]⟩:BA))],[(.s (⟨#[79,82]⟩:BA))],[(.s (⟨#[78,79,84]⟩:BA))],[(.s (⟨#[65,66,83]⟩:BA))],[(.s (⟨#[76,69,78]⟩:BA))]]:RW)[(x0).toNat]?) fun e405=>(.opt (zu e405 0) fun y406=>(.done y406))) .fail)
def qB0:Nat→Int→Option (BA)
 |0,_=>none
 |n+1,x0=>(qGb n x0).run
theorem qIQ:∀n,Ok (Rn n) qNZ (qB0 n)
 |0=>ok0 fun _=>rfl
 |n+1=>stO (T:=qGb n) (by kernel_rfl) [] [] (fun _=>(by kernel_rfl)) fun _=>(by kernel_rfl)
def qIR:Sg:=⟨104,[aL,aS],[],⟨aS,[],[]⟩⟩
def qFi:Nat→RW→BA→Option ((BA))
 |0,_,_=>none
 |n+1,x0,x1=>zAU x0 x1
theorem qMJ:∀n,Ok (Rn n) qIR (qFi n)
 |0=>ok0 fun _=>rfl
 |n+1=>stL (by kernel_rfl) (fun a r e=>congrArg (Option.map fun r=>(qIR.Of r).v) e) rfl rfl rfl
def qDx:Sg:=⟨47,[aL,aI,aI],[],⟨aS,[],[]⟩⟩
def qBR (rec:RW→Int→Int→Option (BA)) (n:Nat) (v:RW×Nat×RW×Int×Int×Int×Int×Int×Int×BA×Int×Int×Bool×Bool×Int×Int×Bool×Bool×RW×RW):Tr ((RW×Nat×RW×Int×Int×Int×Int×Int×Int×BA×Int×Int×Bool×Bool×Int×Int×Bool×Bool×RW×RW)⊕((Nat×Int×Int×Int×Int×BA×Int×Int×Bool×Bool×Int×Int×Bool×Bool×RW×RW))):=(.ask ((decide (v.2.2.2.2.1<v.2.2.2.1))) (.ask (decide (0≤v.2.2.2.2.1∧v.2.2.2.2.1<v.2.2.1.length)) (.opt (v.2.2.1[(v.2.2.2.2.1).toNat]?) fun e401=>(.ask (decide (e401.length=1)) (.opt (zE .i64 e401 0) fun y402=>(.opt (rec v.1 y402 (1:Int)) fun r403=>(.ask (decide (1=([[(.s r403)]]:RW).length)) (.ask (decide (v.2.1=v.2.2.2.2.2.2.2.2.2.2.2.2.2.2.2.2.2.2.2.length∧0<1∧0<16∧(v.2.1+([[(.s r403)]]:RW).length)*16≤140737488355328∧([[(.s r403)]]:RW).all (fun e=>e.length==1)=true)) (.done (.inl (v.1,(v.2.1+1),v.2.2.1,v.2.2.2.1,(IntKind.i64.wrap (v.2.2.2.2.1+(1:Int))),v.2.2.2.2.2.1,v.2.2.2.2.2.2.1,v.2.2.2.2.2.2.2.1,v.2.2.2.2.2.2.2.2.1,v.2.2.2.2.2.2.2.2.2.1,v.2.2.2.2.2.2.2.2.2.2.1,v.2.2.2.2.2.2.2.2.2.2.2.1,v.2.2.2.2.2.2.2.2.2.2.2.2.1,v.2.2.2.2.2.2.2.2.2.2.2.2.2.1,v.2.2.2.2.2.2.2.2.2.2.2.2.2.2.1,v.2.2.2.2.2.2.2.2.2.2.2.2.2.2.2.1,v.2.2.2.2.2.2.2.2.2.2.2.2.2.2.2.2.1,v.2.2.2.2.2.2.2.2.2.2.2.2.2.2.2.2.2.1,v.2.2.2.2.2.2.2.2.2.2.2.2.2.2.2.2.2.2.1,(v.2.2.2.2.2.2.2.2.2.2.2.2.2.2.2.2.2.2.2++([[(.s r403)]]:RW))))) .fail) .fail))) .fail)) .fail) (.done (.inr ((v.2.1,v.2.2.2.2.2.1,v.2.2.2.2.2.2.1,v.2.2.2.2.2.2.2.1,v.2.2.2.2.2.2.2.2.1,v.2.2.2.2.2.2.2.2.2.1,v.2.2.2.2.2.2.2.2.2.2.1,v.2.2.2.2.2.2.2.2.2.2.2.1,v.2.2.2.2.2.2.2.2.2.2.2.2.1,v.2.2.2.2.2.2.2.2.2.2.2.2.2.1,v.2.2.2.2.2.2.2.2.2.2.2.2.2.2.1,v.2.2.2.2.2.2.2.2.2.2.2.2.2.2.2.1,v.2.2.2.2.2.2.2.2.2.2.2.2.2.2.2.2.1,v.2.2.2.2.2.2.2.2.2.2.2.2.2.2.2.2.2.1,v.2.2.2.2.2.2.2.2.2.2.2.2.2.2.2.2.2.2.1,v.2.2.2.2.2.2.2.2.2.2.2.2.2.2.2.2.2.2.2)))))
def qAi (rec:RW→Int→Int→Option (BA)) (n:Nat) (x0:RW) (x1 x2:Int):Tr (BA):=(.ask (decide (0≤x1∧x1<x0.length)) (.opt (x0[(x1).toNat]?) fun e351=>(.ask (decide (e351.length=14)) (.opt (zE .i64 e351 0) fun y352=>(.opt (zE .i64 e351 1) fun y353=>(.opt (zE .i64 e351 2) fun y354=>(.opt (zE .i64 e351 3) fun y355=>(.opt (zu e351 4) fun y356=>(.opt (zE .i64 e351 5) fun y357=>(.opt (zE .i64 e351 6) fun y358=>(.opt (zi e351 7) fun y359=>(.opt (zi e351 8) fun y360=>(.opt (zE .i64 e351 9) fun y361=>(.opt (zE .i64 e351 10) fun y362=>(.opt (zi e351 11) fun y363=>(.opt (zi e351 12) fun y364=>(.opt (zAW e351 13) fun y365=>(.ask ((y352==(1:Int))) (.ask ((y354==(2:Int))) (.opt (qDF n y356 (⟨#[34]⟩:BA) (⟨#[34,34]⟩:BA)) fun r366=>(.ask (decide ((⟨#[34]⟩:BA).size+r366.size≤9223372036854775807)) (.ask (decide (((⟨#[34]⟩:BA)++r366).size+(⟨#[34]⟩:BA).size≤9223372036854775807)) (.done (((⟨#[34]⟩:BA)++r366)++(⟨#[34]⟩:BA))) .fail) .fail)) (.opt (qq n y354 y355 y356) fun r374=>(.done r374))) (.ask ((y352==(2:Int))) (.opt (qA7 n y357 y358 y359 y360) fun r385=>(.done r385)) (.ask ((y352==(3:Int))) (.opt (qA7 n y357 y358 y359 y360) fun r386=>(.ask (decide (r386.size+(⟨#[58]⟩:BA).size≤9223372036854775807)) (.opt (qA7 n y361 y362 y363 y364) fun r387=>(.ask (decide ((r386++(⟨#[58]⟩:BA)).size+r387.size≤9223372036854775807)) (.done ((r386++(⟨#[58]⟩:BA))++r387)) .fail)) .fail)) (.ask ((y352==(4:Int))) (.ask (decide (0≤(0:Int)∧(0:Int)<y365.length)) (.opt (y365[((0:Int)).toNat]?) fun e388=>(.ask (decide (e388.length=1)) (.opt (zE .i64 e388 0) fun y389=>(.opt (rec x0 y389 (5:Int)) fun r390=>(.ask (decide ((⟨#[45]⟩:BA).size+r390.size≤9223372036854775807)) (.done ((⟨#[45]⟩:BA)++r390)) .fail))) .fail)) .fail) (.ask ((y352==(5:Int))) (.opt (qDV n y353) fun r391=>(.ask (decide (0≤(0:Int)∧(0:Int)<y365.length)) (.opt (y365[((0:Int)).toNat]?) fun e392=>(.ask (decide (e392.length=1)) (.opt (zE .i64 e392 0) fun y393=>(.ask (decide (0≤(1:Int)∧(1:Int)<y365.length)) (.opt (y365[((1:Int)).toNat]?) fun e394=>(.ask (decide (e394.length=1)) (.opt (zE .i64 e394 0) fun y395=>(.opt (rec x0 y393 r391) fun r396=>(.opt (qBN n y353) fun r399=>(.ask (decide (r396.size+r399.size≤9223372036854775807)) (.opt (rec x0 y395 (IntKind.i64.wrap (r391+(1:Int)))) fun r400=>(.ask (decide ((r396++r399).size+r400.size≤9223372036854775807)) (.ask ((decide (r391<x2))) (.ask (decide ((⟨#[40]⟩:BA).size+((r396++r399)++r400).size≤9223372036854775807)) (.ask (decide (((⟨#[40]⟩:BA)++((r396++r399)++r400)).size+(⟨#[41]⟩:BA).size≤9223372036854775807)) (.done (((⟨#[40]⟩:BA)++((r396++r399)++r400))++(⟨#[41]⟩:BA))) .fail) .fail) (.done ((r396++r399)++r400))) .fail)) .fail)))) .fail)) .fail)) .fail)) .fail)) (.opt (zD (qBR rec n) n (x0,(0:Nat),y365,(y365.length:Int),(0:Int),y352,y353,y354,y355,y356,y357,y358,y359,y360,y361,y362,y363,y364,y365,([]:RW))) fun r404=>(.opt (qB0 n r404.2.2.1) fun r407=>(.ask (decide (r407.size+(⟨#[40]⟩:BA).size≤9223372036854775807)) (.ask (decide (r404.1=r404.2.2.2.2.2.2.2.2.2.2.2.2.2.2.2.length)) (.opt (qFi n r404.2.2.2.2.2.2.2.2.2.2.2.2.2.2.2 (⟨#[44]⟩:BA)) fun r408=>(.ask (zA3 (⟨(.c (.p (.s r408))),[],[]⟩:Res)) (.ask (decide ((r407++(⟨#[40]⟩:BA)).size+r408.size≤9223372036854775807)) (.ask (decide (((r407++(⟨#[40]⟩:BA))++r408).size+(⟨#[41]⟩:BA).size≤9223372036854775807)) (.done (((r407++(⟨#[40]⟩:BA))++r408)++(⟨#[41]⟩:BA))) .fail) .fail) .fail)) .fail) .fail)))))))))))))))))))))) .fail)) .fail)
def qa:Nat→RW→Int→Int→Option (BA)
 |0,_,_,_=>none
 |n+1,x0,x1,x2=>(qAi (qa n) n x0 x1 x2).run
abbrev qFj (n:Nat) (ih:Ok (Rn n) qDx (qa n)):List (Ent (Rn n)):= [en (qH2 n),en (qGD n),en (qGE n),en ih,en (qJP n),en (qIP n),en (qIQ n),en (qMJ n)]
def qHN (n:Nat) (ih:Ok (Rn n) qDx (qa n)):LEnt (KB 47) (Rn n) n:=lok (zU 47) 125 ⟨⟨[(0,aL),(7,(.c (.ptr 0 448 0 0 0))),(10,(.c (.own 0 5760 0 0))),(92,aL),(93,aI),(94,aI)],[(448,⟨0,14,64,(.box [qI,qI,qI,qI,qS,qI,qI,qB,qB,qI,qI,qB,qB,qL])⟩),(5760,⟨0,1,9,(.row [])⟩)],[]⟩,[(.exit 1,⟨[(7,(.c (.ptr 0 448 0 0 0))),(10,(.c (.own 0 5760 0 0)))],[(448,⟨0,14,64,(.box [qI,qI,qI,qI,qS,qI,qI,qB,qB,qI,qI,qB,qB,qL])⟩),(5760,⟨0,1,9,(.row [])⟩)],[]⟩)]⟩ (qBR (qa n) n) (qFj n ih) [] fun _=>(by kernel_rfl)
theorem qDg:∀n,Ok (Rn n) qDx (qa n)
 |0=>ok0 fun _=>rfl
 |n+1=>stO (T:=qAi (qa n) n) (by kernel_rfl) (qFj n (qDg n)) [qHN n (qDg n)] (fun _=>(by kernel_rfl)) fun _=>(by kernel_rfl)
def qJk:Sg:=⟨17,[aL],[],⟨aS,[],[]⟩⟩
def qCz (n:Nat) (x0:RW):Tr (BA):=(.opt (qAq n x0) fun r350=>(.ask ((!r350)) (.done (⟨#[]⟩:BA)) (.opt (qa n x0 (IntKind.i64.wrap ((x0.length:Int)-(1:Int))) (1:Int)) fun r409=>(.ask ((decide ((r409.size:Int)>(200:Int)))) (.done (⟨#[]⟩:BA)) (.done r409)))))
def qB8:Nat→RW→Option (BA)
 |0,_=>none
 |n+1,x0=>(qCz n x0).run
abbrev qJl (n:Nat):List (Ent (Rn n)):= [en (qEF n),en (qDg n)]
theorem qJA:∀n,Ok (Rn n) qJk (qB8 n)
 |0=>ok0 fun _=>rfl
 |n+1=>stO (T:=qCz n) (by kernel_rfl) (qJl n) [] (fun _=>(by kernel_rfl)) fun _=>(by kernel_rfl)
def qFk:Sg:=⟨90,[aS,aS],[],⟨aS,[],[]⟩⟩
def qBF:Nat→BA→BA→Option ((BA))
 |0,_,_=>none
 |n+1,x0,x1=>zK x0 x1
theorem qDh:∀n,Ok (Rn n) qFk (qBF n)
 |0=>ok0 fun _=>rfl
 |n+1=>stL (by kernel_rfl) (fun a r e=>congrArg (Option.map fun r=>(qFk.Of r).v) e) rfl rfl rfl
def qIS:Sg:=⟨37,[(.c (.ptr 0 0 0 0 0))],[[(0,⟨0,3,55,(.box [qS,(.own 0 1 1 0),qB])⟩),(1,⟨1,14,64,(.row [])⟩)]],⟨(.tup []),[[(0,⟨0,3,55,(.box [qS,(.own 0 1 1 0),qB])⟩),(1,⟨1,14,64,(.row [])⟩)]],[]⟩⟩
def qDH (n:Nat) (x0:BA) (x1:Nat) (x2:Bool) (x3:RW):Tr (BA×Nat×Bool×RW):=(.opt (qBF n x0 (⟨#[32]⟩:BA)) fun r412=>(.done (r412,x1,x2,x3)))
def qA0:Nat→BA→Nat→Bool→RW→Option (BA×Nat×Bool×RW)
 |0,_,_,_,_=>none
 |n+1,x0,x1,x2,x3=>(qDH n x0 x1 x2 x3).run
abbrev qIT (n:Nat):List (Ent (Rn n)):= [en (qDh n)]
theorem qCD:∀n,Ok (Rn n) qIS (qA0 n)
 |0=>ok0 fun _=>rfl
 |n+1=>stO (T:=qDH n) (by kernel_rfl) (qIT n) [] (fun _=>(by kernel_rfl)) fun _=>(by kernel_rfl)
def qEH:Sg:=⟨123,[aS,aS],[],⟨aB,[],[]⟩⟩
def qAu (n:Nat) (x0 x1:BA):Tr (Bool):=(.ask ((decide ((x0.size:Int)≥(x1.size:Int)))) (.ask (decide (0≤(0:Int)∧(0:Int)≤(x1.size:Int)∧(x1.size:Int)≤x0.size)) (.done ((x0.extract ((0:Int)).toNat ((x1.size:Int)).toNat).toList==x1.toList)) .fail) (.done false))
def qAv:Nat→BA→BA→Option (Bool)
 |0,_,_=>none
 |n+1,x0,x1=>(qAu n x0 x1).run
theorem qD6:∀n,Ok (Rn n) qEH (qAv n)
 |0=>ok0 fun _=>rfl
 |n+1=>stO (T:=qAu n) (by kernel_rfl) [] [] (fun _=>(by kernel_rfl)) fun _=>(by kernel_rfl)
def qJB:Sg:=⟨69,[aS,aS],[],⟨aB,[],[]⟩⟩
def qCf (n:Nat) (x0 x1:BA):Tr (Bool):=(.opt (qAv n x0 x1) fun r416=>(.done r416))
def qr:Nat→BA→BA→Option (Bool)
 |0,_,_=>none
 |n+1,x0,x1=>(qCf n x0 x1).run
abbrev qJC (n:Nat):List (Ent (Rn n)):= [en (qD6 n)]
theorem qCS:∀n,Ok (Rn n) qJB (qr n)
 |0=>ok0 fun _=>rfl
 |n+1=>stO (T:=qCf n) (by kernel_rfl) (qJC n) [] (fun _=>(by kernel_rfl)) fun _=>(by kernel_rfl)
def qJm:Sg:=⟨85,[(.c (.ptr 0 0 0 0 0))],[[(0,⟨0,3,55,(.box [qS,(.own 0 1 1 0),qB])⟩),(1,⟨1,14,64,(.row [])⟩)]],⟨aS,[[(0,⟨0,3,55,(.box [qS,(.own 0 1 1 0),qB])⟩),(1,⟨1,14,64,(.row [])⟩)]],[]⟩⟩
def qCE (n:Nat) (v:Nat×Int×Int×RW×BA×Nat×Bool×RW):Tr ((Nat×Int×Int×RW×BA×Nat×Bool×RW)⊕((BA×BA×Nat×Bool×RW)⊕(BA×Nat×Bool×RW))):=(.ask ((decide (v.2.2.1<v.2.1))) (.ask (decide (v.1=v.2.2.2.1.length∧0≤v.2.2.1∧v.2.2.1<((v.1:Nat):Int))) (.opt (v.2.2.2.1[(v.2.2.1).toNat]?) fun e414=>(.opt (zu e414 0) fun y415=>(.opt (qr n v.2.2.2.2.1 y415) fun r416=>(.ask (r416) (.done (.inr (.inl ((y415,v.2.2.2.2.1,v.2.2.2.2.2.1,v.2.2.2.2.2.2.1,v.2.2.2.2.2.2.2))))) (.done (.inl (v.1,v.2.1,(IntKind.i64.wrap (v.2.2.1+(1:Int))),v.2.2.2.1,v.2.2.2.2.1,v.2.2.2.2.2.1,v.2.2.2.2.2.2.1,v.2.2.2.2.2.2.2))))))) .fail) (.done (.inr (.inr ((v.2.2.2.2.1,v.2.2.2.2.2.1,v.2.2.2.2.2.2.1,v.2.2.2.2.2.2.2))))))
def qFl (n:Nat) (x0:BA) (x1:Nat) (x2:Bool) (x3:RW):Tr (BA×BA×Nat×Bool×RW):=(.opt (qA0 n x0 x1 x2 x3) fun r413=>(.opt (zD (qCE n) n ((15:Nat),(15:Int),(0:Int),([[(.s (⟨#[60,62]⟩:BA))],[(.s (⟨#[60,61]⟩:BA))],[(.s (⟨#[62,61]⟩:BA))],[(.s (⟨#[60]⟩:BA))],[(.s (⟨#[62]⟩:BA))],[(.s (⟨#[61]⟩:BA))],[(.s (⟨#[38]⟩:BA))],[(.s (⟨#[43]⟩:BA))],[(.s (⟨#[45]⟩:BA))],[(.s (⟨#[42]⟩:BA))],[(.s (⟨#[47]⟩:BA))],[(.s (⟨#[40]⟩:BA))],[(.s (⟨#[41]⟩:BA))],[(.s (⟨#[44]⟩:BA))],[(.s (⟨#[58]⟩:BA))]]:RW),r413.1,r413.2.1,r413.2.2.1,r413.2.2.2)) fun r417=>(.alt r417 (fun r418=>(.done (r418.1,r418.2.1,r418.2.2.1,r418.2.2.2.1,r418.2.2.2.2))) (fun r419=>(.done ((⟨#[]⟩:BA),r419.1,r419.2.1,r419.2.2.1,r419.2.2.2))))))
def qBc:Nat→BA→Nat→Bool→RW→Option (BA×BA×Nat×Bool×RW)
 |0,_,_,_,_=>none
 |n+1,x0,x1,x2,x3=>(qFl n x0 x1 x2 x3).run
abbrev qFm (n:Nat):List (Ent (Rn n)):= [en (qCD n),en (qCS n)]
def qH3 (n:Nat):LEnt (KB 85) (Rn n) n:=lok (zU 85) 29 ⟨⟨[(0,(.c (.ptr 0 0 0 0 0))),(7,(.c (.own 1 448 0 0))),(8,aI),(9,aI)],[(448,⟨0,1,9,(.row [])⟩)],[[(0,⟨0,3,55,(.box [qS,(.own 0 1 1 0),qB])⟩),(1,⟨1,14,64,(.row [])⟩)]]⟩,[(.ret,⟨[(2,aS)],[],[[(0,⟨0,3,55,(.box [qS,(.own 0 1 1 0),qB])⟩),(1,⟨1,14,64,(.row [])⟩)]]⟩),(.exit 0,⟨[],[],[[(0,⟨0,3,55,(.box [qS,(.own 0 1 1 0),qB])⟩),(1,⟨1,14,64,(.row [])⟩)]]⟩)]⟩ (qCE n) (qFm n) [] fun _=>(by kernel_rfl)
theorem qFF:∀n,Ok (Rn n) qJm (qBc n)
 |0=>ok0 fun _=>rfl
 |n+1=>stO (T:=qFl n) (by kernel_rfl) (qFm n) [qH3 n] (fun _=>(by kernel_rfl)) fun _=>(by kernel_rfl)
def qJn:Sg:=⟨88,[(.c (.ptr 0 0 0 0 0)),aS],[[(0,⟨0,3,55,(.box [qS,(.own 0 1 1 0),qB])⟩),(1,⟨1,14,64,(.row [])⟩)]],⟨aB,[[(0,⟨0,3,55,(.box [qS,(.own 0 1 1 0),qB])⟩),(1,⟨1,14,64,(.row [])⟩)]],[]⟩⟩
def qFn (n:Nat) (x0 x1:BA) (x2:Nat) (x3:Bool) (x4:RW):Tr (Bool×BA×Nat×Bool×RW):=(.opt (qBc n x1 x2 x3 x4) fun r420=>(.ask ((!(r420.1.toList==x0.toList))) (.done (false,r420.2.1,r420.2.2.1,r420.2.2.2.1,r420.2.2.2.2)) (.ask (decide (0≤(x0.size:Int)∧(x0.size:Int)≤(r420.2.1.size:Int)∧(r420.2.1.size:Int)≤r420.2.1.size)) (.done (true,(r420.2.1.extract ((x0.size:Int)).toNat ((r420.2.1.size:Int)).toNat),r420.2.2.1,r420.2.2.2.1,r420.2.2.2.2)) .fail)))
def qo:Nat→BA→BA→Nat→Bool→RW→Option (Bool×BA×Nat×Bool×RW)
 |0,_,_,_,_,_=>none
 |n+1,x0,x1,x2,x3,x4=>(qFn n x0 x1 x2 x3 x4).run
abbrev qJo (n:Nat):List (Ent (Rn n)):= [en (qFF n)]
theorem qBv:∀n,Ok (Rn n) qJn (qo n)
 |0=>ok0 fun _=>rfl
 |n+1=>stO (T:=qFn n) (by kernel_rfl) (qJo n) [] (fun _=>(by kernel_rfl)) fun _=>(by kernel_rfl)
def qKP:Sg:=⟨89,[(.c (.ptr 0 0 0 0 0)),(.agg [qI,qI,qI,qI,qS,qI,qI,qB,qB,qI,qI,qB,qB,qL])],[[(0,⟨0,3,55,(.box [qS,(.own 0 1 1 0),qB])⟩),(1,⟨1,14,64,(.row [])⟩)]],⟨aI,[[(0,⟨0,3,55,(.box [qS,(.own 0 1 1 0),qB])⟩),(1,⟨1,14,64,(.row [])⟩)]],[]⟩⟩
def qGF (n:Nat) (x0 x1 x2 x3:Int) (x4:BA) (x5 x6:Int) (x7 x8:Bool) (x9 x10:Int) (x11 x12:Bool) (x13:RW) (x14:BA) (x15:Nat) (x16:Bool) (x17:RW):Tr (Int×BA×Nat×Bool×RW):=(.ask (x16) (.ask (false) (.ask (decide (1=([[(.i .i64 x0),(.i .i64 x1),(.i .i64 x2),(.i .i64 x3),(.s x4),(.i .i64 x5),(.i .i64 x6),(.b x7),(.b x8),(.i .i64 x9),(.i .i64 x10),(.b x11),(.b x12),(.ls x13)]]:RW).length)) (.ask (decide (x15=x17.length∧0<14∧0<120∧(x15+([[(.i .i64 x0),(.i .i64 x1),(.i .i64 x2),(.i .i64 x3),(.s x4),(.i .i64 x5),(.i .i64 x6),(.b x7),(.b x8),(.i .i64 x9),(.i .i64 x10),(.b x11),(.b x12),(.ls x13)]]:RW).length)*120≤140737488355328∧([[(.i .i64 x0),(.i .i64 x1),(.i .i64 x2),(.i .i64 x3),(.s x4),(.i .i64 x5),(.i .i64 x6),(.b x7),(.b x8),(.i .i64 x9),(.i .i64 x10),(.b x11),(.b x12),(.ls x13)]]:RW).all (fun e=>e.length==14)=true)) (.done ((IntKind.i64.wrap ((((x15+1):Nat):Int)-(1:Int))),x14,(x15+1),true,(x17++([[(.i .i64 x0),(.i .i64 x1),(.i .i64 x2),(.i .i64 x3),(.s x4),(.i .i64 x5),(.i .i64 x6),(.b x7),(.b x8),(.i .i64 x9),(.i .i64 x10),(.b x11),(.b x12),(.ls x13)]]:RW)))) .fail) .fail) (.done ((IntKind.i64.wrap (((x15:Nat):Int)-(1:Int))),x14,x15,true,x17))) (.ask ((!(decide (((x15:Nat):Int)≥(60:Int))))) (.ask (decide (1=([[(.i .i64 x0),(.i .i64 x1),(.i .i64 x2),(.i .i64 x3),(.s x4),(.i .i64 x5),(.i .i64 x6),(.b x7),(.b x8),(.i .i64 x9),(.i .i64 x10),(.b x11),(.b x12),(.ls x13)]]:RW).length)) (.ask (decide (x15=x17.length∧0<14∧0<120∧(x15+([[(.i .i64 x0),(.i .i64 x1),(.i .i64 x2),(.i .i64 x3),(.s x4),(.i .i64 x5),(.i .i64 x6),(.b x7),(.b x8),(.i .i64 x9),(.i .i64 x10),(.b x11),(.b x12),(.ls x13)]]:RW).length)*120≤140737488355328∧([[(.i .i64 x0),(.i .i64 x1),(.i .i64 x2),(.i .i64 x3),(.s x4),(.i .i64 x5),(.i .i64 x6),(.b x7),(.b x8),(.i .i64 x9),(.i .i64 x10),(.b x11),(.b x12),(.ls x13)]]:RW).all (fun e=>e.length==14)=true)) (.done ((IntKind.i64.wrap ((((x15+1):Nat):Int)-(1:Int))),x14,(x15+1),(decide (((x15:Nat):Int)≥(60:Int))),(x17++([[(.i .i64 x0),(.i .i64 x1),(.i .i64 x2),(.i .i64 x3),(.s x4),(.i .i64 x5),(.i .i64 x6),(.b x7),(.b x8),(.i .i64 x9),(.i .i64 x10),(.b x11),(.b x12),(.ls x13)]]:RW)))) .fail) .fail) (.done ((IntKind.i64.wrap (((x15:Nat):Int)-(1:Int))),x14,x15,(decide (((x15:Nat):Int)≥(60:Int))),x17))))
def qp:Nat→Int→Int→Int→Int→BA→Int→Int→Bool→Bool→Int→Int→Bool→Bool→RW→BA→Nat→Bool→RW→Option (Int×BA×Nat×Bool×RW)
 |0,_,_,_,_,_,_,_,_,_,_,_,_,_,_,_,_,_,_=>none
 |n+1,x0,x1,x2,x3,x4,x5,x6,x7,x8,x9,x10,x11,x12,x13,x14,x15,x16,x17=>(qGF n x0 x1 x2 x3 x4 x5 x6 x7 x8 x9 x10 x11 x12 x13 x14 x15 x16 x17).run
theorem qB9:∀n,Ok (Rn n) qKP (qp n)
 |0=>ok0 fun _=>rfl
 |n+1=>stO (T:=qGF n) (by kernel_rfl) [] [] (fun _=>(by kernel_rfl)) fun _=>(by kernel_rfl)
def qJQ:Sg:=⟨186,[aS,aS],[],⟨(.tup [(false,[qS]),(false,[qS]),(false,[qB])]),[],[]⟩⟩
def qGc:Nat→BA→BA→Option ((BA×BA×Bool))
 |0,_,_=>none
 |n+1,x0,x1=>zAK x0 x1
theorem qMr:∀n,Ok (Rn n) qJQ (qGc n)
 |0=>ok0 fun _=>rfl
 |n+1=>stL (by kernel_rfl) (fun a r e=>congrArg (Option.map fun r=>(qJQ.Of r).v) e) rfl rfl rfl
def qHO:Sg:=⟨162,[(.c (.ptr 0 0 0 0 0)),(.agg [qI,qI,qS])],[[(0,⟨0,3,55,(.box [qS,(.own 0 1 1 0),qB])⟩),(1,⟨1,14,64,(.row [])⟩)]],⟨aI,[[(0,⟨0,3,55,(.box [qS,(.own 0 1 1 0),qB])⟩),(1,⟨1,14,64,(.row [])⟩)]],[]⟩⟩
def qEI (n:Nat) (x0 x1:Int) (x2 x3:BA) (x4:Nat) (x5:Bool) (x6:RW):Tr (Int×BA×Nat×Bool×RW):=(.opt (qp n (1:Int) (0:Int) x0 x1 x2 (0:Int) (0:Int) false false (0:Int) (0:Int) false false ([]:RW) x3 x4 x5 x6) fun r431=>(.done (r431.1,r431.2.1,r431.2.2.1,r431.2.2.2.1,r431.2.2.2.2)))
def qi:Nat→Int→Int→BA→BA→Nat→Bool→RW→Option (Int×BA×Nat×Bool×RW)
 |0,_,_,_,_,_,_,_=>none
 |n+1,x0,x1,x2,x3,x4,x5,x6=>(qEI n x0 x1 x2 x3 x4 x5 x6).run
abbrev qHP (n:Nat):List (Ent (Rn n)):= [en (qB9 n)]
theorem qD2:∀n,Ok (Rn n) qHO (qi n)
 |0=>ok0 fun _=>rfl
 |n+1=>stO (T:=qEI n) (by kernel_rfl) (qHP n) [] (fun _=>(by kernel_rfl)) fun _=>(by kernel_rfl)
def qIU:Sg:=⟨161,[(.c (.ptr 0 0 0 0 0))],[[(0,⟨0,3,55,(.box [qS,(.own 0 1 1 0),qB])⟩),(1,⟨1,14,64,(.row [])⟩)]],⟨aI,[[(0,⟨0,3,55,(.box [qS,(.own 0 1 1 0),qB])⟩),(1,⟨1,14,64,(.row [])⟩)]],[]⟩⟩
def qCr (n:Nat) (v:BA×BA×BA×Nat×Bool×RW):Tr ((BA×BA×BA×Nat×Bool×RW)⊕((Int×BA×Nat×Bool×RW)⊕(BA×BA×BA×Nat×Bool×RW))):=(.opt (qGc n v.2.1 (⟨#[34]⟩:BA)) fun r426=>(.ask ((!r426.2.2)) (.done (.inr (.inl (((-1:Int),v.2.2.1,v.2.2.2.1,true,v.2.2.2.2.2))))) (.ask (decide (v.1.size+r426.1.size≤9223372036854775807)) (.opt (qr n r426.2.1 (⟨#[34]⟩:BA)) fun r427=>(.ask ((!r427)) (.done (.inr (.inr (((v.1++r426.1),r426.2.1,v.2.2.1,v.2.2.2.1,v.2.2.2.2.1,v.2.2.2.2.2))))) (.ask (decide ((v.1++r426.1).size+(⟨#[34]⟩:BA).size≤9223372036854775807)) (.ask (decide (0≤(1:Int)∧(1:Int)≤(r426.2.1.size:Int)∧(r426.2.1.size:Int)≤r426.2.1.size)) (.done (.inl (((v.1++r426.1)++(⟨#[34]⟩:BA)),(r426.2.1.extract ((1:Int)).toNat ((r426.2.1.size:Int)).toNat),v.2.2.1,v.2.2.2.1,v.2.2.2.2.1,v.2.2.2.2.2))) .fail) .fail))) .fail)))
def qEx (n:Nat) (x0:BA) (x1:Nat) (x2:Bool) (x3:RW):Tr (Int×BA×Nat×Bool×RW):=(.ask (decide (0≤(1:Int)∧(1:Int)≤(x0.size:Int)∧(x0.size:Int)≤x0.size)) (.opt (zD (qCr n) n ((⟨#[]⟩:BA),(x0.extract ((1:Int)).toNat ((x0.size:Int)).toNat),x0,x1,x2,x3)) fun r428=>(.alt r428 (fun r429=>(.done (r429.1,r429.2.1,r429.2.2.1,r429.2.2.2.1,r429.2.2.2.2))) (fun r430=>(.opt (qi n (2:Int) (0:Int) r430.1 r430.2.1 r430.2.2.2.1 r430.2.2.2.2.1 r430.2.2.2.2.2) fun r432=>(.done (r432.1,r432.2.1,r432.2.2.1,r432.2.2.2.1,r432.2.2.2.2)))))) .fail)
def qDI:Nat→BA→Nat→Bool→RW→Option (Int×BA×Nat×Bool×RW)
 |0,_,_,_,_=>none
 |n+1,x0,x1,x2,x3=>(qEx n x0 x1 x2 x3).run
abbrev qEy (n:Nat):List (Ent (Rn n)):= [en (qMr n),en (qCS n),en (qD2 n)]
def qGz (n:Nat):LEnt (KB 161) (Rn n) n:=lok (zU 161) 14 ⟨⟨[(0,(.c (.ptr 0 0 0 0 0))),(3,aS),(4,aS)],[],[[(0,⟨0,3,55,(.box [qS,(.own 0 1 1 0),qB])⟩),(1,⟨1,14,64,(.row [])⟩)]]⟩,[(.ret,⟨[(2,aI)],[],[[(0,⟨0,3,55,(.box [qS,(.own 0 1 1 0),qB])⟩),(1,⟨1,14,64,(.row [])⟩)]]⟩),(.exit 0,⟨[(0,(.c (.ptr 0 0 0 0 0))),(3,aS),(4,aS)],[],[[(0,⟨0,3,55,(.box [qS,(.own 0 1 1 0),qB])⟩),(1,⟨1,14,64,(.row [])⟩)]]⟩)]⟩ (qCr n) (qEy n) [] fun _=>(by kernel_rfl)
theorem qH4:∀n,Ok (Rn n) qIU (qDI n)
 |0=>ok0 fun _=>rfl
 |n+1=>stO (T:=qEx n) (by kernel_rfl) (qEy n) [qGz n] (fun _=>(by kernel_rfl)) fun _=>(by kernel_rfl)
def qFG:Sg:=⟨59,[aS,aS],[],⟨(.tup [(false,[qS]),(false,[qB])]),[],[]⟩⟩
def qAb:Nat→BA→BA→Option ((BA×Bool))
 |0,_,_=>none
 |n+1,x0,x1=>zT x0 x1
theorem qDJ:∀n,Ok (Rn n) qFG (qAb n)
 |0=>ok0 fun _=>rfl
 |n+1=>stL (by kernel_rfl) (fun a r e=>congrArg (Option.map fun r=>(qFG.Of r).v) e) rfl rfl rfl
def qOI:Sg:=⟨71,[aI],[],⟨(.agg [qI,qI,qS]),[],[]⟩⟩
def qHQ (n:Nat) (x0:Int):Tr (Int×Int×BA):=(.done ((4:Int),x0,(⟨#[]⟩:BA)))
def qBi:Nat→Int→Option (Int×Int×BA)
 |0,_=>none
 |n+1,x0=>(qHQ n x0).run
theorem qJR:∀n,Ok (Rn n) qOI (qBi n)
 |0=>ok0 fun _=>rfl
 |n+1=>stO (T:=qHQ n) (by kernel_rfl) [] [] (fun _=>(by kernel_rfl)) fun _=>(by kernel_rfl)
def qJp:Sg:=⟨163,[(.c (.ptr 0 0 0 0 0))],[[(0,⟨0,3,55,(.box [qS,(.own 0 1 1 0),qB])⟩),(1,⟨1,14,64,(.row [])⟩)]],⟨aS,[[(0,⟨0,3,55,(.box [qS,(.own 0 1 1 0),qB])⟩),(1,⟨1,14,64,(.row [])⟩)]],[]⟩⟩
def qFo (n:Nat) (x0:BA) (x1:Nat) (x2:Bool) (x3:RW):Tr (BA×BA×Nat×Bool×RW):=(.opt (qA0 n x0 x1 x2 x3) fun r442=>(.opt (qBF n r442.1 (⟨#[65,66,67,68,69,70,71,72,73,74,75,76,77,78,79,80,81,82,83,84,85,86,87,88,89,90,48,49,50,51,52,53,54,55,56,57,36]⟩:BA)) fun r443=>(.ask (decide (0≤(0:Int)∧(0:Int)≤(IntKind.i64.wrap ((r442.1.size:Int)-(r443.size:Int)))∧(IntKind.i64.wrap ((r442.1.size:Int)-(r443.size:Int)))≤r442.1.size)) (.ask (decide (0≤(IntKind.i64.wrap ((r442.1.size:Int)-(r443.size:Int)))∧(IntKind.i64.wrap ((r442.1.size:Int)-(r443.size:Int)))≤(r442.1.size:Int)∧(r442.1.size:Int)≤r442.1.size)) (.done ((r442.1.extract ((0:Int)).toNat ((IntKind.i64.wrap ((r442.1.size:Int)-(r443.size:Int)))).toNat),(r442.1.extract ((IntKind.i64.wrap ((r442.1.size:Int)-(r443.size:Int)))).toNat ((r442.1.size:Int)).toNat),r442.2.1,r442.2.2.1,r442.2.2.2)) .fail) .fail)))
def qBG:Nat→BA→Nat→Bool→RW→Option (BA×BA×Nat×Bool×RW)
 |0,_,_,_,_=>none
 |n+1,x0,x1,x2,x3=>(qFo n x0 x1 x2 x3).run
abbrev qJq (n:Nat):List (Ent (Rn n)):= [en (qCD n),en (qDh n)]
theorem qFH:∀n,Ok (Rn n) qJp (qBG n)
 |0=>ok0 fun _=>rfl
 |n+1=>stO (T:=qFo n) (by kernel_rfl) (qJq n) [] (fun _=>(by kernel_rfl)) fun _=>(by kernel_rfl)
def qOJ:Sg:=⟨68,[aB],[],⟨(.agg [qI,qI,qS]),[],[]⟩⟩
def qHR (n:Nat) (x0:Bool):Tr (Int×Int×BA):=(.ask (x0) (.done ((3:Int),(1:Int),(⟨#[]⟩:BA))) (.done ((3:Int),(0:Int),(⟨#[]⟩:BA))))
def qEJ:Nat→Bool→Option (Int×Int×BA)
 |0,_=>none
 |n+1,x0=>(qHR n x0).run
theorem qNa:∀n,Ok (Rn n) qOJ (qEJ n)
 |0=>ok0 fun _=>rfl
 |n+1=>stO (T:=qHR n) (by kernel_rfl) [] [] (fun _=>(by kernel_rfl)) fun _=>(by kernel_rfl)
def qJr:Sg2:=⟨61,[aS,aI,aI],(.tup [(false,[qI]),(false,[(.p .nif)])]),(.tup [(false,[qI]),(false,[(.p .ifc)])])⟩
def qBd:Nat→BA→Int→Int→Option ((Int)⊕(Int))
 |0,_,_,_=>none
 |n+1,x0,x1,x2=>zQ x0 x1 x2
theorem qFI:∀n,Ok2 (Rn n) qJr (qBd n)
 |0=>fun a r e=>by cases e
 |n+1=>zKI (by kernel_rfl) fun a r e=>by
  rcases r with r|r
  ·exact congrArg (Option.map z9) e
  ·exact congrArg (Option.map z9) e
def qNb:Sg:=⟨64,[aI],[],⟨(.agg [qI,qI,qS]),[],[]⟩⟩
def qGd (n:Nat) (x0:Int):Tr (Int×Int×BA):=(.done ((1:Int),x0,(⟨#[]⟩:BA)))
def qDm:Nat→Int→Option (Int×Int×BA)
 |0,_=>none
 |n+1,x0=>(qGd n x0).run
theorem qMs:∀n,Ok (Rn n) qNb (qDm n)
 |0=>ok0 fun _=>rfl
 |n+1=>stO (T:=qGd n) (by kernel_rfl) [] [] (fun _=>(by kernel_rfl)) fun _=>(by kernel_rfl)
def qLT:Sg:=⟨25,[aS],[],⟨(.tup [(true,[qI,qI,qS]),(false,[qB])]),[],[]⟩⟩
def qBC (n:Nat) (v:BA×Int×Int×Int×BA×Int×Int×BA):Tr ((BA×Int×Int×Int×BA×Int×Int×BA)⊕((BA×Int×Int×BA×Int×Int×BA))):=(.ask ((decide (v.2.1≤(5:Int)))) (.opt (qAd n v.2.1) fun r455=>(.ask ((r455.toList==v.1.toList)) (.opt (qBi n v.2.1) fun r456=>(.done (.inl (v.1,(IntKind.i64.wrap (v.2.1+(1:Int))),v.2.2.1,v.2.2.2.1,v.2.2.2.2.1,r456.1,r456.2.1,r456.2.2)))) (.done (.inl (v.1,(IntKind.i64.wrap (v.2.1+(1:Int))),v.2.2.1,v.2.2.2.1,v.2.2.2.2.1,v.2.2.2.2.2.1,v.2.2.2.2.2.2.1,v.2.2.2.2.2.2.2))))) (.done (.inr ((v.1,v.2.2.1,v.2.2.2.1,v.2.2.2.2.1,v.2.2.2.2.2.1,v.2.2.2.2.2.2.1,v.2.2.2.2.2.2.2)))))
def qBK (n:Nat) (x0:BA):Tr (Int×Int×BA×Bool):=(.opt (qAb n x0 (⟨#[39]⟩:BA)) fun r445=>(.ask (r445.2) (.opt (qAk n (2:Int) (0:Int) r445.1) fun r446=>(.ask ((!r446)) (.done ((0:Int),(0:Int),(⟨#[]⟩:BA),false)) (.opt (qq n (2:Int) (0:Int) r445.1) fun r447=>(.ask ((!(r447.toList==x0.toList))) (.done ((0:Int),(0:Int),(⟨#[]⟩:BA),false)) (.done ((2:Int),(0:Int),r445.1,true)))))) (.ask ((x0.toList==(⟨#[70,65,76,83,69]⟩:BA).toList)) (.opt (qEJ n (x0.toList==(⟨#[84,82,85,69]⟩:BA).toList)) fun r448=>(.opt (qAk n r448.1 r448.2.1 r448.2.2) fun r449=>(.ask ((!r449)) (.done ((0:Int),(0:Int),(⟨#[]⟩:BA),false)) (.opt (qq n r448.1 r448.2.1 r448.2.2) fun r450=>(.ask ((!(r450.toList==x0.toList))) (.done ((0:Int),(0:Int),(⟨#[]⟩:BA),false)) (.done (r448.1,r448.2.1,r448.2.2,true))))))) (.ask ((x0.toList==(⟨#[84,82,85,69]⟩:BA).toList)) (.opt (qEJ n (x0.toList==(⟨#[84,82,85,69]⟩:BA).toList)) fun r451=>(.opt (qAk n r451.1 r451.2.1 r451.2.2) fun r452=>(.ask ((!r452)) (.done ((0:Int),(0:Int),(⟨#[]⟩:BA),false)) (.opt (qq n r451.1 r451.2.1 r451.2.2) fun r453=>(.ask ((!(r453.toList==x0.toList))) (.done ((0:Int),(0:Int),(⟨#[]⟩:BA),false)) (.done (r451.1,r451.2.1,r451.2.2,true))))))) (.opt (qr n x0 (⟨#[35]⟩:BA)) fun r454=>(.ask (r454) (.opt (zD (qBC n) n (x0,(1:Int),(0:Int),(0:Int),(⟨#[]⟩:BA),(0:Int),(0:Int),(⟨#[]⟩:BA))) fun r457=>(.opt (qAk n r457.2.2.2.2.1 r457.2.2.2.2.2.1 r457.2.2.2.2.2.2) fun r458=>(.ask ((!r458)) (.done ((0:Int),(0:Int),(⟨#[]⟩:BA),false)) (.opt (qq n r457.2.2.2.2.1 r457.2.2.2.2.2.1 r457.2.2.2.2.2.2) fun r459=>(.ask ((!(r459.toList==r457.1.toList))) (.done ((0:Int),(0:Int),(⟨#[]⟩:BA),false)) (.done (r457.2.2.2.2.1,r457.2.2.2.2.2.1,r457.2.2.2.2.2.2,true))))))) (.ask ((!(x0.toList==(⟨#[]⟩:BA).toList))) (.opt (qBd n x0 (10:Int) (64:Int)) fun r460=>(.alt r460 (fun r461=>(.opt (qDm n r461) fun r463=>(.opt (qAk n r463.1 r463.2.1 r463.2.2) fun r464=>(.ask ((!r464)) (.done ((0:Int),(0:Int),(⟨#[]⟩:BA),false)) (.opt (qq n r463.1 r463.2.1 r463.2.2) fun r465=>(.ask ((!(r465.toList==x0.toList))) (.done ((0:Int),(0:Int),(⟨#[]⟩:BA),false)) (.done (r463.1,r463.2.1,r463.2.2,true)))))))) (fun r462=>(.opt (qDm n r462) fun r466=>(.opt (qAk n r466.1 r466.2.1 r466.2.2) fun r467=>(.ask ((!r467)) (.done ((0:Int),(0:Int),(⟨#[]⟩:BA),false)) (.opt (qq n r466.1 r466.2.1 r466.2.2) fun r468=>(.ask ((!(r468.toList==x0.toList))) (.done ((0:Int),(0:Int),(⟨#[]⟩:BA),false)) (.done (r466.1,r466.2.1,r466.2.2,true)))))))))) (.opt (qAk n (0:Int) (0:Int) (⟨#[]⟩:BA)) fun r469=>(.ask ((!r469)) (.done ((0:Int),(0:Int),(⟨#[]⟩:BA),false)) (.opt (qq n (0:Int) (0:Int) (⟨#[]⟩:BA)) fun r470=>(.ask ((!(r470.toList==x0.toList))) (.done ((0:Int),(0:Int),(⟨#[]⟩:BA),false)) (.done ((0:Int),(0:Int),(⟨#[]⟩:BA),true)))))))))))))
def qAB:Nat→BA→Option (Int×Int×BA×Bool)
 |0,_=>none
 |n+1,x0=>(qBK n x0).run
abbrev qG0 (n:Nat):List (Ent (Rn n)):= [en (qDJ n),en (qHr n),en (qGD n),en (qNa n),en (qCS n),en (qEG n),en (qJR n),en2 (qFI n),en (qMs n)]
def qH5 (n:Nat):LEnt (KB 25) (Rn n) n:=lok (zU 25) 3837 ⟨⟨[(0,aS),(2,(.c (.ptr 0 128 0 0 0))),(4,(.c (.ptr 0 256 0 0 0))),(7,aI)],[(128,⟨0,3,37,(.box [qI,qI,qS])⟩),(256,⟨0,3,37,(.box [qI,qI,qS])⟩)],[]⟩,[(.exit 1,⟨[(0,aS),(2,(.c (.ptr 0 128 0 0 0))),(4,(.c (.ptr 0 256 0 0 0)))],[(128,⟨0,3,37,(.box [qI,qI,qS])⟩),(256,⟨0,3,37,(.box [qI,qI,qS])⟩)],[]⟩)]⟩ (qBC n) (qG0 n) [] fun _=>(by kernel_rfl)
theorem qKQ:∀n,Ok (Rn n) qLT (qAB n)
 |0=>ok0 fun _=>rfl
 |n+1=>stO (T:=qBK n) (by kernel_rfl) (qG0 n) [qH5 n] (fun _=>(by kernel_rfl)) fun _=>(by kernel_rfl)
def qMt:Sg:=⟨187,[aS],[],⟨aI,[],[]⟩⟩
def qCT (n:Nat) (v:BA×Int):Tr ((BA×Int)⊕((Int)⊕(Unit))):=(.ask ((decide (v.2≤(52:Int)))) (.opt (qBm n v.2) fun r476=>(.ask ((r476.toList==v.1.toList)) (.done (.inr (.inl (v.2)))) (.done (.inl (v.1,(IntKind.i64.wrap (v.2+(1:Int)))))))) (.done (.inr (.inr (())))))
def qFp (n:Nat) (x0:BA):Tr (Int):=(.opt (zD (qCT n) n (x0,(1:Int))) fun r477=>(.alt r477 (fun r478=>(.done r478)) (fun r479=>(.done (0:Int)))))
def qEK:Nat→BA→Option (Int)
 |0,_=>none
 |n+1,x0=>(qFp n x0).run
abbrev qIV (n:Nat):List (Ent (Rn n)):= [en (qHt n)]
def qKR (n:Nat):LEnt (KB 187) (Rn n) n:=lok (zU 187) 13 ⟨⟨[(0,aS),(3,aI)],[],[]⟩,[(.ret,⟨[(2,aI)],[],[]⟩),(.exit 0,⟨[],[],[]⟩)]⟩ (qCT n) (qIV n) [] fun _=>(by kernel_rfl)
theorem qMK:∀n,Ok (Rn n) qMt (qEK n)
 |0=>ok0 fun _=>rfl
 |n+1=>stO (T:=qFp n) (by kernel_rfl) (qIV n) [qKR n] (fun _=>(by kernel_rfl)) fun _=>(by kernel_rfl)
def qLU:Sg:=⟨164,[aS],[],⟨(.tup [(true,[qI,qI,qB,qB]),(false,[qB])]),[],[]⟩⟩
def qEi (n:Nat) (x0:BA):Tr (Int×Int×Bool×Bool×Bool):=(.opt (qAb n x0 (⟨#[36]⟩:BA)) fun r474=>(.opt (qBF n r474.1 (⟨#[65,66,67,68,69,70,71,72,73,74,75,76,77,78,79,80,81,82,83,84,85,86,87,88,89,90]⟩:BA)) fun r475=>(.ask (decide (0≤(0:Int)∧(0:Int)≤(IntKind.i64.wrap ((r474.1.size:Int)-(r475.size:Int)))∧(IntKind.i64.wrap ((r474.1.size:Int)-(r475.size:Int)))≤r474.1.size)) (.opt (qEK n (r474.1.extract ((0:Int)).toNat ((IntKind.i64.wrap ((r474.1.size:Int)-(r475.size:Int)))).toNat)) fun r480=>(.ask (decide (0≤(IntKind.i64.wrap ((r474.1.size:Int)-(r475.size:Int)))∧(IntKind.i64.wrap ((r474.1.size:Int)-(r475.size:Int)))≤(r474.1.size:Int)∧(r474.1.size:Int)≤r474.1.size)) (.opt (qAb n (r474.1.extract ((IntKind.i64.wrap ((r474.1.size:Int)-(r475.size:Int)))).toNat ((r474.1.size:Int)).toNat) (⟨#[36]⟩:BA)) fun r481=>(.opt (qBd n r481.1 (10:Int) (64:Int)) fun r482=>(.alt r482 (fun r483=>(.opt (qCR n r480 r483) fun r485=>(.ask ((!r485)) (.done ((0:Int),(0:Int),false,false,false)) (.opt (qA7 n r480 r483 r474.2 r481.2) fun r486=>(.ask ((!(r486.toList==x0.toList))) (.done ((0:Int),(0:Int),false,false,false)) (.done (r480,r483,r474.2,r481.2,true))))))) (fun r484=>(.opt (qCR n r480 r484) fun r487=>(.ask ((!r487)) (.done ((0:Int),(0:Int),false,false,false)) (.opt (qA7 n r480 r484 r474.2 r481.2) fun r488=>(.ask ((!(r488.toList==x0.toList))) (.done ((0:Int),(0:Int),false,false,false)) (.done (r480,r484,r474.2,r481.2,true)))))))))) .fail)) .fail)))
def qAe:Nat→BA→Option (Int×Int×Bool×Bool×Bool)
 |0,_=>none
 |n+1,x0=>(qEi n x0).run
abbrev qLV (n:Nat):List (Ent (Rn n)):= [en (qDJ n),en (qDh n),en (qMK n),en2 (qFI n),en (qGY n),en (qGE n)]
theorem qGG:∀n,Ok (Rn n) qLU (qAe n)
 |0=>ok0 fun _=>rfl
 |n+1=>stO (T:=qEi n) (by kernel_rfl) (qLV n) [] (fun _=>(by kernel_rfl)) fun _=>(by kernel_rfl)
def qHS:Sg:=⟨188,[(.c (.ptr 0 0 0 0 0))],[[(0,⟨0,3,55,(.box [qS,(.own 0 1 1 0),qB])⟩),(1,⟨1,14,64,(.row [])⟩)]],⟨(.tup [(true,[qI,qI,qI,qI,qS,qI,qI,qB,qB,qI,qI,qB,qB,qL]),(false,[qB])]),[[(0,⟨0,3,55,(.box [qS,(.own 0 1 1 0),qB])⟩),(1,⟨1,14,64,(.row [])⟩)]],[]⟩⟩
def qEL (n:Nat) (x0:BA) (x1:Nat) (x2:Bool) (x3:RW):Tr (Int×Int×Int×Int×BA×Int×Int×Bool×Bool×Int×Int×Bool×Bool×RW×Bool×BA×Nat×Bool×RW):=(.opt (qBG n x0 x1 x2 x3) fun r492=>(.opt (qAe n r492.1) fun r493=>(.ask (r493.2.2.2.2) (.opt (qo n (⟨#[58]⟩:BA) r492.2.1 r492.2.2.1 r492.2.2.2.1 r492.2.2.2.2) fun r494=>(.ask ((!r494.1)) (.done ((0:Int),(0:Int),(0:Int),(0:Int),(⟨#[]⟩:BA),(0:Int),(0:Int),false,false,(0:Int),(0:Int),false,false,([]:RW),false,x0,r494.2.2.1,r494.2.2.2.1,r494.2.2.2.2)) (.opt (qBG n r494.2.1 r494.2.2.1 r494.2.2.2.1 r494.2.2.2.2) fun r495=>(.opt (qAe n r495.1) fun r496=>(.ask (r495.2.2.2.1) (.done ((3:Int),(0:Int),(0:Int),(0:Int),(⟨#[]⟩:BA),r493.1,r493.2.1,r493.2.2.1,r493.2.2.2.1,r496.1,r496.2.1,r496.2.2.1,r496.2.2.2.1,([]:RW),true,r495.2.1,r495.2.2.1,true,r495.2.2.2.2)) (.done ((3:Int),(0:Int),(0:Int),(0:Int),(⟨#[]⟩:BA),r493.1,r493.2.1,r493.2.2.1,r493.2.2.2.1,r496.1,r496.2.1,r496.2.2.1,r496.2.2.2.1,([]:RW),true,r495.2.1,r495.2.2.1,(!r496.2.2.2.2),r495.2.2.2.2))))))) (.done ((0:Int),(0:Int),(0:Int),(0:Int),(⟨#[]⟩:BA),(0:Int),(0:Int),false,false,(0:Int),(0:Int),false,false,([]:RW),false,x0,r492.2.2.1,r492.2.2.2.1,r492.2.2.2.2)))))
def qC0:Nat→BA→Nat→Bool→RW→Option (Int×Int×Int×Int×BA×Int×Int×Bool×Bool×Int×Int×Bool×Bool×RW×Bool×BA×Nat×Bool×RW)
 |0,_,_,_,_=>none
 |n+1,x0,x1,x2,x3=>(qEL n x0 x1 x2 x3).run
abbrev qHT (n:Nat):List (Ent (Rn n)):= [en (qFH n),en (qGG n),en (qBv n)]
theorem qG1:∀n,Ok (Rn n) qHS (qC0 n)
 |0=>ok0 fun _=>rfl
 |n+1=>stO (T:=qEL n) (by kernel_rfl) (qHT n) [] (fun _=>(by kernel_rfl)) fun _=>(by kernel_rfl)
def qEz:Sg:=⟨36,[(.c (.ptr 0 0 0 0 0)),aI,aI],[[(0,⟨0,3,55,(.box [qS,(.own 0 1 1 0),qB])⟩),(1,⟨1,14,64,(.row [])⟩)]],⟨aI,[[(0,⟨0,3,55,(.box [qS,(.own 0 1 1 0),qB])⟩),(1,⟨1,14,64,(.row [])⟩)]],[]⟩⟩
def qJD:Sg:=⟨84,[(.c (.ptr 0 0 0 0 0)),aI],[[(0,⟨0,3,55,(.box [qS,(.own 0 1 1 0),qB])⟩),(1,⟨1,14,64,(.row [])⟩)]],⟨aI,[[(0,⟨0,3,55,(.box [qS,(.own 0 1 1 0),qB])⟩),(1,⟨1,14,64,(.row [])⟩)]],[]⟩⟩
def qJs:Sg:=⟨134,[(.c (.ptr 0 0 0 0 0)),aI],[[(0,⟨0,3,55,(.box [qS,(.own 0 1 1 0),qB])⟩),(1,⟨1,14,64,(.row [])⟩)]],⟨aI,[[(0,⟨0,3,55,(.box [qS,(.own 0 1 1 0),qB])⟩),(1,⟨1,14,64,(.row [])⟩)]],[]⟩⟩
def qJt:Sg:=⟨165,[(.c (.ptr 0 0 0 0 0)),aI,aI],[[(0,⟨0,3,55,(.box [qS,(.own 0 1 1 0),qB])⟩),(1,⟨1,14,64,(.row [])⟩)]],⟨aI,[[(0,⟨0,3,55,(.box [qS,(.own 0 1 1 0),qB])⟩),(1,⟨1,14,64,(.row [])⟩)]],[]⟩⟩
structure G_impl_reader_binary where
 impl_reader_binary:Int→Int→BA→Nat→Bool→RW→Option (Int×BA×Nat×Bool×RW)
 impl_reader_unary:Int→BA→Nat→Bool→RW→Option (Int×BA×Nat×Bool×RW)
 impl_reader_atom:Int→BA→Nat→Bool→RW→Option (Int×BA×Nat×Bool×RW)
 impl_reader_call:Int→Int→BA→Nat→Bool→RW→Option (Int×BA×Nat×Bool×RW)
def qBD (n:Nat) (v:Int×Int×Int×Int×Int×BA×Nat×Bool×RW):Tr ((Int×Int×Int×Int×Int×BA×Nat×Bool×RW)⊕((Int×Int×Int×Int×BA×Nat×Bool×RW))):=(.ask ((decide (v.2.2.2.2.1≤(11:Int)))) (.opt (qBc n v.2.2.2.2.2.1 v.2.2.2.2.2.2.1 v.2.2.2.2.2.2.2.1 v.2.2.2.2.2.2.2.2) fun r524=>(.opt (qBN n v.2.2.2.2.1) fun r525=>(.ask ((r524.1.toList==r525.toList)) (.done (.inl (v.1,v.2.1,v.2.2.1,v.2.2.2.2.1,(IntKind.i64.wrap (v.2.2.2.2.1+(1:Int))),r524.2.1,r524.2.2.1,r524.2.2.2.1,r524.2.2.2.2))) (.done (.inl (v.1,v.2.1,v.2.2.1,v.2.2.2.1,(IntKind.i64.wrap (v.2.2.2.2.1+(1:Int))),r524.2.1,r524.2.2.1,r524.2.2.2.1,r524.2.2.2.2)))))) (.done (.inr ((v.1,v.2.1,v.2.2.1,v.2.2.2.1,v.2.2.2.2.2.1,v.2.2.2.2.2.2.1,v.2.2.2.2.2.2.2.1,v.2.2.2.2.2.2.2.2)))))
def qCs (rec:G_impl_reader_binary) (n:Nat) (v:Int×Int×Int×BA×Nat×Bool×RW):Tr ((Int×Int×Int×BA×Nat×Bool×RW)⊕((Int×BA×Nat×Bool×RW))):=(.ask ((!v.2.2.2.2.2.1)) (.opt (zD (qBD n) n (v.1,v.2.1,v.2.2.1,(0:Int),(1:Int),v.2.2.2.1,v.2.2.2.2.1,v.2.2.2.2.2.1,v.2.2.2.2.2.2)) fun r526=>(.ask ((r526.2.2.2.1==(0:Int))) (.done (.inr ((r526.2.2.1,r526.2.2.2.2.1,r526.2.2.2.2.2.1,r526.2.2.2.2.2.2.1,r526.2.2.2.2.2.2.2)))) (.opt (qDV n r526.2.2.2.1) fun r527=>(.ask ((decide (r527<r526.1))) (.done (.inr ((r526.2.2.1,r526.2.2.2.2.1,r526.2.2.2.2.2.1,r526.2.2.2.2.2.2.1,r526.2.2.2.2.2.2.2)))) (.opt (qBN n r526.2.2.2.1) fun r528=>(.opt (qo n r528 r526.2.2.2.2.1 r526.2.2.2.2.2.1 r526.2.2.2.2.2.2.1 r526.2.2.2.2.2.2.2) fun r529=>(.opt (qDV n r526.2.2.2.1) fun r530=>(.opt (rec.impl_reader_binary (IntKind.i64.wrap (r530+(1:Int))) r526.2.1 r529.2.1 r529.2.2.1 r529.2.2.2.1 r529.2.2.2.2) fun r531=>(.ask (decide (2=([[(.i .i64 r526.2.2.1)],[(.i .i64 r531.1)]]:RW).length)) (.opt (qp n (5:Int) r526.2.2.2.1 (0:Int) (0:Int) (⟨#[]⟩:BA) (0:Int) (0:Int) false false (0:Int) (0:Int) false false ([[(.i .i64 r526.2.2.1)],[(.i .i64 r531.1)]]:RW) r531.2.1 r531.2.2.1 r531.2.2.2.1 r531.2.2.2.2) fun r532=>(.done (.inl (r526.1,r526.2.1,r532.1,r532.2.1,r532.2.2.1,r532.2.2.2.1,r532.2.2.2.2)))) .fail))))))))) (.done (.inr ((v.2.2.1,v.2.2.2.1,v.2.2.2.2.1,v.2.2.2.2.2.1,v.2.2.2.2.2.2)))))
def qE0 (rec:G_impl_reader_binary) (n:Nat) (x0 x1:Int) (x2:BA) (x3:Nat) (x4:Bool) (x5:RW):Tr (Int×BA×Nat×Bool×RW):=(.opt (rec.impl_reader_unary x1 x2 x3 x4 x5) fun r523=>(.opt (zD (qCs rec n) n (x0,x1,r523.1,r523.2.1,r523.2.2.1,r523.2.2.2.1,r523.2.2.2.2)) fun r533=>(.done (r533.1,r533.2.1,r533.2.2.1,r533.2.2.2.1,r533.2.2.2.2))))
def qFJ (rec:G_impl_reader_binary) (n:Nat) (x0:Int) (x1:BA) (x2:Nat) (x3:Bool) (x4:RW):Tr (Int×BA×Nat×Bool×RW):=(.ask ((decide (x0>(400:Int)))) (.ask (true) (.done ((-1:Int),x1,x2,true,x4)) (.opt (qo n (⟨#[45]⟩:BA) x1 x2 true x4) fun r421=>(.ask (r421.1) (.opt (rec.impl_reader_unary (IntKind.i64.wrap (x0+(1:Int))) r421.2.1 r421.2.2.1 r421.2.2.2.1 r421.2.2.2.2) fun r422=>(.ask (decide (1=([[(.i .i64 r422.1)]]:RW).length)) (.opt (qp n (4:Int) (0:Int) (0:Int) (0:Int) (⟨#[]⟩:BA) (0:Int) (0:Int) false false (0:Int) (0:Int) false false ([[(.i .i64 r422.1)]]:RW) r422.2.1 r422.2.2.1 r422.2.2.2.1 r422.2.2.2.2) fun r423=>(.done (r423.1,r423.2.1,r423.2.2.1,r423.2.2.2.1,r423.2.2.2.2))) .fail)) (.opt (rec.impl_reader_atom x0 r421.2.1 r421.2.2.1 r421.2.2.2.1 r421.2.2.2.2) fun r518=>(.done (r518.1,r518.2.1,r518.2.2.1,r518.2.2.2.1,r518.2.2.2.2)))))) (.ask (x3) (.done ((-1:Int),x1,x2,x3,x4)) (.opt (qo n (⟨#[45]⟩:BA) x1 x2 x3 x4) fun r519=>(.ask (r519.1) (.opt (rec.impl_reader_unary (IntKind.i64.wrap (x0+(1:Int))) r519.2.1 r519.2.2.1 r519.2.2.2.1 r519.2.2.2.2) fun r520=>(.ask (decide (1=([[(.i .i64 r520.1)]]:RW).length)) (.opt (qp n (4:Int) (0:Int) (0:Int) (0:Int) (⟨#[]⟩:BA) (0:Int) (0:Int) false false (0:Int) (0:Int) false false ([[(.i .i64 r520.1)]]:RW) r520.2.1 r520.2.2.1 r520.2.2.2.1 r520.2.2.2.2) fun r521=>(.done (r521.1,r521.2.1,r521.2.2.1,r521.2.2.2.1,r521.2.2.2.2))) .fail)) (.opt (rec.impl_reader_atom x0 r519.2.1 r519.2.2.1 r519.2.2.2.1 r519.2.2.2.2) fun r522=>(.done (r522.1,r522.2.1,r522.2.2.1,r522.2.2.2.1,r522.2.2.2.2)))))))
def qBx (n:Nat) (v:Int×Int×BA×Nat×Bool×RW):Tr ((Int×Int×BA×Nat×Bool×RW)⊕((Int×BA×Nat×Bool×RW)⊕(Int×BA×Nat×Bool×RW))):=(.ask ((decide (v.2.1≤(5:Int)))) (.opt (qAd n v.2.1) fun r435=>(.opt (qAb n v.2.2.1 r435) fun r436=>(.ask (r436.2) (.opt (qBi n v.2.1) fun r437=>(.opt (qi n r437.1 r437.2.1 r437.2.2 r436.1 v.2.2.2.1 v.2.2.2.2.1 v.2.2.2.2.2) fun r438=>(.done (.inr (.inl ((r438.1,r438.2.1,r438.2.2.1,r438.2.2.2.1,r438.2.2.2.2))))))) (.done (.inl (v.1,(IntKind.i64.wrap (v.2.1+(1:Int))),v.2.2.1,v.2.2.2.1,v.2.2.2.2.1,v.2.2.2.2.2)))))) (.done (.inr (.inr ((v.1,v.2.2.1,v.2.2.2.1,v.2.2.2.2.1,v.2.2.2.2.2))))))
def qAj (rec:G_impl_reader_binary) (n:Nat) (v:Int×BA×Int×BA×Nat×Bool×RW):Tr ((Int×BA×Int×BA×Nat×Bool×RW)⊕((Int×BA×Nat×Bool×RW)⊕(BA×Nat×Bool×RW))):=(.ask ((decide (v.2.2.1≤(10:Int)))) (.opt (qB0 n v.2.2.1) fun r491=>(.ask ((v.2.1.toList==r491.toList)) (.opt (rec.impl_reader_call v.2.2.1 v.1 v.2.2.2.1 v.2.2.2.2.1 v.2.2.2.2.2.1 v.2.2.2.2.2.2) fun r492=>(.done (.inr (.inl ((r492.1,r492.2.1,r492.2.2.1,r492.2.2.2.1,r492.2.2.2.2)))))) (.done (.inl (v.1,v.2.1,(IntKind.i64.wrap (v.2.2.1+(1:Int))),v.2.2.2.1,v.2.2.2.2.1,v.2.2.2.2.2.1,v.2.2.2.2.2.2))))) (.done (.inr (.inr ((v.2.2.2.1,v.2.2.2.2.1,v.2.2.2.2.2.1,v.2.2.2.2.2.2))))))
def qFq (rec:G_impl_reader_binary) (n:Nat) (x0:Int) (x1:BA) (x2:Nat) (x3:Bool) (x4:RW):Tr (Int×BA×Nat×Bool×RW):=(.opt (qA0 n x1 x2 x3 x4) fun r424=>(.opt (qr n r424.1 (⟨#[34]⟩:BA)) fun r425=>(.ask (r425) (.opt (qDI n r424.1 r424.2.1 r424.2.2.1 r424.2.2.2) fun r433=>(.done (r433.1,r433.2.1,r433.2.2.1,r433.2.2.2.1,r433.2.2.2.2))) (.opt (qr n r424.1 (⟨#[35]⟩:BA)) fun r434=>(.ask (r434) (.opt (zD (qBx n) n (x0,(1:Int),r424.1,r424.2.1,r424.2.2.1,r424.2.2.2)) fun r439=>(.alt r439 (fun r440=>(.done (r440.1,r440.2.1,r440.2.2.1,r440.2.2.2.1,r440.2.2.2.2))) (fun r441=>(.opt (qBG n r441.2.1 r441.2.2.1 r441.2.2.2.1 r441.2.2.2.2) fun r444=>(.opt (qAB n r444.1) fun r471=>(.ask (r471.2.2.2) (.ask ((r471.1==(1:Int))) (.opt (qi n r471.1 r471.2.1 r471.2.2.1 r444.2.1 r444.2.2.1 r444.2.2.2.1 r444.2.2.2.2) fun r472=>(.done (r472.1,r472.2.1,r472.2.2.1,r472.2.2.2.1,r472.2.2.2.2))) (.ask ((r471.1==(3:Int))) (.opt (qi n r471.1 r471.2.1 r471.2.2.1 r444.2.1 r444.2.2.1 r444.2.2.2.1 r444.2.2.2.2) fun r473=>(.done (r473.1,r473.2.1,r473.2.2.1,r473.2.2.2.1,r473.2.2.2.2))) (.opt (qAe n r444.1) fun r489=>(.ask (r489.2.2.2.2) (.opt (qp n (2:Int) (0:Int) (0:Int) (0:Int) (⟨#[]⟩:BA) r489.1 r489.2.1 r489.2.2.1 r489.2.2.2.1 (0:Int) (0:Int) false false ([]:RW) r444.2.1 r444.2.2.1 r444.2.2.2.1 r444.2.2.2.2) fun r490=>(.done (r490.1,r490.2.1,r490.2.2.1,r490.2.2.2.1,r490.2.2.2.2))) (.opt (zD (qAj rec n) n (r441.1,r444.1,(1:Int),r444.2.1,r444.2.2.1,r444.2.2.2.1,r444.2.2.2.2)) fun r493=>(.alt r493 (fun r494=>(.done (r494.1,r494.2.1,r494.2.2.1,r494.2.2.2.1,r494.2.2.2.2))) (fun r495=>(.done ((-1:Int),r495.1,r495.2.1,true,r495.2.2.2))))))))) (.opt (qAe n r444.1) fun r496=>(.ask (r496.2.2.2.2) (.opt (qp n (2:Int) (0:Int) (0:Int) (0:Int) (⟨#[]⟩:BA) r496.1 r496.2.1 r496.2.2.1 r496.2.2.2.1 (0:Int) (0:Int) false false ([]:RW) r444.2.1 r444.2.2.1 r444.2.2.2.1 r444.2.2.2.2) fun r497=>(.done (r497.1,r497.2.1,r497.2.2.1,r497.2.2.2.1,r497.2.2.2.2))) (.opt (zD (qAj rec n) n (r441.1,r444.1,(1:Int),r444.2.1,r444.2.2.1,r444.2.2.2.1,r444.2.2.2.2)) fun r498=>(.alt r498 (fun r499=>(.done (r499.1,r499.2.1,r499.2.2.1,r499.2.2.2.1,r499.2.2.2.2))) (fun r500=>(.done ((-1:Int),r500.1,r500.2.1,true,r500.2.2.2))))))))))))) (.opt (qo n (⟨#[40]⟩:BA) r424.1 r424.2.1 r424.2.2.1 r424.2.2.2) fun r501=>(.ask (r501.1) (.opt (rec.impl_reader_binary (1:Int) (IntKind.i64.wrap (x0+(1:Int))) r501.2.1 r501.2.2.1 r501.2.2.2.1 r501.2.2.2.2) fun r502=>(.ask (r502.2.2.2.1) (.done (r502.1,r502.2.1,r502.2.2.1,true,r502.2.2.2.2)) (.opt (qo n (⟨#[41]⟩:BA) r502.2.1 r502.2.2.1 r502.2.2.2.1 r502.2.2.2.2) fun r503=>(.done (r502.1,r503.2.1,r503.2.2.1,(!r503.1),r503.2.2.2.2))))) (.opt (qBG n r501.2.1 r501.2.2.1 r501.2.2.2.1 r501.2.2.2.2) fun r504=>(.opt (qAB n r504.1) fun r505=>(.ask (r505.2.2.2) (.ask ((r505.1==(1:Int))) (.opt (qi n r505.1 r505.2.1 r505.2.2.1 r504.2.1 r504.2.2.1 r504.2.2.2.1 r504.2.2.2.2) fun r506=>(.done (r506.1,r506.2.1,r506.2.2.1,r506.2.2.2.1,r506.2.2.2.2))) (.ask ((r505.1==(3:Int))) (.opt (qi n r505.1 r505.2.1 r505.2.2.1 r504.2.1 r504.2.2.1 r504.2.2.2.1 r504.2.2.2.2) fun r507=>(.done (r507.1,r507.2.1,r507.2.2.1,r507.2.2.2.1,r507.2.2.2.2))) (.opt (qAe n r504.1) fun r508=>(.ask (r508.2.2.2.2) (.opt (qp n (2:Int) (0:Int) (0:Int) (0:Int) (⟨#[]⟩:BA) r508.1 r508.2.1 r508.2.2.1 r508.2.2.2.1 (0:Int) (0:Int) false false ([]:RW) r504.2.1 r504.2.2.1 r504.2.2.2.1 r504.2.2.2.2) fun r509=>(.done (r509.1,r509.2.1,r509.2.2.1,r509.2.2.2.1,r509.2.2.2.2))) (.opt (zD (qAj rec n) n (x0,r504.1,(1:Int),r504.2.1,r504.2.2.1,r504.2.2.2.1,r504.2.2.2.2)) fun r510=>(.alt r510 (fun r511=>(.done (r511.1,r511.2.1,r511.2.2.1,r511.2.2.2.1,r511.2.2.2.2))) (fun r512=>(.done ((-1:Int),r512.1,r512.2.1,true,r512.2.2.2))))))))) (.opt (qAe n r504.1) fun r513=>(.ask (r513.2.2.2.2) (.opt (qp n (2:Int) (0:Int) (0:Int) (0:Int) (⟨#[]⟩:BA) r513.1 r513.2.1 r513.2.2.1 r513.2.2.2.1 (0:Int) (0:Int) false false ([]:RW) r504.2.1 r504.2.2.1 r504.2.2.2.1 r504.2.2.2.2) fun r514=>(.done (r514.1,r514.2.1,r514.2.2.1,r514.2.2.2.1,r514.2.2.2.2))) (.opt (zD (qAj rec n) n (x0,r504.1,(1:Int),r504.2.1,r504.2.2.1,r504.2.2.2.1,r504.2.2.2.2)) fun r515=>(.alt r515 (fun r516=>(.done (r516.1,r516.2.1,r516.2.2.1,r516.2.2.2.1,r516.2.2.2.2))) (fun r517=>(.done ((-1:Int),r517.1,r517.2.1,true,r517.2.2.2)))))))))))))))))
def qCF (rec:G_impl_reader_binary) (n:Nat) (v:Int×Int×Nat×RW×BA×Nat×Bool×RW):Tr ((Int×Int×Nat×RW×BA×Nat×Bool×RW)⊕((Int×Nat×RW×BA×Nat×Bool×RW))):=(.ask ((!v.2.2.2.2.2.2.1)) (.opt (qC0 n v.2.2.2.2.1 v.2.2.2.2.2.1 v.2.2.2.2.2.2.1 v.2.2.2.2.2.2.2) fun r492=>(.ask (r492.2.2.2.2.2.2.2.2.2.2.2.2.2.2.1) (.opt (qp n r492.1 r492.2.1 r492.2.2.1 r492.2.2.2.1 r492.2.2.2.2.1 r492.2.2.2.2.2.1 r492.2.2.2.2.2.2.1 r492.2.2.2.2.2.2.2.1 r492.2.2.2.2.2.2.2.2.1 r492.2.2.2.2.2.2.2.2.2.1 r492.2.2.2.2.2.2.2.2.2.2.1 r492.2.2.2.2.2.2.2.2.2.2.2.1 r492.2.2.2.2.2.2.2.2.2.2.2.2.1 r492.2.2.2.2.2.2.2.2.2.2.2.2.2.1 r492.2.2.2.2.2.2.2.2.2.2.2.2.2.2.2.1 r492.2.2.2.2.2.2.2.2.2.2.2.2.2.2.2.2.1 r492.2.2.2.2.2.2.2.2.2.2.2.2.2.2.2.2.2.1 r492.2.2.2.2.2.2.2.2.2.2.2.2.2.2.2.2.2.2) fun r493=>(.ask (decide (1=([[(.i .i64 r493.1)]]:RW).length)) (.ask (decide (v.2.2.1=v.2.2.2.1.length∧0<1∧0<8∧(v.2.2.1+([[(.i .i64 r493.1)]]:RW).length)*8≤140737488355328∧([[(.i .i64 r493.1)]]:RW).all (fun e=>e.length==1)=true)) (.opt (qo n (⟨#[44]⟩:BA) r493.2.1 r493.2.2.1 r493.2.2.2.1 r493.2.2.2.2) fun r494=>(.ask ((!r494.1)) (.ask (r494.2.2.2.1) (.done (.inr ((v.1,(v.2.2.1+1),(v.2.2.2.1++([[(.i .i64 r493.1)]]:RW)),r494.2.1,r494.2.2.1,true,r494.2.2.2.2)))) (.opt (qo n (⟨#[41]⟩:BA) r494.2.1 r494.2.2.1 r494.2.2.2.1 r494.2.2.2.2) fun r495=>(.done (.inr ((v.1,(v.2.2.1+1),(v.2.2.2.1++([[(.i .i64 r493.1)]]:RW)),r495.2.1,r495.2.2.1,(!r495.1),r495.2.2.2.2)))))) (.done (.inl (v.1,v.2.1,(v.2.2.1+1),(v.2.2.2.1++([[(.i .i64 r493.1)]]:RW)),r494.2.1,r494.2.2.1,r494.2.2.2.1,r494.2.2.2.2))))) .fail) .fail)) (.opt (rec.impl_reader_binary (1:Int) (IntKind.i64.wrap (v.2.1+(1:Int))) r492.2.2.2.2.2.2.2.2.2.2.2.2.2.2.2.1 r492.2.2.2.2.2.2.2.2.2.2.2.2.2.2.2.2.1 r492.2.2.2.2.2.2.2.2.2.2.2.2.2.2.2.2.2.1 r492.2.2.2.2.2.2.2.2.2.2.2.2.2.2.2.2.2.2) fun r496=>(.ask (decide (1=([[(.i .i64 r496.1)]]:RW).length)) (.ask (decide (v.2.2.1=v.2.2.2.1.length∧0<1∧0<8∧(v.2.2.1+([[(.i .i64 r496.1)]]:RW).length)*8≤140737488355328∧([[(.i .i64 r496.1)]]:RW).all (fun e=>e.length==1)=true)) (.opt (qo n (⟨#[44]⟩:BA) r496.2.1 r496.2.2.1 r496.2.2.2.1 r496.2.2.2.2) fun r497=>(.ask ((!r497.1)) (.ask (r497.2.2.2.1) (.done (.inr ((v.1,(v.2.2.1+1),(v.2.2.2.1++([[(.i .i64 r496.1)]]:RW)),r497.2.1,r497.2.2.1,true,r497.2.2.2.2)))) (.opt (qo n (⟨#[41]⟩:BA) r497.2.1 r497.2.2.1 r497.2.2.2.1 r497.2.2.2.2) fun r498=>(.done (.inr ((v.1,(v.2.2.1+1),(v.2.2.2.1++([[(.i .i64 r496.1)]]:RW)),r498.2.1,r498.2.2.1,(!r498.1),r498.2.2.2.2)))))) (.done (.inl (v.1,v.2.1,(v.2.2.1+1),(v.2.2.2.1++([[(.i .i64 r496.1)]]:RW)),r497.2.1,r497.2.2.1,r497.2.2.2.1,r497.2.2.2.2))))) .fail) .fail)))) (.done (.inr ((v.1,v.2.2.1,v.2.2.2.1,v.2.2.2.2.1,v.2.2.2.2.2.1,v.2.2.2.2.2.2.1,v.2.2.2.2.2.2.2)))))
def qFr (rec:G_impl_reader_binary) (n:Nat) (x0 x1:Int) (x2:BA) (x3:Nat) (x4:Bool) (x5:RW):Tr (Int×BA×Nat×Bool×RW):=(.ask (x4) (.opt (zD (qCF rec n) n (x0,x1,(0:Nat),([]:RW),x2,x3,true,x5)) fun r499=>(.ask (decide (r499.2.1=r499.2.2.1.length)) (.opt (qp n (6:Int) r499.1 (0:Int) (0:Int) (⟨#[]⟩:BA) (0:Int) (0:Int) false false (0:Int) (0:Int) false false r499.2.2.1 r499.2.2.2.1 r499.2.2.2.2.1 r499.2.2.2.2.2.1 r499.2.2.2.2.2.2) fun r500=>(.done (r500.1,r500.2.1,r500.2.2.1,r500.2.2.2.1,r500.2.2.2.2))) .fail)) (.opt (qo n (⟨#[40]⟩:BA) x2 x3 x4 x5) fun r501=>(.opt (zD (qCF rec n) n (x0,x1,(0:Nat),([]:RW),r501.2.1,r501.2.2.1,(!r501.1),r501.2.2.2.2)) fun r502=>(.ask (decide (r502.2.1=r502.2.2.1.length)) (.opt (qp n (6:Int) r502.1 (0:Int) (0:Int) (⟨#[]⟩:BA) (0:Int) (0:Int) false false (0:Int) (0:Int) false false r502.2.2.1 r502.2.2.2.1 r502.2.2.2.2.1 r502.2.2.2.2.2.1 r502.2.2.2.2.2.2) fun r503=>(.done (r503.1,r503.2.1,r503.2.2.1,r503.2.2.2.1,r503.2.2.2.2))) .fail))))
def qU:Nat→G_impl_reader_binary
 |0=>⟨fun _ _ _ _ _ _=>none,fun _ _ _ _ _=>none,fun _ _ _ _ _=>none,fun _ _ _ _ _ _=>none⟩
 |n+1=>⟨fun x0 x1 x2 x3 x4 x5=>(qE0 (qU n) n x0 x1 x2 x3 x4 x5).run,fun x0 x1 x2 x3 x4=>(qFJ (qU n) n x0 x1 x2 x3 x4).run,fun x0 x1 x2 x3 x4=>(qFq (qU n) n x0 x1 x2 x3 x4).run,fun x0 x1 x2 x3 x4 x5=>(qFr (qU n) n x0 x1 x2 x3 x4 x5).run⟩
def qCU (n:Nat) (x0 x1:Int) (x2:BA) (x3:Nat) (x4:Bool) (x5:RW):Option (Int×BA×Nat×Bool×RW):=(qU n).impl_reader_binary x0 x1 x2 x3 x4 x5
def qFK (n:Nat) (x0:Int) (x1:BA) (x2:Nat) (x3:Bool) (x4:RW):Option (Int×BA×Nat×Bool×RW):=(qU n).impl_reader_unary x0 x1 x2 x3 x4
def qFs (n:Nat) (x0:Int) (x1:BA) (x2:Nat) (x3:Bool) (x4:RW):Option (Int×BA×Nat×Bool×RW):=(qU n).impl_reader_atom x0 x1 x2 x3 x4
def qCA (n:Nat) (x0 x1:Int) (x2:BA) (x3:Nat) (x4:Bool) (x5:RW):Option (Int×BA×Nat×Bool×RW):=(qU n).impl_reader_call x0 x1 x2 x3 x4 x5
def q7 (n:Nat):Prop:=
 Ok (Rn n) qEz (qCU n)∧
 Ok (Rn n) qJD (qFK n)∧
 Ok (Rn n) qJs (qFs n)∧
 Ok (Rn n) qJt (qCA n)
abbrev qDK (n:Nat) (ih:q7 n):List (Ent (Rn n)):= [en ih.2.1,en (qFF n),en (qIP n),en (qJP n),en (qBv n),en ih.1,en (qB9 n)]
def qGe (n:Nat) (ih:q7 n):LEnt (lb 14 (KB 36)) (Rn n) n:=lok (Uniq.pick (zU 36) 14) 237 ⟨⟨[(0,(.c (.ptr 0 0 0 0 0))),(1,aI),(2,aI),(7,aI),(8,aI),(9,aI)],[],[[(0,⟨0,3,55,(.box [qS,(.own 0 1 1 0),qB])⟩),(1,⟨1,14,64,(.row [])⟩)]]⟩,[(.exit 2,⟨[(0,(.c (.ptr 0 0 0 0 0))),(1,aI),(2,aI),(7,aI),(8,aI)],[],[[(0,⟨0,3,55,(.box [qS,(.own 0 1 1 0),qB])⟩),(1,⟨1,14,64,(.row [])⟩)]]⟩)]⟩ (qBD n) (qDK n ih) [] fun _=>(by kernel_rfl)
def qG2 (n:Nat) (ih:q7 n):LEnt (KB 36) (Rn n) n:=lok (zU 36) 14 ⟨⟨[(0,(.c (.ptr 0 0 0 0 0))),(1,aI),(2,aI),(7,aI)],[],[[(0,⟨0,3,55,(.box [qS,(.own 0 1 1 0),qB])⟩),(1,⟨1,14,64,(.row [])⟩)]]⟩,[(.exit 0,⟨[(7,aI)],[],[[(0,⟨0,3,55,(.box [qS,(.own 0 1 1 0),qB])⟩),(1,⟨1,14,64,(.row [])⟩)]]⟩)]⟩ (qCs (qU n) n) (qDK n ih) [qGe n ih] fun _=>(by kernel_rfl)
abbrev qJE (n:Nat) (ih:q7 n):List (Ent (Rn n)):= [en (qBv n),en ih.2.1,en (qB9 n),en ih.2.2.1]
abbrev qDy (n:Nat) (ih:q7 n):List (Ent (Rn n)):= [en (qCD n),en (qCS n),en (qH4 n),en (qEG n),en (qDJ n),en (qJR n),en (qD2 n),en (qFH n),en (qKQ n),en (qGG n),en (qB9 n),en (qIQ n),en ih.2.2.2,en (qBv n),en ih.1]
def qHU (n:Nat) (ih:q7 n):LEnt (KB 134) (Rn n) n:=lok (zU 134) 477 ⟨⟨[(0,(.c (.ptr 0 0 0 0 0))),(1,aI),(5,aI)],[],[[(0,⟨0,3,55,(.box [qS,(.own 0 1 1 0),qB])⟩),(1,⟨1,14,64,(.row [])⟩)]]⟩,[(.ret,⟨[(4,aI)],[],[[(0,⟨0,3,55,(.box [qS,(.own 0 1 1 0),qB])⟩),(1,⟨1,14,64,(.row [])⟩)]]⟩),(.exit 1,⟨[(0,(.c (.ptr 0 0 0 0 0))),(1,aI)],[],[[(0,⟨0,3,55,(.box [qS,(.own 0 1 1 0),qB])⟩),(1,⟨1,14,64,(.row [])⟩)]]⟩)]⟩ (qBx n) (qDy n ih) [] fun _=>(by kernel_rfl)
def qHV (n:Nat) (ih:q7 n):LEnt (KB 134) (Rn n) n:=lok (zU 134) 509 ⟨⟨[(0,(.c (.ptr 0 0 0 0 0))),(1,aI),(9,aS),(14,aI)],[],[[(0,⟨0,3,55,(.box [qS,(.own 0 1 1 0),qB])⟩),(1,⟨1,14,64,(.row [])⟩)]]⟩,[(.ret,⟨[(4,aI)],[],[[(0,⟨0,3,55,(.box [qS,(.own 0 1 1 0),qB])⟩),(1,⟨1,14,64,(.row [])⟩)]]⟩),(.exit 3,⟨[(0,(.c (.ptr 0 0 0 0 0)))],[],[[(0,⟨0,3,55,(.box [qS,(.own 0 1 1 0),qB])⟩),(1,⟨1,14,64,(.row [])⟩)]]⟩)]⟩ (qAj (qU n) n) (qDy n ih) [] fun _=>(by kernel_rfl)
abbrev qFt (n:Nat) (ih:q7 n):List (Ent (Rn n)):= [en (qG1 n),en (qB9 n),en (qBv n),en ih.1]
def qH6 (n:Nat) (ih:q7 n):LEnt (KB 165) (Rn n) n:=lok (zU 165) 30 ⟨⟨[(0,(.c (.ptr 0 0 0 0 0))),(1,aI),(2,aI),(7,(.c (.own 1 640 0 0)))],[(640,⟨0,1,2,(.row [])⟩)],[[(0,⟨0,3,55,(.box [qS,(.own 0 1 1 0),qB])⟩),(1,⟨1,14,64,(.row [])⟩)]]⟩,[(.exit 0,⟨[(0,(.c (.ptr 0 0 0 0 0))),(1,aI),(7,(.c (.own 1 640 0 0)))],[(640,⟨0,1,2,(.row [])⟩)],[[(0,⟨0,3,55,(.box [qS,(.own 0 1 1 0),qB])⟩),(1,⟨1,14,64,(.row [])⟩)]]⟩)]⟩ (qCF (qU n) n) (qFt n ih) [] fun _=>(by kernel_rfl)
theorem qAD:∀n,q7 n
 |0=>⟨ok0 fun _=>rfl,ok0 fun _=>rfl,ok0 fun _=>rfl,ok0 fun _=>rfl⟩
 |n+1=>⟨stO (T:=qE0 (qU n) n) (by kernel_rfl) (qDK n (qAD n)) [qG2 n (qAD n)] (fun _=>(by kernel_rfl)) fun _=>(by kernel_rfl),stO (T:=qFJ (qU n) n) (by kernel_rfl) (qJE n (qAD n)) [] (fun _=>(by kernel_rfl)) fun _=>(by kernel_rfl),stO (T:=qFq (qU n) n) (by kernel_rfl) (qDy n (qAD n)) [qHU n (qAD n),qHV n (qAD n)] (fun _=>(by kernel_rfl)) fun _=>(by kernel_rfl),stO (T:=qFr (qU n) n) (by kernel_rfl) (qFt n (qAD n)) [qH6 n (qAD n)] (fun _=>(by kernel_rfl)) fun _=>(by kernel_rfl)⟩
theorem qH7 (n:Nat):Ok (Rn n) qEz (qCU n):=(qAD n).1
def qJu:Sg:=⟨10,[aS],[],⟨(.tup [(false,[qL]),(false,[qB])]),[],[]⟩⟩
def qFu (n:Nat) (x0:BA):Tr (RW×Bool):=(.opt (qC7 n x0 (200:Int)) fun r411=>(.ask ((!r411)) (.ask (decide (0=([]:RW).length)) (.done (([]:RW),false)) .fail) (.opt (qCU n (1:Int) (0:Int) x0 (0:Nat) false ([]:RW)) fun r534=>(.opt (qA0 n r534.2.1 r534.2.2.1 r534.2.2.2.1 r534.2.2.2.2) fun r535=>(.ask (r535.2.2.1) (.ask (decide (0=([]:RW).length)) (.done (([]:RW),false)) .fail) (.ask ((!(r535.1.toList==(⟨#[]⟩:BA).toList))) (.ask (decide (0=([]:RW).length)) (.done (([]:RW),false)) .fail) (.ask (decide (r535.2.1=r535.2.2.2.length)) (.opt (qAq n r535.2.2.2) fun r536=>(.ask (zA3 (⟨(.c (.p (.b r536))),[],[]⟩:Res)) (.ask ((!r536)) (.ask (decide (0=([]:RW).length)) (.done (([]:RW),false)) .fail) (.ask (decide (r535.2.1=r535.2.2.2.length)) (.done (r535.2.2.2,true)) .fail)) .fail)) .fail)))))))
def qDz:Nat→BA→Option (RW×Bool)
 |0,_=>none
 |n+1,x0=>(qFu n x0).run
abbrev qJv (n:Nat):List (Ent (Rn n)):= [en (qIL n),en (qH7 n),en (qCD n),en (qEF n)]
theorem qJF:∀n,Ok (Rn n) qJu (qDz n)
 |0=>ok0 fun _=>rfl
 |n+1=>stO (T:=qFu n) (by kernel_rfl) (qJv n) [] (fun _=>(by kernel_rfl)) fun _=>(by kernel_rfl)
def qMu:Sg:=⟨108,[aS],[],⟨aS,[],[]⟩⟩
def qBS (n:Nat) (v:BA×BA×Int):Tr ((BA×BA×Int)⊕((BA))):=(.ask ((decide (v.2.2<(v.1.size:Int)))) (.ask (decide (0≤v.2.2)) (.opt (v.1.toList[(v.2.2).toNat]?) fun c554=>(.ask (((c554.toNat:Int)==(34:Int))) (.ask (decide (v.2.1.size+(⟨#[34]⟩:BA).size≤9223372036854775807)) (.ask (decide (0≤v.2.2∧v.2.2≤(IntKind.i64.wrap (v.2.2+(1:Int)))∧(IntKind.i64.wrap (v.2.2+(1:Int)))≤v.1.size)) (.ask (decide ((v.2.1++(⟨#[34]⟩:BA)).size+(v.1.extract (v.2.2).toNat ((IntKind.i64.wrap (v.2.2+(1:Int)))).toNat).size≤9223372036854775807)) (.done (.inl (v.1,((v.2.1++(⟨#[34]⟩:BA))++(v.1.extract (v.2.2).toNat ((IntKind.i64.wrap (v.2.2+(1:Int)))).toNat)),(IntKind.i64.wrap (v.2.2+(1:Int)))))) .fail) .fail) .fail) (.ask (decide (0≤v.2.2∧v.2.2≤(IntKind.i64.wrap (v.2.2+(1:Int)))∧(IntKind.i64.wrap (v.2.2+(1:Int)))≤v.1.size)) (.ask (decide (v.2.1.size+(v.1.extract (v.2.2).toNat ((IntKind.i64.wrap (v.2.2+(1:Int)))).toNat).size≤9223372036854775807)) (.done (.inl (v.1,(v.2.1++(v.1.extract (v.2.2).toNat ((IntKind.i64.wrap (v.2.2+(1:Int)))).toNat)),(IntKind.i64.wrap (v.2.2+(1:Int)))))) .fail) .fail))) .fail) (.done (.inr (v.2.1))))
def qFv (n:Nat) (x0:BA):Tr (BA):=(.opt (zD (qBS n) n (x0,(⟨#[34]⟩:BA),(0:Int))) fun r555=>(.ask (decide (r555.size+(⟨#[34]⟩:BA).size≤9223372036854775807)) (.done (r555++(⟨#[34]⟩:BA))) .fail))
def qEM:Nat→BA→Option (BA)
 |0,_=>none
 |n+1,x0=>(qFv n x0).run
def qKS (n:Nat):LEnt (KB 108) (Rn n) n:=lok (zU 108) 29 ⟨⟨[(0,aS),(3,aS),(4,aI)],[],[]⟩,[(.exit 0,⟨[(3,aS)],[],[]⟩)]⟩ (qBS n) [] [] fun _=>(by kernel_rfl)
theorem qML:∀n,Ok (Rn n) qMu (qEM n)
 |0=>ok0 fun _=>rfl
 |n+1=>stO (T:=qFv n) (by kernel_rfl) [] [qKS n] (fun _=>(by kernel_rfl)) fun _=>(by kernel_rfl)
def qNc:Sg:=⟨115,[aI],[],⟨aS,[],[]⟩⟩
def qGf (n:Nat) (x0:Int):Tr (BA):=(.ask ((x0==(1:Int))) (.done (⟨#[84,82,85,69]⟩:BA)) (.done (⟨#[70,65,76,83,69]⟩:BA)))
def qEr:Nat→Int→Option (BA)
 |0,_=>none
 |n+1,x0=>(qGf n x0).run
theorem qMv:∀n,Ok (Rn n) qNc (qEr n)
 |0=>ok0 fun _=>rfl
 |n+1=>stO (T:=qGf n) (by kernel_rfl) [] [] (fun _=>(by kernel_rfl)) fun _=>(by kernel_rfl)
def qLW:Sg:=⟨57,[(.agg [qI,qI,qS])],[],⟨aS,[],[]⟩⟩
def qBL (n:Nat) (x0 x1:Int) (x2:BA):Tr (BA):=(.opt (qn n x0 x1 x2) fun r557=>(.ask ((!r557)) (.done (⟨#[]⟩:BA)) (.ask ((x0==(1:Int))) (.opt (qAJ n x1) fun r558=>(.done r558)) (.ask ((x0==(2:Int))) (.ask (decide ((⟨#[39]⟩:BA).size+x2.size≤9223372036854775807)) (.done ((⟨#[39]⟩:BA)++x2)) .fail) (.ask ((x0==(3:Int))) (.opt (qEr n x1) fun r559=>(.done r559)) (.ask ((x0==(4:Int))) (.opt (qBM n x1) fun r560=>(.done r560)) (.done (⟨#[]⟩:BA))))))))
def qA8:Nat→Int→Int→BA→Option (BA)
 |0,_,_,_=>none
 |n+1,x0,x1,x2=>(qBL n x0 x1 x2).run
abbrev qLX (n:Nat):List (Ent (Rn n)):= [en (qE9 n),en (qDk n),en (qMv n),en (qFZ n)]
theorem qKT:∀n,Ok (Rn n) qLW (qA8 n)
 |0=>ok0 fun _=>rfl
 |n+1=>stO (T:=qBL n) (by kernel_rfl) (qLX n) [] (fun _=>(by kernel_rfl)) fun _=>(by kernel_rfl)
def qGg:Sg:=⟨51,[aL,aI,aI],[],⟨aS,[],[]⟩⟩
def qBT (rec:RW→Int→Int→Option (BA)) (n:Nat) (v:RW×BA×Int×Int×Int×Int×Int×BA×Int×Int×Bool×Bool×Int×Int×Bool×Bool×RW):Tr ((RW×BA×Int×Int×Int×Int×Int×BA×Int×Int×Bool×Bool×Int×Int×Bool×Bool×RW)⊕((BA))):=(.ask ((decide (v.2.2.1<(v.2.2.2.2.2.2.2.2.2.2.2.2.2.2.2.2.length:Int)))) (.ask ((decide (v.2.2.1>(0:Int)))) (.ask (decide (v.2.1.size+(⟨#[44]⟩:BA).size≤9223372036854775807)) (.ask (decide (0≤v.2.2.1∧v.2.2.1<v.2.2.2.2.2.2.2.2.2.2.2.2.2.2.2.2.length)) (.opt (v.2.2.2.2.2.2.2.2.2.2.2.2.2.2.2.2[(v.2.2.1).toNat]?) fun e577=>(.ask (decide (e577.length=1)) (.opt (zE .i64 e577 0) fun y578=>(.opt (rec v.1 y578 (0:Int)) fun r579=>(.ask (decide ((v.2.1++(⟨#[44]⟩:BA)).size+r579.size≤9223372036854775807)) (.done (.inl (v.1,((v.2.1++(⟨#[44]⟩:BA))++r579),(IntKind.i64.wrap (v.2.2.1+(1:Int))),v.2.2.2.1,v.2.2.2.2.1,v.2.2.2.2.2.1,v.2.2.2.2.2.2.1,v.2.2.2.2.2.2.2.1,v.2.2.2.2.2.2.2.2.1,v.2.2.2.2.2.2.2.2.2.1,v.2.2.2.2.2.2.2.2.2.2.1,v.2.2.2.2.2.2.2.2.2.2.2.1,v.2.2.2.2.2.2.2.2.2.2.2.2.1,v.2.2.2.2.2.2.2.2.2.2.2.2.2.1,v.2.2.2.2.2.2.2.2.2.2.2.2.2.2.1,v.2.2.2.2.2.2.2.2.2.2.2.2.2.2.2.1,v.2.2.2.2.2.2.2.2.2.2.2.2.2.2.2.2))) .fail))) .fail)) .fail) .fail) (.ask (decide (0≤v.2.2.1∧v.2.2.1<v.2.2.2.2.2.2.2.2.2.2.2.2.2.2.2.2.length)) (.opt (v.2.2.2.2.2.2.2.2.2.2.2.2.2.2.2.2[(v.2.2.1).toNat]?) fun e580=>(.ask (decide (e580.length=1)) (.opt (zE .i64 e580 0) fun y581=>(.opt (rec v.1 y581 (0:Int)) fun r582=>(.ask (decide (v.2.1.size+r582.size≤9223372036854775807)) (.done (.inl (v.1,(v.2.1++r582),(IntKind.i64.wrap (v.2.2.1+(1:Int))),v.2.2.2.1,v.2.2.2.2.1,v.2.2.2.2.2.1,v.2.2.2.2.2.2.1,v.2.2.2.2.2.2.2.1,v.2.2.2.2.2.2.2.2.1,v.2.2.2.2.2.2.2.2.2.1,v.2.2.2.2.2.2.2.2.2.2.1,v.2.2.2.2.2.2.2.2.2.2.2.1,v.2.2.2.2.2.2.2.2.2.2.2.2.1,v.2.2.2.2.2.2.2.2.2.2.2.2.2.1,v.2.2.2.2.2.2.2.2.2.2.2.2.2.2.1,v.2.2.2.2.2.2.2.2.2.2.2.2.2.2.2.1,v.2.2.2.2.2.2.2.2.2.2.2.2.2.2.2.2))) .fail))) .fail)) .fail)) (.done (.inr (v.2.1))))
def qBj (rec:RW→Int→Int→Option (BA)) (n:Nat) (x0:RW) (x1 x2:Int):Tr (BA):=(.ask (decide (0≤x1∧x1<x0.length)) (.opt (x0[(x1).toNat]?) fun e539=>(.ask (decide (e539.length=14)) (.opt (zE .i64 e539 0) fun y540=>(.opt (zE .i64 e539 1) fun y541=>(.opt (zE .i64 e539 2) fun y542=>(.opt (zE .i64 e539 3) fun y543=>(.opt (zu e539 4) fun y544=>(.opt (zE .i64 e539 5) fun y545=>(.opt (zE .i64 e539 6) fun y546=>(.opt (zi e539 7) fun y547=>(.opt (zi e539 8) fun y548=>(.opt (zE .i64 e539 9) fun y549=>(.opt (zE .i64 e539 10) fun y550=>(.opt (zi e539 11) fun y551=>(.opt (zi e539 12) fun y552=>(.opt (zAW e539 13) fun y553=>(.ask ((y540==(1:Int))) (.ask ((y542==(2:Int))) (.opt (qEM n y544) fun r556=>(.done r556)) (.opt (qA8 n y542 y543 y544) fun r561=>(.done r561))) (.ask ((y540==(2:Int))) (.opt (qd n y545 y546 y547 y548) fun r562=>(.done r562)) (.ask ((y540==(3:Int))) (.opt (qd n y545 y546 y547 y548) fun r563=>(.ask (decide (r563.size+(⟨#[58]⟩:BA).size≤9223372036854775807)) (.opt (qd n y549 y550 y551 y552) fun r564=>(.ask (decide ((r563++(⟨#[58]⟩:BA)).size+r564.size≤9223372036854775807)) (.done ((r563++(⟨#[58]⟩:BA))++r564)) .fail)) .fail)) (.ask ((y540==(4:Int))) (.ask (decide (0≤(0:Int)∧(0:Int)<y553.length)) (.opt (y553[((0:Int)).toNat]?) fun e565=>(.ask (decide (e565.length=1)) (.opt (zE .i64 e565 0) fun y566=>(.opt (rec x0 y566 (5:Int)) fun r567=>(.ask (decide ((⟨#[45]⟩:BA).size+r567.size≤9223372036854775807)) (.done ((⟨#[45]⟩:BA)++r567)) .fail))) .fail)) .fail) (.ask ((y540==(5:Int))) (.opt (qB7 n y541) fun r568=>(.ask (decide (0≤(0:Int)∧(0:Int)<y553.length)) (.opt (y553[((0:Int)).toNat]?) fun e569=>(.ask (decide (e569.length=1)) (.opt (zE .i64 e569 0) fun y570=>(.ask (decide (0≤(1:Int)∧(1:Int)<y553.length)) (.opt (y553[((1:Int)).toNat]?) fun e571=>(.ask (decide (e571.length=1)) (.opt (zE .i64 e571 0) fun y572=>(.opt (rec x0 y570 r568) fun r573=>(.opt (qBz n y541) fun r574=>(.ask (decide (r573.size+r574.size≤9223372036854775807)) (.opt (rec x0 y572 (IntKind.i64.wrap (r568+(1:Int)))) fun r575=>(.ask (decide ((r573++r574).size+r575.size≤9223372036854775807)) (.ask ((decide (r568<x2))) (.ask (decide ((⟨#[40]⟩:BA).size+((r573++r574)++r575).size≤9223372036854775807)) (.ask (decide (((⟨#[40]⟩:BA)++((r573++r574)++r575)).size+(⟨#[41]⟩:BA).size≤9223372036854775807)) (.done (((⟨#[40]⟩:BA)++((r573++r574)++r575))++(⟨#[41]⟩:BA))) .fail) .fail) (.done ((r573++r574)++r575))) .fail)) .fail)))) .fail)) .fail)) .fail)) .fail)) (.opt (qCM n y541) fun r576=>(.ask (decide (r576.size+(⟨#[40]⟩:BA).size≤9223372036854775807)) (.opt (zD (qBT rec n) n (x0,(r576++(⟨#[40]⟩:BA)),(0:Int),y540,y541,y542,y543,y544,y545,y546,y547,y548,y549,y550,y551,y552,y553)) fun r583=>(.ask (decide (r583.size+(⟨#[41]⟩:BA).size≤9223372036854775807)) (.done (r583++(⟨#[41]⟩:BA))) .fail)) .fail))))))))))))))))))))) .fail)) .fail)
def ql:Nat→RW→Int→Int→Option (BA)
 |0,_,_,_=>none
 |n+1,x0,x1,x2=>(qBj (ql n) n x0 x1 x2).run
abbrev qJS (n:Nat) (ih:Ok (Rn n) qGg (ql n)):List (Ent (Rn n)):= [en (qML n),en (qKT n),en (qF9 n),en ih,en (qHj n),en (qFU n),en (qKI n)]
def qKU (n:Nat) (ih:Ok (Rn n) qGg (ql n)):LEnt (KB 51) (Rn n) n:=lok (zU 51) 125 ⟨⟨[(0,aL),(7,(.c (.ptr 0 448 0 0 0))),(10,aS),(11,aI)],[(448,⟨0,14,64,(.box [qI,qI,qI,qI,qS,qI,qI,qB,qB,qI,qI,qB,qB,qL])⟩)],[]⟩,[(.exit 1,⟨[(10,aS)],[],[]⟩)]⟩ (qBT (ql n) n) (qJS n ih) [] fun _=>(by kernel_rfl)
theorem qFw:∀n,Ok (Rn n) qGg (ql n)
 |0=>ok0 fun _=>rfl
 |n+1=>stO (T:=qBj (ql n) n) (by kernel_rfl) (qJS n (qFw n)) [qKU n (qFw n)] (fun _=>(by kernel_rfl)) fun _=>(by kernel_rfl)
def qJw:Sg:=⟨20,[aL],[],⟨aS,[],[]⟩⟩
def qC1 (n:Nat) (x0:RW):Tr (BA):=(.opt (qBJ n x0) fun r538=>(.ask ((!r538)) (.done (⟨#[]⟩:BA)) (.opt (ql n x0 (IntKind.i64.wrap ((x0.length:Int)-(1:Int))) (0:Int)) fun r584=>(.ask ((decide ((r584.size:Int)>(200:Int)))) (.done (⟨#[]⟩:BA)) (.done r584)))))
def qCB:Nat→RW→Option (BA)
 |0,_=>none
 |n+1,x0=>(qC1 n x0).run
abbrev qJx (n:Nat):List (Ent (Rn n)):= [en (qED n),en (qFw n)]
theorem qJG:∀n,Ok (Rn n) qJw (qCB n)
 |0=>ok0 fun _=>rfl
 |n+1=>stO (T:=qC1 n) (by kernel_rfl) (qJx n) [] (fun _=>(by kernel_rfl)) fun _=>(by kernel_rfl)
def qMM:Sg:=⟨46,[aL,aL],[],⟨aB,[],[]⟩⟩
def qCC (n:Nat) (v:RW×RW×Int):Tr ((RW×RW×Int)⊕((Bool)⊕(Unit))):=(.ask ((decide (v.2.2<(v.1.length:Int)))) (.ask (decide (0≤v.2.2∧v.2.2<v.1.length)) (.opt (v.1[(v.2.2).toNat]?) fun e618=>(.ask (decide (e618.length=1)) (.opt (zE .i64 e618 0) fun y619=>(.ask (decide (0≤v.2.2∧v.2.2<v.2.1.length)) (.opt (v.2.1[(v.2.2).toNat]?) fun e620=>(.ask (decide (e620.length=1)) (.opt (zE .i64 e620 0) fun y621=>(.ask ((y619 !=y621)) (.done (.inr (.inl (false)))) (.done (.inl (v.1,v.2.1,(IntKind.i64.wrap (v.2.2+(1:Int)))))))) .fail)) .fail)) .fail)) .fail) (.done (.inr (.inr (())))))
def qFC (n:Nat) (x0 x1:RW):Tr (Bool):=(.ask (((x0.length:Int) !=(x1.length:Int))) (.done false) (.opt (zD (qCC n) n (x0,x1,(0:Int))) fun r622=>(.alt r622 (fun r623=>(.done r623)) (fun r624=>(.done true)))))
def qC6:Nat→RW→RW→Option (Bool)
 |0,_,_=>none
 |n+1,x0,x1=>(qFC n x0 x1).run
def qJy (n:Nat):LEnt (KB 46) (Rn n) n:=lok (zU 46) 29 ⟨⟨[(0,aL),(1,aL),(5,aI)],[],[]⟩,[(.ret,⟨[(4,aB)],[],[]⟩),(.exit 0,⟨[],[],[]⟩)]⟩ (qCC n) [] [] fun _=>(by kernel_rfl)
theorem qLY:∀n,Ok (Rn n) qMM (qC6 n)
 |0=>ok0 fun _=>rfl
 |n+1=>stO (T:=qFC n) (by kernel_rfl) [] [qJy n] (fun _=>(by kernel_rfl)) fun _=>(by kernel_rfl)
def qLZ:Sg:=⟨16,[aL,aL],[],⟨aB,[],[]⟩⟩
def qDi (n:Nat) (v:RW×RW×Int):Tr ((RW×RW×Int)⊕((Bool)⊕(Unit))):=(.ask ((decide (v.2.2<(v.1.length:Int)))) (.ask (decide (0≤v.2.2∧v.2.2<v.1.length)) (.opt (v.1[(v.2.2).toNat]?) fun e588=>(.ask (decide (e588.length=14)) (.opt (zE .i64 e588 0) fun y589=>(.opt (zE .i64 e588 1) fun y590=>(.opt (zE .i64 e588 2) fun y591=>(.opt (zE .i64 e588 3) fun y592=>(.opt (zu e588 4) fun y593=>(.opt (zE .i64 e588 5) fun y594=>(.opt (zE .i64 e588 6) fun y595=>(.opt (zi e588 7) fun y596=>(.opt (zi e588 8) fun y597=>(.opt (zE .i64 e588 9) fun y598=>(.opt (zE .i64 e588 10) fun y599=>(.opt (zi e588 11) fun y600=>(.opt (zi e588 12) fun y601=>(.opt (zAW e588 13) fun y602=>(.ask (decide (0≤v.2.2∧v.2.2<v.2.1.length)) (.opt (v.2.1[(v.2.2).toNat]?) fun e603=>(.ask (decide (e603.length=14)) (.opt (zE .i64 e603 0) fun y604=>(.opt (zE .i64 e603 1) fun y605=>(.opt (zE .i64 e603 2) fun y606=>(.opt (zE .i64 e603 3) fun y607=>(.opt (zu e603 4) fun y608=>(.opt (zE .i64 e603 5) fun y609=>(.opt (zE .i64 e603 6) fun y610=>(.opt (zi e603 7) fun y611=>(.opt (zi e603 8) fun y612=>(.opt (zE .i64 e603 9) fun y613=>(.opt (zE .i64 e603 10) fun y614=>(.opt (zi e603 11) fun y615=>(.opt (zi e603 12) fun y616=>(.opt (zAW e603 13) fun y617=>(.ask ((y589 !=y604)) (.done (.inr (.inl (false)))) (.ask ((y590 !=y605)) (.done (.inr (.inl (false)))) (.ask ((!((y591==y606)&&((y592==y607)&&((y593.toList==y608.toList)&&true))))) (.done (.inr (.inl (false)))) (.ask ((!((y594==y609)&&((y595==y610)&&((y596==y611)&&((y597==y612)&&true)))))) (.done (.inr (.inl (false)))) (.ask ((!((y598==y613)&&((y599==y614)&&((y600==y615)&&((y601==y616)&&true)))))) (.done (.inr (.inl (false)))) (.opt (qC6 n y602 y617) fun r618=>(.ask ((!r618)) (.done (.inr (.inl (false)))) (.done (.inl (v.1,v.2.1,(IntKind.i64.wrap (v.2.2+(1:Int))))))))))))))))))))))))))) .fail)) .fail))))))))))))))) .fail)) .fail) (.done (.inr (.inr (())))))
def qG3 (n:Nat) (x0 x1:RW):Tr (Bool):=(.ask (((x0.length:Int) !=(x1.length:Int))) (.done false) (.opt (zD (qDi n) n (x0,x1,(0:Int))) fun r619=>(.alt r619 (fun r620=>(.done r620)) (fun r621=>(.done true)))))
def qDW:Nat→RW→RW→Option (Bool)
 |0,_,_=>none
 |n+1,x0,x1=>(qG3 n x0 x1).run
abbrev qG4 (n:Nat):List (Ent (Rn n)):= [en (qLY n)]
def qJH (n:Nat):LEnt (KB 16) (Rn n) n:=lok (zU 16) 29 ⟨⟨[(0,aL),(1,aL),(5,aI)],[],[]⟩,[(.ret,⟨[(4,aB)],[],[]⟩),(.exit 0,⟨[],[],[]⟩)]⟩ (qDi n) (qG4 n) [] fun _=>(by kernel_rfl)
theorem qKV:∀n,Ok (Rn n) qLZ (qDW n)
 |0=>ok0 fun _=>rfl
 |n+1=>stO (T:=qG3 n) (by kernel_rfl) (qG4 n) [qJH n] (fun _=>(by kernel_rfl)) fun _=>(by kernel_rfl)
def qH8:Sg:=⟨5,[aL],[],⟨aB,[],[]⟩⟩
def qDA (n:Nat) (x0:RW):Tr (Bool):=(.opt (qHD n x0) fun r1=>(.ask (r1) (.done true) (.opt (qCx n x0) fun r278=>(.opt (qB8 n r278) fun r410=>(.opt (qDz n r410) fun r537=>(.opt (qCB n r278) fun r585=>(.ask ((!(r410.toList==r585.toList))) (.done false) (.opt (qAq n r278) fun r586=>(.opt (qBJ n r278) fun r587=>(.ask ((!(r586==r587))) (.done false) (.ask ((r410.toList==(⟨#[]⟩:BA).toList)) (.ask ((!r537.2)) (.done true) (.ask ((!(r410.toList==(⟨#[]⟩:BA).toList))) (.ask (r537.2) (.opt (qDW n r537.1 r278) fun r622=>(.ask (r622) (.opt (qAq n r278) fun r623=>(.done r623)) (.done false))) (.done false)) (.done false))) (.ask ((!(r410.toList==(⟨#[]⟩:BA).toList))) (.ask (r537.2) (.opt (qDW n r537.1 r278) fun r624=>(.ask (r624) (.opt (qAq n r278) fun r625=>(.done r625)) (.done false))) (.done false)) (.done false)))))))))))))
def qEY:Nat→RW→Option (Bool)
 |0,_=>none
 |n+1,x0=>(qDA n x0).run
abbrev qH9 (n:Nat):List (Ent (Rn n)):= [en (qOk n),en (qGy n),en (qJA n),en (qJF n),en (qJG n),en (qEF n),en (qED n),en (qKV n)]
theorem qHW:∀n,Ok (Rn n) qH8 (qEY n)
 |0=>ok0 fun _=>rfl
 |n+1=>stO (T:=qDA n) (by kernel_rfl) (qH9 n) [] (fun _=>(by kernel_rfl)) fun _=>(by kernel_rfl)
end
end Go.Proofs.YthhngmnbcmkhpaaGreatDoor.KFnFormulaTexts

