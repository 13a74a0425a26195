import Derived.Test.YtilkdjfhbahhdaaGreatDoorKFnExactReadMacro
namespace Go.Proofs.YtilkdjfhbahhdaaGreatDoor.KFnExactReadMacro
open Go.Eng
set_option linter.unusedVariables false
set_option maxRecDepth 100000
noncomputable section
abbrev RW:=List (List PV)
abbrev BA:=ByteArray
def qNg:Sg:=⟨27,[aS],[],⟨(.tup [(false,[qL]),(false,[qB])]),[],[]⟩⟩
def qEH (n:Nat) (v:BA×Nat×BA×Int×RW):Tr ((BA×Nat×BA×Int×RW)⊕((Nat×BA×RW))):=(.ask ((decide (v.2.2.2.1<(v.1.size:Int)))) (.ask (decide (0≤v.2.2.2.1)) (.opt (v.1.toList[(v.2.2.2.1).toNat]?) fun c1=>(.ask (((c1.toNat:Int)==(10:Int))) (.ask (decide (1=([[(.s v.2.2.1)]]:RW).length)) (.ask (decide (v.2.1=v.2.2.2.2.length∧0<1∧0<16∧(v.2.1+([[(.s v.2.2.1)]]:RW).length)*16≤140737488355328∧([[(.s v.2.2.1)]]:RW).all (fun e=>e.length==1)=true)) (.done (.inl (v.1,(v.2.1+1),(⟨#[]⟩:BA),(IntKind.i64.wrap (v.2.2.2.1+(1:Int))),(v.2.2.2.2++([[(.s v.2.2.1)]]:RW))))) .fail) .fail) (.ask (decide (0≤v.2.2.2.1∧v.2.2.2.1≤(IntKind.i64.wrap (v.2.2.2.1+(1:Int)))∧(IntKind.i64.wrap (v.2.2.2.1+(1:Int)))≤v.1.size)) (.ask (decide (v.2.2.1.size+(v.1.extract (v.2.2.2.1).toNat ((IntKind.i64.wrap (v.2.2.2.1+(1:Int)))).toNat).size≤9223372036854775807)) (.done (.inl (v.1,v.2.1,(v.2.2.1++(v.1.extract (v.2.2.2.1).toNat ((IntKind.i64.wrap (v.2.2.2.1+(1:Int)))).toNat)),(IntKind.i64.wrap (v.2.2.2.1+(1:Int))),v.2.2.2.2))) .fail) .fail))) .fail) (.done (.inr ((v.2.1,v.2.2.1,v.2.2.2.2)))))
def qIh (n:Nat) (x0:BA):Tr (RW×Bool):=(.opt (zF (qEH n) n (x0,(0:Nat),(⟨#[]⟩:BA),(0:Int),([]:RW))) fun r2=>(.ask (decide (r2.1=r2.2.2.length)) (.done (r2.2.2,(r2.2.1.toList==(⟨#[]⟩:BA).toList))) .fail))
def qFh:Nat→BA→Option (RW×Bool)
 |0,_=>none
 |n+1,x0=>(qIh n x0).run
def qKy (n:Nat):LEnt (KB 27) (Rn n) n:=lok (zb 27) 61 ⟨⟨[(0,aS),(4,(.c (.own 0 448 0 0))),(5,aS),(6,aI)],[(448,⟨0,1,9,(.row [])⟩)],[]⟩,[(.exit 0,⟨[(4,(.c (.own 0 448 0 0))),(5,aS)],[(448,⟨0,1,9,(.row [])⟩)],[]⟩)]⟩ (qEH n) [] [] fun _=>(by kernel_rfl)
theorem qMX:∀n,Ok (Rn n) qNg (qFh n)
 |0=>ok0 fun _=>rfl
 |n+1=>stO (T:=qIh n) (by kernel_rfl) [] [qKy n] (fun _=>(by kernel_rfl)) fun _=>(by kernel_rfl)
def qPd:Sg:=⟨28,[aS],[],⟨(.tup [(false,[qS]),(false,[qS])]),[],[]⟩⟩
def qE3 (n:Nat) (v:BA×Int):Tr ((BA×Int)⊕((BA×Int))):=(.ask ((decide (v.2<(v.1.size:Int)))) (.ask (decide (0≤v.2)) (.opt (v.1.toList[(v.2).toNat]?) fun c6=>(.ask (((c6.toNat:Int) !=(32:Int))) (.done (.inl (v.1,(IntKind.i64.wrap (v.2+(1:Int)))))) (.done (.inr ((v.1,v.2)))))) .fail) (.done (.inr ((v.1,v.2)))))
def qKj (n:Nat) (x0:BA):Tr (BA×BA):=(.opt (zF (qE3 n) n (x0,(0:Int))) fun r7=>(.ask ((r7.2==(r7.1.size:Int))) (.done (r7.1,(⟨#[]⟩:BA))) (.ask (decide (0≤(0:Int)∧(0:Int)≤r7.2∧r7.2≤r7.1.size)) (.ask (decide (0≤(IntKind.i64.wrap (r7.2+(1:Int)))∧(IntKind.i64.wrap (r7.2+(1:Int)))≤(r7.1.size:Int)∧(r7.1.size:Int)≤r7.1.size)) (.done ((r7.1.extract ((0:Int)).toNat (r7.2).toNat),(r7.1.extract ((IntKind.i64.wrap (r7.2+(1:Int)))).toNat ((r7.1.size:Int)).toNat))) .fail) .fail)))
def qDP:Nat→BA→Option (BA×BA)
 |0,_=>none
 |n+1,x0=>(qKj n x0).run
def qMY (n:Nat):LEnt (KB 28) (Rn n) n:=lok (zb 28) 14 ⟨⟨[(0,aS),(4,aI)],[],[]⟩,[(.exit 0,⟨[(0,aS),(4,aI)],[],[]⟩)]⟩ (qE3 n) [] [] fun _=>(by kernel_rfl)
theorem qOM:∀n,Ok (Rn n) qPd (qDP n)
 |0=>ok0 fun _=>rfl
 |n+1=>stO (T:=qKj n) (by kernel_rfl) [] [qMY n] (fun _=>(by kernel_rfl)) fun _=>(by kernel_rfl)
def qQ2:Sg:=⟨45,[aI,aI,aI],[],⟨aB,[],[]⟩⟩
def qGx (n:Nat) (x0 x1 x2:Int):Tr (Bool):=(.ask ((decide (x0≥x1))) (.done (decide (x0≤x2))) (.done false))
def qAj:Nat→Int→Int→Int→Option (Bool)
 |0,_,_,_=>none
 |n+1,x0,x1,x2=>(qGx n x0 x1 x2).run
theorem qDm:∀n,Ok (Rn n) qQ2 (qAj n)
 |0=>ok0 fun _=>rfl
 |n+1=>stO (T:=qGx n) (by kernel_rfl) [] [] (fun _=>(by kernel_rfl)) fun _=>(by kernel_rfl)
def qON:Sg:=⟨96,[aI],[],⟨aS,[],[]⟩⟩
def qBP (n:Nat) (v:Int×BA):Tr ((Int×BA)⊕((BA))):=(.ask ((decide (v.1>(0:Int)))) (.ask (decide (1=([[(.i .u8 (IntKind.u8.wrap (IntKind.i64.wrap ((65:Int)+(Int.tmod (IntKind.i64.wrap (v.1-(1:Int))) (26:Int))))))]]:RW).length)) (.opt (bytesOf ([[(.i .u8 (IntKind.u8.wrap (IntKind.i64.wrap ((65:Int)+(Int.tmod (IntKind.i64.wrap (v.1-(1:Int))) (26:Int))))))]]:RW)) fun l15=>(.ask (decide ((⟨l15.toArray⟩:BA).size+v.2.size≤9223372036854775807)) (.done (.inl ((IntKind.i64.wrap (Int.tdiv (IntKind.i64.wrap (v.1-(1:Int))) (26:Int))),((⟨l15.toArray⟩:BA)++v.2)))) .fail)) .fail) (.done (.inr (v.2))))
def qEa (n:Nat) (x0:Int):Tr (BA):=(.opt (qAj n x0 (1:Int) (52:Int)) fun r14=>(.ask ((!r14)) (.done (⟨#[]⟩:BA)) (.opt (zF (qBP n) n (x0,(⟨#[]⟩:BA))) fun r16=>(.done r16))))
def qCw:Nat→Int→Option (BA)
 |0,_=>none
 |n+1,x0=>(qEa n x0).run
abbrev qJM (n:Nat):List (Ent (Rn n)):= [en (qDm n)]
def qLb (n:Nat):LEnt (KB 96) (Rn n) n:=lok (zb 96) 30 ⟨⟨[(0,aI),(3,aS)],[],[]⟩,[(.exit 0,⟨[(3,aS)],[],[]⟩)]⟩ (qBP n) (qJM n) [] fun _=>(by kernel_rfl)
theorem qIi:∀n,Ok (Rn n) qON (qCw n)
 |0=>ok0 fun _=>rfl
 |n+1=>stO (T:=qEa n) (by kernel_rfl) (qJM n) [qLb n] (fun _=>(by kernel_rfl)) fun _=>(by kernel_rfl)
def qOO:Sg:=⟨60,[aS],[],⟨aI,[],[]⟩⟩
def qCU (n:Nat) (v:BA×Int):Tr ((BA×Int)⊕((Int)⊕(Unit))):=(.ask ((decide (v.2≤(52:Int)))) (.opt (qCw n v.2) fun r14=>(.ask ((r14.toList==v.1.toList)) (.done (.inr (.inl (v.2)))) (.done (.inl (v.1,(IntKind.i64.wrap (v.2+(1:Int)))))))) (.done (.inr (.inr (())))))
def qF9 (n:Nat) (x0:BA):Tr (Int):=(.opt (zF (qCU n) n (x0,(1:Int))) fun r15=>(.alt r15 (fun r16=>(.done r16)) (fun r17=>(.done (0:Int)))))
def qCF:Nat→BA→Option (Int)
 |0,_=>none
 |n+1,x0=>(qF9 n x0).run
abbrev qJN (n:Nat):List (Ent (Rn n)):= [en (qIi n)]
def qLc (n:Nat):LEnt (KB 60) (Rn n) n:=lok (zb 60) 13 ⟨⟨[(0,aS),(3,aI)],[],[]⟩,[(.ret,⟨[(2,aI)],[],[]⟩),(.exit 0,⟨[],[],[]⟩)]⟩ (qCU n) (qJN n) [] fun _=>(by kernel_rfl)
theorem qNh:∀n,Ok (Rn n) qOO (qCF n)
 |0=>ok0 fun _=>rfl
 |n+1=>stO (T:=qF9 n) (by kernel_rfl) (qJN n) [qLc n] (fun _=>(by kernel_rfl)) fun _=>(by kernel_rfl)
def qQV:Sg:=⟨30,[aS,aI],[],⟨(.tup [(false,[qI]),(false,[qB])]),[],[]⟩⟩
def qBa (n:Nat) (v:BA×Int×Int):Tr ((BA×Int×Int)⊕((Int×Bool)⊕(Int))):=(.ask ((decide (v.2.2<(v.1.size:Int)))) (.ask (decide (0≤v.2.2)) (.opt (v.1.toList[(v.2.2).toNat]?) fun c21=>(.ask ((decide ((c21.toNat:Int)<(48:Int)))) (.done (.inr (.inl (((0:Int),false))))) (.ask (decide (0≤v.2.2)) (.opt (v.1.toList[(v.2.2).toNat]?) fun c22=>(.ask ((decide ((c22.toNat:Int)>(57:Int)))) (.done (.inr (.inl (((0:Int),false))))) (.ask (decide (0≤v.2.2)) (.opt (v.1.toList[(v.2.2).toNat]?) fun c23=>(.done (.inl (v.1,(IntKind.i64.wrap ((IntKind.i64.wrap (v.2.1*(10:Int)))+(IntKind.i64.wrap (IntKind.u8.wrap ((c23.toNat:Int)-(48:Int)))))),(IntKind.i64.wrap (v.2.2+(1:Int))))))) .fail))) .fail))) .fail) (.done (.inr (.inr (v.2.1)))))
def qEb (n:Nat) (x0:BA) (x1:Int):Tr (Int×Bool):=(.ask ((decide ((x0.size:Int)<(1:Int)))) (.done ((0:Int),false)) (.ask ((decide ((x0.size:Int)>x1))) (.done ((0:Int),false)) (.ask (decide (0≤(0:Int))) (.opt (x0.toList[((0:Int)).toNat]?) fun c20=>(.ask (((c20.toNat:Int)==(48:Int))) (.ask ((decide ((x0.size:Int)>(1:Int)))) (.done ((0:Int),false)) (.opt (zF (qBa n) n (x0,(0:Int),(0:Int))) fun r24=>(.alt r24 (fun r25=>(.done (r25.1,r25.2))) (fun r26=>(.done (r26,true)))))) (.opt (zF (qBa n) n (x0,(0:Int),(0:Int))) fun r27=>(.alt r27 (fun r28=>(.done (r28.1,r28.2))) (fun r29=>(.done (r29,true))))))) .fail)))
def qm:Nat→BA→Int→Option (Int×Bool)
 |0,_,_=>none
 |n+1,x0,x1=>(qEb n x0 x1).run
def qNi (n:Nat):LEnt (KB 30) (Rn n) n:=lok (zb 30) 61 ⟨⟨[(0,aS),(6,aI),(7,aI)],[],[]⟩,[(.ret,⟨[(4,aI),(5,aB)],[],[]⟩),(.exit 0,⟨[(6,aI)],[],[]⟩)]⟩ (qBa n) [] [] fun _=>(by kernel_rfl)
theorem qFO:∀n,Ok (Rn n) qQV (qm n)
 |0=>ok0 fun _=>rfl
 |n+1=>stO (T:=qEb n) (by kernel_rfl) [] [qNi n] (fun _=>(by kernel_rfl)) fun _=>(by kernel_rfl)
def qQW:Sg:=⟨61,[(.agg [qI,qI])],[],⟨aB,[],[]⟩⟩
def qIH (n:Nat) (x0 x1:Int):Tr (Bool):=(.opt (qAj n x0 (1:Int) (52:Int)) fun r31=>(.ask (r31) (.opt (qAj n x1 (1:Int) (99:Int)) fun r32=>(.done r32)) (.done false)))
def q9:Nat→Int→Int→Option (Bool)
 |0,_,_=>none
 |n+1,x0,x1=>(qIH n x0 x1).run
abbrev qQX (n:Nat):List (Ent (Rn n)):= [en (qDm n)]
theorem qD5:∀n,Ok (Rn n) qQW (q9 n)
 |0=>ok0 fun _=>rfl
 |n+1=>stO (T:=qIH n) (by kernel_rfl) (qQX n) [] (fun _=>(by kernel_rfl)) fun _=>(by kernel_rfl)
def qMZ:Sg:=⟨29,[aS],[],⟨(.tup [(true,[qI,qI,qB,qB]),(false,[qB])]),[],[]⟩⟩
def qAL (n:Nat) (v:BA×Int×Int×Int×Bool×Bool×Int×Int×Bool×Bool):Tr ((BA×Int×Int×Int×Bool×Bool×Int×Int×Bool×Bool)⊕((BA×Int×Int×Int×Bool×Bool×Int×Int×Bool×Bool))):=(.ask ((decide (v.2.1<(v.1.size:Int)))) (.ask (decide (0≤v.2.1)) (.opt (v.1.toList[(v.2.1).toNat]?) fun c11=>(.ask ((decide ((c11.toNat:Int)≥(65:Int)))) (.ask (decide (0≤v.2.1)) (.opt (v.1.toList[(v.2.1).toNat]?) fun c12=>(.ask ((decide ((c12.toNat:Int)≤(90:Int)))) (.done (.inl (v.1,(IntKind.i64.wrap (v.2.1+(1:Int))),v.2.2.1,v.2.2.2.1,v.2.2.2.2.1,v.2.2.2.2.2.1,v.2.2.2.2.2.2.1,v.2.2.2.2.2.2.2.1,v.2.2.2.2.2.2.2.2.1,v.2.2.2.2.2.2.2.2.2))) (.done (.inr ((v.1,v.2.1,v.2.2.1,v.2.2.2.1,v.2.2.2.2.1,v.2.2.2.2.2.1,v.2.2.2.2.2.2.1,v.2.2.2.2.2.2.2.1,v.2.2.2.2.2.2.2.2.1,v.2.2.2.2.2.2.2.2.2)))))) .fail) (.done (.inr ((v.1,v.2.1,v.2.2.1,v.2.2.2.1,v.2.2.2.2.1,v.2.2.2.2.2.1,v.2.2.2.2.2.2.1,v.2.2.2.2.2.2.2.1,v.2.2.2.2.2.2.2.2.1,v.2.2.2.2.2.2.2.2.2)))))) .fail) (.done (.inr ((v.1,v.2.1,v.2.2.1,v.2.2.2.1,v.2.2.2.2.1,v.2.2.2.2.2.1,v.2.2.2.2.2.2.1,v.2.2.2.2.2.2.2.1,v.2.2.2.2.2.2.2.2.1,v.2.2.2.2.2.2.2.2.2)))))
def qCC (n:Nat) (x0:BA):Tr (Int×Int×Bool×Bool×Bool):=(.ask ((decide ((x0.size:Int)>(0:Int)))) (.ask (decide (0≤(0:Int))) (.opt (x0.toList[((0:Int)).toNat]?) fun c10=>(.ask (((c10.toNat:Int)==(36:Int))) (.ask (decide (0≤(1:Int)∧(1:Int)≤(x0.size:Int)∧(x0.size:Int)≤x0.size)) (.opt (zF (qAL n) n ((x0.extract ((1:Int)).toNat ((x0.size:Int)).toNat),(0:Int),(0:Int),(0:Int),false,false,(0:Int),(0:Int),true,false)) fun r13=>(.ask (decide (0≤(0:Int)∧(0:Int)≤r13.2.1∧r13.2.1≤r13.1.size)) (.opt (qCF n (r13.1.extract ((0:Int)).toNat (r13.2.1).toNat)) fun r18=>(.ask (decide (0≤r13.2.1∧r13.2.1≤(r13.1.size:Int)∧(r13.1.size:Int)≤r13.1.size)) (.ask ((decide (((r13.1.extract (r13.2.1).toNat ((r13.1.size:Int)).toNat).size:Int)>(0:Int)))) (.ask (decide (0≤(0:Int))) (.opt ((r13.1.extract (r13.2.1).toNat ((r13.1.size:Int)).toNat).toList[((0:Int)).toNat]?) fun c19=>(.ask (((c19.toNat:Int)==(36:Int))) (.ask (decide (0≤(1:Int)∧(1:Int)≤((r13.1.extract (r13.2.1).toNat ((r13.1.size:Int)).toNat).size:Int)∧((r13.1.extract (r13.2.1).toNat ((r13.1.size:Int)).toNat).size:Int)≤(r13.1.extract (r13.2.1).toNat ((r13.1.size:Int)).toNat).size)) (.opt (qm n ((r13.1.extract (r13.2.1).toNat ((r13.1.size:Int)).toNat).extract ((1:Int)).toNat (((r13.1.extract (r13.2.1).toNat ((r13.1.size:Int)).toNat).size:Int)).toNat) (2:Int)) fun r30=>(.ask ((!r30.2)) (.done ((0:Int),(0:Int),false,false,false)) (.opt (q9 n r18 r30.1) fun r33=>(.ask ((!r33)) (.done ((0:Int),(0:Int),false,false,false)) (.done (r18,r30.1,r13.2.2.2.2.2.2.2.2.1,true,true)))))) .fail) (.opt (qm n (r13.1.extract (r13.2.1).toNat ((r13.1.size:Int)).toNat) (2:Int)) fun r34=>(.ask ((!r34.2)) (.done ((0:Int),(0:Int),false,false,false)) (.opt (q9 n r18 r34.1) fun r35=>(.ask ((!r35)) (.done ((0:Int),(0:Int),false,false,false)) (.done (r18,r34.1,r13.2.2.2.2.2.2.2.2.1,r13.2.2.2.2.2.2.2.2.2,true)))))))) .fail) (.opt (qm n (r13.1.extract (r13.2.1).toNat ((r13.1.size:Int)).toNat) (2:Int)) fun r36=>(.ask ((!r36.2)) (.done ((0:Int),(0:Int),false,false,false)) (.opt (q9 n r18 r36.1) fun r37=>(.ask ((!r37)) (.done ((0:Int),(0:Int),false,false,false)) (.done (r18,r36.1,r13.2.2.2.2.2.2.2.2.1,r13.2.2.2.2.2.2.2.2.2,true))))))) .fail)) .fail)) .fail) (.opt (zF (qAL n) n (x0,(0:Int),(0:Int),(0:Int),false,false,(0:Int),(0:Int),false,false)) fun r38=>(.ask (decide (0≤(0:Int)∧(0:Int)≤r38.2.1∧r38.2.1≤r38.1.size)) (.opt (qCF n (r38.1.extract ((0:Int)).toNat (r38.2.1).toNat)) fun r39=>(.ask (decide (0≤r38.2.1∧r38.2.1≤(r38.1.size:Int)∧(r38.1.size:Int)≤r38.1.size)) (.ask ((decide (((r38.1.extract (r38.2.1).toNat ((r38.1.size:Int)).toNat).size:Int)>(0:Int)))) (.ask (decide (0≤(0:Int))) (.opt ((r38.1.extract (r38.2.1).toNat ((r38.1.size:Int)).toNat).toList[((0:Int)).toNat]?) fun c40=>(.ask (((c40.toNat:Int)==(36:Int))) (.ask (decide (0≤(1:Int)∧(1:Int)≤((r38.1.extract (r38.2.1).toNat ((r38.1.size:Int)).toNat).size:Int)∧((r38.1.extract (r38.2.1).toNat ((r38.1.size:Int)).toNat).size:Int)≤(r38.1.extract (r38.2.1).toNat ((r38.1.size:Int)).toNat).size)) (.opt (qm n ((r38.1.extract (r38.2.1).toNat ((r38.1.size:Int)).toNat).extract ((1:Int)).toNat (((r38.1.extract (r38.2.1).toNat ((r38.1.size:Int)).toNat).size:Int)).toNat) (2:Int)) fun r41=>(.ask ((!r41.2)) (.done ((0:Int),(0:Int),false,false,false)) (.opt (q9 n r39 r41.1) fun r42=>(.ask ((!r42)) (.done ((0:Int),(0:Int),false,false,false)) (.done (r39,r41.1,r38.2.2.2.2.2.2.2.2.1,true,true)))))) .fail) (.opt (qm n (r38.1.extract (r38.2.1).toNat ((r38.1.size:Int)).toNat) (2:Int)) fun r43=>(.ask ((!r43.2)) (.done ((0:Int),(0:Int),false,false,false)) (.opt (q9 n r39 r43.1) fun r44=>(.ask ((!r44)) (.done ((0:Int),(0:Int),false,false,false)) (.done (r39,r43.1,r38.2.2.2.2.2.2.2.2.1,r38.2.2.2.2.2.2.2.2.2,true)))))))) .fail) (.opt (qm n (r38.1.extract (r38.2.1).toNat ((r38.1.size:Int)).toNat) (2:Int)) fun r45=>(.ask ((!r45.2)) (.done ((0:Int),(0:Int),false,false,false)) (.opt (q9 n r39 r45.1) fun r46=>(.ask ((!r46)) (.done ((0:Int),(0:Int),false,false,false)) (.done (r39,r45.1,r38.2.2.2.2.2.2.2.2.1,r38.2.2.2.2.2.2.2.2.2,true))))))) .fail)) .fail)))) .fail) (.opt (zF (qAL n) n (x0,(0:Int),(0:Int),(0:Int),false,false,(0:Int),(0:Int),false,false)) fun r47=>(.ask (decide (0≤(0:Int)∧(0:Int)≤r47.2.1∧r47.2.1≤r47.1.size)) (.opt (qCF n (r47.1.extract ((0:Int)).toNat (r47.2.1).toNat)) fun r48=>(.ask (decide (0≤r47.2.1∧r47.2.1≤(r47.1.size:Int)∧(r47.1.size:Int)≤r47.1.size)) (.ask ((decide (((r47.1.extract (r47.2.1).toNat ((r47.1.size:Int)).toNat).size:Int)>(0:Int)))) (.ask (decide (0≤(0:Int))) (.opt ((r47.1.extract (r47.2.1).toNat ((r47.1.size:Int)).toNat).toList[((0:Int)).toNat]?) fun c49=>(.ask (((c49.toNat:Int)==(36:Int))) (.ask (decide (0≤(1:Int)∧(1:Int)≤((r47.1.extract (r47.2.1).toNat ((r47.1.size:Int)).toNat).size:Int)∧((r47.1.extract (r47.2.1).toNat ((r47.1.size:Int)).toNat).size:Int)≤(r47.1.extract (r47.2.1).toNat ((r47.1.size:Int)).toNat).size)) (.opt (qm n ((r47.1.extract (r47.2.1).toNat ((r47.1.size:Int)).toNat).extract ((1:Int)).toNat (((r47.1.extract (r47.2.1).toNat ((r47.1.size:Int)).toNat).size:Int)).toNat) (2:Int)) fun r50=>(.ask ((!r50.2)) (.done ((0:Int),(0:Int),false,false,false)) (.opt (q9 n r48 r50.1) fun r51=>(.ask ((!r51)) (.done ((0:Int),(0:Int),false,false,false)) (.done (r48,r50.1,r47.2.2.2.2.2.2.2.2.1,true,true)))))) .fail) (.opt (qm n (r47.1.extract (r47.2.1).toNat ((r47.1.size:Int)).toNat) (2:Int)) fun r52=>(.ask ((!r52.2)) (.done ((0:Int),(0:Int),false,false,false)) (.opt (q9 n r48 r52.1) fun r53=>(.ask ((!r53)) (.done ((0:Int),(0:Int),false,false,false)) (.done (r48,r52.1,r47.2.2.2.2.2.2.2.2.1,r47.2.2.2.2.2.2.2.2.2,true)))))))) .fail) (.opt (qm n (r47.1.extract (r47.2.1).toNat ((r47.1.size:Int)).toNat) (2:Int)) fun r54=>(.ask ((!r54.2)) (.done ((0:Int),(0:Int),false,false,false)) (.opt (q9 n r48 r54.1) fun r55=>(.ask ((!r55)) (.done ((0:Int),(0:Int),false,false,false)) (.done (r48,r54.1,r47.2.2.2.2.2.2.2.2.1,r47.2.2.2.2.2.2.2.2.2,true))))))) .fail)) .fail)))
def qAQ:Nat→BA→Option (Int×Int×Bool×Bool×Bool)
 |0,_=>none
 |n+1,x0=>(qCC n x0).run
abbrev qHj (n:Nat):List (Ent (Rn n)):= [en (qNh n),en (qFO n),en (qD5 n)]
def qKI (n:Nat):LEnt (KB 29) (Rn n) n:=lok (zb 29) 62 ⟨⟨[(0,aS),(2,(.c (.ptr 0 128 0 0 0))),(4,(.c (.ptr 0 256 0 0 0))),(5,aI)],[(128,⟨0,4,49,(.box [qI,qI,qB,qB])⟩),(256,⟨0,4,49,(.box [qI,qI,qB,qB])⟩)],[]⟩,[(.exit 0,⟨[(0,aS),(2,(.c (.ptr 0 128 0 0 0))),(4,(.c (.ptr 0 256 0 0 0))),(5,aI)],[(128,⟨0,4,49,(.box [qI,qI,qB,qB])⟩),(256,⟨0,4,49,(.box [qI,qI,qB,qB])⟩)],[]⟩)]⟩ (qAL n) (qHj n) [] fun _=>(by kernel_rfl)
theorem qEc:∀n,Ok (Rn n) qMZ (qAQ n)
 |0=>ok0 fun _=>rfl
 |n+1=>stO (T:=qCC n) (by kernel_rfl) (qHj n) [qKI n] (fun _=>(by kernel_rfl)) fun _=>(by kernel_rfl)
def qOP:Sg:=⟨15,[aS],[],⟨aB,[],[]⟩⟩
def qBQ (n:Nat) (v:BA×Int):Tr ((BA×Int)⊕((Bool)⊕(BA))):=(.ask ((decide (v.2<(v.1.size:Int)))) (.ask (decide (0≤v.2)) (.opt (v.1.toList[(v.2).toNat]?) fun c18=>(.ask ((decide ((c18.toNat:Int)<(32:Int)))) (.done (.inr (.inl (false)))) (.ask (decide (0≤v.2)) (.opt (v.1.toList[(v.2).toNat]?) fun c19=>(.ask ((decide ((c19.toNat:Int)>(126:Int)))) (.done (.inr (.inl (false)))) (.done (.inl (v.1,(IntKind.i64.wrap (v.2+(1:Int)))))))) .fail))) .fail) (.done (.inr (.inr (v.1)))))
def qGA (n:Nat) (x0:BA):Tr (Bool):=(.opt (zF (qBQ n) n (x0,(0:Int))) fun r20=>(.alt r20 (fun r21=>(.done r21)) (fun r22=>(.done (decide ((r22.size:Int)≤(200:Int)))))))
def qCG:Nat→BA→Option (Bool)
 |0,_=>none
 |n+1,x0=>(qGA n x0).run
def qLd (n:Nat):LEnt (KB 15) (Rn n) n:=lok (zb 15) 13 ⟨⟨[(0,aS),(3,aI)],[],[]⟩,[(.ret,⟨[(2,aB)],[],[]⟩),(.exit 0,⟨[(0,aS)],[],[]⟩)]⟩ (qBQ n) [] [] fun _=>(by kernel_rfl)
theorem qFi:∀n,Ok (Rn n) qOP (qCG n)
 |0=>ok0 fun _=>rfl
 |n+1=>stO (T:=qGA n) (by kernel_rfl) [] [qLd n] (fun _=>(by kernel_rfl)) fun _=>(by kernel_rfl)
def qKz:Sg:=⟨17,[(.c (.ptr 0 0 0 0 0))],[[(0,⟨0,4,35,(.box [qS,qI,qB,(.own 0 1 1 0)])⟩),(1,⟨1,14,52,(.row [])⟩)]],⟨(.tup []),[[(0,⟨0,4,35,(.box [qS,qI,qB,(.own 0 1 1 0)])⟩),(1,⟨1,14,52,(.row [])⟩)]],[]⟩⟩
def qDY (n:Nat) (v:BA×Int×Bool×Nat×RW):Tr ((BA×Int×Bool×Nat×RW)⊕((BA×Int×Bool×Nat×RW))):=(.ask ((decide (v.2.1<(v.1.size:Int)))) (.ask (decide (0≤v.2.1)) (.opt (v.1.toList[(v.2.1).toNat]?) fun c26=>(.ask (((c26.toNat:Int)==(32:Int))) (.done (.inl (v.1,(IntKind.i64.wrap (v.2.1+(1:Int))),v.2.2.1,v.2.2.2.1,v.2.2.2.2))) (.done (.inr ((v.1,v.2.1,v.2.2.1,v.2.2.2.1,v.2.2.2.2)))))) .fail) (.done (.inr ((v.1,v.2.1,v.2.2.1,v.2.2.2.1,v.2.2.2.2)))))
def qGB (n:Nat) (x0:BA) (x1:Int) (x2:Bool) (x3:Nat) (x4:RW):Tr (BA×Int×Bool×Nat×RW):=(.opt (zF (qDY n) n (x0,x1,x2,x3,x4)) fun r27=>(.done (r27.1,r27.2.1,r27.2.2.1,r27.2.2.2.1,r27.2.2.2.2)))
def qBf:Nat→BA→Int→Bool→Nat→RW→Option (BA×Int×Bool×Nat×RW)
 |0,_,_,_,_,_=>none
 |n+1,x0,x1,x2,x3,x4=>(qGB n x0 x1 x2 x3 x4).run
def qJO (n:Nat):LEnt (KB 17) (Rn n) n:=lok (zb 17) 1 ⟨⟨[(0,(.c (.ptr 0 0 0 0 0)))],[],[[(0,⟨0,4,35,(.box [qS,qI,qB,(.own 0 1 1 0)])⟩),(1,⟨1,14,52,(.row [])⟩)]]⟩,[(.exit 0,⟨[],[],[[(0,⟨0,4,35,(.box [qS,qI,qB,(.own 0 1 1 0)])⟩),(1,⟨1,14,52,(.row [])⟩)]]⟩)]⟩ (qDY n) [] [] fun _=>(by kernel_rfl)
theorem qDw:∀n,Ok (Rn n) qKz (qBf n)
 |0=>ok0 fun _=>rfl
 |n+1=>stO (T:=qGB n) (by kernel_rfl) [] [qJO n] (fun _=>(by kernel_rfl)) fun _=>(by kernel_rfl)
def qOQ:Sg:=⟨76,[(.c (.ptr 0 0 0 0 0)),aS],[[(0,⟨0,4,35,(.box [qS,qI,qB,(.own 0 1 1 0)])⟩),(1,⟨1,14,52,(.row [])⟩)]],⟨aB,[[(0,⟨0,4,35,(.box [qS,qI,qB,(.own 0 1 1 0)])⟩),(1,⟨1,14,52,(.row [])⟩)]],[]⟩⟩
def qJP (n:Nat) (x0 x1:BA) (x2:Int) (x3:Bool) (x4:Nat) (x5:RW):Tr (Bool×BA×Int×Bool×Nat×RW):=(.opt (qBf n x1 x2 x3 x4 x5) fun r28=>(.ask (r28.2.2.1) (.done (false,r28.1,r28.2.1,r28.2.2.1,r28.2.2.2.1,r28.2.2.2.2)) (.ask ((decide ((IntKind.i64.wrap (r28.2.1+(x0.size:Int)))>(r28.1.size:Int)))) (.done (false,r28.1,r28.2.1,r28.2.2.1,r28.2.2.2.1,r28.2.2.2.2)) (.ask (decide (0≤r28.2.1∧r28.2.1≤(IntKind.i64.wrap (r28.2.1+(x0.size:Int)))∧(IntKind.i64.wrap (r28.2.1+(x0.size:Int)))≤r28.1.size)) (.ask ((!((r28.1.extract (r28.2.1).toNat ((IntKind.i64.wrap (r28.2.1+(x0.size:Int)))).toNat).toList==x0.toList))) (.done (false,r28.1,r28.2.1,r28.2.2.1,r28.2.2.2.1,r28.2.2.2.2)) (.done (true,r28.1,(IntKind.i64.wrap (r28.2.1+(x0.size:Int))),r28.2.2.1,r28.2.2.2.1,r28.2.2.2.2))) .fail))))
def qAE:Nat→BA→BA→Int→Bool→Nat→RW→Option (Bool×BA×Int×Bool×Nat×RW)
 |0,_,_,_,_,_,_=>none
 |n+1,x0,x1,x2,x3,x4,x5=>(qJP n x0 x1 x2 x3 x4 x5).run
abbrev qOR (n:Nat):List (Ent (Rn n)):= [en (qDw n)]
theorem qEA:∀n,Ok (Rn n) qOQ (qAE n)
 |0=>ok0 fun _=>rfl
 |n+1=>stO (T:=qJP n) (by kernel_rfl) (qOR n) [] (fun _=>(by kernel_rfl)) fun _=>(by kernel_rfl)
def qOS:Sg:=⟨86,[(.agg [qI,qI,qS])],[],⟨aB,[],[]⟩⟩
def qGC (n:Nat) (x0 x1:Int) (x2:BA):Tr (Bool):=(.ask ((x0==(0:Int))) (.ask ((x1==(0:Int))) (.done (x2.toList==(⟨#[]⟩:BA).toList)) (.done false)) (.ask ((x0==(1:Int))) (.opt (qAj n x1 (-1000000000000000:Int) (1000000000000000:Int)) fun r31=>(.ask (r31) (.done (x2.toList==(⟨#[]⟩:BA).toList)) (.done false))) (.ask ((x0==(2:Int))) (.ask ((x1==(0:Int))) (.opt (qCG n x2) fun r32=>(.done r32)) (.done false)) (.ask ((x0==(3:Int))) (.opt (qAj n x1 (0:Int) (1:Int)) fun r33=>(.ask (r33) (.done (x2.toList==(⟨#[]⟩:BA).toList)) (.done false))) (.ask ((x0==(4:Int))) (.opt (qAj n x1 (1:Int) (5:Int)) fun r34=>(.ask (r34) (.done (x2.toList==(⟨#[]⟩:BA).toList)) (.done false))) (.done false))))))
def qZ:Nat→Int→Int→BA→Option (Bool)
 |0,_,_,_=>none
 |n+1,x0,x1,x2=>(qGC n x0 x1 x2).run
abbrev qOT (n:Nat):List (Ent (Rn n)):= [en (qDm n),en (qFi n)]
theorem qEB:∀n,Ok (Rn n) qOS (qZ n)
 |0=>ok0 fun _=>rfl
 |n+1=>stO (T:=qGC n) (by kernel_rfl) (qOT n) [] (fun _=>(by kernel_rfl)) fun _=>(by kernel_rfl)
def qPe:Sg:=⟨87,[(.agg [qI,qI,qI,qI])],[],⟨aB,[],[]⟩⟩
def qHJ (n:Nat) (x0 x1 x2 x3:Int):Tr (Bool):=(.opt (q9 n x0 x1) fun r37=>(.ask (r37) (.opt (q9 n x2 x3) fun r38=>(.ask (r38) (.ask ((decide (x0≤x2))) (.done (decide (x1≤x3))) (.done false)) (.done false))) (.done false)))
def qFP:Nat→Int→Int→Int→Int→Option (Bool)
 |0,_,_,_,_=>none
 |n+1,x0,x1,x2,x3=>(qHJ n x0 x1 x2 x3).run
abbrev qPf (n:Nat):List (Ent (Rn n)):= [en (qD5 n)]
theorem qOU:∀n,Ok (Rn n) qPe (qFP n)
 |0=>ok0 fun _=>rfl
 |n+1=>stO (T:=qHJ n) (by kernel_rfl) (qPf n) [] (fun _=>(by kernel_rfl)) fun _=>(by kernel_rfl)
def qPg:Sg:=⟨88,[aI,aI],[],⟨aB,[],[]⟩⟩
def qHK (n:Nat) (x0 x1:Int):Tr (Bool):=(.ask ((x0==(1:Int))) (.ask ((decide (x1≥(1:Int)))) (.done (decide (x1≤(10:Int)))) (.done false)) (.ask ((x0==(2:Int))) (.ask ((decide (x1≥(1:Int)))) (.done (decide (x1≤(10:Int)))) (.done false)) (.ask ((x0==(3:Int))) (.ask ((decide (x1≥(1:Int)))) (.done (decide (x1≤(10:Int)))) (.done false)) (.ask ((x0==(4:Int))) (.ask ((decide (x1≥(1:Int)))) (.done (decide (x1≤(10:Int)))) (.done false)) (.ask ((x0==(6:Int))) (.ask ((decide (x1≥(1:Int)))) (.done (decide (x1≤(10:Int)))) (.done false)) (.ask ((x0==(7:Int))) (.ask ((decide (x1≥(1:Int)))) (.done (decide (x1≤(10:Int)))) (.done false)) (.ask ((x0==(5:Int))) (.ask ((x1==(2:Int))) (.done true) (.done (x1==(3:Int)))) (.ask ((x0==(8:Int))) (.done (x1==(1:Int))) (.ask ((x0==(9:Int))) (.done (x1==(1:Int))) (.ask ((x0==(10:Int))) (.done (x1==(1:Int))) (.done false)))))))))))
def qFQ:Nat→Int→Int→Option (Bool)
 |0,_,_=>none
 |n+1,x0,x1=>(qHK n x0 x1).run
theorem qOV:∀n,Ok (Rn n) qPg (qFQ n)
 |0=>ok0 fun _=>rfl
 |n+1=>stO (T:=qHK n) (by kernel_rfl) [] [] (fun _=>(by kernel_rfl)) fun _=>(by kernel_rfl)
def qNj:Sg:=⟨44,[(.agg [qI,qI,qI,qI,qS,qI,qI,qB,qB,qI,qI,qB,qB,qL])],[],⟨aB,[],[]⟩⟩
def qFj (n:Nat) (x0 x1 x2 x3:Int) (x4:BA) (x5 x6:Int) (x7 x8:Bool) (x9 x10:Int) (x11 x12:Bool) (x13:RW):Tr (Bool):=(.ask ((x0==(1:Int))) (.ask ((x1==(0:Int))) (.ask (((x5==(0:Int))&&((x6==(0:Int))&&((x7==false)&&((x8==false)&&true))))) (.ask (((x9==(0:Int))&&((x10==(0:Int))&&((x11==false)&&((x12==false)&&true))))) (.ask (((x13.length:Int)==(0:Int))) (.opt (qZ n x2 x3 x4) fun r35=>(.ask (r35) (.ask ((x2 !=(0:Int))) (.ask ((x2 !=(1:Int))) (.done true) (.done (decide (x3≥(0:Int))))) (.done false)) (.done false))) (.done false)) (.done false)) (.done false)) (.done false)) (.ask ((x0==(2:Int))) (.ask ((x1==(0:Int))) (.ask (((x2==(0:Int))&&((x3==(0:Int))&&((x4.toList==(⟨#[]⟩:BA).toList)&&true)))) (.ask (((x9==(0:Int))&&((x10==(0:Int))&&((x11==false)&&((x12==false)&&true))))) (.ask (((x13.length:Int)==(0:Int))) (.opt (q9 n x5 x6) fun r36=>(.done r36)) (.done false)) (.done false)) (.done false)) (.done false)) (.ask ((x0==(3:Int))) (.ask ((x1==(0:Int))) (.ask (((x2==(0:Int))&&((x3==(0:Int))&&((x4.toList==(⟨#[]⟩:BA).toList)&&true)))) (.ask (((x13.length:Int)==(0:Int))) (.opt (qFP n x5 x6 x9 x10) fun r39=>(.done r39)) (.done false)) (.done false)) (.done false)) (.ask ((x0==(4:Int))) (.ask ((x1==(0:Int))) (.ask (((x2==(0:Int))&&((x3==(0:Int))&&((x4.toList==(⟨#[]⟩:BA).toList)&&true)))) (.ask (((x5==(0:Int))&&((x6==(0:Int))&&((x7==false)&&((x8==false)&&true))))) (.ask (((x9==(0:Int))&&((x10==(0:Int))&&((x11==false)&&((x12==false)&&true))))) (.done ((x13.length:Int)==(1:Int))) (.done false)) (.done false)) (.done false)) (.done false)) (.ask ((x0==(5:Int))) (.opt (qAj n x1 (1:Int) (11:Int)) fun r40=>(.ask (r40) (.ask (((x2==(0:Int))&&((x3==(0:Int))&&((x4.toList==(⟨#[]⟩:BA).toList)&&true)))) (.ask (((x5==(0:Int))&&((x6==(0:Int))&&((x7==false)&&((x8==false)&&true))))) (.ask (((x9==(0:Int))&&((x10==(0:Int))&&((x11==false)&&((x12==false)&&true))))) (.done ((x13.length:Int)==(2:Int))) (.done false)) (.done false)) (.done false)) (.done false))) (.ask ((x0==(6:Int))) (.opt (qFQ n x1 (x13.length:Int)) fun r41=>(.ask (r41) (.ask (((x2==(0:Int))&&((x3==(0:Int))&&((x4.toList==(⟨#[]⟩:BA).toList)&&true)))) (.ask (((x5==(0:Int))&&((x6==(0:Int))&&((x7==false)&&((x8==false)&&true))))) (.done ((x9==(0:Int))&&((x10==(0:Int))&&((x11==false)&&((x12==false)&&true))))) (.done false)) (.done false)) (.done false))) (.done false)))))))
def qBy:Nat→Int→Int→Int→Int→BA→Int→Int→Bool→Bool→Int→Int→Bool→Bool→RW→Option (Bool)
 |0,_,_,_,_,_,_,_,_,_,_,_,_,_,_=>none
 |n+1,x0,x1,x2,x3,x4,x5,x6,x7,x8,x9,x10,x11,x12,x13=>(qFj n x0 x1 x2 x3 x4 x5 x6 x7 x8 x9 x10 x11 x12 x13).run
abbrev qNk (n:Nat):List (Ent (Rn n)):= [en (qEB n),en (qD5 n),en (qOU n),en (qDm n),en (qOV n)]
theorem qHk:∀n,Ok (Rn n) qNj (qBy n)
 |0=>ok0 fun _=>rfl
 |n+1=>stO (T:=qFj n) (by kernel_rfl) (qNk n) [] (fun _=>(by kernel_rfl)) fun _=>(by kernel_rfl)
def qNl:Sg:=⟨43,[(.c (.ptr 0 0 0 0 0)),(.agg [qI,qI,qI,qI,qS,qI,qI,qB,qB,qI,qI,qB,qB,qL])],[[(0,⟨0,4,35,(.box [qS,qI,qB,(.own 0 1 1 0)])⟩),(1,⟨1,14,52,(.row [])⟩)]],⟨aI,[[(0,⟨0,4,35,(.box [qS,qI,qB,(.own 0 1 1 0)])⟩),(1,⟨1,14,52,(.row [])⟩)]],[]⟩⟩
def qIj (n:Nat) (x0 x1 x2 x3:Int) (x4:BA) (x5 x6:Int) (x7 x8:Bool) (x9 x10:Int) (x11 x12:Bool) (x13:RW) (x14:BA) (x15:Int) (x16:Bool) (x17:Nat) (x18:RW):Tr (Int×BA×Int×Bool×Nat×RW):=(.ask (decide (1=([[(.i .i64 x0),(.i .i64 x1),(.i .i64 x2),(.i .i64 x3),(.s x4),(.i .i64 x5),(.i .i64 x6),(.b x7),(.b x8),(.i .i64 x9),(.i .i64 x10),(.b x11),(.b x12),(.ls x13)]]:RW).length)) (.ask (decide (x17=x18.length∧0<14∧0<120∧(x17+([[(.i .i64 x0),(.i .i64 x1),(.i .i64 x2),(.i .i64 x3),(.s x4),(.i .i64 x5),(.i .i64 x6),(.b x7),(.b x8),(.i .i64 x9),(.i .i64 x10),(.b x11),(.b x12),(.ls x13)]]:RW).length)*120≤140737488355328∧([[(.i .i64 x0),(.i .i64 x1),(.i .i64 x2),(.i .i64 x3),(.s x4),(.i .i64 x5),(.i .i64 x6),(.b x7),(.b x8),(.i .i64 x9),(.i .i64 x10),(.b x11),(.b x12),(.ls x13)]]:RW).all (fun e=>e.length==14)=true)) (.ask ((decide ((((x17+1):Nat):Int)>(60:Int)))) (.done ((IntKind.i64.wrap ((((x17+1):Nat):Int)-(1:Int))),x14,x15,true,(x17+1),(x18++([[(.i .i64 x0),(.i .i64 x1),(.i .i64 x2),(.i .i64 x3),(.s x4),(.i .i64 x5),(.i .i64 x6),(.b x7),(.b x8),(.i .i64 x9),(.i .i64 x10),(.b x11),(.b x12),(.ls x13)]]:RW)))) (.opt (qBy n x0 x1 x2 x3 x4 x5 x6 x7 x8 x9 x10 x11 x12 x13) fun r42=>(.ask ((!r42)) (.done ((IntKind.i64.wrap ((((x17+1):Nat):Int)-(1:Int))),x14,x15,true,(x17+1),(x18++([[(.i .i64 x0),(.i .i64 x1),(.i .i64 x2),(.i .i64 x3),(.s x4),(.i .i64 x5),(.i .i64 x6),(.b x7),(.b x8),(.i .i64 x9),(.i .i64 x10),(.b x11),(.b x12),(.ls x13)]]:RW)))) (.done ((IntKind.i64.wrap ((((x17+1):Nat):Int)-(1:Int))),x14,x15,x16,(x17+1),(x18++([[(.i .i64 x0),(.i .i64 x1),(.i .i64 x2),(.i .i64 x3),(.s x4),(.i .i64 x5),(.i .i64 x6),(.b x7),(.b x8),(.i .i64 x9),(.i .i64 x10),(.b x11),(.b x12),(.ls x13)]]:RW))))))) .fail) .fail)
def qr:Nat→Int→Int→Int→Int→BA→Int→Int→Bool→Bool→Int→Int→Bool→Bool→RW→BA→Int→Bool→Nat→RW→Option (Int×BA×Int×Bool×Nat×RW)
 |0,_,_,_,_,_,_,_,_,_,_,_,_,_,_,_,_,_,_,_=>none
 |n+1,x0,x1,x2,x3,x4,x5,x6,x7,x8,x9,x10,x11,x12,x13,x14,x15,x16,x17,x18=>(qIj n x0 x1 x2 x3 x4 x5 x6 x7 x8 x9 x10 x11 x12 x13 x14 x15 x16 x17 x18).run
abbrev qNm (n:Nat):List (Ent (Rn n)):= [en (qHk n)]
theorem qCx:∀n,Ok (Rn n) qNl (qr n)
 |0=>ok0 fun _=>rfl
 |n+1=>stO (T:=qIj n) (by kernel_rfl) (qNm n) [] (fun _=>(by kernel_rfl)) fun _=>(by kernel_rfl)
def qMa:Sg:=⟨77,[(.c (.ptr 0 0 0 0 0))],[[(0,⟨0,4,35,(.box [qS,qI,qB,(.own 0 1 1 0)])⟩),(1,⟨1,14,52,(.row [])⟩)]],⟨aI,[[(0,⟨0,4,35,(.box [qS,qI,qB,(.own 0 1 1 0)])⟩),(1,⟨1,14,52,(.row [])⟩)]],[]⟩⟩
def qDx (n:Nat) (v:BA×BA×Int×Bool×Nat×RW):Tr ((BA×BA×Int×Bool×Nat×RW)⊕((Int×BA×Int×Bool×Nat×RW)⊕(BA×Int×Bool×Nat×RW))):=(.ask ((decide (v.2.2.1<(v.2.1.size:Int)))) (.ask (decide (0≤v.2.2.1)) (.opt (v.2.1.toList[(v.2.2.1).toNat]?) fun c48=>(.ask (((c48.toNat:Int) !=(34:Int))) (.ask (decide (0≤v.2.2.1∧v.2.2.1≤(IntKind.i64.wrap (v.2.2.1+(1:Int)))∧(IntKind.i64.wrap (v.2.2.1+(1:Int)))≤v.2.1.size)) (.ask (decide (v.1.size+(v.2.1.extract (v.2.2.1).toNat ((IntKind.i64.wrap (v.2.2.1+(1:Int)))).toNat).size≤9223372036854775807)) (.done (.inl ((v.1++(v.2.1.extract (v.2.2.1).toNat ((IntKind.i64.wrap (v.2.2.1+(1:Int)))).toNat)),v.2.1,(IntKind.i64.wrap (v.2.2.1+(1:Int))),v.2.2.2.1,v.2.2.2.2.1,v.2.2.2.2.2))) .fail) .fail) (.ask ((decide ((IntKind.i64.wrap (v.2.2.1+(1:Int)))≥(v.2.1.size:Int)))) (.opt (qr n (1:Int) (0:Int) (2:Int) (0:Int) v.1 (0:Int) (0:Int) false false (0:Int) (0:Int) false false ([]:RW) v.2.1 (IntKind.i64.wrap (v.2.2.1+(1:Int))) v.2.2.2.1 v.2.2.2.2.1 v.2.2.2.2.2) fun r49=>(.done (.inr (.inl ((r49.1,r49.2.1,r49.2.2.1,r49.2.2.2.1,r49.2.2.2.2.1,r49.2.2.2.2.2)))))) (.ask (decide (0≤(IntKind.i64.wrap (v.2.2.1+(1:Int))))) (.opt (v.2.1.toList[((IntKind.i64.wrap (v.2.2.1+(1:Int)))).toNat]?) fun c50=>(.ask (((c50.toNat:Int) !=(34:Int))) (.opt (qr n (1:Int) (0:Int) (2:Int) (0:Int) v.1 (0:Int) (0:Int) false false (0:Int) (0:Int) false false ([]:RW) v.2.1 (IntKind.i64.wrap (v.2.2.1+(1:Int))) v.2.2.2.1 v.2.2.2.2.1 v.2.2.2.2.2) fun r51=>(.done (.inr (.inl ((r51.1,r51.2.1,r51.2.2.1,r51.2.2.2.1,r51.2.2.2.2.1,r51.2.2.2.2.2)))))) (.ask (decide (v.1.size+(⟨#[34]⟩:BA).size≤9223372036854775807)) (.done (.inl ((v.1++(⟨#[34]⟩:BA)),v.2.1,(IntKind.i64.wrap ((IntKind.i64.wrap (v.2.2.1+(1:Int)))+(1:Int))),v.2.2.2.1,v.2.2.2.2.1,v.2.2.2.2.2))) .fail))) .fail)))) .fail) (.done (.inr (.inr ((v.2.1,v.2.2.1,v.2.2.2.1,v.2.2.2.2.1,v.2.2.2.2.2))))))
def qHl (n:Nat) (x0:BA) (x1:Int) (x2:Bool) (x3:Nat) (x4:RW):Tr (Int×BA×Int×Bool×Nat×RW):=(.opt (zF (qDx n) n ((⟨#[]⟩:BA),x0,x1,x2,x3,x4)) fun r52=>(.alt r52 (fun r53=>(.done (r53.1,r53.2.1,r53.2.2.1,r53.2.2.2.1,r53.2.2.2.2.1,r53.2.2.2.2.2))) (fun r54=>(.done ((0:Int),r54.1,r54.2.1,true,r54.2.2.2.1,r54.2.2.2.2)))))
def qE4:Nat→BA→Int→Bool→Nat→RW→Option (Int×BA×Int×Bool×Nat×RW)
 |0,_,_,_,_,_=>none
 |n+1,x0,x1,x2,x3,x4=>(qHl n x0 x1 x2 x3 x4).run
abbrev qHm (n:Nat):List (Ent (Rn n)):= [en (qCx n)]
def qKJ (n:Nat):LEnt (KB 77) (Rn n) n:=lok (zb 77) 14 ⟨⟨[(0,(.c (.ptr 0 0 0 0 0))),(3,aS)],[],[[(0,⟨0,4,35,(.box [qS,qI,qB,(.own 0 1 1 0)])⟩),(1,⟨1,14,52,(.row [])⟩)]]⟩,[(.ret,⟨[(2,aI)],[],[[(0,⟨0,4,35,(.box [qS,qI,qB,(.own 0 1 1 0)])⟩),(1,⟨1,14,52,(.row [])⟩)]]⟩),(.exit 0,⟨[(0,(.c (.ptr 0 0 0 0 0)))],[],[[(0,⟨0,4,35,(.box [qS,qI,qB,(.own 0 1 1 0)])⟩),(1,⟨1,14,52,(.row [])⟩)]]⟩)]⟩ (qDx n) (qHm n) [] fun _=>(by kernel_rfl)
theorem qLe:∀n,Ok (Rn n) qMa (qE4 n)
 |0=>ok0 fun _=>rfl
 |n+1=>stO (T:=qHl n) (by kernel_rfl) (qHm n) [qKJ n] (fun _=>(by kernel_rfl)) fun _=>(by kernel_rfl)
def qPh:Sg:=⟨78,[aI],[],⟨aS,[],[]⟩⟩
def qHL (n:Nat) (x0:Int):Tr (BA):=(.ask (decide (6=([[(.s (⟨#[]⟩:BA))],[(.s (⟨#[35,68,73,86,33]⟩:BA))],[(.s (⟨#[35,84,89,80,69,33]⟩:BA))],[(.s (⟨#[35,82,69,70,33]⟩:BA))],[(.s (⟨#[35,79,86,69,82,33]⟩:BA))],[(.s (⟨#[35,67,89,67,76,69,33]⟩:BA))]]:RW).length∧0≤x0∧x0<((6:Nat):Int))) (.opt (([[(.s (⟨#[]⟩:BA))],[(.s (⟨#[35,68,73,86,33]⟩:BA))],[(.s (⟨#[35,84,89,80,69,33]⟩:BA))],[(.s (⟨#[35,82,69,70,33]⟩:BA))],[(.s (⟨#[35,79,86,69,82,33]⟩:BA))],[(.s (⟨#[35,67,89,67,76,69,33]⟩:BA))]]:RW)[(x0).toNat]?) fun e57=>(.opt (zAG e57 0) fun y58=>(.done y58))) .fail)
def qBN:Nat→Int→Option (BA)
 |0,_=>none
 |n+1,x0=>(qHL n x0).run
theorem qGD:∀n,Ok (Rn n) qPh (qBN n)
 |0=>ok0 fun _=>rfl
 |n+1=>stO (T:=qHL n) (by kernel_rfl) [] [] (fun _=>(by kernel_rfl)) fun _=>(by kernel_rfl)
def qOW:Sg:=⟨79,[aI],[],⟨(.agg [qI,qI,qS]),[],[]⟩⟩
def qGE (n:Nat) (x0:Int):Tr (Int×Int×BA):=(.done ((4:Int),x0,(⟨#[]⟩:BA)))
def qCy:Nat→Int→Option (Int×Int×BA)
 |0,_=>none
 |n+1,x0=>(qGE n x0).run
theorem qNn:∀n,Ok (Rn n) qOW (qCy n)
 |0=>ok0 fun _=>rfl
 |n+1=>stO (T:=qGE n) (by kernel_rfl) [] [] (fun _=>(by kernel_rfl)) fun _=>(by kernel_rfl)
def qMb:Sg:=⟨80,[(.c (.ptr 0 0 0 0 0))],[[(0,⟨0,4,35,(.box [qS,qI,qB,(.own 0 1 1 0)])⟩),(1,⟨1,14,52,(.row [])⟩)]],⟨aS,[[(0,⟨0,4,35,(.box [qS,qI,qB,(.own 0 1 1 0)])⟩),(1,⟨1,14,52,(.row [])⟩)]],[]⟩⟩
def qBz (n:Nat) (v:Int×BA×Int×Bool×Nat×RW):Tr ((Int×BA×Int×Bool×Nat×RW)⊕((Int×BA×Int×Bool×Nat×RW))):=(.ask ((decide (v.2.2.1<(v.2.1.size:Int)))) (.ask (decide (0≤v.2.2.1)) (.opt (v.2.1.toList[(v.2.2.1).toNat]?) fun c63=>(.ask ((decide ((c63.toNat:Int)≥(65:Int)))) (.ask (decide (0≤v.2.2.1)) (.opt (v.2.1.toList[(v.2.2.1).toNat]?) fun c64=>(.ask ((decide ((c64.toNat:Int)≤(90:Int)))) (.done (.inl (v.1,v.2.1,(IntKind.i64.wrap (v.2.2.1+(1:Int))),v.2.2.2.1,v.2.2.2.2.1,v.2.2.2.2.2))) (.ask (decide (0≤v.2.2.1)) (.opt (v.2.1.toList[(v.2.2.1).toNat]?) fun c65=>(.ask ((decide ((c65.toNat:Int)≥(48:Int)))) (.ask (decide (0≤v.2.2.1)) (.opt (v.2.1.toList[(v.2.2.1).toNat]?) fun c66=>(.ask ((decide ((c66.toNat:Int)≤(57:Int)))) (.done (.inl (v.1,v.2.1,(IntKind.i64.wrap (v.2.2.1+(1:Int))),v.2.2.2.1,v.2.2.2.2.1,v.2.2.2.2.2))) (.ask (decide (0≤v.2.2.1)) (.opt (v.2.1.toList[(v.2.2.1).toNat]?) fun c67=>(.ask (((c67.toNat:Int)==(36:Int))) (.done (.inl (v.1,v.2.1,(IntKind.i64.wrap (v.2.2.1+(1:Int))),v.2.2.2.1,v.2.2.2.2.1,v.2.2.2.2.2))) (.done (.inr ((v.1,v.2.1,v.2.2.1,v.2.2.2.1,v.2.2.2.2.1,v.2.2.2.2.2)))))) .fail))) .fail) (.ask (decide (0≤v.2.2.1)) (.opt (v.2.1.toList[(v.2.2.1).toNat]?) fun c68=>(.ask (((c68.toNat:Int)==(36:Int))) (.done (.inl (v.1,v.2.1,(IntKind.i64.wrap (v.2.2.1+(1:Int))),v.2.2.2.1,v.2.2.2.2.1,v.2.2.2.2.2))) (.done (.inr ((v.1,v.2.1,v.2.2.1,v.2.2.2.1,v.2.2.2.2.1,v.2.2.2.2.2)))))) .fail))) .fail))) .fail) (.ask (decide (0≤v.2.2.1)) (.opt (v.2.1.toList[(v.2.2.1).toNat]?) fun c69=>(.ask ((decide ((c69.toNat:Int)≥(48:Int)))) (.ask (decide (0≤v.2.2.1)) (.opt (v.2.1.toList[(v.2.2.1).toNat]?) fun c70=>(.ask ((decide ((c70.toNat:Int)≤(57:Int)))) (.done (.inl (v.1,v.2.1,(IntKind.i64.wrap (v.2.2.1+(1:Int))),v.2.2.2.1,v.2.2.2.2.1,v.2.2.2.2.2))) (.ask (decide (0≤v.2.2.1)) (.opt (v.2.1.toList[(v.2.2.1).toNat]?) fun c71=>(.ask (((c71.toNat:Int)==(36:Int))) (.done (.inl (v.1,v.2.1,(IntKind.i64.wrap (v.2.2.1+(1:Int))),v.2.2.2.1,v.2.2.2.2.1,v.2.2.2.2.2))) (.done (.inr ((v.1,v.2.1,v.2.2.1,v.2.2.2.1,v.2.2.2.2.1,v.2.2.2.2.2)))))) .fail))) .fail) (.ask (decide (0≤v.2.2.1)) (.opt (v.2.1.toList[(v.2.2.1).toNat]?) fun c72=>(.ask (((c72.toNat:Int)==(36:Int))) (.done (.inl (v.1,v.2.1,(IntKind.i64.wrap (v.2.2.1+(1:Int))),v.2.2.2.1,v.2.2.2.2.1,v.2.2.2.2.2))) (.done (.inr ((v.1,v.2.1,v.2.2.1,v.2.2.2.1,v.2.2.2.2.1,v.2.2.2.2.2)))))) .fail))) .fail))) .fail) (.done (.inr ((v.1,v.2.1,v.2.2.1,v.2.2.2.1,v.2.2.2.2.1,v.2.2.2.2.2)))))
def qHn (n:Nat) (x0:BA) (x1:Int) (x2:Bool) (x3:Nat) (x4:RW):Tr (BA×BA×Int×Bool×Nat×RW):=(.opt (zF (qBz n) n (x1,x0,x1,x2,x3,x4)) fun r73=>(.ask (decide (0≤r73.1∧r73.1≤r73.2.2.1∧r73.2.2.1≤r73.2.1.size)) (.done ((r73.2.1.extract (r73.1).toNat (r73.2.2.1).toNat),r73.2.1,r73.2.2.1,r73.2.2.2.1,r73.2.2.2.2.1,r73.2.2.2.2.2)) .fail))
def qCz:Nat→BA→Int→Bool→Nat→RW→Option (BA×BA×Int×Bool×Nat×RW)
 |0,_,_,_,_,_=>none
 |n+1,x0,x1,x2,x3,x4=>(qHn n x0 x1 x2 x3 x4).run
def qKK (n:Nat):LEnt (KB 80) (Rn n) n:=lok (zb 80) 14 ⟨⟨[(0,(.c (.ptr 0 0 0 0 0))),(3,aI)],[],[[(0,⟨0,4,35,(.box [qS,qI,qB,(.own 0 1 1 0)])⟩),(1,⟨1,14,52,(.row [])⟩)]]⟩,[(.exit 0,⟨[(0,(.c (.ptr 0 0 0 0 0))),(3,aI)],[],[[(0,⟨0,4,35,(.box [qS,qI,qB,(.own 0 1 1 0)])⟩),(1,⟨1,14,52,(.row [])⟩)]]⟩)]⟩ (qBz n) [] [] fun _=>(by kernel_rfl)
theorem qGy:∀n,Ok (Rn n) qMb (qCz n)
 |0=>ok0 fun _=>rfl
 |n+1=>stO (T:=qHn n) (by kernel_rfl) [] [qKK n] (fun _=>(by kernel_rfl)) fun _=>(by kernel_rfl)
def qQ3:Sg:=⟨81,[aI],[],⟨aS,[],[]⟩⟩
def qJQ (n:Nat) (x0:Int):Tr (BA):=(.ask (decide (11=([[(.s (⟨#[]⟩:BA))],[(.s (⟨#[83,85,77]⟩:BA))],[(.s (⟨#[77,73,78]⟩:BA))],[(.s (⟨#[77,65,88]⟩:BA))],[(.s (⟨#[67,79,85,78,84]⟩:BA))],[(.s (⟨#[73,70]⟩:BA))],[(.s (⟨#[65,78,68]⟩:BA))],[(.s (⟨#[79,82]⟩:BA))],[(.s (⟨#[78,79,84]⟩:BA))],[(.s (⟨#[65,66,83]⟩:BA))],[(.s (⟨#[76,69,78]⟩:BA))]]:RW).length∧0≤x0∧x0<((11:Nat):Int))) (.opt (([[(.s (⟨#[]⟩:BA))],[(.s (⟨#[83,85,77]⟩:BA))],[(.s (⟨#[77,73,78]⟩:BA))],[(.s (⟨#[77,65,88]⟩:BA))],[(.s (⟨#[67,79,85,78,84]⟩:BA))],[(.s (⟨#[73,70]⟩:BA))],[(.s (⟨#[65,78,68]⟩:BA))],[(.s (⟨#[79,82]⟩:BA))],[(.s (⟨#[78,79,84]⟩:BA))],[(.s (⟨#[65,66,83]⟩:BA))],[(.s (⟨#[76,69,78]⟩:BA))]]:RW)[(x0).toNat]?) fun e75=>(.opt (zAG e75 0) fun y76=>(.done y76))) .fail)
def qCV:Nat→Int→Option (BA)
 |0,_=>none
 |n+1,x0=>(qJQ n x0).run
theorem qLf:∀n,Ok (Rn n) qQ3 (qCV n)
 |0=>ok0 fun _=>rfl
 |n+1=>stO (T:=qJQ n) (by kernel_rfl) [] [] (fun _=>(by kernel_rfl)) fun _=>(by kernel_rfl)
def qMc:Sg:=⟨83,[aS],[],⟨(.tup [(true,[qI,qI,qS]),(false,[qB])]),[],[]⟩⟩
def qBR (n:Nat) (v:BA×Int×Int×Int×BA×Int×Int×BA):Tr ((BA×Int×Int×Int×BA×Int×Int×BA)⊕((Int×Int×BA×Int×Int×BA))):=(.ask ((decide (v.2.1≤(5:Int)))) (.opt (qBN n v.2.1) fun r88=>(.ask ((r88.toList==v.1.toList)) (.done (.inl (v.1,(IntKind.i64.wrap (v.2.1+(1:Int))),v.2.2.1,v.2.2.2.1,v.2.2.2.2.1,v.2.2.2.2.2.1,v.2.1,v.2.2.2.2.2.2.2))) (.done (.inl (v.1,(IntKind.i64.wrap (v.2.1+(1:Int))),v.2.2.1,v.2.2.2.1,v.2.2.2.2.1,v.2.2.2.2.2.1,v.2.2.2.2.2.2.1,v.2.2.2.2.2.2.2))))) (.done (.inr ((v.2.2.1,v.2.2.2.1,v.2.2.2.2.1,v.2.2.2.2.2.1,v.2.2.2.2.2.2.1,v.2.2.2.2.2.2.2)))))
def qA5 (n:Nat) (x0:BA):Tr (Int×Int×BA×Bool):=(.ask ((x0.toList==(⟨#[]⟩:BA).toList)) (.done ((0:Int),(0:Int),(⟨#[]⟩:BA),true)) (.ask (decide (0≤(0:Int))) (.opt (x0.toList[((0:Int)).toNat]?) fun c81=>(.ask (((c81.toNat:Int)==(39:Int))) (.ask (decide (0≤(1:Int)∧(1:Int)≤(x0.size:Int)∧(x0.size:Int)≤x0.size)) (.opt (qZ n (2:Int) (0:Int) (x0.extract ((1:Int)).toNat ((x0.size:Int)).toNat)) fun r82=>(.ask ((!r82)) (.done ((0:Int),(0:Int),(⟨#[]⟩:BA),false)) (.done ((2:Int),(0:Int),(x0.extract ((1:Int)).toNat ((x0.size:Int)).toNat),true)))) .fail) (.ask ((x0.toList==(⟨#[84,82,85,69]⟩:BA).toList)) (.ask ((x0.toList==(⟨#[84,82,85,69]⟩:BA).toList)) (.opt (qZ n (3:Int) (1:Int) (⟨#[]⟩:BA)) fun r83=>(.ask ((!r83)) (.done ((0:Int),(0:Int),(⟨#[]⟩:BA),false)) (.done ((3:Int),(1:Int),(⟨#[]⟩:BA),true)))) (.opt (qZ n (3:Int) (0:Int) (⟨#[]⟩:BA)) fun r84=>(.ask ((!r84)) (.done ((0:Int),(0:Int),(⟨#[]⟩:BA),false)) (.done ((3:Int),(0:Int),(⟨#[]⟩:BA),true))))) (.ask ((x0.toList==(⟨#[70,65,76,83,69]⟩:BA).toList)) (.ask ((x0.toList==(⟨#[84,82,85,69]⟩:BA).toList)) (.opt (qZ n (3:Int) (1:Int) (⟨#[]⟩:BA)) fun r85=>(.ask ((!r85)) (.done ((0:Int),(0:Int),(⟨#[]⟩:BA),false)) (.done ((3:Int),(1:Int),(⟨#[]⟩:BA),true)))) (.opt (qZ n (3:Int) (0:Int) (⟨#[]⟩:BA)) fun r86=>(.ask ((!r86)) (.done ((0:Int),(0:Int),(⟨#[]⟩:BA),false)) (.done ((3:Int),(0:Int),(⟨#[]⟩:BA),true))))) (.ask (decide (0≤(0:Int))) (.opt (x0.toList[((0:Int)).toNat]?) fun c87=>(.ask (((c87.toNat:Int)==(35:Int))) (.opt (zF (qBR n) n (x0,(1:Int),(0:Int),(0:Int),(⟨#[]⟩:BA),(4:Int),(0:Int),(⟨#[]⟩:BA))) fun r89=>(.opt (qZ n r89.2.2.2.1 r89.2.2.2.2.1 r89.2.2.2.2.2) fun r90=>(.ask ((!r90)) (.done ((0:Int),(0:Int),(⟨#[]⟩:BA),false)) (.done (r89.2.2.2.1,r89.2.2.2.2.1,r89.2.2.2.2.2,true))))) (.ask (decide (0≤(0:Int))) (.opt (x0.toList[((0:Int)).toNat]?) fun c91=>(.ask (((c91.toNat:Int)==(45:Int))) (.ask (decide (0≤(1:Int)∧(1:Int)≤(x0.size:Int)∧(x0.size:Int)≤x0.size)) (.opt (qm n (x0.extract ((1:Int)).toNat ((x0.size:Int)).toNat) (16:Int)) fun r92=>(.ask ((!r92.2)) (.done ((0:Int),(0:Int),(⟨#[]⟩:BA),false)) (.ask (((c91.toNat:Int)==(45:Int))) (.ask ((r92.1==(0:Int))) (.done ((0:Int),(0:Int),(⟨#[]⟩:BA),false)) (.ask (((c91.toNat:Int)==(45:Int))) (.opt (qZ n (1:Int) (IntKind.i64.wrap (0-r92.1)) (⟨#[]⟩:BA)) fun r93=>(.ask ((!r93)) (.done ((0:Int),(0:Int),(⟨#[]⟩:BA),false)) (.done ((1:Int),(IntKind.i64.wrap (0-r92.1)),(⟨#[]⟩:BA),true)))) (.opt (qZ n (1:Int) r92.1 (⟨#[]⟩:BA)) fun r94=>(.ask ((!r94)) (.done ((0:Int),(0:Int),(⟨#[]⟩:BA),false)) (.done ((1:Int),r92.1,(⟨#[]⟩:BA),true)))))) (.ask (((c91.toNat:Int)==(45:Int))) (.opt (qZ n (1:Int) (IntKind.i64.wrap (0-r92.1)) (⟨#[]⟩:BA)) fun r95=>(.ask ((!r95)) (.done ((0:Int),(0:Int),(⟨#[]⟩:BA),false)) (.done ((1:Int),(IntKind.i64.wrap (0-r92.1)),(⟨#[]⟩:BA),true)))) (.opt (qZ n (1:Int) r92.1 (⟨#[]⟩:BA)) fun r96=>(.ask ((!r96)) (.done ((0:Int),(0:Int),(⟨#[]⟩:BA),false)) (.done ((1:Int),r92.1,(⟨#[]⟩:BA),true)))))))) .fail) (.opt (qm n x0 (16:Int)) fun r97=>(.ask ((!r97.2)) (.done ((0:Int),(0:Int),(⟨#[]⟩:BA),false)) (.ask (((c91.toNat:Int)==(45:Int))) (.ask ((r97.1==(0:Int))) (.done ((0:Int),(0:Int),(⟨#[]⟩:BA),false)) (.ask (((c91.toNat:Int)==(45:Int))) (.opt (qZ n (1:Int) (IntKind.i64.wrap (0-r97.1)) (⟨#[]⟩:BA)) fun r98=>(.ask ((!r98)) (.done ((0:Int),(0:Int),(⟨#[]⟩:BA),false)) (.done ((1:Int),(IntKind.i64.wrap (0-r97.1)),(⟨#[]⟩:BA),true)))) (.opt (qZ n (1:Int) r97.1 (⟨#[]⟩:BA)) fun r99=>(.ask ((!r99)) (.done ((0:Int),(0:Int),(⟨#[]⟩:BA),false)) (.done ((1:Int),r97.1,(⟨#[]⟩:BA),true)))))) (.ask (((c91.toNat:Int)==(45:Int))) (.opt (qZ n (1:Int) (IntKind.i64.wrap (0-r97.1)) (⟨#[]⟩:BA)) fun r100=>(.ask ((!r100)) (.done ((0:Int),(0:Int),(⟨#[]⟩:BA),false)) (.done ((1:Int),(IntKind.i64.wrap (0-r97.1)),(⟨#[]⟩:BA),true)))) (.opt (qZ n (1:Int) r97.1 (⟨#[]⟩:BA)) fun r101=>(.ask ((!r101)) (.done ((0:Int),(0:Int),(⟨#[]⟩:BA),false)) (.done ((1:Int),r97.1,(⟨#[]⟩:BA),true)))))))))) .fail))) .fail))))) .fail))
def qAH:Nat→BA→Option (Int×Int×BA×Bool)
 |0,_=>none
 |n+1,x0=>(qA5 n x0).run
abbrev qHo (n:Nat):List (Ent (Rn n)):= [en (qEB n),en (qGD n),en (qFO n)]
def qII (n:Nat):LEnt (KB 83) (Rn n) n:=lok (zb 83) 15355 ⟨⟨[(0,aS),(2,(.c (.ptr 0 128 0 0 0))),(4,(.c (.ptr 0 256 0 0 0))),(5,aI)],[(128,⟨0,3,45,(.box [qI,qI,qS])⟩),(256,⟨0,3,45,(.box [qI,qI,qS])⟩)],[]⟩,[(.exit 1,⟨[(2,(.c (.ptr 0 128 0 0 0))),(4,(.c (.ptr 0 256 0 0 0)))],[(128,⟨0,3,45,(.box [qI,qI,qS])⟩),(256,⟨0,3,45,(.box [qI,qI,qS])⟩)],[]⟩)]⟩ (qBR n) (qHo n) [] fun _=>(by kernel_rfl)
theorem qGz:∀n,Ok (Rn n) qMc (qAH n)
 |0=>ok0 fun _=>rfl
 |n+1=>stO (T:=qA5 n) (by kernel_rfl) (qHo n) [qII n] (fun _=>(by kernel_rfl)) fun _=>(by kernel_rfl)
def qOX:Sg:=⟨84,[aI],[],⟨aI,[],[]⟩⟩
def qGF (n:Nat) (x0:Int):Tr (Int):=(.ask ((decide (x0≥(6:Int)))) (.done (1:Int)) (.ask ((x0==(5:Int))) (.done (2:Int)) (.ask ((decide (x0≥(3:Int)))) (.done (4:Int)) (.done (3:Int)))))
def qCH:Nat→Int→Option (Int)
 |0,_=>none
 |n+1,x0=>(qGF n x0).run
theorem qIk:∀n,Ok (Rn n) qOX (qCH n)
 |0=>ok0 fun _=>rfl
 |n+1=>stO (T:=qGF n) (by kernel_rfl) [] [] (fun _=>(by kernel_rfl)) fun _=>(by kernel_rfl)
def qPi:Sg:=⟨85,[aI],[],⟨aS,[],[]⟩⟩
def qHM (n:Nat) (x0:Int):Tr (BA):=(.ask (decide (12=([[(.s (⟨#[]⟩:BA))],[(.s (⟨#[43]⟩:BA))],[(.s (⟨#[45]⟩:BA))],[(.s (⟨#[42]⟩:BA))],[(.s (⟨#[47]⟩:BA))],[(.s (⟨#[38]⟩:BA))],[(.s (⟨#[61]⟩:BA))],[(.s (⟨#[60,62]⟩:BA))],[(.s (⟨#[60]⟩:BA))],[(.s (⟨#[60,61]⟩:BA))],[(.s (⟨#[62]⟩:BA))],[(.s (⟨#[62,61]⟩:BA))]]:RW).length∧0≤x0∧x0<((12:Nat):Int))) (.opt (([[(.s (⟨#[]⟩:BA))],[(.s (⟨#[43]⟩:BA))],[(.s (⟨#[45]⟩:BA))],[(.s (⟨#[42]⟩:BA))],[(.s (⟨#[47]⟩:BA))],[(.s (⟨#[38]⟩:BA))],[(.s (⟨#[61]⟩:BA))],[(.s (⟨#[60,62]⟩:BA))],[(.s (⟨#[60]⟩:BA))],[(.s (⟨#[60,61]⟩:BA))],[(.s (⟨#[62]⟩:BA))],[(.s (⟨#[62,61]⟩:BA))]]:RW)[(x0).toNat]?) fun e115=>(.opt (zAG e115 0) fun y116=>(.done y116))) .fail)
def qCj:Nat→Int→Option (BA)
 |0,_=>none
 |n+1,x0=>(qHM n x0).run
theorem qJR:∀n,Ok (Rn n) qPi (qCj n)
 |0=>ok0 fun _=>rfl
 |n+1=>stO (T:=qHM n) (by kernel_rfl) [] [] (fun _=>(by kernel_rfl)) fun _=>(by kernel_rfl)
def qOY:Sg:=⟨42,[(.c (.ptr 0 0 0 0 0)),aI],[[(0,⟨0,4,35,(.box [qS,qI,qB,(.own 0 1 1 0)])⟩),(1,⟨1,14,52,(.row [])⟩)]],⟨aI,[[(0,⟨0,4,35,(.box [qS,qI,qB,(.own 0 1 1 0)])⟩),(1,⟨1,14,52,(.row [])⟩)]],[]⟩⟩
def qEd (n:Nat) (v:Int×Nat×Int×RW×BA×Int×Bool×Nat×RW):Tr ((Int×Nat×Int×RW×BA×Int×Bool×Nat×RW)⊕((Int×BA×Int×Bool×Nat×RW)⊕(BA×Int×Bool×Nat×RW))):=(.ask ((decide (v.2.2.1<((v.2.1:Nat):Int)))) (.ask (decide (v.2.1=v.2.2.2.1.length∧0≤v.2.2.1∧v.2.2.1<((v.2.1:Nat):Int))) (.opt (v.2.2.2.1[(v.2.2.1).toNat]?) fun e110=>(.opt (zI .i64 e110 0) fun y111=>(.opt (qCH n y111) fun r112=>(.ask ((r112==v.1)) (.ask (decide (v.2.1=v.2.2.2.1.length∧0≤v.2.2.1∧v.2.2.1<((v.2.1:Nat):Int))) (.opt (v.2.2.2.1[(v.2.2.1).toNat]?) fun e113=>(.opt (zI .i64 e113 0) fun y114=>(.opt (qCj n y114) fun r115=>(.opt (qAE n r115 v.2.2.2.2.1 v.2.2.2.2.2.1 v.2.2.2.2.2.2.1 v.2.2.2.2.2.2.2.1 v.2.2.2.2.2.2.2.2) fun r116=>(.ask (r116.1) (.ask (decide (v.2.1=v.2.2.2.1.length∧0≤v.2.2.1∧v.2.2.1<((v.2.1:Nat):Int))) (.opt (v.2.2.2.1[(v.2.2.1).toNat]?) fun e117=>(.opt (zI .i64 e117 0) fun y118=>(.done (.inr (.inl ((y118,r116.2.1,r116.2.2.1,r116.2.2.2.1,r116.2.2.2.2.1,r116.2.2.2.2.2))))))) .fail) (.done (.inl (v.1,v.2.1,(IntKind.i64.wrap (v.2.2.1+(1:Int))),v.2.2.2.1,r116.2.1,r116.2.2.1,r116.2.2.2.1,r116.2.2.2.2.1,r116.2.2.2.2.2)))))))) .fail) (.done (.inl (v.1,v.2.1,(IntKind.i64.wrap (v.2.2.1+(1:Int))),v.2.2.2.1,v.2.2.2.2.1,v.2.2.2.2.2.1,v.2.2.2.2.2.2.1,v.2.2.2.2.2.2.2.1,v.2.2.2.2.2.2.2.2))))))) .fail) (.done (.inr (.inr ((v.2.2.2.2.1,v.2.2.2.2.2.1,v.2.2.2.2.2.2.1,v.2.2.2.2.2.2.2.1,v.2.2.2.2.2.2.2.2))))))
def qJS (n:Nat) (x0:Int) (x1:BA) (x2:Int) (x3:Bool) (x4:Nat) (x5:RW):Tr (Int×BA×Int×Bool×Nat×RW):=(.opt (zF (qEd n) n (x0,(11:Nat),(0:Int),([[(.i .i64 (7:Int))],[(.i .i64 (9:Int))],[(.i .i64 (11:Int))],[(.i .i64 (6:Int))],[(.i .i64 (8:Int))],[(.i .i64 (10:Int))],[(.i .i64 (1:Int))],[(.i .i64 (2:Int))],[(.i .i64 (3:Int))],[(.i .i64 (4:Int))],[(.i .i64 (5:Int))]]:RW),x1,x2,x3,x4,x5)) fun r119=>(.alt r119 (fun r120=>(.done (r120.1,r120.2.1,r120.2.2.1,r120.2.2.2.1,r120.2.2.2.2.1,r120.2.2.2.2.2))) (fun r121=>(.done ((0:Int),r121.1,r121.2.1,r121.2.2.1,r121.2.2.2.1,r121.2.2.2.2)))))
def qEe:Nat→Int→BA→Int→Bool→Nat→RW→Option (Int×BA×Int×Bool×Nat×RW)
 |0,_,_,_,_,_,_=>none
 |n+1,x0,x1,x2,x3,x4,x5=>(qJS n x0 x1 x2 x3 x4 x5).run
abbrev qJT (n:Nat):List (Ent (Rn n)):= [en (qIk n),en (qJR n),en (qEA n)]
def qLg (n:Nat):LEnt (KB 42) (Rn n) n:=lok (zb 42) 29 ⟨⟨[(0,(.c (.ptr 0 0 0 0 0))),(1,aI),(5,(.c (.own 1 448 0 0))),(6,aI)],[(448,⟨0,1,2,(.row [])⟩)],[[(0,⟨0,4,35,(.box [qS,qI,qB,(.own 0 1 1 0)])⟩),(1,⟨1,14,52,(.row [])⟩)]]⟩,[(.ret,⟨[(4,aI)],[],[[(0,⟨0,4,35,(.box [qS,qI,qB,(.own 0 1 1 0)])⟩),(1,⟨1,14,52,(.row [])⟩)]]⟩),(.exit 0,⟨[],[],[[(0,⟨0,4,35,(.box [qS,qI,qB,(.own 0 1 1 0)])⟩),(1,⟨1,14,52,(.row [])⟩)]]⟩)]⟩ (qEd n) (qJT n) [] fun _=>(by kernel_rfl)
theorem qNo:∀n,Ok (Rn n) qOY (qEe n)
 |0=>ok0 fun _=>rfl
 |n+1=>stO (T:=qJS n) (by kernel_rfl) (qJT n) [qLg n] (fun _=>(by kernel_rfl)) fun _=>(by kernel_rfl)
def qIl:Sg:=⟨16,[(.c (.ptr 0 0 0 0 0)),aI],[[(0,⟨0,4,35,(.box [qS,qI,qB,(.own 0 1 1 0)])⟩),(1,⟨1,14,52,(.row [])⟩)]],⟨aI,[[(0,⟨0,4,35,(.box [qS,qI,qB,(.own 0 1 1 0)])⟩),(1,⟨1,14,52,(.row [])⟩)]],[]⟩⟩
def qNp:Sg:=⟨41,[(.c (.ptr 0 0 0 0 0))],[[(0,⟨0,4,35,(.box [qS,qI,qB,(.own 0 1 1 0)])⟩),(1,⟨1,14,52,(.row [])⟩)]],⟨aI,[[(0,⟨0,4,35,(.box [qS,qI,qB,(.own 0 1 1 0)])⟩),(1,⟨1,14,52,(.row [])⟩)]],[]⟩⟩
def qMd:Sg:=⟨82,[(.c (.ptr 0 0 0 0 0)),aI],[[(0,⟨0,4,35,(.box [qS,qI,qB,(.own 0 1 1 0)])⟩),(1,⟨1,14,52,(.row [])⟩)]],⟨aI,[[(0,⟨0,4,35,(.box [qS,qI,qB,(.own 0 1 1 0)])⟩),(1,⟨1,14,52,(.row [])⟩)]],[]⟩⟩
def qNq:Sg:=⟨114,[(.c (.ptr 0 0 0 0 0))],[[(0,⟨0,4,35,(.box [qS,qI,qB,(.own 0 1 1 0)])⟩),(1,⟨1,14,52,(.row [])⟩)]],⟨aI,[[(0,⟨0,4,35,(.box [qS,qI,qB,(.own 0 1 1 0)])⟩),(1,⟨1,14,52,(.row [])⟩)]],[]⟩⟩
structure G_spec_l3Rd_row where
 spec_l3Rd_row:Int→BA→Int→Bool→Nat→RW→Option (Int×BA×Int×Bool×Nat×RW)
 spec_l3Rd_one:BA→Int→Bool→Nat→RW→Option (Int×BA×Int×Bool×Nat×RW)
 spec_l3Rd_call:Int→BA→Int→Bool→Nat→RW→Option (Int×BA×Int×Bool×Nat×RW)
 spec_l3Rd_arg:BA→Int→Bool→Nat→RW→Option (Int×BA×Int×Bool×Nat×RW)
def qEI (rec:G_spec_l3Rd_row) (n:Nat) (v:Int×Int×BA×Int×Bool×Nat×RW):Tr ((Int×Int×BA×Int×Bool×Nat×RW)⊕((Int×BA×Int×Bool×Nat×RW)⊕(Int×BA×Int×Bool×Nat×RW))):=(.ask ((!v.2.2.2.2.1)) (.opt (qEe n v.1 v.2.2.1 v.2.2.2.1 v.2.2.2.2.1 v.2.2.2.2.2.1 v.2.2.2.2.2.2) fun r110=>(.ask ((r110.1==(0:Int))) (.done (.inr (.inl ((v.2.1,r110.2.1,r110.2.2.1,r110.2.2.2.1,r110.2.2.2.2.1,r110.2.2.2.2.2))))) (.opt (rec.spec_l3Rd_row (IntKind.i64.wrap (v.1+(1:Int))) r110.2.1 r110.2.2.1 r110.2.2.2.1 r110.2.2.2.2.1 r110.2.2.2.2.2) fun r111=>(.ask (decide (2=([[(.i .i64 v.2.1)],[(.i .i64 r111.1)]]:RW).length)) (.opt (qr n (5:Int) r110.1 (0:Int) (0:Int) (⟨#[]⟩:BA) (0:Int) (0:Int) false false (0:Int) (0:Int) false false ([[(.i .i64 v.2.1)],[(.i .i64 r111.1)]]:RW) r111.2.1 r111.2.2.1 r111.2.2.2.1 r111.2.2.2.2.1 r111.2.2.2.2.2) fun r112=>(.done (.inl (v.1,r112.1,r112.2.1,r112.2.2.1,r112.2.2.2.1,r112.2.2.2.2.1,r112.2.2.2.2.2)))) .fail)))) (.done (.inr (.inr ((v.2.1,v.2.2.1,v.2.2.2.1,v.2.2.2.2.1,v.2.2.2.2.2.1,v.2.2.2.2.2.2))))))
def qIm (rec:G_spec_l3Rd_row) (n:Nat) (x0:Int) (x1:BA) (x2:Int) (x3:Bool) (x4:Nat) (x5:RW):Tr (Int×BA×Int×Bool×Nat×RW):=(.ask (x3) (.done ((0:Int),x1,x2,x3,x4,x5)) (.ask ((x0==(5:Int))) (.opt (rec.spec_l3Rd_one x1 x2 x3 x4 x5) fun r108=>(.done (r108.1,r108.2.1,r108.2.2.1,r108.2.2.2.1,r108.2.2.2.2.1,r108.2.2.2.2.2))) (.opt (rec.spec_l3Rd_row (IntKind.i64.wrap (x0+(1:Int))) x1 x2 x3 x4 x5) fun r109=>(.opt (zF (qEI rec n) n (x0,r109.1,r109.2.1,r109.2.2.1,r109.2.2.2.1,r109.2.2.2.2.1,r109.2.2.2.2.2)) fun r113=>(.alt r113 (fun r114=>(.done (r114.1,r114.2.1,r114.2.2.1,r114.2.2.2.1,r114.2.2.2.2.1,r114.2.2.2.2.2))) (fun r115=>(.done (r115.1,r115.2.1,r115.2.2.1,r115.2.2.2.1,r115.2.2.2.2.1,r115.2.2.2.2.2))))))))
def qCW (n:Nat) (v:Int×BA×Int×Bool×Nat×RW):Tr ((Int×BA×Int×Bool×Nat×RW)⊕((Int×BA×Int×Bool×Nat×RW)⊕(BA×Int×Bool×Nat×RW))):=(.ask ((decide (v.1≤(5:Int)))) (.opt (qBN n v.1) fun r57=>(.ask (decide (0≤(1:Int)∧(1:Int)≤(r57.size:Int)∧(r57.size:Int)≤r57.size)) (.ask ((decide ((IntKind.i64.wrap (v.2.2.1+((r57.extract ((1:Int)).toNat ((r57.size:Int)).toNat).size:Int)))≤(v.2.1.size:Int)))) (.ask (decide (0≤v.2.2.1∧v.2.2.1≤(IntKind.i64.wrap (v.2.2.1+((r57.extract ((1:Int)).toNat ((r57.size:Int)).toNat).size:Int)))∧(IntKind.i64.wrap (v.2.2.1+((r57.extract ((1:Int)).toNat ((r57.size:Int)).toNat).size:Int)))≤v.2.1.size)) (.ask (((v.2.1.extract (v.2.2.1).toNat ((IntKind.i64.wrap (v.2.2.1+((r57.extract ((1:Int)).toNat ((r57.size:Int)).toNat).size:Int)))).toNat).toList==(r57.extract ((1:Int)).toNat ((r57.size:Int)).toNat).toList)) (.opt (qCy n v.1) fun r58=>(.opt (qr n (1:Int) (0:Int) r58.1 r58.2.1 r58.2.2 (0:Int) (0:Int) false false (0:Int) (0:Int) false false ([]:RW) v.2.1 (IntKind.i64.wrap (v.2.2.1+((r57.extract ((1:Int)).toNat ((r57.size:Int)).toNat).size:Int))) v.2.2.2.1 v.2.2.2.2.1 v.2.2.2.2.2) fun r59=>(.done (.inr (.inl ((r59.1,r59.2.1,r59.2.2.1,r59.2.2.2.1,r59.2.2.2.2.1,r59.2.2.2.2.2))))))) (.done (.inl ((IntKind.i64.wrap (v.1+(1:Int))),v.2.1,v.2.2.1,v.2.2.2.1,v.2.2.2.2.1,v.2.2.2.2.2)))) .fail) (.done (.inl ((IntKind.i64.wrap (v.1+(1:Int))),v.2.1,v.2.2.1,v.2.2.2.1,v.2.2.2.2.1,v.2.2.2.2.2)))) .fail)) (.done (.inr (.inr ((v.2.1,v.2.2.1,v.2.2.2.1,v.2.2.2.2.1,v.2.2.2.2.2))))))
def qDD (rec:G_spec_l3Rd_row) (n:Nat) (v:BA×Int×BA×Int×Bool×Nat×RW):Tr ((BA×Int×BA×Int×Bool×Nat×RW)⊕((Int×BA×Int×Bool×Nat×RW)⊕(BA×BA×Int×Bool×Nat×RW))):=(.ask ((decide (v.2.1≤(10:Int)))) (.opt (qCV n v.2.1) fun r75=>(.ask ((r75.toList==v.1.toList)) (.opt (qAE n (⟨#[40]⟩:BA) v.2.2.1 v.2.2.2.1 v.2.2.2.2.1 v.2.2.2.2.2.1 v.2.2.2.2.2.2) fun r76=>(.ask (r76.1) (.opt (rec.spec_l3Rd_call v.2.1 r76.2.1 r76.2.2.1 r76.2.2.2.1 r76.2.2.2.2.1 r76.2.2.2.2.2) fun r77=>(.done (.inr (.inl ((r77.1,r77.2.1,r77.2.2.1,r77.2.2.2.1,r77.2.2.2.2.1,r77.2.2.2.2.2)))))) (.done (.inl (v.1,(IntKind.i64.wrap (v.2.1+(1:Int))),r76.2.1,r76.2.2.1,r76.2.2.2.1,r76.2.2.2.2.1,r76.2.2.2.2.2))))) (.done (.inl (v.1,(IntKind.i64.wrap (v.2.1+(1:Int))),v.2.2.1,v.2.2.2.1,v.2.2.2.2.1,v.2.2.2.2.2.1,v.2.2.2.2.2.2))))) (.done (.inr (.inr ((v.1,v.2.2.1,v.2.2.2.1,v.2.2.2.2.1,v.2.2.2.2.2.1,v.2.2.2.2.2.2))))))
def qIn (rec:G_spec_l3Rd_row) (n:Nat) (x0:BA) (x1:Int) (x2:Bool) (x3:Nat) (x4:RW):Tr (Int×BA×Int×Bool×Nat×RW):=(.opt (qAE n (⟨#[45]⟩:BA) x0 x1 x2 x3 x4) fun r29=>(.ask (r29.1) (.opt (rec.spec_l3Rd_row (5:Int) r29.2.1 r29.2.2.1 r29.2.2.2.1 r29.2.2.2.2.1 r29.2.2.2.2.2) fun r30=>(.ask (decide (1=([[(.i .i64 r30.1)]]:RW).length)) (.opt (qr n (4:Int) (0:Int) (0:Int) (0:Int) (⟨#[]⟩:BA) (0:Int) (0:Int) false false (0:Int) (0:Int) false false ([[(.i .i64 r30.1)]]:RW) r30.2.1 r30.2.2.1 r30.2.2.2.1 r30.2.2.2.2.1 r30.2.2.2.2.2) fun r43=>(.done (r43.1,r43.2.1,r43.2.2.1,r43.2.2.2.1,r43.2.2.2.2.1,r43.2.2.2.2.2))) .fail)) (.opt (qAE n (⟨#[40]⟩:BA) r29.2.1 r29.2.2.1 r29.2.2.2.1 r29.2.2.2.2.1 r29.2.2.2.2.2) fun r44=>(.ask (r44.1) (.opt (rec.spec_l3Rd_row (1:Int) r44.2.1 r44.2.2.1 r44.2.2.2.1 r44.2.2.2.2.1 r44.2.2.2.2.2) fun r45=>(.opt (qAE n (⟨#[41]⟩:BA) r45.2.1 r45.2.2.1 r45.2.2.2.1 r45.2.2.2.2.1 r45.2.2.2.2.2) fun r46=>(.ask ((!r46.1)) (.done (r45.1,r46.2.1,r46.2.2.1,true,r46.2.2.2.2.1,r46.2.2.2.2.2)) (.done (r45.1,r46.2.1,r46.2.2.1,r46.2.2.2.1,r46.2.2.2.2.1,r46.2.2.2.2.2))))) (.opt (qAE n (⟨#[34]⟩:BA) r44.2.1 r44.2.2.1 r44.2.2.2.1 r44.2.2.2.2.1 r44.2.2.2.2.2) fun r47=>(.ask (r47.1) (.opt (qE4 n r47.2.1 r47.2.2.1 r47.2.2.2.1 r47.2.2.2.2.1 r47.2.2.2.2.2) fun r55=>(.done (r55.1,r55.2.1,r55.2.2.1,r55.2.2.2.1,r55.2.2.2.2.1,r55.2.2.2.2.2))) (.opt (qAE n (⟨#[35]⟩:BA) r47.2.1 r47.2.2.1 r47.2.2.2.1 r47.2.2.2.2.1 r47.2.2.2.2.2) fun r56=>(.ask (r56.1) (.opt (zF (qCW n) n ((1:Int),r56.2.1,r56.2.2.1,r56.2.2.2.1,r56.2.2.2.2.1,r56.2.2.2.2.2)) fun r60=>(.alt r60 (fun r61=>(.done (r61.1,r61.2.1,r61.2.2.1,r61.2.2.2.1,r61.2.2.2.2.1,r61.2.2.2.2.2))) (fun r62=>(.done ((0:Int),r62.1,r62.2.1,true,r62.2.2.2.1,r62.2.2.2.2))))) (.opt (qCz n r56.2.1 r56.2.2.1 r56.2.2.2.1 r56.2.2.2.2.1 r56.2.2.2.2.2) fun r74=>(.opt (zF (qDD rec n) n (r74.1,(1:Int),r74.2.1,r74.2.2.1,r74.2.2.2.1,r74.2.2.2.2.1,r74.2.2.2.2.2)) fun r78=>(.alt r78 (fun r79=>(.done (r79.1,r79.2.1,r79.2.2.1,r79.2.2.2.1,r79.2.2.2.2.1,r79.2.2.2.2.2))) (fun r80=>(.opt (qAH n r80.1) fun r102=>(.ask (r102.2.2.2) (.ask ((!(r80.1.toList==(⟨#[]⟩:BA).toList))) (.opt (qr n (1:Int) (0:Int) r102.1 r102.2.1 r102.2.2.1 (0:Int) (0:Int) false false (0:Int) (0:Int) false false ([]:RW) r80.2.1 r80.2.2.1 r80.2.2.2.1 r80.2.2.2.2.1 r80.2.2.2.2.2) fun r103=>(.done (r103.1,r103.2.1,r103.2.2.1,r103.2.2.2.1,r103.2.2.2.2.1,r103.2.2.2.2.2))) (.opt (qAQ n r80.1) fun r104=>(.ask ((!r104.2.2.2.2)) (.done ((0:Int),r80.2.1,r80.2.2.1,true,r80.2.2.2.2.1,r80.2.2.2.2.2)) (.opt (qr n (2:Int) (0:Int) (0:Int) (0:Int) (⟨#[]⟩:BA) r104.1 r104.2.1 r104.2.2.1 r104.2.2.2.1 (0:Int) (0:Int) false false ([]:RW) r80.2.1 r80.2.2.1 r80.2.2.2.1 r80.2.2.2.2.1 r80.2.2.2.2.2) fun r105=>(.done (r105.1,r105.2.1,r105.2.2.1,r105.2.2.2.1,r105.2.2.2.2.1,r105.2.2.2.2.2)))))) (.opt (qAQ n r80.1) fun r106=>(.ask ((!r106.2.2.2.2)) (.done ((0:Int),r80.2.1,r80.2.2.1,true,r80.2.2.2.2.1,r80.2.2.2.2.2)) (.opt (qr n (2:Int) (0:Int) (0:Int) (0:Int) (⟨#[]⟩:BA) r106.1 r106.2.1 r106.2.2.1 r106.2.2.2.1 (0:Int) (0:Int) false false ([]:RW) r80.2.1 r80.2.2.1 r80.2.2.2.1 r80.2.2.2.2.1 r80.2.2.2.2.2) fun r107=>(.done (r107.1,r107.2.1,r107.2.2.1,r107.2.2.2.1,r107.2.2.2.2.1,r107.2.2.2.2.2)))))))))))))))))))
def qDy (rec:G_spec_l3Rd_row) (n:Nat) (v:Int×Nat×RW×BA×Int×Bool×Nat×RW):Tr ((Int×Nat×RW×BA×Int×Bool×Nat×RW)⊕((Int×BA×Int×Bool×Nat×RW)⊕(BA×Int×Bool×Nat×RW))):=(.ask ((!v.2.2.2.2.2.1)) (.opt (rec.spec_l3Rd_arg v.2.2.2.1 v.2.2.2.2.1 v.2.2.2.2.2.1 v.2.2.2.2.2.2.1 v.2.2.2.2.2.2.2) fun r79=>(.ask (decide (1=([[(.i .i64 r79.1)]]:RW).length)) (.ask (decide (v.2.1=v.2.2.1.length∧0<1∧0<8∧(v.2.1+([[(.i .i64 r79.1)]]:RW).length)*8≤140737488355328∧([[(.i .i64 r79.1)]]:RW).all (fun e=>e.length==1)=true)) (.opt (qAE n (⟨#[41]⟩:BA) r79.2.1 r79.2.2.1 r79.2.2.2.1 r79.2.2.2.2.1 r79.2.2.2.2.2) fun r80=>(.ask (r80.1) (.ask (decide ((v.2.1+1)=(v.2.2.1++([[(.i .i64 r79.1)]]:RW)).length)) (.opt (qr n (6:Int) v.1 (0:Int) (0:Int) (⟨#[]⟩:BA) (0:Int) (0:Int) false false (0:Int) (0:Int) false false (v.2.2.1++([[(.i .i64 r79.1)]]:RW)) r80.2.1 r80.2.2.1 r80.2.2.2.1 r80.2.2.2.2.1 r80.2.2.2.2.2) fun r81=>(.done (.inr (.inl ((r81.1,r81.2.1,r81.2.2.1,r81.2.2.2.1,r81.2.2.2.2.1,r81.2.2.2.2.2)))))) .fail) (.opt (qAE n (⟨#[44]⟩:BA) r80.2.1 r80.2.2.1 r80.2.2.2.1 r80.2.2.2.2.1 r80.2.2.2.2.2) fun r82=>(.ask ((!r82.1)) (.done (.inl (v.1,(v.2.1+1),(v.2.2.1++([[(.i .i64 r79.1)]]:RW)),r82.2.1,r82.2.2.1,true,r82.2.2.2.2.1,r82.2.2.2.2.2))) (.done (.inl (v.1,(v.2.1+1),(v.2.2.1++([[(.i .i64 r79.1)]]:RW)),r82.2.1,r82.2.2.1,r82.2.2.2.1,r82.2.2.2.2.1,r82.2.2.2.2.2))))))) .fail) .fail)) (.done (.inr (.inr ((v.2.2.2.1,v.2.2.2.2.1,v.2.2.2.2.2.1,v.2.2.2.2.2.2.1,v.2.2.2.2.2.2.2))))))
def qHp (rec:G_spec_l3Rd_row) (n:Nat) (x0:Int) (x1:BA) (x2:Int) (x3:Bool) (x4:Nat) (x5:RW):Tr (Int×BA×Int×Bool×Nat×RW):=(.opt (zF (qDy rec n) n (x0,(0:Nat),([]:RW),x1,x2,x3,x4,x5)) fun r83=>(.alt r83 (fun r84=>(.done (r84.1,r84.2.1,r84.2.2.1,r84.2.2.2.1,r84.2.2.2.2.1,r84.2.2.2.2.2))) (fun r85=>(.done ((0:Int),r85.1,r85.2.1,r85.2.2.1,r85.2.2.2.1,r85.2.2.2.2)))))
def qIo (rec:G_spec_l3Rd_row) (n:Nat) (x0:BA) (x1:Int) (x2:Bool) (x3:Nat) (x4:RW):Tr (Int×BA×Int×Bool×Nat×RW):=(.opt (qBf n x0 x1 x2 x3 x4) fun r79=>(.opt (qCz n r79.1 r79.2.1 r79.2.2.1 r79.2.2.2.1 r79.2.2.2.2) fun r80=>(.opt (qAQ n r80.1) fun r81=>(.ask (r81.2.2.2.2) (.opt (qAE n (⟨#[58]⟩:BA) r80.2.1 r80.2.2.1 r80.2.2.2.1 r80.2.2.2.2.1 r80.2.2.2.2.2) fun r82=>(.ask (r82.1) (.opt (qBf n r82.2.1 r82.2.2.1 r82.2.2.2.1 r82.2.2.2.2.1 r82.2.2.2.2.2) fun r83=>(.opt (qCz n r83.1 r83.2.1 r83.2.2.1 r83.2.2.2.1 r83.2.2.2.2) fun r84=>(.opt (qAQ n r84.1) fun r85=>(.ask ((!r85.2.2.2.2)) (.done ((0:Int),r84.2.1,r84.2.2.1,true,r84.2.2.2.2.1,r84.2.2.2.2.2)) (.opt (qr n (3:Int) (0:Int) (0:Int) (0:Int) (⟨#[]⟩:BA) r81.1 r81.2.1 r81.2.2.1 r81.2.2.2.1 r85.1 r85.2.1 r85.2.2.1 r85.2.2.2.1 ([]:RW) r84.2.1 r84.2.2.1 r84.2.2.2.1 r84.2.2.2.2.1 r84.2.2.2.2.2) fun r86=>(.done (r86.1,r86.2.1,r86.2.2.1,r86.2.2.2.1,r86.2.2.2.2.1,r86.2.2.2.2.2))))))) (.opt (rec.spec_l3Rd_row (1:Int) r82.2.1 r79.2.1 r82.2.2.2.1 r82.2.2.2.2.1 r82.2.2.2.2.2) fun r87=>(.done (r87.1,r87.2.1,r87.2.2.1,r87.2.2.2.1,r87.2.2.2.2.1,r87.2.2.2.2.2))))) (.opt (rec.spec_l3Rd_row (1:Int) r80.2.1 r79.2.1 r80.2.2.2.1 r80.2.2.2.2.1 r80.2.2.2.2.2) fun r88=>(.done (r88.1,r88.2.1,r88.2.2.1,r88.2.2.2.1,r88.2.2.2.2.1,r88.2.2.2.2.2)))))))
def qd:Nat→G_spec_l3Rd_row
 |0=>⟨fun _ _ _ _ _ _=>none,fun _ _ _ _ _=>none,fun _ _ _ _ _ _=>none,fun _ _ _ _ _=>none⟩
 |n+1=>⟨fun x0 x1 x2 x3 x4 x5=>(qIm (qd n) n x0 x1 x2 x3 x4 x5).run,fun x0 x1 x2 x3 x4=>(qIn (qd n) n x0 x1 x2 x3 x4).run,fun x0 x1 x2 x3 x4 x5=>(qHp (qd n) n x0 x1 x2 x3 x4 x5).run,fun x0 x1 x2 x3 x4=>(qIo (qd n) n x0 x1 x2 x3 x4).run⟩
def qEC (n:Nat) (x0:Int) (x1:BA) (x2:Int) (x3:Bool) (x4:Nat) (x5:RW):Option (Int×BA×Int×Bool×Nat×RW):=(qd n).spec_l3Rd_row x0 x1 x2 x3 x4 x5
def qIp (n:Nat) (x0:BA) (x1:Int) (x2:Bool) (x3:Nat) (x4:RW):Option (Int×BA×Int×Bool×Nat×RW):=(qd n).spec_l3Rd_one x0 x1 x2 x3 x4
def qHq (n:Nat) (x0:Int) (x1:BA) (x2:Int) (x3:Bool) (x4:Nat) (x5:RW):Option (Int×BA×Int×Bool×Nat×RW):=(qd n).spec_l3Rd_call x0 x1 x2 x3 x4 x5
def qIq (n:Nat) (x0:BA) (x1:Int) (x2:Bool) (x3:Nat) (x4:RW):Option (Int×BA×Int×Bool×Nat×RW):=(qd n).spec_l3Rd_arg x0 x1 x2 x3 x4
def qA6 (n:Nat):Prop:=
 Ok (Rn n) qIl (qEC n)∧
 Ok (Rn n) qNp (qIp n)∧
 Ok (Rn n) qMd (qHq n)∧
 Ok (Rn n) qNq (qIq n)
abbrev qIr (n:Nat) (ih:qA6 n):List (Ent (Rn n)):= [en ih.2.1,en ih.1,en (qNo n),en (qCx n)]
def qK0 (n:Nat) (ih:qA6 n):LEnt (KB 16) (Rn n) n:=lok (zb 16) 62 ⟨⟨[(0,(.c (.ptr 0 0 0 0 0))),(1,aI),(5,aI)],[],[[(0,⟨0,4,35,(.box [qS,qI,qB,(.own 0 1 1 0)])⟩),(1,⟨1,14,52,(.row [])⟩)]]⟩,[(.ret,⟨[(4,aI)],[],[[(0,⟨0,4,35,(.box [qS,qI,qB,(.own 0 1 1 0)])⟩),(1,⟨1,14,52,(.row [])⟩)]]⟩),(.exit 0,⟨[(5,aI)],[],[[(0,⟨0,4,35,(.box [qS,qI,qB,(.own 0 1 1 0)])⟩),(1,⟨1,14,52,(.row [])⟩)]]⟩)]⟩ (qEI (qd n) n) (qIr n ih) [] fun _=>(by kernel_rfl)
abbrev qFk (n:Nat) (ih:qA6 n):List (Ent (Rn n)):= [en (qEA n),en ih.1,en (qCx n),en (qLe n),en (qGD n),en (qNn n),en (qGy n),en (qLf n),en ih.2.2.1,en (qGz n),en (qEc n)]
def qJU (n:Nat) (ih:qA6 n):LEnt (KB 41) (Rn n) n:=lok (zb 41) 7161 ⟨⟨[(0,(.c (.ptr 0 0 0 0 0))),(5,aI)],[],[[(0,⟨0,4,35,(.box [qS,qI,qB,(.own 0 1 1 0)])⟩),(1,⟨1,14,52,(.row [])⟩)]]⟩,[(.ret,⟨[(2,aI)],[],[[(0,⟨0,4,35,(.box [qS,qI,qB,(.own 0 1 1 0)])⟩),(1,⟨1,14,52,(.row [])⟩)]]⟩),(.exit 1,⟨[(0,(.c (.ptr 0 0 0 0 0)))],[],[[(0,⟨0,4,35,(.box [qS,qI,qB,(.own 0 1 1 0)])⟩),(1,⟨1,14,52,(.row [])⟩)]]⟩)]⟩ (qCW n) (qFk n ih) [] fun _=>(by kernel_rfl)
def qK1 (n:Nat) (ih:qA6 n):LEnt (KB 41) (Rn n) n:=lok (zb 41) 61 ⟨⟨[(0,(.c (.ptr 0 0 0 0 0))),(7,aS),(8,aI)],[],[[(0,⟨0,4,35,(.box [qS,qI,qB,(.own 0 1 1 0)])⟩),(1,⟨1,14,52,(.row [])⟩)]]⟩,[(.ret,⟨[(2,aI)],[],[[(0,⟨0,4,35,(.box [qS,qI,qB,(.own 0 1 1 0)])⟩),(1,⟨1,14,52,(.row [])⟩)]]⟩),(.exit 3,⟨[(0,(.c (.ptr 0 0 0 0 0))),(7,aS)],[],[[(0,⟨0,4,35,(.box [qS,qI,qB,(.own 0 1 1 0)])⟩),(1,⟨1,14,52,(.row [])⟩)]]⟩)]⟩ (qDD (qd n) n) (qFk n ih) [] fun _=>(by kernel_rfl)
abbrev qHr (n:Nat) (ih:qA6 n):List (Ent (Rn n)):= [en ih.2.2.2,en (qEA n),en (qCx n)]
def qKL (n:Nat) (ih:qA6 n):LEnt (KB 82) (Rn n) n:=lok (zb 82) 14 ⟨⟨[(0,(.c (.ptr 0 0 0 0 0))),(1,aI),(5,(.c (.own 1 384 0 0)))],[(384,⟨0,1,2,(.row [])⟩)],[[(0,⟨0,4,35,(.box [qS,qI,qB,(.own 0 1 1 0)])⟩),(1,⟨1,14,52,(.row [])⟩)]]⟩,[(.ret,⟨[(4,aI)],[],[[(0,⟨0,4,35,(.box [qS,qI,qB,(.own 0 1 1 0)])⟩),(1,⟨1,14,52,(.row [])⟩)]]⟩),(.exit 0,⟨[],[],[[(0,⟨0,4,35,(.box [qS,qI,qB,(.own 0 1 1 0)])⟩),(1,⟨1,14,52,(.row [])⟩)]]⟩)]⟩ (qDy (qd n) n) (qHr n ih) [] fun _=>(by kernel_rfl)
abbrev qNr (n:Nat) (ih:qA6 n):List (Ent (Rn n)):= [en (qDw n),en (qGy n),en (qEc n),en (qEA n),en (qCx n),en ih.1]
theorem qA7:∀n,qA6 n
 |0=>⟨ok0 fun _=>rfl,ok0 fun _=>rfl,ok0 fun _=>rfl,ok0 fun _=>rfl⟩
 |n+1=>⟨stO (T:=qIm (qd n) n) (by kernel_rfl) (qIr n (qA7 n)) [qK0 n (qA7 n)] (fun _=>(by kernel_rfl)) fun _=>(by kernel_rfl),stO (T:=qIn (qd n) n) (by kernel_rfl) (qFk n (qA7 n)) [qJU n (qA7 n),qK1 n (qA7 n)] (fun _=>(by kernel_rfl)) fun _=>(by kernel_rfl),stO (T:=qHp (qd n) n) (by kernel_rfl) (qHr n (qA7 n)) [qKL n (qA7 n)] (fun _=>(by kernel_rfl)) fun _=>(by kernel_rfl),stO (T:=qIo (qd n) n) (by kernel_rfl) (qNr n (qA7 n)) [] (fun _=>(by kernel_rfl)) fun _=>(by kernel_rfl)⟩
theorem qMe (n:Nat):Ok (Rn n) qIl (qEC n):=(qA7 n).1
def qHN:Sg:=⟨46,[aL,aI],[],⟨aI,[],[]⟩⟩
def qA8 (rec:RW→Int→Option (Int)) (n:Nat) (v:RW×Int×Int×Int):Tr ((RW×Int×Int×Int)⊕((Int)⊕(Int))):=(.ask ((decide (v.2.2.2≥(0:Int)))) (.ask ((decide (v.2.2.1<(0:Int)))) (.done (.inr (.inl ((-1:Int))))) (.ask (decide (0≤v.2.1∧v.2.1<v.1.length)) (.opt (v.1[(v.2.1).toNat]?) fun e153=>(.ask (decide (e153.length=14)) (.opt (zA9 e153 13) fun y154=>(.ask (decide (0≤v.2.2.2∧v.2.2.2<y154.length)) (.opt (y154[(v.2.2.2).toNat]?) fun e155=>(.ask (decide (e155.length=1)) (.opt (zI .i64 e155 0) fun y156=>(.ask ((y156 !=v.2.2.1)) (.done (.inr (.inl ((-1:Int))))) (.opt (rec v.1 v.2.2.1) fun r157=>(.ask ((decide (r157<(0:Int)))) (.done (.inr (.inl ((-1:Int))))) (.done (.inl (v.1,v.2.1,(IntKind.i64.wrap (r157-(1:Int))),(IntKind.i64.wrap (v.2.2.2-(1:Int)))))))))) .fail)) .fail)) .fail)) .fail)) (.done (.inr (.inr (v.2.2.1)))))
def qHO (rec:RW→Int→Option (Int)) (n:Nat) (x0:RW) (x1:Int):Tr (Int):=(.ask (decide (0≤x1∧x1<x0.length)) (.opt (x0[(x1).toNat]?) fun e151=>(.ask (decide (e151.length=14)) (.opt (zA9 e151 13) fun y152=>(.opt (zF (qA8 rec n) n (x0,x1,(IntKind.i64.wrap (x1-(1:Int))),(IntKind.i64.wrap ((y152.length:Int)-(1:Int))))) fun r158=>(.alt r158 (fun r159=>(.done r159)) (fun r160=>(.done (IntKind.i64.wrap (r160+(1:Int)))))))) .fail)) .fail)
def qAu:Nat→RW→Int→Option (Int)
 |0,_,_=>none
 |n+1,x0,x1=>(qHO (qAu n) n x0 x1).run
abbrev qKk (n:Nat) (ih:Ok (Rn n) qHN (qAu n)):List (Ent (Rn n)):= [en ih]
def qMf (n:Nat) (ih:Ok (Rn n) qHN (qAu n)):LEnt (KB 46) (Rn n) n:=lok (zb 46) 29 ⟨⟨[(0,aL),(1,aI),(5,aI),(6,aI)],[],[]⟩,[(.ret,⟨[(4,aI)],[],[]⟩),(.exit 0,⟨[(5,aI)],[],[]⟩)]⟩ (qA8 (qAu n) n) (qKk n ih) [] fun _=>(by kernel_rfl)
theorem qGG:∀n,Ok (Rn n) qHN (qAu n)
 |0=>ok0 fun _=>rfl
 |n+1=>stO (T:=qHO (qAu n) n) (by kernel_rfl) (qKk n (qGG n)) [qMf n (qGG n)] (fun _=>(by kernel_rfl)) fun _=>(by kernel_rfl)
def qHP:Sg:=⟨47,[aL,aI],[],⟨aI,[],[]⟩⟩
def qC0 (rec:RW→Int→Option (Int)) (n:Nat) (v:RW×Int×Int×Int):Tr ((RW×Int×Int×Int)⊕((Int))):=(.ask (decide (0≤v.2.1∧v.2.1<v.1.length)) (.opt (v.1[(v.2.1).toNat]?) fun e164=>(.ask (decide (e164.length=14)) (.opt (zA9 e164 13) fun y165=>(.ask ((decide (v.2.2.2<(y165.length:Int)))) (.ask (decide (0≤v.2.1∧v.2.1<v.1.length)) (.opt (v.1[(v.2.1).toNat]?) fun e166=>(.ask (decide (e166.length=14)) (.opt (zA9 e166 13) fun y167=>(.ask (decide (0≤v.2.2.2∧v.2.2.2<y167.length)) (.opt (y167[(v.2.2.2).toNat]?) fun e168=>(.ask (decide (e168.length=1)) (.opt (zI .i64 e168 0) fun y169=>(.opt (rec v.1 y169) fun r170=>(.done (.inl (v.1,v.2.1,(if r170>v.2.2.1 then r170 else v.2.2.1),(IntKind.i64.wrap (v.2.2.2+(1:Int)))))))) .fail)) .fail)) .fail)) .fail) (.done (.inr (v.2.2.1))))) .fail)) .fail)
def qHQ (rec:RW→Int→Option (Int)) (n:Nat) (x0:RW) (x1:Int):Tr (Int):=(.opt (zF (qC0 rec n) n (x0,x1,(0:Int),(0:Int))) fun r171=>(.done (IntKind.i64.wrap (r171+(1:Int)))))
def qAv:Nat→RW→Int→Option (Int)
 |0,_,_=>none
 |n+1,x0,x1=>(qHQ (qAv n) n x0 x1).run
abbrev qKl (n:Nat) (ih:Ok (Rn n) qHP (qAv n)):List (Ent (Rn n)):= [en ih]
def qMg (n:Nat) (ih:Ok (Rn n) qHP (qAv n)):LEnt (KB 47) (Rn n) n:=lok (zb 47) 29 ⟨⟨[(0,aL),(1,aI),(5,aI),(6,aI)],[],[]⟩,[(.exit 0,⟨[(5,aI)],[],[]⟩)]⟩ (qC0 (qAv n) n) (qKl n ih) [] fun _=>(by kernel_rfl)
theorem qGH:∀n,Ok (Rn n) qHP (qAv n)
 |0=>ok0 fun _=>rfl
 |n+1=>stO (T:=qHQ (qAv n) n) (by kernel_rfl) (qKl n (qGH n)) [qMg n (qGH n)] (fun _=>(by kernel_rfl)) fun _=>(by kernel_rfl)
def qMh:Sg:=⟨18,[aL],[],⟨aB,[],[]⟩⟩
def qAn (n:Nat) (v:RW×Int×Int):Tr ((RW×Int×Int)⊕((Bool)⊕(RW×Int))):=(.ask (decide (0≤v.2.1∧v.2.1<v.1.length)) (.opt (v.1[(v.2.1).toNat]?) fun e134=>(.ask (decide (e134.length=14)) (.opt (zA9 e134 13) fun y135=>(.ask ((decide (v.2.2<(y135.length:Int)))) (.ask (decide (0≤v.2.1∧v.2.1<v.1.length)) (.opt (v.1[(v.2.1).toNat]?) fun e136=>(.ask (decide (e136.length=14)) (.opt (zA9 e136 13) fun y137=>(.ask (decide (0≤v.2.2∧v.2.2<y137.length)) (.opt (y137[(v.2.2).toNat]?) fun e138=>(.ask (decide (e138.length=1)) (.opt (zI .i64 e138 0) fun y139=>(.opt (qAj n y139 (0:Int) (IntKind.i64.wrap (v.2.1-(1:Int)))) fun r140=>(.ask ((!r140)) (.done (.inr (.inl (false)))) (.ask (decide (0≤y139∧y139<v.1.length)) (.opt (v.1[(y139).toNat]?) fun e141=>(.ask (decide (e141.length=14)) (.opt (zI .i64 e141 0) fun y142=>(.ask ((y142==(3:Int))) (.ask (decide (0≤v.2.1∧v.2.1<v.1.length)) (.opt (v.1[(v.2.1).toNat]?) fun e143=>(.ask (decide (e143.length=14)) (.opt (zI .i64 e143 0) fun y144=>(.ask ((y144 !=(6:Int))) (.done (.inr (.inl (false)))) (.done (.inl (v.1,v.2.1,(IntKind.i64.wrap (v.2.2+(1:Int)))))))) .fail)) .fail) (.done (.inl (v.1,v.2.1,(IntKind.i64.wrap (v.2.2+(1:Int)))))))) .fail)) .fail)))) .fail)) .fail)) .fail)) .fail) (.done (.inr (.inr ((v.1,v.2.1))))))) .fail)) .fail)
def qBC (n:Nat) (v:RW×Int):Tr ((RW×Int)⊕((Bool)⊕(RW))):=(.ask ((decide (v.2<(v.1.length:Int)))) (.ask (decide (0≤v.2∧v.2<v.1.length)) (.opt (v.1[(v.2).toNat]?) fun e118=>(.ask (decide (e118.length=14)) (.opt (zI .i64 e118 0) fun y119=>(.opt (zI .i64 e118 1) fun y120=>(.opt (zI .i64 e118 2) fun y121=>(.opt (zI .i64 e118 3) fun y122=>(.opt (zAG e118 4) fun y123=>(.opt (zI .i64 e118 5) fun y124=>(.opt (zI .i64 e118 6) fun y125=>(.opt (zAn e118 7) fun y126=>(.opt (zAn e118 8) fun y127=>(.opt (zI .i64 e118 9) fun y128=>(.opt (zI .i64 e118 10) fun y129=>(.opt (zAn e118 11) fun y130=>(.opt (zAn e118 12) fun y131=>(.opt (zA9 e118 13) fun y132=>(.opt (qBy n y119 y120 y121 y122 y123 y124 y125 y126 y127 y128 y129 y130 y131 y132) fun r133=>(.ask ((!r133)) (.done (.inr (.inl (false)))) (.opt (zF (qAn n) n (v.1,v.2,(0:Int))) fun r145=>(.alt r145 (fun r146=>(.done (.inr (.inl (r146))))) (fun r147=>(.done (.inl (r147.1,(IntKind.i64.wrap (r147.2+(1:Int))))))))))))))))))))))))) .fail)) .fail) (.done (.inr (.inr (v.1)))))
def qC1 (n:Nat) (x0:RW):Tr (Bool):=(.ask ((decide ((x0.length:Int)<(1:Int)))) (.done false) (.ask ((decide ((x0.length:Int)>(60:Int)))) (.done false) (.opt (zF (qBC n) n (x0,(0:Int))) fun r148=>(.alt r148 (fun r149=>(.done r149)) (fun r150=>(.opt (qAu n r150 (IntKind.i64.wrap ((r150.length:Int)-(1:Int)))) fun r161=>(.ask ((r161==(0:Int))) (.ask (decide (0≤(IntKind.i64.wrap ((r150.length:Int)-(1:Int)))∧(IntKind.i64.wrap ((r150.length:Int)-(1:Int)))<r150.length)) (.opt (r150[((IntKind.i64.wrap ((r150.length:Int)-(1:Int)))).toNat]?) fun e162=>(.ask (decide (e162.length=14)) (.opt (zI .i64 e162 0) fun y163=>(.ask ((y163 !=(3:Int))) (.opt (qAv n r150 (IntKind.i64.wrap ((r150.length:Int)-(1:Int)))) fun r172=>(.done (decide (r172≤(12:Int))))) (.done false))) .fail)) .fail) (.done false))))))))
def qBg:Nat→RW→Option (Bool)
 |0,_=>none
 |n+1,x0=>(qC1 n x0).run
abbrev qE5 (n:Nat):List (Ent (Rn n)):= [en (qHk n),en (qDm n),en (qGG n),en (qGH n)]
def qJV (n:Nat):LEnt (lb 29 (KB 18)) (Rn n) n:=lok (Uniq.pick (zb 18) 29) 475 ⟨⟨[(0,aL),(3,aI),(4,aI)],[],[]⟩,[(.ret,⟨[(2,aB)],[],[]⟩),(.exit 2,⟨[(0,aL),(3,aI)],[],[]⟩)]⟩ (qAn n) (qE5 n) [] fun _=>(by kernel_rfl)
def qKM (n:Nat):LEnt (KB 18) (Rn n) n:=lok (zb 18) 29 ⟨⟨[(0,aL),(3,aI)],[],[]⟩,[(.ret,⟨[(2,aB)],[],[]⟩),(.exit 0,⟨[(0,aL)],[],[]⟩)]⟩ (qBC n) (qE5 n) [qJV n] fun _=>(by kernel_rfl)
theorem qG0:∀n,Ok (Rn n) qMh (qBg n)
 |0=>ok0 fun _=>rfl
 |n+1=>stO (T:=qC1 n) (by kernel_rfl) (qE5 n) [qKM n] (fun _=>(by kernel_rfl)) fun _=>(by kernel_rfl)
def qK2:Sg:=⟨5,[aS],[],⟨(.tup [(false,[qL]),(false,[qB])]),[],[]⟩⟩
def qGI (n:Nat) (x0:BA):Tr (RW×Bool):=(.opt (qCG n x0) fun r25=>(.ask ((!r25)) (.ask (decide (0=([]:RW).length)) (.done (([]:RW),false)) .fail) (.opt (qEC n (1:Int) x0 (0:Int) false (0:Nat) ([]:RW)) fun r116=>(.opt (qBf n r116.2.1 r116.2.2.1 r116.2.2.2.1 r116.2.2.2.2.1 r116.2.2.2.2.2) fun r117=>(.ask (r117.2.2.1) (.ask (decide (0=([]:RW).length)) (.done (([]:RW),false)) .fail) (.ask ((decide (r117.2.1<(x0.size:Int)))) (.ask (decide (0=([]:RW).length)) (.done (([]:RW),false)) .fail) (.ask (decide (r117.2.2.2.1=r117.2.2.2.2.length)) (.opt (qBg n r117.2.2.2.2) fun r173=>(.ask (zAj (⟨(.c (.p (.b r173))),[],[]⟩:Res)) (.ask ((!r173)) (.ask (decide (0=([]:RW).length)) (.done (([]:RW),false)) .fail) (.ask (decide (r117.2.2.2.1=r117.2.2.2.2.length)) (.done (r117.2.2.2.2,true)) .fail)) .fail)) .fail)))))))
def qEJ:Nat→BA→Option (RW×Bool)
 |0,_=>none
 |n+1,x0=>(qGI n x0).run
abbrev qK3 (n:Nat):List (Ent (Rn n)):= [en (qFi n),en (qMe n),en (qDw n),en (qG0 n)]
theorem qKN:∀n,Ok (Rn n) qK2 (qEJ n)
 |0=>ok0 fun _=>rfl
 |n+1=>stO (T:=qGI n) (by kernel_rfl) (qK3 n) [] (fun _=>(by kernel_rfl)) fun _=>(by kernel_rfl)
def qOZ:Sg:=⟨156,[aS],[],⟨aS,[],[]⟩⟩
def qBS (n:Nat) (v:BA×BA×Int):Tr ((BA×BA×Int)⊕((BA))):=(.ask ((decide (v.2.2<(v.1.size:Int)))) (.ask (decide (0≤v.2.2)) (.opt (v.1.toList[(v.2.2).toNat]?) fun c191=>(.ask (((c191.toNat:Int)==(34:Int))) (.ask (decide (v.2.1.size+(⟨#[34]⟩:BA).size≤9223372036854775807)) (.ask (decide (0≤v.2.2∧v.2.2≤(IntKind.i64.wrap (v.2.2+(1:Int)))∧(IntKind.i64.wrap (v.2.2+(1:Int)))≤v.1.size)) (.ask (decide ((v.2.1++(⟨#[34]⟩:BA)).size+(v.1.extract (v.2.2).toNat ((IntKind.i64.wrap (v.2.2+(1:Int)))).toNat).size≤9223372036854775807)) (.done (.inl (v.1,((v.2.1++(⟨#[34]⟩:BA))++(v.1.extract (v.2.2).toNat ((IntKind.i64.wrap (v.2.2+(1:Int)))).toNat)),(IntKind.i64.wrap (v.2.2+(1:Int)))))) .fail) .fail) .fail) (.ask (decide (0≤v.2.2∧v.2.2≤(IntKind.i64.wrap (v.2.2+(1:Int)))∧(IntKind.i64.wrap (v.2.2+(1:Int)))≤v.1.size)) (.ask (decide (v.2.1.size+(v.1.extract (v.2.2).toNat ((IntKind.i64.wrap (v.2.2+(1:Int)))).toNat).size≤9223372036854775807)) (.done (.inl (v.1,(v.2.1++(v.1.extract (v.2.2).toNat ((IntKind.i64.wrap (v.2.2+(1:Int)))).toNat)),(IntKind.i64.wrap (v.2.2+(1:Int)))))) .fail) .fail))) .fail) (.done (.inr (v.2.1))))
def qGJ (n:Nat) (x0:BA):Tr (BA):=(.opt (zF (qBS n) n (x0,(⟨#[34]⟩:BA),(0:Int))) fun r192=>(.ask (decide (r192.size+(⟨#[34]⟩:BA).size≤9223372036854775807)) (.done (r192++(⟨#[34]⟩:BA))) .fail))
def qEf:Nat→BA→Option (BA)
 |0,_=>none
 |n+1,x0=>(qGJ n x0).run
def qLh (n:Nat):LEnt (KB 156) (Rn n) n:=lok (zb 156) 29 ⟨⟨[(0,aS),(3,aS),(4,aI)],[],[]⟩,[(.exit 0,⟨[(3,aS)],[],[]⟩)]⟩ (qBS n) [] [] fun _=>(by kernel_rfl)
theorem qNs:∀n,Ok (Rn n) qOZ (qEf n)
 |0=>ok0 fun _=>rfl
 |n+1=>stO (T:=qGJ n) (by kernel_rfl) [] [qLh n] (fun _=>(by kernel_rfl)) fun _=>(by kernel_rfl)
def qIJ:Sg:=⟨65,[aI],[],⟨aS,[],[]⟩⟩
def qDM (n:Nat) (v:Int×BA):Tr ((Int×BA)⊕((Int×BA))):=(.ask ((decide (v.1≥(10:Int)))) (.ask (decide (1=([[(.i .u8 (IntKind.u8.wrap (IntKind.i64.wrap ((48:Int)+(Int.tmod v.1 (10:Int))))))]]:RW).length)) (.opt (bytesOf ([[(.i .u8 (IntKind.u8.wrap (IntKind.i64.wrap ((48:Int)+(Int.tmod v.1 (10:Int))))))]]:RW)) fun l196=>(.ask (decide ((⟨l196.toArray⟩:BA).size+v.2.size≤9223372036854775807)) (.done (.inl ((IntKind.i64.wrap (Int.tdiv v.1 (10:Int))),((⟨l196.toArray⟩:BA)++v.2)))) .fail)) .fail) (.done (.inr ((v.1,v.2)))))
def qF0 (rec:Int→Option (BA)) (n:Nat) (x0:Int):Tr (BA):=(.ask ((decide (x0<(0:Int)))) (.opt (rec (IntKind.i64.wrap (0-x0))) fun r195=>(.ask (decide ((⟨#[45]⟩:BA).size+r195.size≤9223372036854775807)) (.done ((⟨#[45]⟩:BA)++r195)) .fail)) (.opt (zF (qDM n) n (x0,(⟨#[]⟩:BA))) fun r197=>(.ask (decide (1=([[(.i .u8 (IntKind.u8.wrap (IntKind.i64.wrap ((48:Int)+r197.1))))]]:RW).length)) (.opt (bytesOf ([[(.i .u8 (IntKind.u8.wrap (IntKind.i64.wrap ((48:Int)+r197.1))))]]:RW)) fun l198=>(.ask (decide ((⟨l198.toArray⟩:BA).size+r197.2.size≤9223372036854775807)) (.done ((⟨l198.toArray⟩:BA)++r197.2)) .fail)) .fail)))
def qAT:Nat→Int→Option (BA)
 |0,_=>none
 |n+1,x0=>(qF0 (qAT n) n x0).run
abbrev qLi (n:Nat) (ih:Ok (Rn n) qIJ (qAT n)):List (Ent (Rn n)):= [en ih]
def qNt (n:Nat) (ih:Ok (Rn n) qIJ (qAT n)):LEnt (KB 65) (Rn n) n:=lok (zb 65) 30 ⟨⟨[(0,aI),(3,aS)],[],[]⟩,[(.exit 0,⟨[(0,aI),(3,aS)],[],[]⟩)]⟩ (qDM n) (qLi n ih) [] fun _=>(by kernel_rfl)
theorem qD6:∀n,Ok (Rn n) qIJ (qAT n)
 |0=>ok0 fun _=>rfl
 |n+1=>stO (T:=qF0 (qAT n) n) (by kernel_rfl) (qLi n (qD6 n)) [qNt n (qD6 n)] (fun _=>(by kernel_rfl)) fun _=>(by kernel_rfl)
def qPj:Sg:=⟨131,[aI],[],⟨aS,[],[]⟩⟩
def qHR (n:Nat) (x0:Int):Tr (BA):=(.ask ((x0==(1:Int))) (.done (⟨#[84,82,85,69]⟩:BA)) (.done (⟨#[70,65,76,83,69]⟩:BA)))
def qFR:Nat→Int→Option (BA)
 |0,_=>none
 |n+1,x0=>(qHR n x0).run
theorem qOa:∀n,Ok (Rn n) qPj (qFR n)
 |0=>ok0 fun _=>rfl
 |n+1=>stO (T:=qHR n) (by kernel_rfl) [] [] (fun _=>(by kernel_rfl)) fun _=>(by kernel_rfl)
def qMi:Sg:=⟨99,[(.agg [qI,qI,qS])],[],⟨aS,[],[]⟩⟩
def qBK (n:Nat) (x0 x1:Int) (x2:BA):Tr (BA):=(.opt (qZ n x0 x1 x2) fun r194=>(.ask ((!r194)) (.done (⟨#[]⟩:BA)) (.ask ((x0==(1:Int))) (.opt (qAT n x1) fun r199=>(.done r199)) (.ask ((x0==(2:Int))) (.ask (decide ((⟨#[39]⟩:BA).size+x2.size≤9223372036854775807)) (.done ((⟨#[39]⟩:BA)++x2)) .fail) (.ask ((x0==(3:Int))) (.opt (qFR n x1) fun r200=>(.done r200)) (.ask ((x0==(4:Int))) (.opt (qBN n x1) fun r201=>(.done r201)) (.done (⟨#[]⟩:BA))))))))
def qAR:Nat→Int→Int→BA→Option (BA)
 |0,_,_,_=>none
 |n+1,x0,x1,x2=>(qBK n x0 x1 x2).run
abbrev qMj (n:Nat):List (Ent (Rn n)):= [en (qEB n),en (qD6 n),en (qOa n),en (qGD n)]
theorem qG1:∀n,Ok (Rn n) qMi (qAR n)
 |0=>ok0 fun _=>rfl
 |n+1=>stO (T:=qBK n) (by kernel_rfl) (qMj n) [] (fun _=>(by kernel_rfl)) fun _=>(by kernel_rfl)
def qMk:Sg:=⟨64,[(.agg [qI,qI,qB,qB])],[],⟨aS,[],[]⟩⟩
def qDn (n:Nat) (x0 x1:Int) (x2 x3:Bool):Tr (BA):=(.opt (q9 n x0 x1) fun r203=>(.ask ((!r203)) (.done (⟨#[]⟩:BA)) (.opt (qCw n x0) fun r204=>(.ask (x2) (.ask (decide ((⟨#[36]⟩:BA).size+r204.size≤9223372036854775807)) (.ask (x3) (.ask (decide (((⟨#[36]⟩:BA)++r204).size+(⟨#[36]⟩:BA).size≤9223372036854775807)) (.opt (qAT n x1) fun r205=>(.ask (decide ((((⟨#[36]⟩:BA)++r204)++(⟨#[36]⟩:BA)).size+r205.size≤9223372036854775807)) (.done ((((⟨#[36]⟩:BA)++r204)++(⟨#[36]⟩:BA))++r205)) .fail)) .fail) (.opt (qAT n x1) fun r206=>(.ask (decide (((⟨#[36]⟩:BA)++r204).size+r206.size≤9223372036854775807)) (.done (((⟨#[36]⟩:BA)++r204)++r206)) .fail))) .fail) (.ask (x3) (.ask (decide (r204.size+(⟨#[36]⟩:BA).size≤9223372036854775807)) (.opt (qAT n x1) fun r207=>(.ask (decide ((r204++(⟨#[36]⟩:BA)).size+r207.size≤9223372036854775807)) (.done ((r204++(⟨#[36]⟩:BA))++r207)) .fail)) .fail) (.opt (qAT n x1) fun r208=>(.ask (decide (r204.size+r208.size≤9223372036854775807)) (.done (r204++r208)) .fail)))))))
def qA9:Nat→Int→Int→Bool→Bool→Option (BA)
 |0,_,_,_,_=>none
 |n+1,x0,x1,x2,x3=>(qDn n x0 x1 x2 x3).run
abbrev qMl (n:Nat):List (Ent (Rn n)):= [en (qD5 n),en (qIi n),en (qD6 n)]
theorem qG2:∀n,Ok (Rn n) qMk (qA9 n)
 |0=>ok0 fun _=>rfl
 |n+1=>stO (T:=qDn n) (by kernel_rfl) (qMl n) [] (fun _=>(by kernel_rfl)) fun _=>(by kernel_rfl)
def qHS:Sg:=⟨130,[aL,aI,aI],[],⟨aS,[],[]⟩⟩
def qBT (rec:RW→Int→Int→Option (BA)) (n:Nat) (v:RW×BA×Int×Int×Int×Int×Int×BA×Int×Int×Bool×Bool×Int×Int×Bool×Bool×RW):Tr ((RW×BA×Int×Int×Int×Int×Int×BA×Int×Int×Bool×Bool×Int×Int×Bool×Bool×RW)⊕((BA))):=(.ask ((decide (v.2.2.1<(v.2.2.2.2.2.2.2.2.2.2.2.2.2.2.2.2.length:Int)))) (.ask ((decide (v.2.2.1>(0:Int)))) (.ask (decide (v.2.1.size+(⟨#[44]⟩:BA).size≤9223372036854775807)) (.ask (decide (0≤v.2.2.1∧v.2.2.1<v.2.2.2.2.2.2.2.2.2.2.2.2.2.2.2.2.length)) (.opt (v.2.2.2.2.2.2.2.2.2.2.2.2.2.2.2.2[(v.2.2.1).toNat]?) fun e224=>(.ask (decide (e224.length=1)) (.opt (zI .i64 e224 0) fun y225=>(.opt (rec v.1 y225 (0:Int)) fun r226=>(.ask (decide ((v.2.1++(⟨#[44]⟩:BA)).size+r226.size≤9223372036854775807)) (.done (.inl (v.1,((v.2.1++(⟨#[44]⟩:BA))++r226),(IntKind.i64.wrap (v.2.2.1+(1:Int))),v.2.2.2.1,v.2.2.2.2.1,v.2.2.2.2.2.1,v.2.2.2.2.2.2.1,v.2.2.2.2.2.2.2.1,v.2.2.2.2.2.2.2.2.1,v.2.2.2.2.2.2.2.2.2.1,v.2.2.2.2.2.2.2.2.2.2.1,v.2.2.2.2.2.2.2.2.2.2.2.1,v.2.2.2.2.2.2.2.2.2.2.2.2.1,v.2.2.2.2.2.2.2.2.2.2.2.2.2.1,v.2.2.2.2.2.2.2.2.2.2.2.2.2.2.1,v.2.2.2.2.2.2.2.2.2.2.2.2.2.2.2.1,v.2.2.2.2.2.2.2.2.2.2.2.2.2.2.2.2))) .fail))) .fail)) .fail) .fail) (.ask (decide (0≤v.2.2.1∧v.2.2.1<v.2.2.2.2.2.2.2.2.2.2.2.2.2.2.2.2.length)) (.opt (v.2.2.2.2.2.2.2.2.2.2.2.2.2.2.2.2[(v.2.2.1).toNat]?) fun e227=>(.ask (decide (e227.length=1)) (.opt (zI .i64 e227 0) fun y228=>(.opt (rec v.1 y228 (0:Int)) fun r229=>(.ask (decide (v.2.1.size+r229.size≤9223372036854775807)) (.done (.inl (v.1,(v.2.1++r229),(IntKind.i64.wrap (v.2.2.1+(1:Int))),v.2.2.2.1,v.2.2.2.2.1,v.2.2.2.2.2.1,v.2.2.2.2.2.2.1,v.2.2.2.2.2.2.2.1,v.2.2.2.2.2.2.2.2.1,v.2.2.2.2.2.2.2.2.2.1,v.2.2.2.2.2.2.2.2.2.2.1,v.2.2.2.2.2.2.2.2.2.2.2.1,v.2.2.2.2.2.2.2.2.2.2.2.2.1,v.2.2.2.2.2.2.2.2.2.2.2.2.2.1,v.2.2.2.2.2.2.2.2.2.2.2.2.2.2.1,v.2.2.2.2.2.2.2.2.2.2.2.2.2.2.2.1,v.2.2.2.2.2.2.2.2.2.2.2.2.2.2.2.2))) .fail))) .fail)) .fail)) (.done (.inr (v.2.1))))
def qBq (rec:RW→Int→Int→Option (BA)) (n:Nat) (x0:RW) (x1 x2:Int):Tr (BA):=(.ask (decide (0≤x1∧x1<x0.length)) (.opt (x0[(x1).toNat]?) fun e176=>(.ask (decide (e176.length=14)) (.opt (zI .i64 e176 0) fun y177=>(.opt (zI .i64 e176 1) fun y178=>(.opt (zI .i64 e176 2) fun y179=>(.opt (zI .i64 e176 3) fun y180=>(.opt (zAG e176 4) fun y181=>(.opt (zI .i64 e176 5) fun y182=>(.opt (zI .i64 e176 6) fun y183=>(.opt (zAn e176 7) fun y184=>(.opt (zAn e176 8) fun y185=>(.opt (zI .i64 e176 9) fun y186=>(.opt (zI .i64 e176 10) fun y187=>(.opt (zAn e176 11) fun y188=>(.opt (zAn e176 12) fun y189=>(.opt (zA9 e176 13) fun y190=>(.ask ((y177==(1:Int))) (.ask ((y179==(2:Int))) (.opt (qEf n y181) fun r193=>(.done r193)) (.opt (qAR n y179 y180 y181) fun r202=>(.done r202))) (.ask ((y177==(2:Int))) (.opt (qA9 n y182 y183 y184 y185) fun r209=>(.done r209)) (.ask ((y177==(3:Int))) (.opt (qA9 n y182 y183 y184 y185) fun r210=>(.ask (decide (r210.size+(⟨#[58]⟩:BA).size≤9223372036854775807)) (.opt (qA9 n y186 y187 y188 y189) fun r211=>(.ask (decide ((r210++(⟨#[58]⟩:BA)).size+r211.size≤9223372036854775807)) (.done ((r210++(⟨#[58]⟩:BA))++r211)) .fail)) .fail)) (.ask ((y177==(4:Int))) (.ask (decide (0≤(0:Int)∧(0:Int)<y190.length)) (.opt (y190[((0:Int)).toNat]?) fun e212=>(.ask (decide (e212.length=1)) (.opt (zI .i64 e212 0) fun y213=>(.opt (rec x0 y213 (5:Int)) fun r214=>(.ask (decide ((⟨#[45]⟩:BA).size+r214.size≤9223372036854775807)) (.done ((⟨#[45]⟩:BA)++r214)) .fail))) .fail)) .fail) (.ask ((y177==(5:Int))) (.opt (qCH n y178) fun r215=>(.ask (decide (0≤(0:Int)∧(0:Int)<y190.length)) (.opt (y190[((0:Int)).toNat]?) fun e216=>(.ask (decide (e216.length=1)) (.opt (zI .i64 e216 0) fun y217=>(.ask (decide (0≤(1:Int)∧(1:Int)<y190.length)) (.opt (y190[((1:Int)).toNat]?) fun e218=>(.ask (decide (e218.length=1)) (.opt (zI .i64 e218 0) fun y219=>(.opt (rec x0 y217 r215) fun r220=>(.opt (qCj n y178) fun r221=>(.ask (decide (r220.size+r221.size≤9223372036854775807)) (.opt (rec x0 y219 (IntKind.i64.wrap (r215+(1:Int)))) fun r222=>(.ask (decide ((r220++r221).size+r222.size≤9223372036854775807)) (.ask ((decide (r215<x2))) (.ask (decide ((⟨#[40]⟩:BA).size+((r220++r221)++r222).size≤9223372036854775807)) (.ask (decide (((⟨#[40]⟩:BA)++((r220++r221)++r222)).size+(⟨#[41]⟩:BA).size≤9223372036854775807)) (.done (((⟨#[40]⟩:BA)++((r220++r221)++r222))++(⟨#[41]⟩:BA))) .fail) .fail) (.done ((r220++r221)++r222))) .fail)) .fail)))) .fail)) .fail)) .fail)) .fail)) (.opt (qCV n y178) fun r223=>(.ask (decide (r223.size+(⟨#[40]⟩:BA).size≤9223372036854775807)) (.opt (zF (qBT rec n) n (x0,(r223++(⟨#[40]⟩:BA)),(0:Int),y177,y178,y179,y180,y181,y182,y183,y184,y185,y186,y187,y188,y189,y190)) fun r230=>(.ask (decide (r230.size+(⟨#[41]⟩:BA).size≤9223372036854775807)) (.done (r230++(⟨#[41]⟩:BA))) .fail)) .fail))))))))))))))))))))) .fail)) .fail)
def ql:Nat→RW→Int→Int→Option (BA)
 |0,_,_,_=>none
 |n+1,x0,x1,x2=>(qBq (ql n) n x0 x1 x2).run
abbrev qKm (n:Nat) (ih:Ok (Rn n) qHS (ql n)):List (Ent (Rn n)):= [en (qNs n),en (qG1 n),en (qG2 n),en ih,en (qIk n),en (qJR n),en (qLf n)]
def qLj (n:Nat) (ih:Ok (Rn n) qHS (ql n)):LEnt (KB 130) (Rn n) n:=lok (zb 130) 125 ⟨⟨[(0,aL),(7,(.c (.ptr 0 448 0 0 0))),(10,aS),(11,aI)],[(448,⟨0,14,52,(.box [qI,qI,qI,qI,qS,qI,qI,qB,qB,qI,qI,qB,qB,qL])⟩)],[]⟩,[(.exit 1,⟨[(10,aS)],[],[]⟩)]⟩ (qBT (ql n) n) (qKm n ih) [] fun _=>(by kernel_rfl)
theorem qGK:∀n,Ok (Rn n) qHS (ql n)
 |0=>ok0 fun _=>rfl
 |n+1=>stO (T:=qBq (ql n) n) (by kernel_rfl) (qKm n (qGK n)) [qLj n (qGK n)] (fun _=>(by kernel_rfl)) fun _=>(by kernel_rfl)
def qK4:Sg:=⟨97,[aL],[],⟨aS,[],[]⟩⟩
def qDE (n:Nat) (x0:RW):Tr (BA):=(.opt (qBg n x0) fun r175=>(.ask ((!r175)) (.done (⟨#[]⟩:BA)) (.opt (ql n x0 (IntKind.i64.wrap ((x0.length:Int)-(1:Int))) (0:Int)) fun r231=>(.ask ((decide ((r231.size:Int)>(200:Int)))) (.done (⟨#[]⟩:BA)) (.done r231)))))
def qBh:Nat→RW→Option (BA)
 |0,_=>none
 |n+1,x0=>(qDE n x0).run
abbrev qK5 (n:Nat):List (Ent (Rn n)):= [en (qG0 n),en (qGK n)]
theorem qKO:∀n,Ok (Rn n) qK4 (qBh n)
 |0=>ok0 fun _=>rfl
 |n+1=>stO (T:=qDE n) (by kernel_rfl) (qK5 n) [] (fun _=>(by kernel_rfl)) fun _=>(by kernel_rfl)
def qNu:Sg:=⟨98,[aS],[],⟨(.tup [(true,[qI,qI,qS]),(false,[qB])]),[],[]⟩⟩
def qBi (n:Nat) (v:BA×Bool×Int×Int×BA):Tr ((BA×Bool×Int×Int×BA)⊕((BA×Bool×Int×Int×BA))):=(.ask ((decide ((v.1.size:Int)>(1:Int)))) (.ask (decide (0≤(0:Int))) (.opt (v.1.toList[((0:Int)).toNat]?) fun c234=>(.ask (((c234.toNat:Int)==(48:Int))) (.ask (decide (0≤(1:Int)∧(1:Int)≤(v.1.size:Int)∧(v.1.size:Int)≤v.1.size)) (.done (.inl ((v.1.extract ((1:Int)).toNat ((v.1.size:Int)).toNat),v.2.1,v.2.2.1,v.2.2.2.1,v.2.2.2.2))) .fail) (.done (.inr ((v.1,v.2.1,v.2.2.1,v.2.2.2.1,v.2.2.2.2)))))) .fail) (.done (.inr ((v.1,v.2.1,v.2.2.1,v.2.2.2.1,v.2.2.2.2)))))
def qIs (n:Nat) (x0:BA):Tr (Int×Int×BA×Bool):=(.ask ((decide ((x0.size:Int)>(0:Int)))) (.ask (decide (0≤(0:Int))) (.opt (x0.toList[((0:Int)).toNat]?) fun c233=>(.ask (((c233.toNat:Int)==(45:Int))) (.ask (decide (0≤(1:Int)∧(1:Int)≤(x0.size:Int)∧(x0.size:Int)≤x0.size)) (.ask (((x0.extract ((1:Int)).toNat ((x0.size:Int)).toNat).toList==(⟨#[]⟩:BA).toList)) (.done ((0:Int),(0:Int),(⟨#[]⟩:BA),false)) (.opt (zF (qBi n) n ((x0.extract ((1:Int)).toNat ((x0.size:Int)).toNat),((c233.toNat:Int)==(45:Int)),(0:Int),(0:Int),(⟨#[]⟩:BA))) fun r235=>(.opt (qm n r235.1 (16:Int)) fun r236=>(.ask (r235.2.1) (.ask (r236.2) (.opt (qZ n (1:Int) (IntKind.i64.wrap (0-r236.1)) (⟨#[]⟩:BA)) fun r237=>(.done ((1:Int),(IntKind.i64.wrap (0-r236.1)),(⟨#[]⟩:BA),r237))) (.done ((1:Int),(IntKind.i64.wrap (0-r236.1)),(⟨#[]⟩:BA),false))) (.ask (r236.2) (.opt (qZ n (1:Int) r236.1 (⟨#[]⟩:BA)) fun r238=>(.done ((1:Int),r236.1,(⟨#[]⟩:BA),r238))) (.done ((1:Int),r236.1,(⟨#[]⟩:BA),false))))))) .fail) (.ask ((x0.toList==(⟨#[]⟩:BA).toList)) (.done ((0:Int),(0:Int),(⟨#[]⟩:BA),false)) (.opt (zF (qBi n) n (x0,((c233.toNat:Int)==(45:Int)),(0:Int),(0:Int),(⟨#[]⟩:BA))) fun r239=>(.opt (qm n r239.1 (16:Int)) fun r240=>(.ask (r239.2.1) (.ask (r240.2) (.opt (qZ n (1:Int) (IntKind.i64.wrap (0-r240.1)) (⟨#[]⟩:BA)) fun r241=>(.done ((1:Int),(IntKind.i64.wrap (0-r240.1)),(⟨#[]⟩:BA),r241))) (.done ((1:Int),(IntKind.i64.wrap (0-r240.1)),(⟨#[]⟩:BA),false))) (.ask (r240.2) (.opt (qZ n (1:Int) r240.1 (⟨#[]⟩:BA)) fun r242=>(.done ((1:Int),r240.1,(⟨#[]⟩:BA),r242))) (.done ((1:Int),r240.1,(⟨#[]⟩:BA),false))))))))) .fail) (.ask ((x0.toList==(⟨#[]⟩:BA).toList)) (.done ((0:Int),(0:Int),(⟨#[]⟩:BA),false)) (.opt (zF (qBi n) n (x0,false,(0:Int),(0:Int),(⟨#[]⟩:BA))) fun r243=>(.opt (qm n r243.1 (16:Int)) fun r244=>(.ask (r243.2.1) (.ask (r244.2) (.opt (qZ n (1:Int) (IntKind.i64.wrap (0-r244.1)) (⟨#[]⟩:BA)) fun r245=>(.done ((1:Int),(IntKind.i64.wrap (0-r244.1)),(⟨#[]⟩:BA),r245))) (.done ((1:Int),(IntKind.i64.wrap (0-r244.1)),(⟨#[]⟩:BA),false))) (.ask (r244.2) (.opt (qZ n (1:Int) r244.1 (⟨#[]⟩:BA)) fun r246=>(.done ((1:Int),r244.1,(⟨#[]⟩:BA),r246))) (.done ((1:Int),r244.1,(⟨#[]⟩:BA),false))))))))
def qFl:Nat→BA→Option (Int×Int×BA×Bool)
 |0,_=>none
 |n+1,x0=>(qIs n x0).run
abbrev qIt (n:Nat):List (Ent (Rn n)):= [en (qFO n),en (qEB n)]
def qK6 (n:Nat):LEnt (KB 98) (Rn n) n:=lok (zb 98) 62 ⟨⟨[(0,aS),(2,(.c (.ptr 0 128 0 0 0))),(4,aB)],[(128,⟨0,3,45,(.box [qI,qI,qS])⟩)],[]⟩,[(.exit 0,⟨[(0,aS),(2,(.c (.ptr 0 128 0 0 0))),(4,aB)],[(128,⟨0,3,45,(.box [qI,qI,qS])⟩)],[]⟩)]⟩ (qBi n) (qIt n) [] fun _=>(by kernel_rfl)
theorem qMm:∀n,Ok (Rn n) qNu (qFl n)
 |0=>ok0 fun _=>rfl
 |n+1=>stO (T:=qIs n) (by kernel_rfl) (qIt n) [qK6 n] (fun _=>(by kernel_rfl)) fun _=>(by kernel_rfl)
def qOb:Sg:=⟨63,[aS],[],⟨(.tup [(false,[qS]),(false,[qB])]),[],[]⟩⟩
def qJW (n:Nat) (x0:BA):Tr (BA×Bool):=(.opt (qCG n x0) fun r23=>(.ask ((!r23)) (.done ((⟨#[]⟩:BA),false)) (.ask ((x0.toList==(⟨#[]⟩:BA).toList)) (.done ((⟨#[]⟩:BA),true)) (.ask (decide (0≤(0:Int))) (.opt (x0.toList[((0:Int)).toNat]?) fun c24=>(.ask (((c24.toNat:Int)==(61:Int))) (.ask (decide (0≤(1:Int)∧(1:Int)≤(x0.size:Int)∧(x0.size:Int)≤x0.size)) (.opt (qEJ n (x0.extract ((1:Int)).toNat ((x0.size:Int)).toNat)) fun r174=>(.opt (qBh n r174.1) fun r232=>(.ask ((!r174.2)) (.done ((⟨#[]⟩:BA),false)) (.ask ((r232.toList==(⟨#[]⟩:BA).toList)) (.done ((⟨#[]⟩:BA),false)) (.ask ((decide ((IntKind.i64.wrap ((r232.size:Int)+(1:Int)))>(200:Int)))) (.done ((⟨#[]⟩:BA),false)) (.ask (decide ((⟨#[61]⟩:BA).size+r232.size≤9223372036854775807)) (.done (((⟨#[61]⟩:BA)++r232),true)) .fail)))))) .fail) (.opt (qFl n x0) fun r247=>(.ask (r247.2.2.2) (.opt (qAR n r247.1 r247.2.1 r247.2.2.1) fun r248=>(.done (r248,true))) (.opt (qAH n x0) fun r249=>(.ask ((!r249.2.2.2)) (.opt (qAR n (2:Int) (0:Int) x0) fun r250=>(.ask ((decide ((r250.size:Int)>(200:Int)))) (.done ((⟨#[]⟩:BA),false)) (.done (r250,true)))) (.opt (qAR n r249.1 r249.2.1 r249.2.2.1) fun r251=>(.ask ((decide ((r251.size:Int)>(200:Int)))) (.done ((⟨#[]⟩:BA),false)) (.done (r251,true)))))))))) .fail))))
def qC2:Nat→BA→Option (BA×Bool)
 |0,_=>none
 |n+1,x0=>(qJW n x0).run
abbrev qOc (n:Nat):List (Ent (Rn n)):= [en (qFi n),en (qKN n),en (qKO n),en (qMm n),en (qG1 n),en (qGz n)]
theorem qIu:∀n,Ok (Rn n) qOb (qC2 n)
 |0=>ok0 fun _=>rfl
 |n+1=>stO (T:=qJW n) (by kernel_rfl) (qOc n) [] (fun _=>(by kernel_rfl)) fun _=>(by kernel_rfl)
def qLk:Sg:=⟨62,[aS],[],⟨aB,[],[]⟩⟩
def qEg (n:Nat) (x0:BA):Tr (Bool):=(.ask (decide ((⟨#[61]⟩:BA).size+x0.size≤9223372036854775807)) (.opt (qC2 n ((⟨#[61]⟩:BA)++x0)) fun r252=>(.ask (r252.2) (.ask (decide ((⟨#[61]⟩:BA).size+x0.size≤9223372036854775807)) (.done (r252.1.toList==((⟨#[61]⟩:BA)++x0).toList)) .fail) (.done false))) .fail)
def qBU:Nat→BA→Option (Bool)
 |0,_=>none
 |n+1,x0=>(qEg n x0).run
abbrev qLl (n:Nat):List (Ent (Rn n)):= [en (qIu n)]
theorem qK7:∀n,Ok (Rn n) qLk (qBU n)
 |0=>ok0 fun _=>rfl
 |n+1=>stO (T:=qEg n) (by kernel_rfl) (qLl n) [] (fun _=>(by kernel_rfl)) fun _=>(by kernel_rfl)
def qOd:Sg:=⟨31,[aL],[],⟨aB,[],[]⟩⟩
def qEh (n:Nat) (v:RW×Int):Tr ((RW×Int)⊕((Bool)⊕(Unit))):=(.ask ((decide (v.2<(v.1.length:Int)))) (.ask (decide (0≤v.2∧v.2<v.1.length)) (.opt (v.1[(v.2).toNat]?) fun e11=>(.ask (decide (e11.length=5)) (.opt (zI .i64 e11 0) fun y12=>(.opt (zI .i64 e11 1) fun y13=>(.opt (zI .i64 e11 2) fun y14=>(.opt (zAG e11 3) fun y15=>(.opt (zI .i64 e11 4) fun y16=>(.ask ((y12==(1:Int))) (.opt (q9 n y13 y14) fun r17=>(.ask ((!r17)) (.done (.inr (.inl (false)))) (.ask ((y16 !=(0:Int))) (.done (.inr (.inl (false)))) (.opt (qBU n y15) fun r18=>(.ask ((!r18)) (.done (.inr (.inl (false)))) (.done (.inl (v.1,(IntKind.i64.wrap (v.2+(1:Int))))))))))) (.ask ((y12==(2:Int))) (.opt (qC2 n y15) fun r19=>(.opt (q9 n y13 y14) fun r20=>(.ask ((!r20)) (.done (.inr (.inl (false)))) (.ask ((y16 !=(0:Int))) (.done (.inr (.inl (false)))) (.ask ((!r19.2)) (.done (.inr (.inl (false)))) (.ask ((!(r19.1.toList==y15.toList))) (.done (.inr (.inl (false)))) (.done (.inl (v.1,(IntKind.i64.wrap (v.2+(1:Int)))))))))))) (.ask ((y12==(3:Int))) (.ask ((!((y13==(0:Int))&&((y14==(0:Int))&&true)))) (.done (.inr (.inl (false)))) (.opt (qAj n y16 (1:Int) (IntKind.i64.wrap ((IntKind.i64.wrap ((v.1.length:Int)-(1:Int)))-v.2))) fun r21=>(.ask ((!r21)) (.done (.inr (.inl (false)))) (.opt (qBU n y15) fun r22=>(.ask ((!r22)) (.done (.inr (.inl (false)))) (.done (.inl (v.1,(IntKind.i64.wrap (v.2+(1:Int))))))))))) (.ask ((y12==(4:Int))) (.ask ((!((y13==(0:Int))&&((y14==(0:Int))&&true)))) (.done (.inr (.inl (false)))) (.opt (qAj n y16 (1:Int) v.2) fun r23=>(.ask ((!r23)) (.done (.inr (.inl (false)))) (.opt (qBU n y15) fun r24=>(.ask ((!r24)) (.done (.inr (.inl (false)))) (.done (.inl (v.1,(IntKind.i64.wrap (v.2+(1:Int))))))))))) (.ask ((y12==(5:Int))) (.ask ((!((y13==(0:Int))&&((y14==(0:Int))&&true)))) (.done (.inr (.inl (false)))) (.ask ((y16 !=(0:Int))) (.done (.inr (.inl (false)))) (.opt (qBU n y15) fun r25=>(.ask ((!r25)) (.done (.inr (.inl (false)))) (.done (.inl (v.1,(IntKind.i64.wrap (v.2+(1:Int)))))))))) (.done (.inr (.inl (false)))))))))))))) .fail)) .fail) (.done (.inr (.inr (())))))
def qGL (n:Nat) (x0:RW):Tr (Bool):=(.ask ((decide ((x0.length:Int)>(30:Int)))) (.done false) (.opt (zF (qEh n) n (x0,(0:Int))) fun r26=>(.alt r26 (fun r27=>(.done r27)) (fun r28=>(.done true)))))
def qEi:Nat→RW→Option (Bool)
 |0,_=>none
 |n+1,x0=>(qGL n x0).run
abbrev qJX (n:Nat):List (Ent (Rn n)):= [en (qD5 n),en (qK7 n),en (qIu n),en (qDm n)]
def qLm (n:Nat):LEnt (KB 31) (Rn n) n:=lok (zb 31) 29 ⟨⟨[(0,aL),(3,aI)],[],[]⟩,[(.ret,⟨[(2,aB)],[],[]⟩),(.exit 0,⟨[],[],[]⟩)]⟩ (qEh n) (qJX n) [] fun _=>(by kernel_rfl)
theorem qIv:∀n,Ok (Rn n) qOd (qEi n)
 |0=>ok0 fun _=>rfl
 |n+1=>stO (T:=qGL n) (by kernel_rfl) (qJX n) [qLm n] (fun _=>(by kernel_rfl)) fun _=>(by kernel_rfl)
def qMn:Sg:=⟨32,[aL],[],⟨aS,[],[]⟩⟩
def qDz (n:Nat) (v:RW×BA×Int):Tr ((RW×BA×Int)⊕((BA))):=(.ask ((decide (v.2.2<(v.1.length:Int)))) (.ask (decide (0≤v.2.2∧v.2.2<v.1.length)) (.opt (v.1[(v.2.2).toNat]?) fun e31=>(.ask (decide (e31.length=5)) (.opt (zI .i64 e31 0) fun y32=>(.opt (zI .i64 e31 1) fun y33=>(.opt (zI .i64 e31 2) fun y34=>(.opt (zAG e31 3) fun y35=>(.opt (zI .i64 e31 4) fun y36=>(.opt (qA9 n y33 y34 false false) fun r37=>(.ask ((y32==(1:Int))) (.ask (decide (v.2.1.size+(⟨#[115,101,116,32]⟩:BA).size≤9223372036854775807)) (.ask (decide ((v.2.1++(⟨#[115,101,116,32]⟩:BA)).size+r37.size≤9223372036854775807)) (.ask (decide (((v.2.1++(⟨#[115,101,116,32]⟩:BA))++r37).size+(⟨#[32]⟩:BA).size≤9223372036854775807)) (.ask (decide ((((v.2.1++(⟨#[115,101,116,32]⟩:BA))++r37)++(⟨#[32]⟩:BA)).size+y35.size≤9223372036854775807)) (.ask (decide (((((v.2.1++(⟨#[115,101,116,32]⟩:BA))++r37)++(⟨#[32]⟩:BA))++y35).size+(⟨#[10]⟩:BA).size≤9223372036854775807)) (.done (.inl (v.1,(((((v.2.1++(⟨#[115,101,116,32]⟩:BA))++r37)++(⟨#[32]⟩:BA))++y35)++(⟨#[10]⟩:BA)),(IntKind.i64.wrap (v.2.2+(1:Int)))))) .fail) .fail) .fail) .fail) .fail) (.ask ((y32==(2:Int))) (.ask (decide (v.2.1.size+(⟨#[112,117,116,32]⟩:BA).size≤9223372036854775807)) (.ask (decide ((v.2.1++(⟨#[112,117,116,32]⟩:BA)).size+r37.size≤9223372036854775807)) (.ask (decide (((v.2.1++(⟨#[112,117,116,32]⟩:BA))++r37).size+(⟨#[32]⟩:BA).size≤9223372036854775807)) (.ask (decide ((((v.2.1++(⟨#[112,117,116,32]⟩:BA))++r37)++(⟨#[32]⟩:BA)).size+y35.size≤9223372036854775807)) (.ask (decide (((((v.2.1++(⟨#[112,117,116,32]⟩:BA))++r37)++(⟨#[32]⟩:BA))++y35).size+(⟨#[10]⟩:BA).size≤9223372036854775807)) (.done (.inl (v.1,(((((v.2.1++(⟨#[112,117,116,32]⟩:BA))++r37)++(⟨#[32]⟩:BA))++y35)++(⟨#[10]⟩:BA)),(IntKind.i64.wrap (v.2.2+(1:Int)))))) .fail) .fail) .fail) .fail) .fail) (.ask ((y32==(3:Int))) (.ask (decide (v.2.1.size+(⟨#[117,110,108,101,115,115,32]⟩:BA).size≤9223372036854775807)) (.opt (qAT n y36) fun r38=>(.ask (decide ((v.2.1++(⟨#[117,110,108,101,115,115,32]⟩:BA)).size+r38.size≤9223372036854775807)) (.ask (decide (((v.2.1++(⟨#[117,110,108,101,115,115,32]⟩:BA))++r38).size+(⟨#[32]⟩:BA).size≤9223372036854775807)) (.ask (decide ((((v.2.1++(⟨#[117,110,108,101,115,115,32]⟩:BA))++r38)++(⟨#[32]⟩:BA)).size+y35.size≤9223372036854775807)) (.ask (decide (((((v.2.1++(⟨#[117,110,108,101,115,115,32]⟩:BA))++r38)++(⟨#[32]⟩:BA))++y35).size+(⟨#[10]⟩:BA).size≤9223372036854775807)) (.done (.inl (v.1,(((((v.2.1++(⟨#[117,110,108,101,115,115,32]⟩:BA))++r38)++(⟨#[32]⟩:BA))++y35)++(⟨#[10]⟩:BA)),(IntKind.i64.wrap (v.2.2+(1:Int)))))) .fail) .fail) .fail) .fail)) .fail) (.ask ((y32==(4:Int))) (.ask (decide (v.2.1.size+(⟨#[119,104,105,108,101,32]⟩:BA).size≤9223372036854775807)) (.opt (qAT n y36) fun r39=>(.ask (decide ((v.2.1++(⟨#[119,104,105,108,101,32]⟩:BA)).size+r39.size≤9223372036854775807)) (.ask (decide (((v.2.1++(⟨#[119,104,105,108,101,32]⟩:BA))++r39).size+(⟨#[32]⟩:BA).size≤9223372036854775807)) (.ask (decide ((((v.2.1++(⟨#[119,104,105,108,101,32]⟩:BA))++r39)++(⟨#[32]⟩:BA)).size+y35.size≤9223372036854775807)) (.ask (decide (((((v.2.1++(⟨#[119,104,105,108,101,32]⟩:BA))++r39)++(⟨#[32]⟩:BA))++y35).size+(⟨#[10]⟩:BA).size≤9223372036854775807)) (.done (.inl (v.1,(((((v.2.1++(⟨#[119,104,105,108,101,32]⟩:BA))++r39)++(⟨#[32]⟩:BA))++y35)++(⟨#[10]⟩:BA)),(IntKind.i64.wrap (v.2.2+(1:Int)))))) .fail) .fail) .fail) .fail)) .fail) (.ask ((y32==(5:Int))) (.ask (decide (v.2.1.size+(⟨#[97,98,111,114,116,32]⟩:BA).size≤9223372036854775807)) (.ask (decide ((v.2.1++(⟨#[97,98,111,114,116,32]⟩:BA)).size+y35.size≤9223372036854775807)) (.ask (decide (((v.2.1++(⟨#[97,98,111,114,116,32]⟩:BA))++y35).size+(⟨#[10]⟩:BA).size≤9223372036854775807)) (.done (.inl (v.1,(((v.2.1++(⟨#[97,98,111,114,116,32]⟩:BA))++y35)++(⟨#[10]⟩:BA)),(IntKind.i64.wrap (v.2.2+(1:Int)))))) .fail) .fail) .fail) (.ask (decide (v.2.1.size+(⟨#[10]⟩:BA).size≤9223372036854775807)) (.done (.inl (v.1,(v.2.1++(⟨#[10]⟩:BA)),(IntKind.i64.wrap (v.2.2+(1:Int)))))) .fail)))))))))))) .fail)) .fail) (.done (.inr (v.2.1))))
def qE6 (n:Nat) (x0:RW):Tr (BA):=(.opt (qEi n x0) fun r30=>(.ask ((!r30)) (.done (⟨#[]⟩:BA)) (.opt (zF (qDz n) n (x0,(⟨#[]⟩:BA),(0:Int))) fun r40=>(.done r40))))
def qE7:Nat→RW→Option (BA)
 |0,_=>none
 |n+1,x0=>(qE6 n x0).run
abbrev qHs (n:Nat):List (Ent (Rn n)):= [en (qIv n),en (qG2 n),en (qD6 n)]
def qKP (n:Nat):LEnt (KB 32) (Rn n) n:=lok (zb 32) 61 ⟨⟨[(0,aL),(3,aS),(4,aI)],[],[]⟩,[(.exit 0,⟨[(3,aS)],[],[]⟩)]⟩ (qDz n) (qHs n) [] fun _=>(by kernel_rfl)
theorem qLn:∀n,Ok (Rn n) qMn (qE7 n)
 |0=>ok0 fun _=>rfl
 |n+1=>stO (T:=qE6 n) (by kernel_rfl) (qHs n) [qKP n] (fun _=>(by kernel_rfl)) fun _=>(by kernel_rfl)
def qMo:Sg:=⟨10,[aS],[],⟨(.tup [(false,[(.own 0 0 0 0)]),(false,[qB])]),[],[⟨0,5,61,(.row [])⟩]⟩⟩
def qCX (n:Nat) (v:BA×RW×Nat×Int×RW):Tr ((BA×RW×Nat×Int×RW)⊕((BA×Nat×RW))):=(.ask ((decide (v.2.2.2.1<(v.2.1.length:Int)))) (.ask (decide (0≤v.2.2.2.1∧v.2.2.2.1<v.2.1.length)) (.opt (v.2.1[(v.2.2.2.1).toNat]?) fun e4=>(.ask (decide (e4.length=1)) (.opt (zAG e4 0) fun y5=>(.opt (qDP n y5) fun r6=>(.ask ((!(r6.1.toList==(⟨#[97,98,111,114,116]⟩:BA).toList))) (.opt (qDP n r6.2) fun r7=>(.opt (qAQ n r7.1) fun r8=>(.opt (qm n r7.1 (2:Int)) fun r9=>(.ask ((r6.1.toList==(⟨#[115,101,116]⟩:BA).toList)) (.ask ((r6.1.toList==(⟨#[115,101,116]⟩:BA).toList)) (.ask (decide (1=([[(.i .i64 (1:Int)),(.i .i64 r8.1),(.i .i64 r8.2.1),(.s r7.2),(.i .i64 (0:Int))]]:RW).length)) (.ask (decide (v.2.2.1=v.2.2.2.2.length∧0<5∧0<48∧(v.2.2.1+([[(.i .i64 (1:Int)),(.i .i64 r8.1),(.i .i64 r8.2.1),(.s r7.2),(.i .i64 (0:Int))]]:RW).length)*48≤140737488355328∧([[(.i .i64 (1:Int)),(.i .i64 r8.1),(.i .i64 r8.2.1),(.s r7.2),(.i .i64 (0:Int))]]:RW).all (fun e=>e.length==5)=true)) (.done (.inl (v.1,v.2.1,(v.2.2.1+1),(IntKind.i64.wrap (v.2.2.2.1+(1:Int))),(v.2.2.2.2++([[(.i .i64 (1:Int)),(.i .i64 r8.1),(.i .i64 r8.2.1),(.s r7.2),(.i .i64 (0:Int))]]:RW))))) .fail) .fail) (.ask ((r6.1.toList==(⟨#[112,117,116]⟩:BA).toList)) (.ask (decide (1=([[(.i .i64 (2:Int)),(.i .i64 r8.1),(.i .i64 r8.2.1),(.s r7.2),(.i .i64 (0:Int))]]:RW).length)) (.ask (decide (v.2.2.1=v.2.2.2.2.length∧0<5∧0<48∧(v.2.2.1+([[(.i .i64 (2:Int)),(.i .i64 r8.1),(.i .i64 r8.2.1),(.s r7.2),(.i .i64 (0:Int))]]:RW).length)*48≤140737488355328∧([[(.i .i64 (2:Int)),(.i .i64 r8.1),(.i .i64 r8.2.1),(.s r7.2),(.i .i64 (0:Int))]]:RW).all (fun e=>e.length==5)=true)) (.done (.inl (v.1,v.2.1,(v.2.2.1+1),(IntKind.i64.wrap (v.2.2.2.1+(1:Int))),(v.2.2.2.2++([[(.i .i64 (2:Int)),(.i .i64 r8.1),(.i .i64 r8.2.1),(.s r7.2),(.i .i64 (0:Int))]]:RW))))) .fail) .fail) (.ask ((r6.1.toList==(⟨#[117,110,108,101,115,115]⟩:BA).toList)) (.ask (decide (1=([[(.i .i64 (3:Int)),(.i .i64 r8.1),(.i .i64 r8.2.1),(.s r7.2),(.i .i64 (0:Int))]]:RW).length)) (.ask (decide (v.2.2.1=v.2.2.2.2.length∧0<5∧0<48∧(v.2.2.1+([[(.i .i64 (3:Int)),(.i .i64 r8.1),(.i .i64 r8.2.1),(.s r7.2),(.i .i64 (0:Int))]]:RW).length)*48≤140737488355328∧([[(.i .i64 (3:Int)),(.i .i64 r8.1),(.i .i64 r8.2.1),(.s r7.2),(.i .i64 (0:Int))]]:RW).all (fun e=>e.length==5)=true)) (.done (.inl (v.1,v.2.1,(v.2.2.1+1),(IntKind.i64.wrap (v.2.2.2.1+(1:Int))),(v.2.2.2.2++([[(.i .i64 (3:Int)),(.i .i64 r8.1),(.i .i64 r8.2.1),(.s r7.2),(.i .i64 (0:Int))]]:RW))))) .fail) .fail) (.ask ((r6.1.toList==(⟨#[119,104,105,108,101]⟩:BA).toList)) (.ask (decide (1=([[(.i .i64 (4:Int)),(.i .i64 r8.1),(.i .i64 r8.2.1),(.s r7.2),(.i .i64 (0:Int))]]:RW).length)) (.ask (decide (v.2.2.1=v.2.2.2.2.length∧0<5∧0<48∧(v.2.2.1+([[(.i .i64 (4:Int)),(.i .i64 r8.1),(.i .i64 r8.2.1),(.s r7.2),(.i .i64 (0:Int))]]:RW).length)*48≤140737488355328∧([[(.i .i64 (4:Int)),(.i .i64 r8.1),(.i .i64 r8.2.1),(.s r7.2),(.i .i64 (0:Int))]]:RW).all (fun e=>e.length==5)=true)) (.done (.inl (v.1,v.2.1,(v.2.2.1+1),(IntKind.i64.wrap (v.2.2.2.1+(1:Int))),(v.2.2.2.2++([[(.i .i64 (4:Int)),(.i .i64 r8.1),(.i .i64 r8.2.1),(.s r7.2),(.i .i64 (0:Int))]]:RW))))) .fail) .fail) (.ask ((r6.1.toList==(⟨#[97,98,111,114,116]⟩:BA).toList)) (.ask (decide (1=([[(.i .i64 (5:Int)),(.i .i64 r8.1),(.i .i64 r8.2.1),(.s r7.2),(.i .i64 (0:Int))]]:RW).length)) (.ask (decide (v.2.2.1=v.2.2.2.2.length∧0<5∧0<48∧(v.2.2.1+([[(.i .i64 (5:Int)),(.i .i64 r8.1),(.i .i64 r8.2.1),(.s r7.2),(.i .i64 (0:Int))]]:RW).length)*48≤140737488355328∧([[(.i .i64 (5:Int)),(.i .i64 r8.1),(.i .i64 r8.2.1),(.s r7.2),(.i .i64 (0:Int))]]:RW).all (fun e=>e.length==5)=true)) (.done (.inl (v.1,v.2.1,(v.2.2.1+1),(IntKind.i64.wrap (v.2.2.2.1+(1:Int))),(v.2.2.2.2++([[(.i .i64 (5:Int)),(.i .i64 r8.1),(.i .i64 r8.2.1),(.s r7.2),(.i .i64 (0:Int))]]:RW))))) .fail) .fail) (.ask (decide (1=([[(.i .i64 (0:Int)),(.i .i64 r8.1),(.i .i64 r8.2.1),(.s r7.2),(.i .i64 (0:Int))]]:RW).length)) (.ask (decide (v.2.2.1=v.2.2.2.2.length∧0<5∧0<48∧(v.2.2.1+([[(.i .i64 (0:Int)),(.i .i64 r8.1),(.i .i64 r8.2.1),(.s r7.2),(.i .i64 (0:Int))]]:RW).length)*48≤140737488355328∧([[(.i .i64 (0:Int)),(.i .i64 r8.1),(.i .i64 r8.2.1),(.s r7.2),(.i .i64 (0:Int))]]:RW).all (fun e=>e.length==5)=true)) (.done (.inl (v.1,v.2.1,(v.2.2.1+1),(IntKind.i64.wrap (v.2.2.2.1+(1:Int))),(v.2.2.2.2++([[(.i .i64 (0:Int)),(.i .i64 r8.1),(.i .i64 r8.2.1),(.s r7.2),(.i .i64 (0:Int))]]:RW))))) .fail) .fail)))))) (.ask ((r6.1.toList==(⟨#[112,117,116]⟩:BA).toList)) (.ask ((r6.1.toList==(⟨#[115,101,116]⟩:BA).toList)) (.ask (decide (1=([[(.i .i64 (1:Int)),(.i .i64 r8.1),(.i .i64 r8.2.1),(.s r7.2),(.i .i64 (0:Int))]]:RW).length)) (.ask (decide (v.2.2.1=v.2.2.2.2.length∧0<5∧0<48∧(v.2.2.1+([[(.i .i64 (1:Int)),(.i .i64 r8.1),(.i .i64 r8.2.1),(.s r7.2),(.i .i64 (0:Int))]]:RW).length)*48≤140737488355328∧([[(.i .i64 (1:Int)),(.i .i64 r8.1),(.i .i64 r8.2.1),(.s r7.2),(.i .i64 (0:Int))]]:RW).all (fun e=>e.length==5)=true)) (.done (.inl (v.1,v.2.1,(v.2.2.1+1),(IntKind.i64.wrap (v.2.2.2.1+(1:Int))),(v.2.2.2.2++([[(.i .i64 (1:Int)),(.i .i64 r8.1),(.i .i64 r8.2.1),(.s r7.2),(.i .i64 (0:Int))]]:RW))))) .fail) .fail) (.ask ((r6.1.toList==(⟨#[112,117,116]⟩:BA).toList)) (.ask (decide (1=([[(.i .i64 (2:Int)),(.i .i64 r8.1),(.i .i64 r8.2.1),(.s r7.2),(.i .i64 (0:Int))]]:RW).length)) (.ask (decide (v.2.2.1=v.2.2.2.2.length∧0<5∧0<48∧(v.2.2.1+([[(.i .i64 (2:Int)),(.i .i64 r8.1),(.i .i64 r8.2.1),(.s r7.2),(.i .i64 (0:Int))]]:RW).length)*48≤140737488355328∧([[(.i .i64 (2:Int)),(.i .i64 r8.1),(.i .i64 r8.2.1),(.s r7.2),(.i .i64 (0:Int))]]:RW).all (fun e=>e.length==5)=true)) (.done (.inl (v.1,v.2.1,(v.2.2.1+1),(IntKind.i64.wrap (v.2.2.2.1+(1:Int))),(v.2.2.2.2++([[(.i .i64 (2:Int)),(.i .i64 r8.1),(.i .i64 r8.2.1),(.s r7.2),(.i .i64 (0:Int))]]:RW))))) .fail) .fail) (.ask ((r6.1.toList==(⟨#[117,110,108,101,115,115]⟩:BA).toList)) (.ask (decide (1=([[(.i .i64 (3:Int)),(.i .i64 r8.1),(.i .i64 r8.2.1),(.s r7.2),(.i .i64 (0:Int))]]:RW).length)) (.ask (decide (v.2.2.1=v.2.2.2.2.length∧0<5∧0<48∧(v.2.2.1+([[(.i .i64 (3:Int)),(.i .i64 r8.1),(.i .i64 r8.2.1),(.s r7.2),(.i .i64 (0:Int))]]:RW).length)*48≤140737488355328∧([[(.i .i64 (3:Int)),(.i .i64 r8.1),(.i .i64 r8.2.1),(.s r7.2),(.i .i64 (0:Int))]]:RW).all (fun e=>e.length==5)=true)) (.done (.inl (v.1,v.2.1,(v.2.2.1+1),(IntKind.i64.wrap (v.2.2.2.1+(1:Int))),(v.2.2.2.2++([[(.i .i64 (3:Int)),(.i .i64 r8.1),(.i .i64 r8.2.1),(.s r7.2),(.i .i64 (0:Int))]]:RW))))) .fail) .fail) (.ask ((r6.1.toList==(⟨#[119,104,105,108,101]⟩:BA).toList)) (.ask (decide (1=([[(.i .i64 (4:Int)),(.i .i64 r8.1),(.i .i64 r8.2.1),(.s r7.2),(.i .i64 (0:Int))]]:RW).length)) (.ask (decide (v.2.2.1=v.2.2.2.2.length∧0<5∧0<48∧(v.2.2.1+([[(.i .i64 (4:Int)),(.i .i64 r8.1),(.i .i64 r8.2.1),(.s r7.2),(.i .i64 (0:Int))]]:RW).length)*48≤140737488355328∧([[(.i .i64 (4:Int)),(.i .i64 r8.1),(.i .i64 r8.2.1),(.s r7.2),(.i .i64 (0:Int))]]:RW).all (fun e=>e.length==5)=true)) (.done (.inl (v.1,v.2.1,(v.2.2.1+1),(IntKind.i64.wrap (v.2.2.2.1+(1:Int))),(v.2.2.2.2++([[(.i .i64 (4:Int)),(.i .i64 r8.1),(.i .i64 r8.2.1),(.s r7.2),(.i .i64 (0:Int))]]:RW))))) .fail) .fail) (.ask ((r6.1.toList==(⟨#[97,98,111,114,116]⟩:BA).toList)) (.ask (decide (1=([[(.i .i64 (5:Int)),(.i .i64 r8.1),(.i .i64 r8.2.1),(.s r7.2),(.i .i64 (0:Int))]]:RW).length)) (.ask (decide (v.2.2.1=v.2.2.2.2.length∧0<5∧0<48∧(v.2.2.1+([[(.i .i64 (5:Int)),(.i .i64 r8.1),(.i .i64 r8.2.1),(.s r7.2),(.i .i64 (0:Int))]]:RW).length)*48≤140737488355328∧([[(.i .i64 (5:Int)),(.i .i64 r8.1),(.i .i64 r8.2.1),(.s r7.2),(.i .i64 (0:Int))]]:RW).all (fun e=>e.length==5)=true)) (.done (.inl (v.1,v.2.1,(v.2.2.1+1),(IntKind.i64.wrap (v.2.2.2.1+(1:Int))),(v.2.2.2.2++([[(.i .i64 (5:Int)),(.i .i64 r8.1),(.i .i64 r8.2.1),(.s r7.2),(.i .i64 (0:Int))]]:RW))))) .fail) .fail) (.ask (decide (1=([[(.i .i64 (0:Int)),(.i .i64 r8.1),(.i .i64 r8.2.1),(.s r7.2),(.i .i64 (0:Int))]]:RW).length)) (.ask (decide (v.2.2.1=v.2.2.2.2.length∧0<5∧0<48∧(v.2.2.1+([[(.i .i64 (0:Int)),(.i .i64 r8.1),(.i .i64 r8.2.1),(.s r7.2),(.i .i64 (0:Int))]]:RW).length)*48≤140737488355328∧([[(.i .i64 (0:Int)),(.i .i64 r8.1),(.i .i64 r8.2.1),(.s r7.2),(.i .i64 (0:Int))]]:RW).all (fun e=>e.length==5)=true)) (.done (.inl (v.1,v.2.1,(v.2.2.1+1),(IntKind.i64.wrap (v.2.2.2.1+(1:Int))),(v.2.2.2.2++([[(.i .i64 (0:Int)),(.i .i64 r8.1),(.i .i64 r8.2.1),(.s r7.2),(.i .i64 (0:Int))]]:RW))))) .fail) .fail)))))) (.ask ((r6.1.toList==(⟨#[115,101,116]⟩:BA).toList)) (.ask (decide (1=([[(.i .i64 (1:Int)),(.i .i64 (0:Int)),(.i .i64 (0:Int)),(.s r7.2),(.i .i64 r9.1)]]:RW).length)) (.ask (decide (v.2.2.1=v.2.2.2.2.length∧0<5∧0<48∧(v.2.2.1+([[(.i .i64 (1:Int)),(.i .i64 (0:Int)),(.i .i64 (0:Int)),(.s r7.2),(.i .i64 r9.1)]]:RW).length)*48≤140737488355328∧([[(.i .i64 (1:Int)),(.i .i64 (0:Int)),(.i .i64 (0:Int)),(.s r7.2),(.i .i64 r9.1)]]:RW).all (fun e=>e.length==5)=true)) (.done (.inl (v.1,v.2.1,(v.2.2.1+1),(IntKind.i64.wrap (v.2.2.2.1+(1:Int))),(v.2.2.2.2++([[(.i .i64 (1:Int)),(.i .i64 (0:Int)),(.i .i64 (0:Int)),(.s r7.2),(.i .i64 r9.1)]]:RW))))) .fail) .fail) (.ask ((r6.1.toList==(⟨#[112,117,116]⟩:BA).toList)) (.ask (decide (1=([[(.i .i64 (2:Int)),(.i .i64 (0:Int)),(.i .i64 (0:Int)),(.s r7.2),(.i .i64 r9.1)]]:RW).length)) (.ask (decide (v.2.2.1=v.2.2.2.2.length∧0<5∧0<48∧(v.2.2.1+([[(.i .i64 (2:Int)),(.i .i64 (0:Int)),(.i .i64 (0:Int)),(.s r7.2),(.i .i64 r9.1)]]:RW).length)*48≤140737488355328∧([[(.i .i64 (2:Int)),(.i .i64 (0:Int)),(.i .i64 (0:Int)),(.s r7.2),(.i .i64 r9.1)]]:RW).all (fun e=>e.length==5)=true)) (.done (.inl (v.1,v.2.1,(v.2.2.1+1),(IntKind.i64.wrap (v.2.2.2.1+(1:Int))),(v.2.2.2.2++([[(.i .i64 (2:Int)),(.i .i64 (0:Int)),(.i .i64 (0:Int)),(.s r7.2),(.i .i64 r9.1)]]:RW))))) .fail) .fail) (.ask ((r6.1.toList==(⟨#[117,110,108,101,115,115]⟩:BA).toList)) (.ask (decide (1=([[(.i .i64 (3:Int)),(.i .i64 (0:Int)),(.i .i64 (0:Int)),(.s r7.2),(.i .i64 r9.1)]]:RW).length)) (.ask (decide (v.2.2.1=v.2.2.2.2.length∧0<5∧0<48∧(v.2.2.1+([[(.i .i64 (3:Int)),(.i .i64 (0:Int)),(.i .i64 (0:Int)),(.s r7.2),(.i .i64 r9.1)]]:RW).length)*48≤140737488355328∧([[(.i .i64 (3:Int)),(.i .i64 (0:Int)),(.i .i64 (0:Int)),(.s r7.2),(.i .i64 r9.1)]]:RW).all (fun e=>e.length==5)=true)) (.done (.inl (v.1,v.2.1,(v.2.2.1+1),(IntKind.i64.wrap (v.2.2.2.1+(1:Int))),(v.2.2.2.2++([[(.i .i64 (3:Int)),(.i .i64 (0:Int)),(.i .i64 (0:Int)),(.s r7.2),(.i .i64 r9.1)]]:RW))))) .fail) .fail) (.ask ((r6.1.toList==(⟨#[119,104,105,108,101]⟩:BA).toList)) (.ask (decide (1=([[(.i .i64 (4:Int)),(.i .i64 (0:Int)),(.i .i64 (0:Int)),(.s r7.2),(.i .i64 r9.1)]]:RW).length)) (.ask (decide (v.2.2.1=v.2.2.2.2.length∧0<5∧0<48∧(v.2.2.1+([[(.i .i64 (4:Int)),(.i .i64 (0:Int)),(.i .i64 (0:Int)),(.s r7.2),(.i .i64 r9.1)]]:RW).length)*48≤140737488355328∧([[(.i .i64 (4:Int)),(.i .i64 (0:Int)),(.i .i64 (0:Int)),(.s r7.2),(.i .i64 r9.1)]]:RW).all (fun e=>e.length==5)=true)) (.done (.inl (v.1,v.2.1,(v.2.2.1+1),(IntKind.i64.wrap (v.2.2.2.1+(1:Int))),(v.2.2.2.2++([[(.i .i64 (4:Int)),(.i .i64 (0:Int)),(.i .i64 (0:Int)),(.s r7.2),(.i .i64 r9.1)]]:RW))))) .fail) .fail) (.ask ((r6.1.toList==(⟨#[97,98,111,114,116]⟩:BA).toList)) (.ask (decide (1=([[(.i .i64 (5:Int)),(.i .i64 (0:Int)),(.i .i64 (0:Int)),(.s r7.2),(.i .i64 r9.1)]]:RW).length)) (.ask (decide (v.2.2.1=v.2.2.2.2.length∧0<5∧0<48∧(v.2.2.1+([[(.i .i64 (5:Int)),(.i .i64 (0:Int)),(.i .i64 (0:Int)),(.s r7.2),(.i .i64 r9.1)]]:RW).length)*48≤140737488355328∧([[(.i .i64 (5:Int)),(.i .i64 (0:Int)),(.i .i64 (0:Int)),(.s r7.2),(.i .i64 r9.1)]]:RW).all (fun e=>e.length==5)=true)) (.done (.inl (v.1,v.2.1,(v.2.2.1+1),(IntKind.i64.wrap (v.2.2.2.1+(1:Int))),(v.2.2.2.2++([[(.i .i64 (5:Int)),(.i .i64 (0:Int)),(.i .i64 (0:Int)),(.s r7.2),(.i .i64 r9.1)]]:RW))))) .fail) .fail) (.ask (decide (1=([[(.i .i64 (0:Int)),(.i .i64 (0:Int)),(.i .i64 (0:Int)),(.s r7.2),(.i .i64 r9.1)]]:RW).length)) (.ask (decide (v.2.2.1=v.2.2.2.2.length∧0<5∧0<48∧(v.2.2.1+([[(.i .i64 (0:Int)),(.i .i64 (0:Int)),(.i .i64 (0:Int)),(.s r7.2),(.i .i64 r9.1)]]:RW).length)*48≤140737488355328∧([[(.i .i64 (0:Int)),(.i .i64 (0:Int)),(.i .i64 (0:Int)),(.s r7.2),(.i .i64 r9.1)]]:RW).all (fun e=>e.length==5)=true)) (.done (.inl (v.1,v.2.1,(v.2.2.1+1),(IntKind.i64.wrap (v.2.2.2.1+(1:Int))),(v.2.2.2.2++([[(.i .i64 (0:Int)),(.i .i64 (0:Int)),(.i .i64 (0:Int)),(.s r7.2),(.i .i64 r9.1)]]:RW))))) .fail) .fail))))))))))) (.ask ((r6.1.toList==(⟨#[115,101,116]⟩:BA).toList)) (.ask (decide (1=([[(.i .i64 (1:Int)),(.i .i64 (0:Int)),(.i .i64 (0:Int)),(.s r6.2),(.i .i64 (0:Int))]]:RW).length)) (.ask (decide (v.2.2.1=v.2.2.2.2.length∧0<5∧0<48∧(v.2.2.1+([[(.i .i64 (1:Int)),(.i .i64 (0:Int)),(.i .i64 (0:Int)),(.s r6.2),(.i .i64 (0:Int))]]:RW).length)*48≤140737488355328∧([[(.i .i64 (1:Int)),(.i .i64 (0:Int)),(.i .i64 (0:Int)),(.s r6.2),(.i .i64 (0:Int))]]:RW).all (fun e=>e.length==5)=true)) (.done (.inl (v.1,v.2.1,(v.2.2.1+1),(IntKind.i64.wrap (v.2.2.2.1+(1:Int))),(v.2.2.2.2++([[(.i .i64 (1:Int)),(.i .i64 (0:Int)),(.i .i64 (0:Int)),(.s r6.2),(.i .i64 (0:Int))]]:RW))))) .fail) .fail) (.ask ((r6.1.toList==(⟨#[112,117,116]⟩:BA).toList)) (.ask (decide (1=([[(.i .i64 (2:Int)),(.i .i64 (0:Int)),(.i .i64 (0:Int)),(.s r6.2),(.i .i64 (0:Int))]]:RW).length)) (.ask (decide (v.2.2.1=v.2.2.2.2.length∧0<5∧0<48∧(v.2.2.1+([[(.i .i64 (2:Int)),(.i .i64 (0:Int)),(.i .i64 (0:Int)),(.s r6.2),(.i .i64 (0:Int))]]:RW).length)*48≤140737488355328∧([[(.i .i64 (2:Int)),(.i .i64 (0:Int)),(.i .i64 (0:Int)),(.s r6.2),(.i .i64 (0:Int))]]:RW).all (fun e=>e.length==5)=true)) (.done (.inl (v.1,v.2.1,(v.2.2.1+1),(IntKind.i64.wrap (v.2.2.2.1+(1:Int))),(v.2.2.2.2++([[(.i .i64 (2:Int)),(.i .i64 (0:Int)),(.i .i64 (0:Int)),(.s r6.2),(.i .i64 (0:Int))]]:RW))))) .fail) .fail) (.ask ((r6.1.toList==(⟨#[117,110,108,101,115,115]⟩:BA).toList)) (.ask (decide (1=([[(.i .i64 (3:Int)),(.i .i64 (0:Int)),(.i .i64 (0:Int)),(.s r6.2),(.i .i64 (0:Int))]]:RW).length)) (.ask (decide (v.2.2.1=v.2.2.2.2.length∧0<5∧0<48∧(v.2.2.1+([[(.i .i64 (3:Int)),(.i .i64 (0:Int)),(.i .i64 (0:Int)),(.s r6.2),(.i .i64 (0:Int))]]:RW).length)*48≤140737488355328∧([[(.i .i64 (3:Int)),(.i .i64 (0:Int)),(.i .i64 (0:Int)),(.s r6.2),(.i .i64 (0:Int))]]:RW).all (fun e=>e.length==5)=true)) (.done (.inl (v.1,v.2.1,(v.2.2.1+1),(IntKind.i64.wrap (v.2.2.2.1+(1:Int))),(v.2.2.2.2++([[(.i .i64 (3:Int)),(.i .i64 (0:Int)),(.i .i64 (0:Int)),(.s r6.2),(.i .i64 (0:Int))]]:RW))))) .fail) .fail) (.ask ((r6.1.toList==(⟨#[119,104,105,108,101]⟩:BA).toList)) (.ask (decide (1=([[(.i .i64 (4:Int)),(.i .i64 (0:Int)),(.i .i64 (0:Int)),(.s r6.2),(.i .i64 (0:Int))]]:RW).length)) (.ask (decide (v.2.2.1=v.2.2.2.2.length∧0<5∧0<48∧(v.2.2.1+([[(.i .i64 (4:Int)),(.i .i64 (0:Int)),(.i .i64 (0:Int)),(.s r6.2),(.i .i64 (0:Int))]]:RW).length)*48≤140737488355328∧([[(.i .i64 (4:Int)),(.i .i64 (0:Int)),(.i .i64 (0:Int)),(.s r6.2),(.i .i64 (0:Int))]]:RW).all (fun e=>e.length==5)=true)) (.done (.inl (v.1,v.2.1,(v.2.2.1+1),(IntKind.i64.wrap (v.2.2.2.1+(1:Int))),(v.2.2.2.2++([[(.i .i64 (4:Int)),(.i .i64 (0:Int)),(.i .i64 (0:Int)),(.s r6.2),(.i .i64 (0:Int))]]:RW))))) .fail) .fail) (.ask ((r6.1.toList==(⟨#[97,98,111,114,116]⟩:BA).toList)) (.ask (decide (1=([[(.i .i64 (5:Int)),(.i .i64 (0:Int)),(.i .i64 (0:Int)),(.s r6.2),(.i .i64 (0:Int))]]:RW).length)) (.ask (decide (v.2.2.1=v.2.2.2.2.length∧0<5∧0<48∧(v.2.2.1+([[(.i .i64 (5:Int)),(.i .i64 (0:Int)),(.i .i64 (0:Int)),(.s r6.2),(.i .i64 (0:Int))]]:RW).length)*48≤140737488355328∧([[(.i .i64 (5:Int)),(.i .i64 (0:Int)),(.i .i64 (0:Int)),(.s r6.2),(.i .i64 (0:Int))]]:RW).all (fun e=>e.length==5)=true)) (.done (.inl (v.1,v.2.1,(v.2.2.1+1),(IntKind.i64.wrap (v.2.2.2.1+(1:Int))),(v.2.2.2.2++([[(.i .i64 (5:Int)),(.i .i64 (0:Int)),(.i .i64 (0:Int)),(.s r6.2),(.i .i64 (0:Int))]]:RW))))) .fail) .fail) (.ask (decide (1=([[(.i .i64 (0:Int)),(.i .i64 (0:Int)),(.i .i64 (0:Int)),(.s r6.2),(.i .i64 (0:Int))]]:RW).length)) (.ask (decide (v.2.2.1=v.2.2.2.2.length∧0<5∧0<48∧(v.2.2.1+([[(.i .i64 (0:Int)),(.i .i64 (0:Int)),(.i .i64 (0:Int)),(.s r6.2),(.i .i64 (0:Int))]]:RW).length)*48≤140737488355328∧([[(.i .i64 (0:Int)),(.i .i64 (0:Int)),(.i .i64 (0:Int)),(.s r6.2),(.i .i64 (0:Int))]]:RW).all (fun e=>e.length==5)=true)) (.done (.inl (v.1,v.2.1,(v.2.2.1+1),(IntKind.i64.wrap (v.2.2.2.1+(1:Int))),(v.2.2.2.2++([[(.i .i64 (0:Int)),(.i .i64 (0:Int)),(.i .i64 (0:Int)),(.s r6.2),(.i .i64 (0:Int))]]:RW))))) .fail) .fail))))))))) .fail)) .fail) (.done (.inr ((v.1,v.2.2.1,v.2.2.2.2)))))
def qE8 (n:Nat) (x0:BA):Tr (Nat×Bool×RW):=(.opt (qFh n x0) fun r3=>(.ask ((!r3.2)) (.done ((0:Nat),false,([]:RW))) (.ask ((decide ((r3.1.length:Int)>(30:Int)))) (.done ((0:Nat),false,([]:RW))) (.opt (zF (qCX n) n (x0,r3.1,(0:Nat),(0:Int),([]:RW))) fun r10=>(.ask (decide (r10.2.1=r10.2.2.length)) (.opt (qEi n r10.2.2) fun r29=>(.ask (zAj (⟨(.c (.p (.b r29))),[],[]⟩:Res)) (.ask ((!r29)) (.done ((0:Nat),false,([]:RW))) (.ask (decide (r10.2.1=r10.2.2.length)) (.opt (qE7 n r10.2.2) fun r41=>(.ask (zAj (⟨(.c (.p (.s r41))),[],[]⟩:Res)) (.ask ((!(r41.toList==r10.1.toList))) (.done ((0:Nat),false,([]:RW))) (.done (r10.2.1,true,r10.2.2))) .fail)) .fail)) .fail)) .fail)))))
def qE9:Nat→BA→Option (Nat×Bool×RW)
 |0,_=>none
 |n+1,x0=>(qE8 n x0).run
abbrev qHt (n:Nat):List (Ent (Rn n)):= [en (qMX n),en (qOM n),en (qEc n),en (qFO n),en (qIv n),en (qLn n)]
def qJY (n:Nat):LEnt (KB 10) (Rn n) n:=lok (zb 10) 125 ⟨⟨[(0,aS),(4,aL),(6,(.c (.own 0 1856 0 0))),(7,aI)],[(1856,⟨0,5,61,(.row [])⟩)],[]⟩,[(.exit 0,⟨[(0,aS),(6,(.c (.own 0 1856 0 0)))],[(1856,⟨0,5,61,(.row [])⟩)],[]⟩)]⟩ (qCX n) (qHt n) [] fun _=>(by kernel_rfl)
theorem qLo:∀n,Ok (Rn n) qMo (qE9 n)
 |0=>ok0 fun _=>rfl
 |n+1=>stO (T:=qE8 n) (by kernel_rfl) (qHt n) [qJY n] (fun _=>(by kernel_rfl)) fun _=>(by kernel_rfl)
def qHu:Sg:=⟨33,[aS,aS,aI],[],⟨aL,[],[]⟩⟩
def qFA:Nat→BA→BA→Int→Option ((RW))
 |0,_,_,_=>none
 |n+1,x0,x1,x2=>zAc x0 x1 x2
theorem qLp:∀n,Ok (Rn n) qHu (qFA n)
 |0=>ok0 fun _=>rfl
 |n+1=>stL zAw (by kernel_rfl) (fun _ _=>rfl) (fun a r e=>congrArg (Option.map fun r=>(qHu.Of r).v) e) rfl rfl rfl
def qKn:Sg:=⟨34,[aS,aS],[],⟨(.tup [(false,[qS]),(false,[qS]),(false,[qB])]),[],[]⟩⟩
def qDQ:Nat→BA→BA→Option ((BA×BA×Bool))
 |0,_,_=>none
 |n+1,x0,x1=>zAW x0 x1
theorem qJZ:∀n,Ok (Rn n) qKn (qDQ n)
 |0=>ok0 fun _=>rfl
 |n+1=>stL zBL (by kernel_rfl) (fun _ _=>rfl) (fun a r e=>congrArg (Option.map fun r=>(qKn.Of r).v) e) rfl rfl rfl
def qNv:Sg:=⟨35,[aI],[],⟨aS,[],[]⟩⟩
def qIw (n:Nat) (x0:Int):Tr (BA):=(.ask (decide (6=([[(.s (⟨#[]⟩:BA))],[(.s (⟨#[115,101,116]⟩:BA))],[(.s (⟨#[112,117,116]⟩:BA))],[(.s (⟨#[117,110,108,101,115,115]⟩:BA))],[(.s (⟨#[119,104,105,108,101]⟩:BA))],[(.s (⟨#[97,98,111,114,116]⟩:BA))]]:RW).length∧0≤x0∧x0<((6:Nat):Int))) (.opt (([[(.s (⟨#[]⟩:BA))],[(.s (⟨#[115,101,116]⟩:BA))],[(.s (⟨#[112,117,116]⟩:BA))],[(.s (⟨#[117,110,108,101,115,115]⟩:BA))],[(.s (⟨#[119,104,105,108,101]⟩:BA))],[(.s (⟨#[97,98,111,114,116]⟩:BA))]]:RW)[(x0).toNat]?) fun e47=>(.opt (zAG e47 0) fun y48=>(.done y48))) .fail)
def qED:Nat→Int→Option (BA)
 |0,_=>none
 |n+1,x0=>(qIw n x0).run
theorem qHv:∀n,Ok (Rn n) qNv (qED n)
 |0=>ok0 fun _=>rfl
 |n+1=>stO (T:=qIw n) (by kernel_rfl) [] [] (fun _=>(by kernel_rfl)) fun _=>(by kernel_rfl)
def qFs:Sg:=⟨104,[aS,aS],[],⟨(.tup [(false,[qS]),(false,[qB])]),[],[]⟩⟩
def qAF:Nat→BA→BA→Option ((BA×Bool))
 |0,_,_=>none
 |n+1,x0,x1=>zu x0 x1
theorem qCY:∀n,Ok (Rn n) qFs (qAF n)
 |0=>ok0 fun _=>rfl
 |n+1=>stL zAa (by kernel_rfl) (fun _ _=>rfl) (fun a r e=>congrArg (Option.map fun r=>(qFs.Of r).v) e) rfl rfl rfl
def qGM:Sg:=⟨54,[aS,aS],[],⟨aS,[],[]⟩⟩
def qBI:Nat→BA→BA→Option ((BA))
 |0,_,_=>none
 |n+1,x0,x1=>zZ x0 x1
theorem qD0:∀n,Ok (Rn n) qGM (qBI n)
 |0=>ok0 fun _=>rfl
 |n+1=>stL zAh (by kernel_rfl) (fun _ _=>rfl) (fun a r e=>congrArg (Option.map fun r=>(qGM.Of r).v) e) rfl rfl rfl
def qPk:Sg:=⟨55,[aI,aI,aI],[],⟨aB,[],[]⟩⟩
def qHT (n:Nat) (x0 x1 x2:Int):Tr (Bool):=(.ask ((decide (x0≥x1))) (.done (decide (x0≤x2))) (.done false))
def qAG:Nat→Int→Int→Int→Option (Bool)
 |0,_,_,_=>none
 |n+1,x0,x1,x2=>(qHT n x0 x1 x2).run
theorem qC3:∀n,Ok (Rn n) qPk (qAG n)
 |0=>ok0 fun _=>rfl
 |n+1=>stO (T:=qHT n) (by kernel_rfl) [] [] (fun _=>(by kernel_rfl)) fun _=>(by kernel_rfl)
def qOe:Sg:=⟨139,[aI],[],⟨aS,[],[]⟩⟩
def qDZ (n:Nat) (x0:Int):Tr (BA):=(.opt (qAG n x0 (1:Int) (52:Int)) fun r52=>(.ask ((!r52)) (.done (⟨#[]⟩:BA)) (.ask ((decide (x0≤(26:Int)))) (.ask (decide (1=([[(.i .u8 (IntKind.u8.wrap (IntKind.i64.wrap ((IntKind.i64.wrap ((65:Int)+x0))-(1:Int)))))]]:RW).length)) (.opt (bytesOf ([[(.i .u8 (IntKind.u8.wrap (IntKind.i64.wrap ((IntKind.i64.wrap ((65:Int)+x0))-(1:Int)))))]]:RW)) fun l53=>(.done (⟨l53.toArray⟩:BA))) .fail) (.ask (decide (2=([[(.i .u8 (IntKind.u8.wrap (IntKind.i64.wrap ((IntKind.i64.wrap ((65:Int)+(IntKind.i64.wrap (Int.tdiv (IntKind.i64.wrap (x0-(1:Int))) (26:Int)))))-(1:Int)))))],[(.i .u8 (IntKind.u8.wrap (IntKind.i64.wrap ((65:Int)+(Int.tmod (IntKind.i64.wrap (x0-(1:Int))) (26:Int))))))]]:RW).length)) (.opt (bytesOf ([[(.i .u8 (IntKind.u8.wrap (IntKind.i64.wrap ((IntKind.i64.wrap ((65:Int)+(IntKind.i64.wrap (Int.tdiv (IntKind.i64.wrap (x0-(1:Int))) (26:Int)))))-(1:Int)))))],[(.i .u8 (IntKind.u8.wrap (IntKind.i64.wrap ((65:Int)+(Int.tmod (IntKind.i64.wrap (x0-(1:Int))) (26:Int))))))]]:RW)) fun l54=>(.done (⟨l54.toArray⟩:BA))) .fail))))
def qBv:Nat→Int→Option (BA)
 |0,_=>none
 |n+1,x0=>(qDZ n x0).run
abbrev qOf (n:Nat):List (Ent (Rn n)):= [en (qC3 n)]
theorem qIx:∀n,Ok (Rn n) qOe (qBv n)
 |0=>ok0 fun _=>rfl
 |n+1=>stO (T:=qDZ n) (by kernel_rfl) (qOf n) [] (fun _=>(by kernel_rfl)) fun _=>(by kernel_rfl)
def qOg:Sg:=⟨105,[aS],[],⟨aI,[],[]⟩⟩
def qCZ (n:Nat) (v:BA×Int):Tr ((BA×Int)⊕((Int)⊕(Unit))):=(.ask ((decide (v.2≤(52:Int)))) (.opt (qBv n v.2) fun r52=>(.ask ((r52.toList==v.1.toList)) (.done (.inr (.inl (v.2)))) (.done (.inl (v.1,(IntKind.i64.wrap (v.2+(1:Int)))))))) (.done (.inr (.inr (())))))
def qGN (n:Nat) (x0:BA):Tr (Int):=(.opt (zF (qCZ n) n (x0,(1:Int))) fun r53=>(.alt r53 (fun r54=>(.done r54)) (fun r55=>(.done (0:Int)))))
def qEj:Nat→BA→Option (Int)
 |0,_=>none
 |n+1,x0=>(qGN n x0).run
abbrev qJa (n:Nat):List (Ent (Rn n)):= [en (qIx n)]
def qLq (n:Nat):LEnt (KB 105) (Rn n) n:=lok (zb 105) 13 ⟨⟨[(0,aS),(3,aI)],[],[]⟩,[(.ret,⟨[(2,aI)],[],[]⟩),(.exit 0,⟨[],[],[]⟩)]⟩ (qCZ n) (qJa n) [] fun _=>(by kernel_rfl)
theorem qNw:∀n,Ok (Rn n) qOg (qEj n)
 |0=>ok0 fun _=>rfl
 |n+1=>stO (T:=qGN n) (by kernel_rfl) (qJa n) [qLq n] (fun _=>(by kernel_rfl)) fun _=>(by kernel_rfl)
def qK8:Sg2:=⟨69,[aS,aI,aI],(.tup [(false,[qI]),(false,[(.p .nif)])]),(.tup [(false,[qI]),(false,[(.p .ifc)])])⟩
def qAX:Nat→BA→Int→Int→Option ((Int)⊕(Int))
 |0,_,_,_=>none
 |n+1,x0,x1,x2=>zK x0 x1 x2
theorem qCr:∀n,Ok2 (Rn n) qK8 (qAX n)
 |0=>fun a r e=>by cases e
 |n+1=>zMu zAg (by kernel_rfl) (fun _ _=>rfl) fun a r e=>by
  rcases r with r|r
  ·exact congrArg (Option.map zAm) e
  ·exact congrArg (Option.map zAm) e
def qQY:Sg:=⟨106,[(.agg [qI,qI])],[],⟨aB,[],[]⟩⟩
def qIK (n:Nat) (x0 x1:Int):Tr (Bool):=(.opt (qAG n x0 (1:Int) (52:Int)) fun r61=>(.ask (r61) (.opt (qAG n x1 (1:Int) (99:Int)) fun r62=>(.done r62)) (.done false)))
def qBV:Nat→Int→Int→Option (Bool)
 |0,_,_=>none
 |n+1,x0,x1=>(qIK n x0 x1).run
abbrev qQZ (n:Nat):List (Ent (Rn n)):= [en (qC3 n)]
theorem qFS:∀n,Ok (Rn n) qQY (qBV n)
 |0=>ok0 fun _=>rfl
 |n+1=>stO (T:=qIK n) (by kernel_rfl) (qQZ n) [] (fun _=>(by kernel_rfl)) fun _=>(by kernel_rfl)
def qFt:Sg:=⟨113,[aI,aI],[],⟨aS,[],[]⟩⟩
def qD1:Nat→Int→Int→Option ((BA))
 |0,_,_=>none
 |n+1,x0,x1=>zAH x0 x1
theorem qJb:∀n,Ok (Rn n) qFt (qD1 n)
 |0=>ok0 fun _=>rfl
 |n+1=>stL zAZ (by kernel_rfl) (fun _ _=>rfl) (fun a r e=>congrArg (Option.map fun r=>(qFt.Of r).v) e) rfl rfl rfl
def qOh:Sg:=⟨73,[aI],[],⟨aS,[],[]⟩⟩
def qGO (n:Nat) (x0:Int):Tr (BA):=(.opt (qD1 n x0 (10:Int)) fun r66=>(.done r66))
def qAl:Nat→Int→Option (BA)
 |0,_=>none
 |n+1,x0=>(qGO n x0).run
abbrev qOi (n:Nat):List (Ent (Rn n)):= [en (qJb n)]
theorem qEE:∀n,Ok (Rn n) qOh (qAl n)
 |0=>ok0 fun _=>rfl
 |n+1=>stO (T:=qGO n) (by kernel_rfl) (qOi n) [] (fun _=>(by kernel_rfl)) fun _=>(by kernel_rfl)
def qMp:Sg:=⟨107,[(.agg [qI,qI,qB,qB])],[],⟨aS,[],[]⟩⟩
def qDo (n:Nat) (x0 x1:Int) (x2 x3:Bool):Tr (BA):=(.opt (qBV n x0 x1) fun r64=>(.ask ((!r64)) (.done (⟨#[]⟩:BA)) (.ask (x2) (.opt (qBv n x0) fun r65=>(.ask (decide ((⟨#[36]⟩:BA).size+r65.size≤9223372036854775807)) (.ask (x3) (.ask (decide (((⟨#[36]⟩:BA)++r65).size+(⟨#[36]⟩:BA).size≤9223372036854775807)) (.opt (qAl n x1) fun r67=>(.ask (decide ((((⟨#[36]⟩:BA)++r65)++(⟨#[36]⟩:BA)).size+r67.size≤9223372036854775807)) (.done ((((⟨#[36]⟩:BA)++r65)++(⟨#[36]⟩:BA))++r67)) .fail)) .fail) (.opt (qAl n x1) fun r68=>(.ask (decide (((⟨#[36]⟩:BA)++r65).size+r68.size≤9223372036854775807)) (.done (((⟨#[36]⟩:BA)++r65)++r68)) .fail))) .fail)) (.opt (qBv n x0) fun r69=>(.ask (decide ((⟨#[]⟩:BA).size+r69.size≤9223372036854775807)) (.ask (x3) (.ask (decide (((⟨#[]⟩:BA)++r69).size+(⟨#[36]⟩:BA).size≤9223372036854775807)) (.opt (qAl n x1) fun r70=>(.ask (decide ((((⟨#[]⟩:BA)++r69)++(⟨#[36]⟩:BA)).size+r70.size≤9223372036854775807)) (.done ((((⟨#[]⟩:BA)++r69)++(⟨#[36]⟩:BA))++r70)) .fail)) .fail) (.opt (qAl n x1) fun r71=>(.ask (decide (((⟨#[]⟩:BA)++r69).size+r71.size≤9223372036854775807)) (.done (((⟨#[]⟩:BA)++r69)++r71)) .fail))) .fail)))))
def qAw:Nat→Int→Int→Bool→Bool→Option (BA)
 |0,_,_,_,_=>none
 |n+1,x0,x1,x2,x3=>(qDo n x0 x1 x2 x3).run
abbrev qMq (n:Nat):List (Ent (Rn n)):= [en (qFS n),en (qIx n),en (qEE n)]
theorem qEk:∀n,Ok (Rn n) qMp (qAw n)
 |0=>ok0 fun _=>rfl
 |n+1=>stO (T:=qDo n) (by kernel_rfl) (qMq n) [] (fun _=>(by kernel_rfl)) fun _=>(by kernel_rfl)
def qMr:Sg:=⟨68,[aS],[],⟨(.tup [(true,[qI,qI,qB,qB]),(false,[qB])]),[],[]⟩⟩
def qFB (n:Nat) (x0:BA):Tr (Int×Int×Bool×Bool×Bool):=(.opt (qAF n x0 (⟨#[36]⟩:BA)) fun r50=>(.opt (qBI n r50.1 (⟨#[65,66,67,68,69,70,71,72,73,74,75,76,77,78,79,80,81,82,83,84,85,86,87,88,89,90]⟩:BA)) fun r51=>(.ask (decide (0≤(0:Int)∧(0:Int)≤(IntKind.i64.wrap ((r50.1.size:Int)-(r51.size:Int)))∧(IntKind.i64.wrap ((r50.1.size:Int)-(r51.size:Int)))≤r50.1.size)) (.opt (qEj n (r50.1.extract ((0:Int)).toNat ((IntKind.i64.wrap ((r50.1.size:Int)-(r51.size:Int)))).toNat)) fun r56=>(.ask (decide (0≤(IntKind.i64.wrap ((r50.1.size:Int)-(r51.size:Int)))∧(IntKind.i64.wrap ((r50.1.size:Int)-(r51.size:Int)))≤(r50.1.size:Int)∧(r50.1.size:Int)≤r50.1.size)) (.opt (qAF n (r50.1.extract ((IntKind.i64.wrap ((r50.1.size:Int)-(r51.size:Int)))).toNat ((r50.1.size:Int)).toNat) (⟨#[36]⟩:BA)) fun r57=>(.opt (qAX n r57.1 (10:Int) (64:Int)) fun r58=>(.alt r58 (fun r59=>(.opt (qBV n r56 r59) fun r63=>(.ask ((!r63)) (.done ((0:Int),(0:Int),false,false,false)) (.opt (qAw n r56 r59 r50.2 r57.2) fun r72=>(.ask ((!(r72.toList==x0.toList))) (.done ((0:Int),(0:Int),false,false,false)) (.done (r56,r59,r50.2,r57.2,true))))))) (fun r60=>(.opt (qBV n r56 r60) fun r73=>(.ask ((!r73)) (.done ((0:Int),(0:Int),false,false,false)) (.opt (qAw n r56 r60 r50.2 r57.2) fun r74=>(.ask ((!(r74.toList==x0.toList))) (.done ((0:Int),(0:Int),false,false,false)) (.done (r56,r60,r50.2,r57.2,true)))))))))) .fail)) .fail)))
def qAS:Nat→BA→Option (Int×Int×Bool×Bool×Bool)
 |0,_=>none
 |n+1,x0=>(qFB n x0).run
abbrev qMs (n:Nat):List (Ent (Rn n)):= [en (qCY n),en (qD0 n),en (qNw n),en2 (qCr n),en (qFS n),en (qEk n)]
theorem qEl:∀n,Ok (Rn n) qMr (qAS n)
 |0=>ok0 fun _=>rfl
 |n+1=>stO (T:=qFB n) (by kernel_rfl) (qMs n) [] (fun _=>(by kernel_rfl)) fun _=>(by kernel_rfl)
def qOj:Sg:=⟨36,[aS],[],⟨(.agg [qI,qI]),[],[]⟩⟩
def qGP (n:Nat) (x0:BA):Tr (Int×Int):=(.opt (qAS n x0) fun r75=>(.done (r75.1,r75.2.1)))
def qDa:Nat→BA→Option (Int×Int)
 |0,_=>none
 |n+1,x0=>(qGP n x0).run
abbrev qOk (n:Nat):List (Ent (Rn n)):= [en (qEl n)]
theorem qNx:∀n,Ok (Rn n) qOj (qDa n)
 |0=>ok0 fun _=>rfl
 |n+1=>stO (T:=qGP n) (by kernel_rfl) (qOk n) [] (fun _=>(by kernel_rfl)) fun _=>(by kernel_rfl)
def qLr:Sg:=⟨37,[aS],[],⟨aI,[],[]⟩⟩
def qEm (n:Nat) (x0:BA):Tr (Int):=(.opt (qAX n x0 (10:Int) (64:Int)) fun r78=>(.alt r78 (fun r79=>(.ask (false) (.done (0:Int)) (.done r79))) (fun r80=>(.ask (true) (.done (0:Int)) (.done r80)))))
def qCa:Nat→BA→Option (Int)
 |0,_=>none
 |n+1,x0=>(qEm n x0).run
abbrev qLs (n:Nat):List (Ent (Rn n)):= [en2 (qCr n)]
theorem qK9:∀n,Ok (Rn n) qLr (qCa n)
 |0=>ok0 fun _=>rfl
 |n+1=>stO (T:=qEm n) (by kernel_rfl) (qLs n) [] (fun _=>(by kernel_rfl)) fun _=>(by kernel_rfl)
def qPl:Sg:=⟨19,[aS,aI],[],⟨aB,[],[]⟩⟩
def qBj (n:Nat) (v:BA×Int×Int×Int):Tr ((BA×Int×Int×Int)⊕((Bool)⊕(BA×Int))):=(.ask ((decide (v.2.2.2<v.2.2.1))) (.ask (decide (0≤v.2.2.2)) (.opt (v.1.toList[(v.2.2.2).toNat]?) fun c62=>(.ask ((decide ((c62.toNat:Int)<(32:Int)))) (.done (.inr (.inl (false)))) (.ask (decide (0≤v.2.2.2)) (.opt (v.1.toList[(v.2.2.2).toNat]?) fun c63=>(.ask ((decide ((c63.toNat:Int)>(126:Int)))) (.done (.inr (.inl (false)))) (.done (.inl (v.1,v.2.1,v.2.2.1,(IntKind.i64.wrap (v.2.2.2+(1:Int)))))))) .fail))) .fail) (.done (.inr (.inr ((v.1,v.2.1))))))
def qHU (n:Nat) (x0:BA) (x1:Int):Tr (Bool):=(.opt (zF (qBj n) n (x0,x1,(x0.size:Int),(0:Int))) fun r64=>(.alt r64 (fun r65=>(.done r65)) (fun r66=>(.done (decide ((r66.1.size:Int)≤r66.2))))))
def qCk:Nat→BA→Int→Option (Bool)
 |0,_,_=>none
 |n+1,x0,x1=>(qHU n x0 x1).run
def qMt (n:Nat):LEnt (KB 19) (Rn n) n:=lok (zb 19) 13 ⟨⟨[(0,aS),(1,aI),(7,aI),(8,aI)],[],[]⟩,[(.ret,⟨[(4,aB)],[],[]⟩),(.exit 0,⟨[(0,aS),(1,aI)],[],[]⟩)]⟩ (qBj n) [] [] fun _=>(by kernel_rfl)
theorem qGQ:∀n,Ok (Rn n) qPl (qCk n)
 |0=>ok0 fun _=>rfl
 |n+1=>stO (T:=qHU n) (by kernel_rfl) [] [qMt n] (fun _=>(by kernel_rfl)) fun _=>(by kernel_rfl)
def qJc:Sg:=⟨21,[(.c (.ptr 0 0 0 0 0))],[[(0,⟨0,3,41,(.box [qS,(.own 0 1 1 0),qB])⟩),(1,⟨1,14,52,(.row [])⟩)]],⟨(.tup []),[[(0,⟨0,3,41,(.box [qS,(.own 0 1 1 0),qB])⟩),(1,⟨1,14,52,(.row [])⟩)]],[]⟩⟩
def qDb (n:Nat) (x0:BA) (x1:Nat) (x2:Bool) (x3:RW):Tr (BA×Nat×Bool×RW):=(.opt (qBI n x0 (⟨#[32]⟩:BA)) fun r70=>(.done (r70,x1,x2,x3)))
def qA2:Nat→BA→Nat→Bool→RW→Option (BA×Nat×Bool×RW)
 |0,_,_,_,_=>none
 |n+1,x0,x1,x2,x3=>(qDb n x0 x1 x2 x3).run
abbrev qJd (n:Nat):List (Ent (Rn n)):= [en (qD0 n)]
theorem qCL:∀n,Ok (Rn n) qJc (qA2 n)
 |0=>ok0 fun _=>rfl
 |n+1=>stO (T:=qDb n) (by kernel_rfl) (qJd n) [] (fun _=>(by kernel_rfl)) fun _=>(by kernel_rfl)
def qEn:Sg:=⟨123,[aS,aS],[],⟨aB,[],[]⟩⟩
def qA0 (n:Nat) (x0 x1:BA):Tr (Bool):=(.ask ((decide ((x0.size:Int)≥(x1.size:Int)))) (.ask (decide (0≤(0:Int)∧(0:Int)≤(x1.size:Int)∧(x1.size:Int)≤x0.size)) (.done ((x0.extract ((0:Int)).toNat ((x1.size:Int)).toNat).toList==x1.toList)) .fail) (.done false))
def qAA:Nat→BA→BA→Option (Bool)
 |0,_,_=>none
 |n+1,x0,x1=>(qA0 n x0 x1).run
theorem qCP:∀n,Ok (Rn n) qEn (qAA n)
 |0=>ok0 fun _=>rfl
 |n+1=>stO (T:=qA0 n) (by kernel_rfl) [] [] (fun _=>(by kernel_rfl)) fun _=>(by kernel_rfl)
def qKQ:Sg:=⟨90,[aS,aS],[],⟨aB,[],[]⟩⟩
def qB0 (n:Nat) (x0 x1:BA):Tr (Bool):=(.opt (qAA n x0 x1) fun r74=>(.done r74))
def qk:Nat→BA→BA→Option (Bool)
 |0,_,_=>none
 |n+1,x0,x1=>(qB0 n x0 x1).run
abbrev qKR (n:Nat):List (Ent (Rn n)):= [en (qCP n)]
theorem qCb:∀n,Ok (Rn n) qKQ (qk n)
 |0=>ok0 fun _=>rfl
 |n+1=>stO (T:=qB0 n) (by kernel_rfl) (qKR n) [] (fun _=>(by kernel_rfl)) fun _=>(by kernel_rfl)
def qLA:Sg:=⟨49,[(.c (.ptr 0 0 0 0 0))],[[(0,⟨0,3,41,(.box [qS,(.own 0 1 1 0),qB])⟩),(1,⟨1,14,52,(.row [])⟩)]],⟨aS,[[(0,⟨0,3,41,(.box [qS,(.own 0 1 1 0),qB])⟩),(1,⟨1,14,52,(.row [])⟩)]],[]⟩⟩
def qCM (n:Nat) (v:Nat×Int×Int×RW×BA×Nat×Bool×RW):Tr ((Nat×Int×Int×RW×BA×Nat×Bool×RW)⊕((BA×BA×Nat×Bool×RW)⊕(BA×Nat×Bool×RW))):=(.ask ((decide (v.2.2.1<v.2.1))) (.ask (decide (v.1=v.2.2.2.1.length∧0≤v.2.2.1∧v.2.2.1<((v.1:Nat):Int))) (.opt (v.2.2.2.1[(v.2.2.1).toNat]?) fun e72=>(.opt (zAG e72 0) fun y73=>(.opt (qk n v.2.2.2.2.1 y73) fun r74=>(.ask (r74) (.done (.inr (.inl ((y73,v.2.2.2.2.1,v.2.2.2.2.2.1,v.2.2.2.2.2.2.1,v.2.2.2.2.2.2.2))))) (.done (.inl (v.1,v.2.1,(IntKind.i64.wrap (v.2.2.1+(1:Int))),v.2.2.2.1,v.2.2.2.2.1,v.2.2.2.2.2.1,v.2.2.2.2.2.2.1,v.2.2.2.2.2.2.2))))))) .fail) (.done (.inr (.inr ((v.2.2.2.2.1,v.2.2.2.2.2.1,v.2.2.2.2.2.2.1,v.2.2.2.2.2.2.2))))))
def qGR (n:Nat) (x0:BA) (x1:Nat) (x2:Bool) (x3:RW):Tr (BA×BA×Nat×Bool×RW):=(.opt (qA2 n x0 x1 x2 x3) fun r71=>(.opt (zF (qCM n) n ((15:Nat),(15:Int),(0:Int),([[(.s (⟨#[60,62]⟩:BA))],[(.s (⟨#[60,61]⟩:BA))],[(.s (⟨#[62,61]⟩:BA))],[(.s (⟨#[60]⟩:BA))],[(.s (⟨#[62]⟩:BA))],[(.s (⟨#[61]⟩:BA))],[(.s (⟨#[38]⟩:BA))],[(.s (⟨#[43]⟩:BA))],[(.s (⟨#[45]⟩:BA))],[(.s (⟨#[42]⟩:BA))],[(.s (⟨#[47]⟩:BA))],[(.s (⟨#[40]⟩:BA))],[(.s (⟨#[41]⟩:BA))],[(.s (⟨#[44]⟩:BA))],[(.s (⟨#[58]⟩:BA))]]:RW),r71.1,r71.2.1,r71.2.2.1,r71.2.2.2)) fun r75=>(.alt r75 (fun r76=>(.done (r76.1,r76.2.1,r76.2.2.1,r76.2.2.2.1,r76.2.2.2.2))) (fun r77=>(.done ((⟨#[]⟩:BA),r77.1,r77.2.1,r77.2.2.1,r77.2.2.2))))))
def qBk:Nat→BA→Nat→Bool→RW→Option (BA×BA×Nat×Bool×RW)
 |0,_,_,_,_=>none
 |n+1,x0,x1,x2,x3=>(qGR n x0 x1 x2 x3).run
abbrev qGS (n:Nat):List (Ent (Rn n)):= [en (qCL n),en (qCb n)]
def qJA (n:Nat):LEnt (KB 49) (Rn n) n:=lok (zb 49) 29 ⟨⟨[(0,(.c (.ptr 0 0 0 0 0))),(7,(.c (.own 1 448 0 0))),(8,aI),(9,aI)],[(448,⟨0,1,9,(.row [])⟩)],[[(0,⟨0,3,41,(.box [qS,(.own 0 1 1 0),qB])⟩),(1,⟨1,14,52,(.row [])⟩)]]⟩,[(.ret,⟨[(2,aS)],[],[[(0,⟨0,3,41,(.box [qS,(.own 0 1 1 0),qB])⟩),(1,⟨1,14,52,(.row [])⟩)]]⟩),(.exit 0,⟨[],[],[[(0,⟨0,3,41,(.box [qS,(.own 0 1 1 0),qB])⟩),(1,⟨1,14,52,(.row [])⟩)]]⟩)]⟩ (qCM n) (qGS n) [] fun _=>(by kernel_rfl)
theorem qFu:∀n,Ok (Rn n) qLA (qBk n)
 |0=>ok0 fun _=>rfl
 |n+1=>stO (T:=qGR n) (by kernel_rfl) (qGS n) [qJA n] (fun _=>(by kernel_rfl)) fun _=>(by kernel_rfl)
def qLB:Sg:=⟨52,[(.c (.ptr 0 0 0 0 0)),aS],[[(0,⟨0,3,41,(.box [qS,(.own 0 1 1 0),qB])⟩),(1,⟨1,14,52,(.row [])⟩)]],⟨aB,[[(0,⟨0,3,41,(.box [qS,(.own 0 1 1 0),qB])⟩),(1,⟨1,14,52,(.row [])⟩)]],[]⟩⟩
def qGT (n:Nat) (x0 x1:BA) (x2:Nat) (x3:Bool) (x4:RW):Tr (Bool×BA×Nat×Bool×RW):=(.opt (qBk n x1 x2 x3 x4) fun r78=>(.ask ((!(r78.1.toList==x0.toList))) (.done (false,r78.2.1,r78.2.2.1,r78.2.2.2.1,r78.2.2.2.2)) (.ask (decide (0≤(x0.size:Int)∧(x0.size:Int)≤(r78.2.1.size:Int)∧(r78.2.1.size:Int)≤r78.2.1.size)) (.done (true,(r78.2.1.extract ((x0.size:Int)).toNat ((r78.2.1.size:Int)).toNat),r78.2.2.1,r78.2.2.2.1,r78.2.2.2.2)) .fail)))
def qn:Nat→BA→BA→Nat→Bool→RW→Option (Bool×BA×Nat×Bool×RW)
 |0,_,_,_,_,_=>none
 |n+1,x0,x1,x2,x3,x4=>(qGT n x0 x1 x2 x3 x4).run
abbrev qLC (n:Nat):List (Ent (Rn n)):= [en (qFu n)]
theorem qB1:∀n,Ok (Rn n) qLB (qn n)
 |0=>ok0 fun _=>rfl
 |n+1=>stO (T:=qGT n) (by kernel_rfl) (qLC n) [] (fun _=>(by kernel_rfl)) fun _=>(by kernel_rfl)
def qLt:Sg:=⟨53,[(.c (.ptr 0 0 0 0 0)),(.agg [qI,qI,qI,qI,qS,qI,qI,qB,qB,qI,qI,qB,qB,qL])],[[(0,⟨0,3,41,(.box [qS,(.own 0 1 1 0),qB])⟩),(1,⟨1,14,52,(.row [])⟩)]],⟨aI,[[(0,⟨0,3,41,(.box [qS,(.own 0 1 1 0),qB])⟩),(1,⟨1,14,52,(.row [])⟩)]],[]⟩⟩
def qG3 (n:Nat) (x0 x1 x2 x3:Int) (x4:BA) (x5 x6:Int) (x7 x8:Bool) (x9 x10:Int) (x11 x12:Bool) (x13:RW) (x14:BA) (x15:Nat) (x16:Bool) (x17:RW):Tr (Int×BA×Nat×Bool×RW):=(.ask (x16) (.ask (false) (.ask (decide (1=([[(.i .i64 x0),(.i .i64 x1),(.i .i64 x2),(.i .i64 x3),(.s x4),(.i .i64 x5),(.i .i64 x6),(.b x7),(.b x8),(.i .i64 x9),(.i .i64 x10),(.b x11),(.b x12),(.ls x13)]]:RW).length)) (.ask (decide (x15=x17.length∧0<14∧0<120∧(x15+([[(.i .i64 x0),(.i .i64 x1),(.i .i64 x2),(.i .i64 x3),(.s x4),(.i .i64 x5),(.i .i64 x6),(.b x7),(.b x8),(.i .i64 x9),(.i .i64 x10),(.b x11),(.b x12),(.ls x13)]]:RW).length)*120≤140737488355328∧([[(.i .i64 x0),(.i .i64 x1),(.i .i64 x2),(.i .i64 x3),(.s x4),(.i .i64 x5),(.i .i64 x6),(.b x7),(.b x8),(.i .i64 x9),(.i .i64 x10),(.b x11),(.b x12),(.ls x13)]]:RW).all (fun e=>e.length==14)=true)) (.done ((IntKind.i64.wrap ((((x15+1):Nat):Int)-(1:Int))),x14,(x15+1),true,(x17++([[(.i .i64 x0),(.i .i64 x1),(.i .i64 x2),(.i .i64 x3),(.s x4),(.i .i64 x5),(.i .i64 x6),(.b x7),(.b x8),(.i .i64 x9),(.i .i64 x10),(.b x11),(.b x12),(.ls x13)]]:RW)))) .fail) .fail) (.done ((IntKind.i64.wrap (((x15:Nat):Int)-(1:Int))),x14,x15,true,x17))) (.ask ((!(decide (((x15:Nat):Int)≥(60:Int))))) (.ask (decide (1=([[(.i .i64 x0),(.i .i64 x1),(.i .i64 x2),(.i .i64 x3),(.s x4),(.i .i64 x5),(.i .i64 x6),(.b x7),(.b x8),(.i .i64 x9),(.i .i64 x10),(.b x11),(.b x12),(.ls x13)]]:RW).length)) (.ask (decide (x15=x17.length∧0<14∧0<120∧(x15+([[(.i .i64 x0),(.i .i64 x1),(.i .i64 x2),(.i .i64 x3),(.s x4),(.i .i64 x5),(.i .i64 x6),(.b x7),(.b x8),(.i .i64 x9),(.i .i64 x10),(.b x11),(.b x12),(.ls x13)]]:RW).length)*120≤140737488355328∧([[(.i .i64 x0),(.i .i64 x1),(.i .i64 x2),(.i .i64 x3),(.s x4),(.i .i64 x5),(.i .i64 x6),(.b x7),(.b x8),(.i .i64 x9),(.i .i64 x10),(.b x11),(.b x12),(.ls x13)]]:RW).all (fun e=>e.length==14)=true)) (.done ((IntKind.i64.wrap ((((x15+1):Nat):Int)-(1:Int))),x14,(x15+1),(decide (((x15:Nat):Int)≥(60:Int))),(x17++([[(.i .i64 x0),(.i .i64 x1),(.i .i64 x2),(.i .i64 x3),(.s x4),(.i .i64 x5),(.i .i64 x6),(.b x7),(.b x8),(.i .i64 x9),(.i .i64 x10),(.b x11),(.b x12),(.ls x13)]]:RW)))) .fail) .fail) (.done ((IntKind.i64.wrap (((x15:Nat):Int)-(1:Int))),x14,x15,(decide (((x15:Nat):Int)≥(60:Int))),x17))))
def qo:Nat→Int→Int→Int→Int→BA→Int→Int→Bool→Bool→Int→Int→Bool→Bool→RW→BA→Nat→Bool→RW→Option (Int×BA×Nat×Bool×RW)
 |0,_,_,_,_,_,_,_,_,_,_,_,_,_,_,_,_,_,_=>none
 |n+1,x0,x1,x2,x3,x4,x5,x6,x7,x8,x9,x10,x11,x12,x13,x14,x15,x16,x17=>(qG3 n x0 x1 x2 x3 x4 x5 x6 x7 x8 x9 x10 x11 x12 x13 x14 x15 x16 x17).run
theorem qCI:∀n,Ok (Rn n) qLt (qo n)
 |0=>ok0 fun _=>rfl
 |n+1=>stO (T:=qG3 n) (by kernel_rfl) [] [] (fun _=>(by kernel_rfl)) fun _=>(by kernel_rfl)
def qIL:Sg:=⟨117,[(.c (.ptr 0 0 0 0 0)),(.agg [qI,qI,qS])],[[(0,⟨0,3,41,(.box [qS,(.own 0 1 1 0),qB])⟩),(1,⟨1,14,52,(.row [])⟩)]],⟨aI,[[(0,⟨0,3,41,(.box [qS,(.own 0 1 1 0),qB])⟩),(1,⟨1,14,52,(.row [])⟩)]],[]⟩⟩
def qEo (n:Nat) (x0 x1:Int) (x2 x3:BA) (x4:Nat) (x5:Bool) (x6:RW):Tr (Int×BA×Nat×Bool×RW):=(.opt (qo n (1:Int) (0:Int) x0 x1 x2 (0:Int) (0:Int) false false (0:Int) (0:Int) false false ([]:RW) x3 x4 x5 x6) fun r89=>(.done (r89.1,r89.2.1,r89.2.2.1,r89.2.2.2.1,r89.2.2.2.2)))
def qj:Nat→Int→Int→BA→BA→Nat→Bool→RW→Option (Int×BA×Nat×Bool×RW)
 |0,_,_,_,_,_,_,_=>none
 |n+1,x0,x1,x2,x3,x4,x5,x6=>(qEo n x0 x1 x2 x3 x4 x5 x6).run
abbrev qIM (n:Nat):List (Ent (Rn n)):= [en (qCI n)]
theorem qES:∀n,Ok (Rn n) qIL (qj n)
 |0=>ok0 fun _=>rfl
 |n+1=>stO (T:=qEo n) (by kernel_rfl) (qIM n) [] (fun _=>(by kernel_rfl)) fun _=>(by kernel_rfl)
def qJe:Sg:=⟨115,[(.c (.ptr 0 0 0 0 0))],[[(0,⟨0,3,41,(.box [qS,(.own 0 1 1 0),qB])⟩),(1,⟨1,14,52,(.row [])⟩)]],⟨aI,[[(0,⟨0,3,41,(.box [qS,(.own 0 1 1 0),qB])⟩),(1,⟨1,14,52,(.row [])⟩)]],[]⟩⟩
def qC4 (n:Nat) (v:BA×BA×BA×Nat×Bool×RW):Tr ((BA×BA×BA×Nat×Bool×RW)⊕((Int×BA×Nat×Bool×RW)⊕(BA×BA×BA×Nat×Bool×RW))):=(.opt (qDQ n v.2.1 (⟨#[34]⟩:BA)) fun r84=>(.ask ((!r84.2.2)) (.done (.inr (.inl (((-1:Int),v.2.2.1,v.2.2.2.1,true,v.2.2.2.2.2))))) (.ask (decide (v.1.size+r84.1.size≤9223372036854775807)) (.opt (qk n r84.2.1 (⟨#[34]⟩:BA)) fun r85=>(.ask ((!r85)) (.done (.inr (.inr (((v.1++r84.1),r84.2.1,v.2.2.1,v.2.2.2.1,v.2.2.2.2.1,v.2.2.2.2.2))))) (.ask (decide ((v.1++r84.1).size+(⟨#[34]⟩:BA).size≤9223372036854775807)) (.ask (decide (0≤(1:Int)∧(1:Int)≤(r84.2.1.size:Int)∧(r84.2.1.size:Int)≤r84.2.1.size)) (.done (.inl (((v.1++r84.1)++(⟨#[34]⟩:BA)),(r84.2.1.extract ((1:Int)).toNat ((r84.2.1.size:Int)).toNat),v.2.2.1,v.2.2.2.1,v.2.2.2.2.1,v.2.2.2.2.2))) .fail) .fail))) .fail)))
def qFV (n:Nat) (x0:BA) (x1:Nat) (x2:Bool) (x3:RW):Tr (Int×BA×Nat×Bool×RW):=(.ask (decide (0≤(1:Int)∧(1:Int)≤(x0.size:Int)∧(x0.size:Int)≤x0.size)) (.opt (zF (qC4 n) n ((⟨#[]⟩:BA),(x0.extract ((1:Int)).toNat ((x0.size:Int)).toNat),x0,x1,x2,x3)) fun r86=>(.alt r86 (fun r87=>(.done (r87.1,r87.2.1,r87.2.2.1,r87.2.2.2.1,r87.2.2.2.2))) (fun r88=>(.opt (qj n (2:Int) (0:Int) r88.1 r88.2.1 r88.2.2.2.1 r88.2.2.2.2.1 r88.2.2.2.2.2) fun r90=>(.done (r90.1,r90.2.1,r90.2.2.1,r90.2.2.2.1,r90.2.2.2.2)))))) .fail)
def qDc:Nat→BA→Nat→Bool→RW→Option (Int×BA×Nat×Bool×RW)
 |0,_,_,_,_=>none
 |n+1,x0,x1,x2,x3=>(qFV n x0 x1 x2 x3).run
abbrev qFW (n:Nat):List (Ent (Rn n)):= [en (qJZ n),en (qCb n),en (qES n)]
def qHw (n:Nat):LEnt (KB 115) (Rn n) n:=lok (zb 115) 14 ⟨⟨[(0,(.c (.ptr 0 0 0 0 0))),(3,aS),(4,aS)],[],[[(0,⟨0,3,41,(.box [qS,(.own 0 1 1 0),qB])⟩),(1,⟨1,14,52,(.row [])⟩)]]⟩,[(.ret,⟨[(2,aI)],[],[[(0,⟨0,3,41,(.box [qS,(.own 0 1 1 0),qB])⟩),(1,⟨1,14,52,(.row [])⟩)]]⟩),(.exit 0,⟨[(0,(.c (.ptr 0 0 0 0 0))),(3,aS),(4,aS)],[],[[(0,⟨0,3,41,(.box [qS,(.own 0 1 1 0),qB])⟩),(1,⟨1,14,52,(.row [])⟩)]]⟩)]⟩ (qC4 n) (qFW n) [] fun _=>(by kernel_rfl)
theorem qJB:∀n,Ok (Rn n) qJe (qDc n)
 |0=>ok0 fun _=>rfl
 |n+1=>stO (T:=qFV n) (by kernel_rfl) (qFW n) [qHw n] (fun _=>(by kernel_rfl)) fun _=>(by kernel_rfl)
def qMu:Sg:=⟨116,[aI],[],⟨aS,[],[]⟩⟩
def qFC (n:Nat) (x0:Int):Tr (BA):=(.ask (decide (6=([[(.s (⟨#[]⟩:BA))],[(.s (⟨#[35,68,73,86,33]⟩:BA))],[(.s (⟨#[35,84,89,80,69,33]⟩:BA))],[(.s (⟨#[35,82,69,70,33]⟩:BA))],[(.s (⟨#[35,79,86,69,82,33]⟩:BA))],[(.s (⟨#[35,67,89,67,76,69,33]⟩:BA))]]:RW).length∧0≤x0∧x0<((6:Nat):Int))) (.opt (([[(.s (⟨#[]⟩:BA))],[(.s (⟨#[35,68,73,86,33]⟩:BA))],[(.s (⟨#[35,84,89,80,69,33]⟩:BA))],[(.s (⟨#[35,82,69,70,33]⟩:BA))],[(.s (⟨#[35,79,86,69,82,33]⟩:BA))],[(.s (⟨#[35,67,89,67,76,69,33]⟩:BA))]]:RW)[(x0).toNat]?) fun e93=>(.opt (zAG e93 0) fun y94=>(.done y94))) .fail)
def qAm:Nat→Int→Option (BA)
 |0,_=>none
 |n+1,x0=>(qFC n x0).run
theorem qEp:∀n,Ok (Rn n) qMu (qAm n)
 |0=>ok0 fun _=>rfl
 |n+1=>stO (T:=qFC n) (by kernel_rfl) [] [] (fun _=>(by kernel_rfl)) fun _=>(by kernel_rfl)
def qQa:Sg:=⟨118,[aI],[],⟨(.agg [qI,qI,qS]),[],[]⟩⟩
def qIN (n:Nat) (x0:Int):Tr (Int×Int×BA):=(.done ((4:Int),x0,(⟨#[]⟩:BA)))
def qBr:Nat→Int→Option (Int×Int×BA)
 |0,_=>none
 |n+1,x0=>(qIN n x0).run
theorem qKo:∀n,Ok (Rn n) qQa (qBr n)
 |0=>ok0 fun _=>rfl
 |n+1=>stO (T:=qIN n) (by kernel_rfl) [] [] (fun _=>(by kernel_rfl)) fun _=>(by kernel_rfl)
def qLD:Sg:=⟨119,[(.c (.ptr 0 0 0 0 0))],[[(0,⟨0,3,41,(.box [qS,(.own 0 1 1 0),qB])⟩),(1,⟨1,14,52,(.row [])⟩)]],⟨aS,[[(0,⟨0,3,41,(.box [qS,(.own 0 1 1 0),qB])⟩),(1,⟨1,14,52,(.row [])⟩)]],[]⟩⟩
def qGU (n:Nat) (x0:BA) (x1:Nat) (x2:Bool) (x3:RW):Tr (BA×BA×Nat×Bool×RW):=(.opt (qA2 n x0 x1 x2 x3) fun r100=>(.opt (qBI n r100.1 (⟨#[65,66,67,68,69,70,71,72,73,74,75,76,77,78,79,80,81,82,83,84,85,86,87,88,89,90,48,49,50,51,52,53,54,55,56,57,36]⟩:BA)) fun r101=>(.ask (decide (0≤(0:Int)∧(0:Int)≤(IntKind.i64.wrap ((r100.1.size:Int)-(r101.size:Int)))∧(IntKind.i64.wrap ((r100.1.size:Int)-(r101.size:Int)))≤r100.1.size)) (.ask (decide (0≤(IntKind.i64.wrap ((r100.1.size:Int)-(r101.size:Int)))∧(IntKind.i64.wrap ((r100.1.size:Int)-(r101.size:Int)))≤(r100.1.size:Int)∧(r100.1.size:Int)≤r100.1.size)) (.done ((r100.1.extract ((0:Int)).toNat ((IntKind.i64.wrap ((r100.1.size:Int)-(r101.size:Int)))).toNat),(r100.1.extract ((IntKind.i64.wrap ((r100.1.size:Int)-(r101.size:Int)))).toNat ((r100.1.size:Int)).toNat),r100.2.1,r100.2.2.1,r100.2.2.2)) .fail) .fail)))
def qBJ:Nat→BA→Nat→Bool→RW→Option (BA×BA×Nat×Bool×RW)
 |0,_,_,_,_=>none
 |n+1,x0,x1,x2,x3=>(qGU n x0 x1 x2 x3).run
abbrev qLE (n:Nat):List (Ent (Rn n)):= [en (qCL n),en (qD0 n)]
theorem qFv:∀n,Ok (Rn n) qLD (qBJ n)
 |0=>ok0 fun _=>rfl
 |n+1=>stO (T:=qGU n) (by kernel_rfl) (qLE n) [] (fun _=>(by kernel_rfl)) fun _=>(by kernel_rfl)
def qOl:Sg:=⟨127,[(.agg [qI,qI,qS])],[],⟨aB,[],[]⟩⟩
def qGV (n:Nat) (x0 x1:Int) (x2:BA):Tr (Bool):=(.ask ((x0==(2:Int))) (.ask ((x1==(0:Int))) (.opt (qCk n x2 (200:Int)) fun r104=>(.done r104)) (.done false)) (.ask ((!(x2.toList==(⟨#[]⟩:BA).toList))) (.done false) (.ask ((x0==(0:Int))) (.done (x1==(0:Int))) (.ask ((x0==(1:Int))) (.opt (qAG n x1 (-1000000000000000:Int) (1000000000000000:Int)) fun r105=>(.done r105)) (.ask ((x0==(3:Int))) (.opt (qAG n x1 (0:Int) (1:Int)) fun r106=>(.done r106)) (.ask ((x0==(4:Int))) (.opt (qAG n x1 (1:Int) (5:Int)) fun r107=>(.done r107)) (.done false)))))))
def qAU:Nat→Int→Int→BA→Option (Bool)
 |0,_,_,_=>none
 |n+1,x0,x1,x2=>(qGV n x0 x1 x2).run
abbrev qOm (n:Nat):List (Ent (Rn n)):= [en (qGQ n),en (qC3 n)]
theorem qFm:∀n,Ok (Rn n) qOl (qAU n)
 |0=>ok0 fun _=>rfl
 |n+1=>stO (T:=qGV n) (by kernel_rfl) (qOm n) [] (fun _=>(by kernel_rfl)) fun _=>(by kernel_rfl)
def qMv:Sg:=⟨150,[(.agg [qI,qI,qS])],[],⟨aS,[],[]⟩⟩
def qBl (n:Nat) (x0 x1:Int) (x2:BA):Tr (BA):=(.ask ((x0==(1:Int))) (.opt (qAl n x1) fun r109=>(.done r109)) (.ask ((x0==(2:Int))) (.ask (decide ((⟨#[39]⟩:BA).size+x2.size≤9223372036854775807)) (.done ((⟨#[39]⟩:BA)++x2)) .fail) (.ask ((x0==(3:Int))) (.ask (decide (2=([[(.s (⟨#[70,65,76,83,69]⟩:BA))],[(.s (⟨#[84,82,85,69]⟩:BA))]]:RW).length∧0≤x1∧x1<((2:Nat):Int))) (.opt (([[(.s (⟨#[70,65,76,83,69]⟩:BA))],[(.s (⟨#[84,82,85,69]⟩:BA))]]:RW)[(x1).toNat]?) fun e110=>(.opt (zAG e110 0) fun y111=>(.done y111))) .fail) (.ask ((x0==(4:Int))) (.opt (qAm n x1) fun r112=>(.done r112)) (.done (⟨#[]⟩:BA))))))
def qq:Nat→Int→Int→BA→Option (BA)
 |0,_,_,_=>none
 |n+1,x0,x1,x2=>(qBl n x0 x1 x2).run
abbrev qMw (n:Nat):List (Ent (Rn n)):= [en (qEE n),en (qEp n)]
theorem qG4:∀n,Ok (Rn n) qMv (qq n)
 |0=>ok0 fun _=>rfl
 |n+1=>stO (T:=qBl n) (by kernel_rfl) (qMw n) [] (fun _=>(by kernel_rfl)) fun _=>(by kernel_rfl)
def qQb:Sg:=⟨148,[aB],[],⟨(.agg [qI,qI,qS]),[],[]⟩⟩
def qIO (n:Nat) (x0:Bool):Tr (Int×Int×BA):=(.ask (x0) (.done ((3:Int),(1:Int),(⟨#[]⟩:BA))) (.done ((3:Int),(0:Int),(⟨#[]⟩:BA))))
def qEq:Nat→Bool→Option (Int×Int×BA)
 |0,_=>none
 |n+1,x0=>(qIO n x0).run
theorem qPm:∀n,Ok (Rn n) qQb (qEq n)
 |0=>ok0 fun _=>rfl
 |n+1=>stO (T:=qIO n) (by kernel_rfl) [] [] (fun _=>(by kernel_rfl)) fun _=>(by kernel_rfl)
def qPn:Sg:=⟨149,[aI],[],⟨(.agg [qI,qI,qS]),[],[]⟩⟩
def qHV (n:Nat) (x0:Int):Tr (Int×Int×BA):=(.done ((1:Int),x0,(⟨#[]⟩:BA)))
def qCl:Nat→Int→Option (Int×Int×BA)
 |0,_=>none
 |n+1,x0=>(qHV n x0).run
theorem qJf:∀n,Ok (Rn n) qPn (qCl n)
 |0=>ok0 fun _=>rfl
 |n+1=>stO (T:=qHV n) (by kernel_rfl) [] [] (fun _=>(by kernel_rfl)) fun _=>(by kernel_rfl)
def qMx:Sg:=⟨120,[aS],[],⟨(.tup [(true,[qI,qI,qS]),(false,[qB])]),[],[]⟩⟩
def qBD (n:Nat) (v:BA×Int×Int×Int×BA×Int×Int×BA):Tr ((BA×Int×Int×Int×BA×Int×Int×BA)⊕((BA×Int×Int×BA×Int×Int×BA))):=(.ask ((decide (v.2.1≤(5:Int)))) (.opt (qAm n v.2.1) fun r121=>(.ask ((r121.toList==v.1.toList)) (.opt (qBr n v.2.1) fun r122=>(.done (.inl (v.1,(IntKind.i64.wrap (v.2.1+(1:Int))),v.2.2.1,v.2.2.2.1,v.2.2.2.2.1,r122.1,r122.2.1,r122.2.2)))) (.done (.inl (v.1,(IntKind.i64.wrap (v.2.1+(1:Int))),v.2.2.1,v.2.2.2.1,v.2.2.2.2.1,v.2.2.2.2.2.1,v.2.2.2.2.2.2.1,v.2.2.2.2.2.2.2))))) (.done (.inr ((v.1,v.2.2.1,v.2.2.2.1,v.2.2.2.2.1,v.2.2.2.2.2.1,v.2.2.2.2.2.2.1,v.2.2.2.2.2.2.2)))))
def qBL (n:Nat) (x0:BA):Tr (Int×Int×BA×Bool):=(.opt (qAF n x0 (⟨#[39]⟩:BA)) fun r103=>(.ask (r103.2) (.opt (qAU n (2:Int) (0:Int) r103.1) fun r108=>(.ask ((!r108)) (.done ((0:Int),(0:Int),(⟨#[]⟩:BA),false)) (.opt (qq n (2:Int) (0:Int) r103.1) fun r113=>(.ask ((!(r113.toList==x0.toList))) (.done ((0:Int),(0:Int),(⟨#[]⟩:BA),false)) (.done ((2:Int),(0:Int),r103.1,true)))))) (.ask ((x0.toList==(⟨#[70,65,76,83,69]⟩:BA).toList)) (.opt (qEq n (x0.toList==(⟨#[84,82,85,69]⟩:BA).toList)) fun r114=>(.opt (qAU n r114.1 r114.2.1 r114.2.2) fun r115=>(.ask ((!r115)) (.done ((0:Int),(0:Int),(⟨#[]⟩:BA),false)) (.opt (qq n r114.1 r114.2.1 r114.2.2) fun r116=>(.ask ((!(r116.toList==x0.toList))) (.done ((0:Int),(0:Int),(⟨#[]⟩:BA),false)) (.done (r114.1,r114.2.1,r114.2.2,true))))))) (.ask ((x0.toList==(⟨#[84,82,85,69]⟩:BA).toList)) (.opt (qEq n (x0.toList==(⟨#[84,82,85,69]⟩:BA).toList)) fun r117=>(.opt (qAU n r117.1 r117.2.1 r117.2.2) fun r118=>(.ask ((!r118)) (.done ((0:Int),(0:Int),(⟨#[]⟩:BA),false)) (.opt (qq n r117.1 r117.2.1 r117.2.2) fun r119=>(.ask ((!(r119.toList==x0.toList))) (.done ((0:Int),(0:Int),(⟨#[]⟩:BA),false)) (.done (r117.1,r117.2.1,r117.2.2,true))))))) (.opt (qk n x0 (⟨#[35]⟩:BA)) fun r120=>(.ask (r120) (.opt (zF (qBD n) n (x0,(1:Int),(0:Int),(0:Int),(⟨#[]⟩:BA),(0:Int),(0:Int),(⟨#[]⟩:BA))) fun r123=>(.opt (qAU n r123.2.2.2.2.1 r123.2.2.2.2.2.1 r123.2.2.2.2.2.2) fun r124=>(.ask ((!r124)) (.done ((0:Int),(0:Int),(⟨#[]⟩:BA),false)) (.opt (qq n r123.2.2.2.2.1 r123.2.2.2.2.2.1 r123.2.2.2.2.2.2) fun r125=>(.ask ((!(r125.toList==r123.1.toList))) (.done ((0:Int),(0:Int),(⟨#[]⟩:BA),false)) (.done (r123.2.2.2.2.1,r123.2.2.2.2.2.1,r123.2.2.2.2.2.2,true))))))) (.ask ((!(x0.toList==(⟨#[]⟩:BA).toList))) (.opt (qAX n x0 (10:Int) (64:Int)) fun r126=>(.alt r126 (fun r127=>(.opt (qCl n r127) fun r129=>(.opt (qAU n r129.1 r129.2.1 r129.2.2) fun r130=>(.ask ((!r130)) (.done ((0:Int),(0:Int),(⟨#[]⟩:BA),false)) (.opt (qq n r129.1 r129.2.1 r129.2.2) fun r131=>(.ask ((!(r131.toList==x0.toList))) (.done ((0:Int),(0:Int),(⟨#[]⟩:BA),false)) (.done (r129.1,r129.2.1,r129.2.2,true)))))))) (fun r128=>(.opt (qCl n r128) fun r132=>(.opt (qAU n r132.1 r132.2.1 r132.2.2) fun r133=>(.ask ((!r133)) (.done ((0:Int),(0:Int),(⟨#[]⟩:BA),false)) (.opt (qq n r132.1 r132.2.1 r132.2.2) fun r134=>(.ask ((!(r134.toList==x0.toList))) (.done ((0:Int),(0:Int),(⟨#[]⟩:BA),false)) (.done (r132.1,r132.2.1,r132.2.2,true)))))))))) (.opt (qAU n (0:Int) (0:Int) (⟨#[]⟩:BA)) fun r135=>(.ask ((!r135)) (.done ((0:Int),(0:Int),(⟨#[]⟩:BA),false)) (.opt (qq n (0:Int) (0:Int) (⟨#[]⟩:BA)) fun r136=>(.ask ((!(r136.toList==x0.toList))) (.done ((0:Int),(0:Int),(⟨#[]⟩:BA),false)) (.done ((0:Int),(0:Int),(⟨#[]⟩:BA),true)))))))))))))
def qe:Nat→BA→Option (Int×Int×BA×Bool)
 |0,_=>none
 |n+1,x0=>(qBL n x0).run
abbrev qHx (n:Nat):List (Ent (Rn n)):= [en (qCY n),en (qFm n),en (qG4 n),en (qPm n),en (qCb n),en (qEp n),en (qKo n),en2 (qCr n),en (qJf n)]
def qJC (n:Nat):LEnt (KB 120) (Rn n) n:=lok (zb 120) 3837 ⟨⟨[(0,aS),(2,(.c (.ptr 0 128 0 0 0))),(4,(.c (.ptr 0 256 0 0 0))),(7,aI)],[(128,⟨0,3,45,(.box [qI,qI,qS])⟩),(256,⟨0,3,45,(.box [qI,qI,qS])⟩)],[]⟩,[(.exit 1,⟨[(0,aS),(2,(.c (.ptr 0 128 0 0 0))),(4,(.c (.ptr 0 256 0 0 0)))],[(128,⟨0,3,45,(.box [qI,qI,qS])⟩),(256,⟨0,3,45,(.box [qI,qI,qS])⟩)],[]⟩)]⟩ (qBD n) (qHx n) [] fun _=>(by kernel_rfl)
theorem qG5:∀n,Ok (Rn n) qMx (qe n)
 |0=>ok0 fun _=>rfl
 |n+1=>stO (T:=qBL n) (by kernel_rfl) (qHx n) [qJC n] (fun _=>(by kernel_rfl)) fun _=>(by kernel_rfl)
def qPo:Sg:=⟨121,[aI],[],⟨aS,[],[]⟩⟩
def qHW (n:Nat) (x0:Int):Tr (BA):=(.ask (decide (11=([[(.s (⟨#[]⟩:BA))],[(.s (⟨#[83,85,77]⟩:BA))],[(.s (⟨#[77,73,78]⟩:BA))],[(.s (⟨#[77,65,88]⟩:BA))],[(.s (⟨#[67,79,85,78,84]⟩:BA))],[(.s (⟨#[73,70]⟩:BA))],[(.s (⟨#[65,78,68]⟩:BA))],[(.s (⟨#[79,82]⟩:BA))],[(.s (⟨#[78,79,84]⟩:BA))],[(.s (⟨#[65,66,83]⟩:BA))],[(.s (⟨#[76,69,78]⟩:BA))]]:RW).length∧0≤x0∧x0<((11:Nat):Int))) (.opt (([[(.s (⟨#[]⟩:BA))],[(.s (⟨#[83,85,77]⟩:BA))],[(.s (⟨#[77,73,78]⟩:BA))],[(.s (⟨#[77,65,88]⟩:BA))],[(.s (⟨#[67,79,85,78,84]⟩:BA))],[(.s (⟨#[73,70]⟩:BA))],[(.s (⟨#[65,78,68]⟩:BA))],[(.s (⟨#[79,82]⟩:BA))],[(.s (⟨#[78,79,84]⟩:BA))],[(.s (⟨#[65,66,83]⟩:BA))],[(.s (⟨#[76,69,78]⟩:BA))]]:RW)[(x0).toNat]?) fun e142=>(.opt (zAG e142 0) fun y143=>(.done y143))) .fail)
def qB9:Nat→Int→Option (BA)
 |0,_=>none
 |n+1,x0=>(qHW n x0).run
theorem qJg:∀n,Ok (Rn n) qPo (qB9 n)
 |0=>ok0 fun _=>rfl
 |n+1=>stO (T:=qHW n) (by kernel_rfl) [] [] (fun _=>(by kernel_rfl)) fun _=>(by kernel_rfl)
def qIP:Sg:=⟨151,[(.c (.ptr 0 0 0 0 0))],[[(0,⟨0,3,41,(.box [qS,(.own 0 1 1 0),qB])⟩),(1,⟨1,14,52,(.row [])⟩)]],⟨(.tup [(true,[qI,qI,qI,qI,qS,qI,qI,qB,qB,qI,qI,qB,qB,qL]),(false,[qB])]),[[(0,⟨0,3,41,(.box [qS,(.own 0 1 1 0),qB])⟩),(1,⟨1,14,52,(.row [])⟩)]],[]⟩⟩
def qEr (n:Nat) (x0:BA) (x1:Nat) (x2:Bool) (x3:RW):Tr (Int×Int×Int×Int×BA×Int×Int×Bool×Bool×Int×Int×Bool×Bool×RW×Bool×BA×Nat×Bool×RW):=(.opt (qBJ n x0 x1 x2 x3) fun r145=>(.opt (qAS n r145.1) fun r146=>(.ask (r146.2.2.2.2) (.opt (qn n (⟨#[58]⟩:BA) r145.2.1 r145.2.2.1 r145.2.2.2.1 r145.2.2.2.2) fun r147=>(.ask ((!r147.1)) (.done ((0:Int),(0:Int),(0:Int),(0:Int),(⟨#[]⟩:BA),(0:Int),(0:Int),false,false,(0:Int),(0:Int),false,false,([]:RW),false,x0,r147.2.2.1,r147.2.2.2.1,r147.2.2.2.2)) (.opt (qBJ n r147.2.1 r147.2.2.1 r147.2.2.2.1 r147.2.2.2.2) fun r148=>(.opt (qAS n r148.1) fun r149=>(.ask (r148.2.2.2.1) (.done ((3:Int),(0:Int),(0:Int),(0:Int),(⟨#[]⟩:BA),r146.1,r146.2.1,r146.2.2.1,r146.2.2.2.1,r149.1,r149.2.1,r149.2.2.1,r149.2.2.2.1,([]:RW),true,r148.2.1,r148.2.2.1,true,r148.2.2.2.2)) (.done ((3:Int),(0:Int),(0:Int),(0:Int),(⟨#[]⟩:BA),r146.1,r146.2.1,r146.2.2.1,r146.2.2.2.1,r149.1,r149.2.1,r149.2.2.1,r149.2.2.2.1,([]:RW),true,r148.2.1,r148.2.2.1,(!r149.2.2.2.2),r148.2.2.2.2))))))) (.done ((0:Int),(0:Int),(0:Int),(0:Int),(⟨#[]⟩:BA),(0:Int),(0:Int),false,false,(0:Int),(0:Int),false,false,([]:RW),false,x0,r145.2.2.1,r145.2.2.2.1,r145.2.2.2.2)))))
def qDF:Nat→BA→Nat→Bool→RW→Option (Int×Int×Int×Int×BA×Int×Int×Bool×Bool×Int×Int×Bool×Bool×RW×Bool×BA×Nat×Bool×RW)
 |0,_,_,_,_=>none
 |n+1,x0,x1,x2,x3=>(qEr n x0 x1 x2 x3).run
abbrev qIQ (n:Nat):List (Ent (Rn n)):= [en (qFv n),en (qEl n),en (qB1 n)]
theorem qHy:∀n,Ok (Rn n) qIP (qDF n)
 |0=>ok0 fun _=>rfl
 |n+1=>stO (T:=qEr n) (by kernel_rfl) (qIQ n) [] (fun _=>(by kernel_rfl)) fun _=>(by kernel_rfl)
def qPp:Sg:=⟨50,[aI],[],⟨aS,[],[]⟩⟩
def qHX (n:Nat) (x0:Int):Tr (BA):=(.ask (decide (12=([[(.s (⟨#[]⟩:BA))],[(.s (⟨#[43]⟩:BA))],[(.s (⟨#[45]⟩:BA))],[(.s (⟨#[42]⟩:BA))],[(.s (⟨#[47]⟩:BA))],[(.s (⟨#[38]⟩:BA))],[(.s (⟨#[61]⟩:BA))],[(.s (⟨#[60,62]⟩:BA))],[(.s (⟨#[60]⟩:BA))],[(.s (⟨#[60,61]⟩:BA))],[(.s (⟨#[62]⟩:BA))],[(.s (⟨#[62,61]⟩:BA))]]:RW).length∧0≤x0∧x0<((12:Nat):Int))) (.opt (([[(.s (⟨#[]⟩:BA))],[(.s (⟨#[43]⟩:BA))],[(.s (⟨#[45]⟩:BA))],[(.s (⟨#[42]⟩:BA))],[(.s (⟨#[47]⟩:BA))],[(.s (⟨#[38]⟩:BA))],[(.s (⟨#[61]⟩:BA))],[(.s (⟨#[60,62]⟩:BA))],[(.s (⟨#[60]⟩:BA))],[(.s (⟨#[60,61]⟩:BA))],[(.s (⟨#[62]⟩:BA))],[(.s (⟨#[62,61]⟩:BA))]]:RW)[(x0).toNat]?) fun e176=>(.opt (zAG e176 0) fun y177=>(.done y177))) .fail)
def qBO:Nat→Int→Option (BA)
 |0,_=>none
 |n+1,x0=>(qHX n x0).run
theorem qJh:∀n,Ok (Rn n) qPp (qBO n)
 |0=>ok0 fun _=>rfl
 |n+1=>stO (T:=qHX n) (by kernel_rfl) [] [] (fun _=>(by kernel_rfl)) fun _=>(by kernel_rfl)
def qQc:Sg:=⟨51,[aI],[],⟨aI,[],[]⟩⟩
def qIR (n:Nat) (x0:Int):Tr (Int):=(.ask ((x0==(3:Int))) (.done (4:Int)) (.ask ((x0==(4:Int))) (.done (4:Int)) (.ask ((x0==(1:Int))) (.done (3:Int)) (.ask ((x0==(2:Int))) (.done (3:Int)) (.ask ((x0==(5:Int))) (.done (2:Int)) (.done (1:Int)))))))
def qDp:Nat→Int→Option (Int)
 |0,_=>none
 |n+1,x0=>(qIR n x0).run
theorem qKp:∀n,Ok (Rn n) qQc (qDp n)
 |0=>ok0 fun _=>rfl
 |n+1=>stO (T:=qIR n) (by kernel_rfl) [] [] (fun _=>(by kernel_rfl)) fun _=>(by kernel_rfl)
def qFX:Sg:=⟨20,[(.c (.ptr 0 0 0 0 0)),aI,aI],[[(0,⟨0,3,41,(.box [qS,(.own 0 1 1 0),qB])⟩),(1,⟨1,14,52,(.row [])⟩)]],⟨aI,[[(0,⟨0,3,41,(.box [qS,(.own 0 1 1 0),qB])⟩),(1,⟨1,14,52,(.row [])⟩)]],[]⟩⟩
def qKS:Sg:=⟨48,[(.c (.ptr 0 0 0 0 0)),aI],[[(0,⟨0,3,41,(.box [qS,(.own 0 1 1 0),qB])⟩),(1,⟨1,14,52,(.row [])⟩)]],⟨aI,[[(0,⟨0,3,41,(.box [qS,(.own 0 1 1 0),qB])⟩),(1,⟨1,14,52,(.row [])⟩)]],[]⟩⟩
def qLF:Sg:=⟨89,[(.c (.ptr 0 0 0 0 0)),aI],[[(0,⟨0,3,41,(.box [qS,(.own 0 1 1 0),qB])⟩),(1,⟨1,14,52,(.row [])⟩)]],⟨aI,[[(0,⟨0,3,41,(.box [qS,(.own 0 1 1 0),qB])⟩),(1,⟨1,14,52,(.row [])⟩)]],[]⟩⟩
def qLG:Sg:=⟨122,[(.c (.ptr 0 0 0 0 0)),aI,aI],[[(0,⟨0,3,41,(.box [qS,(.own 0 1 1 0),qB])⟩),(1,⟨1,14,52,(.row [])⟩)]],⟨aI,[[(0,⟨0,3,41,(.box [qS,(.own 0 1 1 0),qB])⟩),(1,⟨1,14,52,(.row [])⟩)]],[]⟩⟩
structure G_impl_reader_binary where
 impl_reader_binary:Int→Int→BA→Nat→Bool→RW→Option (Int×BA×Nat×Bool×RW)
 impl_reader_unary:Int→BA→Nat→Bool→RW→Option (Int×BA×Nat×Bool×RW)
 impl_reader_atom:Int→BA→Nat→Bool→RW→Option (Int×BA×Nat×Bool×RW)
 impl_reader_call:Int→Int→BA→Nat→Bool→RW→Option (Int×BA×Nat×Bool×RW)
def qBE (n:Nat) (v:Int×Int×Int×Int×Int×BA×Nat×Bool×RW):Tr ((Int×Int×Int×Int×Int×BA×Nat×Bool×RW)⊕((Int×Int×Int×Int×BA×Nat×Bool×RW))):=(.ask ((decide (v.2.2.2.2.1≤(11:Int)))) (.opt (qBk n v.2.2.2.2.2.1 v.2.2.2.2.2.2.1 v.2.2.2.2.2.2.2.1 v.2.2.2.2.2.2.2.2) fun r175=>(.opt (qBO n v.2.2.2.2.1) fun r176=>(.ask ((r175.1.toList==r176.toList)) (.done (.inl (v.1,v.2.1,v.2.2.1,v.2.2.2.2.1,(IntKind.i64.wrap (v.2.2.2.2.1+(1:Int))),r175.2.1,r175.2.2.1,r175.2.2.2.1,r175.2.2.2.2))) (.done (.inl (v.1,v.2.1,v.2.2.1,v.2.2.2.1,(IntKind.i64.wrap (v.2.2.2.2.1+(1:Int))),r175.2.1,r175.2.2.1,r175.2.2.2.1,r175.2.2.2.2)))))) (.done (.inr ((v.1,v.2.1,v.2.2.1,v.2.2.2.1,v.2.2.2.2.2.1,v.2.2.2.2.2.2.1,v.2.2.2.2.2.2.2.1,v.2.2.2.2.2.2.2.2)))))
def qC5 (rec:G_impl_reader_binary) (n:Nat) (v:Int×Int×Int×BA×Nat×Bool×RW):Tr ((Int×Int×Int×BA×Nat×Bool×RW)⊕((Int×BA×Nat×Bool×RW))):=(.ask ((!v.2.2.2.2.2.1)) (.opt (zF (qBE n) n (v.1,v.2.1,v.2.2.1,(0:Int),(1:Int),v.2.2.2.1,v.2.2.2.2.1,v.2.2.2.2.2.1,v.2.2.2.2.2.2)) fun r177=>(.ask ((r177.2.2.2.1==(0:Int))) (.done (.inr ((r177.2.2.1,r177.2.2.2.2.1,r177.2.2.2.2.2.1,r177.2.2.2.2.2.2.1,r177.2.2.2.2.2.2.2)))) (.opt (qDp n r177.2.2.2.1) fun r178=>(.ask ((decide (r178<r177.1))) (.done (.inr ((r177.2.2.1,r177.2.2.2.2.1,r177.2.2.2.2.2.1,r177.2.2.2.2.2.2.1,r177.2.2.2.2.2.2.2)))) (.opt (qBO n r177.2.2.2.1) fun r179=>(.opt (qn n r179 r177.2.2.2.2.1 r177.2.2.2.2.2.1 r177.2.2.2.2.2.2.1 r177.2.2.2.2.2.2.2) fun r180=>(.opt (qDp n r177.2.2.2.1) fun r181=>(.opt (rec.impl_reader_binary (IntKind.i64.wrap (r181+(1:Int))) r177.2.1 r180.2.1 r180.2.2.1 r180.2.2.2.1 r180.2.2.2.2) fun r182=>(.ask (decide (2=([[(.i .i64 r177.2.2.1)],[(.i .i64 r182.1)]]:RW).length)) (.opt (qo n (5:Int) r177.2.2.2.1 (0:Int) (0:Int) (⟨#[]⟩:BA) (0:Int) (0:Int) false false (0:Int) (0:Int) false false ([[(.i .i64 r177.2.2.1)],[(.i .i64 r182.1)]]:RW) r182.2.1 r182.2.2.1 r182.2.2.2.1 r182.2.2.2.2) fun r183=>(.done (.inl (r177.1,r177.2.1,r183.1,r183.2.1,r183.2.2.1,r183.2.2.2.1,r183.2.2.2.2)))) .fail))))))))) (.done (.inr ((v.2.2.1,v.2.2.2.1,v.2.2.2.2.1,v.2.2.2.2.2.1,v.2.2.2.2.2.2)))))
def qFY (rec:G_impl_reader_binary) (n:Nat) (x0 x1:Int) (x2:BA) (x3:Nat) (x4:Bool) (x5:RW):Tr (Int×BA×Nat×Bool×RW):=(.opt (rec.impl_reader_unary x1 x2 x3 x4 x5) fun r174=>(.opt (zF (qC5 rec n) n (x0,x1,r174.1,r174.2.1,r174.2.2.1,r174.2.2.2.1,r174.2.2.2.2)) fun r184=>(.done (r184.1,r184.2.1,r184.2.2.1,r184.2.2.2.1,r184.2.2.2.2))))
def qFw (rec:G_impl_reader_binary) (n:Nat) (x0:Int) (x1:BA) (x2:Nat) (x3:Bool) (x4:RW):Tr (Int×BA×Nat×Bool×RW):=(.ask ((decide (x0>(400:Int)))) (.ask (true) (.done ((-1:Int),x1,x2,true,x4)) (.opt (qn n (⟨#[45]⟩:BA) x1 x2 true x4) fun r79=>(.ask (r79.1) (.opt (rec.impl_reader_unary (IntKind.i64.wrap (x0+(1:Int))) r79.2.1 r79.2.2.1 r79.2.2.2.1 r79.2.2.2.2) fun r80=>(.ask (decide (1=([[(.i .i64 r80.1)]]:RW).length)) (.opt (qo n (4:Int) (0:Int) (0:Int) (0:Int) (⟨#[]⟩:BA) (0:Int) (0:Int) false false (0:Int) (0:Int) false false ([[(.i .i64 r80.1)]]:RW) r80.2.1 r80.2.2.1 r80.2.2.2.1 r80.2.2.2.2) fun r81=>(.done (r81.1,r81.2.1,r81.2.2.1,r81.2.2.2.1,r81.2.2.2.2))) .fail)) (.opt (rec.impl_reader_atom x0 r79.2.1 r79.2.2.1 r79.2.2.2.1 r79.2.2.2.2) fun r169=>(.done (r169.1,r169.2.1,r169.2.2.1,r169.2.2.2.1,r169.2.2.2.2)))))) (.ask (x3) (.done ((-1:Int),x1,x2,x3,x4)) (.opt (qn n (⟨#[45]⟩:BA) x1 x2 x3 x4) fun r170=>(.ask (r170.1) (.opt (rec.impl_reader_unary (IntKind.i64.wrap (x0+(1:Int))) r170.2.1 r170.2.2.1 r170.2.2.2.1 r170.2.2.2.2) fun r171=>(.ask (decide (1=([[(.i .i64 r171.1)]]:RW).length)) (.opt (qo n (4:Int) (0:Int) (0:Int) (0:Int) (⟨#[]⟩:BA) (0:Int) (0:Int) false false (0:Int) (0:Int) false false ([[(.i .i64 r171.1)]]:RW) r171.2.1 r171.2.2.1 r171.2.2.2.1 r171.2.2.2.2) fun r172=>(.done (r172.1,r172.2.1,r172.2.2.1,r172.2.2.2.1,r172.2.2.2.2))) .fail)) (.opt (rec.impl_reader_atom x0 r170.2.1 r170.2.2.1 r170.2.2.2.1 r170.2.2.2.2) fun r173=>(.done (r173.1,r173.2.1,r173.2.2.1,r173.2.2.2.1,r173.2.2.2.2)))))))
def qB6 (n:Nat) (v:Int×Int×BA×Nat×Bool×RW):Tr ((Int×Int×BA×Nat×Bool×RW)⊕((Int×BA×Nat×Bool×RW)⊕(Int×BA×Nat×Bool×RW))):=(.ask ((decide (v.2.1≤(5:Int)))) (.opt (qAm n v.2.1) fun r93=>(.opt (qAF n v.2.2.1 r93) fun r94=>(.ask (r94.2) (.opt (qBr n v.2.1) fun r95=>(.opt (qj n r95.1 r95.2.1 r95.2.2 r94.1 v.2.2.2.1 v.2.2.2.2.1 v.2.2.2.2.2) fun r96=>(.done (.inr (.inl ((r96.1,r96.2.1,r96.2.2.1,r96.2.2.2.1,r96.2.2.2.2))))))) (.done (.inl (v.1,(IntKind.i64.wrap (v.2.1+(1:Int))),v.2.2.1,v.2.2.2.1,v.2.2.2.2.1,v.2.2.2.2.2)))))) (.done (.inr (.inr ((v.1,v.2.2.1,v.2.2.2.1,v.2.2.2.2.1,v.2.2.2.2.2))))))
def qAp (rec:G_impl_reader_binary) (n:Nat) (v:Int×BA×Int×BA×Nat×Bool×RW):Tr ((Int×BA×Int×BA×Nat×Bool×RW)⊕((Int×BA×Nat×Bool×RW)⊕(BA×Nat×Bool×RW))):=(.ask ((decide (v.2.2.1≤(10:Int)))) (.opt (qB9 n v.2.2.1) fun r142=>(.ask ((v.2.1.toList==r142.toList)) (.opt (rec.impl_reader_call v.2.2.1 v.1 v.2.2.2.1 v.2.2.2.2.1 v.2.2.2.2.2.1 v.2.2.2.2.2.2) fun r143=>(.done (.inr (.inl ((r143.1,r143.2.1,r143.2.2.1,r143.2.2.2.1,r143.2.2.2.2)))))) (.done (.inl (v.1,v.2.1,(IntKind.i64.wrap (v.2.2.1+(1:Int))),v.2.2.2.1,v.2.2.2.2.1,v.2.2.2.2.2.1,v.2.2.2.2.2.2))))) (.done (.inr (.inr ((v.2.2.2.1,v.2.2.2.2.1,v.2.2.2.2.2.1,v.2.2.2.2.2.2))))))
def qGW (rec:G_impl_reader_binary) (n:Nat) (x0:Int) (x1:BA) (x2:Nat) (x3:Bool) (x4:RW):Tr (Int×BA×Nat×Bool×RW):=(.opt (qA2 n x1 x2 x3 x4) fun r82=>(.opt (qk n r82.1 (⟨#[34]⟩:BA)) fun r83=>(.ask (r83) (.opt (qDc n r82.1 r82.2.1 r82.2.2.1 r82.2.2.2) fun r91=>(.done (r91.1,r91.2.1,r91.2.2.1,r91.2.2.2.1,r91.2.2.2.2))) (.opt (qk n r82.1 (⟨#[35]⟩:BA)) fun r92=>(.ask (r92) (.opt (zF (qB6 n) n (x0,(1:Int),r82.1,r82.2.1,r82.2.2.1,r82.2.2.2)) fun r97=>(.alt r97 (fun r98=>(.done (r98.1,r98.2.1,r98.2.2.1,r98.2.2.2.1,r98.2.2.2.2))) (fun r99=>(.opt (qBJ n r99.2.1 r99.2.2.1 r99.2.2.2.1 r99.2.2.2.2) fun r102=>(.opt (qe n r102.1) fun r137=>(.ask (r137.2.2.2) (.ask ((r137.1==(1:Int))) (.opt (qj n r137.1 r137.2.1 r137.2.2.1 r102.2.1 r102.2.2.1 r102.2.2.2.1 r102.2.2.2.2) fun r138=>(.done (r138.1,r138.2.1,r138.2.2.1,r138.2.2.2.1,r138.2.2.2.2))) (.ask ((r137.1==(3:Int))) (.opt (qj n r137.1 r137.2.1 r137.2.2.1 r102.2.1 r102.2.2.1 r102.2.2.2.1 r102.2.2.2.2) fun r139=>(.done (r139.1,r139.2.1,r139.2.2.1,r139.2.2.2.1,r139.2.2.2.2))) (.opt (qAS n r102.1) fun r140=>(.ask (r140.2.2.2.2) (.opt (qo n (2:Int) (0:Int) (0:Int) (0:Int) (⟨#[]⟩:BA) r140.1 r140.2.1 r140.2.2.1 r140.2.2.2.1 (0:Int) (0:Int) false false ([]:RW) r102.2.1 r102.2.2.1 r102.2.2.2.1 r102.2.2.2.2) fun r141=>(.done (r141.1,r141.2.1,r141.2.2.1,r141.2.2.2.1,r141.2.2.2.2))) (.opt (zF (qAp rec n) n (r99.1,r102.1,(1:Int),r102.2.1,r102.2.2.1,r102.2.2.2.1,r102.2.2.2.2)) fun r144=>(.alt r144 (fun r145=>(.done (r145.1,r145.2.1,r145.2.2.1,r145.2.2.2.1,r145.2.2.2.2))) (fun r146=>(.done ((-1:Int),r146.1,r146.2.1,true,r146.2.2.2))))))))) (.opt (qAS n r102.1) fun r147=>(.ask (r147.2.2.2.2) (.opt (qo n (2:Int) (0:Int) (0:Int) (0:Int) (⟨#[]⟩:BA) r147.1 r147.2.1 r147.2.2.1 r147.2.2.2.1 (0:Int) (0:Int) false false ([]:RW) r102.2.1 r102.2.2.1 r102.2.2.2.1 r102.2.2.2.2) fun r148=>(.done (r148.1,r148.2.1,r148.2.2.1,r148.2.2.2.1,r148.2.2.2.2))) (.opt (zF (qAp rec n) n (r99.1,r102.1,(1:Int),r102.2.1,r102.2.2.1,r102.2.2.2.1,r102.2.2.2.2)) fun r149=>(.alt r149 (fun r150=>(.done (r150.1,r150.2.1,r150.2.2.1,r150.2.2.2.1,r150.2.2.2.2))) (fun r151=>(.done ((-1:Int),r151.1,r151.2.1,true,r151.2.2.2))))))))))))) (.opt (qn n (⟨#[40]⟩:BA) r82.1 r82.2.1 r82.2.2.1 r82.2.2.2) fun r152=>(.ask (r152.1) (.opt (rec.impl_reader_binary (1:Int) (IntKind.i64.wrap (x0+(1:Int))) r152.2.1 r152.2.2.1 r152.2.2.2.1 r152.2.2.2.2) fun r153=>(.ask (r153.2.2.2.1) (.done (r153.1,r153.2.1,r153.2.2.1,true,r153.2.2.2.2)) (.opt (qn n (⟨#[41]⟩:BA) r153.2.1 r153.2.2.1 r153.2.2.2.1 r153.2.2.2.2) fun r154=>(.done (r153.1,r154.2.1,r154.2.2.1,(!r154.1),r154.2.2.2.2))))) (.opt (qBJ n r152.2.1 r152.2.2.1 r152.2.2.2.1 r152.2.2.2.2) fun r155=>(.opt (qe n r155.1) fun r156=>(.ask (r156.2.2.2) (.ask ((r156.1==(1:Int))) (.opt (qj n r156.1 r156.2.1 r156.2.2.1 r155.2.1 r155.2.2.1 r155.2.2.2.1 r155.2.2.2.2) fun r157=>(.done (r157.1,r157.2.1,r157.2.2.1,r157.2.2.2.1,r157.2.2.2.2))) (.ask ((r156.1==(3:Int))) (.opt (qj n r156.1 r156.2.1 r156.2.2.1 r155.2.1 r155.2.2.1 r155.2.2.2.1 r155.2.2.2.2) fun r158=>(.done (r158.1,r158.2.1,r158.2.2.1,r158.2.2.2.1,r158.2.2.2.2))) (.opt (qAS n r155.1) fun r159=>(.ask (r159.2.2.2.2) (.opt (qo n (2:Int) (0:Int) (0:Int) (0:Int) (⟨#[]⟩:BA) r159.1 r159.2.1 r159.2.2.1 r159.2.2.2.1 (0:Int) (0:Int) false false ([]:RW) r155.2.1 r155.2.2.1 r155.2.2.2.1 r155.2.2.2.2) fun r160=>(.done (r160.1,r160.2.1,r160.2.2.1,r160.2.2.2.1,r160.2.2.2.2))) (.opt (zF (qAp rec n) n (x0,r155.1,(1:Int),r155.2.1,r155.2.2.1,r155.2.2.2.1,r155.2.2.2.2)) fun r161=>(.alt r161 (fun r162=>(.done (r162.1,r162.2.1,r162.2.2.1,r162.2.2.2.1,r162.2.2.2.2))) (fun r163=>(.done ((-1:Int),r163.1,r163.2.1,true,r163.2.2.2))))))))) (.opt (qAS n r155.1) fun r164=>(.ask (r164.2.2.2.2) (.opt (qo n (2:Int) (0:Int) (0:Int) (0:Int) (⟨#[]⟩:BA) r164.1 r164.2.1 r164.2.2.1 r164.2.2.2.1 (0:Int) (0:Int) false false ([]:RW) r155.2.1 r155.2.2.1 r155.2.2.2.1 r155.2.2.2.2) fun r165=>(.done (r165.1,r165.2.1,r165.2.2.1,r165.2.2.2.1,r165.2.2.2.2))) (.opt (zF (qAp rec n) n (x0,r155.1,(1:Int),r155.2.1,r155.2.2.1,r155.2.2.2.1,r155.2.2.2.2)) fun r166=>(.alt r166 (fun r167=>(.done (r167.1,r167.2.1,r167.2.2.1,r167.2.2.2.1,r167.2.2.2.2))) (fun r168=>(.done ((-1:Int),r168.1,r168.2.1,true,r168.2.2.2)))))))))))))))))
def qCN (rec:G_impl_reader_binary) (n:Nat) (v:Int×Int×Nat×RW×BA×Nat×Bool×RW):Tr ((Int×Int×Nat×RW×BA×Nat×Bool×RW)⊕((Int×Nat×RW×BA×Nat×Bool×RW))):=(.ask ((!v.2.2.2.2.2.2.1)) (.opt (qDF n v.2.2.2.2.1 v.2.2.2.2.2.1 v.2.2.2.2.2.2.1 v.2.2.2.2.2.2.2) fun r145=>(.ask (r145.2.2.2.2.2.2.2.2.2.2.2.2.2.2.1) (.opt (qo n r145.1 r145.2.1 r145.2.2.1 r145.2.2.2.1 r145.2.2.2.2.1 r145.2.2.2.2.2.1 r145.2.2.2.2.2.2.1 r145.2.2.2.2.2.2.2.1 r145.2.2.2.2.2.2.2.2.1 r145.2.2.2.2.2.2.2.2.2.1 r145.2.2.2.2.2.2.2.2.2.2.1 r145.2.2.2.2.2.2.2.2.2.2.2.1 r145.2.2.2.2.2.2.2.2.2.2.2.2.1 r145.2.2.2.2.2.2.2.2.2.2.2.2.2.1 r145.2.2.2.2.2.2.2.2.2.2.2.2.2.2.2.1 r145.2.2.2.2.2.2.2.2.2.2.2.2.2.2.2.2.1 r145.2.2.2.2.2.2.2.2.2.2.2.2.2.2.2.2.2.1 r145.2.2.2.2.2.2.2.2.2.2.2.2.2.2.2.2.2.2) fun r146=>(.ask (decide (1=([[(.i .i64 r146.1)]]:RW).length)) (.ask (decide (v.2.2.1=v.2.2.2.1.length∧0<1∧0<8∧(v.2.2.1+([[(.i .i64 r146.1)]]:RW).length)*8≤140737488355328∧([[(.i .i64 r146.1)]]:RW).all (fun e=>e.length==1)=true)) (.opt (qn n (⟨#[44]⟩:BA) r146.2.1 r146.2.2.1 r146.2.2.2.1 r146.2.2.2.2) fun r147=>(.ask ((!r147.1)) (.ask (r147.2.2.2.1) (.done (.inr ((v.1,(v.2.2.1+1),(v.2.2.2.1++([[(.i .i64 r146.1)]]:RW)),r147.2.1,r147.2.2.1,true,r147.2.2.2.2)))) (.opt (qn n (⟨#[41]⟩:BA) r147.2.1 r147.2.2.1 r147.2.2.2.1 r147.2.2.2.2) fun r148=>(.done (.inr ((v.1,(v.2.2.1+1),(v.2.2.2.1++([[(.i .i64 r146.1)]]:RW)),r148.2.1,r148.2.2.1,(!r148.1),r148.2.2.2.2)))))) (.done (.inl (v.1,v.2.1,(v.2.2.1+1),(v.2.2.2.1++([[(.i .i64 r146.1)]]:RW)),r147.2.1,r147.2.2.1,r147.2.2.2.1,r147.2.2.2.2))))) .fail) .fail)) (.opt (rec.impl_reader_binary (1:Int) (IntKind.i64.wrap (v.2.1+(1:Int))) r145.2.2.2.2.2.2.2.2.2.2.2.2.2.2.2.1 r145.2.2.2.2.2.2.2.2.2.2.2.2.2.2.2.2.1 r145.2.2.2.2.2.2.2.2.2.2.2.2.2.2.2.2.2.1 r145.2.2.2.2.2.2.2.2.2.2.2.2.2.2.2.2.2.2) fun r149=>(.ask (decide (1=([[(.i .i64 r149.1)]]:RW).length)) (.ask (decide (v.2.2.1=v.2.2.2.1.length∧0<1∧0<8∧(v.2.2.1+([[(.i .i64 r149.1)]]:RW).length)*8≤140737488355328∧([[(.i .i64 r149.1)]]:RW).all (fun e=>e.length==1)=true)) (.opt (qn n (⟨#[44]⟩:BA) r149.2.1 r149.2.2.1 r149.2.2.2.1 r149.2.2.2.2) fun r150=>(.ask ((!r150.1)) (.ask (r150.2.2.2.1) (.done (.inr ((v.1,(v.2.2.1+1),(v.2.2.2.1++([[(.i .i64 r149.1)]]:RW)),r150.2.1,r150.2.2.1,true,r150.2.2.2.2)))) (.opt (qn n (⟨#[41]⟩:BA) r150.2.1 r150.2.2.1 r150.2.2.2.1 r150.2.2.2.2) fun r151=>(.done (.inr ((v.1,(v.2.2.1+1),(v.2.2.2.1++([[(.i .i64 r149.1)]]:RW)),r151.2.1,r151.2.2.1,(!r151.1),r151.2.2.2.2)))))) (.done (.inl (v.1,v.2.1,(v.2.2.1+1),(v.2.2.2.1++([[(.i .i64 r149.1)]]:RW)),r150.2.1,r150.2.2.1,r150.2.2.2.1,r150.2.2.2.2))))) .fail) .fail)))) (.done (.inr ((v.1,v.2.2.1,v.2.2.2.1,v.2.2.2.2.1,v.2.2.2.2.2.1,v.2.2.2.2.2.2.1,v.2.2.2.2.2.2.2)))))
def qGX (rec:G_impl_reader_binary) (n:Nat) (x0 x1:Int) (x2:BA) (x3:Nat) (x4:Bool) (x5:RW):Tr (Int×BA×Nat×Bool×RW):=(.ask (x4) (.opt (zF (qCN rec n) n (x0,x1,(0:Nat),([]:RW),x2,x3,true,x5)) fun r152=>(.ask (decide (r152.2.1=r152.2.2.1.length)) (.opt (qo n (6:Int) r152.1 (0:Int) (0:Int) (⟨#[]⟩:BA) (0:Int) (0:Int) false false (0:Int) (0:Int) false false r152.2.2.1 r152.2.2.2.1 r152.2.2.2.2.1 r152.2.2.2.2.2.1 r152.2.2.2.2.2.2) fun r153=>(.done (r153.1,r153.2.1,r153.2.2.1,r153.2.2.2.1,r153.2.2.2.2))) .fail)) (.opt (qn n (⟨#[40]⟩:BA) x2 x3 x4 x5) fun r154=>(.opt (zF (qCN rec n) n (x0,x1,(0:Nat),([]:RW),r154.2.1,r154.2.2.1,(!r154.1),r154.2.2.2.2)) fun r155=>(.ask (decide (r155.2.1=r155.2.2.1.length)) (.opt (qo n (6:Int) r155.1 (0:Int) (0:Int) (⟨#[]⟩:BA) (0:Int) (0:Int) false false (0:Int) (0:Int) false false r155.2.2.1 r155.2.2.2.1 r155.2.2.2.2.1 r155.2.2.2.2.2.1 r155.2.2.2.2.2.2) fun r156=>(.done (r156.1,r156.2.1,r156.2.2.1,r156.2.2.2.1,r156.2.2.2.2))) .fail))))
def qR:Nat→G_impl_reader_binary
 |0=>⟨fun _ _ _ _ _ _=>none,fun _ _ _ _ _=>none,fun _ _ _ _ _=>none,fun _ _ _ _ _ _=>none⟩
 |n+1=>⟨fun x0 x1 x2 x3 x4 x5=>(qFY (qR n) n x0 x1 x2 x3 x4 x5).run,fun x0 x1 x2 x3 x4=>(qFw (qR n) n x0 x1 x2 x3 x4).run,fun x0 x1 x2 x3 x4=>(qGW (qR n) n x0 x1 x2 x3 x4).run,fun x0 x1 x2 x3 x4 x5=>(qGX (qR n) n x0 x1 x2 x3 x4 x5).run⟩
def qCc (n:Nat) (x0 x1:Int) (x2:BA) (x3:Nat) (x4:Bool) (x5:RW):Option (Int×BA×Nat×Bool×RW):=(qR n).impl_reader_binary x0 x1 x2 x3 x4 x5
def qFx (n:Nat) (x0:Int) (x1:BA) (x2:Nat) (x3:Bool) (x4:RW):Option (Int×BA×Nat×Bool×RW):=(qR n).impl_reader_unary x0 x1 x2 x3 x4
def qGY (n:Nat) (x0:Int) (x1:BA) (x2:Nat) (x3:Bool) (x4:RW):Option (Int×BA×Nat×Bool×RW):=(qR n).impl_reader_atom x0 x1 x2 x3 x4
def qCJ (n:Nat) (x0 x1:Int) (x2:BA) (x3:Nat) (x4:Bool) (x5:RW):Option (Int×BA×Nat×Bool×RW):=(qR n).impl_reader_call x0 x1 x2 x3 x4 x5
def qAB (n:Nat):Prop:=
 Ok (Rn n) qFX (qCc n)∧
 Ok (Rn n) qKS (qFx n)∧
 Ok (Rn n) qLF (qGY n)∧
 Ok (Rn n) qLG (qCJ n)
abbrev qDd (n:Nat) (ih:qAB n):List (Ent (Rn n)):= [en ih.2.1,en (qFu n),en (qJh n),en (qKp n),en (qB1 n),en ih.1,en (qCI n)]
def qHY (n:Nat) (ih:qAB n):LEnt (lb 14 (KB 20)) (Rn n) n:=lok (Uniq.pick (zb 20) 14) 237 ⟨⟨[(0,(.c (.ptr 0 0 0 0 0))),(1,aI),(2,aI),(7,aI),(8,aI),(9,aI)],[],[[(0,⟨0,3,41,(.box [qS,(.own 0 1 1 0),qB])⟩),(1,⟨1,14,52,(.row [])⟩)]]⟩,[(.exit 2,⟨[(0,(.c (.ptr 0 0 0 0 0))),(1,aI),(2,aI),(7,aI),(8,aI)],[],[[(0,⟨0,3,41,(.box [qS,(.own 0 1 1 0),qB])⟩),(1,⟨1,14,52,(.row [])⟩)]]⟩)]⟩ (qBE n) (qDd n ih) [] fun _=>(by kernel_rfl)
def qHz (n:Nat) (ih:qAB n):LEnt (KB 20) (Rn n) n:=lok (zb 20) 14 ⟨⟨[(0,(.c (.ptr 0 0 0 0 0))),(1,aI),(2,aI),(7,aI)],[],[[(0,⟨0,3,41,(.box [qS,(.own 0 1 1 0),qB])⟩),(1,⟨1,14,52,(.row [])⟩)]]⟩,[(.exit 0,⟨[(7,aI)],[],[[(0,⟨0,3,41,(.box [qS,(.own 0 1 1 0),qB])⟩),(1,⟨1,14,52,(.row [])⟩)]]⟩)]⟩ (qC5 (qR n) n) (qDd n ih) [qHY n ih] fun _=>(by kernel_rfl)
abbrev qKT (n:Nat) (ih:qAB n):List (Ent (Rn n)):= [en (qB1 n),en ih.2.1,en (qCI n),en ih.2.2.1]
abbrev qEK (n:Nat) (ih:qAB n):List (Ent (Rn n)):= [en (qCL n),en (qCb n),en (qJB n),en (qEp n),en (qCY n),en (qKo n),en (qES n),en (qFv n),en (qG5 n),en (qEl n),en (qCI n),en (qJg n),en ih.2.2.2,en (qB1 n),en ih.1]
def qIS (n:Nat) (ih:qAB n):LEnt (KB 89) (Rn n) n:=lok (zb 89) 477 ⟨⟨[(0,(.c (.ptr 0 0 0 0 0))),(1,aI),(5,aI)],[],[[(0,⟨0,3,41,(.box [qS,(.own 0 1 1 0),qB])⟩),(1,⟨1,14,52,(.row [])⟩)]]⟩,[(.ret,⟨[(4,aI)],[],[[(0,⟨0,3,41,(.box [qS,(.own 0 1 1 0),qB])⟩),(1,⟨1,14,52,(.row [])⟩)]]⟩),(.exit 1,⟨[(0,(.c (.ptr 0 0 0 0 0))),(1,aI)],[],[[(0,⟨0,3,41,(.box [qS,(.own 0 1 1 0),qB])⟩),(1,⟨1,14,52,(.row [])⟩)]]⟩)]⟩ (qB6 n) (qEK n ih) [] fun _=>(by kernel_rfl)
def qIT (n:Nat) (ih:qAB n):LEnt (KB 89) (Rn n) n:=lok (zb 89) 509 ⟨⟨[(0,(.c (.ptr 0 0 0 0 0))),(1,aI),(9,aS),(14,aI)],[],[[(0,⟨0,3,41,(.box [qS,(.own 0 1 1 0),qB])⟩),(1,⟨1,14,52,(.row [])⟩)]]⟩,[(.ret,⟨[(4,aI)],[],[[(0,⟨0,3,41,(.box [qS,(.own 0 1 1 0),qB])⟩),(1,⟨1,14,52,(.row [])⟩)]]⟩),(.exit 3,⟨[(0,(.c (.ptr 0 0 0 0 0)))],[],[[(0,⟨0,3,41,(.box [qS,(.own 0 1 1 0),qB])⟩),(1,⟨1,14,52,(.row [])⟩)]]⟩)]⟩ (qAp (qR n) n) (qEK n ih) [] fun _=>(by kernel_rfl)
abbrev qGZ (n:Nat) (ih:qAB n):List (Ent (Rn n)):= [en (qHy n),en (qCI n),en (qB1 n),en ih.1]
def qJD (n:Nat) (ih:qAB n):LEnt (KB 122) (Rn n) n:=lok (zb 122) 30 ⟨⟨[(0,(.c (.ptr 0 0 0 0 0))),(1,aI),(2,aI),(7,(.c (.own 1 640 0 0)))],[(640,⟨0,1,2,(.row [])⟩)],[[(0,⟨0,3,41,(.box [qS,(.own 0 1 1 0),qB])⟩),(1,⟨1,14,52,(.row [])⟩)]]⟩,[(.exit 0,⟨[(0,(.c (.ptr 0 0 0 0 0))),(1,aI),(7,(.c (.own 1 640 0 0)))],[(640,⟨0,1,2,(.row [])⟩)],[[(0,⟨0,3,41,(.box [qS,(.own 0 1 1 0),qB])⟩),(1,⟨1,14,52,(.row [])⟩)]]⟩)]⟩ (qCN (qR n) n) (qGZ n ih) [] fun _=>(by kernel_rfl)
theorem qAJ:∀n,qAB n
 |0=>⟨ok0 fun _=>rfl,ok0 fun _=>rfl,ok0 fun _=>rfl,ok0 fun _=>rfl⟩
 |n+1=>⟨stO (T:=qFY (qR n) n) (by kernel_rfl) (qDd n (qAJ n)) [qHz n (qAJ n)] (fun _=>(by kernel_rfl)) fun _=>(by kernel_rfl),stO (T:=qFw (qR n) n) (by kernel_rfl) (qKT n (qAJ n)) [] (fun _=>(by kernel_rfl)) fun _=>(by kernel_rfl),stO (T:=qGW (qR n) n) (by kernel_rfl) (qEK n (qAJ n)) [qIS n (qAJ n),qIT n (qAJ n)] (fun _=>(by kernel_rfl)) fun _=>(by kernel_rfl),stO (T:=qGX (qR n) n) (by kernel_rfl) (qGZ n (qAJ n)) [qJD n (qAJ n)] (fun _=>(by kernel_rfl)) fun _=>(by kernel_rfl)⟩
theorem qJE (n:Nat):Ok (Rn n) qFX (qCc n):=(qAJ n).1
def qLu:Sg:=⟨155,[(.agg [qI,qI,qI,qI,qS,qI,qI,qB,qB,qI,qI,qB,qB,qL])],[],⟨(.agg [qI,qI,qI,qI]),[],[]⟩⟩
def qEs (n:Nat) (x0 x1 x2 x3:Int) (x4:BA) (x5 x6:Int) (x7 x8:Bool) (x9 x10:Int) (x11 x12:Bool) (x13:RW):Tr (Int×Int×Int×Int):=(.ask ((x0==(2:Int))) (.done (x5,x6,x5,x6)) (.done (x5,x6,x9,x10)))
def qCd:Nat→Int→Int→Int→Int→BA→Int→Int→Bool→Bool→Int→Int→Bool→Bool→RW→Option (Int×Int×Int×Int)
 |0,_,_,_,_,_,_,_,_,_,_,_,_,_,_=>none
 |n+1,x0,x1,x2,x3,x4,x5,x6,x7,x8,x9,x10,x11,x12,x13=>(qEs n x0 x1 x2 x3 x4 x5 x6 x7 x8 x9 x10 x11 x12 x13).run
theorem qLH:∀n,Ok (Rn n) qLu (qCd n)
 |0=>ok0 fun _=>rfl
 |n+1=>stO (T:=qEs n) (by kernel_rfl) [] [] (fun _=>(by kernel_rfl)) fun _=>(by kernel_rfl)
def qPq:Sg:=⟨154,[(.agg [qI,qI,qI,qI])],[],⟨aB,[],[]⟩⟩
def qHZ (n:Nat) (x0 x1 x2 x3:Int):Tr (Bool):=(.opt (qBV n x0 x1) fun r207=>(.ask (r207) (.opt (qBV n x2 x3) fun r208=>(.ask (r208) (.ask ((decide (x0≤x2))) (.done (decide (x1≤x3))) (.done false)) (.done false))) (.done false)))
def qD7:Nat→Int→Int→Int→Int→Option (Bool)
 |0,_,_,_,_=>none
 |n+1,x0,x1,x2,x3=>(qHZ n x0 x1 x2 x3).run
abbrev qPr (n:Nat):List (Ent (Rn n)):= [en (qFS n)]
theorem qOn:∀n,Ok (Rn n) qPq (qD7 n)
 |0=>ok0 fun _=>rfl
 |n+1=>stO (T:=qHZ n) (by kernel_rfl) (qPr n) [] (fun _=>(by kernel_rfl)) fun _=>(by kernel_rfl)
def qJF:Sg:=⟨128,[(.agg [qI,qI,qI,qI,qS,qI,qI,qB,qB,qI,qI,qB,qB,qL])],[],⟨aB,[],[]⟩⟩
def qDS (n:Nat) (x0 x1 x2 x3:Int) (x4:BA) (x5 x6:Int) (x7 x8:Bool) (x9 x10:Int) (x11 x12:Bool) (x13:RW):Tr (Bool):=(.ask ((x0 !=(2:Int))) (.ask ((x0 !=(3:Int))) (.done true) (.opt (qCd n x0 x1 x2 x3 x4 x5 x6 x7 x8 x9 x10 x11 x12 x13) fun r206=>(.opt (qD7 n r206.1 r206.2.1 r206.2.2.1 r206.2.2.2) fun r209=>(.done r209)))) (.opt (qCd n x0 x1 x2 x3 x4 x5 x6 x7 x8 x9 x10 x11 x12 x13) fun r210=>(.opt (qD7 n r210.1 r210.2.1 r210.2.2.1 r210.2.2.2) fun r211=>(.done r211))))
def qAC:Nat→Int→Int→Int→Int→BA→Int→Int→Bool→Bool→Int→Int→Bool→Bool→RW→Option (Bool)
 |0,_,_,_,_,_,_,_,_,_,_,_,_,_,_=>none
 |n+1,x0,x1,x2,x3,x4,x5,x6,x7,x8,x9,x10,x11,x12,x13=>(qDS n x0 x1 x2 x3 x4 x5 x6 x7 x8 x9 x10 x11 x12 x13).run
abbrev qJG (n:Nat):List (Ent (Rn n)):= [en (qLH n),en (qOn n)]
theorem qIU:∀n,Ok (Rn n) qJF (qAC n)
 |0=>ok0 fun _=>rfl
 |n+1=>stO (T:=qDS n) (by kernel_rfl) (qJG n) [] (fun _=>(by kernel_rfl)) fun _=>(by kernel_rfl)
def qKU:Sg:=⟨129,[(.agg [qI,qI,qI,qI,qS,qI,qI,qB,qB,qI,qI,qB,qB,qL])],[],⟨aB,[],[]⟩⟩
def qD2 (n:Nat) (x0 x1 x2 x3:Int) (x4:BA) (x5 x6:Int) (x7 x8:Bool) (x9 x10:Int) (x11 x12:Bool) (x13:RW):Tr (Bool):=(.ask ((x0==(4:Int))) (.ask ((x1==(0:Int))) (.done ((x13.length:Int)==(1:Int))) (.done false)) (.ask ((x0==(5:Int))) (.opt (qAG n x1 (1:Int) (11:Int)) fun r213=>(.ask (r213) (.done ((x13.length:Int)==(2:Int))) (.done false))) (.ask ((x0==(6:Int))) (.opt (qAG n x1 (1:Int) (10:Int)) fun r214=>(.ask ((!r214)) (.done false) (.ask ((x1==(5:Int))) (.opt (qAG n (x13.length:Int) (2:Int) (3:Int)) fun r215=>(.done r215)) (.ask ((decide (x1≥(8:Int)))) (.done ((x13.length:Int)==(1:Int))) (.opt (qAG n (x13.length:Int) (1:Int) (10:Int)) fun r216=>(.done r216)))))) (.ask ((x1==(0:Int))) (.done ((x13.length:Int)==(0:Int))) (.done false)))))
def qAM:Nat→Int→Int→Int→Int→BA→Int→Int→Bool→Bool→Int→Int→Bool→Bool→RW→Option (Bool)
 |0,_,_,_,_,_,_,_,_,_,_,_,_,_,_=>none
 |n+1,x0,x1,x2,x3,x4,x5,x6,x7,x8,x9,x10,x11,x12,x13=>(qD2 n x0 x1 x2 x3 x4 x5 x6 x7 x8 x9 x10 x11 x12 x13).run
abbrev qKV (n:Nat):List (Ent (Rn n)):= [en (qC3 n)]
theorem qJi:∀n,Ok (Rn n) qKU (qAM n)
 |0=>ok0 fun _=>rfl
 |n+1=>stO (T:=qD2 n) (by kernel_rfl) (qKV n) [] (fun _=>(by kernel_rfl)) fun _=>(by kernel_rfl)
def qLI:Sg:=⟨95,[(.agg [qI,qI,qI,qI,qS,qI,qI,qB,qB,qI,qI,qB,qB,qL])],[],⟨aB,[],[]⟩⟩
def qEL (n:Nat) (x0 x1 x2 x3:Int) (x4:BA) (x5 x6:Int) (x7 x8:Bool) (x9 x10:Int) (x11 x12:Bool) (x13:RW):Tr (Bool):=(.ask ((x0==(1:Int))) (.opt (qAU n x2 x3 x4) fun r205=>(.ask ((!r205)) (.done false) (.ask ((x2==(0:Int))) (.done false) (.ask ((x2==(1:Int))) (.ask ((decide (x3<(0:Int)))) (.done false) (.opt (qAC n x0 x1 x2 x3 x4 x5 x6 x7 x8 x9 x10 x11 x12 x13) fun r212=>(.ask (r212) (.opt (qAM n x0 x1 x2 x3 x4 x5 x6 x7 x8 x9 x10 x11 x12 x13) fun r217=>(.ask (r217) (.ask (((x2==x2)&&((x3==x3)&&((x4.toList==x4.toList)&&true)))) (.ask ((((0:Int)==x5)&&(((0:Int)==x6)&&((false==x7)&&((false==x8)&&true))))) (.done (((0:Int)==x9)&&(((0:Int)==x10)&&((false==x11)&&((false==x12)&&true))))) (.done false)) (.done false)) (.done false))) (.done false)))) (.opt (qAC n x0 x1 x2 x3 x4 x5 x6 x7 x8 x9 x10 x11 x12 x13) fun r218=>(.ask (r218) (.opt (qAM n x0 x1 x2 x3 x4 x5 x6 x7 x8 x9 x10 x11 x12 x13) fun r219=>(.ask (r219) (.ask (((x2==x2)&&((x3==x3)&&((x4.toList==x4.toList)&&true)))) (.ask ((((0:Int)==x5)&&(((0:Int)==x6)&&((false==x7)&&((false==x8)&&true))))) (.done (((0:Int)==x9)&&(((0:Int)==x10)&&((false==x11)&&((false==x12)&&true))))) (.done false)) (.done false)) (.done false))) (.done false))))))) (.ask ((x0==(2:Int))) (.opt (qAC n x0 x1 x2 x3 x4 x5 x6 x7 x8 x9 x10 x11 x12 x13) fun r220=>(.ask (r220) (.opt (qAM n x0 x1 x2 x3 x4 x5 x6 x7 x8 x9 x10 x11 x12 x13) fun r221=>(.ask (r221) (.ask ((((0:Int)==x2)&&(((0:Int)==x3)&&(((⟨#[]⟩:BA).toList==x4.toList)&&true)))) (.ask (((x5==x5)&&((x6==x6)&&((x7==x7)&&((x8==x8)&&true))))) (.done (((0:Int)==x9)&&(((0:Int)==x10)&&((false==x11)&&((false==x12)&&true))))) (.done false)) (.done false)) (.done false))) (.done false))) (.ask ((x0==(3:Int))) (.opt (qAC n x0 x1 x2 x3 x4 x5 x6 x7 x8 x9 x10 x11 x12 x13) fun r222=>(.ask (r222) (.opt (qAM n x0 x1 x2 x3 x4 x5 x6 x7 x8 x9 x10 x11 x12 x13) fun r223=>(.ask (r223) (.ask ((((0:Int)==x2)&&(((0:Int)==x3)&&(((⟨#[]⟩:BA).toList==x4.toList)&&true)))) (.ask (((x5==x5)&&((x6==x6)&&((x7==x7)&&((x8==x8)&&true))))) (.done ((x9==x9)&&((x10==x10)&&((x11==x11)&&((x12==x12)&&true))))) (.done false)) (.done false)) (.done false))) (.done false))) (.ask ((x0==(4:Int))) (.opt (qAC n x0 x1 x2 x3 x4 x5 x6 x7 x8 x9 x10 x11 x12 x13) fun r224=>(.ask (r224) (.opt (qAM n x0 x1 x2 x3 x4 x5 x6 x7 x8 x9 x10 x11 x12 x13) fun r225=>(.ask (r225) (.ask ((((0:Int)==x2)&&(((0:Int)==x3)&&(((⟨#[]⟩:BA).toList==x4.toList)&&true)))) (.ask ((((0:Int)==x5)&&(((0:Int)==x6)&&((false==x7)&&((false==x8)&&true))))) (.done (((0:Int)==x9)&&(((0:Int)==x10)&&((false==x11)&&((false==x12)&&true))))) (.done false)) (.done false)) (.done false))) (.done false))) (.ask ((x0==(5:Int))) (.opt (qAC n x0 x1 x2 x3 x4 x5 x6 x7 x8 x9 x10 x11 x12 x13) fun r226=>(.ask (r226) (.opt (qAM n x0 x1 x2 x3 x4 x5 x6 x7 x8 x9 x10 x11 x12 x13) fun r227=>(.ask (r227) (.ask ((((0:Int)==x2)&&(((0:Int)==x3)&&(((⟨#[]⟩:BA).toList==x4.toList)&&true)))) (.ask ((((0:Int)==x5)&&(((0:Int)==x6)&&((false==x7)&&((false==x8)&&true))))) (.done (((0:Int)==x9)&&(((0:Int)==x10)&&((false==x11)&&((false==x12)&&true))))) (.done false)) (.done false)) (.done false))) (.done false))) (.ask ((x0==(6:Int))) (.opt (qAC n x0 x1 x2 x3 x4 x5 x6 x7 x8 x9 x10 x11 x12 x13) fun r228=>(.ask (r228) (.opt (qAM n x0 x1 x2 x3 x4 x5 x6 x7 x8 x9 x10 x11 x12 x13) fun r229=>(.ask (r229) (.ask ((((0:Int)==x2)&&(((0:Int)==x3)&&(((⟨#[]⟩:BA).toList==x4.toList)&&true)))) (.ask ((((0:Int)==x5)&&(((0:Int)==x6)&&((false==x7)&&((false==x8)&&true))))) (.done (((0:Int)==x9)&&(((0:Int)==x10)&&((false==x11)&&((false==x12)&&true))))) (.done false)) (.done false)) (.done false))) (.done false))) (.done false)))))))
def qDG:Nat→Int→Int→Int→Int→BA→Int→Int→Bool→Bool→Int→Int→Bool→Bool→RW→Option (Bool)
 |0,_,_,_,_,_,_,_,_,_,_,_,_,_,_=>none
 |n+1,x0,x1,x2,x3,x4,x5,x6,x7,x8,x9,x10,x11,x12,x13=>(qEL n x0 x1 x2 x3 x4 x5 x6 x7 x8 x9 x10 x11 x12 x13).run
abbrev qLJ (n:Nat):List (Ent (Rn n)):= [en (qFm n),en (qIU n),en (qJi n)]
theorem qKW:∀n,Ok (Rn n) qLI (qDG n)
 |0=>ok0 fun _=>rfl
 |n+1=>stO (T:=qEL n) (by kernel_rfl) (qLJ n) [] (fun _=>(by kernel_rfl)) fun _=>(by kernel_rfl)
def qJj:Sg:=⟨56,[aL,aI,aI],[],⟨aI,[],[]⟩⟩
def qAV (rec:RW→Int→Int→Option (Int)) (n:Nat) (v:RW×Int×Int×Int×Int):Tr ((RW×Int×Int×Int×Int)⊕((Int)⊕(Int))):=(.ask ((decide (v.2.2.2.2≥(0:Int)))) (.ask (decide (0≤v.2.1∧v.2.1<v.1.length)) (.opt (v.1[(v.2.1).toNat]?) fun e233=>(.ask (decide (e233.length=14)) (.opt (zA9 e233 13) fun y234=>(.ask (decide (0≤v.2.2.2.2∧v.2.2.2.2<y234.length)) (.opt (y234[(v.2.2.2.2).toNat]?) fun e235=>(.ask (decide (e235.length=1)) (.opt (zI .i64 e235 0) fun y236=>(.ask ((y236 !=(IntKind.i64.wrap (v.2.2.2.1-(1:Int))))) (.done (.inr (.inl ((-1:Int))))) (.ask ((decide (y236<(0:Int)))) (.done (.inr (.inl ((-1:Int))))) (.ask (decide (0≤y236∧y236<v.1.length)) (.opt (v.1[(y236).toNat]?) fun e237=>(.ask (decide (e237.length=14)) (.opt (zI .i64 e237 0) fun y238=>(.ask ((y238==(3:Int))) (.ask (decide (0≤v.2.1∧v.2.1<v.1.length)) (.opt (v.1[(v.2.1).toNat]?) fun e239=>(.ask (decide (e239.length=14)) (.opt (zI .i64 e239 0) fun y240=>(.ask ((y240 !=(6:Int))) (.done (.inr (.inl ((-1:Int))))) (.opt (rec v.1 y236 (IntKind.i64.wrap (v.2.2.1+(1:Int)))) fun r241=>(.ask ((decide (r241<(0:Int)))) (.done (.inr (.inl ((-1:Int))))) (.done (.inl (v.1,v.2.1,v.2.2.1,r241,(IntKind.i64.wrap (v.2.2.2.2-(1:Int)))))))))) .fail)) .fail) (.opt (rec v.1 y236 (IntKind.i64.wrap (v.2.2.1+(1:Int)))) fun r242=>(.ask ((decide (r242<(0:Int)))) (.done (.inr (.inl ((-1:Int))))) (.done (.inl (v.1,v.2.1,v.2.2.1,r242,(IntKind.i64.wrap (v.2.2.2.2-(1:Int)))))))))) .fail)) .fail)))) .fail)) .fail)) .fail)) .fail) (.done (.inr (.inr (v.2.2.2.1)))))
def qFZ (rec:RW→Int→Int→Option (Int)) (n:Nat) (x0:RW) (x1 x2:Int):Tr (Int):=(.ask ((decide (x1<(0:Int)))) (.done (-1:Int)) (.ask ((decide (x2≥(12:Int)))) (.done (-1:Int)) (.ask (decide (0≤x1∧x1<x0.length)) (.opt (x0[(x1).toNat]?) fun e190=>(.ask (decide (e190.length=14)) (.opt (zI .i64 e190 0) fun y191=>(.opt (zI .i64 e190 1) fun y192=>(.opt (zI .i64 e190 2) fun y193=>(.opt (zI .i64 e190 3) fun y194=>(.opt (zAG e190 4) fun y195=>(.opt (zI .i64 e190 5) fun y196=>(.opt (zI .i64 e190 6) fun y197=>(.opt (zAn e190 7) fun y198=>(.opt (zAn e190 8) fun y199=>(.opt (zI .i64 e190 9) fun y200=>(.opt (zI .i64 e190 10) fun y201=>(.opt (zAn e190 11) fun y202=>(.opt (zAn e190 12) fun y203=>(.opt (zA9 e190 13) fun y204=>(.opt (qDG n y191 y192 y193 y194 y195 y196 y197 y198 y199 y200 y201 y202 y203 y204) fun r230=>(.ask ((!r230)) (.done (-1:Int)) (.ask (decide (0≤x1∧x1<x0.length)) (.opt (x0[(x1).toNat]?) fun e231=>(.ask (decide (e231.length=14)) (.opt (zA9 e231 13) fun y232=>(.opt (zF (qAV rec n) n (x0,x1,x2,x1,(IntKind.i64.wrap ((y232.length:Int)-(1:Int))))) fun r243=>(.alt r243 (fun r244=>(.done r244)) (fun r245=>(.done r245))))) .fail)) .fail))))))))))))))))) .fail)) .fail)))
def qAo:Nat→RW→Int→Int→Option (Int)
 |0,_,_,_=>none
 |n+1,x0,x1,x2=>(qFZ (qAo n) n x0 x1 x2).run
abbrev qNS (n:Nat) (ih:Ok (Rn n) qJj (qAo n)):List (Ent (Rn n)):= [en (qKW n),en ih]
def qOo (n:Nat) (ih:Ok (Rn n) qJj (qAo n)):LEnt (KB 56) (Rn n) n:=lok (zb 56) 61 ⟨⟨[(0,aL),(1,aI),(2,aI),(7,aI),(8,aI)],[],[]⟩,[(.ret,⟨[(6,aI)],[],[]⟩),(.exit 0,⟨[(7,aI)],[],[]⟩)]⟩ (qAV (qAo n) n) (qNS n ih) [] fun _=>(by kernel_rfl)
theorem qIV:∀n,Ok (Rn n) qJj (qAo n)
 |0=>ok0 fun _=>rfl
 |n+1=>stO (T:=qFZ (qAo n) n) (by kernel_rfl) (qNS n (qIV n)) [qOo n (qIV n)] (fun _=>(by kernel_rfl)) fun _=>(by kernel_rfl)
def qMy:Sg:=⟨22,[aL],[],⟨aB,[],[]⟩⟩
def qC6 (n:Nat) (x0:RW):Tr (Bool):=(.opt (qAG n (x0.length:Int) (1:Int) (60:Int)) fun r187=>(.ask (r187) (.ask (decide (0≤(IntKind.i64.wrap ((x0.length:Int)-(1:Int)))∧(IntKind.i64.wrap ((x0.length:Int)-(1:Int)))<x0.length)) (.opt (x0[((IntKind.i64.wrap ((x0.length:Int)-(1:Int)))).toNat]?) fun e188=>(.ask (decide (e188.length=14)) (.opt (zI .i64 e188 0) fun y189=>(.ask ((y189 !=(3:Int))) (.opt (qAo n x0 (IntKind.i64.wrap ((x0.length:Int)-(1:Int))) (0:Int)) fun r246=>(.done (r246==(0:Int)))) (.done false))) .fail)) .fail) (.done false)))
def qBm:Nat→RW→Option (Bool)
 |0,_=>none
 |n+1,x0=>(qC6 n x0).run
abbrev qMz (n:Nat):List (Ent (Rn n)):= [en (qC3 n),en (qIV n)]
theorem qG6:∀n,Ok (Rn n) qMy (qBm n)
 |0=>ok0 fun _=>rfl
 |n+1=>stO (T:=qC6 n) (by kernel_rfl) (qMz n) [] (fun _=>(by kernel_rfl)) fun _=>(by kernel_rfl)
def qLK:Sg:=⟨6,[aS],[],⟨(.tup [(false,[qL]),(false,[qB])]),[],[]⟩⟩
def qGa (n:Nat) (x0:BA):Tr (RW×Bool):=(.opt (qCk n x0 (200:Int)) fun r69=>(.ask ((!r69)) (.ask (decide (0=([]:RW).length)) (.done (([]:RW),false)) .fail) (.opt (qCc n (1:Int) (0:Int) x0 (0:Nat) false ([]:RW)) fun r185=>(.opt (qA2 n r185.2.1 r185.2.2.1 r185.2.2.2.1 r185.2.2.2.2) fun r186=>(.ask (r186.2.2.1) (.ask (decide (0=([]:RW).length)) (.done (([]:RW),false)) .fail) (.ask ((!(r186.1.toList==(⟨#[]⟩:BA).toList))) (.ask (decide (0=([]:RW).length)) (.done (([]:RW),false)) .fail) (.ask (decide (r186.2.1=r186.2.2.2.length)) (.opt (qBm n r186.2.2.2) fun r247=>(.ask (zAj (⟨(.c (.p (.b r247))),[],[]⟩:Res)) (.ask ((!r247)) (.ask (decide (0=([]:RW).length)) (.done (([]:RW),false)) .fail) (.ask (decide (r186.2.1=r186.2.2.2.length)) (.done (r186.2.2.2,true)) .fail)) .fail)) .fail)))))))
def qEM:Nat→BA→Option (RW×Bool)
 |0,_=>none
 |n+1,x0=>(qGa n x0).run
abbrev qLL (n:Nat):List (Ent (Rn n)):= [en (qGQ n),en (qJE n),en (qCL n),en (qG6 n)]
theorem qKX:∀n,Ok (Rn n) qLK (qEM n)
 |0=>ok0 fun _=>rfl
 |n+1=>stO (T:=qGa n) (by kernel_rfl) (qLL n) [] (fun _=>(by kernel_rfl)) fun _=>(by kernel_rfl)
def qFa:Sg:=⟨188,[aS,aS,aS],[],⟨aS,[],[]⟩⟩
def qDe:Nat→BA→BA→BA→Option ((BA))
 |0,_,_,_=>none
 |n+1,x0,x1,x2=>zAC x0 x1 x2
theorem qJH:∀n,Ok (Rn n) qFa (qDe n)
 |0=>ok0 fun _=>rfl
 |n+1=>stL zAU (by kernel_rfl) (fun _ _=>rfl) (fun a r e=>congrArg (Option.map fun r=>(qFa.Of r).v) e) rfl rfl rfl
def qJk:Sg:=⟨189,[aL,aS],[],⟨aS,[],[]⟩⟩
def qGb:Nat→RW→BA→Option ((BA))
 |0,_,_=>none
 |n+1,x0,x1=>zBC x0 x1
theorem qNy:∀n,Ok (Rn n) qJk (qGb n)
 |0=>ok0 fun _=>rfl
 |n+1=>stL zBD (by kernel_rfl) (fun _ _=>rfl) (fun a r e=>congrArg (Option.map fun r=>(qJk.Of r).v) e) rfl rfl rfl
def qEN:Sg:=⟨181,[aL,aI,aI],[],⟨aS,[],[]⟩⟩
def qBW (rec:RW→Int→Int→Option (BA)) (n:Nat) (v:RW×Nat×RW×Int×Int×Int×Int×Int×Int×BA×Int×Int×Bool×Bool×Int×Int×Bool×Bool×RW×RW):Tr ((RW×Nat×RW×Int×Int×Int×Int×Int×Int×BA×Int×Int×Bool×Bool×Int×Int×Bool×Bool×RW×RW)⊕((Nat×Int×Int×Int×Int×BA×Int×Int×Bool×Bool×Int×Int×Bool×Bool×RW×RW))):=(.ask ((decide (v.2.2.2.2.1<v.2.2.2.1))) (.ask (decide (0≤v.2.2.2.2.1∧v.2.2.2.2.1<v.2.2.1.length)) (.opt (v.2.2.1[(v.2.2.2.2.1).toNat]?) fun e281=>(.ask (decide (e281.length=1)) (.opt (zI .i64 e281 0) fun y282=>(.opt (rec v.1 y282 (1:Int)) fun r283=>(.ask (decide (1=([[(.s r283)]]:RW).length)) (.ask (decide (v.2.1=v.2.2.2.2.2.2.2.2.2.2.2.2.2.2.2.2.2.2.2.length∧0<1∧0<16∧(v.2.1+([[(.s r283)]]:RW).length)*16≤140737488355328∧([[(.s r283)]]:RW).all (fun e=>e.length==1)=true)) (.done (.inl (v.1,(v.2.1+1),v.2.2.1,v.2.2.2.1,(IntKind.i64.wrap (v.2.2.2.2.1+(1:Int))),v.2.2.2.2.2.1,v.2.2.2.2.2.2.1,v.2.2.2.2.2.2.2.1,v.2.2.2.2.2.2.2.2.1,v.2.2.2.2.2.2.2.2.2.1,v.2.2.2.2.2.2.2.2.2.2.1,v.2.2.2.2.2.2.2.2.2.2.2.1,v.2.2.2.2.2.2.2.2.2.2.2.2.1,v.2.2.2.2.2.2.2.2.2.2.2.2.2.1,v.2.2.2.2.2.2.2.2.2.2.2.2.2.2.1,v.2.2.2.2.2.2.2.2.2.2.2.2.2.2.2.1,v.2.2.2.2.2.2.2.2.2.2.2.2.2.2.2.2.1,v.2.2.2.2.2.2.2.2.2.2.2.2.2.2.2.2.2.1,v.2.2.2.2.2.2.2.2.2.2.2.2.2.2.2.2.2.2.1,(v.2.2.2.2.2.2.2.2.2.2.2.2.2.2.2.2.2.2.2++([[(.s r283)]]:RW))))) .fail) .fail))) .fail)) .fail) (.done (.inr ((v.2.1,v.2.2.2.2.2.1,v.2.2.2.2.2.2.1,v.2.2.2.2.2.2.2.1,v.2.2.2.2.2.2.2.2.1,v.2.2.2.2.2.2.2.2.2.1,v.2.2.2.2.2.2.2.2.2.2.1,v.2.2.2.2.2.2.2.2.2.2.2.1,v.2.2.2.2.2.2.2.2.2.2.2.2.1,v.2.2.2.2.2.2.2.2.2.2.2.2.2.1,v.2.2.2.2.2.2.2.2.2.2.2.2.2.2.1,v.2.2.2.2.2.2.2.2.2.2.2.2.2.2.2.1,v.2.2.2.2.2.2.2.2.2.2.2.2.2.2.2.2.1,v.2.2.2.2.2.2.2.2.2.2.2.2.2.2.2.2.2.1,v.2.2.2.2.2.2.2.2.2.2.2.2.2.2.2.2.2.2.1,v.2.2.2.2.2.2.2.2.2.2.2.2.2.2.2.2.2.2.2)))))
def qAq (rec:RW→Int→Int→Option (BA)) (n:Nat) (x0:RW) (x1 x2:Int):Tr (BA):=(.ask (decide (0≤x1∧x1<x0.length)) (.opt (x0[(x1).toNat]?) fun e250=>(.ask (decide (e250.length=14)) (.opt (zI .i64 e250 0) fun y251=>(.opt (zI .i64 e250 1) fun y252=>(.opt (zI .i64 e250 2) fun y253=>(.opt (zI .i64 e250 3) fun y254=>(.opt (zAG e250 4) fun y255=>(.opt (zI .i64 e250 5) fun y256=>(.opt (zI .i64 e250 6) fun y257=>(.opt (zAn e250 7) fun y258=>(.opt (zAn e250 8) fun y259=>(.opt (zI .i64 e250 9) fun y260=>(.opt (zI .i64 e250 10) fun y261=>(.opt (zAn e250 11) fun y262=>(.opt (zAn e250 12) fun y263=>(.opt (zA9 e250 13) fun y264=>(.ask ((y251==(1:Int))) (.ask ((y253==(2:Int))) (.opt (qDe n y255 (⟨#[34]⟩:BA) (⟨#[34,34]⟩:BA)) fun r265=>(.ask (decide ((⟨#[34]⟩:BA).size+r265.size≤9223372036854775807)) (.ask (decide (((⟨#[34]⟩:BA)++r265).size+(⟨#[34]⟩:BA).size≤9223372036854775807)) (.done (((⟨#[34]⟩:BA)++r265)++(⟨#[34]⟩:BA))) .fail) .fail)) (.opt (qq n y253 y254 y255) fun r266=>(.done r266))) (.ask ((y251==(2:Int))) (.opt (qAw n y256 y257 y258 y259) fun r267=>(.done r267)) (.ask ((y251==(3:Int))) (.opt (qAw n y256 y257 y258 y259) fun r268=>(.ask (decide (r268.size+(⟨#[58]⟩:BA).size≤9223372036854775807)) (.opt (qAw n y260 y261 y262 y263) fun r269=>(.ask (decide ((r268++(⟨#[58]⟩:BA)).size+r269.size≤9223372036854775807)) (.done ((r268++(⟨#[58]⟩:BA))++r269)) .fail)) .fail)) (.ask ((y251==(4:Int))) (.ask (decide (0≤(0:Int)∧(0:Int)<y264.length)) (.opt (y264[((0:Int)).toNat]?) fun e270=>(.ask (decide (e270.length=1)) (.opt (zI .i64 e270 0) fun y271=>(.opt (rec x0 y271 (5:Int)) fun r272=>(.ask (decide ((⟨#[45]⟩:BA).size+r272.size≤9223372036854775807)) (.done ((⟨#[45]⟩:BA)++r272)) .fail))) .fail)) .fail) (.ask ((y251==(5:Int))) (.opt (qDp n y252) fun r273=>(.ask (decide (0≤(0:Int)∧(0:Int)<y264.length)) (.opt (y264[((0:Int)).toNat]?) fun e274=>(.ask (decide (e274.length=1)) (.opt (zI .i64 e274 0) fun y275=>(.ask (decide (0≤(1:Int)∧(1:Int)<y264.length)) (.opt (y264[((1:Int)).toNat]?) fun e276=>(.ask (decide (e276.length=1)) (.opt (zI .i64 e276 0) fun y277=>(.opt (rec x0 y275 r273) fun r278=>(.opt (qBO n y252) fun r279=>(.ask (decide (r278.size+r279.size≤9223372036854775807)) (.opt (rec x0 y277 (IntKind.i64.wrap (r273+(1:Int)))) fun r280=>(.ask (decide ((r278++r279).size+r280.size≤9223372036854775807)) (.ask ((decide (r273<x2))) (.ask (decide ((⟨#[40]⟩:BA).size+((r278++r279)++r280).size≤9223372036854775807)) (.ask (decide (((⟨#[40]⟩:BA)++((r278++r279)++r280)).size+(⟨#[41]⟩:BA).size≤9223372036854775807)) (.done (((⟨#[40]⟩:BA)++((r278++r279)++r280))++(⟨#[41]⟩:BA))) .fail) .fail) (.done ((r278++r279)++r280))) .fail)) .fail)))) .fail)) .fail)) .fail)) .fail)) (.opt (zF (qBW rec n) n (x0,(0:Nat),y264,(y264.length:Int),(0:Int),y251,y252,y253,y254,y255,y256,y257,y258,y259,y260,y261,y262,y263,y264,([]:RW))) fun r284=>(.opt (qB9 n r284.2.2.1) fun r285=>(.ask (decide (r285.size+(⟨#[40]⟩:BA).size≤9223372036854775807)) (.ask (decide (r284.1=r284.2.2.2.2.2.2.2.2.2.2.2.2.2.2.2.length)) (.opt (qGb n r284.2.2.2.2.2.2.2.2.2.2.2.2.2.2.2 (⟨#[44]⟩:BA)) fun r286=>(.ask (zAj (⟨(.c (.p (.s r286))),[],[]⟩:Res)) (.ask (decide ((r285++(⟨#[40]⟩:BA)).size+r286.size≤9223372036854775807)) (.ask (decide (((r285++(⟨#[40]⟩:BA))++r286).size+(⟨#[41]⟩:BA).size≤9223372036854775807)) (.done (((r285++(⟨#[40]⟩:BA))++r286)++(⟨#[41]⟩:BA))) .fail) .fail) .fail)) .fail) .fail)))))))))))))))))))))) .fail)) .fail)
def qa:Nat→RW→Int→Int→Option (BA)
 |0,_,_,_=>none
 |n+1,x0,x1,x2=>(qAq (qa n) n x0 x1 x2).run
abbrev qGc (n:Nat) (ih:Ok (Rn n) qEN (qa n)):List (Ent (Rn n)):= [en (qJH n),en (qG4 n),en (qEk n),en ih,en (qKp n),en (qJh n),en (qJg n),en (qNy n)]
def qIW (n:Nat) (ih:Ok (Rn n) qEN (qa n)):LEnt (KB 181) (Rn n) n:=lok (zb 181) 125 ⟨⟨[(0,aL),(7,(.c (.ptr 0 448 0 0 0))),(10,(.c (.own 0 5760 0 0))),(92,aL),(93,aI),(94,aI)],[(448,⟨0,14,52,(.box [qI,qI,qI,qI,qS,qI,qI,qB,qB,qI,qI,qB,qB,qL])⟩),(5760,⟨0,1,9,(.row [])⟩)],[]⟩,[(.exit 1,⟨[(7,(.c (.ptr 0 448 0 0 0))),(10,(.c (.own 0 5760 0 0)))],[(448,⟨0,14,52,(.box [qI,qI,qI,qI,qS,qI,qI,qB,qB,qI,qI,qB,qB,qL])⟩),(5760,⟨0,1,9,(.row [])⟩)],[]⟩)]⟩ (qBW (qa n) n) (qGc n ih) [] fun _=>(by kernel_rfl)
theorem qD3:∀n,Ok (Rn n) qEN (qa n)
 |0=>ok0 fun _=>rfl
 |n+1=>stO (T:=qAq (qa n) n) (by kernel_rfl) (qGc n (qD3 n)) [qIW n (qD3 n)] (fun _=>(by kernel_rfl)) fun _=>(by kernel_rfl)
def qLM:Sg:=⟨173,[aL],[],⟨aS,[],[]⟩⟩
def qDH (n:Nat) (x0:RW):Tr (BA):=(.opt (qBm n x0) fun r249=>(.ask ((!r249)) (.done (⟨#[]⟩:BA)) (.opt (qa n x0 (IntKind.i64.wrap ((x0.length:Int)-(1:Int))) (1:Int)) fun r287=>(.ask ((decide ((r287.size:Int)>(200:Int)))) (.done (⟨#[]⟩:BA)) (.done r287)))))
def qBn:Nat→RW→Option (BA)
 |0,_=>none
 |n+1,x0=>(qDH n x0).run
abbrev qLN (n:Nat):List (Ent (Rn n)):= [en (qG6 n),en (qD3 n)]
theorem qKY:∀n,Ok (Rn n) qLM (qBn n)
 |0=>ok0 fun _=>rfl
 |n+1=>stO (T:=qDH n) (by kernel_rfl) (qLN n) [] (fun _=>(by kernel_rfl)) fun _=>(by kernel_rfl)
def qNz:Sg:=⟨164,[aL],[],⟨(.tup [(false,[qS]),(false,[qB])]),[],[]⟩⟩
def qIy (n:Nat) (x0:RW):Tr (BA×Bool):=(.opt (qBn n x0) fun r288=>(.ask (decide ((⟨#[61]⟩:BA).size+r288.size≤9223372036854775807)) (.ask ((!(r288.toList==(⟨#[]⟩:BA).toList))) (.done (((⟨#[61]⟩:BA)++r288),(decide ((r288.size:Int)<(200:Int))))) (.done (((⟨#[61]⟩:BA)++r288),false))) .fail))
def qFn:Nat→RW→Option (BA×Bool)
 |0,_=>none
 |n+1,x0=>(qIy n x0).run
abbrev qN0 (n:Nat):List (Ent (Rn n)):= [en (qKY n)]
theorem qM0:∀n,Ok (Rn n) qNz (qFn n)
 |0=>ok0 fun _=>rfl
 |n+1=>stO (T:=qIy n) (by kernel_rfl) (qN0 n) [] (fun _=>(by kernel_rfl)) fun _=>(by kernel_rfl)
def qEY:Sg:=⟨182,[aS,aS],[],⟨aS,[],[]⟩⟩
def qCQ (n:Nat) (x0 x1:BA):Tr (BA):=(.opt (qAA n x0 x1) fun r293=>(.ask (r293) (.ask (decide (0≤(x1.size:Int)∧(x1.size:Int)≤(x0.size:Int)∧(x0.size:Int)≤x0.size)) (.done (x0.extract ((x1.size:Int)).toNat ((x0.size:Int)).toNat)) .fail) (.done x0)))
def qBM:Nat→BA→BA→Option (BA)
 |0,_,_=>none
 |n+1,x0,x1=>(qCQ n x0 x1).run
abbrev qEZ (n:Nat):List (Ent (Rn n)):= [en (qCP n)]
theorem qEO:∀n,Ok (Rn n) qEY (qBM n)
 |0=>ok0 fun _=>rfl
 |n+1=>stO (T:=qCQ n) (by kernel_rfl) (qEZ n) [] (fun _=>(by kernel_rfl)) fun _=>(by kernel_rfl)
def qJl:Sg:=⟨174,[aS,aS],[],⟨aS,[],[]⟩⟩
def qFb (n:Nat) (x0 x1:BA):Tr (BA):=(.opt (qBM n x0 x1) fun r294=>(.done r294))
def qDf:Nat→BA→BA→Option (BA)
 |0,_,_=>none
 |n+1,x0,x1=>(qFb n x0 x1).run
abbrev qJm (n:Nat):List (Ent (Rn n)):= [en (qEO n)]
theorem qJI:∀n,Ok (Rn n) qJl (qDf n)
 |0=>ok0 fun _=>rfl
 |n+1=>stO (T:=qFb n) (by kernel_rfl) (qJm n) [] (fun _=>(by kernel_rfl)) fun _=>(by kernel_rfl)
def qJn:Sg:=⟨175,[aS,aS],[],⟨aS,[],[]⟩⟩
def qGd:Nat→BA→BA→Option ((BA))
 |0,_,_=>none
 |n+1,x0,x1=>zAr x0 x1
theorem qN1:∀n,Ok (Rn n) qJn (qGd n)
 |0=>ok0 fun _=>rfl
 |n+1=>stL zBB (by kernel_rfl) (fun _ _=>rfl) (fun a r e=>congrArg (Option.map fun r=>(qJn.Of r).v) e) rfl rfl rfl
def qN2:Sg:=⟨165,[aS],[],⟨aB,[],[]⟩⟩
def qIz (n:Nat) (x0:BA):Tr (Bool):=(.opt (qDf n x0 (⟨#[45]⟩:BA)) fun r295=>(.ask ((!(r295.toList==(⟨#[]⟩:BA).toList))) (.opt (qGd n r295 (⟨#[48,49,50,51,52,53,54,55,56,57]⟩:BA)) fun r296=>(.done (r296.toList==(⟨#[]⟩:BA).toList))) (.done false)))
def qEF:Nat→BA→Option (Bool)
 |0,_=>none
 |n+1,x0=>(qIz n x0).run
abbrev qN3 (n:Nat):List (Ent (Rn n)):= [en (qJI n),en (qN1 n)]
theorem qM1:∀n,Ok (Rn n) qN2 (qEF n)
 |0=>ok0 fun _=>rfl
 |n+1=>stO (T:=qIz n) (by kernel_rfl) (qN3 n) [] (fun _=>(by kernel_rfl)) fun _=>(by kernel_rfl)
def qOp:Sg:=⟨145,[aS],[],⟨(.tup [(false,[qS]),(false,[qB])]),[],[]⟩⟩
def qJo (n:Nat) (x0:BA):Tr (BA×Bool):=(.opt (qCk n x0 (200:Int)) fun r67=>(.ask ((!r67)) (.done ((⟨#[]⟩:BA),(x0.toList==(⟨#[]⟩:BA).toList))) (.ask ((x0.toList==(⟨#[]⟩:BA).toList)) (.done ((⟨#[]⟩:BA),(x0.toList==(⟨#[]⟩:BA).toList))) (.opt (qAF n x0 (⟨#[61]⟩:BA)) fun r68=>(.ask (r68.2) (.opt (qEM n r68.1) fun r248=>(.opt (qFn n r248.1) fun r289=>(.ask ((!r248.2)) (.done ((⟨#[]⟩:BA),false)) (.ask ((!r289.2)) (.done ((⟨#[]⟩:BA),false)) (.done (r289.1,true)))))) (.opt (qAX n x0 (10:Int) (64:Int)) fun r290=>(.alt r290 (fun r291=>(.ask (true) (.opt (qEF n x0) fun r297=>(.ask (r297) (.opt (qCl n r291) fun r298=>(.opt (qAU n r298.1 r298.2.1 r298.2.2) fun r299=>(.ask (r299) (.opt (qAl n r291) fun r300=>(.done (r300,true))) (.opt (qe n x0) fun r301=>(.ask (r301.2.2.2) (.done (x0,true)) (.ask (((x0.size:Int)==(200:Int))) (.done ((⟨#[]⟩:BA),false)) (.ask (decide ((⟨#[39]⟩:BA).size+x0.size≤9223372036854775807)) (.done (((⟨#[39]⟩:BA)++x0),true)) .fail))))))) (.opt (qe n x0) fun r302=>(.ask (r302.2.2.2) (.done (x0,true)) (.ask (((x0.size:Int)==(200:Int))) (.done ((⟨#[]⟩:BA),false)) (.ask (decide ((⟨#[39]⟩:BA).size+x0.size≤9223372036854775807)) (.done (((⟨#[39]⟩:BA)++x0),true)) .fail)))))) (.opt (qe n x0) fun r303=>(.ask (r303.2.2.2) (.done (x0,true)) (.ask (((x0.size:Int)==(200:Int))) (.done ((⟨#[]⟩:BA),false)) (.ask (decide ((⟨#[39]⟩:BA).size+x0.size≤9223372036854775807)) (.done (((⟨#[39]⟩:BA)++x0),true)) .fail)))))) (fun r292=>(.ask (false) (.opt (qEF n x0) fun r304=>(.ask (r304) (.opt (qCl n r292) fun r305=>(.opt (qAU n r305.1 r305.2.1 r305.2.2) fun r306=>(.ask (r306) (.opt (qAl n r292) fun r307=>(.done (r307,true))) (.opt (qe n x0) fun r308=>(.ask (r308.2.2.2) (.done (x0,true)) (.ask (((x0.size:Int)==(200:Int))) (.done ((⟨#[]⟩:BA),false)) (.ask (decide ((⟨#[39]⟩:BA).size+x0.size≤9223372036854775807)) (.done (((⟨#[39]⟩:BA)++x0),true)) .fail))))))) (.opt (qe n x0) fun r309=>(.ask (r309.2.2.2) (.done (x0,true)) (.ask (((x0.size:Int)==(200:Int))) (.done ((⟨#[]⟩:BA),false)) (.ask (decide ((⟨#[39]⟩:BA).size+x0.size≤9223372036854775807)) (.done (((⟨#[39]⟩:BA)++x0),true)) .fail)))))) (.opt (qe n x0) fun r310=>(.ask (r310.2.2.2) (.done (x0,true)) (.ask (((x0.size:Int)==(200:Int))) (.done ((⟨#[]⟩:BA),false)) (.ask (decide ((⟨#[39]⟩:BA).size+x0.size≤9223372036854775807)) (.done (((⟨#[39]⟩:BA)++x0),true)) .fail)))))))))))))
def qGe:Nat→BA→Option (BA×Bool)
 |0,_=>none
 |n+1,x0=>(qJo n x0).run
abbrev qOq (n:Nat):List (Ent (Rn n)):= [en (qGQ n),en (qCY n),en (qKX n),en (qM0 n),en2 (qCr n),en (qM1 n),en (qJf n),en (qFm n),en (qEE n),en (qG5 n)]
theorem qN4:∀n,Ok (Rn n) qOp (qGe n)
 |0=>ok0 fun _=>rfl
 |n+1=>stO (T:=qJo n) (by kernel_rfl) (qOq n) [] (fun _=>(by kernel_rfl)) fun _=>(by kernel_rfl)
def qN5:Sg:=⟨111,[aS],[],⟨aB,[],[]⟩⟩
def qI0 (n:Nat) (x0:BA):Tr (Bool):=(.opt (qGe n x0) fun r311=>(.ask (r311.2) (.ask ((!(x0.toList==(⟨#[]⟩:BA).toList))) (.done (r311.1.toList==x0.toList)) (.done false)) (.done false)))
def qDN:Nat→BA→Option (Bool)
 |0,_=>none
 |n+1,x0=>(qI0 n x0).run
abbrev qN6 (n:Nat):List (Ent (Rn n)):= [en (qN4 n)]
theorem qH0:∀n,Ok (Rn n) qN5 (qDN n)
 |0=>ok0 fun _=>rfl
 |n+1=>stO (T:=qI0 n) (by kernel_rfl) (qN6 n) [] (fun _=>(by kernel_rfl)) fun _=>(by kernel_rfl)
def qM2:Sg:=⟨110,[aS],[],⟨aB,[],[]⟩⟩
def qFD (n:Nat) (x0:BA):Tr (Bool):=(.ask (decide ((⟨#[61]⟩:BA).size+x0.size≤9223372036854775807)) (.opt (qDN n ((⟨#[61]⟩:BA)++x0)) fun r312=>(.done r312)) .fail)
def qCD:Nat→BA→Option (Bool)
 |0,_=>none
 |n+1,x0=>(qFD n x0).run
abbrev qM3 (n:Nat):List (Ent (Rn n)):= [en (qH0 n)]
theorem qLv:∀n,Ok (Rn n) qM2 (qCD n)
 |0=>ok0 fun _=>rfl
 |n+1=>stO (T:=qFD n) (by kernel_rfl) (qM3 n) [] (fun _=>(by kernel_rfl)) fun _=>(by kernel_rfl)
def qLO:Sg:=⟨70,[(.agg [qI,qI,qI,qS,qI]),aI,aI],[],⟨aB,[],[]⟩⟩
def qEP (n:Nat) (x0 x1 x2:Int) (x3:BA) (x4 x5 x6:Int):Tr (Bool):=(.ask ((x0==(1:Int))) (.opt (qBV n x1 x2) fun r61=>(.ask (r61) (.opt (qCD n x3) fun r313=>(.ask (r313) (.done (x4==(0:Int))) (.done false))) (.done false))) (.ask ((x0==(2:Int))) (.opt (qBV n x1 x2) fun r314=>(.ask (r314) (.ask ((x3.toList==(⟨#[]⟩:BA).toList)) (.done (x4==(0:Int))) (.opt (qDN n x3) fun r315=>(.ask (r315) (.done (x4==(0:Int))) (.done false)))) (.done false))) (.ask ((x0==(3:Int))) (.ask (((x1==(0:Int))&&((x2==(0:Int))&&true))) (.opt (qCD n x3) fun r316=>(.ask (r316) (.opt (qAG n x4 (1:Int) x6) fun r317=>(.done r317)) (.done false))) (.done false)) (.ask ((x0==(4:Int))) (.ask (((x1==(0:Int))&&((x2==(0:Int))&&true))) (.opt (qCD n x3) fun r318=>(.ask (r318) (.opt (qAG n x4 (1:Int) x5) fun r319=>(.done r319)) (.done false))) (.done false)) (.ask ((x0==(5:Int))) (.ask (((x1==(0:Int))&&((x2==(0:Int))&&true))) (.opt (qCD n x3) fun r320=>(.ask (r320) (.done (x4==(0:Int))) (.done false))) (.done false)) (.done false))))))
def qDI:Nat→Int→Int→Int→BA→Int→Int→Int→Option (Bool)
 |0,_,_,_,_,_,_,_=>none
 |n+1,x0,x1,x2,x3,x4,x5,x6=>(qEP n x0 x1 x2 x3 x4 x5 x6).run
abbrev qLP (n:Nat):List (Ent (Rn n)):= [en (qFS n),en (qLv n),en (qH0 n),en (qC3 n)]
theorem qKZ:∀n,Ok (Rn n) qLO (qDI n)
 |0=>ok0 fun _=>rfl
 |n+1=>stO (T:=qEP n) (by kernel_rfl) (qLP n) [] (fun _=>(by kernel_rfl)) fun _=>(by kernel_rfl)
def qOr:Sg:=⟨38,[aL],[],⟨aB,[],[]⟩⟩
def qEt (n:Nat) (v:RW×RW×Int×Int):Tr ((RW×RW×Int×Int)⊕((Bool)⊕(RW))):=(.ask ((decide (v.2.2.2<v.2.2.1))) (.ask (decide (0≤v.2.2.2∧v.2.2.2<v.2.1.length)) (.opt (v.2.1[(v.2.2.2).toNat]?) fun e55=>(.ask (decide (e55.length=5)) (.opt (zI .i64 e55 0) fun y56=>(.opt (zI .i64 e55 1) fun y57=>(.opt (zI .i64 e55 2) fun y58=>(.opt (zAG e55 3) fun y59=>(.opt (zI .i64 e55 4) fun y60=>(.opt (qDI n y56 y57 y58 y59 y60 v.2.2.2 (IntKind.i64.wrap ((IntKind.i64.wrap ((v.1.length:Int)-(1:Int)))-v.2.2.2))) fun r61=>(.ask ((!r61)) (.done (.inr (.inl (false)))) (.done (.inl (v.1,v.2.1,v.2.2.1,(IntKind.i64.wrap (v.2.2.2+(1:Int))))))))))))) .fail)) .fail) (.done (.inr (.inr (v.1)))))
def qJp (n:Nat) (x0:RW):Tr (Bool):=(.opt (zF (qEt n) n (x0,x0,(x0.length:Int),(0:Int))) fun r62=>(.alt r62 (fun r63=>(.done r63)) (fun r64=>(.done (decide ((r64.length:Int)≤(30:Int)))))))
def qGf:Nat→RW→Option (Bool)
 |0,_=>none
 |n+1,x0=>(qJp n x0).run
abbrev qJq (n:Nat):List (Ent (Rn n)):= [en (qKZ n)]
def qLw (n:Nat):LEnt (KB 38) (Rn n) n:=lok (zb 38) 13 ⟨⟨[(0,aL),(5,aL),(6,aI),(7,aI)],[],[]⟩,[(.ret,⟨[(2,aB)],[],[]⟩),(.exit 0,⟨[(0,aL)],[],[]⟩)]⟩ (qEt n) (qJq n) [] fun _=>(by kernel_rfl)
theorem qN7:∀n,Ok (Rn n) qOr (qGf n)
 |0=>ok0 fun _=>rfl
 |n+1=>stO (T:=qJp n) (by kernel_rfl) (qJq n) [qLw n] (fun _=>(by kernel_rfl)) fun _=>(by kernel_rfl)
def qAK:Sg:=⟨71,[(.c (.ptr 0 0 0 0 0)),aS],[[(0,⟨0,2,101,(.box [(.ptr 0 0 0 0 1000003),(.own 0 1 1 0)])⟩),(1,⟨1,1,5,(.row [])⟩)]],⟨(.tup [(false,[qI]),(false,[(.p .nif)])]),[[(0,⟨0,2,101,(.box [(.ptr 0 0 0 0 1000003),(.own 0 1 2 0)])⟩),(1,⟨2,1,5,(.row [])⟩)]],[]⟩⟩
def qV:Nat→BA→Nat→RW→Option ((Int×Nat×RW))
 |0,_,_,_=>none
 |n+1,x0,x1,x2=>zX x0 x1 x2
theorem qFE:∀n,Ok (Rn n) qAK (qV n)
 |0=>ok0 fun _=>rfl
 |n+1=>stN (by kernel_rfl) fun a r e=>(show lib 71 (qAK.Af a) (qAK.Uf a)=Option.map (fun r=>qAK.Of r) (unc qAK.ks (qV (n+1)) a) from (by kernel_rfl)).trans (congrArg (Option.map fun r=>qAK.Of r) e)
def qOs:Sg:=⟨72,[(.agg [qI,qI])],[],⟨aS,[],[]⟩⟩
def qGg (n:Nat) (x0 x1:Int):Tr (BA):=(.opt (qAw n x0 x1 false false) fun r74=>(.done r74))
def qDg:Nat→Int→Int→Option (BA)
 |0,_,_=>none
 |n+1,x0,x1=>(qGg n x0 x1).run
abbrev qOt (n:Nat):List (Ent (Rn n)):= [en (qEk n)]
theorem qN8:∀n,Ok (Rn n) qOs (qDg n)
 |0=>ok0 fun _=>rfl
 |n+1=>stO (T:=qGg n) (by kernel_rfl) (qOt n) [] (fun _=>(by kernel_rfl)) fun _=>(by kernel_rfl)
def qAx:Sg:=⟨74,[(.c (.ptr 0 0 0 0 0))],[[(0,⟨0,2,101,(.box [(.ptr 0 0 0 0 1000003),(.own 0 1 1 0)])⟩),(1,⟨1,1,5,(.row [])⟩)]],⟨aS,[[(0,⟨0,2,101,(.box [(.p .op),(.p .op)])⟩),(1,⟨2,1,5,(.row [])⟩)]],[]⟩⟩
def qBs:Nat→Nat→RW→Option ((BA×RW))
 |0,_,_=>none
 |n+1,x0,x1=>zi x0 x1
theorem qGu:∀n,Ok (Rn n) qAx (qBs n)
 |0=>ok0 fun _=>rfl
 |n+1=>stN (by kernel_rfl) fun a r e=>(show lib 74 (qAx.Af a) (qAx.Uf a)=Option.map (fun r=>qAx.Of r) (unc qAx.ks (qBs (n+1)) a) from (by kernel_rfl)).trans (congrArg (Option.map fun r=>qAx.Of r) e)
def qM4:Sg:=⟨39,[aL],[],⟨aS,[],[]⟩⟩
def qD4 (n:Nat) (v:RW×Int×Int×Nat×RW):Tr ((RW×Int×Int×Nat×RW)⊕((Nat×RW))):=(.ask ((decide (v.2.2.1<v.2.1))) (.ask (decide (0≤v.2.2.1∧v.2.2.1<v.1.length)) (.opt (v.1[(v.2.2.1).toNat]?) fun e66=>(.ask (decide (e66.length=5)) (.opt (zI .i64 e66 0) fun y67=>(.opt (zI .i64 e66 1) fun y68=>(.opt (zI .i64 e66 2) fun y69=>(.opt (zAG e66 3) fun y70=>(.opt (zI .i64 e66 4) fun y71=>(.opt (qED n y67) fun r72=>(.ask (decide (r72.size+(⟨#[32]⟩:BA).size≤9223372036854775807)) (.opt (qV n (r72++(⟨#[32]⟩:BA)) v.2.2.2.1 v.2.2.2.2) fun r73=>(.ask ((y67==(1:Int))) (.opt (qDg n y68 y69) fun r74=>(.ask (decide (r74.size+(⟨#[32]⟩:BA).size≤9223372036854775807)) (.opt (qV n (r74++(⟨#[32]⟩:BA)) r73.2.1 r73.2.2) fun r75=>(.ask (decide (y70.size+(⟨#[10]⟩:BA).size≤9223372036854775807)) (.opt (qV n (y70++(⟨#[10]⟩:BA)) r75.2.1 r75.2.2) fun r76=>(.done (.inl (v.1,v.2.1,(IntKind.i64.wrap (v.2.2.1+(1:Int))),r76.2.1,r76.2.2)))) .fail)) .fail)) (.ask ((y67==(2:Int))) (.opt (qDg n y68 y69) fun r77=>(.ask (decide (r77.size+(⟨#[32]⟩:BA).size≤9223372036854775807)) (.opt (qV n (r77++(⟨#[32]⟩:BA)) r73.2.1 r73.2.2) fun r78=>(.ask (decide (y70.size+(⟨#[10]⟩:BA).size≤9223372036854775807)) (.opt (qV n (y70++(⟨#[10]⟩:BA)) r78.2.1 r78.2.2) fun r79=>(.done (.inl (v.1,v.2.1,(IntKind.i64.wrap (v.2.2.1+(1:Int))),r79.2.1,r79.2.2)))) .fail)) .fail)) (.ask ((y67==(3:Int))) (.opt (qAl n y71) fun r80=>(.ask (decide (r80.size+(⟨#[32]⟩:BA).size≤9223372036854775807)) (.opt (qV n (r80++(⟨#[32]⟩:BA)) r73.2.1 r73.2.2) fun r81=>(.ask (decide (y70.size+(⟨#[10]⟩:BA).size≤9223372036854775807)) (.opt (qV n (y70++(⟨#[10]⟩:BA)) r81.2.1 r81.2.2) fun r82=>(.done (.inl (v.1,v.2.1,(IntKind.i64.wrap (v.2.2.1+(1:Int))),r82.2.1,r82.2.2)))) .fail)) .fail)) (.ask ((y67==(4:Int))) (.opt (qAl n y71) fun r83=>(.ask (decide (r83.size+(⟨#[32]⟩:BA).size≤9223372036854775807)) (.opt (qV n (r83++(⟨#[32]⟩:BA)) r73.2.1 r73.2.2) fun r84=>(.ask (decide (y70.size+(⟨#[10]⟩:BA).size≤9223372036854775807)) (.opt (qV n (y70++(⟨#[10]⟩:BA)) r84.2.1 r84.2.2) fun r85=>(.done (.inl (v.1,v.2.1,(IntKind.i64.wrap (v.2.2.1+(1:Int))),r85.2.1,r85.2.2)))) .fail)) .fail)) (.ask (decide (y70.size+(⟨#[10]⟩:BA).size≤9223372036854775807)) (.opt (qV n (y70++(⟨#[10]⟩:BA)) r73.2.1 r73.2.2) fun r86=>(.done (.inl (v.1,v.2.1,(IntKind.i64.wrap (v.2.2.1+(1:Int))),r86.2.1,r86.2.2)))) .fail)))))) .fail))))))) .fail)) .fail) (.done (.inr ((v.2.2.2.1,v.2.2.2.2)))))
def qH1 (n:Nat) (x0:RW):Tr (BA):=(.opt (zF (qD4 n) n (x0,(x0.length:Int),(0:Int),(0:Nat),([]:RW))) fun r87=>(.opt (qBs n r87.1 r87.2) fun r88=>(.done r88.1)))
def qFF:Nat→RW→Option (BA)
 |0,_=>none
 |n+1,x0=>(qH1 n x0).run
abbrev qH2 (n:Nat):List (Ent (Rn n)):= [en (qHv n),en (qFE n),en (qN8 n),en (qEE n),en (qGu n)]
def qKa (n:Nat):LEnt (KB 39) (Rn n) n:=lok (zb 39) 29 ⟨⟨[(3,(.c (.ptr 0 192 0 0 0))),(7,aL),(8,aI),(9,aI)],[(192,⟨0,2,101,(.box [(.ptr 0 192 0 0 1000003),(.own 0 193 0 0)])⟩),(193,⟨0,1,5,(.row [])⟩)],[]⟩,[(.exit 0,⟨[(3,(.c (.ptr 0 192 0 0 0)))],[(192,⟨0,2,101,(.box [(.ptr 0 192 0 0 1000003),(.own 0 193 0 0)])⟩),(193,⟨0,1,5,(.row [])⟩)],[]⟩)]⟩ (qD4 n) (qH2 n) [] fun _=>(by kernel_rfl)
theorem qLx:∀n,Ok (Rn n) qM4 (qFF n)
 |0=>ok0 fun _=>rfl
 |n+1=>stO (T:=qH1 n) (by kernel_rfl) (qH2 n) [qKa n] (fun _=>(by kernel_rfl)) fun _=>(by kernel_rfl)
def qM5:Sg:=⟨11,[aS],[],⟨(.tup [(false,[(.own 0 0 0 0)]),(false,[qB])]),[],[⟨0,5,61,(.row [])⟩]⟩⟩
def qCO (n:Nat) (v:BA×Nat×BA×BA×Int×RW×Int×Int×RW×Int×Int×Int×BA×Int):Tr ((BA×Nat×BA×BA×Int×RW×Int×Int×RW×Int×Int×Int×BA×Int)⊕((BA×Nat×BA×RW×Int×Int×RW×Int×Int×Int×BA×Int))):=(.ask ((decide (v.2.2.2.2.1≤(5:Int)))) (.opt (qED n v.2.2.2.2.1) fun r47=>(.ask ((v.2.2.1.toList==r47.toList)) (.done (.inl (v.1,v.2.1,v.2.2.1,v.2.2.2.1,(IntKind.i64.wrap (v.2.2.2.2.1+(1:Int))),v.2.2.2.2.2.1,v.2.2.2.2.2.2.1,v.2.2.2.2.2.2.2.1,v.2.2.2.2.2.2.2.2.1,v.2.2.2.2.1,v.2.2.2.2.2.2.2.2.2.2.1,v.2.2.2.2.2.2.2.2.2.2.2.1,v.2.2.2.2.2.2.2.2.2.2.2.2.1,v.2.2.2.2.2.2.2.2.2.2.2.2.2))) (.done (.inl (v.1,v.2.1,v.2.2.1,v.2.2.2.1,(IntKind.i64.wrap (v.2.2.2.2.1+(1:Int))),v.2.2.2.2.2.1,v.2.2.2.2.2.2.1,v.2.2.2.2.2.2.2.1,v.2.2.2.2.2.2.2.2.1,v.2.2.2.2.2.2.2.2.2.1,v.2.2.2.2.2.2.2.2.2.2.1,v.2.2.2.2.2.2.2.2.2.2.2.1,v.2.2.2.2.2.2.2.2.2.2.2.2.1,v.2.2.2.2.2.2.2.2.2.2.2.2.2))))) (.done (.inr ((v.1,v.2.1,v.2.2.2.1,v.2.2.2.2.2.1,v.2.2.2.2.2.2.1,v.2.2.2.2.2.2.2.1,v.2.2.2.2.2.2.2.2.1,v.2.2.2.2.2.2.2.2.2.1,v.2.2.2.2.2.2.2.2.2.2.1,v.2.2.2.2.2.2.2.2.2.2.2.1,v.2.2.2.2.2.2.2.2.2.2.2.2.1,v.2.2.2.2.2.2.2.2.2.2.2.2.2)))))
def qCs (n:Nat) (v:BA×Nat×RW×Int×Int×RW):Tr ((BA×Nat×RW×Int×Int×RW)⊕((BA×Nat×RW))):=(.ask ((decide (v.2.2.2.2.1<v.2.2.2.1))) (.ask (decide (0≤v.2.2.2.2.1∧v.2.2.2.2.1<v.2.2.1.length)) (.opt (v.2.2.1[(v.2.2.2.2.1).toNat]?) fun e44=>(.ask (decide (e44.length=1)) (.opt (zAG e44 0) fun y45=>(.opt (qDQ n y45 (⟨#[32]⟩:BA)) fun r46=>(.opt (zF (qCO n) n (v.1,v.2.1,r46.1,r46.2.1,(1:Int),v.2.2.1,v.2.2.2.1,v.2.2.2.2.1,v.2.2.2.2.2,(0:Int),(0:Int),(0:Int),r46.2.1,(0:Int))) fun r48=>(.opt (qDQ n r48.2.2.1 (⟨#[32]⟩:BA)) fun r49=>(.ask ((r48.2.2.2.2.2.2.2.1==(1:Int))) (.opt (qDa n r49.1) fun r50=>(.ask (decide (1=([[(.i .i64 r48.2.2.2.2.2.2.2.1),(.i .i64 r50.1),(.i .i64 r50.2),(.s r49.2.1),(.i .i64 r48.2.2.2.2.2.2.2.2.2.2.2)]]:RW).length)) (.ask (decide (r48.2.1=r48.2.2.2.2.2.2.1.length∧0<5∧0<48∧(r48.2.1+([[(.i .i64 r48.2.2.2.2.2.2.2.1),(.i .i64 r50.1),(.i .i64 r50.2),(.s r49.2.1),(.i .i64 r48.2.2.2.2.2.2.2.2.2.2.2)]]:RW).length)*48≤140737488355328∧([[(.i .i64 r48.2.2.2.2.2.2.2.1),(.i .i64 r50.1),(.i .i64 r50.2),(.s r49.2.1),(.i .i64 r48.2.2.2.2.2.2.2.2.2.2.2)]]:RW).all (fun e=>e.length==5)=true)) (.done (.inl (r48.1,(r48.2.1+1),r48.2.2.2.1,r48.2.2.2.2.1,(IntKind.i64.wrap (r48.2.2.2.2.2.1+(1:Int))),(r48.2.2.2.2.2.2.1++([[(.i .i64 r48.2.2.2.2.2.2.2.1),(.i .i64 r50.1),(.i .i64 r50.2),(.s r49.2.1),(.i .i64 r48.2.2.2.2.2.2.2.2.2.2.2)]]:RW))))) .fail) .fail)) (.ask ((r48.2.2.2.2.2.2.2.1==(2:Int))) (.opt (qDa n r49.1) fun r51=>(.ask (decide (1=([[(.i .i64 r48.2.2.2.2.2.2.2.1),(.i .i64 r51.1),(.i .i64 r51.2),(.s r49.2.1),(.i .i64 r48.2.2.2.2.2.2.2.2.2.2.2)]]:RW).length)) (.ask (decide (r48.2.1=r48.2.2.2.2.2.2.1.length∧0<5∧0<48∧(r48.2.1+([[(.i .i64 r48.2.2.2.2.2.2.2.1),(.i .i64 r51.1),(.i .i64 r51.2),(.s r49.2.1),(.i .i64 r48.2.2.2.2.2.2.2.2.2.2.2)]]:RW).length)*48≤140737488355328∧([[(.i .i64 r48.2.2.2.2.2.2.2.1),(.i .i64 r51.1),(.i .i64 r51.2),(.s r49.2.1),(.i .i64 r48.2.2.2.2.2.2.2.2.2.2.2)]]:RW).all (fun e=>e.length==5)=true)) (.done (.inl (r48.1,(r48.2.1+1),r48.2.2.2.1,r48.2.2.2.2.1,(IntKind.i64.wrap (r48.2.2.2.2.2.1+(1:Int))),(r48.2.2.2.2.2.2.1++([[(.i .i64 r48.2.2.2.2.2.2.2.1),(.i .i64 r51.1),(.i .i64 r51.2),(.s r49.2.1),(.i .i64 r48.2.2.2.2.2.2.2.2.2.2.2)]]:RW))))) .fail) .fail)) (.ask ((r48.2.2.2.2.2.2.2.1==(3:Int))) (.opt (qCa n r49.1) fun r52=>(.ask (decide (1=([[(.i .i64 r48.2.2.2.2.2.2.2.1),(.i .i64 r48.2.2.2.2.2.2.2.2.1),(.i .i64 r48.2.2.2.2.2.2.2.2.2.1),(.s r49.2.1),(.i .i64 r52)]]:RW).length)) (.ask (decide (r48.2.1=r48.2.2.2.2.2.2.1.length∧0<5∧0<48∧(r48.2.1+([[(.i .i64 r48.2.2.2.2.2.2.2.1),(.i .i64 r48.2.2.2.2.2.2.2.2.1),(.i .i64 r48.2.2.2.2.2.2.2.2.2.1),(.s r49.2.1),(.i .i64 r52)]]:RW).length)*48≤140737488355328∧([[(.i .i64 r48.2.2.2.2.2.2.2.1),(.i .i64 r48.2.2.2.2.2.2.2.2.1),(.i .i64 r48.2.2.2.2.2.2.2.2.2.1),(.s r49.2.1),(.i .i64 r52)]]:RW).all (fun e=>e.length==5)=true)) (.done (.inl (r48.1,(r48.2.1+1),r48.2.2.2.1,r48.2.2.2.2.1,(IntKind.i64.wrap (r48.2.2.2.2.2.1+(1:Int))),(r48.2.2.2.2.2.2.1++([[(.i .i64 r48.2.2.2.2.2.2.2.1),(.i .i64 r48.2.2.2.2.2.2.2.2.1),(.i .i64 r48.2.2.2.2.2.2.2.2.2.1),(.s r49.2.1),(.i .i64 r52)]]:RW))))) .fail) .fail)) (.ask ((r48.2.2.2.2.2.2.2.1==(4:Int))) (.opt (qCa n r49.1) fun r53=>(.ask (decide (1=([[(.i .i64 r48.2.2.2.2.2.2.2.1),(.i .i64 r48.2.2.2.2.2.2.2.2.1),(.i .i64 r48.2.2.2.2.2.2.2.2.2.1),(.s r49.2.1),(.i .i64 r53)]]:RW).length)) (.ask (decide (r48.2.1=r48.2.2.2.2.2.2.1.length∧0<5∧0<48∧(r48.2.1+([[(.i .i64 r48.2.2.2.2.2.2.2.1),(.i .i64 r48.2.2.2.2.2.2.2.2.1),(.i .i64 r48.2.2.2.2.2.2.2.2.2.1),(.s r49.2.1),(.i .i64 r53)]]:RW).length)*48≤140737488355328∧([[(.i .i64 r48.2.2.2.2.2.2.2.1),(.i .i64 r48.2.2.2.2.2.2.2.2.1),(.i .i64 r48.2.2.2.2.2.2.2.2.2.1),(.s r49.2.1),(.i .i64 r53)]]:RW).all (fun e=>e.length==5)=true)) (.done (.inl (r48.1,(r48.2.1+1),r48.2.2.2.1,r48.2.2.2.2.1,(IntKind.i64.wrap (r48.2.2.2.2.2.1+(1:Int))),(r48.2.2.2.2.2.2.1++([[(.i .i64 r48.2.2.2.2.2.2.2.1),(.i .i64 r48.2.2.2.2.2.2.2.2.1),(.i .i64 r48.2.2.2.2.2.2.2.2.2.1),(.s r49.2.1),(.i .i64 r53)]]:RW))))) .fail) .fail)) (.ask (decide (1=([[(.i .i64 r48.2.2.2.2.2.2.2.1),(.i .i64 r48.2.2.2.2.2.2.2.2.1),(.i .i64 r48.2.2.2.2.2.2.2.2.2.1),(.s r48.2.2.2.2.2.2.2.2.2.2.1),(.i .i64 r48.2.2.2.2.2.2.2.2.2.2.2)]]:RW).length)) (.ask (decide (r48.2.1=r48.2.2.2.2.2.2.1.length∧0<5∧0<48∧(r48.2.1+([[(.i .i64 r48.2.2.2.2.2.2.2.1),(.i .i64 r48.2.2.2.2.2.2.2.2.1),(.i .i64 r48.2.2.2.2.2.2.2.2.2.1),(.s r48.2.2.2.2.2.2.2.2.2.2.1),(.i .i64 r48.2.2.2.2.2.2.2.2.2.2.2)]]:RW).length)*48≤140737488355328∧([[(.i .i64 r48.2.2.2.2.2.2.2.1),(.i .i64 r48.2.2.2.2.2.2.2.2.1),(.i .i64 r48.2.2.2.2.2.2.2.2.2.1),(.s r48.2.2.2.2.2.2.2.2.2.2.1),(.i .i64 r48.2.2.2.2.2.2.2.2.2.2.2)]]:RW).all (fun e=>e.length==5)=true)) (.done (.inl (r48.1,(r48.2.1+1),r48.2.2.2.1,r48.2.2.2.2.1,(IntKind.i64.wrap (r48.2.2.2.2.2.1+(1:Int))),(r48.2.2.2.2.2.2.1++([[(.i .i64 r48.2.2.2.2.2.2.2.1),(.i .i64 r48.2.2.2.2.2.2.2.2.1),(.i .i64 r48.2.2.2.2.2.2.2.2.2.1),(.s r48.2.2.2.2.2.2.2.2.2.2.1),(.i .i64 r48.2.2.2.2.2.2.2.2.2.2.2)]]:RW))))) .fail) .fail))))))))) .fail)) .fail) (.done (.inr ((v.1,v.2.1,v.2.2.2.2.2)))))
def qFG (n:Nat) (x0:BA):Tr (Nat×Bool×RW):=(.opt (qFA n x0 (⟨#[10]⟩:BA) (32:Int)) fun r43=>(.ask (decide (0≤(0:Int)∧(0:Int)≤(IntKind.i64.wrap ((r43.length:Int)-(1:Int)))∧(IntKind.i64.wrap ((r43.length:Int)-(1:Int)))≤r43.length∧r43.all (fun e=>e.length==1)=true)) (.opt (zF (qCs n) n (x0,(0:Nat),((r43.take ((IntKind.i64.wrap ((r43.length:Int)-(1:Int)))).toNat).drop ((0:Int)).toNat),(((r43.take ((IntKind.i64.wrap ((r43.length:Int)-(1:Int)))).toNat).drop ((0:Int)).toNat).length:Int),(0:Int),([]:RW))) fun r54=>(.ask (decide (r54.2.1=r54.2.2.length)) (.opt (qGf n r54.2.2) fun r65=>(.ask (zAj (⟨(.c (.p (.b r65))),[],[]⟩:Res)) (.ask ((!r65)) (.done ((0:Nat),false,([]:RW))) (.ask (decide (r54.2.1=r54.2.2.length)) (.opt (qFF n r54.2.2) fun r89=>(.ask (zAj (⟨(.c (.p (.s r89))),[],[]⟩:Res)) (.ask ((!(r89.toList==r54.1.toList))) (.done ((0:Nat),false,([]:RW))) (.done (r54.2.1,true,r54.2.2))) .fail)) .fail)) .fail)) .fail)) .fail))
def qDq:Nat→BA→Option (Nat×Bool×RW)
 |0,_=>none
 |n+1,x0=>(qFG n x0).run
abbrev qFH (n:Nat):List (Ent (Rn n)):= [en (qLp n),en (qJZ n),en (qHv n),en (qNx n),en (qK9 n),en (qN7 n),en (qLx n)]
def qJJ (n:Nat):LEnt (lb 29 (KB 11)) (Rn n) n:=lok (Uniq.pick (zb 11) 29) 7645 ⟨⟨[(0,aS),(5,(.c (.own 0 1152 0 0))),(8,aS),(9,aS),(11,(.c (.ptr 0 704 0 0 0))),(12,aI),(23,aL),(24,aI),(25,aI)],[(1152,⟨0,5,61,(.row [])⟩),(704,⟨0,5,61,(.box [qI,qI,qI,qS,qI])⟩)],[]⟩,[(.exit 2,⟨[(0,aS),(5,(.c (.own 0 1152 0 0))),(9,aS),(11,(.c (.ptr 0 704 0 0 0))),(23,aL),(24,aI),(25,aI)],[(1152,⟨0,5,61,(.row [])⟩),(704,⟨0,5,61,(.box [qI,qI,qI,qS,qI])⟩)],[]⟩)]⟩ (qCO n) (qFH n) [] fun _=>(by kernel_rfl)
def qKb (n:Nat):LEnt (KB 11) (Rn n) n:=lok (zb 11) 29 ⟨⟨[(0,aS),(5,(.c (.own 0 1152 0 0))),(23,aL),(24,aI),(25,aI)],[(1152,⟨0,5,61,(.row [])⟩)],[]⟩,[(.exit 0,⟨[(0,aS),(5,(.c (.own 0 1152 0 0)))],[(1152,⟨0,5,61,(.row [])⟩)],[]⟩)]⟩ (qCs n) (qFH n) [qJJ n] fun _=>(by kernel_rfl)
theorem qLy:∀n,Ok (Rn n) qM5 (qDq n)
 |0=>ok0 fun _=>rfl
 |n+1=>stO (T:=qFG n) (by kernel_rfl) (qFH n) [qKb n] (fun _=>(by kernel_rfl)) fun _=>(by kernel_rfl)
def qQd:Sg:=⟨75,[(.agg [qI,qI]),(.agg [qI,qI])],[],⟨aB,[],[]⟩⟩
def qIX (n:Nat) (x0 x1 x2 x3:Int):Tr (Bool):=(.ask ((x0 !=x2)) (.done false) (.ask ((x1 !=x3)) (.done false) (.done true)))
def qIY:Nat→Int→Int→Int→Int→Option (Bool)
 |0,_,_,_,_=>none
 |n+1,x0,x1,x2,x3=>(qIX n x0 x1 x2 x3).run
theorem qPs:∀n,Ok (Rn n) qQd (qIY n)
 |0=>ok0 fun _=>rfl
 |n+1=>stO (T:=qIX n) (by kernel_rfl) [] [] (fun _=>(by kernel_rfl)) fun _=>(by kernel_rfl)
def qPt:Sg:=⟨40,[(.agg [qI,qI,qI,qS,qI]),(.agg [qI,qI,qI,qS,qI])],[],⟨aB,[],[]⟩⟩
def qHa (n:Nat) (x0 x1 x2:Int) (x3:BA) (x4 x5 x6 x7:Int) (x8:BA) (x9:Int):Tr (Bool):=(.ask ((x0 !=x5)) (.done false) (.opt (qIY n x1 x2 x6 x7) fun r103=>(.ask ((!r103)) (.done false) (.ask ((!(x3.toList==x8.toList))) (.done false) (.ask ((x4 !=x9)) (.done false) (.done true))))))
def qFT:Nat→Int→Int→Int→BA→Int→Int→Int→Int→BA→Int→Option (Bool)
 |0,_,_,_,_,_,_,_,_,_,_=>none
 |n+1,x0,x1,x2,x3,x4,x5,x6,x7,x8,x9=>(qHa n x0 x1 x2 x3 x4 x5 x6 x7 x8 x9).run
abbrev qPu (n:Nat):List (Ent (Rn n)):= [en (qPs n)]
theorem qOu:∀n,Ok (Rn n) qPt (qFT n)
 |0=>ok0 fun _=>rfl
 |n+1=>stO (T:=qHa n) (by kernel_rfl) (qPu n) [] (fun _=>(by kernel_rfl)) fun _=>(by kernel_rfl)
def qOv:Sg:=⟨12,[aL,aL],[],⟨aB,[],[]⟩⟩
def qCe (n:Nat) (v:RW×RW×Int):Tr ((RW×RW×Int)⊕((Bool)⊕(Unit))):=(.ask ((decide (v.2.2<(v.1.length:Int)))) (.ask (decide (0≤v.2.2∧v.2.2<v.1.length)) (.opt (v.1[(v.2.2).toNat]?) fun e91=>(.ask (decide (e91.length=5)) (.opt (zI .i64 e91 0) fun y92=>(.opt (zI .i64 e91 1) fun y93=>(.opt (zI .i64 e91 2) fun y94=>(.opt (zAG e91 3) fun y95=>(.opt (zI .i64 e91 4) fun y96=>(.ask (decide (0≤v.2.2∧v.2.2<v.2.1.length)) (.opt (v.2.1[(v.2.2).toNat]?) fun e97=>(.ask (decide (e97.length=5)) (.opt (zI .i64 e97 0) fun y98=>(.opt (zI .i64 e97 1) fun y99=>(.opt (zI .i64 e97 2) fun y100=>(.opt (zAG e97 3) fun y101=>(.opt (zI .i64 e97 4) fun y102=>(.opt (qFT n y92 y93 y94 y95 y96 y98 y99 y100 y101 y102) fun r103=>(.ask ((!r103)) (.done (.inr (.inl (false)))) (.done (.inl (v.1,v.2.1,(IntKind.i64.wrap (v.2.2+(1:Int))))))))))))) .fail)) .fail)))))) .fail)) .fail) (.done (.inr (.inr (())))))
def qGh (n:Nat) (x0 x1:RW):Tr (Bool):=(.ask (((x0.length:Int) !=(x1.length:Int))) (.done false) (.opt (zF (qCe n) n (x0,x1,(0:Int))) fun r104=>(.alt r104 (fun r105=>(.done r105)) (fun r106=>(.done true)))))
def qDh:Nat→RW→RW→Option (Bool)
 |0,_,_=>none
 |n+1,x0,x1=>(qGh n x0 x1).run
abbrev qJr (n:Nat):List (Ent (Rn n)):= [en (qOu n)]
def qLz (n:Nat):LEnt (KB 12) (Rn n) n:=lok (zb 12) 29 ⟨⟨[(0,aL),(1,aL),(5,aI)],[],[]⟩,[(.ret,⟨[(4,aB)],[],[]⟩),(.exit 0,⟨[],[],[]⟩)]⟩ (qCe n) (qJr n) [] fun _=>(by kernel_rfl)
theorem qN9:∀n,Ok (Rn n) qOv (qDh n)
 |0=>ok0 fun _=>rfl
 |n+1=>stO (T:=qGh n) (by kernel_rfl) (qJr n) [qLz n] (fun _=>(by kernel_rfl)) fun _=>(by kernel_rfl)
def qOA:Sg:=⟨24,[aI],[],⟨aS,[],[]⟩⟩
def qBo (n:Nat) (v:Int×BA):Tr ((Int×BA)⊕((BA))):=(.ask ((decide (v.1>(0:Int)))) (.ask (decide (1=([[(.i .u8 (IntKind.u8.wrap (IntKind.i64.wrap ((48:Int)+(Int.tmod v.1 (10:Int))))))]]:RW).length)) (.opt (bytesOf ([[(.i .u8 (IntKind.u8.wrap (IntKind.i64.wrap ((48:Int)+(Int.tmod v.1 (10:Int))))))]]:RW)) fun l111=>(.ask (decide ((⟨l111.toArray⟩:BA).size+v.2.size≤9223372036854775807)) (.done (.inl ((IntKind.i64.wrap (Int.tdiv v.1 (10:Int))),((⟨l111.toArray⟩:BA)++v.2)))) .fail)) .fail) (.done (.inr (v.2))))
def qFo (n:Nat) (x0:Int):Tr (BA):=(.ask ((decide (x0≤(0:Int)))) (.done (⟨#[109,48]⟩:BA)) (.opt (zF (qBo n) n (x0,(⟨#[]⟩:BA))) fun r112=>(.ask (decide ((⟨#[109]⟩:BA).size+r112.size≤9223372036854775807)) (.done ((⟨#[109]⟩:BA)++r112)) .fail)))
def qCT:Nat→Int→Option (BA)
 |0,_=>none
 |n+1,x0=>(qFo n x0).run
def qLQ (n:Nat):LEnt (KB 24) (Rn n) n:=lok (zb 24) 30 ⟨⟨[(0,aI),(3,aS)],[],[]⟩,[(.exit 0,⟨[(3,aS)],[],[]⟩)]⟩ (qBo n) [] [] fun _=>(by kernel_rfl)
theorem qH3:∀n,Ok (Rn n) qOA (qCT n)
 |0=>ok0 fun _=>rfl
 |n+1=>stO (T:=qFo n) (by kernel_rfl) [] [qLQ n] (fun _=>(by kernel_rfl)) fun _=>(by kernel_rfl)
def qM6:Sg:=⟨13,[(.c (.own 0 0 0 0)),aI],[[(0,⟨0,5,61,(.row [])⟩)]],⟨aI,[[(0,⟨0,5,61,(.row [])⟩)]],[]⟩⟩
def qB2 (n:Nat) (v:Nat×Int×Int×RW):Tr ((Nat×Int×Int×RW)⊕((Int×RW))):=(.ask ((decide (v.2.2.1<((v.1:Nat):Int)))) (.ask (decide (v.1=v.2.2.2.length∧0≤v.2.2.1∧v.2.2.1<((v.1:Nat):Int))) (.opt (v.2.2.2[(v.2.2.1).toNat]?) fun e108=>(.ask (decide (0+1≤e108.length)) (.ask (decide (v.1=(v.2.2.2.set (v.2.2.1).toNat (zL e108 0 [(.i .i64 v.2.1)])).length∧0≤v.2.2.1∧v.2.2.1<((v.1:Nat):Int))) (.opt ((v.2.2.2.set (v.2.2.1).toNat (zL e108 0 [(.i .i64 v.2.1)]))[(v.2.2.1).toNat]?) fun e109=>(.ask (decide (1+1≤e109.length)) (.ask (decide (v.1=((v.2.2.2.set (v.2.2.1).toNat (zL e108 0 [(.i .i64 v.2.1)])).set (v.2.2.1).toNat (zL e109 1 [(.i .i64 (IntKind.i64.wrap (v.2.1+(1:Int))))])).length∧0≤v.2.2.1∧v.2.2.1<((v.1:Nat):Int))) (.opt (((v.2.2.2.set (v.2.2.1).toNat (zL e108 0 [(.i .i64 v.2.1)])).set (v.2.2.1).toNat (zL e109 1 [(.i .i64 (IntKind.i64.wrap (v.2.1+(1:Int))))]))[(v.2.2.1).toNat]?) fun e110=>(.ask (decide (2+1≤e110.length)) (.opt (qCT n (IntKind.i64.wrap ((IntKind.i64.wrap ((IntKind.i64.wrap (v.2.1+(1:Int)))+(1:Int)))+(1:Int)))) fun r111=>(.ask (decide (v.1=(((v.2.2.2.set (v.2.2.1).toNat (zL e108 0 [(.i .i64 v.2.1)])).set (v.2.2.1).toNat (zL e109 1 [(.i .i64 (IntKind.i64.wrap (v.2.1+(1:Int))))])).set (v.2.2.1).toNat (zL e110 2 [(.i .i64 (IntKind.i64.wrap ((IntKind.i64.wrap (v.2.1+(1:Int)))+(1:Int))))])).length∧0≤v.2.2.1∧v.2.2.1<((v.1:Nat):Int))) (.opt ((((v.2.2.2.set (v.2.2.1).toNat (zL e108 0 [(.i .i64 v.2.1)])).set (v.2.2.1).toNat (zL e109 1 [(.i .i64 (IntKind.i64.wrap (v.2.1+(1:Int))))])).set (v.2.2.1).toNat (zL e110 2 [(.i .i64 (IntKind.i64.wrap ((IntKind.i64.wrap (v.2.1+(1:Int)))+(1:Int))))]))[(v.2.2.1).toNat]?) fun e112=>(.ask (decide (3+1≤e112.length)) (.ask (decide (v.1=((((v.2.2.2.set (v.2.2.1).toNat (zL e108 0 [(.i .i64 v.2.1)])).set (v.2.2.1).toNat (zL e109 1 [(.i .i64 (IntKind.i64.wrap (v.2.1+(1:Int))))])).set (v.2.2.1).toNat (zL e110 2 [(.i .i64 (IntKind.i64.wrap ((IntKind.i64.wrap (v.2.1+(1:Int)))+(1:Int))))])).set (v.2.2.1).toNat (zL e112 3 [(.s r111)])).length∧0≤v.2.2.1∧v.2.2.1<((v.1:Nat):Int))) (.opt (((((v.2.2.2.set (v.2.2.1).toNat (zL e108 0 [(.i .i64 v.2.1)])).set (v.2.2.1).toNat (zL e109 1 [(.i .i64 (IntKind.i64.wrap (v.2.1+(1:Int))))])).set (v.2.2.1).toNat (zL e110 2 [(.i .i64 (IntKind.i64.wrap ((IntKind.i64.wrap (v.2.1+(1:Int)))+(1:Int))))])).set (v.2.2.1).toNat (zL e112 3 [(.s r111)]))[(v.2.2.1).toNat]?) fun e113=>(.ask (decide (4+1≤e113.length)) (.done (.inl (v.1,(IntKind.i64.wrap ((IntKind.i64.wrap ((IntKind.i64.wrap ((IntKind.i64.wrap ((IntKind.i64.wrap (v.2.1+(1:Int)))+(1:Int)))+(1:Int)))+(1:Int)))+(1:Int))),(IntKind.i64.wrap (v.2.2.1+(1:Int))),(((((v.2.2.2.set (v.2.2.1).toNat (zL e108 0 [(.i .i64 v.2.1)])).set (v.2.2.1).toNat (zL e109 1 [(.i .i64 (IntKind.i64.wrap (v.2.1+(1:Int))))])).set (v.2.2.1).toNat (zL e110 2 [(.i .i64 (IntKind.i64.wrap ((IntKind.i64.wrap (v.2.1+(1:Int)))+(1:Int))))])).set (v.2.2.1).toNat (zL e112 3 [(.s r111)])).set (v.2.2.1).toNat (zL e113 4 [(.i .i64 (IntKind.i64.wrap ((IntKind.i64.wrap ((IntKind.i64.wrap ((IntKind.i64.wrap (v.2.1+(1:Int)))+(1:Int)))+(1:Int)))+(1:Int))))]))))) .fail)) .fail) .fail)) .fail)) .fail)) .fail) .fail)) .fail) .fail)) .fail) (.done (.inr ((v.2.1,v.2.2.2)))))
def qFI (n x0:Nat) (x1:Int) (x2:RW):Tr (Int×RW):=(.opt (zF (qB2 n) n (x0,x1,(0:Int),x2)) fun r114=>(.done (r114.1,r114.2)))
def qDr:Nat→Nat→Int→RW→Option (Int×RW)
 |0,_,_,_=>none
 |n+1,x0,x1,x2=>(qFI n x0 x1 x2).run
abbrev qH4 (n:Nat):List (Ent (Rn n)):= [en (qH3 n)]
def qKc (n:Nat):LEnt (KB 13) (Rn n) n:=lok (zb 13) 13 ⟨⟨[(0,(.c (.own 0 0 0 0))),(1,aI),(5,aI)],[],[[(0,⟨0,5,61,(.row [])⟩)]]⟩,[(.exit 0,⟨[(1,aI)],[],[[(0,⟨0,5,61,(.row [])⟩)]]⟩)]⟩ (qB2 n) (qH4 n) [] fun _=>(by kernel_rfl)
theorem qL0:∀n,Ok (Rn n) qM6 (qDr n)
 |0=>ok0 fun _=>rfl
 |n+1=>stO (T:=qFI n) (by kernel_rfl) (qH4 n) [qKc n] (fun _=>(by kernel_rfl)) fun _=>(by kernel_rfl)
def qM7:Sg:=⟨14,[aL,aI],[],⟨aI,[],[]⟩⟩
def qB3 (n:Nat) (v:RW×Int×Int):Tr ((RW×Int×Int)⊕((Int)⊕(Int))):=(.ask ((decide (v.2.2<(v.1.length:Int)))) (.ask (decide (0≤v.2.2∧v.2.2<v.1.length)) (.opt (v.1[(v.2.2).toNat]?) fun e116=>(.ask (decide (e116.length=5)) (.opt (zI .i64 e116 0) fun y117=>(.ask ((y117 !=v.2.1)) (.done (.inr (.inl ((-1:Int))))) (.ask (decide (0≤v.2.2∧v.2.2<v.1.length)) (.opt (v.1[(v.2.2).toNat]?) fun e118=>(.ask (decide (e118.length=5)) (.opt (zI .i64 e118 1) fun y119=>(.ask ((y119 !=(IntKind.i64.wrap (v.2.1+(1:Int))))) (.done (.inr (.inl ((-1:Int))))) (.ask (decide (0≤v.2.2∧v.2.2<v.1.length)) (.opt (v.1[(v.2.2).toNat]?) fun e120=>(.ask (decide (e120.length=5)) (.opt (zI .i64 e120 2) fun y121=>(.ask ((y121 !=(IntKind.i64.wrap ((IntKind.i64.wrap (v.2.1+(1:Int)))+(1:Int))))) (.done (.inr (.inl ((-1:Int))))) (.ask (decide (0≤v.2.2∧v.2.2<v.1.length)) (.opt (v.1[(v.2.2).toNat]?) fun e122=>(.ask (decide (e122.length=5)) (.opt (zAG e122 3) fun y123=>(.opt (qCT n (IntKind.i64.wrap ((IntKind.i64.wrap ((IntKind.i64.wrap (v.2.1+(1:Int)))+(1:Int)))+(1:Int)))) fun r124=>(.ask ((!(y123.toList==r124.toList))) (.done (.inr (.inl ((-1:Int))))) (.ask (decide (0≤v.2.2∧v.2.2<v.1.length)) (.opt (v.1[(v.2.2).toNat]?) fun e125=>(.ask (decide (e125.length=5)) (.opt (zI .i64 e125 4) fun y126=>(.ask ((y126 !=(IntKind.i64.wrap ((IntKind.i64.wrap ((IntKind.i64.wrap ((IntKind.i64.wrap (v.2.1+(1:Int)))+(1:Int)))+(1:Int)))+(1:Int))))) (.done (.inr (.inl ((-1:Int))))) (.done (.inl (v.1,(IntKind.i64.wrap ((IntKind.i64.wrap ((IntKind.i64.wrap ((IntKind.i64.wrap ((IntKind.i64.wrap (v.2.1+(1:Int)))+(1:Int)))+(1:Int)))+(1:Int)))+(1:Int))),(IntKind.i64.wrap (v.2.2+(1:Int)))))))) .fail)) .fail)))) .fail)) .fail))) .fail)) .fail))) .fail)) .fail))) .fail)) .fail) (.done (.inr (.inr (v.2.1)))))
def qFJ (n:Nat) (x0:RW) (x1:Int):Tr (Int):=(.opt (zF (qB3 n) n (x0,x1,(0:Int))) fun r127=>(.alt r127 (fun r128=>(.done r128)) (fun r129=>(.done r129))))
def qC7:Nat→RW→Int→Option (Int)
 |0,_,_=>none
 |n+1,x0,x1=>(qFJ n x0 x1).run
abbrev qH5 (n:Nat):List (Ent (Rn n)):= [en (qH3 n)]
def qKd (n:Nat):LEnt (KB 14) (Rn n) n:=lok (zb 14) 13 ⟨⟨[(0,aL),(1,aI),(5,aI)],[],[]⟩,[(.ret,⟨[(4,aI)],[],[]⟩),(.exit 0,⟨[(1,aI)],[],[]⟩)]⟩ (qB3 n) (qH5 n) [] fun _=>(by kernel_rfl)
theorem qL1:∀n,Ok (Rn n) qM7 (qC7 n)
 |0=>ok0 fun _=>rfl
 |n+1=>stO (T:=qFJ n) (by kernel_rfl) (qH5 n) [qKd n] (fun _=>(by kernel_rfl)) fun _=>(by kernel_rfl)
def qH6:Sg:=⟨4,[aS],[],⟨aB,[],[]⟩⟩
def qC8 (n:Nat) (x0:BA):Tr (Bool):=(.ask ((decide ((x0.size:Int)>(1048576:Int)))) (.done true) (.opt (qE9 n x0) fun r42=>(.opt (qDq n x0) fun r90=>(.ask (decide (r90.1=r90.2.2.length)) (.ask (decide (r42.1=r42.2.2.length)) (.opt (qDh n r90.2.2 r42.2.2) fun r107=>(.ask (zAj (⟨(.c (.p (.b r107))),[],[]⟩:Res)) (.ask ((!r107)) (.done false) (.ask ((!(r90.2.1==r42.2.1))) (.done false) (.ask (decide (r90.1=r90.2.2.length)) (.opt (qDr n r90.1 (1:Int) r90.2.2) fun r115=>(.ask (decide (r90.1=r115.2.length)) (.opt (qC7 n r115.2 (1:Int)) fun r130=>(.ask (zAj (⟨(.c (.p (.i .i64 r130))),[],[]⟩:Res)) (.ask ((decide (r130<(0:Int)))) (.done false) (.ask ((r130 !=r115.1)) (.done false) (.opt (qDq n x0) fun r131=>(.ask (decide (r131.1=r131.2.2.length)) (.ask (decide (r42.1=r42.2.2.length)) (.opt (qDh n r131.2.2 r42.2.2) fun r132=>(.ask (zAj (⟨(.c (.p (.b r132))),[],[]⟩:Res)) (.ask ((!r132)) (.done false) (.ask ((!(r131.2.1==r42.2.1))) (.done false) (.ask (decide (r90.1=r115.2.length)) (.opt (qC7 n r115.2 (1:Int)) fun r133=>(.ask (zAj (⟨(.c (.p (.i .i64 r133))),[],[]⟩:Res)) (.ask ((decide (r133<(0:Int)))) (.done false) (.ask ((r133 !=r115.1)) (.done false) (.done true))) .fail)) .fail))) .fail)) .fail) .fail)))) .fail)) .fail)) .fail))) .fail)) .fail) .fail))))
def qET:Nat→BA→Option (Bool)
 |0,_=>none
 |n+1,x0=>(qC8 n x0).run
abbrev qH7 (n:Nat):List (Ent (Rn n)):= [en (qLo n),en (qLy n),en (qN9 n),en (qL0 n),en (qL1 n)]
theorem qHb:∀n,Ok (Rn n) qH6 (qET n)
 |0=>ok0 fun _=>rfl
 |n+1=>stO (T:=qC8 n) (by kernel_rfl) (qH7 n) [] (fun _=>(by kernel_rfl)) fun _=>(by kernel_rfl)
end
end Go.Proofs.YtilkdjfhbahhdaaGreatDoor.KFnExactReadMacro

