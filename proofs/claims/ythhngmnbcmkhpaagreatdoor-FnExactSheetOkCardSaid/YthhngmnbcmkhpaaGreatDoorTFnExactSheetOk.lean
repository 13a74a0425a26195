import Derived.Test.YthhngmnbcmkhpaaGreatDoorKFnExactSheetOk
namespace Go.Proofs.YthhngmnbcmkhpaaGreatDoor.KFnExactSheetOk
open Go.Eng
set_option linter.unusedVariables false
set_option maxRecDepth 100000
noncomputable section
abbrev RW:=List (List PV)
abbrev BA:=ByteArray
def qNg:Sg:=⟨73,[(.agg [qI,qI,qS]),aI],[],⟨aI,[],[]⟩⟩
def qGR (n:Nat) (x0 x1:Int) (x2:BA) (x3:Int):Tr (Int):=(.ask ((decide ((IntKind.i64.wrap (x3-(x2.size:Int)))<(0:Int)))) (.done (-1:Int)) (.done (IntKind.i64.wrap (x3-(x2.size:Int)))))
def qEW:Nat→Int→Int→BA→Int→Option (Int)
 |0,_,_,_,_=>none
 |n+1,x0,x1,x2,x3=>(qGR n x0 x1 x2 x3).run
theorem qMe:∀n,Ok (Rn n) qNg (qEW n)
 |0=>ok0 fun _=>rfl
 |n+1=>stO (T:=qGR n) (by kernel_rfl) [] [] (fun _=>(by kernel_rfl)) fun _=>(by kernel_rfl)
def qMf:Sg:=⟨27,[aL,aI],[],⟨aI,[],[]⟩⟩
def qBm (n:Nat) (v:RW×Int×Int):Tr ((RW×Int×Int)⊕((Int)⊕(Int))):=(.ask ((decide (v.2.2<(v.1.length:Int)))) (.ask (decide (0≤v.2.2∧v.2.2<v.1.length)) (.opt (v.1[(v.2.2).toNat]?) fun e1=>(.ask (decide (e1.length=3)) (.opt (zE .i64 e1 0) fun y2=>(.opt (zE .i64 e1 1) fun y3=>(.opt (zc e1 2) fun y4=>(.opt (qEW n y2 y3 y4 v.2.1) fun r5=>(.ask ((decide (r5<(0:Int)))) (.done (.inr (.inl ((-1:Int))))) (.done (.inl (v.1,r5,(IntKind.i64.wrap (v.2.2+(1:Int))))))))))) .fail)) .fail) (.done (.inr (.inr (v.2.1)))))
def qFJ (n:Nat) (x0:RW) (x1:Int):Tr (Int):=(.ask ((decide ((IntKind.i64.wrap (x1-(x0.length:Int)))<(0:Int)))) (.done (-1:Int)) (.opt (zC (qBm n) n (x0,(IntKind.i64.wrap (x1-(x0.length:Int))),(0:Int))) fun r6=>(.alt r6 (fun r7=>(.done r7)) (fun r8=>(.done r8)))))
def qDx:Nat→RW→Int→Option (Int)
 |0,_,_=>none
 |n+1,x0,x1=>(qFJ n x0 x1).run
abbrev qID (n:Nat):List (Ent (Rn n)):= [en (qMe n)]
def qKN (n:Nat):LEnt (KB 27) (Rn n) n:=lok (zU 27) 61 ⟨⟨[(0,aL),(1,aI),(5,aI)],[],[]⟩,[(.ret,⟨[(4,aI)],[],[]⟩),(.exit 0,⟨[(1,aI)],[],[]⟩)]⟩ (qBm n) (qID n) [] fun _=>(by kernel_rfl)
theorem qLv:∀n,Ok (Rn n) qMf (qDx n)
 |0=>ok0 fun _=>rfl
 |n+1=>stO (T:=qFJ n) (by kernel_rfl) (qID n) [qKN n] (fun _=>(by kernel_rfl)) fun _=>(by kernel_rfl)
def qOV:Sg:=⟨124,[(.agg [qI,qI])],[],⟨(.agg [qI,qI]),[],[]⟩⟩
def qHD (n:Nat) (x0 x1:Int):Tr (Int×Int):=(.done (x0,x1))
def qHE:Nat→Int→Int→Option (Int×Int)
 |0,_,_=>none
 |n+1,x0,x1=>(qHD n x0 x1).run
theorem qNh:∀n,Ok (Rn n) qOV (qHE n)
 |0=>ok0 fun _=>rfl
 |n+1=>stO (T:=qHD n) (by kernel_rfl) [] [] (fun _=>(by kernel_rfl)) fun _=>(by kernel_rfl)
def qNi:Sg:=⟨76,[(.agg [qI,qI,qS])],[],⟨(.agg [qI,qI,qS]),[],[]⟩⟩
def qGS (n:Nat) (x0 x1:Int) (x2:BA):Tr (Int×Int×BA):=(.opt (qHE n x0 x1) fun r14=>(.done (r14.1,r14.2,x2)))
def qEX:Nat→Int→Int→BA→Option (Int×Int×BA)
 |0,_,_,_=>none
 |n+1,x0,x1,x2=>(qGS n x0 x1 x2).run
abbrev qNj (n:Nat):List (Ent (Rn n)):= [en (qNh n)]
theorem qMg:∀n,Ok (Rn n) qNi (qEX n)
 |0=>ok0 fun _=>rfl
 |n+1=>stO (T:=qGS n) (by kernel_rfl) (qNj n) [] (fun _=>(by kernel_rfl)) fun _=>(by kernel_rfl)
def qMh:Sg:=⟨29,[aL],[],⟨(.c (.own 0 0 0 0)),[],[⟨0,3,98,(.row [])⟩]⟩⟩
def qCF (n:Nat) (v:RW×Nat×Int×RW):Tr ((RW×Nat×Int×RW)⊕((Nat×RW))):=(.ask ((decide (v.2.2.1<(v.1.length:Int)))) (.ask (decide (0≤v.2.2.1∧v.2.2.1<v.1.length)) (.opt (v.1[(v.2.2.1).toNat]?) fun e10=>(.ask (decide (e10.length=3)) (.opt (zE .i64 e10 0) fun y11=>(.opt (zE .i64 e10 1) fun y12=>(.opt (zc e10 2) fun y13=>(.opt (qEX n y11 y12 y13) fun r14=>(.ask (decide (v.2.1=v.2.2.2.length∧0≤v.2.2.1∧v.2.2.1<((v.2.1:Nat):Int))) (.opt (v.2.2.2[(v.2.2.1).toNat]?) fun e15=>(.ask (decide (0+3≤e15.length)) (.done (.inl (v.1,v.2.1,(IntKind.i64.wrap (v.2.2.1+(1:Int))),(v.2.2.2.set (v.2.2.1).toNat (zu e15 0 [(.i .i64 r14.1),(.i .i64 r14.2.1),(.s r14.2.2)]))))) .fail)) .fail))))) .fail)) .fail) (.done (.inr ((v.2.1,v.2.2.2)))))
def qFK (n:Nat) (x0:RW):Tr (Nat×RW):=(.ask (decide (0≤(x0.length:Int)∧(x0.length:Int)=(x0.length:Int)∧32*(x0.length:Int)≤140737488355328∧(x0.length:Int)≤9223372036854775807)) (.opt (zC (qCF n) n (x0,((x0.length:Int)).toNat,(0:Int),(zAh [(.i .i64 (0:Int)),(.i .i64 (0:Int)),(.s (⟨#[]⟩:BA))] ((x0.length:Int)).toNat))) fun r16=>(.done (r16.1,r16.2))) .fail)
def qCd:Nat→RW→Option (Nat×RW)
 |0,_=>none
 |n+1,x0=>(qFK n x0).run
abbrev qIE (n:Nat):List (Ent (Rn n)):= [en (qMg n)]
def qKO (n:Nat):LEnt (KB 29) (Rn n) n:=lok (zU 29) 29 ⟨⟨[(0,aL),(3,(.c (.own 0 448 0 0))),(4,aI)],[(448,⟨0,3,98,(.row [])⟩)],[]⟩,[(.exit 0,⟨[(3,(.c (.own 0 448 0 0)))],[(448,⟨0,3,98,(.row [])⟩)],[]⟩)]⟩ (qCF n) (qIE n) [] fun _=>(by kernel_rfl)
theorem qLw:∀n,Ok (Rn n) qMh (qCd n)
 |0=>ok0 fun _=>rfl
 |n+1=>stO (T:=qFK n) (by kernel_rfl) (qIE n) [qKO n] (fun _=>(by kernel_rfl)) fun _=>(by kernel_rfl)
def qMi:Sg:=⟨32,[aS],[],⟨aB,[],[]⟩⟩
def qBI (n:Nat) (v:BA×Int):Tr ((BA×Int)⊕((Bool)⊕(BA))):=(.ask ((decide (v.2<(v.1.size:Int)))) (.ask (decide (0≤v.2)) (.opt (v.1.toList[(v.2).toNat]?) fun c20=>(.ask ((decide ((c20.toNat:Int)<(32:Int)))) (.done (.inr (.inl (false)))) (.ask (decide (0≤v.2)) (.opt (v.1.toList[(v.2).toNat]?) fun c21=>(.ask ((decide ((c21.toNat:Int)>(126:Int)))) (.done (.inr (.inl (false)))) (.done (.inl (v.1,(IntKind.i64.wrap (v.2+(1:Int)))))))) .fail))) .fail) (.done (.inr (.inr (v.1)))))
def qFL (n:Nat) (x0:BA):Tr (Bool):=(.opt (zC (qBI n) n (x0,(0:Int))) fun r22=>(.alt r22 (fun r23=>(.done r23)) (fun r24=>(.done (decide ((r24.size:Int)≤(200:Int)))))))
def qCe:Nat→BA→Option (Bool)
 |0,_=>none
 |n+1,x0=>(qFL n x0).run
def qKP (n:Nat):LEnt (KB 32) (Rn n) n:=lok (zU 32) 13 ⟨⟨[(0,aS),(3,aI)],[],[]⟩,[(.ret,⟨[(2,aB)],[],[]⟩),(.exit 0,⟨[(0,aS)],[],[]⟩)]⟩ (qBI n) [] [] fun _=>(by kernel_rfl)
theorem qEr:∀n,Ok (Rn n) qMi (qCe n)
 |0=>ok0 fun _=>rfl
 |n+1=>stO (T:=qFL n) (by kernel_rfl) [] [qKP n] (fun _=>(by kernel_rfl)) fun _=>(by kernel_rfl)
def qJp:Sg:=⟨34,[(.c (.ptr 0 0 0 0 0))],[[(0,⟨0,4,50,(.box [qS,qI,qB,(.own 0 1 1 0)])⟩),(1,⟨1,14,64,(.row [])⟩)]],⟨(.tup []),[[(0,⟨0,4,50,(.box [qS,qI,qB,(.own 0 1 1 0)])⟩),(1,⟨1,14,64,(.row [])⟩)]],[]⟩⟩
def qC9 (n:Nat) (v:BA×Int×Bool×Nat×RW):Tr ((BA×Int×Bool×Nat×RW)⊕((BA×Int×Bool×Nat×RW))):=(.ask ((decide (v.2.1<(v.1.size:Int)))) (.ask (decide (0≤v.2.1)) (.opt (v.1.toList[(v.2.1).toNat]?) fun c28=>(.ask (((c28.toNat:Int)==(32:Int))) (.done (.inl (v.1,(IntKind.i64.wrap (v.2.1+(1:Int))),v.2.2.1,v.2.2.2.1,v.2.2.2.2))) (.done (.inr ((v.1,v.2.1,v.2.2.1,v.2.2.2.1,v.2.2.2.2)))))) .fail) (.done (.inr ((v.1,v.2.1,v.2.2.1,v.2.2.2.1,v.2.2.2.2)))))
def qFM (n:Nat) (x0:BA) (x1:Int) (x2:Bool) (x3:Nat) (x4:RW):Tr (BA×Int×Bool×Nat×RW):=(.opt (zC (qC9 n) n (x0,x1,x2,x3,x4)) fun r29=>(.done (r29.1,r29.2.1,r29.2.2.1,r29.2.2.2.1,r29.2.2.2.2)))
def qBU:Nat→BA→Int→Bool→Nat→RW→Option (BA×Int×Bool×Nat×RW)
 |0,_,_,_,_,_=>none
 |n+1,x0,x1,x2,x3,x4=>(qFM n x0 x1 x2 x3 x4).run
def qIF (n:Nat):LEnt (KB 34) (Rn n) n:=lok (zU 34) 1 ⟨⟨[(0,(.c (.ptr 0 0 0 0 0)))],[],[[(0,⟨0,4,50,(.box [qS,qI,qB,(.own 0 1 1 0)])⟩),(1,⟨1,14,64,(.row [])⟩)]]⟩,[(.exit 0,⟨[],[],[[(0,⟨0,4,50,(.box [qS,qI,qB,(.own 0 1 1 0)])⟩),(1,⟨1,14,64,(.row [])⟩)]]⟩)]⟩ (qC9 n) [] [] fun _=>(by kernel_rfl)
theorem qDR:∀n,Ok (Rn n) qJp (qBU n)
 |0=>ok0 fun _=>rfl
 |n+1=>stO (T:=qFM n) (by kernel_rfl) [] [qIF n] (fun _=>(by kernel_rfl)) fun _=>(by kernel_rfl)
def qMj:Sg:=⟨128,[(.c (.ptr 0 0 0 0 0)),aS],[[(0,⟨0,4,50,(.box [qS,qI,qB,(.own 0 1 1 0)])⟩),(1,⟨1,14,64,(.row [])⟩)]],⟨aB,[[(0,⟨0,4,50,(.box [qS,qI,qB,(.own 0 1 1 0)])⟩),(1,⟨1,14,64,(.row [])⟩)]],[]⟩⟩
def qIG (n:Nat) (x0 x1:BA) (x2:Int) (x3:Bool) (x4:Nat) (x5:RW):Tr (Bool×BA×Int×Bool×Nat×RW):=(.opt (qBU n x1 x2 x3 x4 x5) fun r30=>(.ask (r30.2.2.1) (.done (false,r30.1,r30.2.1,r30.2.2.1,r30.2.2.2.1,r30.2.2.2.2)) (.ask ((decide ((IntKind.i64.wrap (r30.2.1+(x0.size:Int)))>(r30.1.size:Int)))) (.done (false,r30.1,r30.2.1,r30.2.2.1,r30.2.2.2.1,r30.2.2.2.2)) (.ask (decide (0≤r30.2.1∧r30.2.1≤(IntKind.i64.wrap (r30.2.1+(x0.size:Int)))∧(IntKind.i64.wrap (r30.2.1+(x0.size:Int)))≤r30.1.size)) (.ask ((!((r30.1.extract (r30.2.1).toNat ((IntKind.i64.wrap (r30.2.1+(x0.size:Int)))).toNat).toList==x0.toList))) (.done (false,r30.1,r30.2.1,r30.2.2.1,r30.2.2.2.1,r30.2.2.2.2)) (.done (true,r30.1,(IntKind.i64.wrap (r30.2.1+(x0.size:Int))),r30.2.2.1,r30.2.2.2.1,r30.2.2.2.2))) .fail))))
def qAA:Nat→BA→BA→Int→Bool→Nat→RW→Option (Bool×BA×Int×Bool×Nat×RW)
 |0,_,_,_,_,_,_=>none
 |n+1,x0,x1,x2,x3,x4,x5=>(qIG n x0 x1 x2 x3 x4 x5).run
abbrev qMk (n:Nat):List (Ent (Rn n)):= [en (qDR n)]
theorem qDe:∀n,Ok (Rn n) qMj (qAA n)
 |0=>ok0 fun _=>rfl
 |n+1=>stO (T:=qIG n) (by kernel_rfl) (qMk n) [] (fun _=>(by kernel_rfl)) fun _=>(by kernel_rfl)
def qO1:Sg:=⟨53,[aI,aI,aI],[],⟨aB,[],[]⟩⟩
def qF7 (n:Nat) (x0 x1 x2:Int):Tr (Bool):=(.ask ((decide (x0≥x1))) (.done (decide (x0≤x2))) (.done false))
def qBB:Nat→Int→Int→Int→Option (Bool)
 |0,_,_,_=>none
 |n+1,x0,x1,x2=>(qF7 n x0 x1 x2).run
theorem qDy:∀n,Ok (Rn n) qO1 (qBB n)
 |0=>ok0 fun _=>rfl
 |n+1=>stO (T:=qF7 n) (by kernel_rfl) [] [] (fun _=>(by kernel_rfl)) fun _=>(by kernel_rfl)
def qMl:Sg:=⟨111,[(.agg [qI,qI,qS])],[],⟨aB,[],[]⟩⟩
def qFN (n:Nat) (x0 x1:Int) (x2:BA):Tr (Bool):=(.ask ((x0==(0:Int))) (.ask ((x1==(0:Int))) (.done (x2.toList==(⟨#[]⟩:BA).toList)) (.done false)) (.ask ((x0==(1:Int))) (.opt (qBB n x1 (-1000000000000000:Int) (1000000000000000:Int)) fun r33=>(.ask (r33) (.done (x2.toList==(⟨#[]⟩:BA).toList)) (.done false))) (.ask ((x0==(2:Int))) (.ask ((x1==(0:Int))) (.opt (qCe n x2) fun r34=>(.done r34)) (.done false)) (.ask ((x0==(3:Int))) (.opt (qBB n x1 (0:Int) (1:Int)) fun r35=>(.ask (r35) (.done (x2.toList==(⟨#[]⟩:BA).toList)) (.done false))) (.ask ((x0==(4:Int))) (.opt (qBB n x1 (1:Int) (5:Int)) fun r36=>(.ask (r36) (.done (x2.toList==(⟨#[]⟩:BA).toList)) (.done false))) (.done false))))))
def qX:Nat→Int→Int→BA→Option (Bool)
 |0,_,_,_=>none
 |n+1,x0,x1,x2=>(qFN n x0 x1 x2).run
abbrev qMm (n:Nat):List (Ent (Rn n)):= [en (qDy n),en (qEr n)]
theorem qDf:∀n,Ok (Rn n) qMl (qX n)
 |0=>ok0 fun _=>rfl
 |n+1=>stO (T:=qFN n) (by kernel_rfl) (qMm n) [] (fun _=>(by kernel_rfl)) fun _=>(by kernel_rfl)
def qOW:Sg:=⟨74,[(.agg [qI,qI])],[],⟨aB,[],[]⟩⟩
def qHF (n:Nat) (x0 x1:Int):Tr (Bool):=(.opt (qBB n x0 (1:Int) (52:Int)) fun r38=>(.ask (r38) (.opt (qBB n x1 (1:Int) (99:Int)) fun r39=>(.done r39)) (.done false)))
def qAE:Nat→Int→Int→Option (Bool)
 |0,_,_=>none
 |n+1,x0,x1=>(qHF n x0 x1).run
abbrev qOX (n:Nat):List (Ent (Rn n)):= [en (qDy n)]
theorem qDa:∀n,Ok (Rn n) qOW (qAE n)
 |0=>ok0 fun _=>rfl
 |n+1=>stO (T:=qHF n) (by kernel_rfl) (qOX n) [] (fun _=>(by kernel_rfl)) fun _=>(by kernel_rfl)
def qNk:Sg:=⟨112,[(.agg [qI,qI,qI,qI])],[],⟨aB,[],[]⟩⟩
def qGT (n:Nat) (x0 x1 x2 x3:Int):Tr (Bool):=(.opt (qAE n x0 x1) fun r41=>(.ask (r41) (.opt (qAE n x2 x3) fun r42=>(.ask (r42) (.ask ((decide (x0≤x2))) (.done (decide (x1≤x3))) (.done false)) (.done false))) (.done false)))
def qEY:Nat→Int→Int→Int→Int→Option (Bool)
 |0,_,_,_,_=>none
 |n+1,x0,x1,x2,x3=>(qGT n x0 x1 x2 x3).run
abbrev qNl (n:Nat):List (Ent (Rn n)):= [en (qDa n)]
theorem qMn:∀n,Ok (Rn n) qNk (qEY n)
 |0=>ok0 fun _=>rfl
 |n+1=>stO (T:=qGT n) (by kernel_rfl) (qNl n) [] (fun _=>(by kernel_rfl)) fun _=>(by kernel_rfl)
def qNm:Sg:=⟨113,[aI,aI],[],⟨aB,[],[]⟩⟩
def qGU (n:Nat) (x0 x1:Int):Tr (Bool):=(.ask ((x0==(1:Int))) (.ask ((decide (x1≥(1:Int)))) (.done (decide (x1≤(10:Int)))) (.done false)) (.ask ((x0==(2:Int))) (.ask ((decide (x1≥(1:Int)))) (.done (decide (x1≤(10:Int)))) (.done false)) (.ask ((x0==(3:Int))) (.ask ((decide (x1≥(1:Int)))) (.done (decide (x1≤(10:Int)))) (.done false)) (.ask ((x0==(4:Int))) (.ask ((decide (x1≥(1:Int)))) (.done (decide (x1≤(10:Int)))) (.done false)) (.ask ((x0==(6:Int))) (.ask ((decide (x1≥(1:Int)))) (.done (decide (x1≤(10:Int)))) (.done false)) (.ask ((x0==(7:Int))) (.ask ((decide (x1≥(1:Int)))) (.done (decide (x1≤(10:Int)))) (.done false)) (.ask ((x0==(5:Int))) (.ask ((x1==(2:Int))) (.done true) (.done (x1==(3:Int)))) (.ask ((x0==(8:Int))) (.done (x1==(1:Int))) (.ask ((x0==(9:Int))) (.done (x1==(1:Int))) (.ask ((x0==(10:Int))) (.done (x1==(1:Int))) (.done false)))))))))))
def qEZ:Nat→Int→Int→Option (Bool)
 |0,_,_=>none
 |n+1,x0,x1=>(qGU n x0 x1).run
theorem qMo:∀n,Ok (Rn n) qNm (qEZ n)
 |0=>ok0 fun _=>rfl
 |n+1=>stO (T:=qGU n) (by kernel_rfl) [] [] (fun _=>(by kernel_rfl)) fun _=>(by kernel_rfl)
def qLx:Sg:=⟨52,[(.agg [qI,qI,qI,qI,qS,qI,qI,qB,qB,qI,qI,qB,qB,qL])],[],⟨aB,[],[]⟩⟩
def qEs (n:Nat) (x0 x1 x2 x3:Int) (x4:BA) (x5 x6:Int) (x7 x8:Bool) (x9 x10:Int) (x11 x12:Bool) (x13:RW):Tr (Bool):=(.ask ((x0==(1:Int))) (.ask ((x1==(0:Int))) (.ask (((x5==(0:Int))&&((x6==(0:Int))&&((x7==false)&&((x8==false)&&true))))) (.ask (((x9==(0:Int))&&((x10==(0:Int))&&((x11==false)&&((x12==false)&&true))))) (.ask (((x13.length:Int)==(0:Int))) (.opt (qX n x2 x3 x4) fun r37=>(.ask (r37) (.ask ((x2 !=(0:Int))) (.ask ((x2 !=(1:Int))) (.done true) (.done (decide (x3≥(0:Int))))) (.done false)) (.done false))) (.done false)) (.done false)) (.done false)) (.done false)) (.ask ((x0==(2:Int))) (.ask ((x1==(0:Int))) (.ask (((x2==(0:Int))&&((x3==(0:Int))&&((x4.toList==(⟨#[]⟩:BA).toList)&&true)))) (.ask (((x9==(0:Int))&&((x10==(0:Int))&&((x11==false)&&((x12==false)&&true))))) (.ask (((x13.length:Int)==(0:Int))) (.opt (qAE n x5 x6) fun r40=>(.done r40)) (.done false)) (.done false)) (.done false)) (.done false)) (.ask ((x0==(3:Int))) (.ask ((x1==(0:Int))) (.ask (((x2==(0:Int))&&((x3==(0:Int))&&((x4.toList==(⟨#[]⟩:BA).toList)&&true)))) (.ask (((x13.length:Int)==(0:Int))) (.opt (qEY n x5 x6 x9 x10) fun r43=>(.done r43)) (.done false)) (.done false)) (.done false)) (.ask ((x0==(4:Int))) (.ask ((x1==(0:Int))) (.ask (((x2==(0:Int))&&((x3==(0:Int))&&((x4.toList==(⟨#[]⟩:BA).toList)&&true)))) (.ask (((x5==(0:Int))&&((x6==(0:Int))&&((x7==false)&&((x8==false)&&true))))) (.ask (((x9==(0:Int))&&((x10==(0:Int))&&((x11==false)&&((x12==false)&&true))))) (.done ((x13.length:Int)==(1:Int))) (.done false)) (.done false)) (.done false)) (.done false)) (.ask ((x0==(5:Int))) (.opt (qBB n x1 (1:Int) (11:Int)) fun r44=>(.ask (r44) (.ask (((x2==(0:Int))&&((x3==(0:Int))&&((x4.toList==(⟨#[]⟩:BA).toList)&&true)))) (.ask (((x5==(0:Int))&&((x6==(0:Int))&&((x7==false)&&((x8==false)&&true))))) (.ask (((x9==(0:Int))&&((x10==(0:Int))&&((x11==false)&&((x12==false)&&true))))) (.done ((x13.length:Int)==(2:Int))) (.done false)) (.done false)) (.done false)) (.done false))) (.ask ((x0==(6:Int))) (.opt (qEZ n x1 (x13.length:Int)) fun r45=>(.ask (r45) (.ask (((x2==(0:Int))&&((x3==(0:Int))&&((x4.toList==(⟨#[]⟩:BA).toList)&&true)))) (.ask (((x5==(0:Int))&&((x6==(0:Int))&&((x7==false)&&((x8==false)&&true))))) (.done ((x9==(0:Int))&&((x10==(0:Int))&&((x11==false)&&((x12==false)&&true))))) (.done false)) (.done false)) (.done false))) (.done false)))))))
def qBo:Nat→Int→Int→Int→Int→BA→Int→Int→Bool→Bool→Int→Int→Bool→Bool→RW→Option (Bool)
 |0,_,_,_,_,_,_,_,_,_,_,_,_,_,_=>none
 |n+1,x0,x1,x2,x3,x4,x5,x6,x7,x8,x9,x10,x11,x12,x13=>(qEs n x0 x1 x2 x3 x4 x5 x6 x7 x8 x9 x10 x11 x12 x13).run
abbrev qLy (n:Nat):List (Ent (Rn n)):= [en (qDf n),en (qDa n),en (qMn n),en (qDy n),en (qMo n)]
theorem qGs:∀n,Ok (Rn n) qLx (qBo n)
 |0=>ok0 fun _=>rfl
 |n+1=>stO (T:=qEs n) (by kernel_rfl) (qLy n) [] (fun _=>(by kernel_rfl)) fun _=>(by kernel_rfl)
def qLz:Sg:=⟨83,[(.c (.ptr 0 0 0 0 0)),(.agg [qI,qI,qI,qI,qS,qI,qI,qB,qB,qI,qI,qB,qB,qL])],[[(0,⟨0,4,50,(.box [qS,qI,qB,(.own 0 1 1 0)])⟩),(1,⟨1,14,64,(.row [])⟩)]],⟨aI,[[(0,⟨0,4,50,(.box [qS,qI,qB,(.own 0 1 1 0)])⟩),(1,⟨1,14,64,(.row [])⟩)]],[]⟩⟩
def qHf (n:Nat) (x0 x1 x2 x3:Int) (x4:BA) (x5 x6:Int) (x7 x8:Bool) (x9 x10:Int) (x11 x12:Bool) (x13:RW) (x14:BA) (x15:Int) (x16:Bool) (x17:Nat) (x18:RW):Tr (Int×BA×Int×Bool×Nat×RW):=(.ask (decide (1=([[(.i .i64 x0),(.i .i64 x1),(.i .i64 x2),(.i .i64 x3),(.s x4),(.i .i64 x5),(.i .i64 x6),(.b x7),(.b x8),(.i .i64 x9),(.i .i64 x10),(.b x11),(.b x12),(.ls x13)]]:RW).length)) (.ask (decide (x17=x18.length∧0<14∧0<120∧(x17+([[(.i .i64 x0),(.i .i64 x1),(.i .i64 x2),(.i .i64 x3),(.s x4),(.i .i64 x5),(.i .i64 x6),(.b x7),(.b x8),(.i .i64 x9),(.i .i64 x10),(.b x11),(.b x12),(.ls x13)]]:RW).length)*120≤140737488355328∧([[(.i .i64 x0),(.i .i64 x1),(.i .i64 x2),(.i .i64 x3),(.s x4),(.i .i64 x5),(.i .i64 x6),(.b x7),(.b x8),(.i .i64 x9),(.i .i64 x10),(.b x11),(.b x12),(.ls x13)]]:RW).all (fun e=>e.length==14)=true)) (.ask ((decide ((((x17+1):Nat):Int)>(60:Int)))) (.done ((IntKind.i64.wrap ((((x17+1):Nat):Int)-(1:Int))),x14,x15,true,(x17+1),(x18++([[(.i .i64 x0),(.i .i64 x1),(.i .i64 x2),(.i .i64 x3),(.s x4),(.i .i64 x5),(.i .i64 x6),(.b x7),(.b x8),(.i .i64 x9),(.i .i64 x10),(.b x11),(.b x12),(.ls x13)]]:RW)))) (.opt (qBo n x0 x1 x2 x3 x4 x5 x6 x7 x8 x9 x10 x11 x12 x13) fun r46=>(.ask ((!r46)) (.done ((IntKind.i64.wrap ((((x17+1):Nat):Int)-(1:Int))),x14,x15,true,(x17+1),(x18++([[(.i .i64 x0),(.i .i64 x1),(.i .i64 x2),(.i .i64 x3),(.s x4),(.i .i64 x5),(.i .i64 x6),(.b x7),(.b x8),(.i .i64 x9),(.i .i64 x10),(.b x11),(.b x12),(.ls x13)]]:RW)))) (.done ((IntKind.i64.wrap ((((x17+1):Nat):Int)-(1:Int))),x14,x15,x16,(x17+1),(x18++([[(.i .i64 x0),(.i .i64 x1),(.i .i64 x2),(.i .i64 x3),(.s x4),(.i .i64 x5),(.i .i64 x6),(.b x7),(.b x8),(.i .i64 x9),(.i .i64 x10),(.b x11),(.b x12),(.ls x13)]]:RW))))))) .fail) .fail)
def qo:Nat→Int→Int→Int→Int→BA→Int→Int→Bool→Bool→Int→Int→Bool→Bool→RW→BA→Int→Bool→Nat→RW→Option (Int×BA×Int×Bool×Nat×RW)
 |0,_,_,_,_,_,_,_,_,_,_,_,_,_,_,_,_,_,_,_=>none
 |n+1,x0,x1,x2,x3,x4,x5,x6,x7,x8,x9,x10,x11,x12,x13,x14,x15,x16,x17,x18=>(qHf n x0 x1 x2 x3 x4 x5 x6 x7 x8 x9 x10 x11 x12 x13 x14 x15 x16 x17 x18).run
abbrev qL0 (n:Nat):List (Ent (Rn n)):= [en (qGs n)]
theorem qCf:∀n,Ok (Rn n) qLz (qo n)
 |0=>ok0 fun _=>rfl
 |n+1=>stO (T:=qHf n) (by kernel_rfl) (qL0 n) [] (fun _=>(by kernel_rfl)) fun _=>(by kernel_rfl)
def qK3:Sg:=⟨129,[(.c (.ptr 0 0 0 0 0))],[[(0,⟨0,4,50,(.box [qS,qI,qB,(.own 0 1 1 0)])⟩),(1,⟨1,14,64,(.row [])⟩)]],⟨aI,[[(0,⟨0,4,50,(.box [qS,qI,qB,(.own 0 1 1 0)])⟩),(1,⟨1,14,64,(.row [])⟩)]],[]⟩⟩
def qDS (n:Nat) (v:BA×BA×Int×Bool×Nat×RW):Tr ((BA×BA×Int×Bool×Nat×RW)⊕((Int×BA×Int×Bool×Nat×RW)⊕(BA×Int×Bool×Nat×RW))):=(.ask ((decide (v.2.2.1<(v.2.1.size:Int)))) (.ask (decide (0≤v.2.2.1)) (.opt (v.2.1.toList[(v.2.2.1).toNat]?) fun c52=>(.ask (((c52.toNat:Int) !=(34:Int))) (.ask (decide (0≤v.2.2.1∧v.2.2.1≤(IntKind.i64.wrap (v.2.2.1+(1:Int)))∧(IntKind.i64.wrap (v.2.2.1+(1:Int)))≤v.2.1.size)) (.ask (decide (v.1.size+(v.2.1.extract (v.2.2.1).toNat ((IntKind.i64.wrap (v.2.2.1+(1:Int)))).toNat).size≤9223372036854775807)) (.done (.inl ((v.1++(v.2.1.extract (v.2.2.1).toNat ((IntKind.i64.wrap (v.2.2.1+(1:Int)))).toNat)),v.2.1,(IntKind.i64.wrap (v.2.2.1+(1:Int))),v.2.2.2.1,v.2.2.2.2.1,v.2.2.2.2.2))) .fail) .fail) (.ask ((decide ((IntKind.i64.wrap (v.2.2.1+(1:Int)))≥(v.2.1.size:Int)))) (.opt (qo n (1:Int) (0:Int) (2:Int) (0:Int) v.1 (0:Int) (0:Int) false false (0:Int) (0:Int) false false ([]:RW) v.2.1 (IntKind.i64.wrap (v.2.2.1+(1:Int))) v.2.2.2.1 v.2.2.2.2.1 v.2.2.2.2.2) fun r53=>(.done (.inr (.inl ((r53.1,r53.2.1,r53.2.2.1,r53.2.2.2.1,r53.2.2.2.2.1,r53.2.2.2.2.2)))))) (.ask (decide (0≤(IntKind.i64.wrap (v.2.2.1+(1:Int))))) (.opt (v.2.1.toList[((IntKind.i64.wrap (v.2.2.1+(1:Int)))).toNat]?) fun c54=>(.ask (((c54.toNat:Int) !=(34:Int))) (.opt (qo n (1:Int) (0:Int) (2:Int) (0:Int) v.1 (0:Int) (0:Int) false false (0:Int) (0:Int) false false ([]:RW) v.2.1 (IntKind.i64.wrap (v.2.2.1+(1:Int))) v.2.2.2.1 v.2.2.2.2.1 v.2.2.2.2.2) fun r55=>(.done (.inr (.inl ((r55.1,r55.2.1,r55.2.2.1,r55.2.2.2.1,r55.2.2.2.2.1,r55.2.2.2.2.2)))))) (.ask (decide (v.1.size+(⟨#[34]⟩:BA).size≤9223372036854775807)) (.done (.inl ((v.1++(⟨#[34]⟩:BA)),v.2.1,(IntKind.i64.wrap ((IntKind.i64.wrap (v.2.2.1+(1:Int)))+(1:Int))),v.2.2.2.1,v.2.2.2.2.1,v.2.2.2.2.2))) .fail))) .fail)))) .fail) (.done (.inr (.inr ((v.2.1,v.2.2.1,v.2.2.2.1,v.2.2.2.2.1,v.2.2.2.2.2))))))
def qGt (n:Nat) (x0:BA) (x1:Int) (x2:Bool) (x3:Nat) (x4:RW):Tr (Int×BA×Int×Bool×Nat×RW):=(.opt (zC (qDS n) n ((⟨#[]⟩:BA),x0,x1,x2,x3,x4)) fun r56=>(.alt r56 (fun r57=>(.done (r57.1,r57.2.1,r57.2.2.1,r57.2.2.2.1,r57.2.2.2.2.1,r57.2.2.2.2.2))) (fun r58=>(.done ((0:Int),r58.1,r58.2.1,true,r58.2.2.2.1,r58.2.2.2.2)))))
def qEP:Nat→BA→Int→Bool→Nat→RW→Option (Int×BA×Int×Bool×Nat×RW)
 |0,_,_,_,_,_=>none
 |n+1,x0,x1,x2,x3,x4=>(qGt n x0 x1 x2 x3 x4).run
abbrev qGu (n:Nat):List (Ent (Rn n)):= [en (qCf n)]
def qJB (n:Nat):LEnt (KB 129) (Rn n) n:=lok (zU 129) 14 ⟨⟨[(0,(.c (.ptr 0 0 0 0 0))),(3,aS)],[],[[(0,⟨0,4,50,(.box [qS,qI,qB,(.own 0 1 1 0)])⟩),(1,⟨1,14,64,(.row [])⟩)]]⟩,[(.ret,⟨[(2,aI)],[],[[(0,⟨0,4,50,(.box [qS,qI,qB,(.own 0 1 1 0)])⟩),(1,⟨1,14,64,(.row [])⟩)]]⟩),(.exit 0,⟨[(0,(.c (.ptr 0 0 0 0 0)))],[],[[(0,⟨0,4,50,(.box [qS,qI,qB,(.own 0 1 1 0)])⟩),(1,⟨1,14,64,(.row [])⟩)]]⟩)]⟩ (qDS n) (qGu n) [] fun _=>(by kernel_rfl)
theorem qKQ:∀n,Ok (Rn n) qK3 (qEP n)
 |0=>ok0 fun _=>rfl
 |n+1=>stO (T:=qGt n) (by kernel_rfl) (qGu n) [qJB n] (fun _=>(by kernel_rfl)) fun _=>(by kernel_rfl)
def qNn:Sg:=⟨116,[aI],[],⟨aS,[],[]⟩⟩
def qGV (n:Nat) (x0:Int):Tr (BA):=(.ask (decide (6=([[(.s (⟨#[]⟩:BA))],[(.s (⟨#[35,68,73,86,33]⟩:BA))],[(.s (⟨#[35,84,89,80,69,33]⟩:BA))],[(.s (⟨#[35,82,69,70,33]⟩:BA))],[(.s (⟨#[35,79,86,69,82,33]⟩:BA))],[(.s (⟨#[35,67,89,67,76,69,33]⟩:BA))]]:RW).length∧0≤x0∧x0<((6:Nat):Int))) (.opt (([[(.s (⟨#[]⟩:BA))],[(.s (⟨#[35,68,73,86,33]⟩:BA))],[(.s (⟨#[35,84,89,80,69,33]⟩:BA))],[(.s (⟨#[35,82,69,70,33]⟩:BA))],[(.s (⟨#[35,79,86,69,82,33]⟩:BA))],[(.s (⟨#[35,67,89,67,76,69,33]⟩:BA))]]:RW)[(x0).toNat]?) fun e61=>(.opt (zc e61 0) fun y62=>(.done y62))) .fail)
def qBG:Nat→Int→Option (BA)
 |0,_=>none
 |n+1,x0=>(qGV n x0).run
theorem qFO:∀n,Ok (Rn n) qNn (qBG n)
 |0=>ok0 fun _=>rfl
 |n+1=>stO (T:=qGV n) (by kernel_rfl) [] [] (fun _=>(by kernel_rfl)) fun _=>(by kernel_rfl)
def qMp:Sg:=⟨130,[aI],[],⟨(.agg [qI,qI,qS]),[],[]⟩⟩
def qFP (n:Nat) (x0:Int):Tr (Int×Int×BA):=(.done ((4:Int),x0,(⟨#[]⟩:BA)))
def qCg:Nat→Int→Option (Int×Int×BA)
 |0,_=>none
 |n+1,x0=>(qFP n x0).run
theorem qL1:∀n,Ok (Rn n) qMp (qCg n)
 |0=>ok0 fun _=>rfl
 |n+1=>stO (T:=qFP n) (by kernel_rfl) [] [] (fun _=>(by kernel_rfl)) fun _=>(by kernel_rfl)
def qK4:Sg:=⟨131,[(.c (.ptr 0 0 0 0 0))],[[(0,⟨0,4,50,(.box [qS,qI,qB,(.own 0 1 1 0)])⟩),(1,⟨1,14,64,(.row [])⟩)]],⟨aS,[[(0,⟨0,4,50,(.box [qS,qI,qB,(.own 0 1 1 0)])⟩),(1,⟨1,14,64,(.row [])⟩)]],[]⟩⟩
def qBp (n:Nat) (v:Int×BA×Int×Bool×Nat×RW):Tr ((Int×BA×Int×Bool×Nat×RW)⊕((Int×BA×Int×Bool×Nat×RW))):=(.ask ((decide (v.2.2.1<(v.2.1.size:Int)))) (.ask (decide (0≤v.2.2.1)) (.opt (v.2.1.toList[(v.2.2.1).toNat]?) fun c67=>(.ask ((decide ((c67.toNat:Int)≥(65:Int)))) (.ask (decide (0≤v.2.2.1)) (.opt (v.2.1.toList[(v.2.2.1).toNat]?) fun c68=>(.ask ((decide ((c68.toNat:Int)≤(90:Int)))) (.done (.inl (v.1,v.2.1,(IntKind.i64.wrap (v.2.2.1+(1:Int))),v.2.2.2.1,v.2.2.2.2.1,v.2.2.2.2.2))) (.ask (decide (0≤v.2.2.1)) (.opt (v.2.1.toList[(v.2.2.1).toNat]?) fun c69=>(.ask ((decide ((c69.toNat:Int)≥(48:Int)))) (.ask (decide (0≤v.2.2.1)) (.opt (v.2.1.toList[(v.2.2.1).toNat]?) fun c70=>(.ask ((decide ((c70.toNat:Int)≤(57:Int)))) (.done (.inl (v.1,v.2.1,(IntKind.i64.wrap (v.2.2.1+(1:Int))),v.2.2.2.1,v.2.2.2.2.1,v.2.2.2.2.2))) (.ask (decide (0≤v.2.2.1)) (.opt (v.2.1.toList[(v.2.2.1).toNat]?) fun c71=>(.ask (((c71.toNat:Int)==(36:Int))) (.done (.inl (v.1,v.2.1,(IntKind.i64.wrap (v.2.2.1+(1:Int))),v.2.2.2.1,v.2.2.2.2.1,v.2.2.2.2.2))) (.done (.inr ((v.1,v.2.1,v.2.2.1,v.2.2.2.1,v.2.2.2.2.1,v.2.2.2.2.2)))))) .fail))) .fail) (.ask (decide (0≤v.2.2.1)) (.opt (v.2.1.toList[(v.2.2.1).toNat]?) fun c72=>(.ask (((c72.toNat:Int)==(36:Int))) (.done (.inl (v.1,v.2.1,(IntKind.i64.wrap (v.2.2.1+(1:Int))),v.2.2.2.1,v.2.2.2.2.1,v.2.2.2.2.2))) (.done (.inr ((v.1,v.2.1,v.2.2.1,v.2.2.2.1,v.2.2.2.2.1,v.2.2.2.2.2)))))) .fail))) .fail))) .fail) (.ask (decide (0≤v.2.2.1)) (.opt (v.2.1.toList[(v.2.2.1).toNat]?) fun c73=>(.ask ((decide ((c73.toNat:Int)≥(48:Int)))) (.ask (decide (0≤v.2.2.1)) (.opt (v.2.1.toList[(v.2.2.1).toNat]?) fun c74=>(.ask ((decide ((c74.toNat:Int)≤(57:Int)))) (.done (.inl (v.1,v.2.1,(IntKind.i64.wrap (v.2.2.1+(1:Int))),v.2.2.2.1,v.2.2.2.2.1,v.2.2.2.2.2))) (.ask (decide (0≤v.2.2.1)) (.opt (v.2.1.toList[(v.2.2.1).toNat]?) fun c75=>(.ask (((c75.toNat:Int)==(36:Int))) (.done (.inl (v.1,v.2.1,(IntKind.i64.wrap (v.2.2.1+(1:Int))),v.2.2.2.1,v.2.2.2.2.1,v.2.2.2.2.2))) (.done (.inr ((v.1,v.2.1,v.2.2.1,v.2.2.2.1,v.2.2.2.2.1,v.2.2.2.2.2)))))) .fail))) .fail) (.ask (decide (0≤v.2.2.1)) (.opt (v.2.1.toList[(v.2.2.1).toNat]?) fun c76=>(.ask (((c76.toNat:Int)==(36:Int))) (.done (.inl (v.1,v.2.1,(IntKind.i64.wrap (v.2.2.1+(1:Int))),v.2.2.2.1,v.2.2.2.2.1,v.2.2.2.2.2))) (.done (.inr ((v.1,v.2.1,v.2.2.1,v.2.2.2.1,v.2.2.2.2.1,v.2.2.2.2.2)))))) .fail))) .fail))) .fail) (.done (.inr ((v.1,v.2.1,v.2.2.1,v.2.2.2.1,v.2.2.2.2.1,v.2.2.2.2.2)))))
def qGv (n:Nat) (x0:BA) (x1:Int) (x2:Bool) (x3:Nat) (x4:RW):Tr (BA×BA×Int×Bool×Nat×RW):=(.opt (zC (qBp n) n (x1,x0,x1,x2,x3,x4)) fun r77=>(.ask (decide (0≤r77.1∧r77.1≤r77.2.2.1∧r77.2.2.1≤r77.2.1.size)) (.done ((r77.2.1.extract (r77.1).toNat (r77.2.2.1).toNat),r77.2.1,r77.2.2.1,r77.2.2.2.1,r77.2.2.2.2.1,r77.2.2.2.2.2)) .fail))
def qCh:Nat→BA→Int→Bool→Nat→RW→Option (BA×BA×Int×Bool×Nat×RW)
 |0,_,_,_,_,_=>none
 |n+1,x0,x1,x2,x3,x4=>(qGv n x0 x1 x2 x3 x4).run
def qJC (n:Nat):LEnt (KB 131) (Rn n) n:=lok (zU 131) 14 ⟨⟨[(0,(.c (.ptr 0 0 0 0 0))),(3,aI)],[],[[(0,⟨0,4,50,(.box [qS,qI,qB,(.own 0 1 1 0)])⟩),(1,⟨1,14,64,(.row [])⟩)]]⟩,[(.exit 0,⟨[(0,(.c (.ptr 0 0 0 0 0))),(3,aI)],[],[[(0,⟨0,4,50,(.box [qS,qI,qB,(.own 0 1 1 0)])⟩),(1,⟨1,14,64,(.row [])⟩)]]⟩)]⟩ (qBp n) [] [] fun _=>(by kernel_rfl)
theorem qF8:∀n,Ok (Rn n) qK4 (qCh n)
 |0=>ok0 fun _=>rfl
 |n+1=>stO (T:=qGv n) (by kernel_rfl) [] [qJC n] (fun _=>(by kernel_rfl)) fun _=>(by kernel_rfl)
def qO2:Sg:=⟨110,[aI],[],⟨aS,[],[]⟩⟩
def qIH (n:Nat) (x0:Int):Tr (BA):=(.ask (decide (11=([[(.s (⟨#[]⟩:BA))],[(.s (⟨#[83,85,77]⟩:BA))],[(.s (⟨#[77,73,78]⟩:BA))],[(.s (⟨#[77,65,88]⟩:BA))],[(.s (⟨#[67,79,85,78,84]⟩:BA))],[(.s (⟨#[73,70]⟩:BA))],[(.s (⟨#[65,78,68]⟩:BA))],[(.s (⟨#[79,82]⟩:BA))],[(.s (⟨#[78,79,84]⟩:BA))],[(.s (⟨#[65,66,83]⟩:BA))],[(.s (⟨#[76,69,78]⟩:BA))]]:RW).length∧0≤x0∧x0<((11:Nat):Int))) (.opt (([[(.s (⟨#[]⟩:BA))],[(.s (⟨#[83,85,77]⟩:BA))],[(.s (⟨#[77,73,78]⟩:BA))],[(.s (⟨#[77,65,88]⟩:BA))],[(.s (⟨#[67,79,85,78,84]⟩:BA))],[(.s (⟨#[73,70]⟩:BA))],[(.s (⟨#[65,78,68]⟩:BA))],[(.s (⟨#[79,82]⟩:BA))],[(.s (⟨#[78,79,84]⟩:BA))],[(.s (⟨#[65,66,83]⟩:BA))],[(.s (⟨#[76,69,78]⟩:BA))]]:RW)[(x0).toNat]?) fun e79=>(.opt (zc e79 0) fun y80=>(.done y80))) .fail)
def qCG:Nat→Int→Option (BA)
 |0,_=>none
 |n+1,x0=>(qIH n x0).run
theorem qKR:∀n,Ok (Rn n) qO2 (qCG n)
 |0=>ok0 fun _=>rfl
 |n+1=>stO (T:=qIH n) (by kernel_rfl) [] [] (fun _=>(by kernel_rfl)) fun _=>(by kernel_rfl)
def qMq:Sg:=⟨139,[aI],[],⟨aS,[],[]⟩⟩
def qBJ (n:Nat) (v:Int×BA):Tr ((Int×BA)⊕((BA))):=(.ask ((decide (v.1>(0:Int)))) (.ask (decide (1=([[(.i .u8 (IntKind.u8.wrap (IntKind.i64.wrap ((65:Int)+(Int.tmod (IntKind.i64.wrap (v.1-(1:Int))) (26:Int))))))]]:RW).length)) (.opt (bytesOf ([[(.i .u8 (IntKind.u8.wrap (IntKind.i64.wrap ((65:Int)+(Int.tmod (IntKind.i64.wrap (v.1-(1:Int))) (26:Int))))))]]:RW)) fun l90=>(.ask (decide ((⟨l90.toArray⟩:BA).size+v.2.size≤9223372036854775807)) (.done (.inl ((IntKind.i64.wrap (Int.tdiv (IntKind.i64.wrap (v.1-(1:Int))) (26:Int))),((⟨l90.toArray⟩:BA)++v.2)))) .fail)) .fail) (.done (.inr (v.2))))
def qDz (n:Nat) (x0:Int):Tr (BA):=(.opt (qBB n x0 (1:Int) (52:Int)) fun r89=>(.ask ((!r89)) (.done (⟨#[]⟩:BA)) (.opt (zC (qBJ n) n (x0,(⟨#[]⟩:BA))) fun r91=>(.done r91))))
def qCi:Nat→Int→Option (BA)
 |0,_=>none
 |n+1,x0=>(qDz n x0).run
abbrev qII (n:Nat):List (Ent (Rn n)):= [en (qDy n)]
def qKS (n:Nat):LEnt (KB 139) (Rn n) n:=lok (zU 139) 30 ⟨⟨[(0,aI),(3,aS)],[],[]⟩,[(.exit 0,⟨[(3,aS)],[],[]⟩)]⟩ (qBJ n) (qII n) [] fun _=>(by kernel_rfl)
theorem qHg:∀n,Ok (Rn n) qMq (qCi n)
 |0=>ok0 fun _=>rfl
 |n+1=>stO (T:=qDz n) (by kernel_rfl) (qII n) [qKS n] (fun _=>(by kernel_rfl)) fun _=>(by kernel_rfl)
def qMr:Sg:=⟨160,[aS],[],⟨aI,[],[]⟩⟩
def qCH (n:Nat) (v:BA×Int):Tr ((BA×Int)⊕((Int)⊕(Unit))):=(.ask ((decide (v.2≤(52:Int)))) (.opt (qCi n v.2) fun r89=>(.ask ((r89.toList==v.1.toList)) (.done (.inr (.inl (v.2)))) (.done (.inl (v.1,(IntKind.i64.wrap (v.2+(1:Int)))))))) (.done (.inr (.inr (())))))
def qFQ (n:Nat) (x0:BA):Tr (Int):=(.opt (zC (qCH n) n (x0,(1:Int))) fun r90=>(.alt r90 (fun r91=>(.done r91)) (fun r92=>(.done (0:Int)))))
def qB1:Nat→BA→Option (Int)
 |0,_=>none
 |n+1,x0=>(qFQ n x0).run
abbrev qIJ (n:Nat):List (Ent (Rn n)):= [en (qHg n)]
def qKT (n:Nat):LEnt (KB 160) (Rn n) n:=lok (zU 160) 13 ⟨⟨[(0,aS),(3,aI)],[],[]⟩,[(.ret,⟨[(2,aI)],[],[]⟩),(.exit 0,⟨[],[],[]⟩)]⟩ (qCH n) (qIJ n) [] fun _=>(by kernel_rfl)
theorem qL2:∀n,Ok (Rn n) qMr (qB1 n)
 |0=>ok0 fun _=>rfl
 |n+1=>stO (T:=qFQ n) (by kernel_rfl) (qIJ n) [qKT n] (fun _=>(by kernel_rfl)) fun _=>(by kernel_rfl)
def qOY:Sg:=⟨114,[aS,aI],[],⟨(.tup [(false,[qI]),(false,[qB])]),[],[]⟩⟩
def qBR (n:Nat) (v:BA×Int×Int):Tr ((BA×Int×Int)⊕((Int×Bool)⊕(Int))):=(.ask ((decide (v.2.2<(v.1.size:Int)))) (.ask (decide (0≤v.2.2)) (.opt (v.1.toList[(v.2.2).toNat]?) fun c96=>(.ask ((decide ((c96.toNat:Int)<(48:Int)))) (.done (.inr (.inl (((0:Int),false))))) (.ask (decide (0≤v.2.2)) (.opt (v.1.toList[(v.2.2).toNat]?) fun c97=>(.ask ((decide ((c97.toNat:Int)>(57:Int)))) (.done (.inr (.inl (((0:Int),false))))) (.ask (decide (0≤v.2.2)) (.opt (v.1.toList[(v.2.2).toNat]?) fun c98=>(.done (.inl (v.1,(IntKind.i64.wrap ((IntKind.i64.wrap (v.2.1*(10:Int)))+(IntKind.i64.wrap (IntKind.u8.wrap ((c98.toNat:Int)-(48:Int)))))),(IntKind.i64.wrap (v.2.2+(1:Int))))))) .fail))) .fail))) .fail) (.done (.inr (.inr (v.2.1)))))
def qD0 (n:Nat) (x0:BA) (x1:Int):Tr (Int×Bool):=(.ask ((decide ((x0.size:Int)<(1:Int)))) (.done ((0:Int),false)) (.ask ((decide ((x0.size:Int)>x1))) (.done ((0:Int),false)) (.ask (decide (0≤(0:Int))) (.opt (x0.toList[((0:Int)).toNat]?) fun c95=>(.ask (((c95.toNat:Int)==(48:Int))) (.ask ((decide ((x0.size:Int)>(1:Int)))) (.done ((0:Int),false)) (.opt (zC (qBR n) n (x0,(0:Int),(0:Int))) fun r99=>(.alt r99 (fun r100=>(.done (r100.1,r100.2))) (fun r101=>(.done (r101,true)))))) (.opt (zC (qBR n) n (x0,(0:Int),(0:Int))) fun r102=>(.alt r102 (fun r103=>(.done (r103.1,r103.2))) (fun r104=>(.done (r104,true))))))) .fail)))
def qq:Nat→BA→Int→Option (Int×Bool)
 |0,_,_=>none
 |n+1,x0,x1=>(qD0 n x0 x1).run
def qL3 (n:Nat):LEnt (KB 114) (Rn n) n:=lok (zU 114) 61 ⟨⟨[(0,aS),(6,aI),(7,aI)],[],[]⟩,[(.ret,⟨[(4,aI),(5,aB)],[],[]⟩),(.exit 0,⟨[(6,aI)],[],[]⟩)]⟩ (qBR n) [] [] fun _=>(by kernel_rfl)
theorem qGW:∀n,Ok (Rn n) qOY (qq n)
 |0=>ok0 fun _=>rfl
 |n+1=>stO (T:=qD0 n) (by kernel_rfl) [] [qL3 n] (fun _=>(by kernel_rfl)) fun _=>(by kernel_rfl)
def qK5:Sg:=⟨133,[aS],[],⟨(.tup [(true,[qI,qI,qB,qB]),(false,[qB])]),[],[]⟩⟩
def qAG (n:Nat) (v:BA×Int×Int×Int×Bool×Bool×Int×Int×Bool×Bool):Tr ((BA×Int×Int×Int×Bool×Bool×Int×Int×Bool×Bool)⊕((BA×Int×Int×Int×Bool×Bool×Int×Int×Bool×Bool))):=(.ask ((decide (v.2.1<(v.1.size:Int)))) (.ask (decide (0≤v.2.1)) (.opt (v.1.toList[(v.2.1).toNat]?) fun c86=>(.ask ((decide ((c86.toNat:Int)≥(65:Int)))) (.ask (decide (0≤v.2.1)) (.opt (v.1.toList[(v.2.1).toNat]?) fun c87=>(.ask ((decide ((c87.toNat:Int)≤(90:Int)))) (.done (.inl (v.1,(IntKind.i64.wrap (v.2.1+(1:Int))),v.2.2.1,v.2.2.2.1,v.2.2.2.2.1,v.2.2.2.2.2.1,v.2.2.2.2.2.2.1,v.2.2.2.2.2.2.2.1,v.2.2.2.2.2.2.2.2.1,v.2.2.2.2.2.2.2.2.2))) (.done (.inr ((v.1,v.2.1,v.2.2.1,v.2.2.2.1,v.2.2.2.2.1,v.2.2.2.2.2.1,v.2.2.2.2.2.2.1,v.2.2.2.2.2.2.2.1,v.2.2.2.2.2.2.2.2.1,v.2.2.2.2.2.2.2.2.2)))))) .fail) (.done (.inr ((v.1,v.2.1,v.2.2.1,v.2.2.2.1,v.2.2.2.2.1,v.2.2.2.2.2.1,v.2.2.2.2.2.2.1,v.2.2.2.2.2.2.2.1,v.2.2.2.2.2.2.2.2.1,v.2.2.2.2.2.2.2.2.2)))))) .fail) (.done (.inr ((v.1,v.2.1,v.2.2.1,v.2.2.2.1,v.2.2.2.2.1,v.2.2.2.2.2.1,v.2.2.2.2.2.2.1,v.2.2.2.2.2.2.2.1,v.2.2.2.2.2.2.2.2.1,v.2.2.2.2.2.2.2.2.2)))))
def qB0 (n:Nat) (x0:BA):Tr (Int×Int×Bool×Bool×Bool):=(.ask ((decide ((x0.size:Int)>(0:Int)))) (.ask (decide (0≤(0:Int))) (.opt (x0.toList[((0:Int)).toNat]?) fun c85=>(.ask (((c85.toNat:Int)==(36:Int))) (.ask (decide (0≤(1:Int)∧(1:Int)≤(x0.size:Int)∧(x0.size:Int)≤x0.size)) (.opt (zC (qAG n) n ((x0.extract ((1:Int)).toNat ((x0.size:Int)).toNat),(0:Int),(0:Int),(0:Int),false,false,(0:Int),(0:Int),true,false)) fun r88=>(.ask (decide (0≤(0:Int)∧(0:Int)≤r88.2.1∧r88.2.1≤r88.1.size)) (.opt (qB1 n (r88.1.extract ((0:Int)).toNat (r88.2.1).toNat)) fun r93=>(.ask (decide (0≤r88.2.1∧r88.2.1≤(r88.1.size:Int)∧(r88.1.size:Int)≤r88.1.size)) (.ask ((decide (((r88.1.extract (r88.2.1).toNat ((r88.1.size:Int)).toNat).size:Int)>(0:Int)))) (.ask (decide (0≤(0:Int))) (.opt ((r88.1.extract (r88.2.1).toNat ((r88.1.size:Int)).toNat).toList[((0:Int)).toNat]?) fun c94=>(.ask (((c94.toNat:Int)==(36:Int))) (.ask (decide (0≤(1:Int)∧(1:Int)≤((r88.1.extract (r88.2.1).toNat ((r88.1.size:Int)).toNat).size:Int)∧((r88.1.extract (r88.2.1).toNat ((r88.1.size:Int)).toNat).size:Int)≤(r88.1.extract (r88.2.1).toNat ((r88.1.size:Int)).toNat).size)) (.opt (qq n ((r88.1.extract (r88.2.1).toNat ((r88.1.size:Int)).toNat).extract ((1:Int)).toNat (((r88.1.extract (r88.2.1).toNat ((r88.1.size:Int)).toNat).size:Int)).toNat) (2:Int)) fun r105=>(.ask ((!r105.2)) (.done ((0:Int),(0:Int),false,false,false)) (.opt (qAE n r93 r105.1) fun r106=>(.ask ((!r106)) (.done ((0:Int),(0:Int),false,false,false)) (.done (r93,r105.1,r88.2.2.2.2.2.2.2.2.1,true,true)))))) .fail) (.opt (qq n (r88.1.extract (r88.2.1).toNat ((r88.1.size:Int)).toNat) (2:Int)) fun r107=>(.ask ((!r107.2)) (.done ((0:Int),(0:Int),false,false,false)) (.opt (qAE n r93 r107.1) fun r108=>(.ask ((!r108)) (.done ((0:Int),(0:Int),false,false,false)) (.done (r93,r107.1,r88.2.2.2.2.2.2.2.2.1,r88.2.2.2.2.2.2.2.2.2,true)))))))) .fail) (.opt (qq n (r88.1.extract (r88.2.1).toNat ((r88.1.size:Int)).toNat) (2:Int)) fun r109=>(.ask ((!r109.2)) (.done ((0:Int),(0:Int),false,false,false)) (.opt (qAE n r93 r109.1) fun r110=>(.ask ((!r110)) (.done ((0:Int),(0:Int),false,false,false)) (.done (r93,r109.1,r88.2.2.2.2.2.2.2.2.1,r88.2.2.2.2.2.2.2.2.2,true))))))) .fail)) .fail)) .fail) (.opt (zC (qAG n) n (x0,(0:Int),(0:Int),(0:Int),false,false,(0:Int),(0:Int),false,false)) fun r111=>(.ask (decide (0≤(0:Int)∧(0:Int)≤r111.2.1∧r111.2.1≤r111.1.size)) (.opt (qB1 n (r111.1.extract ((0:Int)).toNat (r111.2.1).toNat)) fun r112=>(.ask (decide (0≤r111.2.1∧r111.2.1≤(r111.1.size:Int)∧(r111.1.size:Int)≤r111.1.size)) (.ask ((decide (((r111.1.extract (r111.2.1).toNat ((r111.1.size:Int)).toNat).size:Int)>(0:Int)))) (.ask (decide (0≤(0:Int))) (.opt ((r111.1.extract (r111.2.1).toNat ((r111.1.size:Int)).toNat).toList[((0:Int)).toNat]?) fun c113=>(.ask (((c113.toNat:Int)==(36:Int))) (.ask (decide (0≤(1:Int)∧(1:Int)≤((r111.1.extract (r111.2.1).toNat ((r111.1.size:Int)).toNat).size:Int)∧((r111.1.extract (r111.2.1).toNat ((r111.1.size:Int)).toNat).size:Int)≤(r111.1.extract (r111.2.1).toNat ((r111.1.size:Int)).toNat).size)) (.opt (qq n ((r111.1.extract (r111.2.1).toNat ((r111.1.size:Int)).toNat).extract ((1:Int)).toNat (((r111.1.extract (r111.2.1).toNat ((r111.1.size:Int)).toNat).size:Int)).toNat) (2:Int)) fun r114=>(.ask ((!r114.2)) (.done ((0:Int),(0:Int),false,false,false)) (.opt (qAE n r112 r114.1) fun r115=>(.ask ((!r115)) (.done ((0:Int),(0:Int),false,false,false)) (.done (r112,r114.1,r111.2.2.2.2.2.2.2.2.1,true,true)))))) .fail) (.opt (qq n (r111.1.extract (r111.2.1).toNat ((r111.1.size:Int)).toNat) (2:Int)) fun r116=>(.ask ((!r116.2)) (.done ((0:Int),(0:Int),false,false,false)) (.opt (qAE n r112 r116.1) fun r117=>(.ask ((!r117)) (.done ((0:Int),(0:Int),false,false,false)) (.done (r112,r116.1,r111.2.2.2.2.2.2.2.2.1,r111.2.2.2.2.2.2.2.2.2,true)))))))) .fail) (.opt (qq n (r111.1.extract (r111.2.1).toNat ((r111.1.size:Int)).toNat) (2:Int)) fun r118=>(.ask ((!r118.2)) (.done ((0:Int),(0:Int),false,false,false)) (.opt (qAE n r112 r118.1) fun r119=>(.ask ((!r119)) (.done ((0:Int),(0:Int),false,false,false)) (.done (r112,r118.1,r111.2.2.2.2.2.2.2.2.1,r111.2.2.2.2.2.2.2.2.2,true))))))) .fail)) .fail)))) .fail) (.opt (zC (qAG n) n (x0,(0:Int),(0:Int),(0:Int),false,false,(0:Int),(0:Int),false,false)) fun r120=>(.ask (decide (0≤(0:Int)∧(0:Int)≤r120.2.1∧r120.2.1≤r120.1.size)) (.opt (qB1 n (r120.1.extract ((0:Int)).toNat (r120.2.1).toNat)) fun r121=>(.ask (decide (0≤r120.2.1∧r120.2.1≤(r120.1.size:Int)∧(r120.1.size:Int)≤r120.1.size)) (.ask ((decide (((r120.1.extract (r120.2.1).toNat ((r120.1.size:Int)).toNat).size:Int)>(0:Int)))) (.ask (decide (0≤(0:Int))) (.opt ((r120.1.extract (r120.2.1).toNat ((r120.1.size:Int)).toNat).toList[((0:Int)).toNat]?) fun c122=>(.ask (((c122.toNat:Int)==(36:Int))) (.ask (decide (0≤(1:Int)∧(1:Int)≤((r120.1.extract (r120.2.1).toNat ((r120.1.size:Int)).toNat).size:Int)∧((r120.1.extract (r120.2.1).toNat ((r120.1.size:Int)).toNat).size:Int)≤(r120.1.extract (r120.2.1).toNat ((r120.1.size:Int)).toNat).size)) (.opt (qq n ((r120.1.extract (r120.2.1).toNat ((r120.1.size:Int)).toNat).extract ((1:Int)).toNat (((r120.1.extract (r120.2.1).toNat ((r120.1.size:Int)).toNat).size:Int)).toNat) (2:Int)) fun r123=>(.ask ((!r123.2)) (.done ((0:Int),(0:Int),false,false,false)) (.opt (qAE n r121 r123.1) fun r124=>(.ask ((!r124)) (.done ((0:Int),(0:Int),false,false,false)) (.done (r121,r123.1,r120.2.2.2.2.2.2.2.2.1,true,true)))))) .fail) (.opt (qq n (r120.1.extract (r120.2.1).toNat ((r120.1.size:Int)).toNat) (2:Int)) fun r125=>(.ask ((!r125.2)) (.done ((0:Int),(0:Int),false,false,false)) (.opt (qAE n r121 r125.1) fun r126=>(.ask ((!r126)) (.done ((0:Int),(0:Int),false,false,false)) (.done (r121,r125.1,r120.2.2.2.2.2.2.2.2.1,r120.2.2.2.2.2.2.2.2.2,true)))))))) .fail) (.opt (qq n (r120.1.extract (r120.2.1).toNat ((r120.1.size:Int)).toNat) (2:Int)) fun r127=>(.ask ((!r127.2)) (.done ((0:Int),(0:Int),false,false,false)) (.opt (qAE n r121 r127.1) fun r128=>(.ask ((!r128)) (.done ((0:Int),(0:Int),false,false,false)) (.done (r121,r127.1,r120.2.2.2.2.2.2.2.2.1,r120.2.2.2.2.2.2.2.2.2,true))))))) .fail)) .fail)))
def qAj:Nat→BA→Option (Int×Int×Bool×Bool×Bool)
 |0,_=>none
 |n+1,x0=>(qB0 n x0).run
abbrev qGw (n:Nat):List (Ent (Rn n)):= [en (qL2 n),en (qGW n),en (qDa n)]
def qJD (n:Nat):LEnt (KB 133) (Rn n) n:=lok (zU 133) 62 ⟨⟨[(0,aS),(2,(.c (.ptr 0 128 0 0 0))),(4,(.c (.ptr 0 256 0 0 0))),(5,aI)],[(128,⟨0,4,61,(.box [qI,qI,qB,qB])⟩),(256,⟨0,4,61,(.box [qI,qI,qB,qB])⟩)],[]⟩,[(.exit 0,⟨[(0,aS),(2,(.c (.ptr 0 128 0 0 0))),(4,(.c (.ptr 0 256 0 0 0))),(5,aI)],[(128,⟨0,4,61,(.box [qI,qI,qB,qB])⟩),(256,⟨0,4,61,(.box [qI,qI,qB,qB])⟩)],[]⟩)]⟩ (qAG n) (qGw n) [] fun _=>(by kernel_rfl)
theorem qF9:∀n,Ok (Rn n) qK5 (qAj n)
 |0=>ok0 fun _=>rfl
 |n+1=>stO (T:=qB0 n) (by kernel_rfl) (qGw n) [qJD n] (fun _=>(by kernel_rfl)) fun _=>(by kernel_rfl)
def qK6:Sg:=⟨58,[aS],[],⟨(.tup [(true,[qI,qI,qS]),(false,[qB])]),[],[]⟩⟩
def qBK (n:Nat) (v:BA×Int×Int×Int×BA×Int×Int×BA):Tr ((BA×Int×Int×Int×BA×Int×Int×BA)⊕((Int×Int×BA×Int×Int×BA))):=(.ask ((decide (v.2.1≤(5:Int)))) (.opt (qBG n v.2.1) fun r92=>(.ask ((r92.toList==v.1.toList)) (.done (.inl (v.1,(IntKind.i64.wrap (v.2.1+(1:Int))),v.2.2.1,v.2.2.2.1,v.2.2.2.2.1,v.2.2.2.2.2.1,v.2.1,v.2.2.2.2.2.2.2))) (.done (.inl (v.1,(IntKind.i64.wrap (v.2.1+(1:Int))),v.2.2.1,v.2.2.2.1,v.2.2.2.2.1,v.2.2.2.2.2.1,v.2.2.2.2.2.2.1,v.2.2.2.2.2.2.2))))) (.done (.inr ((v.2.2.1,v.2.2.2.1,v.2.2.2.2.1,v.2.2.2.2.2.1,v.2.2.2.2.2.2.1,v.2.2.2.2.2.2.2)))))
def qAv (n:Nat) (x0:BA):Tr (Int×Int×BA×Bool):=(.ask ((x0.toList==(⟨#[]⟩:BA).toList)) (.done ((0:Int),(0:Int),(⟨#[]⟩:BA),true)) (.ask (decide (0≤(0:Int))) (.opt (x0.toList[((0:Int)).toNat]?) fun c85=>(.ask (((c85.toNat:Int)==(39:Int))) (.ask (decide (0≤(1:Int)∧(1:Int)≤(x0.size:Int)∧(x0.size:Int)≤x0.size)) (.opt (qX n (2:Int) (0:Int) (x0.extract ((1:Int)).toNat ((x0.size:Int)).toNat)) fun r86=>(.ask ((!r86)) (.done ((0:Int),(0:Int),(⟨#[]⟩:BA),false)) (.done ((2:Int),(0:Int),(x0.extract ((1:Int)).toNat ((x0.size:Int)).toNat),true)))) .fail) (.ask ((x0.toList==(⟨#[84,82,85,69]⟩:BA).toList)) (.ask ((x0.toList==(⟨#[84,82,85,69]⟩:BA).toList)) (.opt (qX n (3:Int) (1:Int) (⟨#[]⟩:BA)) fun r87=>(.ask ((!r87)) (.done ((0:Int),(0:Int),(⟨#[]⟩:BA),false)) (.done ((3:Int),(1:Int),(⟨#[]⟩:BA),true)))) (.opt (qX n (3:Int) (0:Int) (⟨#[]⟩:BA)) fun r88=>(.ask ((!r88)) (.done ((0:Int),(0:Int),(⟨#[]⟩:BA),false)) (.done ((3:Int),(0:Int),(⟨#[]⟩:BA),true))))) (.ask ((x0.toList==(⟨#[70,65,76,83,69]⟩:BA).toList)) (.ask ((x0.toList==(⟨#[84,82,85,69]⟩:BA).toList)) (.opt (qX n (3:Int) (1:Int) (⟨#[]⟩:BA)) fun r89=>(.ask ((!r89)) (.done ((0:Int),(0:Int),(⟨#[]⟩:BA),false)) (.done ((3:Int),(1:Int),(⟨#[]⟩:BA),true)))) (.opt (qX n (3:Int) (0:Int) (⟨#[]⟩:BA)) fun r90=>(.ask ((!r90)) (.done ((0:Int),(0:Int),(⟨#[]⟩:BA),false)) (.done ((3:Int),(0:Int),(⟨#[]⟩:BA),true))))) (.ask (decide (0≤(0:Int))) (.opt (x0.toList[((0:Int)).toNat]?) fun c91=>(.ask (((c91.toNat:Int)==(35:Int))) (.opt (zC (qBK n) n (x0,(1:Int),(0:Int),(0:Int),(⟨#[]⟩:BA),(4:Int),(0:Int),(⟨#[]⟩:BA))) fun r93=>(.opt (qX n r93.2.2.2.1 r93.2.2.2.2.1 r93.2.2.2.2.2) fun r94=>(.ask ((!r94)) (.done ((0:Int),(0:Int),(⟨#[]⟩:BA),false)) (.done (r93.2.2.2.1,r93.2.2.2.2.1,r93.2.2.2.2.2,true))))) (.ask (decide (0≤(0:Int))) (.opt (x0.toList[((0:Int)).toNat]?) fun c95=>(.ask (((c95.toNat:Int)==(45:Int))) (.ask (decide (0≤(1:Int)∧(1:Int)≤(x0.size:Int)∧(x0.size:Int)≤x0.size)) (.opt (qq n (x0.extract ((1:Int)).toNat ((x0.size:Int)).toNat) (16:Int)) fun r96=>(.ask ((!r96.2)) (.done ((0:Int),(0:Int),(⟨#[]⟩:BA),false)) (.ask (((c95.toNat:Int)==(45:Int))) (.ask ((r96.1==(0:Int))) (.done ((0:Int),(0:Int),(⟨#[]⟩:BA),false)) (.ask (((c95.toNat:Int)==(45:Int))) (.opt (qX n (1:Int) (IntKind.i64.wrap (0-r96.1)) (⟨#[]⟩:BA)) fun r97=>(.ask ((!r97)) (.done ((0:Int),(0:Int),(⟨#[]⟩:BA),false)) (.done ((1:Int),(IntKind.i64.wrap (0-r96.1)),(⟨#[]⟩:BA),true)))) (.opt (qX n (1:Int) r96.1 (⟨#[]⟩:BA)) fun r98=>(.ask ((!r98)) (.done ((0:Int),(0:Int),(⟨#[]⟩:BA),false)) (.done ((1:Int),r96.1,(⟨#[]⟩:BA),true)))))) (.ask (((c95.toNat:Int)==(45:Int))) (.opt (qX n (1:Int) (IntKind.i64.wrap (0-r96.1)) (⟨#[]⟩:BA)) fun r99=>(.ask ((!r99)) (.done ((0:Int),(0:Int),(⟨#[]⟩:BA),false)) (.done ((1:Int),(IntKind.i64.wrap (0-r96.1)),(⟨#[]⟩:BA),true)))) (.opt (qX n (1:Int) r96.1 (⟨#[]⟩:BA)) fun r100=>(.ask ((!r100)) (.done ((0:Int),(0:Int),(⟨#[]⟩:BA),false)) (.done ((1:Int),r96.1,(⟨#[]⟩:BA),true)))))))) .fail) (.opt (qq n x0 (16:Int)) fun r101=>(.ask ((!r101.2)) (.done ((0:Int),(0:Int),(⟨#[]⟩:BA),false)) (.ask (((c95.toNat:Int)==(45:Int))) (.ask ((r101.1==(0:Int))) (.done ((0:Int),(0:Int),(⟨#[]⟩:BA),false)) (.ask (((c95.toNat:Int)==(45:Int))) (.opt (qX n (1:Int) (IntKind.i64.wrap (0-r101.1)) (⟨#[]⟩:BA)) fun r102=>(.ask ((!r102)) (.done ((0:Int),(0:Int),(⟨#[]⟩:BA),false)) (.done ((1:Int),(IntKind.i64.wrap (0-r101.1)),(⟨#[]⟩:BA),true)))) (.opt (qX n (1:Int) r101.1 (⟨#[]⟩:BA)) fun r103=>(.ask ((!r103)) (.done ((0:Int),(0:Int),(⟨#[]⟩:BA),false)) (.done ((1:Int),r101.1,(⟨#[]⟩:BA),true)))))) (.ask (((c95.toNat:Int)==(45:Int))) (.opt (qX n (1:Int) (IntKind.i64.wrap (0-r101.1)) (⟨#[]⟩:BA)) fun r104=>(.ask ((!r104)) (.done ((0:Int),(0:Int),(⟨#[]⟩:BA),false)) (.done ((1:Int),(IntKind.i64.wrap (0-r101.1)),(⟨#[]⟩:BA),true)))) (.opt (qX n (1:Int) r101.1 (⟨#[]⟩:BA)) fun r105=>(.ask ((!r105)) (.done ((0:Int),(0:Int),(⟨#[]⟩:BA),false)) (.done ((1:Int),r101.1,(⟨#[]⟩:BA),true)))))))))) .fail))) .fail))))) .fail))
def qAD:Nat→BA→Option (Int×Int×BA×Bool)
 |0,_=>none
 |n+1,x0=>(qAv n x0).run
abbrev qGx (n:Nat):List (Ent (Rn n)):= [en (qDf n),en (qFO n),en (qGW n)]
def qHG (n:Nat):LEnt (KB 58) (Rn n) n:=lok (zU 58) 15355 ⟨⟨[(0,aS),(2,(.c (.ptr 0 128 0 0 0))),(4,(.c (.ptr 0 256 0 0 0))),(5,aI)],[(128,⟨0,3,37,(.box [qI,qI,qS])⟩),(256,⟨0,3,37,(.box [qI,qI,qS])⟩)],[]⟩,[(.exit 1,⟨[(2,(.c (.ptr 0 128 0 0 0))),(4,(.c (.ptr 0 256 0 0 0)))],[(128,⟨0,3,37,(.box [qI,qI,qS])⟩),(256,⟨0,3,37,(.box [qI,qI,qS])⟩)],[]⟩)]⟩ (qBK n) (qGx n) [] fun _=>(by kernel_rfl)
theorem qGA:∀n,Ok (Rn n) qK6 (qAD n)
 |0=>ok0 fun _=>rfl
 |n+1=>stO (T:=qAv n) (by kernel_rfl) (qGx n) [qHG n] (fun _=>(by kernel_rfl)) fun _=>(by kernel_rfl)
def qMs:Sg:=⟨109,[aI],[],⟨aI,[],[]⟩⟩
def qFR (n:Nat) (x0:Int):Tr (Int):=(.ask ((decide (x0≥(6:Int)))) (.done (1:Int)) (.ask ((x0==(5:Int))) (.done (2:Int)) (.ask ((decide (x0≥(3:Int)))) (.done (4:Int)) (.done (3:Int)))))
def qB2:Nat→Int→Option (Int)
 |0,_=>none
 |n+1,x0=>(qFR n x0).run
theorem qHh:∀n,Ok (Rn n) qMs (qB2 n)
 |0=>ok0 fun _=>rfl
 |n+1=>stO (T:=qFR n) (by kernel_rfl) [] [] (fun _=>(by kernel_rfl)) fun _=>(by kernel_rfl)
def qNo:Sg:=⟨98,[aI],[],⟨aS,[],[]⟩⟩
def qGX (n:Nat) (x0:Int):Tr (BA):=(.ask (decide (12=([[(.s (⟨#[]⟩:BA))],[(.s (⟨#[43]⟩:BA))],[(.s (⟨#[45]⟩:BA))],[(.s (⟨#[42]⟩:BA))],[(.s (⟨#[47]⟩:BA))],[(.s (⟨#[38]⟩:BA))],[(.s (⟨#[61]⟩:BA))],[(.s (⟨#[60,62]⟩:BA))],[(.s (⟨#[60]⟩:BA))],[(.s (⟨#[60,61]⟩:BA))],[(.s (⟨#[62]⟩:BA))],[(.s (⟨#[62,61]⟩:BA))]]:RW).length∧0≤x0∧x0<((12:Nat):Int))) (.opt (([[(.s (⟨#[]⟩:BA))],[(.s (⟨#[43]⟩:BA))],[(.s (⟨#[45]⟩:BA))],[(.s (⟨#[42]⟩:BA))],[(.s (⟨#[47]⟩:BA))],[(.s (⟨#[38]⟩:BA))],[(.s (⟨#[61]⟩:BA))],[(.s (⟨#[60,62]⟩:BA))],[(.s (⟨#[60]⟩:BA))],[(.s (⟨#[60,61]⟩:BA))],[(.s (⟨#[62]⟩:BA))],[(.s (⟨#[62,61]⟩:BA))]]:RW)[(x0).toNat]?) fun e119=>(.opt (zc e119 0) fun y120=>(.done y120))) .fail)
def qCV:Nat→Int→Option (BA)
 |0,_=>none
 |n+1,x0=>(qGX n x0).run
theorem qIK:∀n,Ok (Rn n) qNo (qCV n)
 |0=>ok0 fun _=>rfl
 |n+1=>stO (T:=qGX n) (by kernel_rfl) [] [] (fun _=>(by kernel_rfl)) fun _=>(by kernel_rfl)
def qMt:Sg:=⟨82,[(.c (.ptr 0 0 0 0 0)),aI],[[(0,⟨0,4,50,(.box [qS,qI,qB,(.own 0 1 1 0)])⟩),(1,⟨1,14,64,(.row [])⟩)]],⟨aI,[[(0,⟨0,4,50,(.box [qS,qI,qB,(.own 0 1 1 0)])⟩),(1,⟨1,14,64,(.row [])⟩)]],[]⟩⟩
def qD1 (n:Nat) (v:Int×Nat×Int×RW×BA×Int×Bool×Nat×RW):Tr ((Int×Nat×Int×RW×BA×Int×Bool×Nat×RW)⊕((Int×BA×Int×Bool×Nat×RW)⊕(BA×Int×Bool×Nat×RW))):=(.ask ((decide (v.2.2.1<((v.2.1:Nat):Int)))) (.ask (decide (v.2.1=v.2.2.2.1.length∧0≤v.2.2.1∧v.2.2.1<((v.2.1:Nat):Int))) (.opt (v.2.2.2.1[(v.2.2.1).toNat]?) fun e114=>(.opt (zE .i64 e114 0) fun y115=>(.opt (qB2 n y115) fun r116=>(.ask ((r116==v.1)) (.ask (decide (v.2.1=v.2.2.2.1.length∧0≤v.2.2.1∧v.2.2.1<((v.2.1:Nat):Int))) (.opt (v.2.2.2.1[(v.2.2.1).toNat]?) fun e117=>(.opt (zE .i64 e117 0) fun y118=>(.opt (qCV n y118) fun r119=>(.opt (qAA n r119 v.2.2.2.2.1 v.2.2.2.2.2.1 v.2.2.2.2.2.2.1 v.2.2.2.2.2.2.2.1 v.2.2.2.2.2.2.2.2) fun r120=>(.ask (r120.1) (.ask (decide (v.2.1=v.2.2.2.1.length∧0≤v.2.2.1∧v.2.2.1<((v.2.1:Nat):Int))) (.opt (v.2.2.2.1[(v.2.2.1).toNat]?) fun e121=>(.opt (zE .i64 e121 0) fun y122=>(.done (.inr (.inl ((y122,r120.2.1,r120.2.2.1,r120.2.2.2.1,r120.2.2.2.2.1,r120.2.2.2.2.2))))))) .fail) (.done (.inl (v.1,v.2.1,(IntKind.i64.wrap (v.2.2.1+(1:Int))),v.2.2.2.1,r120.2.1,r120.2.2.1,r120.2.2.2.1,r120.2.2.2.2.1,r120.2.2.2.2.2)))))))) .fail) (.done (.inl (v.1,v.2.1,(IntKind.i64.wrap (v.2.2.1+(1:Int))),v.2.2.2.1,v.2.2.2.2.1,v.2.2.2.2.2.1,v.2.2.2.2.2.2.1,v.2.2.2.2.2.2.2.1,v.2.2.2.2.2.2.2.2))))))) .fail) (.done (.inr (.inr ((v.2.2.2.2.1,v.2.2.2.2.2.1,v.2.2.2.2.2.2.1,v.2.2.2.2.2.2.2.1,v.2.2.2.2.2.2.2.2))))))
def qIL (n:Nat) (x0:Int) (x1:BA) (x2:Int) (x3:Bool) (x4:Nat) (x5:RW):Tr (Int×BA×Int×Bool×Nat×RW):=(.opt (zC (qD1 n) n (x0,(11:Nat),(0:Int),([[(.i .i64 (7:Int))],[(.i .i64 (9:Int))],[(.i .i64 (11:Int))],[(.i .i64 (6:Int))],[(.i .i64 (8:Int))],[(.i .i64 (10:Int))],[(.i .i64 (1:Int))],[(.i .i64 (2:Int))],[(.i .i64 (3:Int))],[(.i .i64 (4:Int))],[(.i .i64 (5:Int))]]:RW),x1,x2,x3,x4,x5)) fun r123=>(.alt r123 (fun r124=>(.done (r124.1,r124.2.1,r124.2.2.1,r124.2.2.2.1,r124.2.2.2.2.1,r124.2.2.2.2.2))) (fun r125=>(.done ((0:Int),r125.1,r125.2.1,r125.2.2.1,r125.2.2.2.1,r125.2.2.2.2)))))
def qD2:Nat→Int→BA→Int→Bool→Nat→RW→Option (Int×BA×Int×Bool×Nat×RW)
 |0,_,_,_,_,_,_=>none
 |n+1,x0,x1,x2,x3,x4,x5=>(qIL n x0 x1 x2 x3 x4 x5).run
abbrev qIM (n:Nat):List (Ent (Rn n)):= [en (qHh n),en (qIK n),en (qDe n)]
def qKU (n:Nat):LEnt (KB 82) (Rn n) n:=lok (zU 82) 29 ⟨⟨[(0,(.c (.ptr 0 0 0 0 0))),(1,aI),(5,(.c (.own 1 448 0 0))),(6,aI)],[(448,⟨0,1,2,(.row [])⟩)],[[(0,⟨0,4,50,(.box [qS,qI,qB,(.own 0 1 1 0)])⟩),(1,⟨1,14,64,(.row [])⟩)]]⟩,[(.ret,⟨[(4,aI)],[],[[(0,⟨0,4,50,(.box [qS,qI,qB,(.own 0 1 1 0)])⟩),(1,⟨1,14,64,(.row [])⟩)]]⟩),(.exit 0,⟨[],[],[[(0,⟨0,4,50,(.box [qS,qI,qB,(.own 0 1 1 0)])⟩),(1,⟨1,14,64,(.row [])⟩)]]⟩)]⟩ (qD1 n) (qIM n) [] fun _=>(by kernel_rfl)
theorem qL4:∀n,Ok (Rn n) qMt (qD2 n)
 |0=>ok0 fun _=>rfl
 |n+1=>stO (T:=qIL n) (by kernel_rfl) (qIM n) [qKU n] (fun _=>(by kernel_rfl)) fun _=>(by kernel_rfl)
def qHi:Sg:=⟨33,[(.c (.ptr 0 0 0 0 0)),aI],[[(0,⟨0,4,50,(.box [qS,qI,qB,(.own 0 1 1 0)])⟩),(1,⟨1,14,64,(.row [])⟩)]],⟨aI,[[(0,⟨0,4,50,(.box [qS,qI,qB,(.own 0 1 1 0)])⟩),(1,⟨1,14,64,(.row [])⟩)]],[]⟩⟩
def qL5:Sg:=⟨81,[(.c (.ptr 0 0 0 0 0))],[[(0,⟨0,4,50,(.box [qS,qI,qB,(.own 0 1 1 0)])⟩),(1,⟨1,14,64,(.row [])⟩)]],⟨aI,[[(0,⟨0,4,50,(.box [qS,qI,qB,(.own 0 1 1 0)])⟩),(1,⟨1,14,64,(.row [])⟩)]],[]⟩⟩
def qK7:Sg:=⟨132,[(.c (.ptr 0 0 0 0 0)),aI],[[(0,⟨0,4,50,(.box [qS,qI,qB,(.own 0 1 1 0)])⟩),(1,⟨1,14,64,(.row [])⟩)]],⟨aI,[[(0,⟨0,4,50,(.box [qS,qI,qB,(.own 0 1 1 0)])⟩),(1,⟨1,14,64,(.row [])⟩)]],[]⟩⟩
def qL6:Sg:=⟨159,[(.c (.ptr 0 0 0 0 0))],[[(0,⟨0,4,50,(.box [qS,qI,qB,(.own 0 1 1 0)])⟩),(1,⟨1,14,64,(.row [])⟩)]],⟨aI,[[(0,⟨0,4,50,(.box [qS,qI,qB,(.own 0 1 1 0)])⟩),(1,⟨1,14,64,(.row [])⟩)]],[]⟩⟩
structure G_spec_l3Rd_row where
 spec_l3Rd_row:Int→BA→Int→Bool→Nat→RW→Option (Int×BA×Int×Bool×Nat×RW)
 spec_l3Rd_one:BA→Int→Bool→Nat→RW→Option (Int×BA×Int×Bool×Nat×RW)
 spec_l3Rd_call:Int→BA→Int→Bool→Nat→RW→Option (Int×BA×Int×Bool×Nat×RW)
 spec_l3Rd_arg:BA→Int→Bool→Nat→RW→Option (Int×BA×Int×Bool×Nat×RW)
def qDi (rec:G_spec_l3Rd_row) (n:Nat) (v:Int×Int×BA×Int×Bool×Nat×RW):Tr ((Int×Int×BA×Int×Bool×Nat×RW)⊕((Int×BA×Int×Bool×Nat×RW)⊕(Int×BA×Int×Bool×Nat×RW))):=(.ask ((!v.2.2.2.2.1)) (.opt (qD2 n v.1 v.2.2.1 v.2.2.2.1 v.2.2.2.2.1 v.2.2.2.2.2.1 v.2.2.2.2.2.2) fun r114=>(.ask ((r114.1==(0:Int))) (.done (.inr (.inl ((v.2.1,r114.2.1,r114.2.2.1,r114.2.2.2.1,r114.2.2.2.2.1,r114.2.2.2.2.2))))) (.opt (rec.spec_l3Rd_row (IntKind.i64.wrap (v.1+(1:Int))) r114.2.1 r114.2.2.1 r114.2.2.2.1 r114.2.2.2.2.1 r114.2.2.2.2.2) fun r115=>(.ask (decide (2=([[(.i .i64 v.2.1)],[(.i .i64 r115.1)]]:RW).length)) (.opt (qo n (5:Int) r114.1 (0:Int) (0:Int) (⟨#[]⟩:BA) (0:Int) (0:Int) false false (0:Int) (0:Int) false false ([[(.i .i64 v.2.1)],[(.i .i64 r115.1)]]:RW) r115.2.1 r115.2.2.1 r115.2.2.2.1 r115.2.2.2.2.1 r115.2.2.2.2.2) fun r116=>(.done (.inl (v.1,r116.1,r116.2.1,r116.2.2.1,r116.2.2.2.1,r116.2.2.2.2.1,r116.2.2.2.2.2)))) .fail)))) (.done (.inr (.inr ((v.2.1,v.2.2.1,v.2.2.2.1,v.2.2.2.2.1,v.2.2.2.2.2.1,v.2.2.2.2.2.2))))))
def qHj (rec:G_spec_l3Rd_row) (n:Nat) (x0:Int) (x1:BA) (x2:Int) (x3:Bool) (x4:Nat) (x5:RW):Tr (Int×BA×Int×Bool×Nat×RW):=(.ask (x3) (.done ((0:Int),x1,x2,x3,x4,x5)) (.ask ((x0==(5:Int))) (.opt (rec.spec_l3Rd_one x1 x2 x3 x4 x5) fun r112=>(.done (r112.1,r112.2.1,r112.2.2.1,r112.2.2.2.1,r112.2.2.2.2.1,r112.2.2.2.2.2))) (.opt (rec.spec_l3Rd_row (IntKind.i64.wrap (x0+(1:Int))) x1 x2 x3 x4 x5) fun r113=>(.opt (zC (qDi rec n) n (x0,r113.1,r113.2.1,r113.2.2.1,r113.2.2.2.1,r113.2.2.2.2.1,r113.2.2.2.2.2)) fun r117=>(.alt r117 (fun r118=>(.done (r118.1,r118.2.1,r118.2.2.1,r118.2.2.2.1,r118.2.2.2.2.1,r118.2.2.2.2.2))) (fun r119=>(.done (r119.1,r119.2.1,r119.2.2.1,r119.2.2.2.1,r119.2.2.2.2.1,r119.2.2.2.2.2))))))))
def qCI (n:Nat) (v:Int×BA×Int×Bool×Nat×RW):Tr ((Int×BA×Int×Bool×Nat×RW)⊕((Int×BA×Int×Bool×Nat×RW)⊕(BA×Int×Bool×Nat×RW))):=(.ask ((decide (v.1≤(5:Int)))) (.opt (qBG n v.1) fun r61=>(.ask (decide (0≤(1:Int)∧(1:Int)≤(r61.size:Int)∧(r61.size:Int)≤r61.size)) (.ask ((decide ((IntKind.i64.wrap (v.2.2.1+((r61.extract ((1:Int)).toNat ((r61.size:Int)).toNat).size:Int)))≤(v.2.1.size:Int)))) (.ask (decide (0≤v.2.2.1∧v.2.2.1≤(IntKind.i64.wrap (v.2.2.1+((r61.extract ((1:Int)).toNat ((r61.size:Int)).toNat).size:Int)))∧(IntKind.i64.wrap (v.2.2.1+((r61.extract ((1:Int)).toNat ((r61.size:Int)).toNat).size:Int)))≤v.2.1.size)) (.ask (((v.2.1.extract (v.2.2.1).toNat ((IntKind.i64.wrap (v.2.2.1+((r61.extract ((1:Int)).toNat ((r61.size:Int)).toNat).size:Int)))).toNat).toList==(r61.extract ((1:Int)).toNat ((r61.size:Int)).toNat).toList)) (.opt (qCg n v.1) fun r62=>(.opt (qo n (1:Int) (0:Int) r62.1 r62.2.1 r62.2.2 (0:Int) (0:Int) false false (0:Int) (0:Int) false false ([]:RW) v.2.1 (IntKind.i64.wrap (v.2.2.1+((r61.extract ((1:Int)).toNat ((r61.size:Int)).toNat).size:Int))) v.2.2.2.1 v.2.2.2.2.1 v.2.2.2.2.2) fun r63=>(.done (.inr (.inl ((r63.1,r63.2.1,r63.2.2.1,r63.2.2.2.1,r63.2.2.2.2.1,r63.2.2.2.2.2))))))) (.done (.inl ((IntKind.i64.wrap (v.1+(1:Int))),v.2.1,v.2.2.1,v.2.2.2.1,v.2.2.2.2.1,v.2.2.2.2.2)))) .fail) (.done (.inl ((IntKind.i64.wrap (v.1+(1:Int))),v.2.1,v.2.2.1,v.2.2.2.1,v.2.2.2.2.1,v.2.2.2.2.2)))) .fail)) (.done (.inr (.inr ((v.2.1,v.2.2.1,v.2.2.2.1,v.2.2.2.2.1,v.2.2.2.2.2))))))
def qCp (rec:G_spec_l3Rd_row) (n:Nat) (v:BA×Int×BA×Int×Bool×Nat×RW):Tr ((BA×Int×BA×Int×Bool×Nat×RW)⊕((Int×BA×Int×Bool×Nat×RW)⊕(BA×BA×Int×Bool×Nat×RW))):=(.ask ((decide (v.2.1≤(10:Int)))) (.opt (qCG n v.2.1) fun r79=>(.ask ((r79.toList==v.1.toList)) (.opt (qAA n (⟨#[40]⟩:BA) v.2.2.1 v.2.2.2.1 v.2.2.2.2.1 v.2.2.2.2.2.1 v.2.2.2.2.2.2) fun r80=>(.ask (r80.1) (.opt (rec.spec_l3Rd_call v.2.1 r80.2.1 r80.2.2.1 r80.2.2.2.1 r80.2.2.2.2.1 r80.2.2.2.2.2) fun r81=>(.done (.inr (.inl ((r81.1,r81.2.1,r81.2.2.1,r81.2.2.2.1,r81.2.2.2.2.1,r81.2.2.2.2.2)))))) (.done (.inl (v.1,(IntKind.i64.wrap (v.2.1+(1:Int))),r80.2.1,r80.2.2.1,r80.2.2.2.1,r80.2.2.2.2.1,r80.2.2.2.2.2))))) (.done (.inl (v.1,(IntKind.i64.wrap (v.2.1+(1:Int))),v.2.2.1,v.2.2.2.1,v.2.2.2.2.1,v.2.2.2.2.2.1,v.2.2.2.2.2.2))))) (.done (.inr (.inr ((v.1,v.2.2.1,v.2.2.2.1,v.2.2.2.2.1,v.2.2.2.2.2.1,v.2.2.2.2.2.2))))))
def qHk (rec:G_spec_l3Rd_row) (n:Nat) (x0:BA) (x1:Int) (x2:Bool) (x3:Nat) (x4:RW):Tr (Int×BA×Int×Bool×Nat×RW):=(.opt (qAA n (⟨#[45]⟩:BA) x0 x1 x2 x3 x4) fun r31=>(.ask (r31.1) (.opt (rec.spec_l3Rd_row (5:Int) r31.2.1 r31.2.2.1 r31.2.2.2.1 r31.2.2.2.2.1 r31.2.2.2.2.2) fun r32=>(.ask (decide (1=([[(.i .i64 r32.1)]]:RW).length)) (.opt (qo n (4:Int) (0:Int) (0:Int) (0:Int) (⟨#[]⟩:BA) (0:Int) (0:Int) false false (0:Int) (0:Int) false false ([[(.i .i64 r32.1)]]:RW) r32.2.1 r32.2.2.1 r32.2.2.2.1 r32.2.2.2.2.1 r32.2.2.2.2.2) fun r47=>(.done (r47.1,r47.2.1,r47.2.2.1,r47.2.2.2.1,r47.2.2.2.2.1,r47.2.2.2.2.2))) .fail)) (.opt (qAA n (⟨#[40]⟩:BA) r31.2.1 r31.2.2.1 r31.2.2.2.1 r31.2.2.2.2.1 r31.2.2.2.2.2) fun r48=>(.ask (r48.1) (.opt (rec.spec_l3Rd_row (1:Int) r48.2.1 r48.2.2.1 r48.2.2.2.1 r48.2.2.2.2.1 r48.2.2.2.2.2) fun r49=>(.opt (qAA n (⟨#[41]⟩:BA) r49.2.1 r49.2.2.1 r49.2.2.2.1 r49.2.2.2.2.1 r49.2.2.2.2.2) fun r50=>(.ask ((!r50.1)) (.done (r49.1,r50.2.1,r50.2.2.1,true,r50.2.2.2.2.1,r50.2.2.2.2.2)) (.done (r49.1,r50.2.1,r50.2.2.1,r50.2.2.2.1,r50.2.2.2.2.1,r50.2.2.2.2.2))))) (.opt (qAA n (⟨#[34]⟩:BA) r48.2.1 r48.2.2.1 r48.2.2.2.1 r48.2.2.2.2.1 r48.2.2.2.2.2) fun r51=>(.ask (r51.1) (.opt (qEP n r51.2.1 r51.2.2.1 r51.2.2.2.1 r51.2.2.2.2.1 r51.2.2.2.2.2) fun r59=>(.done (r59.1,r59.2.1,r59.2.2.1,r59.2.2.2.1,r59.2.2.2.2.1,r59.2.2.2.2.2))) (.opt (qAA n (⟨#[35]⟩:BA) r51.2.1 r51.2.2.1 r51.2.2.2.1 r51.2.2.2.2.1 r51.2.2.2.2.2) fun r60=>(.ask (r60.1) (.opt (zC (qCI n) n ((1:Int),r60.2.1,r60.2.2.1,r60.2.2.2.1,r60.2.2.2.2.1,r60.2.2.2.2.2)) fun r64=>(.alt r64 (fun r65=>(.done (r65.1,r65.2.1,r65.2.2.1,r65.2.2.2.1,r65.2.2.2.2.1,r65.2.2.2.2.2))) (fun r66=>(.done ((0:Int),r66.1,r66.2.1,true,r66.2.2.2.1,r66.2.2.2.2))))) (.opt (qCh n r60.2.1 r60.2.2.1 r60.2.2.2.1 r60.2.2.2.2.1 r60.2.2.2.2.2) fun r78=>(.opt (zC (qCp rec n) n (r78.1,(1:Int),r78.2.1,r78.2.2.1,r78.2.2.2.1,r78.2.2.2.2.1,r78.2.2.2.2.2)) fun r82=>(.alt r82 (fun r83=>(.done (r83.1,r83.2.1,r83.2.2.1,r83.2.2.2.1,r83.2.2.2.2.1,r83.2.2.2.2.2))) (fun r84=>(.opt (qAD n r84.1) fun r106=>(.ask (r106.2.2.2) (.ask ((!(r84.1.toList==(⟨#[]⟩:BA).toList))) (.opt (qo n (1:Int) (0:Int) r106.1 r106.2.1 r106.2.2.1 (0:Int) (0:Int) false false (0:Int) (0:Int) false false ([]:RW) r84.2.1 r84.2.2.1 r84.2.2.2.1 r84.2.2.2.2.1 r84.2.2.2.2.2) fun r107=>(.done (r107.1,r107.2.1,r107.2.2.1,r107.2.2.2.1,r107.2.2.2.2.1,r107.2.2.2.2.2))) (.opt (qAj n r84.1) fun r108=>(.ask ((!r108.2.2.2.2)) (.done ((0:Int),r84.2.1,r84.2.2.1,true,r84.2.2.2.2.1,r84.2.2.2.2.2)) (.opt (qo n (2:Int) (0:Int) (0:Int) (0:Int) (⟨#[]⟩:BA) r108.1 r108.2.1 r108.2.2.1 r108.2.2.2.1 (0:Int) (0:Int) false false ([]:RW) r84.2.1 r84.2.2.1 r84.2.2.2.1 r84.2.2.2.2.1 r84.2.2.2.2.2) fun r109=>(.done (r109.1,r109.2.1,r109.2.2.1,r109.2.2.2.1,r109.2.2.2.2.1,r109.2.2.2.2.2)))))) (.opt (qAj n r84.1) fun r110=>(.ask ((!r110.2.2.2.2)) (.done ((0:Int),r84.2.1,r84.2.2.1,true,r84.2.2.2.2.1,r84.2.2.2.2.2)) (.opt (qo n (2:Int) (0:Int) (0:Int) (0:Int) (⟨#[]⟩:BA) r110.1 r110.2.1 r110.2.2.1 r110.2.2.2.1 (0:Int) (0:Int) false false ([]:RW) r84.2.1 r84.2.2.1 r84.2.2.2.1 r84.2.2.2.2.1 r84.2.2.2.2.2) fun r111=>(.done (r111.1,r111.2.1,r111.2.2.1,r111.2.2.2.1,r111.2.2.2.2.1,r111.2.2.2.2.2)))))))))))))))))))
def qDT (rec:G_spec_l3Rd_row) (n:Nat) (v:Int×Nat×RW×BA×Int×Bool×Nat×RW):Tr ((Int×Nat×RW×BA×Int×Bool×Nat×RW)⊕((Int×BA×Int×Bool×Nat×RW)⊕(BA×Int×Bool×Nat×RW))):=(.ask ((!v.2.2.2.2.2.1)) (.opt (rec.spec_l3Rd_arg v.2.2.2.1 v.2.2.2.2.1 v.2.2.2.2.2.1 v.2.2.2.2.2.2.1 v.2.2.2.2.2.2.2) fun r83=>(.ask (decide (1=([[(.i .i64 r83.1)]]:RW).length)) (.ask (decide (v.2.1=v.2.2.1.length∧0<1∧0<8∧(v.2.1+([[(.i .i64 r83.1)]]:RW).length)*8≤140737488355328∧([[(.i .i64 r83.1)]]:RW).all (fun e=>e.length==1)=true)) (.opt (qAA n (⟨#[41]⟩:BA) r83.2.1 r83.2.2.1 r83.2.2.2.1 r83.2.2.2.2.1 r83.2.2.2.2.2) fun r84=>(.ask (r84.1) (.ask (decide ((v.2.1+1)=(v.2.2.1++([[(.i .i64 r83.1)]]:RW)).length)) (.opt (qo n (6:Int) v.1 (0:Int) (0:Int) (⟨#[]⟩:BA) (0:Int) (0:Int) false false (0:Int) (0:Int) false false (v.2.2.1++([[(.i .i64 r83.1)]]:RW)) r84.2.1 r84.2.2.1 r84.2.2.2.1 r84.2.2.2.2.1 r84.2.2.2.2.2) fun r85=>(.done (.inr (.inl ((r85.1,r85.2.1,r85.2.2.1,r85.2.2.2.1,r85.2.2.2.2.1,r85.2.2.2.2.2)))))) .fail) (.opt (qAA n (⟨#[44]⟩:BA) r84.2.1 r84.2.2.1 r84.2.2.2.1 r84.2.2.2.2.1 r84.2.2.2.2.2) fun r86=>(.ask ((!r86.1)) (.done (.inl (v.1,(v.2.1+1),(v.2.2.1++([[(.i .i64 r83.1)]]:RW)),r86.2.1,r86.2.2.1,true,r86.2.2.2.2.1,r86.2.2.2.2.2))) (.done (.inl (v.1,(v.2.1+1),(v.2.2.1++([[(.i .i64 r83.1)]]:RW)),r86.2.1,r86.2.2.1,r86.2.2.2.1,r86.2.2.2.2.1,r86.2.2.2.2.2))))))) .fail) .fail)) (.done (.inr (.inr ((v.2.2.2.1,v.2.2.2.2.1,v.2.2.2.2.2.1,v.2.2.2.2.2.2.1,v.2.2.2.2.2.2.2))))))
def qGy (rec:G_spec_l3Rd_row) (n:Nat) (x0:Int) (x1:BA) (x2:Int) (x3:Bool) (x4:Nat) (x5:RW):Tr (Int×BA×Int×Bool×Nat×RW):=(.opt (zC (qDT rec n) n (x0,(0:Nat),([]:RW),x1,x2,x3,x4,x5)) fun r87=>(.alt r87 (fun r88=>(.done (r88.1,r88.2.1,r88.2.2.1,r88.2.2.2.1,r88.2.2.2.2.1,r88.2.2.2.2.2))) (fun r89=>(.done ((0:Int),r89.1,r89.2.1,r89.2.2.1,r89.2.2.2.1,r89.2.2.2.2)))))
def qHl (rec:G_spec_l3Rd_row) (n:Nat) (x0:BA) (x1:Int) (x2:Bool) (x3:Nat) (x4:RW):Tr (Int×BA×Int×Bool×Nat×RW):=(.opt (qBU n x0 x1 x2 x3 x4) fun r83=>(.opt (qCh n r83.1 r83.2.1 r83.2.2.1 r83.2.2.2.1 r83.2.2.2.2) fun r84=>(.opt (qAj n r84.1) fun r129=>(.ask (r129.2.2.2.2) (.opt (qAA n (⟨#[58]⟩:BA) r84.2.1 r84.2.2.1 r84.2.2.2.1 r84.2.2.2.2.1 r84.2.2.2.2.2) fun r130=>(.ask (r130.1) (.opt (qBU n r130.2.1 r130.2.2.1 r130.2.2.2.1 r130.2.2.2.2.1 r130.2.2.2.2.2) fun r131=>(.opt (qCh n r131.1 r131.2.1 r131.2.2.1 r131.2.2.2.1 r131.2.2.2.2) fun r132=>(.opt (qAj n r132.1) fun r133=>(.ask ((!r133.2.2.2.2)) (.done ((0:Int),r132.2.1,r132.2.2.1,true,r132.2.2.2.2.1,r132.2.2.2.2.2)) (.opt (qo n (3:Int) (0:Int) (0:Int) (0:Int) (⟨#[]⟩:BA) r129.1 r129.2.1 r129.2.2.1 r129.2.2.2.1 r133.1 r133.2.1 r133.2.2.1 r133.2.2.2.1 ([]:RW) r132.2.1 r132.2.2.1 r132.2.2.2.1 r132.2.2.2.2.1 r132.2.2.2.2.2) fun r134=>(.done (r134.1,r134.2.1,r134.2.2.1,r134.2.2.2.1,r134.2.2.2.2.1,r134.2.2.2.2.2))))))) (.opt (rec.spec_l3Rd_row (1:Int) r130.2.1 r83.2.1 r130.2.2.2.1 r130.2.2.2.2.1 r130.2.2.2.2.2) fun r135=>(.done (r135.1,r135.2.1,r135.2.2.1,r135.2.2.2.1,r135.2.2.2.2.1,r135.2.2.2.2.2))))) (.opt (rec.spec_l3Rd_row (1:Int) r84.2.1 r83.2.1 r84.2.2.2.1 r84.2.2.2.2.1 r84.2.2.2.2.2) fun r136=>(.done (r136.1,r136.2.1,r136.2.2.1,r136.2.2.2.1,r136.2.2.2.2.1,r136.2.2.2.2.2)))))))
def qc:Nat→G_spec_l3Rd_row
 |0=>⟨fun _ _ _ _ _ _=>none,fun _ _ _ _ _=>none,fun _ _ _ _ _ _=>none,fun _ _ _ _ _=>none⟩
 |n+1=>⟨fun x0 x1 x2 x3 x4 x5=>(qHj (qc n) n x0 x1 x2 x3 x4 x5).run,fun x0 x1 x2 x3 x4=>(qHk (qc n) n x0 x1 x2 x3 x4).run,fun x0 x1 x2 x3 x4 x5=>(qGy (qc n) n x0 x1 x2 x3 x4 x5).run,fun x0 x1 x2 x3 x4=>(qHl (qc n) n x0 x1 x2 x3 x4).run⟩
def qDg (n:Nat) (x0:Int) (x1:BA) (x2:Int) (x3:Bool) (x4:Nat) (x5:RW):Option (Int×BA×Int×Bool×Nat×RW):=(qc n).spec_l3Rd_row x0 x1 x2 x3 x4 x5
def qHm (n:Nat) (x0:BA) (x1:Int) (x2:Bool) (x3:Nat) (x4:RW):Option (Int×BA×Int×Bool×Nat×RW):=(qc n).spec_l3Rd_one x0 x1 x2 x3 x4
def qGz (n:Nat) (x0:Int) (x1:BA) (x2:Int) (x3:Bool) (x4:Nat) (x5:RW):Option (Int×BA×Int×Bool×Nat×RW):=(qc n).spec_l3Rd_call x0 x1 x2 x3 x4 x5
def qHn (n:Nat) (x0:BA) (x1:Int) (x2:Bool) (x3:Nat) (x4:RW):Option (Int×BA×Int×Bool×Nat×RW):=(qc n).spec_l3Rd_arg x0 x1 x2 x3 x4
def qAw (n:Nat):Prop:=
 Ok (Rn n) qHi (qDg n)∧
 Ok (Rn n) qL5 (qHm n)∧
 Ok (Rn n) qK7 (qGz n)∧
 Ok (Rn n) qL6 (qHn n)
abbrev qHo (n:Nat) (ih:qAw n):List (Ent (Rn n)):= [en ih.2.1,en ih.1,en (qL4 n),en (qCf n)]
def qJq (n:Nat) (ih:qAw n):LEnt (KB 33) (Rn n) n:=lok (zU 33) 62 ⟨⟨[(0,(.c (.ptr 0 0 0 0 0))),(1,aI),(5,aI)],[],[[(0,⟨0,4,50,(.box [qS,qI,qB,(.own 0 1 1 0)])⟩),(1,⟨1,14,64,(.row [])⟩)]]⟩,[(.ret,⟨[(4,aI)],[],[[(0,⟨0,4,50,(.box [qS,qI,qB,(.own 0 1 1 0)])⟩),(1,⟨1,14,64,(.row [])⟩)]]⟩),(.exit 0,⟨[(5,aI)],[],[[(0,⟨0,4,50,(.box [qS,qI,qB,(.own 0 1 1 0)])⟩),(1,⟨1,14,64,(.row [])⟩)]]⟩)]⟩ (qDi (qc n) n) (qHo n ih) [] fun _=>(by kernel_rfl)
abbrev qEt (n:Nat) (ih:qAw n):List (Ent (Rn n)):= [en (qDe n),en ih.1,en (qCf n),en (qKQ n),en (qFO n),en (qL1 n),en (qF8 n),en (qKR n),en ih.2.2.1,en (qGA n),en (qF9 n)]
def qIN (n:Nat) (ih:qAw n):LEnt (KB 81) (Rn n) n:=lok (zU 81) 7161 ⟨⟨[(0,(.c (.ptr 0 0 0 0 0))),(5,aI)],[],[[(0,⟨0,4,50,(.box [qS,qI,qB,(.own 0 1 1 0)])⟩),(1,⟨1,14,64,(.row [])⟩)]]⟩,[(.ret,⟨[(2,aI)],[],[[(0,⟨0,4,50,(.box [qS,qI,qB,(.own 0 1 1 0)])⟩),(1,⟨1,14,64,(.row [])⟩)]]⟩),(.exit 1,⟨[(0,(.c (.ptr 0 0 0 0 0)))],[],[[(0,⟨0,4,50,(.box [qS,qI,qB,(.own 0 1 1 0)])⟩),(1,⟨1,14,64,(.row [])⟩)]]⟩)]⟩ (qCI n) (qEt n ih) [] fun _=>(by kernel_rfl)
def qJr (n:Nat) (ih:qAw n):LEnt (KB 81) (Rn n) n:=lok (zU 81) 61 ⟨⟨[(0,(.c (.ptr 0 0 0 0 0))),(7,aS),(8,aI)],[],[[(0,⟨0,4,50,(.box [qS,qI,qB,(.own 0 1 1 0)])⟩),(1,⟨1,14,64,(.row [])⟩)]]⟩,[(.ret,⟨[(2,aI)],[],[[(0,⟨0,4,50,(.box [qS,qI,qB,(.own 0 1 1 0)])⟩),(1,⟨1,14,64,(.row [])⟩)]]⟩),(.exit 3,⟨[(0,(.c (.ptr 0 0 0 0 0))),(7,aS)],[],[[(0,⟨0,4,50,(.box [qS,qI,qB,(.own 0 1 1 0)])⟩),(1,⟨1,14,64,(.row [])⟩)]]⟩)]⟩ (qCp (qc n) n) (qEt n ih) [] fun _=>(by kernel_rfl)
abbrev qG0 (n:Nat) (ih:qAw n):List (Ent (Rn n)):= [en ih.2.2.2,en (qDe n),en (qCf n)]
def qJE (n:Nat) (ih:qAw n):LEnt (KB 132) (Rn n) n:=lok (zU 132) 14 ⟨⟨[(0,(.c (.ptr 0 0 0 0 0))),(1,aI),(5,(.c (.own 1 384 0 0)))],[(384,⟨0,1,2,(.row [])⟩)],[[(0,⟨0,4,50,(.box [qS,qI,qB,(.own 0 1 1 0)])⟩),(1,⟨1,14,64,(.row [])⟩)]]⟩,[(.ret,⟨[(4,aI)],[],[[(0,⟨0,4,50,(.box [qS,qI,qB,(.own 0 1 1 0)])⟩),(1,⟨1,14,64,(.row [])⟩)]]⟩),(.exit 0,⟨[],[],[[(0,⟨0,4,50,(.box [qS,qI,qB,(.own 0 1 1 0)])⟩),(1,⟨1,14,64,(.row [])⟩)]]⟩)]⟩ (qDT (qc n) n) (qG0 n ih) [] fun _=>(by kernel_rfl)
abbrev qL7 (n:Nat) (ih:qAw n):List (Ent (Rn n)):= [en (qDR n),en (qF8 n),en (qF9 n),en (qDe n),en (qCf n),en ih.1]
theorem qAx:∀n,qAw n
 |0=>⟨ok0 fun _=>rfl,ok0 fun _=>rfl,ok0 fun _=>rfl,ok0 fun _=>rfl⟩
 |n+1=>⟨stO (T:=qHj (qc n) n) (by kernel_rfl) (qHo n (qAx n)) [qJq n (qAx n)] (fun _=>(by kernel_rfl)) fun _=>(by kernel_rfl),stO (T:=qHk (qc n) n) (by kernel_rfl) (qEt n (qAx n)) [qIN n (qAx n),qJr n (qAx n)] (fun _=>(by kernel_rfl)) fun _=>(by kernel_rfl),stO (T:=qGy (qc n) n) (by kernel_rfl) (qG0 n (qAx n)) [qJE n (qAx n)] (fun _=>(by kernel_rfl)) fun _=>(by kernel_rfl),stO (T:=qHl (qc n) n) (by kernel_rfl) (qL7 n (qAx n)) [] (fun _=>(by kernel_rfl)) fun _=>(by kernel_rfl)⟩
theorem qK8 (n:Nat):Ok (Rn n) qHi (qDg n):=(qAx n).1
def qGY:Sg:=⟨54,[aL,aI],[],⟨aI,[],[]⟩⟩
def qAy (rec:RW→Int→Option (Int)) (n:Nat) (v:RW×Int×Int×Int):Tr ((RW×Int×Int×Int)⊕((Int)⊕(Int))):=(.ask ((decide (v.2.2.2≥(0:Int)))) (.ask ((decide (v.2.2.1<(0:Int)))) (.done (.inr (.inl ((-1:Int))))) (.ask (decide (0≤v.2.1∧v.2.1<v.1.length)) (.opt (v.1[(v.2.1).toNat]?) fun e157=>(.ask (decide (e157.length=14)) (.opt (zAr e157 13) fun y158=>(.ask (decide (0≤v.2.2.2∧v.2.2.2<y158.length)) (.opt (y158[(v.2.2.2).toNat]?) fun e159=>(.ask (decide (e159.length=1)) (.opt (zE .i64 e159 0) fun y160=>(.ask ((y160 !=v.2.2.1)) (.done (.inr (.inl ((-1:Int))))) (.opt (rec v.1 v.2.2.1) fun r161=>(.ask ((decide (r161<(0:Int)))) (.done (.inr (.inl ((-1:Int))))) (.done (.inl (v.1,v.2.1,(IntKind.i64.wrap (r161-(1:Int))),(IntKind.i64.wrap (v.2.2.2-(1:Int)))))))))) .fail)) .fail)) .fail)) .fail)) (.done (.inr (.inr (v.2.2.1)))))
def qGZ (rec:RW→Int→Option (Int)) (n:Nat) (x0:RW) (x1:Int):Tr (Int):=(.ask (decide (0≤x1∧x1<x0.length)) (.opt (x0[(x1).toNat]?) fun e155=>(.ask (decide (e155.length=14)) (.opt (zAr e155 13) fun y156=>(.opt (zC (qAy rec n) n (x0,x1,(IntKind.i64.wrap (x1-(1:Int))),(IntKind.i64.wrap ((y156.length:Int)-(1:Int))))) fun r162=>(.alt r162 (fun r163=>(.done r163)) (fun r164=>(.done (IntKind.i64.wrap (r164+(1:Int)))))))) .fail)) .fail)
def qAk:Nat→RW→Int→Option (Int)
 |0,_,_=>none
 |n+1,x0,x1=>(qGZ (qAk n) n x0 x1).run
abbrev qJb (n:Nat) (ih:Ok (Rn n) qGY (qAk n)):List (Ent (Rn n)):= [en ih]
def qK9 (n:Nat) (ih:Ok (Rn n) qGY (qAk n)):LEnt (KB 54) (Rn n) n:=lok (zU 54) 29 ⟨⟨[(0,aL),(1,aI),(5,aI),(6,aI)],[],[]⟩,[(.ret,⟨[(4,aI)],[],[]⟩),(.exit 0,⟨[(5,aI)],[],[]⟩)]⟩ (qAy (qAk n) n) (qJb n ih) [] fun _=>(by kernel_rfl)
theorem qFS:∀n,Ok (Rn n) qGY (qAk n)
 |0=>ok0 fun _=>rfl
 |n+1=>stO (T:=qGZ (qAk n) n) (by kernel_rfl) (qJb n (qFS n)) [qK9 n (qFS n)] (fun _=>(by kernel_rfl)) fun _=>(by kernel_rfl)
def qGa:Sg:=⟨55,[aL,aI],[],⟨aI,[],[]⟩⟩
def qCj (rec:RW→Int→Option (Int)) (n:Nat) (v:RW×Int×Int×Int):Tr ((RW×Int×Int×Int)⊕((Int))):=(.ask (decide (0≤v.2.1∧v.2.1<v.1.length)) (.opt (v.1[(v.2.1).toNat]?) fun e168=>(.ask (decide (e168.length=14)) (.opt (zAr e168 13) fun y169=>(.ask ((decide (v.2.2.2<(y169.length:Int)))) (.ask (decide (0≤v.2.1∧v.2.1<v.1.length)) (.opt (v.1[(v.2.1).toNat]?) fun e170=>(.ask (decide (e170.length=14)) (.opt (zAr e170 13) fun y171=>(.ask (decide (0≤v.2.2.2∧v.2.2.2<y171.length)) (.opt (y171[(v.2.2.2).toNat]?) fun e172=>(.ask (decide (e172.length=1)) (.opt (zE .i64 e172 0) fun y173=>(.opt (rec v.1 y173) fun r174=>(.done (.inl (v.1,v.2.1,(if r174>v.2.2.1 then r174 else v.2.2.1),(IntKind.i64.wrap (v.2.2.2+(1:Int)))))))) .fail)) .fail)) .fail)) .fail) (.done (.inr (v.2.2.1))))) .fail)) .fail)
def qGb (rec:RW→Int→Option (Int)) (n:Nat) (x0:RW) (x1:Int):Tr (Int):=(.opt (zC (qCj rec n) n (x0,x1,(0:Int),(0:Int))) fun r175=>(.done (IntKind.i64.wrap (r175+(1:Int)))))
def qAl:Nat→RW→Int→Option (Int)
 |0,_,_=>none
 |n+1,x0,x1=>(qGb (qAl n) n x0 x1).run
abbrev qJc (n:Nat) (ih:Ok (Rn n) qGa (qAl n)):List (Ent (Rn n)):= [en ih]
def qLA (n:Nat) (ih:Ok (Rn n) qGa (qAl n)):LEnt (KB 55) (Rn n) n:=lok (zU 55) 29 ⟨⟨[(0,aL),(1,aI),(5,aI),(6,aI)],[],[]⟩,[(.exit 0,⟨[(5,aI)],[],[]⟩)]⟩ (qCj (qAl n) n) (qJc n ih) [] fun _=>(by kernel_rfl)
theorem qFT:∀n,Ok (Rn n) qGa (qAl n)
 |0=>ok0 fun _=>rfl
 |n+1=>stO (T:=qGb (qAl n) n) (by kernel_rfl) (qJc n (qFT n)) [qLA n (qFT n)] (fun _=>(by kernel_rfl)) fun _=>(by kernel_rfl)
def qLB:Sg:=⟨21,[aL],[],⟨aB,[],[]⟩⟩
def qAe (n:Nat) (v:RW×Int×Int):Tr ((RW×Int×Int)⊕((Bool)⊕(RW×Int))):=(.ask (decide (0≤v.2.1∧v.2.1<v.1.length)) (.opt (v.1[(v.2.1).toNat]?) fun e138=>(.ask (decide (e138.length=14)) (.opt (zAr e138 13) fun y139=>(.ask ((decide (v.2.2<(y139.length:Int)))) (.ask (decide (0≤v.2.1∧v.2.1<v.1.length)) (.opt (v.1[(v.2.1).toNat]?) fun e140=>(.ask (decide (e140.length=14)) (.opt (zAr e140 13) fun y141=>(.ask (decide (0≤v.2.2∧v.2.2<y141.length)) (.opt (y141[(v.2.2).toNat]?) fun e142=>(.ask (decide (e142.length=1)) (.opt (zE .i64 e142 0) fun y143=>(.opt (qBB n y143 (0:Int) (IntKind.i64.wrap (v.2.1-(1:Int)))) fun r144=>(.ask ((!r144)) (.done (.inr (.inl (false)))) (.ask (decide (0≤y143∧y143<v.1.length)) (.opt (v.1[(y143).toNat]?) fun e145=>(.ask (decide (e145.length=14)) (.opt (zE .i64 e145 0) fun y146=>(.ask ((y146==(3:Int))) (.ask (decide (0≤v.2.1∧v.2.1<v.1.length)) (.opt (v.1[(v.2.1).toNat]?) fun e147=>(.ask (decide (e147.length=14)) (.opt (zE .i64 e147 0) fun y148=>(.ask ((y148 !=(6:Int))) (.done (.inr (.inl (false)))) (.done (.inl (v.1,v.2.1,(IntKind.i64.wrap (v.2.2+(1:Int)))))))) .fail)) .fail) (.done (.inl (v.1,v.2.1,(IntKind.i64.wrap (v.2.2+(1:Int)))))))) .fail)) .fail)))) .fail)) .fail)) .fail)) .fail) (.done (.inr (.inr ((v.1,v.2.1))))))) .fail)) .fail)
def qA2 (n:Nat) (v:RW×Int):Tr ((RW×Int)⊕((Bool)⊕(RW))):=(.ask ((decide (v.2<(v.1.length:Int)))) (.ask (decide (0≤v.2∧v.2<v.1.length)) (.opt (v.1[(v.2).toNat]?) fun e122=>(.ask (decide (e122.length=14)) (.opt (zE .i64 e122 0) fun y123=>(.opt (zE .i64 e122 1) fun y124=>(.opt (zE .i64 e122 2) fun y125=>(.opt (zE .i64 e122 3) fun y126=>(.opt (zc e122 4) fun y127=>(.opt (zE .i64 e122 5) fun y128=>(.opt (zE .i64 e122 6) fun y129=>(.opt (zAG e122 7) fun y130=>(.opt (zAG e122 8) fun y131=>(.opt (zE .i64 e122 9) fun y132=>(.opt (zE .i64 e122 10) fun y133=>(.opt (zAG e122 11) fun y134=>(.opt (zAG e122 12) fun y135=>(.opt (zAr e122 13) fun y136=>(.opt (qBo n y123 y124 y125 y126 y127 y128 y129 y130 y131 y132 y133 y134 y135 y136) fun r137=>(.ask ((!r137)) (.done (.inr (.inl (false)))) (.opt (zC (qAe n) n (v.1,v.2,(0:Int))) fun r149=>(.alt r149 (fun r150=>(.done (.inr (.inl (r150))))) (fun r151=>(.done (.inl (r151.1,(IntKind.i64.wrap (r151.2+(1:Int))))))))))))))))))))))))) .fail)) .fail) (.done (.inr (.inr (v.1)))))
def qCk (n:Nat) (x0:RW):Tr (Bool):=(.ask ((decide ((x0.length:Int)<(1:Int)))) (.done false) (.ask ((decide ((x0.length:Int)>(60:Int)))) (.done false) (.opt (zC (qA2 n) n (x0,(0:Int))) fun r152=>(.alt r152 (fun r153=>(.done r153)) (fun r154=>(.opt (qAk n r154 (IntKind.i64.wrap ((r154.length:Int)-(1:Int)))) fun r165=>(.ask ((r165==(0:Int))) (.ask (decide (0≤(IntKind.i64.wrap ((r154.length:Int)-(1:Int)))∧(IntKind.i64.wrap ((r154.length:Int)-(1:Int)))<r154.length)) (.opt (r154[((IntKind.i64.wrap ((r154.length:Int)-(1:Int)))).toNat]?) fun e166=>(.ask (decide (e166.length=14)) (.opt (zE .i64 e166 0) fun y167=>(.ask ((y167 !=(3:Int))) (.opt (qAl n r154 (IntKind.i64.wrap ((r154.length:Int)-(1:Int)))) fun r176=>(.done (decide (r176≤(12:Int))))) (.done false))) .fail)) .fail) (.done false))))))))
def qBV:Nat→RW→Option (Bool)
 |0,_=>none
 |n+1,x0=>(qCk n x0).run
abbrev qEQ (n:Nat):List (Ent (Rn n)):= [en (qGs n),en (qDy n),en (qFS n),en (qFT n)]
def qIO (n:Nat):LEnt (lb 29 (KB 21)) (Rn n) n:=lok (Uniq.pick (zU 21) 29) 475 ⟨⟨[(0,aL),(3,aI),(4,aI)],[],[]⟩,[(.ret,⟨[(2,aB)],[],[]⟩),(.exit 2,⟨[(0,aL),(3,aI)],[],[]⟩)]⟩ (qAe n) (qEQ n) [] fun _=>(by kernel_rfl)
def qJF (n:Nat):LEnt (KB 21) (Rn n) n:=lok (zU 21) 29 ⟨⟨[(0,aL),(3,aI)],[],[]⟩,[(.ret,⟨[(2,aB)],[],[]⟩),(.exit 0,⟨[(0,aL)],[],[]⟩)]⟩ (qA2 n) (qEQ n) [qIO n] fun _=>(by kernel_rfl)
theorem qGB:∀n,Ok (Rn n) qLB (qBV n)
 |0=>ok0 fun _=>rfl
 |n+1=>stO (T:=qCk n) (by kernel_rfl) (qEQ n) [qJF n] (fun _=>(by kernel_rfl)) fun _=>(by kernel_rfl)
def qJs:Sg:=⟨9,[aS],[],⟨(.tup [(false,[qL]),(false,[qB])]),[],[]⟩⟩
def qFU (n:Nat) (x0:BA):Tr (RW×Bool):=(.opt (qCe n x0) fun r27=>(.ask ((!r27)) (.ask (decide (0=([]:RW).length)) (.done (([]:RW),false)) .fail) (.opt (qDg n (1:Int) x0 (0:Int) false (0:Nat) ([]:RW)) fun r120=>(.opt (qBU n r120.2.1 r120.2.2.1 r120.2.2.2.1 r120.2.2.2.2.1 r120.2.2.2.2.2) fun r121=>(.ask (r121.2.2.1) (.ask (decide (0=([]:RW).length)) (.done (([]:RW),false)) .fail) (.ask ((decide (r121.2.1<(x0.size:Int)))) (.ask (decide (0=([]:RW).length)) (.done (([]:RW),false)) .fail) (.ask (decide (r121.2.2.2.1=r121.2.2.2.2.length)) (.opt (qBV n r121.2.2.2.2) fun r177=>(.ask (zAa (⟨(.c (.p (.b r177))),[],[]⟩:Res)) (.ask ((!r177)) (.ask (decide (0=([]:RW).length)) (.done (([]:RW),false)) .fail) (.ask (decide (r121.2.2.2.1=r121.2.2.2.2.length)) (.done (r121.2.2.2.2,true)) .fail)) .fail)) .fail)))))))
def qDj:Nat→BA→Option (RW×Bool)
 |0,_=>none
 |n+1,x0=>(qFU n x0).run
abbrev qJt (n:Nat):List (Ent (Rn n)):= [en (qEr n),en (qK8 n),en (qDR n),en (qGB n)]
theorem qJG:∀n,Ok (Rn n) qJs (qDj n)
 |0=>ok0 fun _=>rfl
 |n+1=>stO (T:=qFU n) (by kernel_rfl) (qJt n) [] (fun _=>(by kernel_rfl)) fun _=>(by kernel_rfl)
def qMu:Sg:=⟨108,[aS],[],⟨aS,[],[]⟩⟩
def qBL (n:Nat) (v:BA×BA×Int):Tr ((BA×BA×Int)⊕((BA))):=(.ask ((decide (v.2.2<(v.1.size:Int)))) (.ask (decide (0≤v.2.2)) (.opt (v.1.toList[(v.2.2).toNat]?) fun c195=>(.ask (((c195.toNat:Int)==(34:Int))) (.ask (decide (v.2.1.size+(⟨#[34]⟩:BA).size≤9223372036854775807)) (.ask (decide (0≤v.2.2∧v.2.2≤(IntKind.i64.wrap (v.2.2+(1:Int)))∧(IntKind.i64.wrap (v.2.2+(1:Int)))≤v.1.size)) (.ask (decide ((v.2.1++(⟨#[34]⟩:BA)).size+(v.1.extract (v.2.2).toNat ((IntKind.i64.wrap (v.2.2+(1:Int)))).toNat).size≤9223372036854775807)) (.done (.inl (v.1,((v.2.1++(⟨#[34]⟩:BA))++(v.1.extract (v.2.2).toNat ((IntKind.i64.wrap (v.2.2+(1:Int)))).toNat)),(IntKind.i64.wrap (v.2.2+(1:Int)))))) .fail) .fail) .fail) (.ask (decide (0≤v.2.2∧v.2.2≤(IntKind.i64.wrap (v.2.2+(1:Int)))∧(IntKind.i64.wrap (v.2.2+(1:Int)))≤v.1.size)) (.ask (decide (v.2.1.size+(v.1.extract (v.2.2).toNat ((IntKind.i64.wrap (v.2.2+(1:Int)))).toNat).size≤9223372036854775807)) (.done (.inl (v.1,(v.2.1++(v.1.extract (v.2.2).toNat ((IntKind.i64.wrap (v.2.2+(1:Int)))).toNat)),(IntKind.i64.wrap (v.2.2+(1:Int)))))) .fail) .fail))) .fail) (.done (.inr (v.2.1))))
def qFV (n:Nat) (x0:BA):Tr (BA):=(.opt (zC (qBL n) n (x0,(⟨#[34]⟩:BA),(0:Int))) fun r196=>(.ask (decide (r196.size+(⟨#[34]⟩:BA).size≤9223372036854775807)) (.done (r196++(⟨#[34]⟩:BA))) .fail))
def qD3:Nat→BA→Option (BA)
 |0,_=>none
 |n+1,x0=>(qFV n x0).run
def qKV (n:Nat):LEnt (KB 108) (Rn n) n:=lok (zU 108) 29 ⟨⟨[(0,aS),(3,aS),(4,aI)],[],[]⟩,[(.exit 0,⟨[(3,aS)],[],[]⟩)]⟩ (qBL n) [] [] fun _=>(by kernel_rfl)
theorem qL8:∀n,Ok (Rn n) qMu (qD3 n)
 |0=>ok0 fun _=>rfl
 |n+1=>stO (T:=qFV n) (by kernel_rfl) [] [qKV n] (fun _=>(by kernel_rfl)) fun _=>(by kernel_rfl)
def qHH:Sg:=⟨96,[aI],[],⟨aS,[],[]⟩⟩
def qCw (n:Nat) (v:Int×BA):Tr ((Int×BA)⊕((Int×BA))):=(.ask ((decide (v.1≥(10:Int)))) (.ask (decide (1=([[(.i .u8 (IntKind.u8.wrap (IntKind.i64.wrap ((48:Int)+(Int.tmod v.1 (10:Int))))))]]:RW).length)) (.opt (bytesOf ([[(.i .u8 (IntKind.u8.wrap (IntKind.i64.wrap ((48:Int)+(Int.tmod v.1 (10:Int))))))]]:RW)) fun l200=>(.ask (decide ((⟨l200.toArray⟩:BA).size+v.2.size≤9223372036854775807)) (.done (.inl ((IntKind.i64.wrap (Int.tdiv v.1 (10:Int))),((⟨l200.toArray⟩:BA)++v.2)))) .fail)) .fail) (.done (.inr ((v.1,v.2)))))
def qFC (rec:Int→Option (BA)) (n:Nat) (x0:Int):Tr (BA):=(.ask ((decide (x0<(0:Int)))) (.opt (rec (IntKind.i64.wrap (0-x0))) fun r199=>(.ask (decide ((⟨#[45]⟩:BA).size+r199.size≤9223372036854775807)) (.done ((⟨#[45]⟩:BA)++r199)) .fail)) (.opt (zC (qCw n) n (x0,(⟨#[]⟩:BA))) fun r201=>(.ask (decide (1=([[(.i .u8 (IntKind.u8.wrap (IntKind.i64.wrap ((48:Int)+r201.1))))]]:RW).length)) (.opt (bytesOf ([[(.i .u8 (IntKind.u8.wrap (IntKind.i64.wrap ((48:Int)+r201.1))))]]:RW)) fun l202=>(.ask (decide ((⟨l202.toArray⟩:BA).size+r201.2.size≤9223372036854775807)) (.done ((⟨l202.toArray⟩:BA)++r201.2)) .fail)) .fail)))
def qAn:Nat→Int→Option (BA)
 |0,_=>none
 |n+1,x0=>(qFC (qAn n) n x0).run
abbrev qKW (n:Nat) (ih:Ok (Rn n) qHH (qAn n)):List (Ent (Rn n)):= [en ih]
def qL9 (n:Nat) (ih:Ok (Rn n) qHH (qAn n)):LEnt (KB 96) (Rn n) n:=lok (zU 96) 30 ⟨⟨[(0,aI),(3,aS)],[],[]⟩,[(.exit 0,⟨[(0,aI),(3,aS)],[],[]⟩)]⟩ (qCw n) (qKW n ih) [] fun _=>(by kernel_rfl)
theorem qEa:∀n,Ok (Rn n) qHH (qAn n)
 |0=>ok0 fun _=>rfl
 |n+1=>stO (T:=qFC (qAn n) n) (by kernel_rfl) (qKW n (qEa n)) [qL9 n (qEa n)] (fun _=>(by kernel_rfl)) fun _=>(by kernel_rfl)
def qNp:Sg:=⟨115,[aI],[],⟨aS,[],[]⟩⟩
def qGc (n:Nat) (x0:Int):Tr (BA):=(.ask ((x0==(1:Int))) (.done (⟨#[84,82,85,69]⟩:BA)) (.done (⟨#[70,65,76,83,69]⟩:BA)))
def qEb:Nat→Int→Option (BA)
 |0,_=>none
 |n+1,x0=>(qGc n x0).run
theorem qMv:∀n,Ok (Rn n) qNp (qEb n)
 |0=>ok0 fun _=>rfl
 |n+1=>stO (T:=qGc n) (by kernel_rfl) [] [] (fun _=>(by kernel_rfl)) fun _=>(by kernel_rfl)
def qLC:Sg:=⟨57,[(.agg [qI,qI,qS])],[],⟨aS,[],[]⟩⟩
def qBC (n:Nat) (x0 x1:Int) (x2:BA):Tr (BA):=(.opt (qX n x0 x1 x2) fun r198=>(.ask ((!r198)) (.done (⟨#[]⟩:BA)) (.ask ((x0==(1:Int))) (.opt (qAn n x1) fun r203=>(.done r203)) (.ask ((x0==(2:Int))) (.ask (decide ((⟨#[39]⟩:BA).size+x2.size≤9223372036854775807)) (.done ((⟨#[39]⟩:BA)++x2)) .fail) (.ask ((x0==(3:Int))) (.opt (qEb n x1) fun r204=>(.done r204)) (.ask ((x0==(4:Int))) (.opt (qBG n x1) fun r205=>(.done r205)) (.done (⟨#[]⟩:BA))))))))
def qAK:Nat→Int→Int→BA→Option (BA)
 |0,_,_,_=>none
 |n+1,x0,x1,x2=>(qBC n x0 x1 x2).run
abbrev qLD (n:Nat):List (Ent (Rn n)):= [en (qDf n),en (qEa n),en (qMv n),en (qFO n)]
theorem qGC:∀n,Ok (Rn n) qLC (qAK n)
 |0=>ok0 fun _=>rfl
 |n+1=>stO (T:=qBC n) (by kernel_rfl) (qLD n) [] (fun _=>(by kernel_rfl)) fun _=>(by kernel_rfl)
def qLE:Sg:=⟨94,[(.agg [qI,qI,qB,qB])],[],⟨aS,[],[]⟩⟩
def qDL (n:Nat) (x0 x1:Int) (x2 x3:Bool):Tr (BA):=(.opt (qAE n x0 x1) fun r207=>(.ask ((!r207)) (.done (⟨#[]⟩:BA)) (.opt (qCi n x0) fun r208=>(.ask (x2) (.ask (decide ((⟨#[36]⟩:BA).size+r208.size≤9223372036854775807)) (.ask (x3) (.ask (decide (((⟨#[36]⟩:BA)++r208).size+(⟨#[36]⟩:BA).size≤9223372036854775807)) (.opt (qAn n x1) fun r209=>(.ask (decide ((((⟨#[36]⟩:BA)++r208)++(⟨#[36]⟩:BA)).size+r209.size≤9223372036854775807)) (.done ((((⟨#[36]⟩:BA)++r208)++(⟨#[36]⟩:BA))++r209)) .fail)) .fail) (.opt (qAn n x1) fun r210=>(.ask (decide (((⟨#[36]⟩:BA)++r208).size+r210.size≤9223372036854775807)) (.done (((⟨#[36]⟩:BA)++r208)++r210)) .fail))) .fail) (.ask (x3) (.ask (decide (r208.size+(⟨#[36]⟩:BA).size≤9223372036854775807)) (.opt (qAn n x1) fun r211=>(.ask (decide ((r208++(⟨#[36]⟩:BA)).size+r211.size≤9223372036854775807)) (.done ((r208++(⟨#[36]⟩:BA))++r211)) .fail)) .fail) (.opt (qAn n x1) fun r212=>(.ask (decide (r208.size+r212.size≤9223372036854775807)) (.done (r208++r212)) .fail)))))))
def qBW:Nat→Int→Int→Bool→Bool→Option (BA)
 |0,_,_,_,_=>none
 |n+1,x0,x1,x2,x3=>(qDL n x0 x1 x2 x3).run
abbrev qLF (n:Nat):List (Ent (Rn n)):= [en (qDa n),en (qHg n),en (qEa n)]
theorem qKX:∀n,Ok (Rn n) qLE (qBW n)
 |0=>ok0 fun _=>rfl
 |n+1=>stO (T:=qDL n) (by kernel_rfl) (qLF n) [] (fun _=>(by kernel_rfl)) fun _=>(by kernel_rfl)
def qGd:Sg:=⟨51,[aL,aI,aI],[],⟨aS,[],[]⟩⟩
def qBM (rec:RW→Int→Int→Option (BA)) (n:Nat) (v:RW×BA×Int×Int×Int×Int×Int×BA×Int×Int×Bool×Bool×Int×Int×Bool×Bool×RW):Tr ((RW×BA×Int×Int×Int×Int×Int×BA×Int×Int×Bool×Bool×Int×Int×Bool×Bool×RW)⊕((BA))):=(.ask ((decide (v.2.2.1<(v.2.2.2.2.2.2.2.2.2.2.2.2.2.2.2.2.length:Int)))) (.ask ((decide (v.2.2.1>(0:Int)))) (.ask (decide (v.2.1.size+(⟨#[44]⟩:BA).size≤9223372036854775807)) (.ask (decide (0≤v.2.2.1∧v.2.2.1<v.2.2.2.2.2.2.2.2.2.2.2.2.2.2.2.2.length)) (.opt (v.2.2.2.2.2.2.2.2.2.2.2.2.2.2.2.2[(v.2.2.1).toNat]?) fun e228=>(.ask (decide (e228.length=1)) (.opt (zE .i64 e228 0) fun y229=>(.opt (rec v.1 y229 (0:Int)) fun r230=>(.ask (decide ((v.2.1++(⟨#[44]⟩:BA)).size+r230.size≤9223372036854775807)) (.done (.inl (v.1,((v.2.1++(⟨#[44]⟩:BA))++r230),(IntKind.i64.wrap (v.2.2.1+(1:Int))),v.2.2.2.1,v.2.2.2.2.1,v.2.2.2.2.2.1,v.2.2.2.2.2.2.1,v.2.2.2.2.2.2.2.1,v.2.2.2.2.2.2.2.2.1,v.2.2.2.2.2.2.2.2.2.1,v.2.2.2.2.2.2.2.2.2.2.1,v.2.2.2.2.2.2.2.2.2.2.2.1,v.2.2.2.2.2.2.2.2.2.2.2.2.1,v.2.2.2.2.2.2.2.2.2.2.2.2.2.1,v.2.2.2.2.2.2.2.2.2.2.2.2.2.2.1,v.2.2.2.2.2.2.2.2.2.2.2.2.2.2.2.1,v.2.2.2.2.2.2.2.2.2.2.2.2.2.2.2.2))) .fail))) .fail)) .fail) .fail) (.ask (decide (0≤v.2.2.1∧v.2.2.1<v.2.2.2.2.2.2.2.2.2.2.2.2.2.2.2.2.length)) (.opt (v.2.2.2.2.2.2.2.2.2.2.2.2.2.2.2.2[(v.2.2.1).toNat]?) fun e231=>(.ask (decide (e231.length=1)) (.opt (zE .i64 e231 0) fun y232=>(.opt (rec v.1 y232 (0:Int)) fun r233=>(.ask (decide (v.2.1.size+r233.size≤9223372036854775807)) (.done (.inl (v.1,(v.2.1++r233),(IntKind.i64.wrap (v.2.2.1+(1:Int))),v.2.2.2.1,v.2.2.2.2.1,v.2.2.2.2.2.1,v.2.2.2.2.2.2.1,v.2.2.2.2.2.2.2.1,v.2.2.2.2.2.2.2.2.1,v.2.2.2.2.2.2.2.2.2.1,v.2.2.2.2.2.2.2.2.2.2.1,v.2.2.2.2.2.2.2.2.2.2.2.1,v.2.2.2.2.2.2.2.2.2.2.2.2.1,v.2.2.2.2.2.2.2.2.2.2.2.2.2.1,v.2.2.2.2.2.2.2.2.2.2.2.2.2.2.1,v.2.2.2.2.2.2.2.2.2.2.2.2.2.2.2.1,v.2.2.2.2.2.2.2.2.2.2.2.2.2.2.2.2))) .fail))) .fail)) .fail)) (.done (.inr (v.2.1))))
def qBg (rec:RW→Int→Int→Option (BA)) (n:Nat) (x0:RW) (x1 x2:Int):Tr (BA):=(.ask (decide (0≤x1∧x1<x0.length)) (.opt (x0[(x1).toNat]?) fun e180=>(.ask (decide (e180.length=14)) (.opt (zE .i64 e180 0) fun y181=>(.opt (zE .i64 e180 1) fun y182=>(.opt (zE .i64 e180 2) fun y183=>(.opt (zE .i64 e180 3) fun y184=>(.opt (zc e180 4) fun y185=>(.opt (zE .i64 e180 5) fun y186=>(.opt (zE .i64 e180 6) fun y187=>(.opt (zAG e180 7) fun y188=>(.opt (zAG e180 8) fun y189=>(.opt (zE .i64 e180 9) fun y190=>(.opt (zE .i64 e180 10) fun y191=>(.opt (zAG e180 11) fun y192=>(.opt (zAG e180 12) fun y193=>(.opt (zAr e180 13) fun y194=>(.ask ((y181==(1:Int))) (.ask ((y183==(2:Int))) (.opt (qD3 n y185) fun r197=>(.done r197)) (.opt (qAK n y183 y184 y185) fun r206=>(.done r206))) (.ask ((y181==(2:Int))) (.opt (qBW n y186 y187 y188 y189) fun r213=>(.done r213)) (.ask ((y181==(3:Int))) (.opt (qBW n y186 y187 y188 y189) fun r214=>(.ask (decide (r214.size+(⟨#[58]⟩:BA).size≤9223372036854775807)) (.opt (qBW n y190 y191 y192 y193) fun r215=>(.ask (decide ((r214++(⟨#[58]⟩:BA)).size+r215.size≤9223372036854775807)) (.done ((r214++(⟨#[58]⟩:BA))++r215)) .fail)) .fail)) (.ask ((y181==(4:Int))) (.ask (decide (0≤(0:Int)∧(0:Int)<y194.length)) (.opt (y194[((0:Int)).toNat]?) fun e216=>(.ask (decide (e216.length=1)) (.opt (zE .i64 e216 0) fun y217=>(.opt (rec x0 y217 (5:Int)) fun r218=>(.ask (decide ((⟨#[45]⟩:BA).size+r218.size≤9223372036854775807)) (.done ((⟨#[45]⟩:BA)++r218)) .fail))) .fail)) .fail) (.ask ((y181==(5:Int))) (.opt (qB2 n y182) fun r219=>(.ask (decide (0≤(0:Int)∧(0:Int)<y194.length)) (.opt (y194[((0:Int)).toNat]?) fun e220=>(.ask (decide (e220.length=1)) (.opt (zE .i64 e220 0) fun y221=>(.ask (decide (0≤(1:Int)∧(1:Int)<y194.length)) (.opt (y194[((1:Int)).toNat]?) fun e222=>(.ask (decide (e222.length=1)) (.opt (zE .i64 e222 0) fun y223=>(.opt (rec x0 y221 r219) fun r224=>(.opt (qCV n y182) fun r225=>(.ask (decide (r224.size+r225.size≤9223372036854775807)) (.opt (rec x0 y223 (IntKind.i64.wrap (r219+(1:Int)))) fun r226=>(.ask (decide ((r224++r225).size+r226.size≤9223372036854775807)) (.ask ((decide (r219<x2))) (.ask (decide ((⟨#[40]⟩:BA).size+((r224++r225)++r226).size≤9223372036854775807)) (.ask (decide (((⟨#[40]⟩:BA)++((r224++r225)++r226)).size+(⟨#[41]⟩:BA).size≤9223372036854775807)) (.done (((⟨#[40]⟩:BA)++((r224++r225)++r226))++(⟨#[41]⟩:BA))) .fail) .fail) (.done ((r224++r225)++r226))) .fail)) .fail)))) .fail)) .fail)) .fail)) .fail)) (.opt (qCG n y182) fun r227=>(.ask (decide (r227.size+(⟨#[40]⟩:BA).size≤9223372036854775807)) (.opt (zC (qBM rec n) n (x0,(r227++(⟨#[40]⟩:BA)),(0:Int),y181,y182,y183,y184,y185,y186,y187,y188,y189,y190,y191,y192,y193,y194)) fun r234=>(.ask (decide (r234.size+(⟨#[41]⟩:BA).size≤9223372036854775807)) (.done (r234++(⟨#[41]⟩:BA))) .fail)) .fail))))))))))))))))))))) .fail)) .fail)
def qk:Nat→RW→Int→Int→Option (BA)
 |0,_,_,_=>none
 |n+1,x0,x1,x2=>(qBg (qk n) n x0 x1 x2).run
abbrev qJd (n:Nat) (ih:Ok (Rn n) qGd (qk n)):List (Ent (Rn n)):= [en (qL8 n),en (qGC n),en (qKX n),en ih,en (qHh n),en (qIK n),en (qKR n)]
def qKY (n:Nat) (ih:Ok (Rn n) qGd (qk n)):LEnt (KB 51) (Rn n) n:=lok (zU 51) 125 ⟨⟨[(0,aL),(7,(.c (.ptr 0 448 0 0 0))),(10,aS),(11,aI)],[(448,⟨0,14,64,(.box [qI,qI,qI,qI,qS,qI,qI,qB,qB,qI,qI,qB,qB,qL])⟩)],[]⟩,[(.exit 1,⟨[(10,aS)],[],[]⟩)]⟩ (qBM (qk n) n) (qJd n ih) [] fun _=>(by kernel_rfl)
theorem qFW:∀n,Ok (Rn n) qGd (qk n)
 |0=>ok0 fun _=>rfl
 |n+1=>stO (T:=qBg (qk n) n) (by kernel_rfl) (qJd n (qFW n)) [qKY n (qFW n)] (fun _=>(by kernel_rfl)) fun _=>(by kernel_rfl)
def qJu:Sg:=⟨20,[aL],[],⟨aS,[],[]⟩⟩
def qCq (n:Nat) (x0:RW):Tr (BA):=(.opt (qBV n x0) fun r179=>(.ask ((!r179)) (.done (⟨#[]⟩:BA)) (.opt (qk n x0 (IntKind.i64.wrap ((x0.length:Int)-(1:Int))) (0:Int)) fun r235=>(.ask ((decide ((r235.size:Int)>(200:Int)))) (.done (⟨#[]⟩:BA)) (.done r235)))))
def qBX:Nat→RW→Option (BA)
 |0,_=>none
 |n+1,x0=>(qCq n x0).run
abbrev qJv (n:Nat):List (Ent (Rn n)):= [en (qGB n),en (qFW n)]
theorem qJH:∀n,Ok (Rn n) qJu (qBX n)
 |0=>ok0 fun _=>rfl
 |n+1=>stO (T:=qCq n) (by kernel_rfl) (qJv n) [] (fun _=>(by kernel_rfl)) fun _=>(by kernel_rfl)
def qMA:Sg:=⟨56,[aS],[],⟨(.tup [(true,[qI,qI,qS]),(false,[qB])]),[],[]⟩⟩
def qBY (n:Nat) (v:BA×Bool×Int×Int×BA):Tr ((BA×Bool×Int×Int×BA)⊕((BA×Bool×Int×Int×BA))):=(.ask ((decide ((v.1.size:Int)>(1:Int)))) (.ask (decide (0≤(0:Int))) (.opt (v.1.toList[((0:Int)).toNat]?) fun c238=>(.ask (((c238.toNat:Int)==(48:Int))) (.ask (decide (0≤(1:Int)∧(1:Int)≤(v.1.size:Int)∧(v.1.size:Int)≤v.1.size)) (.done (.inl ((v.1.extract ((1:Int)).toNat ((v.1.size:Int)).toNat),v.2.1,v.2.2.1,v.2.2.2.1,v.2.2.2.2))) .fail) (.done (.inr ((v.1,v.2.1,v.2.2.1,v.2.2.2.1,v.2.2.2.2)))))) .fail) (.done (.inr ((v.1,v.2.1,v.2.2.1,v.2.2.2.1,v.2.2.2.2)))))
def qHp (n:Nat) (x0:BA):Tr (Int×Int×BA×Bool):=(.ask ((decide ((x0.size:Int)>(0:Int)))) (.ask (decide (0≤(0:Int))) (.opt (x0.toList[((0:Int)).toNat]?) fun c237=>(.ask (((c237.toNat:Int)==(45:Int))) (.ask (decide (0≤(1:Int)∧(1:Int)≤(x0.size:Int)∧(x0.size:Int)≤x0.size)) (.ask (((x0.extract ((1:Int)).toNat ((x0.size:Int)).toNat).toList==(⟨#[]⟩:BA).toList)) (.done ((0:Int),(0:Int),(⟨#[]⟩:BA),false)) (.opt (zC (qBY n) n ((x0.extract ((1:Int)).toNat ((x0.size:Int)).toNat),((c237.toNat:Int)==(45:Int)),(0:Int),(0:Int),(⟨#[]⟩:BA))) fun r239=>(.opt (qq n r239.1 (16:Int)) fun r240=>(.ask (r239.2.1) (.ask (r240.2) (.opt (qX n (1:Int) (IntKind.i64.wrap (0-r240.1)) (⟨#[]⟩:BA)) fun r241=>(.done ((1:Int),(IntKind.i64.wrap (0-r240.1)),(⟨#[]⟩:BA),r241))) (.done ((1:Int),(IntKind.i64.wrap (0-r240.1)),(⟨#[]⟩:BA),false))) (.ask (r240.2) (.opt (qX n (1:Int) r240.1 (⟨#[]⟩:BA)) fun r242=>(.done ((1:Int),r240.1,(⟨#[]⟩:BA),r242))) (.done ((1:Int),r240.1,(⟨#[]⟩:BA),false))))))) .fail) (.ask ((x0.toList==(⟨#[]⟩:BA).toList)) (.done ((0:Int),(0:Int),(⟨#[]⟩:BA),false)) (.opt (zC (qBY n) n (x0,((c237.toNat:Int)==(45:Int)),(0:Int),(0:Int),(⟨#[]⟩:BA))) fun r243=>(.opt (qq n r243.1 (16:Int)) fun r244=>(.ask (r243.2.1) (.ask (r244.2) (.opt (qX n (1:Int) (IntKind.i64.wrap (0-r244.1)) (⟨#[]⟩:BA)) fun r245=>(.done ((1:Int),(IntKind.i64.wrap (0-r244.1)),(⟨#[]⟩:BA),r245))) (.done ((1:Int),(IntKind.i64.wrap (0-r244.1)),(⟨#[]⟩:BA),false))) (.ask (r244.2) (.opt (qX n (1:Int) r244.1 (⟨#[]⟩:BA)) fun r246=>(.done ((1:Int),r244.1,(⟨#[]⟩:BA),r246))) (.done ((1:Int),r244.1,(⟨#[]⟩:BA),false))))))))) .fail) (.ask ((x0.toList==(⟨#[]⟩:BA).toList)) (.done ((0:Int),(0:Int),(⟨#[]⟩:BA),false)) (.opt (zC (qBY n) n (x0,false,(0:Int),(0:Int),(⟨#[]⟩:BA))) fun r247=>(.opt (qq n r247.1 (16:Int)) fun r248=>(.ask (r247.2.1) (.ask (r248.2) (.opt (qX n (1:Int) (IntKind.i64.wrap (0-r248.1)) (⟨#[]⟩:BA)) fun r249=>(.done ((1:Int),(IntKind.i64.wrap (0-r248.1)),(⟨#[]⟩:BA),r249))) (.done ((1:Int),(IntKind.i64.wrap (0-r248.1)),(⟨#[]⟩:BA),false))) (.ask (r248.2) (.opt (qX n (1:Int) r248.1 (⟨#[]⟩:BA)) fun r250=>(.done ((1:Int),r248.1,(⟨#[]⟩:BA),r250))) (.done ((1:Int),r248.1,(⟨#[]⟩:BA),false))))))))
def qEu:Nat→BA→Option (Int×Int×BA×Bool)
 |0,_=>none
 |n+1,x0=>(qHp n x0).run
abbrev qHq (n:Nat):List (Ent (Rn n)):= [en (qGW n),en (qDf n)]
def qJw (n:Nat):LEnt (KB 56) (Rn n) n:=lok (zU 56) 62 ⟨⟨[(0,aS),(2,(.c (.ptr 0 128 0 0 0))),(4,aB)],[(128,⟨0,3,37,(.box [qI,qI,qS])⟩)],[]⟩,[(.exit 0,⟨[(0,aS),(2,(.c (.ptr 0 128 0 0 0))),(4,aB)],[(128,⟨0,3,37,(.box [qI,qI,qS])⟩)],[]⟩)]⟩ (qBY n) (qHq n) [] fun _=>(by kernel_rfl)
theorem qLG:∀n,Ok (Rn n) qMA (qEu n)
 |0=>ok0 fun _=>rfl
 |n+1=>stO (T:=qHp n) (by kernel_rfl) (qHq n) [qJw n] (fun _=>(by kernel_rfl)) fun _=>(by kernel_rfl)
def qMw:Sg:=⟨22,[aS],[],⟨(.tup [(false,[qS]),(false,[qB])]),[],[]⟩⟩
def qIP (n:Nat) (x0:BA):Tr (BA×Bool):=(.opt (qCe n x0) fun r25=>(.ask ((!r25)) (.done ((⟨#[]⟩:BA),false)) (.ask ((x0.toList==(⟨#[]⟩:BA).toList)) (.done ((⟨#[]⟩:BA),true)) (.ask (decide (0≤(0:Int))) (.opt (x0.toList[((0:Int)).toNat]?) fun c26=>(.ask (((c26.toNat:Int)==(61:Int))) (.ask (decide (0≤(1:Int)∧(1:Int)≤(x0.size:Int)∧(x0.size:Int)≤x0.size)) (.opt (qDj n (x0.extract ((1:Int)).toNat ((x0.size:Int)).toNat)) fun r178=>(.opt (qBX n r178.1) fun r236=>(.ask ((!r178.2)) (.done ((⟨#[]⟩:BA),false)) (.ask ((r236.toList==(⟨#[]⟩:BA).toList)) (.done ((⟨#[]⟩:BA),false)) (.ask ((decide ((IntKind.i64.wrap ((r236.size:Int)+(1:Int)))>(200:Int)))) (.done ((⟨#[]⟩:BA),false)) (.ask (decide ((⟨#[61]⟩:BA).size+r236.size≤9223372036854775807)) (.done (((⟨#[61]⟩:BA)++r236),true)) .fail)))))) .fail) (.opt (qEu n x0) fun r251=>(.ask (r251.2.2.2) (.opt (qAK n r251.1 r251.2.1 r251.2.2.1) fun r252=>(.done (r252,true))) (.opt (qAD n x0) fun r253=>(.ask ((!r253.2.2.2)) (.opt (qAK n (2:Int) (0:Int) x0) fun r254=>(.ask ((decide ((r254.size:Int)>(200:Int)))) (.done ((⟨#[]⟩:BA),false)) (.done (r254,true)))) (.opt (qAK n r253.1 r253.2.1 r253.2.2.1) fun r255=>(.ask ((decide ((r255.size:Int)>(200:Int)))) (.done ((⟨#[]⟩:BA),false)) (.done (r255,true)))))))))) .fail))))
def qD4:Nat→BA→Option (BA×Bool)
 |0,_=>none
 |n+1,x0=>(qIP n x0).run
abbrev qMx (n:Nat):List (Ent (Rn n)):= [en (qEr n),en (qJG n),en (qJH n),en (qLG n),en (qGC n),en (qGA n)]
theorem qMB:∀n,Ok (Rn n) qMw (qD4 n)
 |0=>ok0 fun _=>rfl
 |n+1=>stO (T:=qIP n) (by kernel_rfl) (qMx n) [] (fun _=>(by kernel_rfl)) fun _=>(by kernel_rfl)
def qMy:Sg:=⟨75,[(.agg [qI,qI]),(.agg [qI,qI])],[],⟨aB,[],[]⟩⟩
def qFX (n:Nat) (x0 x1 x2 x3:Int):Tr (Bool):=(.ask ((decide (x1<x3))) (.done true) (.ask ((x1==x3)) (.done (decide (x0<x2))) (.done false)))
def qDA:Nat→Int→Int→Int→Int→Option (Bool)
 |0,_,_,_,_=>none
 |n+1,x0,x1,x2,x3=>(qFX n x0 x1 x2 x3).run
theorem qMC:∀n,Ok (Rn n) qMy (qDA n)
 |0=>ok0 fun _=>rfl
 |n+1=>stO (T:=qFX n) (by kernel_rfl) [] [] (fun _=>(by kernel_rfl)) fun _=>(by kernel_rfl)
def qMz:Sg:=⟨28,[aL],[],⟨aB,[],[]⟩⟩
def qD5 (n:Nat) (v:RW×Int):Tr ((RW×Int)⊕((Bool)⊕(Unit))):=(.ask ((decide (v.2<(v.1.length:Int)))) (.ask (decide (0≤v.2∧v.2<v.1.length)) (.opt (v.1[(v.2).toNat]?) fun e18=>(.ask (decide (e18.length=3)) (.opt (zc e18 2) fun y19=>(.opt (qD4 n y19) fun r20=>(.ask (decide (0≤v.2∧v.2<v.1.length)) (.opt (v.1[(v.2).toNat]?) fun e21=>(.ask (decide (e21.length=3)) (.opt (zE .i64 e21 0) fun y22=>(.opt (zE .i64 e21 1) fun y23=>(.opt (qAE n y22 y23) fun r24=>(.ask ((!r24)) (.done (.inr (.inl (false)))) (.ask ((!r20.2)) (.done (.inr (.inl (false)))) (.ask (decide (0≤v.2∧v.2<v.1.length)) (.opt (v.1[(v.2).toNat]?) fun e25=>(.ask (decide (e25.length=3)) (.opt (zc e25 2) fun y26=>(.ask ((y26.toList==(⟨#[]⟩:BA).toList)) (.done (.inr (.inl (false)))) (.ask (decide (0≤v.2∧v.2<v.1.length)) (.opt (v.1[(v.2).toNat]?) fun e27=>(.ask (decide (e27.length=3)) (.opt (zc e27 2) fun y28=>(.ask ((!(r20.1.toList==y28.toList))) (.done (.inr (.inl (false)))) (.ask ((decide (v.2>(0:Int)))) (.ask (decide (0≤(IntKind.i64.wrap (v.2-(1:Int)))∧(IntKind.i64.wrap (v.2-(1:Int)))<v.1.length)) (.opt (v.1[((IntKind.i64.wrap (v.2-(1:Int)))).toNat]?) fun e29=>(.ask (decide (e29.length=3)) (.opt (zE .i64 e29 0) fun y30=>(.opt (zE .i64 e29 1) fun y31=>(.ask (decide (0≤v.2∧v.2<v.1.length)) (.opt (v.1[(v.2).toNat]?) fun e32=>(.ask (decide (e32.length=3)) (.opt (zE .i64 e32 0) fun y33=>(.opt (zE .i64 e32 1) fun y34=>(.opt (qDA n y30 y31 y33 y34) fun r35=>(.ask ((!r35)) (.done (.inr (.inl (false)))) (.done (.inl (v.1,(IntKind.i64.wrap (v.2+(1:Int)))))))))) .fail)) .fail))) .fail)) .fail) (.done (.inl (v.1,(IntKind.i64.wrap (v.2+(1:Int))))))))) .fail)) .fail))) .fail)) .fail)))))) .fail)) .fail))) .fail)) .fail) (.done (.inr (.inr (())))))
def qIQ (n:Nat) (x0:RW):Tr (Bool):=(.ask ((decide ((x0.length:Int)>(120:Int)))) (.done false) (.opt (zC (qD5 n) n (x0,(0:Int))) fun r36=>(.alt r36 (fun r37=>(.done r37)) (fun r38=>(.done true)))))
def qFY:Nat→RW→Option (Bool)
 |0,_=>none
 |n+1,x0=>(qIQ n x0).run
abbrev qIR (n:Nat):List (Ent (Rn n)):= [en (qMB n),en (qDa n),en (qMC n)]
def qKZ (n:Nat):LEnt (KB 28) (Rn n) n:=lok (zU 28) 29 ⟨⟨[(0,aL),(3,aI)],[],[]⟩,[(.ret,⟨[(2,aB)],[],[]⟩),(.exit 0,⟨[],[],[]⟩)]⟩ (qD5 n) (qIR n) [] fun _=>(by kernel_rfl)
theorem qMD:∀n,Ok (Rn n) qMz (qFY n)
 |0=>ok0 fun _=>rfl
 |n+1=>stO (T:=qIQ n) (by kernel_rfl) (qIR n) [qKZ n] (fun _=>(by kernel_rfl)) fun _=>(by kernel_rfl)
def qNq:Sg:=⟨48,[aI,aI,aI],[],⟨aB,[],[]⟩⟩
def qGe (n:Nat) (x0 x1 x2:Int):Tr (Bool):=(.ask ((decide (x0≥x1))) (.done (decide (x0≤x2))) (.done false))
def qAd:Nat→Int→Int→Int→Option (Bool)
 |0,_,_,_=>none
 |n+1,x0,x1,x2=>(qGe n x0 x1 x2).run
theorem qDB:∀n,Ok (Rn n) qNq (qAd n)
 |0=>ok0 fun _=>rfl
 |n+1=>stO (T:=qGe n) (by kernel_rfl) [] [] (fun _=>(by kernel_rfl)) fun _=>(by kernel_rfl)
def qOZ:Sg:=⟨77,[(.agg [qI,qI])],[],⟨aB,[],[]⟩⟩
def qHI (n:Nat) (x0 x1:Int):Tr (Bool):=(.opt (qAd n x0 (1:Int) (52:Int)) fun r45=>(.ask (r45) (.opt (qAd n x1 (1:Int) (99:Int)) fun r46=>(.done r46)) (.done false)))
def qBh:Nat→Int→Int→Option (Bool)
 |0,_,_=>none
 |n+1,x0,x1=>(qHI n x0 x1).run
abbrev qOa (n:Nat):List (Ent (Rn n)):= [en (qDB n)]
theorem qEc:∀n,Ok (Rn n) qOZ (qBh n)
 |0=>ok0 fun _=>rfl
 |n+1=>stO (T:=qHI n) (by kernel_rfl) (qOa n) [] (fun _=>(by kernel_rfl)) fun _=>(by kernel_rfl)
def qKa:Sg:=⟨158,[aI],[],⟨aB,[],[]⟩⟩
def qD6 (n:Nat) (x0:Int):Tr (Bool):=(.done (x0 !=x0))
def qCJ:Nat→Int→Option (Bool)
 |0,_=>none
 |n+1,x0=>(qD6 n x0).run
theorem qJx:∀n,Ok (Rn n) qKa (qCJ n)
 |0=>ok0 fun _=>rfl
 |n+1=>stO (T:=qD6 n) (by kernel_rfl) [] [] (fun _=>(by kernel_rfl)) fun _=>(by kernel_rfl)
def qJI:Sg:=⟨126,[aI,aI],[],⟨aI,[],[]⟩⟩
def qDU (n:Nat) (x0 x1:Int):Tr (Int):=(.opt (qCJ n x0) fun r51=>(.opt (qCJ n x1) fun r52=>(.ask (r51) (.ask (r52) (.done (0:Int)) (.done (-1:Int))) (.ask (r52) (.done (1:Int)) (.ask ((decide (x0<x1))) (.done (-1:Int)) (.ask ((decide (x0>x1))) (.done (1:Int)) (.done (0:Int))))))))
def qBq:Nat→Int→Int→Option (Int)
 |0,_,_=>none
 |n+1,x0,x1=>(qDU n x0 x1).run
abbrev qJJ (n:Nat):List (Ent (Rn n)):= [en (qJx n)]
theorem qIS:∀n,Ok (Rn n) qJI (qBq n)
 |0=>ok0 fun _=>rfl
 |n+1=>stO (T:=qDU n) (by kernel_rfl) (qJJ n) [] (fun _=>(by kernel_rfl)) fun _=>(by kernel_rfl)
def qOb:Sg:=⟨125,[aL],[],⟨aI,[],[]⟩⟩
def qCE (n:Nat) (v:Int×RW×Int×Int):Tr ((Int×RW×Int×Int)⊕((Int)⊕(Int))):=(.ask ((decide (v.2.2.2<v.2.2.1))) (.ask (decide (0≤v.2.2.2∧v.2.2.2<v.2.1.length)) (.opt (v.2.1[(v.2.2.2).toNat]?) fun e55=>(.ask (decide (e55.length=1)) (.opt (zE .i64 e55 0) fun y56=>(.ask ((y56 !=v.1)) (.done (.inr (.inl (y56)))) (.done (.inl (v.1,v.2.1,v.2.2.1,(IntKind.i64.wrap (v.2.2.2+(1:Int)))))))) .fail)) .fail) (.done (.inr (.inr (v.1)))))
def qHJ (n:Nat) (x0:RW):Tr (Int):=(.opt (zC (qCE n) n ((0:Int),x0,(x0.length:Int),(0:Int))) fun r57=>(.alt r57 (fun r58=>(.done r58)) (fun r59=>(.done r59))))
def qFD:Nat→RW→Option (Int)
 |0,_=>none
 |n+1,x0=>(qHJ n x0).run
def qME (n:Nat):LEnt (KB 125) (Rn n) n:=lok (zU 125) 29 ⟨⟨[(3,aI),(6,aL),(7,aI),(8,aI)],[],[]⟩,[(.ret,⟨[(2,aI)],[],[]⟩),(.exit 0,⟨[(3,aI)],[],[]⟩)]⟩ (qCE n) [] [] fun _=>(by kernel_rfl)
theorem qNr:∀n,Ok (Rn n) qOb (qFD n)
 |0=>ok0 fun _=>rfl
 |n+1=>stO (T:=qHJ n) (by kernel_rfl) [] [qME n] (fun _=>(by kernel_rfl)) fun _=>(by kernel_rfl)
def qJy:Sg:=⟨78,[(.agg [qI,qI]),(.agg [qI,qI])],[],⟨aI,[],[]⟩⟩
def qDk (n:Nat) (x0 x1 x2 x3:Int):Tr (Int):=(.opt (qBq n x1 x3) fun r53=>(.opt (qBq n x0 x2) fun r54=>(.ask (decide (2=([[(.i .i64 r53)],[(.i .i64 r54)]]:RW).length)) (.opt (qFD n ([[(.i .i64 r53)],[(.i .i64 r54)]]:RW)) fun r60=>(.ask (zAa (⟨(.c (.p (.i .i64 r60))),[],[]⟩:Res)) (.done r60) .fail)) .fail)))
def qBZ:Nat→Int→Int→Int→Int→Option (Int)
 |0,_,_,_,_=>none
 |n+1,x0,x1,x2,x3=>(qDk n x0 x1 x2 x3).run
abbrev qJz (n:Nat):List (Ent (Rn n)):= [en (qIS n),en (qNr n)]
theorem qJK:∀n,Ok (Rn n) qJy (qBZ n)
 |0=>ok0 fun _=>rfl
 |n+1=>stO (T:=qDk n) (by kernel_rfl) (qJz n) [] (fun _=>(by kernel_rfl)) fun _=>(by kernel_rfl)
def qNs:Sg:=⟨35,[aS,aI],[],⟨aB,[],[]⟩⟩
def qBa (n:Nat) (v:BA×Int×Int×Int):Tr ((BA×Int×Int×Int)⊕((Bool)⊕(BA×Int))):=(.ask ((decide (v.2.2.2<v.2.2.1))) (.ask (decide (0≤v.2.2.2)) (.opt (v.1.toList[(v.2.2.2).toNat]?) fun c62=>(.ask ((decide ((c62.toNat:Int)<(32:Int)))) (.done (.inr (.inl (false)))) (.ask (decide (0≤v.2.2.2)) (.opt (v.1.toList[(v.2.2.2).toNat]?) fun c63=>(.ask ((decide ((c63.toNat:Int)>(126:Int)))) (.done (.inr (.inl (false)))) (.done (.inl (v.1,v.2.1,v.2.2.1,(IntKind.i64.wrap (v.2.2.2+(1:Int)))))))) .fail))) .fail) (.done (.inr (.inr ((v.1,v.2.1))))))
def qGf (n:Nat) (x0:BA) (x1:Int):Tr (Bool):=(.opt (zC (qBa n) n (x0,x1,(x0.size:Int),(0:Int))) fun r64=>(.alt r64 (fun r65=>(.done r65)) (fun r66=>(.done (decide ((r66.1.size:Int)≤r66.2))))))
def qC0:Nat→BA→Int→Option (Bool)
 |0,_,_=>none
 |n+1,x0,x1=>(qGf n x0 x1).run
def qLH (n:Nat):LEnt (KB 35) (Rn n) n:=lok (zU 35) 13 ⟨⟨[(0,aS),(1,aI),(7,aI),(8,aI)],[],[]⟩,[(.ret,⟨[(4,aB)],[],[]⟩),(.exit 0,⟨[(0,aS),(1,aI)],[],[]⟩)]⟩ (qBa n) [] [] fun _=>(by kernel_rfl)
theorem qFZ:∀n,Ok (Rn n) qNs (qC0 n)
 |0=>ok0 fun _=>rfl
 |n+1=>stO (T:=qGf n) (by kernel_rfl) [] [qLH n] (fun _=>(by kernel_rfl)) fun _=>(by kernel_rfl)
def qE3:Sg:=⟨59,[aS,aS],[],⟨(.tup [(false,[qS]),(false,[qB])]),[],[]⟩⟩
def qAB:Nat→BA→BA→Option ((BA×Bool))
 |0,_,_=>none
 |n+1,x0,x1=>zY x0 x1
theorem qCK:∀n,Ok (Rn n) qE3 (qAB n)
 |0=>ok0 fun _=>rfl
 |n+1=>stL (by kernel_rfl) (fun a r e=>congrArg (Option.map fun r=>(qE3.Of r).v) e) rfl rfl rfl
def qFa:Sg:=⟨90,[aS,aS],[],⟨aS,[],[]⟩⟩
def qA9:Nat→BA→BA→Option ((BA))
 |0,_,_=>none
 |n+1,x0,x1=>zN x0 x1
theorem qDV:∀n,Ok (Rn n) qFa (qA9 n)
 |0=>ok0 fun _=>rfl
 |n+1=>stL (by kernel_rfl) (fun a r e=>congrArg (Option.map fun r=>(qFa.Of r).v) e) rfl rfl rfl
def qIT:Sg:=⟨37,[(.c (.ptr 0 0 0 0 0))],[[(0,⟨0,3,55,(.box [qS,(.own 0 1 1 0),qB])⟩),(1,⟨1,14,64,(.row [])⟩)]],⟨(.tup []),[[(0,⟨0,3,55,(.box [qS,(.own 0 1 1 0),qB])⟩),(1,⟨1,14,64,(.row [])⟩)]],[]⟩⟩
def qDC (n:Nat) (x0:BA) (x1:Nat) (x2:Bool) (x3:RW):Tr (BA×Nat×Bool×RW):=(.opt (qA9 n x0 (⟨#[32]⟩:BA)) fun r70=>(.done (r70,x1,x2,x3)))
def qAq:Nat→BA→Nat→Bool→RW→Option (BA×Nat×Bool×RW)
 |0,_,_,_,_=>none
 |n+1,x0,x1,x2,x3=>(qDC n x0 x1 x2 x3).run
abbrev qIU (n:Nat):List (Ent (Rn n)):= [en (qDV n)]
theorem qB6:∀n,Ok (Rn n) qIT (qAq n)
 |0=>ok0 fun _=>rfl
 |n+1=>stO (T:=qDC n) (by kernel_rfl) (qIU n) [] (fun _=>(by kernel_rfl)) fun _=>(by kernel_rfl)
def qD7:Sg:=⟨123,[aS,aS],[],⟨aB,[],[]⟩⟩
def qAo (n:Nat) (x0 x1:BA):Tr (Bool):=(.ask ((decide ((x0.size:Int)≥(x1.size:Int)))) (.ask (decide (0≤(0:Int)∧(0:Int)≤(x1.size:Int)∧(x1.size:Int)≤x0.size)) (.done ((x0.extract ((0:Int)).toNat ((x1.size:Int)).toNat).toList==x1.toList)) .fail) (.done false))
def qz:Nat→BA→BA→Option (Bool)
 |0,_,_=>none
 |n+1,x0,x1=>(qAo n x0 x1).run
theorem qCA:∀n,Ok (Rn n) qD7 (qz n)
 |0=>ok0 fun _=>rfl
 |n+1=>stO (T:=qAo n) (by kernel_rfl) [] [] (fun _=>(by kernel_rfl)) fun _=>(by kernel_rfl)
def qJL:Sg:=⟨69,[aS,aS],[],⟨aB,[],[]⟩⟩
def qBr (n:Nat) (x0 x1:BA):Tr (Bool):=(.opt (qz n x0 x1) fun r74=>(.done r74))
def qj:Nat→BA→BA→Option (Bool)
 |0,_,_=>none
 |n+1,x0,x1=>(qBr n x0 x1).run
abbrev qJM (n:Nat):List (Ent (Rn n)):= [en (qCA n)]
theorem qCL:∀n,Ok (Rn n) qJL (qj n)
 |0=>ok0 fun _=>rfl
 |n+1=>stO (T:=qBr n) (by kernel_rfl) (qJM n) [] (fun _=>(by kernel_rfl)) fun _=>(by kernel_rfl)
def qJ0:Sg:=⟨85,[(.c (.ptr 0 0 0 0 0))],[[(0,⟨0,3,55,(.box [qS,(.own 0 1 1 0),qB])⟩),(1,⟨1,14,64,(.row [])⟩)]],⟨aS,[[(0,⟨0,3,55,(.box [qS,(.own 0 1 1 0),qB])⟩),(1,⟨1,14,64,(.row [])⟩)]],[]⟩⟩
def qB7 (n:Nat) (v:Nat×Int×Int×RW×BA×Nat×Bool×RW):Tr ((Nat×Int×Int×RW×BA×Nat×Bool×RW)⊕((BA×BA×Nat×Bool×RW)⊕(BA×Nat×Bool×RW))):=(.ask ((decide (v.2.2.1<v.2.1))) (.ask (decide (v.1=v.2.2.2.1.length∧0≤v.2.2.1∧v.2.2.1<((v.1:Nat):Int))) (.opt (v.2.2.2.1[(v.2.2.1).toNat]?) fun e72=>(.opt (zc e72 0) fun y73=>(.opt (qj n v.2.2.2.2.1 y73) fun r74=>(.ask (r74) (.done (.inr (.inl ((y73,v.2.2.2.2.1,v.2.2.2.2.2.1,v.2.2.2.2.2.2.1,v.2.2.2.2.2.2.2))))) (.done (.inl (v.1,v.2.1,(IntKind.i64.wrap (v.2.2.1+(1:Int))),v.2.2.2.1,v.2.2.2.2.1,v.2.2.2.2.2.1,v.2.2.2.2.2.2.1,v.2.2.2.2.2.2.2))))))) .fail) (.done (.inr (.inr ((v.2.2.2.2.1,v.2.2.2.2.2.1,v.2.2.2.2.2.2.1,v.2.2.2.2.2.2.2))))))
def qFb (n:Nat) (x0:BA) (x1:Nat) (x2:Bool) (x3:RW):Tr (BA×BA×Nat×Bool×RW):=(.opt (qAq n x0 x1 x2 x3) fun r71=>(.opt (zC (qB7 n) n ((15:Nat),(15:Int),(0:Int),([[(.s (⟨#[60,62]⟩:BA))],[(.s (⟨#[60,61]⟩:BA))],[(.s (⟨#[62,61]⟩:BA))],[(.s (⟨#[60]⟩:BA))],[(.s (⟨#[62]⟩:BA))],[(.s (⟨#[61]⟩:BA))],[(.s (⟨#[38]⟩:BA))],[(.s (⟨#[43]⟩:BA))],[(.s (⟨#[45]⟩:BA))],[(.s (⟨#[42]⟩:BA))],[(.s (⟨#[47]⟩:BA))],[(.s (⟨#[40]⟩:BA))],[(.s (⟨#[41]⟩:BA))],[(.s (⟨#[44]⟩:BA))],[(.s (⟨#[58]⟩:BA))]]:RW),r71.1,r71.2.1,r71.2.2.1,r71.2.2.2)) fun r75=>(.alt r75 (fun r76=>(.done (r76.1,r76.2.1,r76.2.2.1,r76.2.2.2.1,r76.2.2.2.2))) (fun r77=>(.done ((⟨#[]⟩:BA),r77.1,r77.2.1,r77.2.2.1,r77.2.2.2))))))
def qBb:Nat→BA→Nat→Bool→RW→Option (BA×BA×Nat×Bool×RW)
 |0,_,_,_,_=>none
 |n+1,x0,x1,x2,x3=>(qFb n x0 x1 x2 x3).run
abbrev qFc (n:Nat):List (Ent (Rn n)):= [en (qB6 n),en (qCL n)]
def qH1 (n:Nat):LEnt (KB 85) (Rn n) n:=lok (zU 85) 29 ⟨⟨[(0,(.c (.ptr 0 0 0 0 0))),(7,(.c (.own 1 448 0 0))),(8,aI),(9,aI)],[(448,⟨0,1,9,(.row [])⟩)],[[(0,⟨0,3,55,(.box [qS,(.own 0 1 1 0),qB])⟩),(1,⟨1,14,64,(.row [])⟩)]]⟩,[(.ret,⟨[(2,aS)],[],[[(0,⟨0,3,55,(.box [qS,(.own 0 1 1 0),qB])⟩),(1,⟨1,14,64,(.row [])⟩)]]⟩),(.exit 0,⟨[],[],[[(0,⟨0,3,55,(.box [qS,(.own 0 1 1 0),qB])⟩),(1,⟨1,14,64,(.row [])⟩)]]⟩)]⟩ (qB7 n) (qFc n) [] fun _=>(by kernel_rfl)
theorem qE4:∀n,Ok (Rn n) qJ0 (qBb n)
 |0=>ok0 fun _=>rfl
 |n+1=>stO (T:=qFb n) (by kernel_rfl) (qFc n) [qH1 n] (fun _=>(by kernel_rfl)) fun _=>(by kernel_rfl)
def qJ1:Sg:=⟨88,[(.c (.ptr 0 0 0 0 0)),aS],[[(0,⟨0,3,55,(.box [qS,(.own 0 1 1 0),qB])⟩),(1,⟨1,14,64,(.row [])⟩)]],⟨aB,[[(0,⟨0,3,55,(.box [qS,(.own 0 1 1 0),qB])⟩),(1,⟨1,14,64,(.row [])⟩)]],[]⟩⟩
def qFd (n:Nat) (x0 x1:BA) (x2:Nat) (x3:Bool) (x4:RW):Tr (Bool×BA×Nat×Bool×RW):=(.opt (qBb n x1 x2 x3 x4) fun r78=>(.ask ((!(r78.1.toList==x0.toList))) (.done (false,r78.2.1,r78.2.2.1,r78.2.2.2.1,r78.2.2.2.2)) (.ask (decide (0≤(x0.size:Int)∧(x0.size:Int)≤(r78.2.1.size:Int)∧(r78.2.1.size:Int)≤r78.2.1.size)) (.done (true,(r78.2.1.extract ((x0.size:Int)).toNat ((r78.2.1.size:Int)).toNat),r78.2.2.1,r78.2.2.2.1,r78.2.2.2.2)) .fail)))
def ql:Nat→BA→BA→Nat→Bool→RW→Option (Bool×BA×Nat×Bool×RW)
 |0,_,_,_,_,_=>none
 |n+1,x0,x1,x2,x3,x4=>(qFd n x0 x1 x2 x3 x4).run
abbrev qJ2 (n:Nat):List (Ent (Rn n)):= [en (qE4 n)]
theorem qBs:∀n,Ok (Rn n) qJ1 (ql n)
 |0=>ok0 fun _=>rfl
 |n+1=>stO (T:=qFd n) (by kernel_rfl) (qJ2 n) [] (fun _=>(by kernel_rfl)) fun _=>(by kernel_rfl)
def qKb:Sg:=⟨89,[(.c (.ptr 0 0 0 0 0)),(.agg [qI,qI,qI,qI,qS,qI,qI,qB,qB,qI,qI,qB,qB,qL])],[[(0,⟨0,3,55,(.box [qS,(.own 0 1 1 0),qB])⟩),(1,⟨1,14,64,(.row [])⟩)]],⟨aI,[[(0,⟨0,3,55,(.box [qS,(.own 0 1 1 0),qB])⟩),(1,⟨1,14,64,(.row [])⟩)]],[]⟩⟩
def qGD (n:Nat) (x0 x1 x2 x3:Int) (x4:BA) (x5 x6:Int) (x7 x8:Bool) (x9 x10:Int) (x11 x12:Bool) (x13:RW) (x14:BA) (x15:Nat) (x16:Bool) (x17:RW):Tr (Int×BA×Nat×Bool×RW):=(.ask (x16) (.ask (false) (.ask (decide (1=([[(.i .i64 x0),(.i .i64 x1),(.i .i64 x2),(.i .i64 x3),(.s x4),(.i .i64 x5),(.i .i64 x6),(.b x7),(.b x8),(.i .i64 x9),(.i .i64 x10),(.b x11),(.b x12),(.ls x13)]]:RW).length)) (.ask (decide (x15=x17.length∧0<14∧0<120∧(x15+([[(.i .i64 x0),(.i .i64 x1),(.i .i64 x2),(.i .i64 x3),(.s x4),(.i .i64 x5),(.i .i64 x6),(.b x7),(.b x8),(.i .i64 x9),(.i .i64 x10),(.b x11),(.b x12),(.ls x13)]]:RW).length)*120≤140737488355328∧([[(.i .i64 x0),(.i .i64 x1),(.i .i64 x2),(.i .i64 x3),(.s x4),(.i .i64 x5),(.i .i64 x6),(.b x7),(.b x8),(.i .i64 x9),(.i .i64 x10),(.b x11),(.b x12),(.ls x13)]]:RW).all (fun e=>e.length==14)=true)) (.done ((IntKind.i64.wrap ((((x15+1):Nat):Int)-(1:Int))),x14,(x15+1),true,(x17++([[(.i .i64 x0),(.i .i64 x1),(.i .i64 x2),(.i .i64 x3),(.s x4),(.i .i64 x5),(.i .i64 x6),(.b x7),(.b x8),(.i .i64 x9),(.i .i64 x10),(.b x11),(.b x12),(.ls x13)]]:RW)))) .fail) .fail) (.done ((IntKind.i64.wrap (((x15:Nat):Int)-(1:Int))),x14,x15,true,x17))) (.ask ((!(decide (((x15:Nat):Int)≥(60:Int))))) (.ask (decide (1=([[(.i .i64 x0),(.i .i64 x1),(.i .i64 x2),(.i .i64 x3),(.s x4),(.i .i64 x5),(.i .i64 x6),(.b x7),(.b x8),(.i .i64 x9),(.i .i64 x10),(.b x11),(.b x12),(.ls x13)]]:RW).length)) (.ask (decide (x15=x17.length∧0<14∧0<120∧(x15+([[(.i .i64 x0),(.i .i64 x1),(.i .i64 x2),(.i .i64 x3),(.s x4),(.i .i64 x5),(.i .i64 x6),(.b x7),(.b x8),(.i .i64 x9),(.i .i64 x10),(.b x11),(.b x12),(.ls x13)]]:RW).length)*120≤140737488355328∧([[(.i .i64 x0),(.i .i64 x1),(.i .i64 x2),(.i .i64 x3),(.s x4),(.i .i64 x5),(.i .i64 x6),(.b x7),(.b x8),(.i .i64 x9),(.i .i64 x10),(.b x11),(.b x12),(.ls x13)]]:RW).all (fun e=>e.length==14)=true)) (.done ((IntKind.i64.wrap ((((x15+1):Nat):Int)-(1:Int))),x14,(x15+1),(decide (((x15:Nat):Int)≥(60:Int))),(x17++([[(.i .i64 x0),(.i .i64 x1),(.i .i64 x2),(.i .i64 x3),(.s x4),(.i .i64 x5),(.i .i64 x6),(.b x7),(.b x8),(.i .i64 x9),(.i .i64 x10),(.b x11),(.b x12),(.ls x13)]]:RW)))) .fail) .fail) (.done ((IntKind.i64.wrap (((x15:Nat):Int)-(1:Int))),x14,x15,(decide (((x15:Nat):Int)≥(60:Int))),x17))))
def qm:Nat→Int→Int→Int→Int→BA→Int→Int→Bool→Bool→Int→Int→Bool→Bool→RW→BA→Nat→Bool→RW→Option (Int×BA×Nat×Bool×RW)
 |0,_,_,_,_,_,_,_,_,_,_,_,_,_,_,_,_,_,_=>none
 |n+1,x0,x1,x2,x3,x4,x5,x6,x7,x8,x9,x10,x11,x12,x13,x14,x15,x16,x17=>(qGD n x0 x1 x2 x3 x4 x5 x6 x7 x8 x9 x10 x11 x12 x13 x14 x15 x16 x17).run
theorem qB3:∀n,Ok (Rn n) qKb (qm n)
 |0=>ok0 fun _=>rfl
 |n+1=>stO (T:=qGD n) (by kernel_rfl) [] [] (fun _=>(by kernel_rfl)) fun _=>(by kernel_rfl)
def qJe:Sg:=⟨186,[aS,aS],[],⟨(.tup [(false,[qS]),(false,[qS]),(false,[qB])]),[],[]⟩⟩
def qGg:Nat→BA→BA→Option ((BA×BA×Bool))
 |0,_,_=>none
 |n+1,x0,x1=>zAP x0 x1
theorem qM0:∀n,Ok (Rn n) qJe (qGg n)
 |0=>ok0 fun _=>rfl
 |n+1=>stL (by kernel_rfl) (fun a r e=>congrArg (Option.map fun r=>(qJe.Of r).v) e) rfl rfl rfl
def qHK:Sg:=⟨162,[(.c (.ptr 0 0 0 0 0)),(.agg [qI,qI,qS])],[[(0,⟨0,3,55,(.box [qS,(.own 0 1 1 0),qB])⟩),(1,⟨1,14,64,(.row [])⟩)]],⟨aI,[[(0,⟨0,3,55,(.box [qS,(.own 0 1 1 0),qB])⟩),(1,⟨1,14,64,(.row [])⟩)]],[]⟩⟩
def qD8 (n:Nat) (x0 x1:Int) (x2 x3:BA) (x4:Nat) (x5:Bool) (x6:RW):Tr (Int×BA×Nat×Bool×RW):=(.opt (qm n (1:Int) (0:Int) x0 x1 x2 (0:Int) (0:Int) false false (0:Int) (0:Int) false false ([]:RW) x3 x4 x5 x6) fun r89=>(.done (r89.1,r89.2.1,r89.2.2.1,r89.2.2.2.1,r89.2.2.2.2)))
def qh:Nat→Int→Int→BA→BA→Nat→Bool→RW→Option (Int×BA×Nat×Bool×RW)
 |0,_,_,_,_,_,_,_=>none
 |n+1,x0,x1,x2,x3,x4,x5,x6=>(qD8 n x0 x1 x2 x3 x4 x5 x6).run
abbrev qHL (n:Nat):List (Ent (Rn n)):= [en (qB3 n)]
theorem qDs:∀n,Ok (Rn n) qHK (qh n)
 |0=>ok0 fun _=>rfl
 |n+1=>stO (T:=qD8 n) (by kernel_rfl) (qHL n) [] (fun _=>(by kernel_rfl)) fun _=>(by kernel_rfl)
def qIV:Sg:=⟨161,[(.c (.ptr 0 0 0 0 0))],[[(0,⟨0,3,55,(.box [qS,(.own 0 1 1 0),qB])⟩),(1,⟨1,14,64,(.row [])⟩)]],⟨aI,[[(0,⟨0,3,55,(.box [qS,(.own 0 1 1 0),qB])⟩),(1,⟨1,14,64,(.row [])⟩)]],[]⟩⟩
def qCl (n:Nat) (v:BA×BA×BA×Nat×Bool×RW):Tr ((BA×BA×BA×Nat×Bool×RW)⊕((Int×BA×Nat×Bool×RW)⊕(BA×BA×BA×Nat×Bool×RW))):=(.opt (qGg n v.2.1 (⟨#[34]⟩:BA)) fun r84=>(.ask ((!r84.2.2)) (.done (.inr (.inl (((-1:Int),v.2.2.1,v.2.2.2.1,true,v.2.2.2.2.2))))) (.ask (decide (v.1.size+r84.1.size≤9223372036854775807)) (.opt (qj n r84.2.1 (⟨#[34]⟩:BA)) fun r85=>(.ask ((!r85)) (.done (.inr (.inr (((v.1++r84.1),r84.2.1,v.2.2.1,v.2.2.2.1,v.2.2.2.2.1,v.2.2.2.2.2))))) (.ask (decide ((v.1++r84.1).size+(⟨#[34]⟩:BA).size≤9223372036854775807)) (.ask (decide (0≤(1:Int)∧(1:Int)≤(r84.2.1.size:Int)∧(r84.2.1.size:Int)≤r84.2.1.size)) (.done (.inl (((v.1++r84.1)++(⟨#[34]⟩:BA)),(r84.2.1.extract ((1:Int)).toNat ((r84.2.1.size:Int)).toNat),v.2.2.1,v.2.2.2.1,v.2.2.2.2.1,v.2.2.2.2.2))) .fail) .fail))) .fail)))
def qEf (n:Nat) (x0:BA) (x1:Nat) (x2:Bool) (x3:RW):Tr (Int×BA×Nat×Bool×RW):=(.ask (decide (0≤(1:Int)∧(1:Int)≤(x0.size:Int)∧(x0.size:Int)≤x0.size)) (.opt (zC (qCl n) n ((⟨#[]⟩:BA),(x0.extract ((1:Int)).toNat ((x0.size:Int)).toNat),x0,x1,x2,x3)) fun r86=>(.alt r86 (fun r87=>(.done (r87.1,r87.2.1,r87.2.2.1,r87.2.2.2.1,r87.2.2.2.2))) (fun r88=>(.opt (qh n (2:Int) (0:Int) r88.1 r88.2.1 r88.2.2.2.1 r88.2.2.2.2.1 r88.2.2.2.2.2) fun r90=>(.done (r90.1,r90.2.1,r90.2.2.1,r90.2.2.2.1,r90.2.2.2.2)))))) .fail)
def qDD:Nat→BA→Nat→Bool→RW→Option (Int×BA×Nat×Bool×RW)
 |0,_,_,_,_=>none
 |n+1,x0,x1,x2,x3=>(qEf n x0 x1 x2 x3).run
abbrev qEg (n:Nat):List (Ent (Rn n)):= [en (qM0 n),en (qCL n),en (qDs n)]
def qG1 (n:Nat):LEnt (KB 161) (Rn n) n:=lok (zU 161) 14 ⟨⟨[(0,(.c (.ptr 0 0 0 0 0))),(3,aS),(4,aS)],[],[[(0,⟨0,3,55,(.box [qS,(.own 0 1 1 0),qB])⟩),(1,⟨1,14,64,(.row [])⟩)]]⟩,[(.ret,⟨[(2,aI)],[],[[(0,⟨0,3,55,(.box [qS,(.own 0 1 1 0),qB])⟩),(1,⟨1,14,64,(.row [])⟩)]]⟩),(.exit 0,⟨[(0,(.c (.ptr 0 0 0 0 0))),(3,aS),(4,aS)],[],[[(0,⟨0,3,55,(.box [qS,(.own 0 1 1 0),qB])⟩),(1,⟨1,14,64,(.row [])⟩)]]⟩)]⟩ (qCl n) (qEg n) [] fun _=>(by kernel_rfl)
theorem qH2:∀n,Ok (Rn n) qIV (qDD n)
 |0=>ok0 fun _=>rfl
 |n+1=>stO (T:=qEf n) (by kernel_rfl) (qEg n) [qG1 n] (fun _=>(by kernel_rfl)) fun _=>(by kernel_rfl)
def qLI:Sg:=⟨70,[aI],[],⟨aS,[],[]⟩⟩
def qER (n:Nat) (x0:Int):Tr (BA):=(.ask (decide (6=([[(.s (⟨#[]⟩:BA))],[(.s (⟨#[35,68,73,86,33]⟩:BA))],[(.s (⟨#[35,84,89,80,69,33]⟩:BA))],[(.s (⟨#[35,82,69,70,33]⟩:BA))],[(.s (⟨#[35,79,86,69,82,33]⟩:BA))],[(.s (⟨#[35,67,89,67,76,69,33]⟩:BA))]]:RW).length∧0≤x0∧x0<((6:Nat):Int))) (.opt (([[(.s (⟨#[]⟩:BA))],[(.s (⟨#[35,68,73,86,33]⟩:BA))],[(.s (⟨#[35,84,89,80,69,33]⟩:BA))],[(.s (⟨#[35,82,69,70,33]⟩:BA))],[(.s (⟨#[35,79,86,69,82,33]⟩:BA))],[(.s (⟨#[35,67,89,67,76,69,33]⟩:BA))]]:RW)[(x0).toNat]?) fun e93=>(.opt (zc e93 0) fun y94=>(.done y94))) .fail)
def qAb:Nat→Int→Option (BA)
 |0,_=>none
 |n+1,x0=>(qER n x0).run
theorem qD9:∀n,Ok (Rn n) qLI (qAb n)
 |0=>ok0 fun _=>rfl
 |n+1=>stO (T:=qER n) (by kernel_rfl) [] [] (fun _=>(by kernel_rfl)) fun _=>(by kernel_rfl)
def qOc:Sg:=⟨71,[aI],[],⟨(.agg [qI,qI,qS]),[],[]⟩⟩
def qHM (n:Nat) (x0:Int):Tr (Int×Int×BA):=(.done ((4:Int),x0,(⟨#[]⟩:BA)))
def qBi:Nat→Int→Option (Int×Int×BA)
 |0,_=>none
 |n+1,x0=>(qHM n x0).run
theorem qJf:∀n,Ok (Rn n) qOc (qBi n)
 |0=>ok0 fun _=>rfl
 |n+1=>stO (T:=qHM n) (by kernel_rfl) [] [] (fun _=>(by kernel_rfl)) fun _=>(by kernel_rfl)
def qJ3:Sg:=⟨163,[(.c (.ptr 0 0 0 0 0))],[[(0,⟨0,3,55,(.box [qS,(.own 0 1 1 0),qB])⟩),(1,⟨1,14,64,(.row [])⟩)]],⟨aS,[[(0,⟨0,3,55,(.box [qS,(.own 0 1 1 0),qB])⟩),(1,⟨1,14,64,(.row [])⟩)]],[]⟩⟩
def qFe (n:Nat) (x0:BA) (x1:Nat) (x2:Bool) (x3:RW):Tr (BA×BA×Nat×Bool×RW):=(.opt (qAq n x0 x1 x2 x3) fun r100=>(.opt (qA9 n r100.1 (⟨#[65,66,67,68,69,70,71,72,73,74,75,76,77,78,79,80,81,82,83,84,85,86,87,88,89,90,48,49,50,51,52,53,54,55,56,57,36]⟩:BA)) fun r101=>(.ask (decide (0≤(0:Int)∧(0:Int)≤(IntKind.i64.wrap ((r100.1.size:Int)-(r101.size:Int)))∧(IntKind.i64.wrap ((r100.1.size:Int)-(r101.size:Int)))≤r100.1.size)) (.ask (decide (0≤(IntKind.i64.wrap ((r100.1.size:Int)-(r101.size:Int)))∧(IntKind.i64.wrap ((r100.1.size:Int)-(r101.size:Int)))≤(r100.1.size:Int)∧(r100.1.size:Int)≤r100.1.size)) (.done ((r100.1.extract ((0:Int)).toNat ((IntKind.i64.wrap ((r100.1.size:Int)-(r101.size:Int)))).toNat),(r100.1.extract ((IntKind.i64.wrap ((r100.1.size:Int)-(r101.size:Int)))).toNat ((r100.1.size:Int)).toNat),r100.2.1,r100.2.2.1,r100.2.2.2)) .fail) .fail)))
def qBA:Nat→BA→Nat→Bool→RW→Option (BA×BA×Nat×Bool×RW)
 |0,_,_,_,_=>none
 |n+1,x0,x1,x2,x3=>(qFe n x0 x1 x2 x3).run
abbrev qJ4 (n:Nat):List (Ent (Rn n)):= [en (qB6 n),en (qDV n)]
theorem qE5:∀n,Ok (Rn n) qJ3 (qBA n)
 |0=>ok0 fun _=>rfl
 |n+1=>stO (T:=qFe n) (by kernel_rfl) (qJ4 n) [] (fun _=>(by kernel_rfl)) fun _=>(by kernel_rfl)
def qM1:Sg:=⟨63,[(.agg [qI,qI,qS])],[],⟨aB,[],[]⟩⟩
def qFf (n:Nat) (x0 x1:Int) (x2:BA):Tr (Bool):=(.ask ((x0==(2:Int))) (.ask ((x1==(0:Int))) (.opt (qC0 n x2 (200:Int)) fun r104=>(.done r104)) (.done false)) (.ask ((!(x2.toList==(⟨#[]⟩:BA).toList))) (.done false) (.ask ((x0==(0:Int))) (.done (x1==(0:Int))) (.ask ((x0==(1:Int))) (.opt (qAd n x1 (-1000000000000000:Int) (1000000000000000:Int)) fun r105=>(.done r105)) (.ask ((x0==(3:Int))) (.opt (qAd n x1 (0:Int) (1:Int)) fun r106=>(.done r106)) (.ask ((x0==(4:Int))) (.opt (qAd n x1 (1:Int) (5:Int)) fun r107=>(.done r107)) (.done false)))))))
def qAL:Nat→Int→Int→BA→Option (Bool)
 |0,_,_,_=>none
 |n+1,x0,x1,x2=>(qFf n x0 x1 x2).run
abbrev qM2 (n:Nat):List (Ent (Rn n)):= [en (qFZ n),en (qDB n)]
theorem qEv:∀n,Ok (Rn n) qM1 (qAL n)
 |0=>ok0 fun _=>rfl
 |n+1=>stO (T:=qFf n) (by kernel_rfl) (qM2 n) [] (fun _=>(by kernel_rfl)) fun _=>(by kernel_rfl)
def qE6:Sg:=⟨122,[aI,aI],[],⟨aS,[],[]⟩⟩
def qDW:Nat→Int→Int→Option ((BA))
 |0,_,_=>none
 |n+1,x0,x1=>zd x0 x1
theorem qIW:∀n,Ok (Rn n) qE6 (qDW n)
 |0=>ok0 fun _=>rfl
 |n+1=>stL (by kernel_rfl) (fun a r e=>congrArg (Option.map fun r=>(qE6.Of r).v) e) rfl rfl rfl
def qM3:Sg:=⟨65,[aI],[],⟨aS,[],[]⟩⟩
def qFg (n:Nat) (x0:Int):Tr (BA):=(.opt (qDW n x0 (10:Int)) fun r109=>(.done r109))
def qA4:Nat→Int→Option (BA)
 |0,_=>none
 |n+1,x0=>(qFg n x0).run
abbrev qM4 (n:Nat):List (Ent (Rn n)):= [en (qIW n)]
theorem qEw:∀n,Ok (Rn n) qM3 (qA4 n)
 |0=>ok0 fun _=>rfl
 |n+1=>stO (T:=qFg n) (by kernel_rfl) (qM4 n) [] (fun _=>(by kernel_rfl)) fun _=>(by kernel_rfl)
def qLJ:Sg:=⟨72,[(.agg [qI,qI,qS])],[],⟨aS,[],[]⟩⟩
def qBc (n:Nat) (x0 x1:Int) (x2:BA):Tr (BA):=(.ask ((x0==(1:Int))) (.opt (qA4 n x1) fun r110=>(.done r110)) (.ask ((x0==(2:Int))) (.ask (decide ((⟨#[39]⟩:BA).size+x2.size≤9223372036854775807)) (.done ((⟨#[39]⟩:BA)++x2)) .fail) (.ask ((x0==(3:Int))) (.ask (decide (2=([[(.s (⟨#[70,65,76,83,69]⟩:BA))],[(.s (⟨#[84,82,85,69]⟩:BA))]]:RW).length∧0≤x1∧x1<((2:Nat):Int))) (.opt (([[(.s (⟨#[70,65,76,83,69]⟩:BA))],[(.s (⟨#[84,82,85,69]⟩:BA))]]:RW)[(x1).toNat]?) fun e111=>(.opt (zc e111 0) fun y112=>(.done y112))) .fail) (.ask ((x0==(4:Int))) (.opt (qAb n x1) fun r113=>(.done r113)) (.done (⟨#[]⟩:BA))))))
def qn:Nat→Int→Int→BA→Option (BA)
 |0,_,_,_=>none
 |n+1,x0,x1,x2=>(qBc n x0 x1 x2).run
abbrev qLK (n:Nat):List (Ent (Rn n)):= [en (qEw n),en (qD9 n)]
theorem qGE:∀n,Ok (Rn n) qLJ (qn n)
 |0=>ok0 fun _=>rfl
 |n+1=>stO (T:=qBc n) (by kernel_rfl) (qLK n) [] (fun _=>(by kernel_rfl)) fun _=>(by kernel_rfl)
def qOd:Sg:=⟨68,[aB],[],⟨(.agg [qI,qI,qS]),[],[]⟩⟩
def qHN (n:Nat) (x0:Bool):Tr (Int×Int×BA):=(.ask (x0) (.done ((3:Int),(1:Int),(⟨#[]⟩:BA))) (.done ((3:Int),(0:Int),(⟨#[]⟩:BA))))
def qEA:Nat→Bool→Option (Int×Int×BA)
 |0,_=>none
 |n+1,x0=>(qHN n x0).run
theorem qNt:∀n,Ok (Rn n) qOd (qEA n)
 |0=>ok0 fun _=>rfl
 |n+1=>stO (T:=qHN n) (by kernel_rfl) [] [] (fun _=>(by kernel_rfl)) fun _=>(by kernel_rfl)
def qJ5:Sg2:=⟨61,[aS,aI,aI],(.tup [(false,[qI]),(false,[(.p .nif)])]),(.tup [(false,[qI]),(false,[(.p .ifc)])])⟩
def qAr:Nat→BA→Int→Int→Option ((Int)⊕(Int))
 |0,_,_,_=>none
 |n+1,x0,x1,x2=>zM x0 x1 x2
theorem qDX:∀n,Ok2 (Rn n) qJ5 (qAr n)
 |0=>fun a r e=>by cases e
 |n+1=>zJL (by kernel_rfl) fun a r e=>by
  rcases r with r|r
  ·exact congrArg (Option.map z9) e
  ·exact congrArg (Option.map z9) e
def qNu:Sg:=⟨64,[aI],[],⟨(.agg [qI,qI,qS]),[],[]⟩⟩
def qGh (n:Nat) (x0:Int):Tr (Int×Int×BA):=(.done ((1:Int),x0,(⟨#[]⟩:BA)))
def qCW:Nat→Int→Option (Int×Int×BA)
 |0,_=>none
 |n+1,x0=>(qGh n x0).run
theorem qIX:∀n,Ok (Rn n) qNu (qCW n)
 |0=>ok0 fun _=>rfl
 |n+1=>stO (T:=qGh n) (by kernel_rfl) [] [] (fun _=>(by kernel_rfl)) fun _=>(by kernel_rfl)
def qLL:Sg:=⟨25,[aS],[],⟨(.tup [(true,[qI,qI,qS]),(false,[qB])]),[],[]⟩⟩
def qA3 (n:Nat) (v:BA×Int×Int×Int×BA×Int×Int×BA):Tr ((BA×Int×Int×Int×BA×Int×Int×BA)⊕((BA×Int×Int×BA×Int×Int×BA))):=(.ask ((decide (v.2.1≤(5:Int)))) (.opt (qAb n v.2.1) fun r122=>(.ask ((r122.toList==v.1.toList)) (.opt (qBi n v.2.1) fun r123=>(.done (.inl (v.1,(IntKind.i64.wrap (v.2.1+(1:Int))),v.2.2.1,v.2.2.2.1,v.2.2.2.2.1,r123.1,r123.2.1,r123.2.2)))) (.done (.inl (v.1,(IntKind.i64.wrap (v.2.1+(1:Int))),v.2.2.1,v.2.2.2.1,v.2.2.2.2.1,v.2.2.2.2.2.1,v.2.2.2.2.2.2.1,v.2.2.2.2.2.2.2))))) (.done (.inr ((v.1,v.2.2.1,v.2.2.2.1,v.2.2.2.2.1,v.2.2.2.2.2.1,v.2.2.2.2.2.2.1,v.2.2.2.2.2.2.2)))))
def qBD (n:Nat) (x0:BA):Tr (Int×Int×BA×Bool):=(.opt (qAB n x0 (⟨#[39]⟩:BA)) fun r103=>(.ask (r103.2) (.opt (qAL n (2:Int) (0:Int) r103.1) fun r108=>(.ask ((!r108)) (.done ((0:Int),(0:Int),(⟨#[]⟩:BA),false)) (.opt (qn n (2:Int) (0:Int) r103.1) fun r114=>(.ask ((!(r114.toList==x0.toList))) (.done ((0:Int),(0:Int),(⟨#[]⟩:BA),false)) (.done ((2:Int),(0:Int),r103.1,true)))))) (.ask ((x0.toList==(⟨#[70,65,76,83,69]⟩:BA).toList)) (.opt (qEA n (x0.toList==(⟨#[84,82,85,69]⟩:BA).toList)) fun r115=>(.opt (qAL n r115.1 r115.2.1 r115.2.2) fun r116=>(.ask ((!r116)) (.done ((0:Int),(0:Int),(⟨#[]⟩:BA),false)) (.opt (qn n r115.1 r115.2.1 r115.2.2) fun r117=>(.ask ((!(r117.toList==x0.toList))) (.done ((0:Int),(0:Int),(⟨#[]⟩:BA),false)) (.done (r115.1,r115.2.1,r115.2.2,true))))))) (.ask ((x0.toList==(⟨#[84,82,85,69]⟩:BA).toList)) (.opt (qEA n (x0.toList==(⟨#[84,82,85,69]⟩:BA).toList)) fun r118=>(.opt (qAL n r118.1 r118.2.1 r118.2.2) fun r119=>(.ask ((!r119)) (.done ((0:Int),(0:Int),(⟨#[]⟩:BA),false)) (.opt (qn n r118.1 r118.2.1 r118.2.2) fun r120=>(.ask ((!(r120.toList==x0.toList))) (.done ((0:Int),(0:Int),(⟨#[]⟩:BA),false)) (.done (r118.1,r118.2.1,r118.2.2,true))))))) (.opt (qj n x0 (⟨#[35]⟩:BA)) fun r121=>(.ask (r121) (.opt (zC (qA3 n) n (x0,(1:Int),(0:Int),(0:Int),(⟨#[]⟩:BA),(0:Int),(0:Int),(⟨#[]⟩:BA))) fun r124=>(.opt (qAL n r124.2.2.2.2.1 r124.2.2.2.2.2.1 r124.2.2.2.2.2.2) fun r125=>(.ask ((!r125)) (.done ((0:Int),(0:Int),(⟨#[]⟩:BA),false)) (.opt (qn n r124.2.2.2.2.1 r124.2.2.2.2.2.1 r124.2.2.2.2.2.2) fun r126=>(.ask ((!(r126.toList==r124.1.toList))) (.done ((0:Int),(0:Int),(⟨#[]⟩:BA),false)) (.done (r124.2.2.2.2.1,r124.2.2.2.2.2.1,r124.2.2.2.2.2.2,true))))))) (.ask ((!(x0.toList==(⟨#[]⟩:BA).toList))) (.opt (qAr n x0 (10:Int) (64:Int)) fun r127=>(.alt r127 (fun r128=>(.opt (qCW n r128) fun r130=>(.opt (qAL n r130.1 r130.2.1 r130.2.2) fun r131=>(.ask ((!r131)) (.done ((0:Int),(0:Int),(⟨#[]⟩:BA),false)) (.opt (qn n r130.1 r130.2.1 r130.2.2) fun r132=>(.ask ((!(r132.toList==x0.toList))) (.done ((0:Int),(0:Int),(⟨#[]⟩:BA),false)) (.done (r130.1,r130.2.1,r130.2.2,true)))))))) (fun r129=>(.opt (qCW n r129) fun r133=>(.opt (qAL n r133.1 r133.2.1 r133.2.2) fun r134=>(.ask ((!r134)) (.done ((0:Int),(0:Int),(⟨#[]⟩:BA),false)) (.opt (qn n r133.1 r133.2.1 r133.2.2) fun r135=>(.ask ((!(r135.toList==x0.toList))) (.done ((0:Int),(0:Int),(⟨#[]⟩:BA),false)) (.done (r133.1,r133.2.1,r133.2.2,true)))))))))) (.opt (qAL n (0:Int) (0:Int) (⟨#[]⟩:BA)) fun r136=>(.ask ((!r136)) (.done ((0:Int),(0:Int),(⟨#[]⟩:BA),false)) (.opt (qn n (0:Int) (0:Int) (⟨#[]⟩:BA)) fun r137=>(.ask ((!(r137.toList==x0.toList))) (.done ((0:Int),(0:Int),(⟨#[]⟩:BA),false)) (.done ((0:Int),(0:Int),(⟨#[]⟩:BA),true)))))))))))))
def qd:Nat→BA→Option (Int×Int×BA×Bool)
 |0,_=>none
 |n+1,x0=>(qBD n x0).run
abbrev qG2 (n:Nat):List (Ent (Rn n)):= [en (qCK n),en (qEv n),en (qGE n),en (qNt n),en (qCL n),en (qD9 n),en (qJf n),en2 (qDX n),en (qIX n)]
def qH3 (n:Nat):LEnt (KB 25) (Rn n) n:=lok (zU 25) 3837 ⟨⟨[(0,aS),(2,(.c (.ptr 0 128 0 0 0))),(4,(.c (.ptr 0 256 0 0 0))),(7,aI)],[(128,⟨0,3,37,(.box [qI,qI,qS])⟩),(256,⟨0,3,37,(.box [qI,qI,qS])⟩)],[]⟩,[(.exit 1,⟨[(0,aS),(2,(.c (.ptr 0 128 0 0 0))),(4,(.c (.ptr 0 256 0 0 0)))],[(128,⟨0,3,37,(.box [qI,qI,qS])⟩),(256,⟨0,3,37,(.box [qI,qI,qS])⟩)],[]⟩)]⟩ (qA3 n) (qG2 n) [] fun _=>(by kernel_rfl)
theorem qGF:∀n,Ok (Rn n) qLL (qd n)
 |0=>ok0 fun _=>rfl
 |n+1=>stO (T:=qBD n) (by kernel_rfl) (qG2 n) [qH3 n] (fun _=>(by kernel_rfl)) fun _=>(by kernel_rfl)
def qM5:Sg:=⟨141,[aI],[],⟨aS,[],[]⟩⟩
def qDE (n:Nat) (x0:Int):Tr (BA):=(.opt (qAd n x0 (1:Int) (52:Int)) fun r143=>(.ask ((!r143)) (.done (⟨#[]⟩:BA)) (.ask ((decide (x0≤(26:Int)))) (.ask (decide (1=([[(.i .u8 (IntKind.u8.wrap (IntKind.i64.wrap ((IntKind.i64.wrap ((65:Int)+x0))-(1:Int)))))]]:RW).length)) (.opt (bytesOf ([[(.i .u8 (IntKind.u8.wrap (IntKind.i64.wrap ((IntKind.i64.wrap ((65:Int)+x0))-(1:Int)))))]]:RW)) fun l144=>(.done (⟨l144.toArray⟩:BA))) .fail) (.ask (decide (2=([[(.i .u8 (IntKind.u8.wrap (IntKind.i64.wrap ((IntKind.i64.wrap ((65:Int)+(IntKind.i64.wrap (Int.tdiv (IntKind.i64.wrap (x0-(1:Int))) (26:Int)))))-(1:Int)))))],[(.i .u8 (IntKind.u8.wrap (IntKind.i64.wrap ((65:Int)+(Int.tmod (IntKind.i64.wrap (x0-(1:Int))) (26:Int))))))]]:RW).length)) (.opt (bytesOf ([[(.i .u8 (IntKind.u8.wrap (IntKind.i64.wrap ((IntKind.i64.wrap ((65:Int)+(IntKind.i64.wrap (Int.tdiv (IntKind.i64.wrap (x0-(1:Int))) (26:Int)))))-(1:Int)))))],[(.i .u8 (IntKind.u8.wrap (IntKind.i64.wrap ((65:Int)+(Int.tmod (IntKind.i64.wrap (x0-(1:Int))) (26:Int))))))]]:RW)) fun l145=>(.done (⟨l145.toArray⟩:BA))) .fail))))
def qBk:Nat→Int→Option (BA)
 |0,_=>none
 |n+1,x0=>(qDE n x0).run
abbrev qM6 (n:Nat):List (Ent (Rn n)):= [en (qDB n)]
theorem qHr:∀n,Ok (Rn n) qM5 (qBk n)
 |0=>ok0 fun _=>rfl
 |n+1=>stO (T:=qDE n) (by kernel_rfl) (qM6 n) [] (fun _=>(by kernel_rfl)) fun _=>(by kernel_rfl)
def qM7:Sg:=⟨187,[aS],[],⟨aI,[],[]⟩⟩
def qCM (n:Nat) (v:BA×Int):Tr ((BA×Int)⊕((Int)⊕(Unit))):=(.ask ((decide (v.2≤(52:Int)))) (.opt (qBk n v.2) fun r143=>(.ask ((r143.toList==v.1.toList)) (.done (.inr (.inl (v.2)))) (.done (.inl (v.1,(IntKind.i64.wrap (v.2+(1:Int)))))))) (.done (.inr (.inr (())))))
def qFh (n:Nat) (x0:BA):Tr (Int):=(.opt (zC (qCM n) n (x0,(1:Int))) fun r144=>(.alt r144 (fun r145=>(.done r145)) (fun r146=>(.done (0:Int)))))
def qEB:Nat→BA→Option (Int)
 |0,_=>none
 |n+1,x0=>(qFh n x0).run
abbrev qIY (n:Nat):List (Ent (Rn n)):= [en (qHr n)]
def qKc (n:Nat):LEnt (KB 187) (Rn n) n:=lok (zU 187) 13 ⟨⟨[(0,aS),(3,aI)],[],[]⟩,[(.ret,⟨[(2,aI)],[],[]⟩),(.exit 0,⟨[],[],[]⟩)]⟩ (qCM n) (qIY n) [] fun _=>(by kernel_rfl)
theorem qMF:∀n,Ok (Rn n) qM7 (qEB n)
 |0=>ok0 fun _=>rfl
 |n+1=>stO (T:=qFh n) (by kernel_rfl) (qIY n) [qKc n] (fun _=>(by kernel_rfl)) fun _=>(by kernel_rfl)
def qLM:Sg:=⟨102,[(.agg [qI,qI,qB,qB])],[],⟨aS,[],[]⟩⟩
def qDM (n:Nat) (x0 x1:Int) (x2 x3:Bool):Tr (BA):=(.opt (qBh n x0 x1) fun r153=>(.ask ((!r153)) (.done (⟨#[]⟩:BA)) (.ask (x2) (.opt (qBk n x0) fun r154=>(.ask (decide ((⟨#[36]⟩:BA).size+r154.size≤9223372036854775807)) (.ask (x3) (.ask (decide (((⟨#[36]⟩:BA)++r154).size+(⟨#[36]⟩:BA).size≤9223372036854775807)) (.opt (qA4 n x1) fun r155=>(.ask (decide ((((⟨#[36]⟩:BA)++r154)++(⟨#[36]⟩:BA)).size+r155.size≤9223372036854775807)) (.done ((((⟨#[36]⟩:BA)++r154)++(⟨#[36]⟩:BA))++r155)) .fail)) .fail) (.opt (qA4 n x1) fun r156=>(.ask (decide (((⟨#[36]⟩:BA)++r154).size+r156.size≤9223372036854775807)) (.done (((⟨#[36]⟩:BA)++r154)++r156)) .fail))) .fail)) (.opt (qBk n x0) fun r157=>(.ask (decide ((⟨#[]⟩:BA).size+r157.size≤9223372036854775807)) (.ask (x3) (.ask (decide (((⟨#[]⟩:BA)++r157).size+(⟨#[36]⟩:BA).size≤9223372036854775807)) (.opt (qA4 n x1) fun r158=>(.ask (decide ((((⟨#[]⟩:BA)++r157)++(⟨#[36]⟩:BA)).size+r158.size≤9223372036854775807)) (.done ((((⟨#[]⟩:BA)++r157)++(⟨#[36]⟩:BA))++r158)) .fail)) .fail) (.opt (qA4 n x1) fun r159=>(.ask (decide (((⟨#[]⟩:BA)++r157).size+r159.size≤9223372036854775807)) (.done (((⟨#[]⟩:BA)++r157)++r159)) .fail))) .fail)))))
def qAz:Nat→Int→Int→Bool→Bool→Option (BA)
 |0,_,_,_,_=>none
 |n+1,x0,x1,x2,x3=>(qDM n x0 x1 x2 x3).run
abbrev qLN (n:Nat):List (Ent (Rn n)):= [en (qEc n),en (qHr n),en (qEw n)]
theorem qGG:∀n,Ok (Rn n) qLM (qAz n)
 |0=>ok0 fun _=>rfl
 |n+1=>stO (T:=qDM n) (by kernel_rfl) (qLN n) [] (fun _=>(by kernel_rfl)) fun _=>(by kernel_rfl)
def qLO:Sg:=⟨164,[aS],[],⟨(.tup [(true,[qI,qI,qB,qB]),(false,[qB])]),[],[]⟩⟩
def qES (n:Nat) (x0:BA):Tr (Int×Int×Bool×Bool×Bool):=(.opt (qAB n x0 (⟨#[36]⟩:BA)) fun r141=>(.opt (qA9 n r141.1 (⟨#[65,66,67,68,69,70,71,72,73,74,75,76,77,78,79,80,81,82,83,84,85,86,87,88,89,90]⟩:BA)) fun r142=>(.ask (decide (0≤(0:Int)∧(0:Int)≤(IntKind.i64.wrap ((r141.1.size:Int)-(r142.size:Int)))∧(IntKind.i64.wrap ((r141.1.size:Int)-(r142.size:Int)))≤r141.1.size)) (.opt (qEB n (r141.1.extract ((0:Int)).toNat ((IntKind.i64.wrap ((r141.1.size:Int)-(r142.size:Int)))).toNat)) fun r147=>(.ask (decide (0≤(IntKind.i64.wrap ((r141.1.size:Int)-(r142.size:Int)))∧(IntKind.i64.wrap ((r141.1.size:Int)-(r142.size:Int)))≤(r141.1.size:Int)∧(r141.1.size:Int)≤r141.1.size)) (.opt (qAB n (r141.1.extract ((IntKind.i64.wrap ((r141.1.size:Int)-(r142.size:Int)))).toNat ((r141.1.size:Int)).toNat) (⟨#[36]⟩:BA)) fun r148=>(.opt (qAr n r148.1 (10:Int) (64:Int)) fun r149=>(.alt r149 (fun r150=>(.opt (qBh n r147 r150) fun r152=>(.ask ((!r152)) (.done ((0:Int),(0:Int),false,false,false)) (.opt (qAz n r147 r150 r141.2 r148.2) fun r160=>(.ask ((!(r160.toList==x0.toList))) (.done ((0:Int),(0:Int),false,false,false)) (.done (r147,r150,r141.2,r148.2,true))))))) (fun r151=>(.opt (qBh n r147 r151) fun r161=>(.ask ((!r161)) (.done ((0:Int),(0:Int),false,false,false)) (.opt (qAz n r147 r151 r141.2 r148.2) fun r162=>(.ask ((!(r162.toList==x0.toList))) (.done ((0:Int),(0:Int),false,false,false)) (.done (r147,r151,r141.2,r148.2,true)))))))))) .fail)) .fail)))
def qAc:Nat→BA→Option (Int×Int×Bool×Bool×Bool)
 |0,_=>none
 |n+1,x0=>(qES n x0).run
abbrev qLP (n:Nat):List (Ent (Rn n)):= [en (qCK n),en (qDV n),en (qMF n),en2 (qDX n),en (qEc n),en (qGG n)]
theorem qGH:∀n,Ok (Rn n) qLO (qAc n)
 |0=>ok0 fun _=>rfl
 |n+1=>stO (T:=qES n) (by kernel_rfl) (qLP n) [] (fun _=>(by kernel_rfl)) fun _=>(by kernel_rfl)
def qNv:Sg:=⟨103,[aI],[],⟨aS,[],[]⟩⟩
def qGi (n:Nat) (x0:Int):Tr (BA):=(.ask (decide (11=([[(.s (⟨#[]⟩:BA))],[(.s (⟨#[83,85,77]⟩:BA))],[(.s (⟨#[77,73,78]⟩:BA))],[(.s (⟨#[77,65,88]⟩:BA))],[(.s (⟨#[67,79,85,78,84]⟩:BA))],[(.s (⟨#[73,70]⟩:BA))],[(.s (⟨#[65,78,68]⟩:BA))],[(.s (⟨#[79,82]⟩:BA))],[(.s (⟨#[78,79,84]⟩:BA))],[(.s (⟨#[65,66,83]⟩:BA))],[(.s (⟨#[76,69,78]⟩:BA))]]:RW).length∧0≤x0∧x0<((11:Nat):Int))) (.opt (([[(.s (⟨#[]⟩:BA))],[(.s (⟨#[83,85,77]⟩:BA))],[(.s (⟨#[77,73,78]⟩:BA))],[(.s (⟨#[77,65,88]⟩:BA))],[(.s (⟨#[67,79,85,78,84]⟩:BA))],[(.s (⟨#[73,70]⟩:BA))],[(.s (⟨#[65,78,68]⟩:BA))],[(.s (⟨#[79,82]⟩:BA))],[(.s (⟨#[78,79,84]⟩:BA))],[(.s (⟨#[65,66,83]⟩:BA))],[(.s (⟨#[76,69,78]⟩:BA))]]:RW)[(x0).toNat]?) fun e165=>(.opt (zc e165 0) fun y166=>(.done y166))) .fail)
def qBy:Nat→Int→Option (BA)
 |0,_=>none
 |n+1,x0=>(qGi n x0).run
theorem qIZ:∀n,Ok (Rn n) qNv (qBy n)
 |0=>ok0 fun _=>rfl
 |n+1=>stO (T:=qGi n) (by kernel_rfl) [] [] (fun _=>(by kernel_rfl)) fun _=>(by kernel_rfl)
def qHO:Sg:=⟨188,[(.c (.ptr 0 0 0 0 0))],[[(0,⟨0,3,55,(.box [qS,(.own 0 1 1 0),qB])⟩),(1,⟨1,14,64,(.row [])⟩)]],⟨(.tup [(true,[qI,qI,qI,qI,qS,qI,qI,qB,qB,qI,qI,qB,qB,qL]),(false,[qB])]),[[(0,⟨0,3,55,(.box [qS,(.own 0 1 1 0),qB])⟩),(1,⟨1,14,64,(.row [])⟩)]],[]⟩⟩
def qEC (n:Nat) (x0:BA) (x1:Nat) (x2:Bool) (x3:RW):Tr (Int×Int×Int×Int×BA×Int×Int×Bool×Bool×Int×Int×Bool×Bool×RW×Bool×BA×Nat×Bool×RW):=(.opt (qBA n x0 x1 x2 x3) fun r168=>(.opt (qAc n r168.1) fun r169=>(.ask (r169.2.2.2.2) (.opt (ql n (⟨#[58]⟩:BA) r168.2.1 r168.2.2.1 r168.2.2.2.1 r168.2.2.2.2) fun r170=>(.ask ((!r170.1)) (.done ((0:Int),(0:Int),(0:Int),(0:Int),(⟨#[]⟩:BA),(0:Int),(0:Int),false,false,(0:Int),(0:Int),false,false,([]:RW),false,x0,r170.2.2.1,r170.2.2.2.1,r170.2.2.2.2)) (.opt (qBA n r170.2.1 r170.2.2.1 r170.2.2.2.1 r170.2.2.2.2) fun r171=>(.opt (qAc n r171.1) fun r172=>(.ask (r171.2.2.2.1) (.done ((3:Int),(0:Int),(0:Int),(0:Int),(⟨#[]⟩:BA),r169.1,r169.2.1,r169.2.2.1,r169.2.2.2.1,r172.1,r172.2.1,r172.2.2.1,r172.2.2.2.1,([]:RW),true,r171.2.1,r171.2.2.1,true,r171.2.2.2.2)) (.done ((3:Int),(0:Int),(0:Int),(0:Int),(⟨#[]⟩:BA),r169.1,r169.2.1,r169.2.2.1,r169.2.2.2.1,r172.1,r172.2.1,r172.2.2.1,r172.2.2.2.1,([]:RW),true,r171.2.1,r171.2.2.1,(!r172.2.2.2.2),r171.2.2.2.2))))))) (.done ((0:Int),(0:Int),(0:Int),(0:Int),(⟨#[]⟩:BA),(0:Int),(0:Int),false,false,(0:Int),(0:Int),false,false,([]:RW),false,x0,r168.2.2.1,r168.2.2.2.1,r168.2.2.2.2)))))
def qCr:Nat→BA→Nat→Bool→RW→Option (Int×Int×Int×Int×BA×Int×Int×Bool×Bool×Int×Int×Bool×Bool×RW×Bool×BA×Nat×Bool×RW)
 |0,_,_,_,_=>none
 |n+1,x0,x1,x2,x3=>(qEC n x0 x1 x2 x3).run
abbrev qHP (n:Nat):List (Ent (Rn n)):= [en (qE5 n),en (qGH n),en (qBs n)]
theorem qG3:∀n,Ok (Rn n) qHO (qCr n)
 |0=>ok0 fun _=>rfl
 |n+1=>stO (T:=qEC n) (by kernel_rfl) (qHP n) [] (fun _=>(by kernel_rfl)) fun _=>(by kernel_rfl)
def qNw:Sg:=⟨86,[aI],[],⟨aS,[],[]⟩⟩
def qGj (n:Nat) (x0:Int):Tr (BA):=(.ask (decide (12=([[(.s (⟨#[]⟩:BA))],[(.s (⟨#[43]⟩:BA))],[(.s (⟨#[45]⟩:BA))],[(.s (⟨#[42]⟩:BA))],[(.s (⟨#[47]⟩:BA))],[(.s (⟨#[38]⟩:BA))],[(.s (⟨#[61]⟩:BA))],[(.s (⟨#[60,62]⟩:BA))],[(.s (⟨#[60]⟩:BA))],[(.s (⟨#[60,61]⟩:BA))],[(.s (⟨#[62]⟩:BA))],[(.s (⟨#[62,61]⟩:BA))]]:RW).length∧0≤x0∧x0<((12:Nat):Int))) (.opt (([[(.s (⟨#[]⟩:BA))],[(.s (⟨#[43]⟩:BA))],[(.s (⟨#[45]⟩:BA))],[(.s (⟨#[42]⟩:BA))],[(.s (⟨#[47]⟩:BA))],[(.s (⟨#[38]⟩:BA))],[(.s (⟨#[61]⟩:BA))],[(.s (⟨#[60,62]⟩:BA))],[(.s (⟨#[60]⟩:BA))],[(.s (⟨#[60,61]⟩:BA))],[(.s (⟨#[62]⟩:BA))],[(.s (⟨#[62,61]⟩:BA))]]:RW)[(x0).toNat]?) fun e199=>(.opt (zc e199 0) fun y200=>(.done y200))) .fail)
def qBH:Nat→Int→Option (BA)
 |0,_=>none
 |n+1,x0=>(qGj n x0).run
theorem qIa:∀n,Ok (Rn n) qNw (qBH n)
 |0=>ok0 fun _=>rfl
 |n+1=>stO (T:=qGj n) (by kernel_rfl) [] [] (fun _=>(by kernel_rfl)) fun _=>(by kernel_rfl)
def qOe:Sg:=⟨87,[aI],[],⟨aI,[],[]⟩⟩
def qHQ (n:Nat) (x0:Int):Tr (Int):=(.ask ((x0==(3:Int))) (.done (4:Int)) (.ask ((x0==(4:Int))) (.done (4:Int)) (.ask ((x0==(1:Int))) (.done (3:Int)) (.ask ((x0==(2:Int))) (.done (3:Int)) (.ask ((x0==(5:Int))) (.done (2:Int)) (.done (1:Int)))))))
def qDN:Nat→Int→Option (Int)
 |0,_=>none
 |n+1,x0=>(qHQ n x0).run
theorem qJg:∀n,Ok (Rn n) qOe (qDN n)
 |0=>ok0 fun _=>rfl
 |n+1=>stO (T:=qHQ n) (by kernel_rfl) [] [] (fun _=>(by kernel_rfl)) fun _=>(by kernel_rfl)
def qEh:Sg:=⟨36,[(.c (.ptr 0 0 0 0 0)),aI,aI],[[(0,⟨0,3,55,(.box [qS,(.own 0 1 1 0),qB])⟩),(1,⟨1,14,64,(.row [])⟩)]],⟨aI,[[(0,⟨0,3,55,(.box [qS,(.own 0 1 1 0),qB])⟩),(1,⟨1,14,64,(.row [])⟩)]],[]⟩⟩
def qJN:Sg:=⟨84,[(.c (.ptr 0 0 0 0 0)),aI],[[(0,⟨0,3,55,(.box [qS,(.own 0 1 1 0),qB])⟩),(1,⟨1,14,64,(.row [])⟩)]],⟨aI,[[(0,⟨0,3,55,(.box [qS,(.own 0 1 1 0),qB])⟩),(1,⟨1,14,64,(.row [])⟩)]],[]⟩⟩
def qJ6:Sg:=⟨134,[(.c (.ptr 0 0 0 0 0)),aI],[[(0,⟨0,3,55,(.box [qS,(.own 0 1 1 0),qB])⟩),(1,⟨1,14,64,(.row [])⟩)]],⟨aI,[[(0,⟨0,3,55,(.box [qS,(.own 0 1 1 0),qB])⟩),(1,⟨1,14,64,(.row [])⟩)]],[]⟩⟩
def qJ7:Sg:=⟨165,[(.c (.ptr 0 0 0 0 0)),aI,aI],[[(0,⟨0,3,55,(.box [qS,(.own 0 1 1 0),qB])⟩),(1,⟨1,14,64,(.row [])⟩)]],⟨aI,[[(0,⟨0,3,55,(.box [qS,(.own 0 1 1 0),qB])⟩),(1,⟨1,14,64,(.row [])⟩)]],[]⟩⟩
structure G_impl_reader_binary where
 impl_reader_binary:Int→Int→BA→Nat→Bool→RW→Option (Int×BA×Nat×Bool×RW)
 impl_reader_unary:Int→BA→Nat→Bool→RW→Option (Int×BA×Nat×Bool×RW)
 impl_reader_atom:Int→BA→Nat→Bool→RW→Option (Int×BA×Nat×Bool×RW)
 impl_reader_call:Int→Int→BA→Nat→Bool→RW→Option (Int×BA×Nat×Bool×RW)
def qA5 (n:Nat) (v:Int×Int×Int×Int×Int×BA×Nat×Bool×RW):Tr ((Int×Int×Int×Int×Int×BA×Nat×Bool×RW)⊕((Int×Int×Int×Int×BA×Nat×Bool×RW))):=(.ask ((decide (v.2.2.2.2.1≤(11:Int)))) (.opt (qBb n v.2.2.2.2.2.1 v.2.2.2.2.2.2.1 v.2.2.2.2.2.2.2.1 v.2.2.2.2.2.2.2.2) fun r198=>(.opt (qBH n v.2.2.2.2.1) fun r199=>(.ask ((r198.1.toList==r199.toList)) (.done (.inl (v.1,v.2.1,v.2.2.1,v.2.2.2.2.1,(IntKind.i64.wrap (v.2.2.2.2.1+(1:Int))),r198.2.1,r198.2.2.1,r198.2.2.2.1,r198.2.2.2.2))) (.done (.inl (v.1,v.2.1,v.2.2.1,v.2.2.2.1,(IntKind.i64.wrap (v.2.2.2.2.1+(1:Int))),r198.2.1,r198.2.2.1,r198.2.2.2.1,r198.2.2.2.2)))))) (.done (.inr ((v.1,v.2.1,v.2.2.1,v.2.2.2.1,v.2.2.2.2.2.1,v.2.2.2.2.2.2.1,v.2.2.2.2.2.2.2.1,v.2.2.2.2.2.2.2.2)))))
def qCm (rec:G_impl_reader_binary) (n:Nat) (v:Int×Int×Int×BA×Nat×Bool×RW):Tr ((Int×Int×Int×BA×Nat×Bool×RW)⊕((Int×BA×Nat×Bool×RW))):=(.ask ((!v.2.2.2.2.2.1)) (.opt (zC (qA5 n) n (v.1,v.2.1,v.2.2.1,(0:Int),(1:Int),v.2.2.2.1,v.2.2.2.2.1,v.2.2.2.2.2.1,v.2.2.2.2.2.2)) fun r200=>(.ask ((r200.2.2.2.1==(0:Int))) (.done (.inr ((r200.2.2.1,r200.2.2.2.2.1,r200.2.2.2.2.2.1,r200.2.2.2.2.2.2.1,r200.2.2.2.2.2.2.2)))) (.opt (qDN n r200.2.2.2.1) fun r201=>(.ask ((decide (r201<r200.1))) (.done (.inr ((r200.2.2.1,r200.2.2.2.2.1,r200.2.2.2.2.2.1,r200.2.2.2.2.2.2.1,r200.2.2.2.2.2.2.2)))) (.opt (qBH n r200.2.2.2.1) fun r202=>(.opt (ql n r202 r200.2.2.2.2.1 r200.2.2.2.2.2.1 r200.2.2.2.2.2.2.1 r200.2.2.2.2.2.2.2) fun r203=>(.opt (qDN n r200.2.2.2.1) fun r204=>(.opt (rec.impl_reader_binary (IntKind.i64.wrap (r204+(1:Int))) r200.2.1 r203.2.1 r203.2.2.1 r203.2.2.2.1 r203.2.2.2.2) fun r205=>(.ask (decide (2=([[(.i .i64 r200.2.2.1)],[(.i .i64 r205.1)]]:RW).length)) (.opt (qm n (5:Int) r200.2.2.2.1 (0:Int) (0:Int) (⟨#[]⟩:BA) (0:Int) (0:Int) false false (0:Int) (0:Int) false false ([[(.i .i64 r200.2.2.1)],[(.i .i64 r205.1)]]:RW) r205.2.1 r205.2.2.1 r205.2.2.2.1 r205.2.2.2.2) fun r206=>(.done (.inl (r200.1,r200.2.1,r206.1,r206.2.1,r206.2.2.1,r206.2.2.2.1,r206.2.2.2.2)))) .fail))))))))) (.done (.inr ((v.2.2.1,v.2.2.2.1,v.2.2.2.2.1,v.2.2.2.2.2.1,v.2.2.2.2.2.2)))))
def qEi (rec:G_impl_reader_binary) (n:Nat) (x0 x1:Int) (x2:BA) (x3:Nat) (x4:Bool) (x5:RW):Tr (Int×BA×Nat×Bool×RW):=(.opt (rec.impl_reader_unary x1 x2 x3 x4 x5) fun r197=>(.opt (zC (qCm rec n) n (x0,x1,r197.1,r197.2.1,r197.2.2.1,r197.2.2.2.1,r197.2.2.2.2)) fun r207=>(.done (r207.1,r207.2.1,r207.2.2.1,r207.2.2.2.1,r207.2.2.2.2))))
def qE7 (rec:G_impl_reader_binary) (n:Nat) (x0:Int) (x1:BA) (x2:Nat) (x3:Bool) (x4:RW):Tr (Int×BA×Nat×Bool×RW):=(.ask ((decide (x0>(400:Int)))) (.ask (true) (.done ((-1:Int),x1,x2,true,x4)) (.opt (ql n (⟨#[45]⟩:BA) x1 x2 true x4) fun r79=>(.ask (r79.1) (.opt (rec.impl_reader_unary (IntKind.i64.wrap (x0+(1:Int))) r79.2.1 r79.2.2.1 r79.2.2.2.1 r79.2.2.2.2) fun r80=>(.ask (decide (1=([[(.i .i64 r80.1)]]:RW).length)) (.opt (qm n (4:Int) (0:Int) (0:Int) (0:Int) (⟨#[]⟩:BA) (0:Int) (0:Int) false false (0:Int) (0:Int) false false ([[(.i .i64 r80.1)]]:RW) r80.2.1 r80.2.2.1 r80.2.2.2.1 r80.2.2.2.2) fun r81=>(.done (r81.1,r81.2.1,r81.2.2.1,r81.2.2.2.1,r81.2.2.2.2))) .fail)) (.opt (rec.impl_reader_atom x0 r79.2.1 r79.2.2.1 r79.2.2.2.1 r79.2.2.2.2) fun r192=>(.done (r192.1,r192.2.1,r192.2.2.1,r192.2.2.2.1,r192.2.2.2.2)))))) (.ask (x3) (.done ((-1:Int),x1,x2,x3,x4)) (.opt (ql n (⟨#[45]⟩:BA) x1 x2 x3 x4) fun r193=>(.ask (r193.1) (.opt (rec.impl_reader_unary (IntKind.i64.wrap (x0+(1:Int))) r193.2.1 r193.2.2.1 r193.2.2.2.1 r193.2.2.2.2) fun r194=>(.ask (decide (1=([[(.i .i64 r194.1)]]:RW).length)) (.opt (qm n (4:Int) (0:Int) (0:Int) (0:Int) (⟨#[]⟩:BA) (0:Int) (0:Int) false false (0:Int) (0:Int) false false ([[(.i .i64 r194.1)]]:RW) r194.2.1 r194.2.2.1 r194.2.2.2.1 r194.2.2.2.2) fun r195=>(.done (r195.1,r195.2.1,r195.2.2.1,r195.2.2.2.1,r195.2.2.2.2))) .fail)) (.opt (rec.impl_reader_atom x0 r193.2.1 r193.2.2.1 r193.2.2.2.1 r193.2.2.2.2) fun r196=>(.done (r196.1,r196.2.1,r196.2.2.1,r196.2.2.2.1,r196.2.2.2.2)))))))
def qBv (n:Nat) (v:Int×Int×BA×Nat×Bool×RW):Tr ((Int×Int×BA×Nat×Bool×RW)⊕((Int×BA×Nat×Bool×RW)⊕(Int×BA×Nat×Bool×RW))):=(.ask ((decide (v.2.1≤(5:Int)))) (.opt (qAb n v.2.1) fun r93=>(.opt (qAB n v.2.2.1 r93) fun r94=>(.ask (r94.2) (.opt (qBi n v.2.1) fun r95=>(.opt (qh n r95.1 r95.2.1 r95.2.2 r94.1 v.2.2.2.1 v.2.2.2.2.1 v.2.2.2.2.2) fun r96=>(.done (.inr (.inl ((r96.1,r96.2.1,r96.2.2.1,r96.2.2.2.1,r96.2.2.2.2))))))) (.done (.inl (v.1,(IntKind.i64.wrap (v.2.1+(1:Int))),v.2.2.1,v.2.2.2.1,v.2.2.2.2.1,v.2.2.2.2.2)))))) (.done (.inr (.inr ((v.1,v.2.2.1,v.2.2.2.1,v.2.2.2.2.1,v.2.2.2.2.2))))))
def qAg (rec:G_impl_reader_binary) (n:Nat) (v:Int×BA×Int×BA×Nat×Bool×RW):Tr ((Int×BA×Int×BA×Nat×Bool×RW)⊕((Int×BA×Nat×Bool×RW)⊕(BA×Nat×Bool×RW))):=(.ask ((decide (v.2.2.1≤(10:Int)))) (.opt (qBy n v.2.2.1) fun r165=>(.ask ((v.2.1.toList==r165.toList)) (.opt (rec.impl_reader_call v.2.2.1 v.1 v.2.2.2.1 v.2.2.2.2.1 v.2.2.2.2.2.1 v.2.2.2.2.2.2) fun r166=>(.done (.inr (.inl ((r166.1,r166.2.1,r166.2.2.1,r166.2.2.2.1,r166.2.2.2.2)))))) (.done (.inl (v.1,v.2.1,(IntKind.i64.wrap (v.2.2.1+(1:Int))),v.2.2.2.1,v.2.2.2.2.1,v.2.2.2.2.2.1,v.2.2.2.2.2.2))))) (.done (.inr (.inr ((v.2.2.2.1,v.2.2.2.2.1,v.2.2.2.2.2.1,v.2.2.2.2.2.2))))))
def qFi (rec:G_impl_reader_binary) (n:Nat) (x0:Int) (x1:BA) (x2:Nat) (x3:Bool) (x4:RW):Tr (Int×BA×Nat×Bool×RW):=(.opt (qAq n x1 x2 x3 x4) fun r82=>(.opt (qj n r82.1 (⟨#[34]⟩:BA)) fun r83=>(.ask (r83) (.opt (qDD n r82.1 r82.2.1 r82.2.2.1 r82.2.2.2) fun r91=>(.done (r91.1,r91.2.1,r91.2.2.1,r91.2.2.2.1,r91.2.2.2.2))) (.opt (qj n r82.1 (⟨#[35]⟩:BA)) fun r92=>(.ask (r92) (.opt (zC (qBv n) n (x0,(1:Int),r82.1,r82.2.1,r82.2.2.1,r82.2.2.2)) fun r97=>(.alt r97 (fun r98=>(.done (r98.1,r98.2.1,r98.2.2.1,r98.2.2.2.1,r98.2.2.2.2))) (fun r99=>(.opt (qBA n r99.2.1 r99.2.2.1 r99.2.2.2.1 r99.2.2.2.2) fun r102=>(.opt (qd n r102.1) fun r138=>(.ask (r138.2.2.2) (.ask ((r138.1==(1:Int))) (.opt (qh n r138.1 r138.2.1 r138.2.2.1 r102.2.1 r102.2.2.1 r102.2.2.2.1 r102.2.2.2.2) fun r139=>(.done (r139.1,r139.2.1,r139.2.2.1,r139.2.2.2.1,r139.2.2.2.2))) (.ask ((r138.1==(3:Int))) (.opt (qh n r138.1 r138.2.1 r138.2.2.1 r102.2.1 r102.2.2.1 r102.2.2.2.1 r102.2.2.2.2) fun r140=>(.done (r140.1,r140.2.1,r140.2.2.1,r140.2.2.2.1,r140.2.2.2.2))) (.opt (qAc n r102.1) fun r163=>(.ask (r163.2.2.2.2) (.opt (qm n (2:Int) (0:Int) (0:Int) (0:Int) (⟨#[]⟩:BA) r163.1 r163.2.1 r163.2.2.1 r163.2.2.2.1 (0:Int) (0:Int) false false ([]:RW) r102.2.1 r102.2.2.1 r102.2.2.2.1 r102.2.2.2.2) fun r164=>(.done (r164.1,r164.2.1,r164.2.2.1,r164.2.2.2.1,r164.2.2.2.2))) (.opt (zC (qAg rec n) n (r99.1,r102.1,(1:Int),r102.2.1,r102.2.2.1,r102.2.2.2.1,r102.2.2.2.2)) fun r167=>(.alt r167 (fun r168=>(.done (r168.1,r168.2.1,r168.2.2.1,r168.2.2.2.1,r168.2.2.2.2))) (fun r169=>(.done ((-1:Int),r169.1,r169.2.1,true,r169.2.2.2))))))))) (.opt (qAc n r102.1) fun r170=>(.ask (r170.2.2.2.2) (.opt (qm n (2:Int) (0:Int) (0:Int) (0:Int) (⟨#[]⟩:BA) r170.1 r170.2.1 r170.2.2.1 r170.2.2.2.1 (0:Int) (0:Int) false false ([]:RW) r102.2.1 r102.2.2.1 r102.2.2.2.1 r102.2.2.2.2) fun r171=>(.done (r171.1,r171.2.1,r171.2.2.1,r171.2.2.2.1,r171.2.2.2.2))) (.opt (zC (qAg rec n) n (r99.1,r102.1,(1:Int),r102.2.1,r102.2.2.1,r102.2.2.2.1,r102.2.2.2.2)) fun r172=>(.alt r172 (fun r173=>(.done (r173.1,r173.2.1,r173.2.2.1,r173.2.2.2.1,r173.2.2.2.2))) (fun r174=>(.done ((-1:Int),r174.1,r174.2.1,true,r174.2.2.2))))))))))))) (.opt (ql n (⟨#[40]⟩:BA) r82.1 r82.2.1 r82.2.2.1 r82.2.2.2) fun r175=>(.ask (r175.1) (.opt (rec.impl_reader_binary (1:Int) (IntKind.i64.wrap (x0+(1:Int))) r175.2.1 r175.2.2.1 r175.2.2.2.1 r175.2.2.2.2) fun r176=>(.ask (r176.2.2.2.1) (.done (r176.1,r176.2.1,r176.2.2.1,true,r176.2.2.2.2)) (.opt (ql n (⟨#[41]⟩:BA) r176.2.1 r176.2.2.1 r176.2.2.2.1 r176.2.2.2.2) fun r177=>(.done (r176.1,r177.2.1,r177.2.2.1,(!r177.1),r177.2.2.2.2))))) (.opt (qBA n r175.2.1 r175.2.2.1 r175.2.2.2.1 r175.2.2.2.2) fun r178=>(.opt (qd n r178.1) fun r179=>(.ask (r179.2.2.2) (.ask ((r179.1==(1:Int))) (.opt (qh n r179.1 r179.2.1 r179.2.2.1 r178.2.1 r178.2.2.1 r178.2.2.2.1 r178.2.2.2.2) fun r180=>(.done (r180.1,r180.2.1,r180.2.2.1,r180.2.2.2.1,r180.2.2.2.2))) (.ask ((r179.1==(3:Int))) (.opt (qh n r179.1 r179.2.1 r179.2.2.1 r178.2.1 r178.2.2.1 r178.2.2.2.1 r178.2.2.2.2) fun r181=>(.done (r181.1,r181.2.1,r181.2.2.1,r181.2.2.2.1,r181.2.2.2.2))) (.opt (qAc n r178.1) fun r182=>(.ask (r182.2.2.2.2) (.opt (qm n (2:Int) (0:Int) (0:Int) (0:Int) (⟨#[]⟩:BA) r182.1 r182.2.1 r182.2.2.1 r182.2.2.2.1 (0:Int) (0:Int) false false ([]:RW) r178.2.1 r178.2.2.1 r178.2.2.2.1 r178.2.2.2.2) fun r183=>(.done (r183.1,r183.2.1,r183.2.2.1,r183.2.2.2.1,r183.2.2.2.2))) (.opt (zC (qAg rec n) n (x0,r178.1,(1:Int),r178.2.1,r178.2.2.1,r178.2.2.2.1,r178.2.2.2.2)) fun r184=>(.alt r184 (fun r185=>(.done (r185.1,r185.2.1,r185.2.2.1,r185.2.2.2.1,r185.2.2.2.2))) (fun r186=>(.done ((-1:Int),r186.1,r186.2.1,true,r186.2.2.2))))))))) (.opt (qAc n r178.1) fun r187=>(.ask (r187.2.2.2.2) (.opt (qm n (2:Int) (0:Int) (0:Int) (0:Int) (⟨#[]⟩:BA) r187.1 r187.2.1 r187.2.2.1 r187.2.2.2.1 (0:Int) (0:Int) false false ([]:RW) r178.2.1 r178.2.2.1 r178.2.2.2.1 r178.2.2.2.2) fun r188=>(.done (r188.1,r188.2.1,r188.2.2.1,r188.2.2.2.1,r188.2.2.2.2))) (.opt (zC (qAg rec n) n (x0,r178.1,(1:Int),r178.2.1,r178.2.2.1,r178.2.2.2.1,r178.2.2.2.2)) fun r189=>(.alt r189 (fun r190=>(.done (r190.1,r190.2.1,r190.2.2.1,r190.2.2.2.1,r190.2.2.2.2))) (fun r191=>(.done ((-1:Int),r191.1,r191.2.1,true,r191.2.2.2)))))))))))))))))
def qB8 (rec:G_impl_reader_binary) (n:Nat) (v:Int×Int×Nat×RW×BA×Nat×Bool×RW):Tr ((Int×Int×Nat×RW×BA×Nat×Bool×RW)⊕((Int×Nat×RW×BA×Nat×Bool×RW))):=(.ask ((!v.2.2.2.2.2.2.1)) (.opt (qCr n v.2.2.2.2.1 v.2.2.2.2.2.1 v.2.2.2.2.2.2.1 v.2.2.2.2.2.2.2) fun r168=>(.ask (r168.2.2.2.2.2.2.2.2.2.2.2.2.2.2.1) (.opt (qm n r168.1 r168.2.1 r168.2.2.1 r168.2.2.2.1 r168.2.2.2.2.1 r168.2.2.2.2.2.1 r168.2.2.2.2.2.2.1 r168.2.2.2.2.2.2.2.1 r168.2.2.2.2.2.2.2.2.1 r168.2.2.2.2.2.2.2.2.2.1 r168.2.2.2.2.2.2.2.2.2.2.1 r168.2.2.2.2.2.2.2.2.2.2.2.1 r168.2.2.2.2.2.2.2.2.2.2.2.2.1 r168.2.2.2.2.2.2.2.2.2.2.2.2.2.1 r168.2.2.2.2.2.2.2.2.2.2.2.2.2.2.2.1 r168.2.2.2.2.2.2.2.2.2.2.2.2.2.2.2.2.1 r168.2.2.2.2.2.2.2.2.2.2.2.2.2.2.2.2.2.1 r168.2.2.2.2.2.2.2.2.2.2.2.2.2.2.2.2.2.2) fun r169=>(.ask (decide (1=([[(.i .i64 r169.1)]]:RW).length)) (.ask (decide (v.2.2.1=v.2.2.2.1.length∧0<1∧0<8∧(v.2.2.1+([[(.i .i64 r169.1)]]:RW).length)*8≤140737488355328∧([[(.i .i64 r169.1)]]:RW).all (fun e=>e.length==1)=true)) (.opt (ql n (⟨#[44]⟩:BA) r169.2.1 r169.2.2.1 r169.2.2.2.1 r169.2.2.2.2) fun r170=>(.ask ((!r170.1)) (.ask (r170.2.2.2.1) (.done (.inr ((v.1,(v.2.2.1+1),(v.2.2.2.1++([[(.i .i64 r169.1)]]:RW)),r170.2.1,r170.2.2.1,true,r170.2.2.2.2)))) (.opt (ql n (⟨#[41]⟩:BA) r170.2.1 r170.2.2.1 r170.2.2.2.1 r170.2.2.2.2) fun r171=>(.done (.inr ((v.1,(v.2.2.1+1),(v.2.2.2.1++([[(.i .i64 r169.1)]]:RW)),r171.2.1,r171.2.2.1,(!r171.1),r171.2.2.2.2)))))) (.done (.inl (v.1,v.2.1,(v.2.2.1+1),(v.2.2.2.1++([[(.i .i64 r169.1)]]:RW)),r170.2.1,r170.2.2.1,r170.2.2.2.1,r170.2.2.2.2))))) .fail) .fail)) (.opt (rec.impl_reader_binary (1:Int) (IntKind.i64.wrap (v.2.1+(1:Int))) r168.2.2.2.2.2.2.2.2.2.2.2.2.2.2.2.1 r168.2.2.2.2.2.2.2.2.2.2.2.2.2.2.2.2.1 r168.2.2.2.2.2.2.2.2.2.2.2.2.2.2.2.2.2.1 r168.2.2.2.2.2.2.2.2.2.2.2.2.2.2.2.2.2.2) fun r172=>(.ask (decide (1=([[(.i .i64 r172.1)]]:RW).length)) (.ask (decide (v.2.2.1=v.2.2.2.1.length∧0<1∧0<8∧(v.2.2.1+([[(.i .i64 r172.1)]]:RW).length)*8≤140737488355328∧([[(.i .i64 r172.1)]]:RW).all (fun e=>e.length==1)=true)) (.opt (ql n (⟨#[44]⟩:BA) r172.2.1 r172.2.2.1 r172.2.2.2.1 r172.2.2.2.2) fun r173=>(.ask ((!r173.1)) (.ask (r173.2.2.2.1) (.done (.inr ((v.1,(v.2.2.1+1),(v.2.2.2.1++([[(.i .i64 r172.1)]]:RW)),r173.2.1,r173.2.2.1,true,r173.2.2.2.2)))) (.opt (ql n (⟨#[41]⟩:BA) r173.2.1 r173.2.2.1 r173.2.2.2.1 r173.2.2.2.2) fun r174=>(.done (.inr ((v.1,(v.2.2.1+1),(v.2.2.2.1++([[(.i .i64 r172.1)]]:RW)),r174.2.1,r174.2.2.1,(!r174.1),r174.2.2.2.2)))))) (.done (.inl (v.1,v.2.1,(v.2.2.1+1),(v.2.2.2.1++([[(.i .i64 r172.1)]]:RW)),r173.2.1,r173.2.2.1,r173.2.2.2.1,r173.2.2.2.2))))) .fail) .fail)))) (.done (.inr ((v.1,v.2.2.1,v.2.2.2.1,v.2.2.2.2.1,v.2.2.2.2.2.1,v.2.2.2.2.2.2.1,v.2.2.2.2.2.2.2)))))
def qFj (rec:G_impl_reader_binary) (n:Nat) (x0 x1:Int) (x2:BA) (x3:Nat) (x4:Bool) (x5:RW):Tr (Int×BA×Nat×Bool×RW):=(.ask (x4) (.opt (zC (qB8 rec n) n (x0,x1,(0:Nat),([]:RW),x2,x3,true,x5)) fun r175=>(.ask (decide (r175.2.1=r175.2.2.1.length)) (.opt (qm n (6:Int) r175.1 (0:Int) (0:Int) (⟨#[]⟩:BA) (0:Int) (0:Int) false false (0:Int) (0:Int) false false r175.2.2.1 r175.2.2.2.1 r175.2.2.2.2.1 r175.2.2.2.2.2.1 r175.2.2.2.2.2.2) fun r176=>(.done (r176.1,r176.2.1,r176.2.2.1,r176.2.2.2.1,r176.2.2.2.2))) .fail)) (.opt (ql n (⟨#[40]⟩:BA) x2 x3 x4 x5) fun r177=>(.opt (zC (qB8 rec n) n (x0,x1,(0:Nat),([]:RW),r177.2.1,r177.2.2.1,(!r177.1),r177.2.2.2.2)) fun r178=>(.ask (decide (r178.2.1=r178.2.2.1.length)) (.opt (qm n (6:Int) r178.1 (0:Int) (0:Int) (⟨#[]⟩:BA) (0:Int) (0:Int) false false (0:Int) (0:Int) false false r178.2.2.1 r178.2.2.2.1 r178.2.2.2.2.1 r178.2.2.2.2.2.1 r178.2.2.2.2.2.2) fun r179=>(.done (r179.1,r179.2.1,r179.2.2.1,r179.2.2.2.1,r179.2.2.2.2))) .fail))))
def qR:Nat→G_impl_reader_binary
 |0=>⟨fun _ _ _ _ _ _=>none,fun _ _ _ _ _=>none,fun _ _ _ _ _=>none,fun _ _ _ _ _ _=>none⟩
 |n+1=>⟨fun x0 x1 x2 x3 x4 x5=>(qEi (qR n) n x0 x1 x2 x3 x4 x5).run,fun x0 x1 x2 x3 x4=>(qE7 (qR n) n x0 x1 x2 x3 x4).run,fun x0 x1 x2 x3 x4=>(qFi (qR n) n x0 x1 x2 x3 x4).run,fun x0 x1 x2 x3 x4 x5=>(qFj (qR n) n x0 x1 x2 x3 x4 x5).run⟩
def qCN (n:Nat) (x0 x1:Int) (x2:BA) (x3:Nat) (x4:Bool) (x5:RW):Option (Int×BA×Nat×Bool×RW):=(qR n).impl_reader_binary x0 x1 x2 x3 x4 x5
def qE8 (n:Nat) (x0:Int) (x1:BA) (x2:Nat) (x3:Bool) (x4:RW):Option (Int×BA×Nat×Bool×RW):=(qR n).impl_reader_unary x0 x1 x2 x3 x4
def qFk (n:Nat) (x0:Int) (x1:BA) (x2:Nat) (x3:Bool) (x4:RW):Option (Int×BA×Nat×Bool×RW):=(qR n).impl_reader_atom x0 x1 x2 x3 x4
def qB4 (n:Nat) (x0 x1:Int) (x2:BA) (x3:Nat) (x4:Bool) (x5:RW):Option (Int×BA×Nat×Bool×RW):=(qR n).impl_reader_call x0 x1 x2 x3 x4 x5
def q7 (n:Nat):Prop:=
 Ok (Rn n) qEh (qCN n)∧
 Ok (Rn n) qJN (qE8 n)∧
 Ok (Rn n) qJ6 (qFk n)∧
 Ok (Rn n) qJ7 (qB4 n)
abbrev qDF (n:Nat) (ih:q7 n):List (Ent (Rn n)):= [en ih.2.1,en (qE4 n),en (qIa n),en (qJg n),en (qBs n),en ih.1,en (qB3 n)]
def qGk (n:Nat) (ih:q7 n):LEnt (lb 14 (KB 36)) (Rn n) n:=lok (Uniq.pick (zU 36) 14) 237 ⟨⟨[(0,(.c (.ptr 0 0 0 0 0))),(1,aI),(2,aI),(7,aI),(8,aI),(9,aI)],[],[[(0,⟨0,3,55,(.box [qS,(.own 0 1 1 0),qB])⟩),(1,⟨1,14,64,(.row [])⟩)]]⟩,[(.exit 2,⟨[(0,(.c (.ptr 0 0 0 0 0))),(1,aI),(2,aI),(7,aI),(8,aI)],[],[[(0,⟨0,3,55,(.box [qS,(.own 0 1 1 0),qB])⟩),(1,⟨1,14,64,(.row [])⟩)]]⟩)]⟩ (qA5 n) (qDF n ih) [] fun _=>(by kernel_rfl)
def qG4 (n:Nat) (ih:q7 n):LEnt (KB 36) (Rn n) n:=lok (zU 36) 14 ⟨⟨[(0,(.c (.ptr 0 0 0 0 0))),(1,aI),(2,aI),(7,aI)],[],[[(0,⟨0,3,55,(.box [qS,(.own 0 1 1 0),qB])⟩),(1,⟨1,14,64,(.row [])⟩)]]⟩,[(.exit 0,⟨[(7,aI)],[],[[(0,⟨0,3,55,(.box [qS,(.own 0 1 1 0),qB])⟩),(1,⟨1,14,64,(.row [])⟩)]]⟩)]⟩ (qCm (qR n) n) (qDF n ih) [qGk n ih] fun _=>(by kernel_rfl)
abbrev qJO (n:Nat) (ih:q7 n):List (Ent (Rn n)):= [en (qBs n),en ih.2.1,en (qB3 n),en ih.2.2.1]
abbrev qDl (n:Nat) (ih:q7 n):List (Ent (Rn n)):= [en (qB6 n),en (qCL n),en (qH2 n),en (qD9 n),en (qCK n),en (qJf n),en (qDs n),en (qE5 n),en (qGF n),en (qGH n),en (qB3 n),en (qIZ n),en ih.2.2.2,en (qBs n),en ih.1]
def qHR (n:Nat) (ih:q7 n):LEnt (KB 134) (Rn n) n:=lok (zU 134) 477 ⟨⟨[(0,(.c (.ptr 0 0 0 0 0))),(1,aI),(5,aI)],[],[[(0,⟨0,3,55,(.box [qS,(.own 0 1 1 0),qB])⟩),(1,⟨1,14,64,(.row [])⟩)]]⟩,[(.ret,⟨[(4,aI)],[],[[(0,⟨0,3,55,(.box [qS,(.own 0 1 1 0),qB])⟩),(1,⟨1,14,64,(.row [])⟩)]]⟩),(.exit 1,⟨[(0,(.c (.ptr 0 0 0 0 0))),(1,aI)],[],[[(0,⟨0,3,55,(.box [qS,(.own 0 1 1 0),qB])⟩),(1,⟨1,14,64,(.row [])⟩)]]⟩)]⟩ (qBv n) (qDl n ih) [] fun _=>(by kernel_rfl)
def qHS (n:Nat) (ih:q7 n):LEnt (KB 134) (Rn n) n:=lok (zU 134) 509 ⟨⟨[(0,(.c (.ptr 0 0 0 0 0))),(1,aI),(9,aS),(14,aI)],[],[[(0,⟨0,3,55,(.box [qS,(.own 0 1 1 0),qB])⟩),(1,⟨1,14,64,(.row [])⟩)]]⟩,[(.ret,⟨[(4,aI)],[],[[(0,⟨0,3,55,(.box [qS,(.own 0 1 1 0),qB])⟩),(1,⟨1,14,64,(.row [])⟩)]]⟩),(.exit 3,⟨[(0,(.c (.ptr 0 0 0 0 0)))],[],[[(0,⟨0,3,55,(.box [qS,(.own 0 1 1 0),qB])⟩),(1,⟨1,14,64,(.row [])⟩)]]⟩)]⟩ (qAg (qR n) n) (qDl n ih) [] fun _=>(by kernel_rfl)
abbrev qFl (n:Nat) (ih:q7 n):List (Ent (Rn n)):= [en (qG3 n),en (qB3 n),en (qBs n),en ih.1]
def qH4 (n:Nat) (ih:q7 n):LEnt (KB 165) (Rn n) n:=lok (zU 165) 30 ⟨⟨[(0,(.c (.ptr 0 0 0 0 0))),(1,aI),(2,aI),(7,(.c (.own 1 640 0 0)))],[(640,⟨0,1,2,(.row [])⟩)],[[(0,⟨0,3,55,(.box [qS,(.own 0 1 1 0),qB])⟩),(1,⟨1,14,64,(.row [])⟩)]]⟩,[(.exit 0,⟨[(0,(.c (.ptr 0 0 0 0 0))),(1,aI),(7,(.c (.own 1 640 0 0)))],[(640,⟨0,1,2,(.row [])⟩)],[[(0,⟨0,3,55,(.box [qS,(.own 0 1 1 0),qB])⟩),(1,⟨1,14,64,(.row [])⟩)]]⟩)]⟩ (qB8 (qR n) n) (qFl n ih) [] fun _=>(by kernel_rfl)
theorem qAF:∀n,q7 n
 |0=>⟨ok0 fun _=>rfl,ok0 fun _=>rfl,ok0 fun _=>rfl,ok0 fun _=>rfl⟩
 |n+1=>⟨stO (T:=qEi (qR n) n) (by kernel_rfl) (qDF n (qAF n)) [qG4 n (qAF n)] (fun _=>(by kernel_rfl)) fun _=>(by kernel_rfl),stO (T:=qE7 (qR n) n) (by kernel_rfl) (qJO n (qAF n)) [] (fun _=>(by kernel_rfl)) fun _=>(by kernel_rfl),stO (T:=qFi (qR n) n) (by kernel_rfl) (qDl n (qAF n)) [qHR n (qAF n),qHS n (qAF n)] (fun _=>(by kernel_rfl)) fun _=>(by kernel_rfl),stO (T:=qFj (qR n) n) (by kernel_rfl) (qFl n (qAF n)) [qH4 n (qAF n)] (fun _=>(by kernel_rfl)) fun _=>(by kernel_rfl)⟩
theorem qH5 (n:Nat):Ok (Rn n) qEh (qCN n):=(qAF n).1
def qKd:Sg:=⟨174,[(.agg [qI,qI,qI,qI,qS,qI,qI,qB,qB,qI,qI,qB,qB,qL])],[],⟨(.agg [qI,qI,qI,qI]),[],[]⟩⟩
def qED (n:Nat) (x0 x1 x2 x3:Int) (x4:BA) (x5 x6:Int) (x7 x8:Bool) (x9 x10:Int) (x11 x12:Bool) (x13:RW):Tr (Int×Int×Int×Int):=(.ask ((x0==(2:Int))) (.done (x5,x6,x5,x6)) (.done (x5,x6,x9,x10)))
def qCO:Nat→Int→Int→Int→Int→BA→Int→Int→Bool→Bool→Int→Int→Bool→Bool→RW→Option (Int×Int×Int×Int)
 |0,_,_,_,_,_,_,_,_,_,_,_,_,_,_=>none
 |n+1,x0,x1,x2,x3,x4,x5,x6,x7,x8,x9,x10,x11,x12,x13=>(qED n x0 x1 x2 x3 x4 x5 x6 x7 x8 x9 x10 x11 x12 x13).run
theorem qJ8:∀n,Ok (Rn n) qKd (qCO n)
 |0=>ok0 fun _=>rfl
 |n+1=>stO (T:=qED n) (by kernel_rfl) [] [] (fun _=>(by kernel_rfl)) fun _=>(by kernel_rfl)
def qNx:Sg:=⟨173,[(.agg [qI,qI,qI,qI])],[],⟨aB,[],[]⟩⟩
def qGl (n:Nat) (x0 x1 x2 x3:Int):Tr (Bool):=(.opt (qBh n x0 x1) fun r230=>(.ask (r230) (.opt (qBh n x2 x3) fun r231=>(.ask (r231) (.ask ((decide (x0≤x2))) (.done (decide (x1≤x3))) (.done false)) (.done false))) (.done false)))
def qDb:Nat→Int→Int→Int→Int→Option (Bool)
 |0,_,_,_,_=>none
 |n+1,x0,x1,x2,x3=>(qGl n x0 x1 x2 x3).run
abbrev qNy (n:Nat):List (Ent (Rn n)):= [en (qEc n)]
theorem qM8:∀n,Ok (Rn n) qNx (qDb n)
 |0=>ok0 fun _=>rfl
 |n+1=>stO (T:=qGl n) (by kernel_rfl) (qNy n) [] (fun _=>(by kernel_rfl)) fun _=>(by kernel_rfl)
def qH6:Sg:=⟨145,[(.agg [qI,qI,qI,qI,qS,qI,qI,qB,qB,qI,qI,qB,qB,qL])],[],⟨aB,[],[]⟩⟩
def qC3 (n:Nat) (x0 x1 x2 x3:Int) (x4:BA) (x5 x6:Int) (x7 x8:Bool) (x9 x10:Int) (x11 x12:Bool) (x13:RW):Tr (Bool):=(.ask ((x0 !=(2:Int))) (.ask ((x0 !=(3:Int))) (.done true) (.opt (qCO n x0 x1 x2 x3 x4 x5 x6 x7 x8 x9 x10 x11 x12 x13) fun r229=>(.opt (qDb n r229.1 r229.2.1 r229.2.2.1 r229.2.2.2) fun r232=>(.done r232)))) (.opt (qCO n x0 x1 x2 x3 x4 x5 x6 x7 x8 x9 x10 x11 x12 x13) fun r233=>(.opt (qDb n r233.1 r233.2.1 r233.2.2.1 r233.2.2.2) fun r234=>(.done r234))))
def q8:Nat→Int→Int→Int→Int→BA→Int→Int→Bool→Bool→Int→Int→Bool→Bool→RW→Option (Bool)
 |0,_,_,_,_,_,_,_,_,_,_,_,_,_,_=>none
 |n+1,x0,x1,x2,x3,x4,x5,x6,x7,x8,x9,x10,x11,x12,x13=>(qC3 n x0 x1 x2 x3 x4 x5 x6 x7 x8 x9 x10 x11 x12 x13).run
abbrev qH7 (n:Nat):List (Ent (Rn n)):= [en (qJ8 n),en (qM8 n)]
theorem qHT:∀n,Ok (Rn n) qH6 (q8 n)
 |0=>ok0 fun _=>rfl
 |n+1=>stO (T:=qC3 n) (by kernel_rfl) (qH7 n) [] (fun _=>(by kernel_rfl)) fun _=>(by kernel_rfl)
def qJP:Sg:=⟨146,[(.agg [qI,qI,qI,qI,qS,qI,qI,qB,qB,qI,qI,qB,qB,qL])],[],⟨aB,[],[]⟩⟩
def qDY (n:Nat) (x0 x1 x2 x3:Int) (x4:BA) (x5 x6:Int) (x7 x8:Bool) (x9 x10:Int) (x11 x12:Bool) (x13:RW):Tr (Bool):=(.ask ((x0==(4:Int))) (.ask ((x1==(0:Int))) (.done ((x13.length:Int)==(1:Int))) (.done false)) (.ask ((x0==(5:Int))) (.opt (qAd n x1 (1:Int) (11:Int)) fun r236=>(.ask (r236) (.done ((x13.length:Int)==(2:Int))) (.done false))) (.ask ((x0==(6:Int))) (.opt (qAd n x1 (1:Int) (10:Int)) fun r237=>(.ask ((!r237)) (.done false) (.ask ((x1==(5:Int))) (.opt (qAd n (x13.length:Int) (2:Int) (3:Int)) fun r238=>(.done r238)) (.ask ((decide (x1≥(8:Int)))) (.done ((x13.length:Int)==(1:Int))) (.opt (qAd n (x13.length:Int) (1:Int) (10:Int)) fun r239=>(.done r239)))))) (.ask ((x1==(0:Int))) (.done ((x13.length:Int)==(0:Int))) (.done false)))))
def qAH:Nat→Int→Int→Int→Int→BA→Int→Int→Bool→Bool→Int→Int→Bool→Bool→RW→Option (Bool)
 |0,_,_,_,_,_,_,_,_,_,_,_,_,_,_=>none
 |n+1,x0,x1,x2,x3,x4,x5,x6,x7,x8,x9,x10,x11,x12,x13=>(qDY n x0 x1 x2 x3 x4 x5 x6 x7 x8 x9 x10 x11 x12 x13).run
abbrev qJQ (n:Nat):List (Ent (Rn n)):= [en (qDB n)]
theorem qIb:∀n,Ok (Rn n) qJP (qAH n)
 |0=>ok0 fun _=>rfl
 |n+1=>stO (T:=qDY n) (by kernel_rfl) (qJQ n) [] (fun _=>(by kernel_rfl)) fun _=>(by kernel_rfl)
def qJ9:Sg:=⟨105,[(.agg [qI,qI,qI,qI,qS,qI,qI,qB,qB,qI,qI,qB,qB,qL])],[],⟨aB,[],[]⟩⟩
def qDm (n:Nat) (x0 x1 x2 x3:Int) (x4:BA) (x5 x6:Int) (x7 x8:Bool) (x9 x10:Int) (x11 x12:Bool) (x13:RW):Tr (Bool):=(.ask ((x0==(1:Int))) (.opt (qAL n x2 x3 x4) fun r228=>(.ask ((!r228)) (.done false) (.ask ((x2==(0:Int))) (.done false) (.ask ((x2==(1:Int))) (.ask ((decide (x3<(0:Int)))) (.done false) (.opt (q8 n x0 x1 x2 x3 x4 x5 x6 x7 x8 x9 x10 x11 x12 x13) fun r235=>(.ask (r235) (.opt (qAH n x0 x1 x2 x3 x4 x5 x6 x7 x8 x9 x10 x11 x12 x13) fun r240=>(.ask (r240) (.ask (((x2==x2)&&((x3==x3)&&((x4.toList==x4.toList)&&true)))) (.ask ((((0:Int)==x5)&&(((0:Int)==x6)&&((false==x7)&&((false==x8)&&true))))) (.done (((0:Int)==x9)&&(((0:Int)==x10)&&((false==x11)&&((false==x12)&&true))))) (.done false)) (.done false)) (.done false))) (.done false)))) (.opt (q8 n x0 x1 x2 x3 x4 x5 x6 x7 x8 x9 x10 x11 x12 x13) fun r241=>(.ask (r241) (.opt (qAH n x0 x1 x2 x3 x4 x5 x6 x7 x8 x9 x10 x11 x12 x13) fun r242=>(.ask (r242) (.ask (((x2==x2)&&((x3==x3)&&((x4.toList==x4.toList)&&true)))) (.ask ((((0:Int)==x5)&&(((0:Int)==x6)&&((false==x7)&&((false==x8)&&true))))) (.done (((0:Int)==x9)&&(((0:Int)==x10)&&((false==x11)&&((false==x12)&&true))))) (.done false)) (.done false)) (.done false))) (.done false))))))) (.ask ((x0==(2:Int))) (.opt (q8 n x0 x1 x2 x3 x4 x5 x6 x7 x8 x9 x10 x11 x12 x13) fun r243=>(.ask (r243) (.opt (qAH n x0 x1 x2 x3 x4 x5 x6 x7 x8 x9 x10 x11 x12 x13) fun r244=>(.ask (r244) (.ask ((((0:Int)==x2)&&(((0:Int)==x3)&&(((⟨#[]⟩:BA).toList==x4.toList)&&true)))) (.ask (((x5==x5)&&((x6==x6)&&((x7==x7)&&((x8==x8)&&true))))) (.done (((0:Int)==x9)&&(((0:Int)==x10)&&((false==x11)&&((false==x12)&&true))))) (.done false)) (.done false)) (.done false))) (.done false))) (.ask ((x0==(3:Int))) (.opt (q8 n x0 x1 x2 x3 x4 x5 x6 x7 x8 x9 x10 x11 x12 x13) fun r245=>(.ask (r245) (.opt (qAH n x0 x1 x2 x3 x4 x5 x6 x7 x8 x9 x10 x11 x12 x13) fun r246=>(.ask (r246) (.ask ((((0:Int)==x2)&&(((0:Int)==x3)&&(((⟨#[]⟩:BA).toList==x4.toList)&&true)))) (.ask (((x5==x5)&&((x6==x6)&&((x7==x7)&&((x8==x8)&&true))))) (.done ((x9==x9)&&((x10==x10)&&((x11==x11)&&((x12==x12)&&true))))) (.done false)) (.done false)) (.done false))) (.done false))) (.ask ((x0==(4:Int))) (.opt (q8 n x0 x1 x2 x3 x4 x5 x6 x7 x8 x9 x10 x11 x12 x13) fun r247=>(.ask (r247) (.opt (qAH n x0 x1 x2 x3 x4 x5 x6 x7 x8 x9 x10 x11 x12 x13) fun r248=>(.ask (r248) (.ask ((((0:Int)==x2)&&(((0:Int)==x3)&&(((⟨#[]⟩:BA).toList==x4.toList)&&true)))) (.ask ((((0:Int)==x5)&&(((0:Int)==x6)&&((false==x7)&&((false==x8)&&true))))) (.done (((0:Int)==x9)&&(((0:Int)==x10)&&((false==x11)&&((false==x12)&&true))))) (.done false)) (.done false)) (.done false))) (.done false))) (.ask ((x0==(5:Int))) (.opt (q8 n x0 x1 x2 x3 x4 x5 x6 x7 x8 x9 x10 x11 x12 x13) fun r249=>(.ask (r249) (.opt (qAH n x0 x1 x2 x3 x4 x5 x6 x7 x8 x9 x10 x11 x12 x13) fun r250=>(.ask (r250) (.ask ((((0:Int)==x2)&&(((0:Int)==x3)&&(((⟨#[]⟩:BA).toList==x4.toList)&&true)))) (.ask ((((0:Int)==x5)&&(((0:Int)==x6)&&((false==x7)&&((false==x8)&&true))))) (.done (((0:Int)==x9)&&(((0:Int)==x10)&&((false==x11)&&((false==x12)&&true))))) (.done false)) (.done false)) (.done false))) (.done false))) (.ask ((x0==(6:Int))) (.opt (q8 n x0 x1 x2 x3 x4 x5 x6 x7 x8 x9 x10 x11 x12 x13) fun r251=>(.ask (r251) (.opt (qAH n x0 x1 x2 x3 x4 x5 x6 x7 x8 x9 x10 x11 x12 x13) fun r252=>(.ask (r252) (.ask ((((0:Int)==x2)&&(((0:Int)==x3)&&(((⟨#[]⟩:BA).toList==x4.toList)&&true)))) (.ask ((((0:Int)==x5)&&(((0:Int)==x6)&&((false==x7)&&((false==x8)&&true))))) (.done (((0:Int)==x9)&&(((0:Int)==x10)&&((false==x11)&&((false==x12)&&true))))) (.done false)) (.done false)) (.done false))) (.done false))) (.done false)))))))
def qCs:Nat→Int→Int→Int→Int→BA→Int→Int→Bool→Bool→Int→Int→Bool→Bool→RW→Option (Bool)
 |0,_,_,_,_,_,_,_,_,_,_,_,_,_,_=>none
 |n+1,x0,x1,x2,x3,x4,x5,x6,x7,x8,x9,x10,x11,x12,x13=>(qDm n x0 x1 x2 x3 x4 x5 x6 x7 x8 x9 x10 x11 x12 x13).run
abbrev qKA (n:Nat):List (Ent (Rn n)):= [en (qEv n),en (qHT n),en (qIb n)]
theorem qJR:∀n,Ok (Rn n) qJ9 (qCs n)
 |0=>ok0 fun _=>rfl
 |n+1=>stO (T:=qDm n) (by kernel_rfl) (qKA n) [] (fun _=>(by kernel_rfl)) fun _=>(by kernel_rfl)
def qIc:Sg:=⟨49,[aL,aI,aI],[],⟨aI,[],[]⟩⟩
def qAM (rec:RW→Int→Int→Option (Int)) (n:Nat) (v:RW×Int×Int×Int×Int):Tr ((RW×Int×Int×Int×Int)⊕((Int)⊕(Int))):=(.ask ((decide (v.2.2.2.2≥(0:Int)))) (.ask (decide (0≤v.2.1∧v.2.1<v.1.length)) (.opt (v.1[(v.2.1).toNat]?) fun e256=>(.ask (decide (e256.length=14)) (.opt (zAr e256 13) fun y257=>(.ask (decide (0≤v.2.2.2.2∧v.2.2.2.2<y257.length)) (.opt (y257[(v.2.2.2.2).toNat]?) fun e258=>(.ask (decide (e258.length=1)) (.opt (zE .i64 e258 0) fun y259=>(.ask ((y259 !=(IntKind.i64.wrap (v.2.2.2.1-(1:Int))))) (.done (.inr (.inl ((-1:Int))))) (.ask ((decide (y259<(0:Int)))) (.done (.inr (.inl ((-1:Int))))) (.ask (decide (0≤y259∧y259<v.1.length)) (.opt (v.1[(y259).toNat]?) fun e260=>(.ask (decide (e260.length=14)) (.opt (zE .i64 e260 0) fun y261=>(.ask ((y261==(3:Int))) (.ask (decide (0≤v.2.1∧v.2.1<v.1.length)) (.opt (v.1[(v.2.1).toNat]?) fun e262=>(.ask (decide (e262.length=14)) (.opt (zE .i64 e262 0) fun y263=>(.ask ((y263 !=(6:Int))) (.done (.inr (.inl ((-1:Int))))) (.opt (rec v.1 y259 (IntKind.i64.wrap (v.2.2.1+(1:Int)))) fun r264=>(.ask ((decide (r264<(0:Int)))) (.done (.inr (.inl ((-1:Int))))) (.done (.inl (v.1,v.2.1,v.2.2.1,r264,(IntKind.i64.wrap (v.2.2.2.2-(1:Int)))))))))) .fail)) .fail) (.opt (rec v.1 y259 (IntKind.i64.wrap (v.2.2.1+(1:Int)))) fun r265=>(.ask ((decide (r265<(0:Int)))) (.done (.inr (.inl ((-1:Int))))) (.done (.inl (v.1,v.2.1,v.2.2.1,r265,(IntKind.i64.wrap (v.2.2.2.2-(1:Int)))))))))) .fail)) .fail)))) .fail)) .fail)) .fail)) .fail) (.done (.inr (.inr (v.2.2.2.1)))))
def qEj (rec:RW→Int→Int→Option (Int)) (n:Nat) (x0:RW) (x1 x2:Int):Tr (Int):=(.ask ((decide (x1<(0:Int)))) (.done (-1:Int)) (.ask ((decide (x2≥(12:Int)))) (.done (-1:Int)) (.ask (decide (0≤x1∧x1<x0.length)) (.opt (x0[(x1).toNat]?) fun e213=>(.ask (decide (e213.length=14)) (.opt (zE .i64 e213 0) fun y214=>(.opt (zE .i64 e213 1) fun y215=>(.opt (zE .i64 e213 2) fun y216=>(.opt (zE .i64 e213 3) fun y217=>(.opt (zc e213 4) fun y218=>(.opt (zE .i64 e213 5) fun y219=>(.opt (zE .i64 e213 6) fun y220=>(.opt (zAG e213 7) fun y221=>(.opt (zAG e213 8) fun y222=>(.opt (zE .i64 e213 9) fun y223=>(.opt (zE .i64 e213 10) fun y224=>(.opt (zAG e213 11) fun y225=>(.opt (zAG e213 12) fun y226=>(.opt (zAr e213 13) fun y227=>(.opt (qCs n y214 y215 y216 y217 y218 y219 y220 y221 y222 y223 y224 y225 y226 y227) fun r253=>(.ask ((!r253)) (.done (-1:Int)) (.ask (decide (0≤x1∧x1<x0.length)) (.opt (x0[(x1).toNat]?) fun e254=>(.ask (decide (e254.length=14)) (.opt (zAr e254 13) fun y255=>(.opt (zC (qAM rec n) n (x0,x1,x2,x1,(IntKind.i64.wrap ((y255.length:Int)-(1:Int))))) fun r266=>(.alt r266 (fun r267=>(.done r267)) (fun r268=>(.done r268))))) .fail)) .fail))))))))))))))))) .fail)) .fail)))
def qAf:Nat→RW→Int→Int→Option (Int)
 |0,_,_,_=>none
 |n+1,x0,x1,x2=>(qEj (qAf n) n x0 x1 x2).run
abbrev qLn (n:Nat) (ih:Ok (Rn n) qIc (qAf n)):List (Ent (Rn n)):= [en (qJR n),en ih]
def qM9 (n:Nat) (ih:Ok (Rn n) qIc (qAf n)):LEnt (KB 49) (Rn n) n:=lok (zU 49) 61 ⟨⟨[(0,aL),(1,aI),(2,aI),(7,aI),(8,aI)],[],[]⟩,[(.ret,⟨[(6,aI)],[],[]⟩),(.exit 0,⟨[(7,aI)],[],[]⟩)]⟩ (qAM (qAf n) n) (qLn n ih) [] fun _=>(by kernel_rfl)
theorem qHU:∀n,Ok (Rn n) qIc (qAf n)
 |0=>ok0 fun _=>rfl
 |n+1=>stO (T:=qEj (qAf n) n) (by kernel_rfl) (qLn n (qHU n)) [qM9 n (qHU n)] (fun _=>(by kernel_rfl)) fun _=>(by kernel_rfl)
def qLQ:Sg:=⟨18,[aL],[],⟨aB,[],[]⟩⟩
def qCn (n:Nat) (x0:RW):Tr (Bool):=(.opt (qAd n (x0.length:Int) (1:Int) (60:Int)) fun r210=>(.ask (r210) (.ask (decide (0≤(IntKind.i64.wrap ((x0.length:Int)-(1:Int)))∧(IntKind.i64.wrap ((x0.length:Int)-(1:Int)))<x0.length)) (.opt (x0[((IntKind.i64.wrap ((x0.length:Int)-(1:Int)))).toNat]?) fun e211=>(.ask (decide (e211.length=14)) (.opt (zE .i64 e211 0) fun y212=>(.ask ((y212 !=(3:Int))) (.opt (qAf n x0 (IntKind.i64.wrap ((x0.length:Int)-(1:Int))) (0:Int)) fun r269=>(.done (r269==(0:Int)))) (.done false))) .fail)) .fail) (.done false)))
def qBd:Nat→RW→Option (Bool)
 |0,_=>none
 |n+1,x0=>(qCn n x0).run
abbrev qLR (n:Nat):List (Ent (Rn n)):= [en (qDB n),en (qHU n)]
theorem qGI:∀n,Ok (Rn n) qLQ (qBd n)
 |0=>ok0 fun _=>rfl
 |n+1=>stO (T:=qCn n) (by kernel_rfl) (qLR n) [] (fun _=>(by kernel_rfl)) fun _=>(by kernel_rfl)
def qKB:Sg:=⟨10,[aS],[],⟨(.tup [(false,[qL]),(false,[qB])]),[],[]⟩⟩
def qFm (n:Nat) (x0:BA):Tr (RW×Bool):=(.opt (qC0 n x0 (200:Int)) fun r69=>(.ask ((!r69)) (.ask (decide (0=([]:RW).length)) (.done (([]:RW),false)) .fail) (.opt (qCN n (1:Int) (0:Int) x0 (0:Nat) false ([]:RW)) fun r208=>(.opt (qAq n r208.2.1 r208.2.2.1 r208.2.2.2.1 r208.2.2.2.2) fun r209=>(.ask (r209.2.2.1) (.ask (decide (0=([]:RW).length)) (.done (([]:RW),false)) .fail) (.ask ((!(r209.1.toList==(⟨#[]⟩:BA).toList))) (.ask (decide (0=([]:RW).length)) (.done (([]:RW),false)) .fail) (.ask (decide (r209.2.1=r209.2.2.2.length)) (.opt (qBd n r209.2.2.2) fun r270=>(.ask (zAa (⟨(.c (.p (.b r270))),[],[]⟩:Res)) (.ask ((!r270)) (.ask (decide (0=([]:RW).length)) (.done (([]:RW),false)) .fail) (.ask (decide (r209.2.1=r209.2.2.2.length)) (.done (r209.2.2.2,true)) .fail)) .fail)) .fail)))))))
def qDn:Nat→BA→Option (RW×Bool)
 |0,_=>none
 |n+1,x0=>(qFm n x0).run
abbrev qKC (n:Nat):List (Ent (Rn n)):= [en (qFZ n),en (qH5 n),en (qB6 n),en (qGI n)]
theorem qJS:∀n,Ok (Rn n) qKB (qDn n)
 |0=>ok0 fun _=>rfl
 |n+1=>stO (T:=qFm n) (by kernel_rfl) (qKC n) [] (fun _=>(by kernel_rfl)) fun _=>(by kernel_rfl)
def qEk:Sg:=⟨101,[aS,aS,aS],[],⟨aS,[],[]⟩⟩
def qDG:Nat→BA→BA→BA→Option ((BA))
 |0,_,_,_=>none
 |n+1,x0,x1,x2=>za x0 x1 x2
theorem qH8:∀n,Ok (Rn n) qEk (qDG n)
 |0=>ok0 fun _=>rfl
 |n+1=>stL (by kernel_rfl) (fun a r e=>congrArg (Option.map fun r=>(qEk.Of r).v) e) rfl rfl rfl
def qId:Sg:=⟨104,[aL,aS],[],⟨aS,[],[]⟩⟩
def qFn:Nat→RW→BA→Option ((BA))
 |0,_,_=>none
 |n+1,x0,x1=>zAf x0 x1
theorem qMG:∀n,Ok (Rn n) qId (qFn n)
 |0=>ok0 fun _=>rfl
 |n+1=>stL (by kernel_rfl) (fun a r e=>congrArg (Option.map fun r=>(qId.Of r).v) e) rfl rfl rfl
def qDo:Sg:=⟨47,[aL,aI,aI],[],⟨aS,[],[]⟩⟩
def qBN (rec:RW→Int→Int→Option (BA)) (n:Nat) (v:RW×Nat×RW×Int×Int×Int×Int×Int×Int×BA×Int×Int×Bool×Bool×Int×Int×Bool×Bool×RW×RW):Tr ((RW×Nat×RW×Int×Int×Int×Int×Int×Int×BA×Int×Int×Bool×Bool×Int×Int×Bool×Bool×RW×RW)⊕((Nat×Int×Int×Int×Int×BA×Int×Int×Bool×Bool×Int×Int×Bool×Bool×RW×RW))):=(.ask ((decide (v.2.2.2.2.1<v.2.2.2.1))) (.ask (decide (0≤v.2.2.2.2.1∧v.2.2.2.2.1<v.2.2.1.length)) (.opt (v.2.2.1[(v.2.2.2.2.1).toNat]?) fun e304=>(.ask (decide (e304.length=1)) (.opt (zE .i64 e304 0) fun y305=>(.opt (rec v.1 y305 (1:Int)) fun r306=>(.ask (decide (1=([[(.s r306)]]:RW).length)) (.ask (decide (v.2.1=v.2.2.2.2.2.2.2.2.2.2.2.2.2.2.2.2.2.2.2.length∧0<1∧0<16∧(v.2.1+([[(.s r306)]]:RW).length)*16≤140737488355328∧([[(.s r306)]]:RW).all (fun e=>e.length==1)=true)) (.done (.inl (v.1,(v.2.1+1),v.2.2.1,v.2.2.2.1,(IntKind.i64.wrap (v.2.2.2.2.1+(1:Int))),v.2.2.2.2.2.1,v.2.2.2.2.2.2.1,v.2.2.2.2.2.2.2.1,v.2.2.2.2.2.2.2.2.1,v.2.2.2.2.2.2.2.2.2.1,v.2.2.2.2.2.2.2.2.2.2.1,v.2.2.2.2.2.2.2.2.2.2.2.1,v.2.2.2.2.2.2.2.2.2.2.2.2.1,v.2.2.2.2.2.2.2.2.2.2.2.2.2.1,v.2.2.2.2.2.2.2.2.2.2.2.2.2.2.1,v.2.2.2.2.2.2.2.2.2.2.2.2.2.2.2.1,v.2.2.2.2.2.2.2.2.2.2.2.2.2.2.2.2.1,v.2.2.2.2.2.2.2.2.2.2.2.2.2.2.2.2.2.1,v.2.2.2.2.2.2.2.2.2.2.2.2.2.2.2.2.2.2.1,(v.2.2.2.2.2.2.2.2.2.2.2.2.2.2.2.2.2.2.2++([[(.s r306)]]:RW))))) .fail) .fail))) .fail)) .fail) (.done (.inr ((v.2.1,v.2.2.2.2.2.1,v.2.2.2.2.2.2.1,v.2.2.2.2.2.2.2.1,v.2.2.2.2.2.2.2.2.1,v.2.2.2.2.2.2.2.2.2.1,v.2.2.2.2.2.2.2.2.2.2.1,v.2.2.2.2.2.2.2.2.2.2.2.1,v.2.2.2.2.2.2.2.2.2.2.2.2.1,v.2.2.2.2.2.2.2.2.2.2.2.2.2.1,v.2.2.2.2.2.2.2.2.2.2.2.2.2.2.1,v.2.2.2.2.2.2.2.2.2.2.2.2.2.2.2.1,v.2.2.2.2.2.2.2.2.2.2.2.2.2.2.2.2.1,v.2.2.2.2.2.2.2.2.2.2.2.2.2.2.2.2.2.1,v.2.2.2.2.2.2.2.2.2.2.2.2.2.2.2.2.2.2.1,v.2.2.2.2.2.2.2.2.2.2.2.2.2.2.2.2.2.2.2)))))
def qAh (rec:RW→Int→Int→Option (BA)) (n:Nat) (x0:RW) (x1 x2:Int):Tr (BA):=(.ask (decide (0≤x1∧x1<x0.length)) (.opt (x0[(x1).toNat]?) fun e273=>(.ask (decide (e273.length=14)) (.opt (zE .i64 e273 0) fun y274=>(.opt (zE .i64 e273 1) fun y275=>(.opt (zE .i64 e273 2) fun y276=>(.opt (zE .i64 e273 3) fun y277=>(.opt (zc e273 4) fun y278=>(.opt (zE .i64 e273 5) fun y279=>(.opt (zE .i64 e273 6) fun y280=>(.opt (zAG e273 7) fun y281=>(.opt (zAG e273 8) fun y282=>(.opt (zE .i64 e273 9) fun y283=>(.opt (zE .i64 e273 10) fun y284=>(.opt (zAG e273 11) fun y285=>(.opt (zAG e273 12) fun y286=>(.opt (zAr e273 13) fun y287=>(.ask ((y274==(1:Int))) (.ask ((y276==(2:Int))) (.opt (qDG n y278 (⟨#[34]⟩:BA) (⟨#[34,34]⟩:BA)) fun r288=>(.ask (decide ((⟨#[34]⟩:BA).size+r288.size≤9223372036854775807)) (.ask (decide (((⟨#[34]⟩:BA)++r288).size+(⟨#[34]⟩:BA).size≤9223372036854775807)) (.done (((⟨#[34]⟩:BA)++r288)++(⟨#[34]⟩:BA))) .fail) .fail)) (.opt (qn n y276 y277 y278) fun r289=>(.done r289))) (.ask ((y274==(2:Int))) (.opt (qAz n y279 y280 y281 y282) fun r290=>(.done r290)) (.ask ((y274==(3:Int))) (.opt (qAz n y279 y280 y281 y282) fun r291=>(.ask (decide (r291.size+(⟨#[58]⟩:BA).size≤9223372036854775807)) (.opt (qAz n y283 y284 y285 y286) fun r292=>(.ask (decide ((r291++(⟨#[58]⟩:BA)).size+r292.size≤9223372036854775807)) (.done ((r291++(⟨#[58]⟩:BA))++r292)) .fail)) .fail)) (.ask ((y274==(4:Int))) (.ask (decide (0≤(0:Int)∧(0:Int)<y287.length)) (.opt (y287[((0:Int)).toNat]?) fun e293=>(.ask (decide (e293.length=1)) (.opt (zE .i64 e293 0) fun y294=>(.opt (rec x0 y294 (5:Int)) fun r295=>(.ask (decide ((⟨#[45]⟩:BA).size+r295.size≤9223372036854775807)) (.done ((⟨#[45]⟩:BA)++r295)) .fail))) .fail)) .fail) (.ask ((y274==(5:Int))) (.opt (qDN n y275) fun r296=>(.ask (decide (0≤(0:Int)∧(0:Int)<y287.length)) (.opt (y287[((0:Int)).toNat]?) fun e297=>(.ask (decide (e297.length=1)) (.opt (zE .i64 e297 0) fun y298=>(.ask (decide (0≤(1:Int)∧(1:Int)<y287.length)) (.opt (y287[((1:Int)).toNat]?) fun e299=>(.ask (decide (e299.length=1)) (.opt (zE .i64 e299 0) fun y300=>(.opt (rec x0 y298 r296) fun r301=>(.opt (qBH n y275) fun r302=>(.ask (decide (r301.size+r302.size≤9223372036854775807)) (.opt (rec x0 y300 (IntKind.i64.wrap (r296+(1:Int)))) fun r303=>(.ask (decide ((r301++r302).size+r303.size≤9223372036854775807)) (.ask ((decide (r296<x2))) (.ask (decide ((⟨#[40]⟩:BA).size+((r301++r302)++r303).size≤9223372036854775807)) (.ask (decide (((⟨#[40]⟩:BA)++((r301++r302)++r303)).size+(⟨#[41]⟩:BA).size≤9223372036854775807)) (.done (((⟨#[40]⟩:BA)++((r301++r302)++r303))++(⟨#[41]⟩:BA))) .fail) .fail) (.done ((r301++r302)++r303))) .fail)) .fail)))) .fail)) .fail)) .fail)) .fail)) (.opt (zC (qBN rec n) n (x0,(0:Nat),y287,(y287.length:Int),(0:Int),y274,y275,y276,y277,y278,y279,y280,y281,y282,y283,y284,y285,y286,y287,([]:RW))) fun r307=>(.opt (qBy n r307.2.2.1) fun r308=>(.ask (decide (r308.size+(⟨#[40]⟩:BA).size≤9223372036854775807)) (.ask (decide (r307.1=r307.2.2.2.2.2.2.2.2.2.2.2.2.2.2.2.length)) (.opt (qFn n r307.2.2.2.2.2.2.2.2.2.2.2.2.2.2.2 (⟨#[44]⟩:BA)) fun r309=>(.ask (zAa (⟨(.c (.p (.s r309))),[],[]⟩:Res)) (.ask (decide ((r308++(⟨#[40]⟩:BA)).size+r309.size≤9223372036854775807)) (.ask (decide (((r308++(⟨#[40]⟩:BA))++r309).size+(⟨#[41]⟩:BA).size≤9223372036854775807)) (.done (((r308++(⟨#[40]⟩:BA))++r309)++(⟨#[41]⟩:BA))) .fail) .fail) .fail)) .fail) .fail)))))))))))))))))))))) .fail)) .fail)
def qY:Nat→RW→Int→Int→Option (BA)
 |0,_,_,_=>none
 |n+1,x0,x1,x2=>(qAh (qY n) n x0 x1 x2).run
abbrev qFo (n:Nat) (ih:Ok (Rn n) qDo (qY n)):List (Ent (Rn n)):= [en (qH8 n),en (qGE n),en (qGG n),en ih,en (qJg n),en (qIa n),en (qIZ n),en (qMG n)]
def qHV (n:Nat) (ih:Ok (Rn n) qDo (qY n)):LEnt (KB 47) (Rn n) n:=lok (zU 47) 125 ⟨⟨[(0,aL),(7,(.c (.ptr 0 448 0 0 0))),(10,(.c (.own 0 5760 0 0))),(92,aL),(93,aI),(94,aI)],[(448,⟨0,14,64,(.box [qI,qI,qI,qI,qS,qI,qI,qB,qB,qI,qI,qB,qB,qL])⟩),(5760,⟨0,1,9,(.row [])⟩)],[]⟩,[(.exit 1,⟨[(7,(.c (.ptr 0 448 0 0 0))),(10,(.c (.own 0 5760 0 0)))],[(448,⟨0,14,64,(.box [qI,qI,qI,qI,qS,qI,qI,qB,qB,qI,qI,qB,qB,qL])⟩),(5760,⟨0,1,9,(.row [])⟩)],[]⟩)]⟩ (qBN (qY n) n) (qFo n ih) [] fun _=>(by kernel_rfl)
theorem qDZ:∀n,Ok (Rn n) qDo (qY n)
 |0=>ok0 fun _=>rfl
 |n+1=>stO (T:=qAh (qY n) n) (by kernel_rfl) (qFo n (qDZ n)) [qHV n (qDZ n)] (fun _=>(by kernel_rfl)) fun _=>(by kernel_rfl)
def qKD:Sg:=⟨17,[aL],[],⟨aS,[],[]⟩⟩
def qCt (n:Nat) (x0:RW):Tr (BA):=(.opt (qBd n x0) fun r272=>(.ask ((!r272)) (.done (⟨#[]⟩:BA)) (.opt (qY n x0 (IntKind.i64.wrap ((x0.length:Int)-(1:Int))) (1:Int)) fun r310=>(.ask ((decide ((r310.size:Int)>(200:Int)))) (.done (⟨#[]⟩:BA)) (.done r310)))))
def qBe:Nat→RW→Option (BA)
 |0,_=>none
 |n+1,x0=>(qCt n x0).run
abbrev qKE (n:Nat):List (Ent (Rn n)):= [en (qGI n),en (qDZ n)]
theorem qJT:∀n,Ok (Rn n) qKD (qBe n)
 |0=>ok0 fun _=>rfl
 |n+1=>stO (T:=qCt n) (by kernel_rfl) (qKE n) [] (fun _=>(by kernel_rfl)) fun _=>(by kernel_rfl)
def qMH:Sg:=⟨60,[aL],[],⟨(.tup [(false,[qS]),(false,[qB])]),[],[]⟩⟩
def qHs (n:Nat) (x0:RW):Tr (BA×Bool):=(.opt (qBe n x0) fun r311=>(.ask (decide ((⟨#[61]⟩:BA).size+r311.size≤9223372036854775807)) (.ask ((!(r311.toList==(⟨#[]⟩:BA).toList))) (.done (((⟨#[61]⟩:BA)++r311),(decide ((r311.size:Int)<(200:Int))))) (.done (((⟨#[61]⟩:BA)++r311),false))) .fail))
def qEx:Nat→RW→Option (BA×Bool)
 |0,_=>none
 |n+1,x0=>(qHs n x0).run
abbrev qMI (n:Nat):List (Ent (Rn n)):= [en (qJT n)]
theorem qLS:∀n,Ok (Rn n) qMH (qEx n)
 |0=>ok0 fun _=>rfl
 |n+1=>stO (T:=qHs n) (by kernel_rfl) (qMI n) [] (fun _=>(by kernel_rfl)) fun _=>(by kernel_rfl)
def qDv:Sg:=⟨153,[aS,aS],[],⟨aS,[],[]⟩⟩
def qCB (n:Nat) (x0 x1:BA):Tr (BA):=(.opt (qz n x0 x1) fun r316=>(.ask (r316) (.ask (decide (0≤(x1.size:Int)∧(x1.size:Int)≤(x0.size:Int)∧(x0.size:Int)≤x0.size)) (.done (x0.extract ((x1.size:Int)).toNat ((x0.size:Int)).toNat)) .fail) (.done x0)))
def qBF:Nat→BA→BA→Option (BA)
 |0,_,_=>none
 |n+1,x0,x1=>(qCB n x0 x1).run
abbrev qDw (n:Nat):List (Ent (Rn n)):= [en (qCA n)]
theorem qDp:∀n,Ok (Rn n) qDv (qBF n)
 |0=>ok0 fun _=>rfl
 |n+1=>stO (T:=qCB n) (by kernel_rfl) (qDw n) [] (fun _=>(by kernel_rfl)) fun _=>(by kernel_rfl)
def qIe:Sg:=⟨120,[aS,aS],[],⟨aS,[],[]⟩⟩
def qEl (n:Nat) (x0 x1:BA):Tr (BA):=(.opt (qBF n x0 x1) fun r317=>(.done r317))
def qDH:Nat→BA→BA→Option (BA)
 |0,_,_=>none
 |n+1,x0,x1=>(qEl n x0 x1).run
abbrev qIf (n:Nat):List (Ent (Rn n)):= [en (qDp n)]
theorem qH9:∀n,Ok (Rn n) qIe (qDH n)
 |0=>ok0 fun _=>rfl
 |n+1=>stO (T:=qEl n) (by kernel_rfl) (qIf n) [] (fun _=>(by kernel_rfl)) fun _=>(by kernel_rfl)
def qIg:Sg:=⟨121,[aS,aS],[],⟨aS,[],[]⟩⟩
def qFp:Nat→BA→BA→Option ((BA))
 |0,_,_=>none
 |n+1,x0,x1=>zAI x0 x1
theorem qMJ:∀n,Ok (Rn n) qIg (qFp n)
 |0=>ok0 fun _=>rfl
 |n+1=>stL (by kernel_rfl) (fun a r e=>congrArg (Option.map fun r=>(qIg.Of r).v) e) rfl rfl rfl
def qMK:Sg:=⟨62,[aS],[],⟨aB,[],[]⟩⟩
def qHt (n:Nat) (x0:BA):Tr (Bool):=(.opt (qDH n x0 (⟨#[45]⟩:BA)) fun r318=>(.ask ((!(r318.toList==(⟨#[]⟩:BA).toList))) (.opt (qFp n r318 (⟨#[48,49,50,51,52,53,54,55,56,57]⟩:BA)) fun r319=>(.done (r319.toList==(⟨#[]⟩:BA).toList))) (.done false)))
def qDh:Nat→BA→Option (Bool)
 |0,_=>none
 |n+1,x0=>(qHt n x0).run
abbrev qML (n:Nat):List (Ent (Rn n)):= [en (qH9 n),en (qMJ n)]
theorem qLT:∀n,Ok (Rn n) qMK (qDh n)
 |0=>ok0 fun _=>rfl
 |n+1=>stO (T:=qHt n) (by kernel_rfl) (qML n) [] (fun _=>(by kernel_rfl)) fun _=>(by kernel_rfl)
def qNA:Sg:=⟨23,[aS],[],⟨(.tup [(false,[qS]),(false,[qB])]),[],[]⟩⟩
def qIh (n:Nat) (x0:BA):Tr (BA×Bool):=(.opt (qC0 n x0 (200:Int)) fun r67=>(.ask ((!r67)) (.done ((⟨#[]⟩:BA),(x0.toList==(⟨#[]⟩:BA).toList))) (.ask ((x0.toList==(⟨#[]⟩:BA).toList)) (.done ((⟨#[]⟩:BA),(x0.toList==(⟨#[]⟩:BA).toList))) (.opt (qAB n x0 (⟨#[61]⟩:BA)) fun r68=>(.ask (r68.2) (.opt (qDn n r68.1) fun r271=>(.opt (qEx n r271.1) fun r312=>(.ask ((!r271.2)) (.done ((⟨#[]⟩:BA),false)) (.ask ((!r312.2)) (.done ((⟨#[]⟩:BA),false)) (.done (r312.1,true)))))) (.opt (qAr n x0 (10:Int) (64:Int)) fun r313=>(.alt r313 (fun r314=>(.ask (true) (.opt (qDh n x0) fun r320=>(.ask (r320) (.opt (qCW n r314) fun r321=>(.opt (qAL n r321.1 r321.2.1 r321.2.2) fun r322=>(.ask (r322) (.opt (qA4 n r314) fun r323=>(.done (r323,true))) (.opt (qd n x0) fun r324=>(.ask (r324.2.2.2) (.done (x0,true)) (.ask (((x0.size:Int)==(200:Int))) (.done ((⟨#[]⟩:BA),false)) (.ask (decide ((⟨#[39]⟩:BA).size+x0.size≤9223372036854775807)) (.done (((⟨#[39]⟩:BA)++x0),true)) .fail))))))) (.opt (qd n x0) fun r325=>(.ask (r325.2.2.2) (.done (x0,true)) (.ask (((x0.size:Int)==(200:Int))) (.done ((⟨#[]⟩:BA),false)) (.ask (decide ((⟨#[39]⟩:BA).size+x0.size≤9223372036854775807)) (.done (((⟨#[39]⟩:BA)++x0),true)) .fail)))))) (.opt (qd n x0) fun r326=>(.ask (r326.2.2.2) (.done (x0,true)) (.ask (((x0.size:Int)==(200:Int))) (.done ((⟨#[]⟩:BA),false)) (.ask (decide ((⟨#[39]⟩:BA).size+x0.size≤9223372036854775807)) (.done (((⟨#[39]⟩:BA)++x0),true)) .fail)))))) (fun r315=>(.ask (false) (.opt (qDh n x0) fun r327=>(.ask (r327) (.opt (qCW n r315) fun r328=>(.opt (qAL n r328.1 r328.2.1 r328.2.2) fun r329=>(.ask (r329) (.opt (qA4 n r315) fun r330=>(.done (r330,true))) (.opt (qd n x0) fun r331=>(.ask (r331.2.2.2) (.done (x0,true)) (.ask (((x0.size:Int)==(200:Int))) (.done ((⟨#[]⟩:BA),false)) (.ask (decide ((⟨#[39]⟩:BA).size+x0.size≤9223372036854775807)) (.done (((⟨#[39]⟩:BA)++x0),true)) .fail))))))) (.opt (qd n x0) fun r332=>(.ask (r332.2.2.2) (.done (x0,true)) (.ask (((x0.size:Int)==(200:Int))) (.done ((⟨#[]⟩:BA),false)) (.ask (decide ((⟨#[39]⟩:BA).size+x0.size≤9223372036854775807)) (.done (((⟨#[39]⟩:BA)++x0),true)) .fail)))))) (.opt (qd n x0) fun r333=>(.ask (r333.2.2.2) (.done (x0,true)) (.ask (((x0.size:Int)==(200:Int))) (.done ((⟨#[]⟩:BA),false)) (.ask (decide ((⟨#[39]⟩:BA).size+x0.size≤9223372036854775807)) (.done (((⟨#[39]⟩:BA)++x0),true)) .fail)))))))))))))
def qFq:Nat→BA→Option (BA×Bool)
 |0,_=>none
 |n+1,x0=>(qIh n x0).run
abbrev qNB (n:Nat):List (Ent (Rn n)):= [en (qFZ n),en (qCK n),en (qJS n),en (qLS n),en2 (qDX n),en (qLT n),en (qIX n),en (qEv n),en (qEw n),en (qGF n)]
theorem qMM:∀n,Ok (Rn n) qNA (qFq n)
 |0=>ok0 fun _=>rfl
 |n+1=>stO (T:=qIh n) (by kernel_rfl) (qNB n) [] (fun _=>(by kernel_rfl)) fun _=>(by kernel_rfl)
def qMN:Sg:=⟨79,[aS],[],⟨aB,[],[]⟩⟩
def qHu (n:Nat) (x0:BA):Tr (Bool):=(.opt (qFq n x0) fun r334=>(.ask (r334.2) (.ask ((!(x0.toList==(⟨#[]⟩:BA).toList))) (.done (r334.1.toList==x0.toList)) (.done false)) (.done false)))
def qCx:Nat→BA→Option (Bool)
 |0,_=>none
 |n+1,x0=>(qHu n x0).run
abbrev qMO (n:Nat):List (Ent (Rn n)):= [en (qMM n)]
theorem qLU:∀n,Ok (Rn n) qMN (qCx n)
 |0=>ok0 fun _=>rfl
 |n+1=>stO (T:=qHu n) (by kernel_rfl) (qMO n) [] (fun _=>(by kernel_rfl)) fun _=>(by kernel_rfl)
def qNC:Sg:=⟨30,[aL],[],⟨aB,[],[]⟩⟩
def qEE (n:Nat) (v:RW×RW×Int×Int):Tr ((RW×RW×Int×Int)⊕((Bool)⊕(RW))):=(.ask ((decide (v.2.2.2<v.2.2.1))) (.ask (decide (0≤v.2.2.2∧v.2.2.2<v.2.1.length)) (.opt (v.2.1[(v.2.2.2).toNat]?) fun e41=>(.ask (decide (e41.length=3)) (.opt (zE .i64 e41 0) fun y42=>(.opt (zE .i64 e41 1) fun y43=>(.opt (zc e41 2) fun y44=>(.opt (qBh n y42 y43) fun r45=>(.ask ((!r45)) (.done (.inr (.inl (false)))) (.ask ((decide (v.2.2.2>(0:Int)))) (.ask (decide (0≤(IntKind.i64.wrap (v.2.2.2-(1:Int)))∧(IntKind.i64.wrap (v.2.2.2-(1:Int)))<v.1.length)) (.opt (v.1[((IntKind.i64.wrap (v.2.2.2-(1:Int)))).toNat]?) fun e46=>(.ask (decide (e46.length=3)) (.opt (zE .i64 e46 0) fun y47=>(.opt (zE .i64 e46 1) fun y48=>(.opt (qBZ n y47 y48 y42 y43) fun r49=>(.ask ((decide (r49≥(0:Int)))) (.done (.inr (.inl (false)))) (.opt (qCx n y44) fun r50=>(.ask ((!r50)) (.done (.inr (.inl (false)))) (.done (.inl (v.1,v.2.1,v.2.2.1,(IntKind.i64.wrap (v.2.2.2+(1:Int)))))))))))) .fail)) .fail) (.opt (qCx n y44) fun r51=>(.ask ((!r51)) (.done (.inr (.inl (false)))) (.done (.inl (v.1,v.2.1,v.2.2.1,(IntKind.i64.wrap (v.2.2.2+(1:Int)))))))))))))) .fail)) .fail) (.done (.inr (.inr (v.1)))))
def qIi (n:Nat) (x0:RW):Tr (Bool):=(.opt (zC (qEE n) n (x0,x0,(x0.length:Int),(0:Int))) fun r52=>(.alt r52 (fun r53=>(.done r53)) (fun r54=>(.done (decide ((r54.length:Int)≤(120:Int)))))))
def qFr:Nat→RW→Option (Bool)
 |0,_=>none
 |n+1,x0=>(qIi n x0).run
abbrev qIj (n:Nat):List (Ent (Rn n)):= [en (qEc n),en (qJK n),en (qLU n)]
def qKe (n:Nat):LEnt (KB 30) (Rn n) n:=lok (zU 30) 13 ⟨⟨[(0,aL),(5,aL),(6,aI),(7,aI)],[],[]⟩,[(.ret,⟨[(2,aB)],[],[]⟩),(.exit 0,⟨[(0,aL)],[],[]⟩)]⟩ (qEE n) (qIj n) [] fun _=>(by kernel_rfl)
theorem qMP:∀n,Ok (Rn n) qNC (qFr n)
 |0=>ok0 fun _=>rfl
 |n+1=>stO (T:=qIi n) (by kernel_rfl) (qIj n) [qKe n] (fun _=>(by kernel_rfl)) fun _=>(by kernel_rfl)
def qOf:Sg:=⟨127,[(.agg [qI,qI]),(.agg [qI,qI])],[],⟨aB,[],[]⟩⟩
def qHW (n:Nat) (x0 x1 x2 x3:Int):Tr (Bool):=(.ask ((x0 !=x2)) (.done false) (.ask ((x1 !=x3)) (.done false) (.done true)))
def qHX:Nat→Int→Int→Int→Int→Option (Bool)
 |0,_,_,_,_=>none
 |n+1,x0,x1,x2,x3=>(qHW n x0 x1 x2 x3).run
theorem qNz:∀n,Ok (Rn n) qOf (qHX n)
 |0=>ok0 fun _=>rfl
 |n+1=>stO (T:=qHW n) (by kernel_rfl) [] [] (fun _=>(by kernel_rfl)) fun _=>(by kernel_rfl)
def qN0:Sg:=⟨80,[(.agg [qI,qI,qS]),(.agg [qI,qI,qS])],[],⟨aB,[],[]⟩⟩
def qGm (n:Nat) (x0 x1:Int) (x2:BA) (x3 x4:Int) (x5:BA):Tr (Bool):=(.opt (qHX n x0 x1 x3 x4) fun r65=>(.ask ((!r65)) (.done false) (.ask ((!(x2.toList==x5.toList))) (.done false) (.done true))))
def qEd:Nat→Int→Int→BA→Int→Int→BA→Option (Bool)
 |0,_,_,_,_,_,_=>none
 |n+1,x0,x1,x2,x3,x4,x5=>(qGm n x0 x1 x2 x3 x4 x5).run
abbrev qN1 (n:Nat):List (Ent (Rn n)):= [en (qNz n)]
theorem qND:∀n,Ok (Rn n) qN0 (qEd n)
 |0=>ok0 fun _=>rfl
 |n+1=>stO (T:=qGm n) (by kernel_rfl) (qN1 n) [] (fun _=>(by kernel_rfl)) fun _=>(by kernel_rfl)
def qNE:Sg:=⟨31,[aL,aL],[],⟨aB,[],[]⟩⟩
def qCP (n:Nat) (v:RW×RW×Int):Tr ((RW×RW×Int)⊕((Bool)⊕(Unit))):=(.ask ((decide (v.2.2<(v.1.length:Int)))) (.ask (decide (0≤v.2.2∧v.2.2<v.1.length)) (.opt (v.1[(v.2.2).toNat]?) fun e57=>(.ask (decide (e57.length=3)) (.opt (zE .i64 e57 0) fun y58=>(.opt (zE .i64 e57 1) fun y59=>(.opt (zc e57 2) fun y60=>(.ask (decide (0≤v.2.2∧v.2.2<v.2.1.length)) (.opt (v.2.1[(v.2.2).toNat]?) fun e61=>(.ask (decide (e61.length=3)) (.opt (zE .i64 e61 0) fun y62=>(.opt (zE .i64 e61 1) fun y63=>(.opt (zc e61 2) fun y64=>(.opt (qEd n y58 y59 y60 y62 y63 y64) fun r65=>(.ask ((!r65)) (.done (.inr (.inl (false)))) (.done (.inl (v.1,v.2.1,(IntKind.i64.wrap (v.2.2+(1:Int))))))))))) .fail)) .fail)))) .fail)) .fail) (.done (.inr (.inr (())))))
def qFs (n:Nat) (x0 x1:RW):Tr (Bool):=(.ask (((x0.length:Int) !=(x1.length:Int))) (.done false) (.opt (zC (qCP n) n (x0,x1,(0:Int))) fun r66=>(.alt r66 (fun r67=>(.done r67)) (fun r68=>(.done true)))))
def qEF:Nat→RW→RW→Option (Bool)
 |0,_,_=>none
 |n+1,x0,x1=>(qFs n x0 x1).run
abbrev qIk (n:Nat):List (Ent (Rn n)):= [en (qND n)]
def qKf (n:Nat):LEnt (KB 31) (Rn n) n:=lok (zU 31) 29 ⟨⟨[(0,aL),(1,aL),(5,aI)],[],[]⟩,[(.ret,⟨[(4,aB)],[],[]⟩),(.exit 0,⟨[],[],[]⟩)]⟩ (qCP n) (qIk n) [] fun _=>(by kernel_rfl)
theorem qMQ:∀n,Ok (Rn n) qNE (qEF n)
 |0=>ok0 fun _=>rfl
 |n+1=>stO (T:=qFs n) (by kernel_rfl) (qIk n) [qKf n] (fun _=>(by kernel_rfl)) fun _=>(by kernel_rfl)
def qIA:Sg:=⟨8,[aL],[],⟨aB,[],[]⟩⟩
def qC4 (n:Nat) (x0:RW):Tr (Bool):=(.opt (qDx n x0 (1048576:Int)) fun r9=>(.ask ((decide (r9<(0:Int)))) (.done true) (.opt (qCd n x0) fun r17=>(.ask (decide (r17.1=r17.2.length)) (.opt (qFY n r17.2) fun r39=>(.ask (zAa (⟨(.c (.p (.b r39))),[],[]⟩:Res)) (.opt (qCd n x0) fun r40=>(.ask (decide (r40.1=r40.2.length)) (.opt (qFr n r40.2) fun r55=>(.ask (zAa (⟨(.c (.p (.b r55))),[],[]⟩:Res)) (.ask ((!(r55==r39))) (.done false) (.opt (qCd n x0) fun r56=>(.ask (decide (r40.1=r40.2.length)) (.ask (decide (r56.1=r56.2.length)) (.opt (qEF n r40.2 r56.2) fun r69=>(.ask (zAa (⟨(.c (.p (.b r69))),[],[]⟩:Res)) (.ask ((!r69)) (.done false) (.done true)) .fail)) .fail) .fail))) .fail)) .fail)) .fail)) .fail))))
def qC5:Nat→RW→Option (Bool)
 |0,_=>none
 |n+1,x0=>(qC4 n x0).run
abbrev qIB (n:Nat):List (Ent (Rn n)):= [en (qLv n),en (qLw n),en (qMD n),en (qMP n),en (qMQ n)]
theorem qHY:∀n,Ok (Rn n) qIA (qC5 n)
 |0=>ok0 fun _=>rfl
 |n+1=>stO (T:=qC4 n) (by kernel_rfl) (qIB n) [] (fun _=>(by kernel_rfl)) fun _=>(by kernel_rfl)
end
end Go.Proofs.YthhngmnbcmkhpaaGreatDoor.KFnExactSheetOk

