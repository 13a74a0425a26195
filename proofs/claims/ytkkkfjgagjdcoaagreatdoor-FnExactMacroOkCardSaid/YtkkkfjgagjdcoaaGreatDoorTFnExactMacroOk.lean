import Derived.Test.YtkkkfjgagjdcoaaGreatDoorKFnExactMacroOk
namespace Go.Proofs.YtkkkfjgagjdcoaaGreatDoor.KFnExactMacroOk
open Go.Eng
set_option linter.unusedVariables false
set_option maxRecDepth 100000
noncomputable section
abbrev RW:=List (List PV)
abbrev BA:=ByteArray
def qNX:Sg:=⟨50,[(.agg [qI,qI,qI,qS,qI]),aI],[],⟨aI,[],[]⟩⟩
def qGM (n:Nat) (x0 x1 x2:Int) (x3:BA) (x4 x5:Int):Tr (Int):=(.ask ((decide ((IntKind.i64.wrap (x5-(x3.size:Int)))<(0:Int)))) (.done (-1:Int)) (.done (IntKind.i64.wrap (x5-(x3.size:Int)))))
def qET:Nat→Int→Int→Int→BA→Int→Int→Option (Int)
 |0,_,_,_,_,_,_=>none
 |n+1,x0,x1,x2,x3,x4,x5=>(qGM n x0 x1 x2 x3 x4 x5).run
theorem qMX:∀n,Ok (Rn n) qNX (qET n)
 |0=>ok0 fun _=>rfl
 |n+1=>stO (T:=qGM n) (by kernel_rfl) [] [] (fun _=>(by kernel_rfl)) fun _=>(by kernel_rfl)
def qMY:Sg:=⟨17,[aL,aI],[],⟨aI,[],[]⟩⟩
def qBi (n:Nat) (v:RW×Int×Int):Tr ((RW×Int×Int)⊕((Int)⊕(Int))):=(.ask ((decide (v.2.2<(v.1.length:Int)))) (.ask (decide (0≤v.2.2∧v.2.2<v.1.length)) (.opt (v.1[(v.2.2).toNat]?) fun e1=>(.ask (decide (e1.length=5)) (.opt (zE .i64 e1 0) fun y2=>(.opt (zE .i64 e1 1) fun y3=>(.opt (zE .i64 e1 2) fun y4=>(.opt (zj e1 3) fun y5=>(.opt (zE .i64 e1 4) fun y6=>(.opt (qET n y2 y3 y4 y5 y6 v.2.1) fun r7=>(.ask ((decide (r7<(0:Int)))) (.done (.inr (.inl ((-1:Int))))) (.done (.inl (v.1,r7,(IntKind.i64.wrap (v.2.2+(1:Int))))))))))))) .fail)) .fail) (.done (.inr (.inr (v.2.1)))))
def qFF (n:Nat) (x0:RW) (x1:Int):Tr (Int):=(.ask ((decide ((IntKind.i64.wrap (x1-(x0.length:Int)))<(0:Int)))) (.done (-1:Int)) (.opt (zC (qBi n) n (x0,(IntKind.i64.wrap (x1-(x0.length:Int))),(0:Int))) fun r8=>(.alt r8 (fun r9=>(.done r9)) (fun r10=>(.done r10)))))
def qDt:Nat→RW→Int→Option (Int)
 |0,_,_=>none
 |n+1,x0,x1=>(qFF n x0 x1).run
abbrev qIC (n:Nat):List (Ent (Rn n)):= [en (qMX n)]
def qKH (n:Nat):LEnt (KB 17) (Rn n) n:=lok (zT 17) 61 ⟨⟨[(0,aL),(1,aI),(5,aI)],[],[]⟩,[(.ret,⟨[(4,aI)],[],[]⟩),(.exit 0,⟨[(1,aI)],[],[]⟩)]⟩ (qBi n) (qIC n) [] fun _=>(by kernel_rfl)
theorem qLs:∀n,Ok (Rn n) qMY (qDt n)
 |0=>ok0 fun _=>rfl
 |n+1=>stO (T:=qFF n) (by kernel_rfl) (qIC n) [qKH n] (fun _=>(by kernel_rfl)) fun _=>(by kernel_rfl)
def qOO:Sg:=⟨14,[(.agg [qI,qI])],[],⟨(.agg [qI,qI]),[],[]⟩⟩
def qHA (n:Nat) (x0 x1:Int):Tr (Int×Int):=(.done (x0,x1))
def qHB:Nat→Int→Int→Option (Int×Int)
 |0,_,_=>none
 |n+1,x0,x1=>(qHA n x0 x1).run
theorem qNY:∀n,Ok (Rn n) qOO (qHB n)
 |0=>ok0 fun _=>rfl
 |n+1=>stO (T:=qHA n) (by kernel_rfl) [] [] (fun _=>(by kernel_rfl)) fun _=>(by kernel_rfl)
def qNZ:Sg:=⟨55,[(.agg [qI,qI,qI,qS,qI])],[],⟨(.agg [qI,qI,qI,qS,qI]),[],[]⟩⟩
def qGN (n:Nat) (x0 x1 x2:Int) (x3:BA) (x4:Int):Tr (Int×Int×Int×BA×Int):=(.opt (qHB n x1 x2) fun r18=>(.done (x0,r18.1,r18.2,x3,x4)))
def qEU:Nat→Int→Int→Int→BA→Int→Option (Int×Int×Int×BA×Int)
 |0,_,_,_,_,_=>none
 |n+1,x0,x1,x2,x3,x4=>(qGN n x0 x1 x2 x3 x4).run
abbrev qNa (n:Nat):List (Ent (Rn n)):= [en (qNY n)]
theorem qMZ:∀n,Ok (Rn n) qNZ (qEU n)
 |0=>ok0 fun _=>rfl
 |n+1=>stO (T:=qGN n) (by kernel_rfl) (qNa n) [] (fun _=>(by kernel_rfl)) fun _=>(by kernel_rfl)
def qMa:Sg:=⟨19,[aL],[],⟨(.c (.own 0 0 0 0)),[],[⟨0,5,79,(.row [])⟩]⟩⟩
def qCF (n:Nat) (v:RW×Nat×Int×RW):Tr ((RW×Nat×Int×RW)⊕((Nat×RW))):=(.ask ((decide (v.2.2.1<(v.1.length:Int)))) (.ask (decide (0≤v.2.2.1∧v.2.2.1<v.1.length)) (.opt (v.1[(v.2.2.1).toNat]?) fun e12=>(.ask (decide (e12.length=5)) (.opt (zE .i64 e12 0) fun y13=>(.opt (zE .i64 e12 1) fun y14=>(.opt (zE .i64 e12 2) fun y15=>(.opt (zj e12 3) fun y16=>(.opt (zE .i64 e12 4) fun y17=>(.opt (qEU n y13 y14 y15 y16 y17) fun r18=>(.ask (decide (v.2.1=v.2.2.2.length∧0≤v.2.2.1∧v.2.2.1<((v.2.1:Nat):Int))) (.opt (v.2.2.2[(v.2.2.1).toNat]?) fun e19=>(.ask (decide (0+5≤e19.length)) (.done (.inl (v.1,v.2.1,(IntKind.i64.wrap (v.2.2.1+(1:Int))),(v.2.2.2.set (v.2.2.1).toNat (zx e19 0 [(.i .i64 r18.1),(.i .i64 r18.2.1),(.i .i64 r18.2.2.1),(.s r18.2.2.2.1),(.i .i64 r18.2.2.2.2)]))))) .fail)) .fail))))))) .fail)) .fail) (.done (.inr ((v.2.1,v.2.2.2)))))
def qFG (n:Nat) (x0:RW):Tr (Nat×RW):=(.ask (decide (0≤(x0.length:Int)∧(x0.length:Int)=(x0.length:Int)∧48*(x0.length:Int)≤140737488355328∧(x0.length:Int)≤9223372036854775807)) (.opt (zC (qCF n) n (x0,((x0.length:Int)).toNat,(0:Int),(zAX [(.i .i64 (0:Int)),(.i .i64 (0:Int)),(.i .i64 (0:Int)),(.s (⟨#[]⟩:BA)),(.i .i64 (0:Int))] ((x0.length:Int)).toNat))) fun r20=>(.done (r20.1,r20.2))) .fail)
def qCc:Nat→RW→Option (Nat×RW)
 |0,_=>none
 |n+1,x0=>(qFG n x0).run
abbrev qID (n:Nat):List (Ent (Rn n)):= [en (qMZ n)]
def qKI (n:Nat):LEnt (KB 19) (Rn n) n:=lok (zT 19) 29 ⟨⟨[(0,aL),(3,(.c (.own 0 448 0 0))),(4,aI)],[(448,⟨0,5,79,(.row [])⟩)],[]⟩,[(.exit 0,⟨[(3,(.c (.own 0 448 0 0)))],[(448,⟨0,5,79,(.row [])⟩)],[]⟩)]⟩ (qCF n) (qID n) [] fun _=>(by kernel_rfl)
theorem qLt:∀n,Ok (Rn n) qMa (qCc n)
 |0=>ok0 fun _=>rfl
 |n+1=>stO (T:=qFG n) (by kernel_rfl) (qID n) [qKI n] (fun _=>(by kernel_rfl)) fun _=>(by kernel_rfl)
def qOs:Sg:=⟨54,[aI,aI,aI],[],⟨aB,[],[]⟩⟩
def qF2 (n:Nat) (x0 x1 x2:Int):Tr (Bool):=(.ask ((decide (x0≥x1))) (.done (decide (x0≤x2))) (.done false))
def qAY:Nat→Int→Int→Int→Option (Bool)
 |0,_,_,_=>none
 |n+1,x0,x1,x2=>(qF2 n x0 x1 x2).run
theorem qDF:∀n,Ok (Rn n) qOs (qAY n)
 |0=>ok0 fun _=>rfl
 |n+1=>stO (T:=qF2 n) (by kernel_rfl) [] [] (fun _=>(by kernel_rfl)) fun _=>(by kernel_rfl)
def qOP:Sg:=⟨51,[(.agg [qI,qI])],[],⟨aB,[],[]⟩⟩
def qHC (n:Nat) (x0 x1:Int):Tr (Bool):=(.opt (qAY n x0 (1:Int) (52:Int)) fun r28=>(.ask (r28) (.opt (qAY n x1 (1:Int) (99:Int)) fun r29=>(.done r29)) (.done false)))
def qx:Nat→Int→Int→Option (Bool)
 |0,_,_=>none
 |n+1,x0,x1=>(qHC n x0 x1).run
abbrev qOQ (n:Nat):List (Ent (Rn n)):= [en (qDF n)]
theorem qDW:∀n,Ok (Rn n) qOP (qx n)
 |0=>ok0 fun _=>rfl
 |n+1=>stO (T:=qHC n) (by kernel_rfl) (qOQ n) [] (fun _=>(by kernel_rfl)) fun _=>(by kernel_rfl)
def qMb:Sg:=⟨92,[aS],[],⟨aB,[],[]⟩⟩
def qBE (n:Nat) (v:BA×Int):Tr ((BA×Int)⊕((Bool)⊕(BA))):=(.ask ((decide (v.2<(v.1.size:Int)))) (.ask (decide (0≤v.2)) (.opt (v.1.toList[(v.2).toNat]?) fun c31=>(.ask ((decide ((c31.toNat:Int)<(32:Int)))) (.done (.inr (.inl (false)))) (.ask (decide (0≤v.2)) (.opt (v.1.toList[(v.2).toNat]?) fun c32=>(.ask ((decide ((c32.toNat:Int)>(126:Int)))) (.done (.inr (.inl (false)))) (.done (.inl (v.1,(IntKind.i64.wrap (v.2+(1:Int)))))))) .fail))) .fail) (.done (.inr (.inr (v.1)))))
def qFH (n:Nat) (x0:BA):Tr (Bool):=(.opt (zC (qBE n) n (x0,(0:Int))) fun r33=>(.alt r33 (fun r34=>(.done r34)) (fun r35=>(.done (decide ((r35.size:Int)≤(200:Int)))))))
def qB2:Nat→BA→Option (Bool)
 |0,_=>none
 |n+1,x0=>(qFH n x0).run
def qKJ (n:Nat):LEnt (KB 92) (Rn n) n:=lok (zT 92) 13 ⟨⟨[(0,aS),(3,aI)],[],[]⟩,[(.ret,⟨[(2,aB)],[],[]⟩),(.exit 0,⟨[(0,aS)],[],[]⟩)]⟩ (qBE n) [] [] fun _=>(by kernel_rfl)
theorem qEq:∀n,Ok (Rn n) qMb (qB2 n)
 |0=>ok0 fun _=>rfl
 |n+1=>stO (T:=qFH n) (by kernel_rfl) [] [qKJ n] (fun _=>(by kernel_rfl)) fun _=>(by kernel_rfl)
def qJk:Sg:=⟨135,[(.c (.ptr 0 0 0 0 0))],[[(0,⟨0,4,175,(.box [qS,qI,qB,(.own 0 1 1 0)])⟩),(1,⟨1,14,162,(.row [])⟩)]],⟨(.tup []),[[(0,⟨0,4,175,(.box [qS,qI,qB,(.own 0 1 1 0)])⟩),(1,⟨1,14,162,(.row [])⟩)]],[]⟩⟩
def qC6 (n:Nat) (v:BA×Int×Bool×Nat×RW):Tr ((BA×Int×Bool×Nat×RW)⊕((BA×Int×Bool×Nat×RW))):=(.ask ((decide (v.2.1<(v.1.size:Int)))) (.ask (decide (0≤v.2.1)) (.opt (v.1.toList[(v.2.1).toNat]?) fun c39=>(.ask (((c39.toNat:Int)==(32:Int))) (.done (.inl (v.1,(IntKind.i64.wrap (v.2.1+(1:Int))),v.2.2.1,v.2.2.2.1,v.2.2.2.2))) (.done (.inr ((v.1,v.2.1,v.2.2.1,v.2.2.2.1,v.2.2.2.2)))))) .fail) (.done (.inr ((v.1,v.2.1,v.2.2.1,v.2.2.2.1,v.2.2.2.2)))))
def qFI (n:Nat) (x0:BA) (x1:Int) (x2:Bool) (x3:Nat) (x4:RW):Tr (BA×Int×Bool×Nat×RW):=(.opt (zC (qC6 n) n (x0,x1,x2,x3,x4)) fun r40=>(.done (r40.1,r40.2.1,r40.2.2.1,r40.2.2.2.1,r40.2.2.2.2)))
def qBS:Nat→BA→Int→Bool→Nat→RW→Option (BA×Int×Bool×Nat×RW)
 |0,_,_,_,_,_=>none
 |n+1,x0,x1,x2,x3,x4=>(qFI n x0 x1 x2 x3 x4).run
def qIE (n:Nat):LEnt (KB 135) (Rn n) n:=lok (zT 135) 1 ⟨⟨[(0,(.c (.ptr 0 0 0 0 0)))],[],[[(0,⟨0,4,175,(.box [qS,qI,qB,(.own 0 1 1 0)])⟩),(1,⟨1,14,162,(.row [])⟩)]]⟩,[(.exit 0,⟨[],[],[[(0,⟨0,4,175,(.box [qS,qI,qB,(.own 0 1 1 0)])⟩),(1,⟨1,14,162,(.row [])⟩)]]⟩)]⟩ (qC6 n) [] [] fun _=>(by kernel_rfl)
theorem qDN:∀n,Ok (Rn n) qJk (qBS n)
 |0=>ok0 fun _=>rfl
 |n+1=>stO (T:=qFI n) (by kernel_rfl) [] [qIE n] (fun _=>(by kernel_rfl)) fun _=>(by kernel_rfl)
def qMc:Sg:=⟨208,[(.c (.ptr 0 0 0 0 0)),aS],[[(0,⟨0,4,175,(.box [qS,qI,qB,(.own 0 1 1 0)])⟩),(1,⟨1,14,162,(.row [])⟩)]],⟨aB,[[(0,⟨0,4,175,(.box [qS,qI,qB,(.own 0 1 1 0)])⟩),(1,⟨1,14,162,(.row [])⟩)]],[]⟩⟩
def qIF (n:Nat) (x0 x1:BA) (x2:Int) (x3:Bool) (x4:Nat) (x5:RW):Tr (Bool×BA×Int×Bool×Nat×RW):=(.opt (qBS n x1 x2 x3 x4 x5) fun r41=>(.ask (r41.2.2.1) (.done (false,r41.1,r41.2.1,r41.2.2.1,r41.2.2.2.1,r41.2.2.2.2)) (.ask ((decide ((IntKind.i64.wrap (r41.2.1+(x0.size:Int)))>(r41.1.size:Int)))) (.done (false,r41.1,r41.2.1,r41.2.2.1,r41.2.2.2.1,r41.2.2.2.2)) (.ask (decide (0≤r41.2.1∧r41.2.1≤(IntKind.i64.wrap (r41.2.1+(x0.size:Int)))∧(IntKind.i64.wrap (r41.2.1+(x0.size:Int)))≤r41.1.size)) (.ask ((!((r41.1.extract (r41.2.1).toNat ((IntKind.i64.wrap (r41.2.1+(x0.size:Int)))).toNat).toList==x0.toList))) (.done (false,r41.1,r41.2.1,r41.2.2.1,r41.2.2.2.1,r41.2.2.2.2)) (.done (true,r41.1,(IntKind.i64.wrap (r41.2.1+(x0.size:Int))),r41.2.2.1,r41.2.2.2.1,r41.2.2.2.2))) .fail))))
def qAA:Nat→BA→BA→Int→Bool→Nat→RW→Option (Bool×BA×Int×Bool×Nat×RW)
 |0,_,_,_,_,_,_=>none
 |n+1,x0,x1,x2,x3,x4,x5=>(qIF n x0 x1 x2 x3 x4 x5).run
abbrev qMd (n:Nat):List (Ent (Rn n)):= [en (qDN n)]
theorem qDa:∀n,Ok (Rn n) qMc (qAA n)
 |0=>ok0 fun _=>rfl
 |n+1=>stO (T:=qIF n) (by kernel_rfl) (qMd n) [] (fun _=>(by kernel_rfl)) fun _=>(by kernel_rfl)
def qMe:Sg:=⟨139,[(.agg [qI,qI,qS])],[],⟨aB,[],[]⟩⟩
def qFJ (n:Nat) (x0 x1:Int) (x2:BA):Tr (Bool):=(.ask ((x0==(0:Int))) (.ask ((x1==(0:Int))) (.done (x2.toList==(⟨#[]⟩:BA).toList)) (.done false)) (.ask ((x0==(1:Int))) (.opt (qAY n x1 (-1000000000000000:Int) (1000000000000000:Int)) fun r44=>(.ask (r44) (.done (x2.toList==(⟨#[]⟩:BA).toList)) (.done false))) (.ask ((x0==(2:Int))) (.ask ((x1==(0:Int))) (.opt (qB2 n x2) fun r45=>(.done r45)) (.done false)) (.ask ((x0==(3:Int))) (.opt (qAY n x1 (0:Int) (1:Int)) fun r46=>(.ask (r46) (.done (x2.toList==(⟨#[]⟩:BA).toList)) (.done false))) (.ask ((x0==(4:Int))) (.opt (qAY n x1 (1:Int) (5:Int)) fun r47=>(.ask (r47) (.done (x2.toList==(⟨#[]⟩:BA).toList)) (.done false))) (.done false))))))
def qX:Nat→Int→Int→BA→Option (Bool)
 |0,_,_,_=>none
 |n+1,x0,x1,x2=>(qFJ n x0 x1 x2).run
abbrev qMf (n:Nat):List (Ent (Rn n)):= [en (qDF n),en (qEq n)]
theorem qDb:∀n,Ok (Rn n) qMe (qX n)
 |0=>ok0 fun _=>rfl
 |n+1=>stO (T:=qFJ n) (by kernel_rfl) (qMf n) [] (fun _=>(by kernel_rfl)) fun _=>(by kernel_rfl)
def qNb:Sg:=⟨214,[(.agg [qI,qI,qI,qI])],[],⟨aB,[],[]⟩⟩
def qGO (n:Nat) (x0 x1 x2 x3:Int):Tr (Bool):=(.opt (qx n x0 x1) fun r50=>(.ask (r50) (.opt (qx n x2 x3) fun r51=>(.ask (r51) (.ask ((decide (x0≤x2))) (.done (decide (x1≤x3))) (.done false)) (.done false))) (.done false)))
def qEV:Nat→Int→Int→Int→Int→Option (Bool)
 |0,_,_,_,_=>none
 |n+1,x0,x1,x2,x3=>(qGO n x0 x1 x2 x3).run
abbrev qNc (n:Nat):List (Ent (Rn n)):= [en (qDW n)]
theorem qMg:∀n,Ok (Rn n) qNb (qEV n)
 |0=>ok0 fun _=>rfl
 |n+1=>stO (T:=qGO n) (by kernel_rfl) (qNc n) [] (fun _=>(by kernel_rfl)) fun _=>(by kernel_rfl)
def qNd:Sg:=⟨215,[aI,aI],[],⟨aB,[],[]⟩⟩
def qGP (n:Nat) (x0 x1:Int):Tr (Bool):=(.ask ((x0==(1:Int))) (.ask ((decide (x1≥(1:Int)))) (.done (decide (x1≤(10:Int)))) (.done false)) (.ask ((x0==(2:Int))) (.ask ((decide (x1≥(1:Int)))) (.done (decide (x1≤(10:Int)))) (.done false)) (.ask ((x0==(3:Int))) (.ask ((decide (x1≥(1:Int)))) (.done (decide (x1≤(10:Int)))) (.done false)) (.ask ((x0==(4:Int))) (.ask ((decide (x1≥(1:Int)))) (.done (decide (x1≤(10:Int)))) (.done false)) (.ask ((x0==(6:Int))) (.ask ((decide (x1≥(1:Int)))) (.done (decide (x1≤(10:Int)))) (.done false)) (.ask ((x0==(7:Int))) (.ask ((decide (x1≥(1:Int)))) (.done (decide (x1≤(10:Int)))) (.done false)) (.ask ((x0==(5:Int))) (.ask ((x1==(2:Int))) (.done true) (.done (x1==(3:Int)))) (.ask ((x0==(8:Int))) (.done (x1==(1:Int))) (.ask ((x0==(9:Int))) (.done (x1==(1:Int))) (.ask ((x0==(10:Int))) (.done (x1==(1:Int))) (.done false)))))))))))
def qEW:Nat→Int→Int→Option (Bool)
 |0,_,_=>none
 |n+1,x0,x1=>(qGP n x0 x1).run
theorem qMh:∀n,Ok (Rn n) qNd (qEW n)
 |0=>ok0 fun _=>rfl
 |n+1=>stO (T:=qGP n) (by kernel_rfl) [] [] (fun _=>(by kernel_rfl)) fun _=>(by kernel_rfl)
def qLu:Sg:=⟨176,[(.agg [qI,qI,qI,qI,qS,qI,qI,qB,qB,qI,qI,qB,qB,qL])],[],⟨aB,[],[]⟩⟩
def qEr (n:Nat) (x0 x1 x2 x3:Int) (x4:BA) (x5 x6:Int) (x7 x8:Bool) (x9 x10:Int) (x11 x12:Bool) (x13:RW):Tr (Bool):=(.ask ((x0==(1:Int))) (.ask ((x1==(0:Int))) (.ask (((x5==(0:Int))&&((x6==(0:Int))&&((x7==false)&&((x8==false)&&true))))) (.ask (((x9==(0:Int))&&((x10==(0:Int))&&((x11==false)&&((x12==false)&&true))))) (.ask (((x13.length:Int)==(0:Int))) (.opt (qX n x2 x3 x4) fun r48=>(.ask (r48) (.ask ((x2 !=(0:Int))) (.ask ((x2 !=(1:Int))) (.done true) (.done (decide (x3≥(0:Int))))) (.done false)) (.done false))) (.done false)) (.done false)) (.done false)) (.done false)) (.ask ((x0==(2:Int))) (.ask ((x1==(0:Int))) (.ask (((x2==(0:Int))&&((x3==(0:Int))&&((x4.toList==(⟨#[]⟩:BA).toList)&&true)))) (.ask (((x9==(0:Int))&&((x10==(0:Int))&&((x11==false)&&((x12==false)&&true))))) (.ask (((x13.length:Int)==(0:Int))) (.opt (qx n x5 x6) fun r49=>(.done r49)) (.done false)) (.done false)) (.done false)) (.done false)) (.ask ((x0==(3:Int))) (.ask ((x1==(0:Int))) (.ask (((x2==(0:Int))&&((x3==(0:Int))&&((x4.toList==(⟨#[]⟩:BA).toList)&&true)))) (.ask (((x13.length:Int)==(0:Int))) (.opt (qEV n x5 x6 x9 x10) fun r52=>(.done r52)) (.done false)) (.done false)) (.done false)) (.ask ((x0==(4:Int))) (.ask ((x1==(0:Int))) (.ask (((x2==(0:Int))&&((x3==(0:Int))&&((x4.toList==(⟨#[]⟩:BA).toList)&&true)))) (.ask (((x5==(0:Int))&&((x6==(0:Int))&&((x7==false)&&((x8==false)&&true))))) (.ask (((x9==(0:Int))&&((x10==(0:Int))&&((x11==false)&&((x12==false)&&true))))) (.done ((x13.length:Int)==(1:Int))) (.done false)) (.done false)) (.done false)) (.done false)) (.ask ((x0==(5:Int))) (.opt (qAY n x1 (1:Int) (11:Int)) fun r53=>(.ask (r53) (.ask (((x2==(0:Int))&&((x3==(0:Int))&&((x4.toList==(⟨#[]⟩:BA).toList)&&true)))) (.ask (((x5==(0:Int))&&((x6==(0:Int))&&((x7==false)&&((x8==false)&&true))))) (.ask (((x9==(0:Int))&&((x10==(0:Int))&&((x11==false)&&((x12==false)&&true))))) (.done ((x13.length:Int)==(2:Int))) (.done false)) (.done false)) (.done false)) (.done false))) (.ask ((x0==(6:Int))) (.opt (qEW n x1 (x13.length:Int)) fun r54=>(.ask (r54) (.ask (((x2==(0:Int))&&((x3==(0:Int))&&((x4.toList==(⟨#[]⟩:BA).toList)&&true)))) (.ask (((x5==(0:Int))&&((x6==(0:Int))&&((x7==false)&&((x8==false)&&true))))) (.done ((x9==(0:Int))&&((x10==(0:Int))&&((x11==false)&&((x12==false)&&true))))) (.done false)) (.done false)) (.done false))) (.done false)))))))
def qBm:Nat→Int→Int→Int→Int→BA→Int→Int→Bool→Bool→Int→Int→Bool→Bool→RW→Option (Bool)
 |0,_,_,_,_,_,_,_,_,_,_,_,_,_,_=>none
 |n+1,x0,x1,x2,x3,x4,x5,x6,x7,x8,x9,x10,x11,x12,x13=>(qEr n x0 x1 x2 x3 x4 x5 x6 x7 x8 x9 x10 x11 x12 x13).run
abbrev qLv (n:Nat):List (Ent (Rn n)):= [en (qDb n),en (qDW n),en (qMg n),en (qDF n),en (qMh n)]
theorem qGn:∀n,Ok (Rn n) qLu (qBm n)
 |0=>ok0 fun _=>rfl
 |n+1=>stO (T:=qEr n) (by kernel_rfl) (qLv n) [] (fun _=>(by kernel_rfl)) fun _=>(by kernel_rfl)
def qLw:Sg:=⟨175,[(.c (.ptr 0 0 0 0 0)),(.agg [qI,qI,qI,qI,qS,qI,qI,qB,qB,qI,qI,qB,qB,qL])],[[(0,⟨0,4,175,(.box [qS,qI,qB,(.own 0 1 1 0)])⟩),(1,⟨1,14,162,(.row [])⟩)]],⟨aI,[[(0,⟨0,4,175,(.box [qS,qI,qB,(.own 0 1 1 0)])⟩),(1,⟨1,14,162,(.row [])⟩)]],[]⟩⟩
def qHb (n:Nat) (x0 x1 x2 x3:Int) (x4:BA) (x5 x6:Int) (x7 x8:Bool) (x9 x10:Int) (x11 x12:Bool) (x13:RW) (x14:BA) (x15:Int) (x16:Bool) (x17:Nat) (x18:RW):Tr (Int×BA×Int×Bool×Nat×RW):=(.ask (decide (1=([[(.i .i64 x0),(.i .i64 x1),(.i .i64 x2),(.i .i64 x3),(.s x4),(.i .i64 x5),(.i .i64 x6),(.b x7),(.b x8),(.i .i64 x9),(.i .i64 x10),(.b x11),(.b x12),(.ls x13)]]:RW).length)) (.ask (decide (x17=x18.length∧0<14∧0<120∧(x17+([[(.i .i64 x0),(.i .i64 x1),(.i .i64 x2),(.i .i64 x3),(.s x4),(.i .i64 x5),(.i .i64 x6),(.b x7),(.b x8),(.i .i64 x9),(.i .i64 x10),(.b x11),(.b x12),(.ls x13)]]:RW).length)*120≤140737488355328∧([[(.i .i64 x0),(.i .i64 x1),(.i .i64 x2),(.i .i64 x3),(.s x4),(.i .i64 x5),(.i .i64 x6),(.b x7),(.b x8),(.i .i64 x9),(.i .i64 x10),(.b x11),(.b x12),(.ls x13)]]:RW).all (fun e=>e.length==14)=true)) (.ask ((decide ((((x17+1):Nat):Int)>(60:Int)))) (.done ((IntKind.i64.wrap ((((x17+1):Nat):Int)-(1:Int))),x14,x15,true,(x17+1),(x18++([[(.i .i64 x0),(.i .i64 x1),(.i .i64 x2),(.i .i64 x3),(.s x4),(.i .i64 x5),(.i .i64 x6),(.b x7),(.b x8),(.i .i64 x9),(.i .i64 x10),(.b x11),(.b x12),(.ls x13)]]:RW)))) (.opt (qBm n x0 x1 x2 x3 x4 x5 x6 x7 x8 x9 x10 x11 x12 x13) fun r55=>(.ask ((!r55)) (.done ((IntKind.i64.wrap ((((x17+1):Nat):Int)-(1:Int))),x14,x15,true,(x17+1),(x18++([[(.i .i64 x0),(.i .i64 x1),(.i .i64 x2),(.i .i64 x3),(.s x4),(.i .i64 x5),(.i .i64 x6),(.b x7),(.b x8),(.i .i64 x9),(.i .i64 x10),(.b x11),(.b x12),(.ls x13)]]:RW)))) (.done ((IntKind.i64.wrap ((((x17+1):Nat):Int)-(1:Int))),x14,x15,x16,(x17+1),(x18++([[(.i .i64 x0),(.i .i64 x1),(.i .i64 x2),(.i .i64 x3),(.s x4),(.i .i64 x5),(.i .i64 x6),(.b x7),(.b x8),(.i .i64 x9),(.i .i64 x10),(.b x11),(.b x12),(.ls x13)]]:RW))))))) .fail) .fail)
def qo:Nat→Int→Int→Int→Int→BA→Int→Int→Bool→Bool→Int→Int→Bool→Bool→RW→BA→Int→Bool→Nat→RW→Option (Int×BA×Int×Bool×Nat×RW)
 |0,_,_,_,_,_,_,_,_,_,_,_,_,_,_,_,_,_,_,_=>none
 |n+1,x0,x1,x2,x3,x4,x5,x6,x7,x8,x9,x10,x11,x12,x13,x14,x15,x16,x17,x18=>(qHb n x0 x1 x2 x3 x4 x5 x6 x7 x8 x9 x10 x11 x12 x13 x14 x15 x16 x17 x18).run
abbrev qLx (n:Nat):List (Ent (Rn n)):= [en (qGn n)]
theorem qCd:∀n,Ok (Rn n) qLw (qo n)
 |0=>ok0 fun _=>rfl
 |n+1=>stO (T:=qHb n) (by kernel_rfl) (qLx n) [] (fun _=>(by kernel_rfl)) fun _=>(by kernel_rfl)
def qKx:Sg:=⟨209,[(.c (.ptr 0 0 0 0 0))],[[(0,⟨0,4,175,(.box [qS,qI,qB,(.own 0 1 1 0)])⟩),(1,⟨1,14,162,(.row [])⟩)]],⟨aI,[[(0,⟨0,4,175,(.box [qS,qI,qB,(.own 0 1 1 0)])⟩),(1,⟨1,14,162,(.row [])⟩)]],[]⟩⟩
def qDO (n:Nat) (v:BA×BA×Int×Bool×Nat×RW):Tr ((BA×BA×Int×Bool×Nat×RW)⊕((Int×BA×Int×Bool×Nat×RW)⊕(BA×Int×Bool×Nat×RW))):=(.ask ((decide (v.2.2.1<(v.2.1.size:Int)))) (.ask (decide (0≤v.2.2.1)) (.opt (v.2.1.toList[(v.2.2.1).toNat]?) fun c61=>(.ask (((c61.toNat:Int) !=(34:Int))) (.ask (decide (0≤v.2.2.1∧v.2.2.1≤(IntKind.i64.wrap (v.2.2.1+(1:Int)))∧(IntKind.i64.wrap (v.2.2.1+(1:Int)))≤v.2.1.size)) (.ask (decide (v.1.size+(v.2.1.extract (v.2.2.1).toNat ((IntKind.i64.wrap (v.2.2.1+(1:Int)))).toNat).size≤9223372036854775807)) (.done (.inl ((v.1++(v.2.1.extract (v.2.2.1).toNat ((IntKind.i64.wrap (v.2.2.1+(1:Int)))).toNat)),v.2.1,(IntKind.i64.wrap (v.2.2.1+(1:Int))),v.2.2.2.1,v.2.2.2.2.1,v.2.2.2.2.2))) .fail) .fail) (.ask ((decide ((IntKind.i64.wrap (v.2.2.1+(1:Int)))≥(v.2.1.size:Int)))) (.opt (qo n (1:Int) (0:Int) (2:Int) (0:Int) v.1 (0:Int) (0:Int) false false (0:Int) (0:Int) false false ([]:RW) v.2.1 (IntKind.i64.wrap (v.2.2.1+(1:Int))) v.2.2.2.1 v.2.2.2.2.1 v.2.2.2.2.2) fun r62=>(.done (.inr (.inl ((r62.1,r62.2.1,r62.2.2.1,r62.2.2.2.1,r62.2.2.2.2.1,r62.2.2.2.2.2)))))) (.ask (decide (0≤(IntKind.i64.wrap (v.2.2.1+(1:Int))))) (.opt (v.2.1.toList[((IntKind.i64.wrap (v.2.2.1+(1:Int)))).toNat]?) fun c63=>(.ask (((c63.toNat:Int) !=(34:Int))) (.opt (qo n (1:Int) (0:Int) (2:Int) (0:Int) v.1 (0:Int) (0:Int) false false (0:Int) (0:Int) false false ([]:RW) v.2.1 (IntKind.i64.wrap (v.2.2.1+(1:Int))) v.2.2.2.1 v.2.2.2.2.1 v.2.2.2.2.2) fun r64=>(.done (.inr (.inl ((r64.1,r64.2.1,r64.2.2.1,r64.2.2.2.1,r64.2.2.2.2.1,r64.2.2.2.2.2)))))) (.ask (decide (v.1.size+(⟨#[34]⟩:BA).size≤9223372036854775807)) (.done (.inl ((v.1++(⟨#[34]⟩:BA)),v.2.1,(IntKind.i64.wrap ((IntKind.i64.wrap (v.2.2.1+(1:Int)))+(1:Int))),v.2.2.2.1,v.2.2.2.2.1,v.2.2.2.2.2))) .fail))) .fail)))) .fail) (.done (.inr (.inr ((v.2.1,v.2.2.1,v.2.2.2.1,v.2.2.2.2.1,v.2.2.2.2.2))))))
def qGo (n:Nat) (x0:BA) (x1:Int) (x2:Bool) (x3:Nat) (x4:RW):Tr (Int×BA×Int×Bool×Nat×RW):=(.opt (zC (qDO n) n ((⟨#[]⟩:BA),x0,x1,x2,x3,x4)) fun r65=>(.alt r65 (fun r66=>(.done (r66.1,r66.2.1,r66.2.2.1,r66.2.2.2.1,r66.2.2.2.2.1,r66.2.2.2.2.2))) (fun r67=>(.done ((0:Int),r67.1,r67.2.1,true,r67.2.2.2.1,r67.2.2.2.2)))))
def qEK:Nat→BA→Int→Bool→Nat→RW→Option (Int×BA×Int×Bool×Nat×RW)
 |0,_,_,_,_,_=>none
 |n+1,x0,x1,x2,x3,x4=>(qGo n x0 x1 x2 x3 x4).run
abbrev qGp (n:Nat):List (Ent (Rn n)):= [en (qCd n)]
def qJA (n:Nat):LEnt (KB 209) (Rn n) n:=lok (zT 209) 14 ⟨⟨[(0,(.c (.ptr 0 0 0 0 0))),(3,aS)],[],[[(0,⟨0,4,175,(.box [qS,qI,qB,(.own 0 1 1 0)])⟩),(1,⟨1,14,162,(.row [])⟩)]]⟩,[(.ret,⟨[(2,aI)],[],[[(0,⟨0,4,175,(.box [qS,qI,qB,(.own 0 1 1 0)])⟩),(1,⟨1,14,162,(.row [])⟩)]]⟩),(.exit 0,⟨[(0,(.c (.ptr 0 0 0 0 0)))],[],[[(0,⟨0,4,175,(.box [qS,qI,qB,(.own 0 1 1 0)])⟩),(1,⟨1,14,162,(.row [])⟩)]]⟩)]⟩ (qDO n) (qGp n) [] fun _=>(by kernel_rfl)
theorem qKK:∀n,Ok (Rn n) qKx (qEK n)
 |0=>ok0 fun _=>rfl
 |n+1=>stO (T:=qGo n) (by kernel_rfl) (qGp n) [qJA n] (fun _=>(by kernel_rfl)) fun _=>(by kernel_rfl)
def qNe:Sg:=⟨141,[aI],[],⟨aS,[],[]⟩⟩
def qGQ (n:Nat) (x0:Int):Tr (BA):=(.ask (decide (6=([[(.s (⟨#[]⟩:BA))],[(.s (⟨#[35,68,73,86,33]⟩:BA))],[(.s (⟨#[35,84,89,80,69,33]⟩:BA))],[(.s (⟨#[35,82,69,70,33]⟩:BA))],[(.s (⟨#[35,79,86,69,82,33]⟩:BA))],[(.s (⟨#[35,67,89,67,76,69,33]⟩:BA))]]:RW).length∧0≤x0∧x0<((6:Nat):Int))) (.opt (([[(.s (⟨#[]⟩:BA))],[(.s (⟨#[35,68,73,86,33]⟩:BA))],[(.s (⟨#[35,84,89,80,69,33]⟩:BA))],[(.s (⟨#[35,82,69,70,33]⟩:BA))],[(.s (⟨#[35,79,86,69,82,33]⟩:BA))],[(.s (⟨#[35,67,89,67,76,69,33]⟩:BA))]]:RW)[(x0).toNat]?) fun e70=>(.opt (zj e70 0) fun y71=>(.done y71))) .fail)
def qBC:Nat→Int→Option (BA)
 |0,_=>none
 |n+1,x0=>(qGQ n x0).run
theorem qFK:∀n,Ok (Rn n) qNe (qBC n)
 |0=>ok0 fun _=>rfl
 |n+1=>stO (T:=qGQ n) (by kernel_rfl) [] [] (fun _=>(by kernel_rfl)) fun _=>(by kernel_rfl)
def qMi:Sg:=⟨210,[aI],[],⟨(.agg [qI,qI,qS]),[],[]⟩⟩
def qFL (n:Nat) (x0:Int):Tr (Int×Int×BA):=(.done ((4:Int),x0,(⟨#[]⟩:BA)))
def qCe:Nat→Int→Option (Int×Int×BA)
 |0,_=>none
 |n+1,x0=>(qFL n x0).run
theorem qLy:∀n,Ok (Rn n) qMi (qCe n)
 |0=>ok0 fun _=>rfl
 |n+1=>stO (T:=qFL n) (by kernel_rfl) [] [] (fun _=>(by kernel_rfl)) fun _=>(by kernel_rfl)
def qKy:Sg:=⟨211,[(.c (.ptr 0 0 0 0 0))],[[(0,⟨0,4,175,(.box [qS,qI,qB,(.own 0 1 1 0)])⟩),(1,⟨1,14,162,(.row [])⟩)]],⟨aS,[[(0,⟨0,4,175,(.box [qS,qI,qB,(.own 0 1 1 0)])⟩),(1,⟨1,14,162,(.row [])⟩)]],[]⟩⟩
def qBn (n:Nat) (v:Int×BA×Int×Bool×Nat×RW):Tr ((Int×BA×Int×Bool×Nat×RW)⊕((Int×BA×Int×Bool×Nat×RW))):=(.ask ((decide (v.2.2.1<(v.2.1.size:Int)))) (.ask (decide (0≤v.2.2.1)) (.opt (v.2.1.toList[(v.2.2.1).toNat]?) fun c76=>(.ask ((decide ((c76.toNat:Int)≥(65:Int)))) (.ask (decide (0≤v.2.2.1)) (.opt (v.2.1.toList[(v.2.2.1).toNat]?) fun c77=>(.ask ((decide ((c77.toNat:Int)≤(90:Int)))) (.done (.inl (v.1,v.2.1,(IntKind.i64.wrap (v.2.2.1+(1:Int))),v.2.2.2.1,v.2.2.2.2.1,v.2.2.2.2.2))) (.ask (decide (0≤v.2.2.1)) (.opt (v.2.1.toList[(v.2.2.1).toNat]?) fun c78=>(.ask ((decide ((c78.toNat:Int)≥(48:Int)))) (.ask (decide (0≤v.2.2.1)) (.opt (v.2.1.toList[(v.2.2.1).toNat]?) fun c79=>(.ask ((decide ((c79.toNat:Int)≤(57:Int)))) (.done (.inl (v.1,v.2.1,(IntKind.i64.wrap (v.2.2.1+(1:Int))),v.2.2.2.1,v.2.2.2.2.1,v.2.2.2.2.2))) (.ask (decide (0≤v.2.2.1)) (.opt (v.2.1.toList[(v.2.2.1).toNat]?) fun c80=>(.ask (((c80.toNat:Int)==(36:Int))) (.done (.inl (v.1,v.2.1,(IntKind.i64.wrap (v.2.2.1+(1:Int))),v.2.2.2.1,v.2.2.2.2.1,v.2.2.2.2.2))) (.done (.inr ((v.1,v.2.1,v.2.2.1,v.2.2.2.1,v.2.2.2.2.1,v.2.2.2.2.2)))))) .fail))) .fail) (.ask (decide (0≤v.2.2.1)) (.opt (v.2.1.toList[(v.2.2.1).toNat]?) fun c81=>(.ask (((c81.toNat:Int)==(36:Int))) (.done (.inl (v.1,v.2.1,(IntKind.i64.wrap (v.2.2.1+(1:Int))),v.2.2.2.1,v.2.2.2.2.1,v.2.2.2.2.2))) (.done (.inr ((v.1,v.2.1,v.2.2.1,v.2.2.2.1,v.2.2.2.2.1,v.2.2.2.2.2)))))) .fail))) .fail))) .fail) (.ask (decide (0≤v.2.2.1)) (.opt (v.2.1.toList[(v.2.2.1).toNat]?) fun c82=>(.ask ((decide ((c82.toNat:Int)≥(48:Int)))) (.ask (decide (0≤v.2.2.1)) (.opt (v.2.1.toList[(v.2.2.1).toNat]?) fun c83=>(.ask ((decide ((c83.toNat:Int)≤(57:Int)))) (.done (.inl (v.1,v.2.1,(IntKind.i64.wrap (v.2.2.1+(1:Int))),v.2.2.2.1,v.2.2.2.2.1,v.2.2.2.2.2))) (.ask (decide (0≤v.2.2.1)) (.opt (v.2.1.toList[(v.2.2.1).toNat]?) fun c84=>(.ask (((c84.toNat:Int)==(36:Int))) (.done (.inl (v.1,v.2.1,(IntKind.i64.wrap (v.2.2.1+(1:Int))),v.2.2.2.1,v.2.2.2.2.1,v.2.2.2.2.2))) (.done (.inr ((v.1,v.2.1,v.2.2.1,v.2.2.2.1,v.2.2.2.2.1,v.2.2.2.2.2)))))) .fail))) .fail) (.ask (decide (0≤v.2.2.1)) (.opt (v.2.1.toList[(v.2.2.1).toNat]?) fun c85=>(.ask (((c85.toNat:Int)==(36:Int))) (.done (.inl (v.1,v.2.1,(IntKind.i64.wrap (v.2.2.1+(1:Int))),v.2.2.2.1,v.2.2.2.2.1,v.2.2.2.2.2))) (.done (.inr ((v.1,v.2.1,v.2.2.1,v.2.2.2.1,v.2.2.2.2.1,v.2.2.2.2.2)))))) .fail))) .fail))) .fail) (.done (.inr ((v.1,v.2.1,v.2.2.1,v.2.2.2.1,v.2.2.2.2.1,v.2.2.2.2.2)))))
def qGq (n:Nat) (x0:BA) (x1:Int) (x2:Bool) (x3:Nat) (x4:RW):Tr (BA×BA×Int×Bool×Nat×RW):=(.opt (zC (qBn n) n (x1,x0,x1,x2,x3,x4)) fun r86=>(.ask (decide (0≤r86.1∧r86.1≤r86.2.2.1∧r86.2.2.1≤r86.2.1.size)) (.done ((r86.2.1.extract (r86.1).toNat (r86.2.2.1).toNat),r86.2.1,r86.2.2.1,r86.2.2.2.1,r86.2.2.2.2.1,r86.2.2.2.2.2)) .fail))
def qCf:Nat→BA→Int→Bool→Nat→RW→Option (BA×BA×Int×Bool×Nat×RW)
 |0,_,_,_,_,_=>none
 |n+1,x0,x1,x2,x3,x4=>(qGq n x0 x1 x2 x3 x4).run
def qJB (n:Nat):LEnt (KB 211) (Rn n) n:=lok (zT 211) 14 ⟨⟨[(0,(.c (.ptr 0 0 0 0 0))),(3,aI)],[],[[(0,⟨0,4,175,(.box [qS,qI,qB,(.own 0 1 1 0)])⟩),(1,⟨1,14,162,(.row [])⟩)]]⟩,[(.exit 0,⟨[(0,(.c (.ptr 0 0 0 0 0))),(3,aI)],[],[[(0,⟨0,4,175,(.box [qS,qI,qB,(.own 0 1 1 0)])⟩),(1,⟨1,14,162,(.row [])⟩)]]⟩)]⟩ (qBn n) [] [] fun _=>(by kernel_rfl)
theorem qF3:∀n,Ok (Rn n) qKy (qCf n)
 |0=>ok0 fun _=>rfl
 |n+1=>stO (T:=qGq n) (by kernel_rfl) [] [qJB n] (fun _=>(by kernel_rfl)) fun _=>(by kernel_rfl)
def qOt:Sg:=⟨182,[aI],[],⟨aS,[],[]⟩⟩
def qIG (n:Nat) (x0:Int):Tr (BA):=(.ask (decide (11=([[(.s (⟨#[]⟩:BA))],[(.s (⟨#[83,85,77]⟩:BA))],[(.s (⟨#[77,73,78]⟩:BA))],[(.s (⟨#[77,65,88]⟩:BA))],[(.s (⟨#[67,79,85,78,84]⟩:BA))],[(.s (⟨#[73,70]⟩:BA))],[(.s (⟨#[65,78,68]⟩:BA))],[(.s (⟨#[79,82]⟩:BA))],[(.s (⟨#[78,79,84]⟩:BA))],[(.s (⟨#[65,66,83]⟩:BA))],[(.s (⟨#[76,69,78]⟩:BA))]]:RW).length∧0≤x0∧x0<((11:Nat):Int))) (.opt (([[(.s (⟨#[]⟩:BA))],[(.s (⟨#[83,85,77]⟩:BA))],[(.s (⟨#[77,73,78]⟩:BA))],[(.s (⟨#[77,65,88]⟩:BA))],[(.s (⟨#[67,79,85,78,84]⟩:BA))],[(.s (⟨#[73,70]⟩:BA))],[(.s (⟨#[65,78,68]⟩:BA))],[(.s (⟨#[79,82]⟩:BA))],[(.s (⟨#[78,79,84]⟩:BA))],[(.s (⟨#[65,66,83]⟩:BA))],[(.s (⟨#[76,69,78]⟩:BA))]]:RW)[(x0).toNat]?) fun e88=>(.opt (zj e88 0) fun y89=>(.done y89))) .fail)
def qCG:Nat→Int→Option (BA)
 |0,_=>none
 |n+1,x0=>(qIG n x0).run
theorem qKL:∀n,Ok (Rn n) qOt (qCG n)
 |0=>ok0 fun _=>rfl
 |n+1=>stO (T:=qIG n) (by kernel_rfl) [] [] (fun _=>(by kernel_rfl)) fun _=>(by kernel_rfl)
def qMj:Sg:=⟨99,[aI],[],⟨aS,[],[]⟩⟩
def qBF (n:Nat) (v:Int×BA):Tr ((Int×BA)⊕((BA))):=(.ask ((decide (v.1>(0:Int)))) (.ask (decide (1=([[(.i .u8 (IntKind.u8.wrap (IntKind.i64.wrap ((65:Int)+(Int.tmod (IntKind.i64.wrap (v.1-(1:Int))) (26:Int))))))]]:RW).length)) (.opt (bytesOf ([[(.i .u8 (IntKind.u8.wrap (IntKind.i64.wrap ((65:Int)+(Int.tmod (IntKind.i64.wrap (v.1-(1:Int))) (26:Int))))))]]:RW)) fun l99=>(.ask (decide ((⟨l99.toArray⟩:BA).size+v.2.size≤9223372036854775807)) (.done (.inl ((IntKind.i64.wrap (Int.tdiv (IntKind.i64.wrap (v.1-(1:Int))) (26:Int))),((⟨l99.toArray⟩:BA)++v.2)))) .fail)) .fail) (.done (.inr (v.2))))
def qDu (n:Nat) (x0:Int):Tr (BA):=(.opt (qAY n x0 (1:Int) (52:Int)) fun r98=>(.ask ((!r98)) (.done (⟨#[]⟩:BA)) (.opt (zC (qBF n) n (x0,(⟨#[]⟩:BA))) fun r100=>(.done r100))))
def qCg:Nat→Int→Option (BA)
 |0,_=>none
 |n+1,x0=>(qDu n x0).run
abbrev qIH (n:Nat):List (Ent (Rn n)):= [en (qDF n)]
def qKM (n:Nat):LEnt (KB 99) (Rn n) n:=lok (zT 99) 30 ⟨⟨[(0,aI),(3,aS)],[],[]⟩,[(.exit 0,⟨[(3,aS)],[],[]⟩)]⟩ (qBF n) (qIH n) [] fun _=>(by kernel_rfl)
theorem qHc:∀n,Ok (Rn n) qMj (qCg n)
 |0=>ok0 fun _=>rfl
 |n+1=>stO (T:=qDu n) (by kernel_rfl) (qIH n) [qKM n] (fun _=>(by kernel_rfl)) fun _=>(by kernel_rfl)
def qMk:Sg:=⟨233,[aS],[],⟨aI,[],[]⟩⟩
def qCH (n:Nat) (v:BA×Int):Tr ((BA×Int)⊕((Int)⊕(Unit))):=(.ask ((decide (v.2≤(52:Int)))) (.opt (qCg n v.2) fun r98=>(.ask ((r98.toList==v.1.toList)) (.done (.inr (.inl (v.2)))) (.done (.inl (v.1,(IntKind.i64.wrap (v.2+(1:Int)))))))) (.done (.inr (.inr (())))))
def qFM (n:Nat) (x0:BA):Tr (Int):=(.opt (zC (qCH n) n (x0,(1:Int))) fun r99=>(.alt r99 (fun r100=>(.done r100)) (fun r101=>(.done (0:Int)))))
def qB3:Nat→BA→Option (Int)
 |0,_=>none
 |n+1,x0=>(qFM n x0).run
abbrev qII (n:Nat):List (Ent (Rn n)):= [en (qHc n)]
def qKN (n:Nat):LEnt (KB 233) (Rn n) n:=lok (zT 233) 13 ⟨⟨[(0,aS),(3,aI)],[],[]⟩,[(.ret,⟨[(2,aI)],[],[]⟩),(.exit 0,⟨[],[],[]⟩)]⟩ (qCH n) (qII n) [] fun _=>(by kernel_rfl)
theorem qLz:∀n,Ok (Rn n) qMk (qB3 n)
 |0=>ok0 fun _=>rfl
 |n+1=>stO (T:=qFM n) (by kernel_rfl) (qII n) [qKN n] (fun _=>(by kernel_rfl)) fun _=>(by kernel_rfl)
def qOR:Sg:=⟨138,[aS,aI],[],⟨(.tup [(false,[qI]),(false,[qB])]),[],[]⟩⟩
def qBP (n:Nat) (v:BA×Int×Int):Tr ((BA×Int×Int)⊕((Int×Bool)⊕(Int))):=(.ask ((decide (v.2.2<(v.1.size:Int)))) (.ask (decide (0≤v.2.2)) (.opt (v.1.toList[(v.2.2).toNat]?) fun c105=>(.ask ((decide ((c105.toNat:Int)<(48:Int)))) (.done (.inr (.inl (((0:Int),false))))) (.ask (decide (0≤v.2.2)) (.opt (v.1.toList[(v.2.2).toNat]?) fun c106=>(.ask ((decide ((c106.toNat:Int)>(57:Int)))) (.done (.inr (.inl (((0:Int),false))))) (.ask (decide (0≤v.2.2)) (.opt (v.1.toList[(v.2.2).toNat]?) fun c107=>(.done (.inl (v.1,(IntKind.i64.wrap ((IntKind.i64.wrap (v.2.1*(10:Int)))+(IntKind.i64.wrap (IntKind.u8.wrap ((c107.toNat:Int)-(48:Int)))))),(IntKind.i64.wrap (v.2.2+(1:Int))))))) .fail))) .fail))) .fail) (.done (.inr (.inr (v.2.1)))))
def qDv (n:Nat) (x0:BA) (x1:Int):Tr (Int×Bool):=(.ask ((decide ((x0.size:Int)<(1:Int)))) (.done ((0:Int),false)) (.ask ((decide ((x0.size:Int)>x1))) (.done ((0:Int),false)) (.ask (decide (0≤(0:Int))) (.opt (x0.toList[((0:Int)).toNat]?) fun c104=>(.ask (((c104.toNat:Int)==(48:Int))) (.ask ((decide ((x0.size:Int)>(1:Int)))) (.done ((0:Int),false)) (.opt (zC (qBP n) n (x0,(0:Int),(0:Int))) fun r108=>(.alt r108 (fun r109=>(.done (r109.1,r109.2))) (fun r110=>(.done (r110,true)))))) (.opt (zC (qBP n) n (x0,(0:Int),(0:Int))) fun r111=>(.alt r111 (fun r112=>(.done (r112.1,r112.2))) (fun r113=>(.done (r113,true))))))) .fail)))
def qq:Nat→BA→Int→Option (Int×Bool)
 |0,_,_=>none
 |n+1,x0,x1=>(qDv n x0 x1).run
def qL0 (n:Nat):LEnt (KB 138) (Rn n) n:=lok (zT 138) 61 ⟨⟨[(0,aS),(6,aI),(7,aI)],[],[]⟩,[(.ret,⟨[(4,aI),(5,aB)],[],[]⟩),(.exit 0,⟨[(6,aI)],[],[]⟩)]⟩ (qBP n) [] [] fun _=>(by kernel_rfl)
theorem qGR:∀n,Ok (Rn n) qOR (qq n)
 |0=>ok0 fun _=>rfl
 |n+1=>stO (T:=qDv n) (by kernel_rfl) [] [qL0 n] (fun _=>(by kernel_rfl)) fun _=>(by kernel_rfl)
def qKz:Sg:=⟨213,[aS],[],⟨(.tup [(true,[qI,qI,qB,qB]),(false,[qB])]),[],[]⟩⟩
def qAG (n:Nat) (v:BA×Int×Int×Int×Bool×Bool×Int×Int×Bool×Bool):Tr ((BA×Int×Int×Int×Bool×Bool×Int×Int×Bool×Bool)⊕((BA×Int×Int×Int×Bool×Bool×Int×Int×Bool×Bool))):=(.ask ((decide (v.2.1<(v.1.size:Int)))) (.ask (decide (0≤v.2.1)) (.opt (v.1.toList[(v.2.1).toNat]?) fun c95=>(.ask ((decide ((c95.toNat:Int)≥(65:Int)))) (.ask (decide (0≤v.2.1)) (.opt (v.1.toList[(v.2.1).toNat]?) fun c96=>(.ask ((decide ((c96.toNat:Int)≤(90:Int)))) (.done (.inl (v.1,(IntKind.i64.wrap (v.2.1+(1:Int))),v.2.2.1,v.2.2.2.1,v.2.2.2.2.1,v.2.2.2.2.2.1,v.2.2.2.2.2.2.1,v.2.2.2.2.2.2.2.1,v.2.2.2.2.2.2.2.2.1,v.2.2.2.2.2.2.2.2.2))) (.done (.inr ((v.1,v.2.1,v.2.2.1,v.2.2.2.1,v.2.2.2.2.1,v.2.2.2.2.2.1,v.2.2.2.2.2.2.1,v.2.2.2.2.2.2.2.1,v.2.2.2.2.2.2.2.2.1,v.2.2.2.2.2.2.2.2.2)))))) .fail) (.done (.inr ((v.1,v.2.1,v.2.2.1,v.2.2.2.1,v.2.2.2.2.1,v.2.2.2.2.2.1,v.2.2.2.2.2.2.1,v.2.2.2.2.2.2.2.1,v.2.2.2.2.2.2.2.2.1,v.2.2.2.2.2.2.2.2.2)))))) .fail) (.done (.inr ((v.1,v.2.1,v.2.2.1,v.2.2.2.1,v.2.2.2.2.1,v.2.2.2.2.2.1,v.2.2.2.2.2.2.1,v.2.2.2.2.2.2.2.1,v.2.2.2.2.2.2.2.2.1,v.2.2.2.2.2.2.2.2.2)))))
def qB0 (n:Nat) (x0:BA):Tr (Int×Int×Bool×Bool×Bool):=(.ask ((decide ((x0.size:Int)>(0:Int)))) (.ask (decide (0≤(0:Int))) (.opt (x0.toList[((0:Int)).toNat]?) fun c94=>(.ask (((c94.toNat:Int)==(36:Int))) (.ask (decide (0≤(1:Int)∧(1:Int)≤(x0.size:Int)∧(x0.size:Int)≤x0.size)) (.opt (zC (qAG n) n ((x0.extract ((1:Int)).toNat ((x0.size:Int)).toNat),(0:Int),(0:Int),(0:Int),false,false,(0:Int),(0:Int),true,false)) fun r97=>(.ask (decide (0≤(0:Int)∧(0:Int)≤r97.2.1∧r97.2.1≤r97.1.size)) (.opt (qB3 n (r97.1.extract ((0:Int)).toNat (r97.2.1).toNat)) fun r102=>(.ask (decide (0≤r97.2.1∧r97.2.1≤(r97.1.size:Int)∧(r97.1.size:Int)≤r97.1.size)) (.ask ((decide (((r97.1.extract (r97.2.1).toNat ((r97.1.size:Int)).toNat).size:Int)>(0:Int)))) (.ask (decide (0≤(0:Int))) (.opt ((r97.1.extract (r97.2.1).toNat ((r97.1.size:Int)).toNat).toList[((0:Int)).toNat]?) fun c103=>(.ask (((c103.toNat:Int)==(36:Int))) (.ask (decide (0≤(1:Int)∧(1:Int)≤((r97.1.extract (r97.2.1).toNat ((r97.1.size:Int)).toNat).size:Int)∧((r97.1.extract (r97.2.1).toNat ((r97.1.size:Int)).toNat).size:Int)≤(r97.1.extract (r97.2.1).toNat ((r97.1.size:Int)).toNat).size)) (.opt (qq n ((r97.1.extract (r97.2.1).toNat ((r97.1.size:Int)).toNat).extract ((1:Int)).toNat (((r97.1.extract (r97.2.1).toNat ((r97.1.size:Int)).toNat).size:Int)).toNat) (2:Int)) fun r114=>(.ask ((!r114.2)) (.done ((0:Int),(0:Int),false,false,false)) (.opt (qx n r102 r114.1) fun r115=>(.ask ((!r115)) (.done ((0:Int),(0:Int),false,false,false)) (.done (r102,r114.1,r97.2.2.2.2.2.2.2.2.1,true,true)))))) .fail) (.opt (qq n (r97.1.extract (r97.2.1).toNat ((r97.1.size:Int)).toNat) (2:Int)) fun r116=>(.ask ((!r116.2)) (.done ((0:Int),(0:Int),false,false,false)) (.opt (qx n r102 r116.1) fun r117=>(.ask ((!r117)) (.done ((0:Int),(0:Int),false,false,false)) (.done (r102,r116.1,r97.2.2.2.2.2.2.2.2.1,r97.2.2.2.2.2.2.2.2.2,true)))))))) .fail) (.opt (qq n (r97.1.extract (r97.2.1).toNat ((r97.1.size:Int)).toNat) (2:Int)) fun r118=>(.ask ((!r118.2)) (.done ((0:Int),(0:Int),false,false,false)) (.opt (qx n r102 r118.1) fun r119=>(.ask ((!r119)) (.done ((0:Int),(0:Int),false,false,false)) (.done (r102,r118.1,r97.2.2.2.2.2.2.2.2.1,r97.2.2.2.2.2.2.2.2.2,true))))))) .fail)) .fail)) .fail) (.opt (zC (qAG n) n (x0,(0:Int),(0:Int),(0:Int),false,false,(0:Int),(0:Int),false,false)) fun r120=>(.ask (decide (0≤(0:Int)∧(0:Int)≤r120.2.1∧r120.2.1≤r120.1.size)) (.opt (qB3 n (r120.1.extract ((0:Int)).toNat (r120.2.1).toNat)) fun r121=>(.ask (decide (0≤r120.2.1∧r120.2.1≤(r120.1.size:Int)∧(r120.1.size:Int)≤r120.1.size)) (.ask ((decide (((r120.1.extract (r120.2.1).toNat ((r120.1.size:Int)).toNat).size:Int)>(0:Int)))) (.ask (decide (0≤(0:Int))) (.opt ((r120.1.extract (r120.2.1).toNat ((r120.1.size:Int)).toNat).toList[((0:Int)).toNat]?) fun c122=>(.ask (((c122.toNat:Int)==(36:Int))) (.ask (decide (0≤(1:Int)∧(1:Int)≤((r120.1.extract (r120.2.1).toNat ((r120.1.size:Int)).toNat).size:Int)∧((r120.1.extract (r120.2.1).toNat ((r120.1.size:Int)).toNat).size:Int)≤(r120.1.extract (r120.2.1).toNat ((r120.1.size:Int)).toNat).size)) (.opt (qq n ((r120.1.extract (r120.2.1).toNat ((r120.1.size:Int)).toNat).extract ((1:Int)).toNat (((r120.1.extract (r120.2.1).toNat ((r120.1.size:Int)).toNat).size:Int)).toNat) (2:Int)) fun r123=>(.ask ((!r123.2)) (.done ((0:Int),(0:Int),false,false,false)) (.opt (qx n r121 r123.1) fun r124=>(.ask ((!r124)) (.done ((0:Int),(0:Int),false,false,false)) (.done (r121,r123.1,r120.2.2.2.2.2.2.2.2.1,true,true)))))) .fail) (.opt (qq n (r120.1.extract (r120.2.1).toNat ((r120.1.size:Int)).toNat) (2:Int)) fun r125=>(.ask ((!r125.2)) (.done ((0:Int),(0:Int),false,false,false)) (.opt (qx n r121 r125.1) fun r126=>(.ask ((!r126)) (.done ((0:Int),(0:Int),false,false,false)) (.done (r121,r125.1,r120.2.2.2.2.2.2.2.2.1,r120.2.2.2.2.2.2.2.2.2,true)))))))) .fail) (.opt (qq n (r120.1.extract (r120.2.1).toNat ((r120.1.size:Int)).toNat) (2:Int)) fun r127=>(.ask ((!r127.2)) (.done ((0:Int),(0:Int),false,false,false)) (.opt (qx n r121 r127.1) fun r128=>(.ask ((!r128)) (.done ((0:Int),(0:Int),false,false,false)) (.done (r121,r127.1,r120.2.2.2.2.2.2.2.2.1,r120.2.2.2.2.2.2.2.2.2,true))))))) .fail)) .fail)))) .fail) (.opt (zC (qAG n) n (x0,(0:Int),(0:Int),(0:Int),false,false,(0:Int),(0:Int),false,false)) fun r129=>(.ask (decide (0≤(0:Int)∧(0:Int)≤r129.2.1∧r129.2.1≤r129.1.size)) (.opt (qB3 n (r129.1.extract ((0:Int)).toNat (r129.2.1).toNat)) fun r130=>(.ask (decide (0≤r129.2.1∧r129.2.1≤(r129.1.size:Int)∧(r129.1.size:Int)≤r129.1.size)) (.ask ((decide (((r129.1.extract (r129.2.1).toNat ((r129.1.size:Int)).toNat).size:Int)>(0:Int)))) (.ask (decide (0≤(0:Int))) (.opt ((r129.1.extract (r129.2.1).toNat ((r129.1.size:Int)).toNat).toList[((0:Int)).toNat]?) fun c131=>(.ask (((c131.toNat:Int)==(36:Int))) (.ask (decide (0≤(1:Int)∧(1:Int)≤((r129.1.extract (r129.2.1).toNat ((r129.1.size:Int)).toNat).size:Int)∧((r129.1.extract (r129.2.1).toNat ((r129.1.size:Int)).toNat).size:Int)≤(r129.1.extract (r129.2.1).toNat ((r129.1.size:Int)).toNat).size)) (.opt (qq n ((r129.1.extract (r129.2.1).toNat ((r129.1.size:Int)).toNat).extract ((1:Int)).toNat (((r129.1.extract (r129.2.1).toNat ((r129.1.size:Int)).toNat).size:Int)).toNat) (2:Int)) fun r132=>(.ask ((!r132.2)) (.done ((0:Int),(0:Int),false,false,false)) (.opt (qx n r130 r132.1) fun r133=>(.ask ((!r133)) (.done ((0:Int),(0:Int),false,false,false)) (.done (r130,r132.1,r129.2.2.2.2.2.2.2.2.1,true,true)))))) .fail) (.opt (qq n (r129.1.extract (r129.2.1).toNat ((r129.1.size:Int)).toNat) (2:Int)) fun r134=>(.ask ((!r134.2)) (.done ((0:Int),(0:Int),false,false,false)) (.opt (qx n r130 r134.1) fun r135=>(.ask ((!r135)) (.done ((0:Int),(0:Int),false,false,false)) (.done (r130,r134.1,r129.2.2.2.2.2.2.2.2.1,r129.2.2.2.2.2.2.2.2.2,true)))))))) .fail) (.opt (qq n (r129.1.extract (r129.2.1).toNat ((r129.1.size:Int)).toNat) (2:Int)) fun r136=>(.ask ((!r136.2)) (.done ((0:Int),(0:Int),false,false,false)) (.opt (qx n r130 r136.1) fun r137=>(.ask ((!r137)) (.done ((0:Int),(0:Int),false,false,false)) (.done (r130,r136.1,r129.2.2.2.2.2.2.2.2.1,r129.2.2.2.2.2.2.2.2.2,true))))))) .fail)) .fail)))
def qAh:Nat→BA→Option (Int×Int×Bool×Bool×Bool)
 |0,_=>none
 |n+1,x0=>(qB0 n x0).run
abbrev qGr (n:Nat):List (Ent (Rn n)):= [en (qLz n),en (qGR n),en (qDW n)]
def qJC (n:Nat):LEnt (KB 213) (Rn n) n:=lok (zT 213) 62 ⟨⟨[(0,aS),(2,(.c (.ptr 0 128 0 0 0))),(4,(.c (.ptr 0 256 0 0 0))),(5,aI)],[(128,⟨0,4,90,(.box [qI,qI,qB,qB])⟩),(256,⟨0,4,90,(.box [qI,qI,qB,qB])⟩)],[]⟩,[(.exit 0,⟨[(0,aS),(2,(.c (.ptr 0 128 0 0 0))),(4,(.c (.ptr 0 256 0 0 0))),(5,aI)],[(128,⟨0,4,90,(.box [qI,qI,qB,qB])⟩),(256,⟨0,4,90,(.box [qI,qI,qB,qB])⟩)],[]⟩)]⟩ (qAG n) (qGr n) [] fun _=>(by kernel_rfl)
theorem qF4:∀n,Ok (Rn n) qKz (qAh n)
 |0=>ok0 fun _=>rfl
 |n+1=>stO (T:=qB0 n) (by kernel_rfl) (qGr n) [qJC n] (fun _=>(by kernel_rfl)) fun _=>(by kernel_rfl)
def qK0:Sg:=⟨97,[aS],[],⟨(.tup [(true,[qI,qI,qS]),(false,[qB])]),[],[]⟩⟩
def qBG (n:Nat) (v:BA×Int×Int×Int×BA×Int×Int×BA):Tr ((BA×Int×Int×Int×BA×Int×Int×BA)⊕((Int×Int×BA×Int×Int×BA))):=(.ask ((decide (v.2.1≤(5:Int)))) (.opt (qBC n v.2.1) fun r101=>(.ask ((r101.toList==v.1.toList)) (.done (.inl (v.1,(IntKind.i64.wrap (v.2.1+(1:Int))),v.2.2.1,v.2.2.2.1,v.2.2.2.2.1,v.2.2.2.2.2.1,v.2.1,v.2.2.2.2.2.2.2))) (.done (.inl (v.1,(IntKind.i64.wrap (v.2.1+(1:Int))),v.2.2.1,v.2.2.2.1,v.2.2.2.2.1,v.2.2.2.2.2.1,v.2.2.2.2.2.2.1,v.2.2.2.2.2.2.2))))) (.done (.inr ((v.2.2.1,v.2.2.2.1,v.2.2.2.2.1,v.2.2.2.2.2.1,v.2.2.2.2.2.2.1,v.2.2.2.2.2.2.2)))))
def qAs (n:Nat) (x0:BA):Tr (Int×Int×BA×Bool):=(.ask ((x0.toList==(⟨#[]⟩:BA).toList)) (.done ((0:Int),(0:Int),(⟨#[]⟩:BA),true)) (.ask (decide (0≤(0:Int))) (.opt (x0.toList[((0:Int)).toNat]?) fun c94=>(.ask (((c94.toNat:Int)==(39:Int))) (.ask (decide (0≤(1:Int)∧(1:Int)≤(x0.size:Int)∧(x0.size:Int)≤x0.size)) (.opt (qX n (2:Int) (0:Int) (x0.extract ((1:Int)).toNat ((x0.size:Int)).toNat)) fun r95=>(.ask ((!r95)) (.done ((0:Int),(0:Int),(⟨#[]⟩:BA),false)) (.done ((2:Int),(0:Int),(x0.extract ((1:Int)).toNat ((x0.size:Int)).toNat),true)))) .fail) (.ask ((x0.toList==(⟨#[84,82,85,69]⟩:BA).toList)) (.ask ((x0.toList==(⟨#[84,82,85,69]⟩:BA).toList)) (.opt (qX n (3:Int) (1:Int) (⟨#[]⟩:BA)) fun r96=>(.ask ((!r96)) (.done ((0:Int),(0:Int),(⟨#[]⟩:BA),false)) (.done ((3:Int),(1:Int),(⟨#[]⟩:BA),true)))) (.opt (qX n (3:Int) (0:Int) (⟨#[]⟩:BA)) fun r97=>(.ask ((!r97)) (.done ((0:Int),(0:Int),(⟨#[]⟩:BA),false)) (.done ((3:Int),(0:Int),(⟨#[]⟩:BA),true))))) (.ask ((x0.toList==(⟨#[70,65,76,83,69]⟩:BA).toList)) (.ask ((x0.toList==(⟨#[84,82,85,69]⟩:BA).toList)) (.opt (qX n (3:Int) (1:Int) (⟨#[]⟩:BA)) fun r98=>(.ask ((!r98)) (.done ((0:Int),(0:Int),(⟨#[]⟩:BA),false)) (.done ((3:Int),(1:Int),(⟨#[]⟩:BA),true)))) (.opt (qX n (3:Int) (0:Int) (⟨#[]⟩:BA)) fun r99=>(.ask ((!r99)) (.done ((0:Int),(0:Int),(⟨#[]⟩:BA),false)) (.done ((3:Int),(0:Int),(⟨#[]⟩:BA),true))))) (.ask (decide (0≤(0:Int))) (.opt (x0.toList[((0:Int)).toNat]?) fun c100=>(.ask (((c100.toNat:Int)==(35:Int))) (.opt (zC (qBG n) n (x0,(1:Int),(0:Int),(0:Int),(⟨#[]⟩:BA),(4:Int),(0:Int),(⟨#[]⟩:BA))) fun r102=>(.opt (qX n r102.2.2.2.1 r102.2.2.2.2.1 r102.2.2.2.2.2) fun r103=>(.ask ((!r103)) (.done ((0:Int),(0:Int),(⟨#[]⟩:BA),false)) (.done (r102.2.2.2.1,r102.2.2.2.2.1,r102.2.2.2.2.2,true))))) (.ask (decide (0≤(0:Int))) (.opt (x0.toList[((0:Int)).toNat]?) fun c104=>(.ask (((c104.toNat:Int)==(45:Int))) (.ask (decide (0≤(1:Int)∧(1:Int)≤(x0.size:Int)∧(x0.size:Int)≤x0.size)) (.opt (qq n (x0.extract ((1:Int)).toNat ((x0.size:Int)).toNat) (16:Int)) fun r105=>(.ask ((!r105.2)) (.done ((0:Int),(0:Int),(⟨#[]⟩:BA),false)) (.ask (((c104.toNat:Int)==(45:Int))) (.ask ((r105.1==(0:Int))) (.done ((0:Int),(0:Int),(⟨#[]⟩:BA),false)) (.ask (((c104.toNat:Int)==(45:Int))) (.opt (qX n (1:Int) (IntKind.i64.wrap (0-r105.1)) (⟨#[]⟩:BA)) fun r106=>(.ask ((!r106)) (.done ((0:Int),(0:Int),(⟨#[]⟩:BA),false)) (.done ((1:Int),(IntKind.i64.wrap (0-r105.1)),(⟨#[]⟩:BA),true)))) (.opt (qX n (1:Int) r105.1 (⟨#[]⟩:BA)) fun r107=>(.ask ((!r107)) (.done ((0:Int),(0:Int),(⟨#[]⟩:BA),false)) (.done ((1:Int),r105.1,(⟨#[]⟩:BA),true)))))) (.ask (((c104.toNat:Int)==(45:Int))) (.opt (qX n (1:Int) (IntKind.i64.wrap (0-r105.1)) (⟨#[]⟩:BA)) fun r108=>(.ask ((!r108)) (.done ((0:Int),(0:Int),(⟨#[]⟩:BA),false)) (.done ((1:Int),(IntKind.i64.wrap (0-r105.1)),(⟨#[]⟩:BA),true)))) (.opt (qX n (1:Int) r105.1 (⟨#[]⟩:BA)) fun r109=>(.ask ((!r109)) (.done ((0:Int),(0:Int),(⟨#[]⟩:BA),false)) (.done ((1:Int),r105.1,(⟨#[]⟩:BA),true)))))))) .fail) (.opt (qq n x0 (16:Int)) fun r110=>(.ask ((!r110.2)) (.done ((0:Int),(0:Int),(⟨#[]⟩:BA),false)) (.ask (((c104.toNat:Int)==(45:Int))) (.ask ((r110.1==(0:Int))) (.done ((0:Int),(0:Int),(⟨#[]⟩:BA),false)) (.ask (((c104.toNat:Int)==(45:Int))) (.opt (qX n (1:Int) (IntKind.i64.wrap (0-r110.1)) (⟨#[]⟩:BA)) fun r111=>(.ask ((!r111)) (.done ((0:Int),(0:Int),(⟨#[]⟩:BA),false)) (.done ((1:Int),(IntKind.i64.wrap (0-r110.1)),(⟨#[]⟩:BA),true)))) (.opt (qX n (1:Int) r110.1 (⟨#[]⟩:BA)) fun r112=>(.ask ((!r112)) (.done ((0:Int),(0:Int),(⟨#[]⟩:BA),false)) (.done ((1:Int),r110.1,(⟨#[]⟩:BA),true)))))) (.ask (((c104.toNat:Int)==(45:Int))) (.opt (qX n (1:Int) (IntKind.i64.wrap (0-r110.1)) (⟨#[]⟩:BA)) fun r113=>(.ask ((!r113)) (.done ((0:Int),(0:Int),(⟨#[]⟩:BA),false)) (.done ((1:Int),(IntKind.i64.wrap (0-r110.1)),(⟨#[]⟩:BA),true)))) (.opt (qX n (1:Int) r110.1 (⟨#[]⟩:BA)) fun r114=>(.ask ((!r114)) (.done ((0:Int),(0:Int),(⟨#[]⟩:BA),false)) (.done ((1:Int),r110.1,(⟨#[]⟩:BA),true)))))))))) .fail))) .fail))))) .fail))
def qAD:Nat→BA→Option (Int×Int×BA×Bool)
 |0,_=>none
 |n+1,x0=>(qAs n x0).run
abbrev qGs (n:Nat):List (Ent (Rn n)):= [en (qDb n),en (qFK n),en (qGR n)]
def qHD (n:Nat):LEnt (KB 97) (Rn n) n:=lok (zT 97) 15355 ⟨⟨[(0,aS),(2,(.c (.ptr 0 128 0 0 0))),(4,(.c (.ptr 0 256 0 0 0))),(5,aI)],[(128,⟨0,3,128,(.box [qI,qI,qS])⟩),(256,⟨0,3,128,(.box [qI,qI,qS])⟩)],[]⟩,[(.exit 1,⟨[(2,(.c (.ptr 0 128 0 0 0))),(4,(.c (.ptr 0 256 0 0 0)))],[(128,⟨0,3,128,(.box [qI,qI,qS])⟩),(256,⟨0,3,128,(.box [qI,qI,qS])⟩)],[]⟩)]⟩ (qBG n) (qGs n) [] fun _=>(by kernel_rfl)
theorem qF5:∀n,Ok (Rn n) qK0 (qAD n)
 |0=>ok0 fun _=>rfl
 |n+1=>stO (T:=qAs n) (by kernel_rfl) (qGs n) [qHD n] (fun _=>(by kernel_rfl)) fun _=>(by kernel_rfl)
def qMl:Sg:=⟨180,[aI],[],⟨aI,[],[]⟩⟩
def qFN (n:Nat) (x0:Int):Tr (Int):=(.ask ((decide (x0≥(6:Int)))) (.done (1:Int)) (.ask ((x0==(5:Int))) (.done (2:Int)) (.ask ((decide (x0≥(3:Int)))) (.done (4:Int)) (.done (3:Int)))))
def qB4:Nat→Int→Option (Int)
 |0,_=>none
 |n+1,x0=>(qFN n x0).run
theorem qHd:∀n,Ok (Rn n) qMl (qB4 n)
 |0=>ok0 fun _=>rfl
 |n+1=>stO (T:=qFN n) (by kernel_rfl) [] [] (fun _=>(by kernel_rfl)) fun _=>(by kernel_rfl)
def qNf:Sg:=⟨181,[aI],[],⟨aS,[],[]⟩⟩
def qGS (n:Nat) (x0:Int):Tr (BA):=(.ask (decide (12=([[(.s (⟨#[]⟩:BA))],[(.s (⟨#[43]⟩:BA))],[(.s (⟨#[45]⟩:BA))],[(.s (⟨#[42]⟩:BA))],[(.s (⟨#[47]⟩:BA))],[(.s (⟨#[38]⟩:BA))],[(.s (⟨#[61]⟩:BA))],[(.s (⟨#[60,62]⟩:BA))],[(.s (⟨#[60]⟩:BA))],[(.s (⟨#[60,61]⟩:BA))],[(.s (⟨#[62]⟩:BA))],[(.s (⟨#[62,61]⟩:BA))]]:RW).length∧0≤x0∧x0<((12:Nat):Int))) (.opt (([[(.s (⟨#[]⟩:BA))],[(.s (⟨#[43]⟩:BA))],[(.s (⟨#[45]⟩:BA))],[(.s (⟨#[42]⟩:BA))],[(.s (⟨#[47]⟩:BA))],[(.s (⟨#[38]⟩:BA))],[(.s (⟨#[61]⟩:BA))],[(.s (⟨#[60,62]⟩:BA))],[(.s (⟨#[60]⟩:BA))],[(.s (⟨#[60,61]⟩:BA))],[(.s (⟨#[62]⟩:BA))],[(.s (⟨#[62,61]⟩:BA))]]:RW)[(x0).toNat]?) fun e128=>(.opt (zj e128 0) fun y129=>(.done y129))) .fail)
def qCS:Nat→Int→Option (BA)
 |0,_=>none
 |n+1,x0=>(qGS n x0).run
theorem qIJ:∀n,Ok (Rn n) qNf (qCS n)
 |0=>ok0 fun _=>rfl
 |n+1=>stO (T:=qGS n) (by kernel_rfl) [] [] (fun _=>(by kernel_rfl)) fun _=>(by kernel_rfl)
def qMm:Sg:=⟨174,[(.c (.ptr 0 0 0 0 0)),aI],[[(0,⟨0,4,175,(.box [qS,qI,qB,(.own 0 1 1 0)])⟩),(1,⟨1,14,162,(.row [])⟩)]],⟨aI,[[(0,⟨0,4,175,(.box [qS,qI,qB,(.own 0 1 1 0)])⟩),(1,⟨1,14,162,(.row [])⟩)]],[]⟩⟩
def qDw (n:Nat) (v:Int×Nat×Int×RW×BA×Int×Bool×Nat×RW):Tr ((Int×Nat×Int×RW×BA×Int×Bool×Nat×RW)⊕((Int×BA×Int×Bool×Nat×RW)⊕(BA×Int×Bool×Nat×RW))):=(.ask ((decide (v.2.2.1<((v.2.1:Nat):Int)))) (.ask (decide (v.2.1=v.2.2.2.1.length∧0≤v.2.2.1∧v.2.2.1<((v.2.1:Nat):Int))) (.opt (v.2.2.2.1[(v.2.2.1).toNat]?) fun e123=>(.opt (zE .i64 e123 0) fun y124=>(.opt (qB4 n y124) fun r125=>(.ask ((r125==v.1)) (.ask (decide (v.2.1=v.2.2.2.1.length∧0≤v.2.2.1∧v.2.2.1<((v.2.1:Nat):Int))) (.opt (v.2.2.2.1[(v.2.2.1).toNat]?) fun e126=>(.opt (zE .i64 e126 0) fun y127=>(.opt (qCS n y127) fun r128=>(.opt (qAA n r128 v.2.2.2.2.1 v.2.2.2.2.2.1 v.2.2.2.2.2.2.1 v.2.2.2.2.2.2.2.1 v.2.2.2.2.2.2.2.2) fun r129=>(.ask (r129.1) (.ask (decide (v.2.1=v.2.2.2.1.length∧0≤v.2.2.1∧v.2.2.1<((v.2.1:Nat):Int))) (.opt (v.2.2.2.1[(v.2.2.1).toNat]?) fun e130=>(.opt (zE .i64 e130 0) fun y131=>(.done (.inr (.inl ((y131,r129.2.1,r129.2.2.1,r129.2.2.2.1,r129.2.2.2.2.1,r129.2.2.2.2.2))))))) .fail) (.done (.inl (v.1,v.2.1,(IntKind.i64.wrap (v.2.2.1+(1:Int))),v.2.2.2.1,r129.2.1,r129.2.2.1,r129.2.2.2.1,r129.2.2.2.2.1,r129.2.2.2.2.2)))))))) .fail) (.done (.inl (v.1,v.2.1,(IntKind.i64.wrap (v.2.2.1+(1:Int))),v.2.2.2.1,v.2.2.2.2.1,v.2.2.2.2.2.1,v.2.2.2.2.2.2.1,v.2.2.2.2.2.2.2.1,v.2.2.2.2.2.2.2.2))))))) .fail) (.done (.inr (.inr ((v.2.2.2.2.1,v.2.2.2.2.2.1,v.2.2.2.2.2.2.1,v.2.2.2.2.2.2.2.1,v.2.2.2.2.2.2.2.2))))))
def qIK (n:Nat) (x0:Int) (x1:BA) (x2:Int) (x3:Bool) (x4:Nat) (x5:RW):Tr (Int×BA×Int×Bool×Nat×RW):=(.opt (zC (qDw n) n (x0,(11:Nat),(0:Int),([[(.i .i64 (7:Int))],[(.i .i64 (9:Int))],[(.i .i64 (11:Int))],[(.i .i64 (6:Int))],[(.i .i64 (8:Int))],[(.i .i64 (10:Int))],[(.i .i64 (1:Int))],[(.i .i64 (2:Int))],[(.i .i64 (3:Int))],[(.i .i64 (4:Int))],[(.i .i64 (5:Int))]]:RW),x1,x2,x3,x4,x5)) fun r132=>(.alt r132 (fun r133=>(.done (r133.1,r133.2.1,r133.2.2.1,r133.2.2.2.1,r133.2.2.2.2.1,r133.2.2.2.2.2))) (fun r134=>(.done ((0:Int),r134.1,r134.2.1,r134.2.2.1,r134.2.2.2.1,r134.2.2.2.2)))))
def qDx:Nat→Int→BA→Int→Bool→Nat→RW→Option (Int×BA×Int×Bool×Nat×RW)
 |0,_,_,_,_,_,_=>none
 |n+1,x0,x1,x2,x3,x4,x5=>(qIK n x0 x1 x2 x3 x4 x5).run
abbrev qIL (n:Nat):List (Ent (Rn n)):= [en (qHd n),en (qIJ n),en (qDa n)]
def qKO (n:Nat):LEnt (KB 174) (Rn n) n:=lok (zT 174) 29 ⟨⟨[(0,(.c (.ptr 0 0 0 0 0))),(1,aI),(5,(.c (.own 1 448 0 0))),(6,aI)],[(448,⟨0,1,2,(.row [])⟩)],[[(0,⟨0,4,175,(.box [qS,qI,qB,(.own 0 1 1 0)])⟩),(1,⟨1,14,162,(.row [])⟩)]]⟩,[(.ret,⟨[(4,aI)],[],[[(0,⟨0,4,175,(.box [qS,qI,qB,(.own 0 1 1 0)])⟩),(1,⟨1,14,162,(.row [])⟩)]]⟩),(.exit 0,⟨[],[],[[(0,⟨0,4,175,(.box [qS,qI,qB,(.own 0 1 1 0)])⟩),(1,⟨1,14,162,(.row [])⟩)]]⟩)]⟩ (qDw n) (qIL n) [] fun _=>(by kernel_rfl)
theorem qL1:∀n,Ok (Rn n) qMm (qDx n)
 |0=>ok0 fun _=>rfl
 |n+1=>stO (T:=qIK n) (by kernel_rfl) (qIL n) [qKO n] (fun _=>(by kernel_rfl)) fun _=>(by kernel_rfl)
def qHe:Sg:=⟨134,[(.c (.ptr 0 0 0 0 0)),aI],[[(0,⟨0,4,175,(.box [qS,qI,qB,(.own 0 1 1 0)])⟩),(1,⟨1,14,162,(.row [])⟩)]],⟨aI,[[(0,⟨0,4,175,(.box [qS,qI,qB,(.own 0 1 1 0)])⟩),(1,⟨1,14,162,(.row [])⟩)]],[]⟩⟩
def qL2:Sg:=⟨173,[(.c (.ptr 0 0 0 0 0))],[[(0,⟨0,4,175,(.box [qS,qI,qB,(.own 0 1 1 0)])⟩),(1,⟨1,14,162,(.row [])⟩)]],⟨aI,[[(0,⟨0,4,175,(.box [qS,qI,qB,(.own 0 1 1 0)])⟩),(1,⟨1,14,162,(.row [])⟩)]],[]⟩⟩
def qK1:Sg:=⟨212,[(.c (.ptr 0 0 0 0 0)),aI],[[(0,⟨0,4,175,(.box [qS,qI,qB,(.own 0 1 1 0)])⟩),(1,⟨1,14,162,(.row [])⟩)]],⟨aI,[[(0,⟨0,4,175,(.box [qS,qI,qB,(.own 0 1 1 0)])⟩),(1,⟨1,14,162,(.row [])⟩)]],[]⟩⟩
def qL3:Sg:=⟨232,[(.c (.ptr 0 0 0 0 0))],[[(0,⟨0,4,175,(.box [qS,qI,qB,(.own 0 1 1 0)])⟩),(1,⟨1,14,162,(.row [])⟩)]],⟨aI,[[(0,⟨0,4,175,(.box [qS,qI,qB,(.own 0 1 1 0)])⟩),(1,⟨1,14,162,(.row [])⟩)]],[]⟩⟩
structure G_spec_l3Rd_row where
 spec_l3Rd_row:Int→BA→Int→Bool→Nat→RW→Option (Int×BA×Int×Bool×Nat×RW)
 spec_l3Rd_one:BA→Int→Bool→Nat→RW→Option (Int×BA×Int×Bool×Nat×RW)
 spec_l3Rd_call:Int→BA→Int→Bool→Nat→RW→Option (Int×BA×Int×Bool×Nat×RW)
 spec_l3Rd_arg:BA→Int→Bool→Nat→RW→Option (Int×BA×Int×Bool×Nat×RW)
def qDe (rec:G_spec_l3Rd_row) (n:Nat) (v:Int×Int×BA×Int×Bool×Nat×RW):Tr ((Int×Int×BA×Int×Bool×Nat×RW)⊕((Int×BA×Int×Bool×Nat×RW)⊕(Int×BA×Int×Bool×Nat×RW))):=(.ask ((!v.2.2.2.2.1)) (.opt (qDx n v.1 v.2.2.1 v.2.2.2.1 v.2.2.2.2.1 v.2.2.2.2.2.1 v.2.2.2.2.2.2) fun r123=>(.ask ((r123.1==(0:Int))) (.done (.inr (.inl ((v.2.1,r123.2.1,r123.2.2.1,r123.2.2.2.1,r123.2.2.2.2.1,r123.2.2.2.2.2))))) (.opt (rec.spec_l3Rd_row (IntKind.i64.wrap (v.1+(1:Int))) r123.2.1 r123.2.2.1 r123.2.2.2.1 r123.2.2.2.2.1 r123.2.2.2.2.2) fun r124=>(.ask (decide (2=([[(.i .i64 v.2.1)],[(.i .i64 r124.1)]]:RW).length)) (.opt (qo n (5:Int) r123.1 (0:Int) (0:Int) (⟨#[]⟩:BA) (0:Int) (0:Int) false false (0:Int) (0:Int) false false ([[(.i .i64 v.2.1)],[(.i .i64 r124.1)]]:RW) r124.2.1 r124.2.2.1 r124.2.2.2.1 r124.2.2.2.2.1 r124.2.2.2.2.2) fun r125=>(.done (.inl (v.1,r125.1,r125.2.1,r125.2.2.1,r125.2.2.2.1,r125.2.2.2.2.1,r125.2.2.2.2.2)))) .fail)))) (.done (.inr (.inr ((v.2.1,v.2.2.1,v.2.2.2.1,v.2.2.2.2.1,v.2.2.2.2.2.1,v.2.2.2.2.2.2))))))
def qHf (rec:G_spec_l3Rd_row) (n:Nat) (x0:Int) (x1:BA) (x2:Int) (x3:Bool) (x4:Nat) (x5:RW):Tr (Int×BA×Int×Bool×Nat×RW):=(.ask (x3) (.done ((0:Int),x1,x2,x3,x4,x5)) (.ask ((x0==(5:Int))) (.opt (rec.spec_l3Rd_one x1 x2 x3 x4 x5) fun r121=>(.done (r121.1,r121.2.1,r121.2.2.1,r121.2.2.2.1,r121.2.2.2.2.1,r121.2.2.2.2.2))) (.opt (rec.spec_l3Rd_row (IntKind.i64.wrap (x0+(1:Int))) x1 x2 x3 x4 x5) fun r122=>(.opt (zC (qDe rec n) n (x0,r122.1,r122.2.1,r122.2.2.1,r122.2.2.2.1,r122.2.2.2.2.1,r122.2.2.2.2.2)) fun r126=>(.alt r126 (fun r127=>(.done (r127.1,r127.2.1,r127.2.2.1,r127.2.2.2.1,r127.2.2.2.2.1,r127.2.2.2.2.2))) (fun r128=>(.done (r128.1,r128.2.1,r128.2.2.1,r128.2.2.2.1,r128.2.2.2.2.1,r128.2.2.2.2.2))))))))
def qCI (n:Nat) (v:Int×BA×Int×Bool×Nat×RW):Tr ((Int×BA×Int×Bool×Nat×RW)⊕((Int×BA×Int×Bool×Nat×RW)⊕(BA×Int×Bool×Nat×RW))):=(.ask ((decide (v.1≤(5:Int)))) (.opt (qBC n v.1) fun r70=>(.ask (decide (0≤(1:Int)∧(1:Int)≤(r70.size:Int)∧(r70.size:Int)≤r70.size)) (.ask ((decide ((IntKind.i64.wrap (v.2.2.1+((r70.extract ((1:Int)).toNat ((r70.size:Int)).toNat).size:Int)))≤(v.2.1.size:Int)))) (.ask (decide (0≤v.2.2.1∧v.2.2.1≤(IntKind.i64.wrap (v.2.2.1+((r70.extract ((1:Int)).toNat ((r70.size:Int)).toNat).size:Int)))∧(IntKind.i64.wrap (v.2.2.1+((r70.extract ((1:Int)).toNat ((r70.size:Int)).toNat).size:Int)))≤v.2.1.size)) (.ask (((v.2.1.extract (v.2.2.1).toNat ((IntKind.i64.wrap (v.2.2.1+((r70.extract ((1:Int)).toNat ((r70.size:Int)).toNat).size:Int)))).toNat).toList==(r70.extract ((1:Int)).toNat ((r70.size:Int)).toNat).toList)) (.opt (qCe n v.1) fun r71=>(.opt (qo n (1:Int) (0:Int) r71.1 r71.2.1 r71.2.2 (0:Int) (0:Int) false false (0:Int) (0:Int) false false ([]:RW) v.2.1 (IntKind.i64.wrap (v.2.2.1+((r70.extract ((1:Int)).toNat ((r70.size:Int)).toNat).size:Int))) v.2.2.2.1 v.2.2.2.2.1 v.2.2.2.2.2) fun r72=>(.done (.inr (.inl ((r72.1,r72.2.1,r72.2.2.1,r72.2.2.2.1,r72.2.2.2.2.1,r72.2.2.2.2.2))))))) (.done (.inl ((IntKind.i64.wrap (v.1+(1:Int))),v.2.1,v.2.2.1,v.2.2.2.1,v.2.2.2.2.1,v.2.2.2.2.2)))) .fail) (.done (.inl ((IntKind.i64.wrap (v.1+(1:Int))),v.2.1,v.2.2.1,v.2.2.2.1,v.2.2.2.2.1,v.2.2.2.2.2)))) .fail)) (.done (.inr (.inr ((v.2.1,v.2.2.1,v.2.2.2.1,v.2.2.2.2.1,v.2.2.2.2.2))))))
def qCq (rec:G_spec_l3Rd_row) (n:Nat) (v:BA×Int×BA×Int×Bool×Nat×RW):Tr ((BA×Int×BA×Int×Bool×Nat×RW)⊕((Int×BA×Int×Bool×Nat×RW)⊕(BA×BA×Int×Bool×Nat×RW))):=(.ask ((decide (v.2.1≤(10:Int)))) (.opt (qCG n v.2.1) fun r88=>(.ask ((r88.toList==v.1.toList)) (.opt (qAA n (⟨#[40]⟩:BA) v.2.2.1 v.2.2.2.1 v.2.2.2.2.1 v.2.2.2.2.2.1 v.2.2.2.2.2.2) fun r89=>(.ask (r89.1) (.opt (rec.spec_l3Rd_call v.2.1 r89.2.1 r89.2.2.1 r89.2.2.2.1 r89.2.2.2.2.1 r89.2.2.2.2.2) fun r90=>(.done (.inr (.inl ((r90.1,r90.2.1,r90.2.2.1,r90.2.2.2.1,r90.2.2.2.2.1,r90.2.2.2.2.2)))))) (.done (.inl (v.1,(IntKind.i64.wrap (v.2.1+(1:Int))),r89.2.1,r89.2.2.1,r89.2.2.2.1,r89.2.2.2.2.1,r89.2.2.2.2.2))))) (.done (.inl (v.1,(IntKind.i64.wrap (v.2.1+(1:Int))),v.2.2.1,v.2.2.2.1,v.2.2.2.2.1,v.2.2.2.2.2.1,v.2.2.2.2.2.2))))) (.done (.inr (.inr ((v.1,v.2.2.1,v.2.2.2.1,v.2.2.2.2.1,v.2.2.2.2.2.1,v.2.2.2.2.2.2))))))
def qHg (rec:G_spec_l3Rd_row) (n:Nat) (x0:BA) (x1:Int) (x2:Bool) (x3:Nat) (x4:RW):Tr (Int×BA×Int×Bool×Nat×RW):=(.opt (qAA n (⟨#[45]⟩:BA) x0 x1 x2 x3 x4) fun r42=>(.ask (r42.1) (.opt (rec.spec_l3Rd_row (5:Int) r42.2.1 r42.2.2.1 r42.2.2.2.1 r42.2.2.2.2.1 r42.2.2.2.2.2) fun r43=>(.ask (decide (1=([[(.i .i64 r43.1)]]:RW).length)) (.opt (qo n (4:Int) (0:Int) (0:Int) (0:Int) (⟨#[]⟩:BA) (0:Int) (0:Int) false false (0:Int) (0:Int) false false ([[(.i .i64 r43.1)]]:RW) r43.2.1 r43.2.2.1 r43.2.2.2.1 r43.2.2.2.2.1 r43.2.2.2.2.2) fun r56=>(.done (r56.1,r56.2.1,r56.2.2.1,r56.2.2.2.1,r56.2.2.2.2.1,r56.2.2.2.2.2))) .fail)) (.opt (qAA n (⟨#[40]⟩:BA) r42.2.1 r42.2.2.1 r42.2.2.2.1 r42.2.2.2.2.1 r42.2.2.2.2.2) fun r57=>(.ask (r57.1) (.opt (rec.spec_l3Rd_row (1:Int) r57.2.1 r57.2.2.1 r57.2.2.2.1 r57.2.2.2.2.1 r57.2.2.2.2.2) fun r58=>(.opt (qAA n (⟨#[41]⟩:BA) r58.2.1 r58.2.2.1 r58.2.2.2.1 r58.2.2.2.2.1 r58.2.2.2.2.2) fun r59=>(.ask ((!r59.1)) (.done (r58.1,r59.2.1,r59.2.2.1,true,r59.2.2.2.2.1,r59.2.2.2.2.2)) (.done (r58.1,r59.2.1,r59.2.2.1,r59.2.2.2.1,r59.2.2.2.2.1,r59.2.2.2.2.2))))) (.opt (qAA n (⟨#[34]⟩:BA) r57.2.1 r57.2.2.1 r57.2.2.2.1 r57.2.2.2.2.1 r57.2.2.2.2.2) fun r60=>(.ask (r60.1) (.opt (qEK n r60.2.1 r60.2.2.1 r60.2.2.2.1 r60.2.2.2.2.1 r60.2.2.2.2.2) fun r68=>(.done (r68.1,r68.2.1,r68.2.2.1,r68.2.2.2.1,r68.2.2.2.2.1,r68.2.2.2.2.2))) (.opt (qAA n (⟨#[35]⟩:BA) r60.2.1 r60.2.2.1 r60.2.2.2.1 r60.2.2.2.2.1 r60.2.2.2.2.2) fun r69=>(.ask (r69.1) (.opt (zC (qCI n) n ((1:Int),r69.2.1,r69.2.2.1,r69.2.2.2.1,r69.2.2.2.2.1,r69.2.2.2.2.2)) fun r73=>(.alt r73 (fun r74=>(.done (r74.1,r74.2.1,r74.2.2.1,r74.2.2.2.1,r74.2.2.2.2.1,r74.2.2.2.2.2))) (fun r75=>(.done ((0:Int),r75.1,r75.2.1,true,r75.2.2.2.1,r75.2.2.2.2))))) (.opt (qCf n r69.2.1 r69.2.2.1 r69.2.2.2.1 r69.2.2.2.2.1 r69.2.2.2.2.2) fun r87=>(.opt (zC (qCq rec n) n (r87.1,(1:Int),r87.2.1,r87.2.2.1,r87.2.2.2.1,r87.2.2.2.2.1,r87.2.2.2.2.2)) fun r91=>(.alt r91 (fun r92=>(.done (r92.1,r92.2.1,r92.2.2.1,r92.2.2.2.1,r92.2.2.2.2.1,r92.2.2.2.2.2))) (fun r93=>(.opt (qAD n r93.1) fun r115=>(.ask (r115.2.2.2) (.ask ((!(r93.1.toList==(⟨#[]⟩:BA).toList))) (.opt (qo n (1:Int) (0:Int) r115.1 r115.2.1 r115.2.2.1 (0:Int) (0:Int) false false (0:Int) (0:Int) false false ([]:RW) r93.2.1 r93.2.2.1 r93.2.2.2.1 r93.2.2.2.2.1 r93.2.2.2.2.2) fun r116=>(.done (r116.1,r116.2.1,r116.2.2.1,r116.2.2.2.1,r116.2.2.2.2.1,r116.2.2.2.2.2))) (.opt (qAh n r93.1) fun r117=>(.ask ((!r117.2.2.2.2)) (.done ((0:Int),r93.2.1,r93.2.2.1,true,r93.2.2.2.2.1,r93.2.2.2.2.2)) (.opt (qo n (2:Int) (0:Int) (0:Int) (0:Int) (⟨#[]⟩:BA) r117.1 r117.2.1 r117.2.2.1 r117.2.2.2.1 (0:Int) (0:Int) false false ([]:RW) r93.2.1 r93.2.2.1 r93.2.2.2.1 r93.2.2.2.2.1 r93.2.2.2.2.2) fun r118=>(.done (r118.1,r118.2.1,r118.2.2.1,r118.2.2.2.1,r118.2.2.2.2.1,r118.2.2.2.2.2)))))) (.opt (qAh n r93.1) fun r119=>(.ask ((!r119.2.2.2.2)) (.done ((0:Int),r93.2.1,r93.2.2.1,true,r93.2.2.2.2.1,r93.2.2.2.2.2)) (.opt (qo n (2:Int) (0:Int) (0:Int) (0:Int) (⟨#[]⟩:BA) r119.1 r119.2.1 r119.2.2.1 r119.2.2.2.1 (0:Int) (0:Int) false false ([]:RW) r93.2.1 r93.2.2.1 r93.2.2.2.1 r93.2.2.2.2.1 r93.2.2.2.2.2) fun r120=>(.done (r120.1,r120.2.1,r120.2.2.1,r120.2.2.2.1,r120.2.2.2.2.1,r120.2.2.2.2.2)))))))))))))))))))
def qDP (rec:G_spec_l3Rd_row) (n:Nat) (v:Int×Nat×RW×BA×Int×Bool×Nat×RW):Tr ((Int×Nat×RW×BA×Int×Bool×Nat×RW)⊕((Int×BA×Int×Bool×Nat×RW)⊕(BA×Int×Bool×Nat×RW))):=(.ask ((!v.2.2.2.2.2.1)) (.opt (rec.spec_l3Rd_arg v.2.2.2.1 v.2.2.2.2.1 v.2.2.2.2.2.1 v.2.2.2.2.2.2.1 v.2.2.2.2.2.2.2) fun r92=>(.ask (decide (1=([[(.i .i64 r92.1)]]:RW).length)) (.ask (decide (v.2.1=v.2.2.1.length∧0<1∧0<8∧(v.2.1+([[(.i .i64 r92.1)]]:RW).length)*8≤140737488355328∧([[(.i .i64 r92.1)]]:RW).all (fun e=>e.length==1)=true)) (.opt (qAA n (⟨#[41]⟩:BA) r92.2.1 r92.2.2.1 r92.2.2.2.1 r92.2.2.2.2.1 r92.2.2.2.2.2) fun r93=>(.ask (r93.1) (.ask (decide ((v.2.1+1)=(v.2.2.1++([[(.i .i64 r92.1)]]:RW)).length)) (.opt (qo n (6:Int) v.1 (0:Int) (0:Int) (⟨#[]⟩:BA) (0:Int) (0:Int) false false (0:Int) (0:Int) false false (v.2.2.1++([[(.i .i64 r92.1)]]:RW)) r93.2.1 r93.2.2.1 r93.2.2.2.1 r93.2.2.2.2.1 r93.2.2.2.2.2) fun r94=>(.done (.inr (.inl ((r94.1,r94.2.1,r94.2.2.1,r94.2.2.2.1,r94.2.2.2.2.1,r94.2.2.2.2.2)))))) .fail) (.opt (qAA n (⟨#[44]⟩:BA) r93.2.1 r93.2.2.1 r93.2.2.2.1 r93.2.2.2.2.1 r93.2.2.2.2.2) fun r95=>(.ask ((!r95.1)) (.done (.inl (v.1,(v.2.1+1),(v.2.2.1++([[(.i .i64 r92.1)]]:RW)),r95.2.1,r95.2.2.1,true,r95.2.2.2.2.1,r95.2.2.2.2.2))) (.done (.inl (v.1,(v.2.1+1),(v.2.2.1++([[(.i .i64 r92.1)]]:RW)),r95.2.1,r95.2.2.1,r95.2.2.2.1,r95.2.2.2.2.1,r95.2.2.2.2.2))))))) .fail) .fail)) (.done (.inr (.inr ((v.2.2.2.1,v.2.2.2.2.1,v.2.2.2.2.2.1,v.2.2.2.2.2.2.1,v.2.2.2.2.2.2.2))))))
def qGt (rec:G_spec_l3Rd_row) (n:Nat) (x0:Int) (x1:BA) (x2:Int) (x3:Bool) (x4:Nat) (x5:RW):Tr (Int×BA×Int×Bool×Nat×RW):=(.opt (zC (qDP rec n) n (x0,(0:Nat),([]:RW),x1,x2,x3,x4,x5)) fun r96=>(.alt r96 (fun r97=>(.done (r97.1,r97.2.1,r97.2.2.1,r97.2.2.2.1,r97.2.2.2.2.1,r97.2.2.2.2.2))) (fun r98=>(.done ((0:Int),r98.1,r98.2.1,r98.2.2.1,r98.2.2.2.1,r98.2.2.2.2)))))
def qHh (rec:G_spec_l3Rd_row) (n:Nat) (x0:BA) (x1:Int) (x2:Bool) (x3:Nat) (x4:RW):Tr (Int×BA×Int×Bool×Nat×RW):=(.opt (qBS n x0 x1 x2 x3 x4) fun r92=>(.opt (qCf n r92.1 r92.2.1 r92.2.2.1 r92.2.2.2.1 r92.2.2.2.2) fun r93=>(.opt (qAh n r93.1) fun r138=>(.ask (r138.2.2.2.2) (.opt (qAA n (⟨#[58]⟩:BA) r93.2.1 r93.2.2.1 r93.2.2.2.1 r93.2.2.2.2.1 r93.2.2.2.2.2) fun r139=>(.ask (r139.1) (.opt (qBS n r139.2.1 r139.2.2.1 r139.2.2.2.1 r139.2.2.2.2.1 r139.2.2.2.2.2) fun r140=>(.opt (qCf n r140.1 r140.2.1 r140.2.2.1 r140.2.2.2.1 r140.2.2.2.2) fun r141=>(.opt (qAh n r141.1) fun r142=>(.ask ((!r142.2.2.2.2)) (.done ((0:Int),r141.2.1,r141.2.2.1,true,r141.2.2.2.2.1,r141.2.2.2.2.2)) (.opt (qo n (3:Int) (0:Int) (0:Int) (0:Int) (⟨#[]⟩:BA) r138.1 r138.2.1 r138.2.2.1 r138.2.2.2.1 r142.1 r142.2.1 r142.2.2.1 r142.2.2.2.1 ([]:RW) r141.2.1 r141.2.2.1 r141.2.2.2.1 r141.2.2.2.2.1 r141.2.2.2.2.2) fun r143=>(.done (r143.1,r143.2.1,r143.2.2.1,r143.2.2.2.1,r143.2.2.2.2.1,r143.2.2.2.2.2))))))) (.opt (rec.spec_l3Rd_row (1:Int) r139.2.1 r92.2.1 r139.2.2.2.1 r139.2.2.2.2.1 r139.2.2.2.2.2) fun r144=>(.done (r144.1,r144.2.1,r144.2.2.1,r144.2.2.2.1,r144.2.2.2.2.1,r144.2.2.2.2.2))))) (.opt (rec.spec_l3Rd_row (1:Int) r93.2.1 r92.2.1 r93.2.2.2.1 r93.2.2.2.2.1 r93.2.2.2.2.2) fun r145=>(.done (r145.1,r145.2.1,r145.2.2.1,r145.2.2.2.1,r145.2.2.2.2.1,r145.2.2.2.2.2)))))))
def qc:Nat→G_spec_l3Rd_row
 |0=>⟨fun _ _ _ _ _ _=>none,fun _ _ _ _ _=>none,fun _ _ _ _ _ _=>none,fun _ _ _ _ _=>none⟩
 |n+1=>⟨fun x0 x1 x2 x3 x4 x5=>(qHf (qc n) n x0 x1 x2 x3 x4 x5).run,fun x0 x1 x2 x3 x4=>(qHg (qc n) n x0 x1 x2 x3 x4).run,fun x0 x1 x2 x3 x4 x5=>(qGt (qc n) n x0 x1 x2 x3 x4 x5).run,fun x0 x1 x2 x3 x4=>(qHh (qc n) n x0 x1 x2 x3 x4).run⟩
def qDc (n:Nat) (x0:Int) (x1:BA) (x2:Int) (x3:Bool) (x4:Nat) (x5:RW):Option (Int×BA×Int×Bool×Nat×RW):=(qc n).spec_l3Rd_row x0 x1 x2 x3 x4 x5
def qHi (n:Nat) (x0:BA) (x1:Int) (x2:Bool) (x3:Nat) (x4:RW):Option (Int×BA×Int×Bool×Nat×RW):=(qc n).spec_l3Rd_one x0 x1 x2 x3 x4
def qGu (n:Nat) (x0:Int) (x1:BA) (x2:Int) (x3:Bool) (x4:Nat) (x5:RW):Option (Int×BA×Int×Bool×Nat×RW):=(qc n).spec_l3Rd_call x0 x1 x2 x3 x4 x5
def qHj (n:Nat) (x0:BA) (x1:Int) (x2:Bool) (x3:Nat) (x4:RW):Option (Int×BA×Int×Bool×Nat×RW):=(qc n).spec_l3Rd_arg x0 x1 x2 x3 x4
def qAt (n:Nat):Prop:=
 Ok (Rn n) qHe (qDc n)∧
 Ok (Rn n) qL2 (qHi n)∧
 Ok (Rn n) qK1 (qGu n)∧
 Ok (Rn n) qL3 (qHj n)
abbrev qHk (n:Nat) (ih:qAt n):List (Ent (Rn n)):= [en ih.2.1,en ih.1,en (qL1 n),en (qCd n)]
def qJl (n:Nat) (ih:qAt n):LEnt (KB 134) (Rn n) n:=lok (zT 134) 62 ⟨⟨[(0,(.c (.ptr 0 0 0 0 0))),(1,aI),(5,aI)],[],[[(0,⟨0,4,175,(.box [qS,qI,qB,(.own 0 1 1 0)])⟩),(1,⟨1,14,162,(.row [])⟩)]]⟩,[(.ret,⟨[(4,aI)],[],[[(0,⟨0,4,175,(.box [qS,qI,qB,(.own 0 1 1 0)])⟩),(1,⟨1,14,162,(.row [])⟩)]]⟩),(.exit 0,⟨[(5,aI)],[],[[(0,⟨0,4,175,(.box [qS,qI,qB,(.own 0 1 1 0)])⟩),(1,⟨1,14,162,(.row [])⟩)]]⟩)]⟩ (qDe (qc n) n) (qHk n ih) [] fun _=>(by kernel_rfl)
abbrev qEs (n:Nat) (ih:qAt n):List (Ent (Rn n)):= [en (qDa n),en ih.1,en (qCd n),en (qKK n),en (qFK n),en (qLy n),en (qF3 n),en (qKL n),en ih.2.2.1,en (qF5 n),en (qF4 n)]
def qIM (n:Nat) (ih:qAt n):LEnt (KB 173) (Rn n) n:=lok (zT 173) 7161 ⟨⟨[(0,(.c (.ptr 0 0 0 0 0))),(5,aI)],[],[[(0,⟨0,4,175,(.box [qS,qI,qB,(.own 0 1 1 0)])⟩),(1,⟨1,14,162,(.row [])⟩)]]⟩,[(.ret,⟨[(2,aI)],[],[[(0,⟨0,4,175,(.box [qS,qI,qB,(.own 0 1 1 0)])⟩),(1,⟨1,14,162,(.row [])⟩)]]⟩),(.exit 1,⟨[(0,(.c (.ptr 0 0 0 0 0)))],[],[[(0,⟨0,4,175,(.box [qS,qI,qB,(.own 0 1 1 0)])⟩),(1,⟨1,14,162,(.row [])⟩)]]⟩)]⟩ (qCI n) (qEs n ih) [] fun _=>(by kernel_rfl)
def qJm (n:Nat) (ih:qAt n):LEnt (KB 173) (Rn n) n:=lok (zT 173) 61 ⟨⟨[(0,(.c (.ptr 0 0 0 0 0))),(7,aS),(8,aI)],[],[[(0,⟨0,4,175,(.box [qS,qI,qB,(.own 0 1 1 0)])⟩),(1,⟨1,14,162,(.row [])⟩)]]⟩,[(.ret,⟨[(2,aI)],[],[[(0,⟨0,4,175,(.box [qS,qI,qB,(.own 0 1 1 0)])⟩),(1,⟨1,14,162,(.row [])⟩)]]⟩),(.exit 3,⟨[(0,(.c (.ptr 0 0 0 0 0))),(7,aS)],[],[[(0,⟨0,4,175,(.box [qS,qI,qB,(.own 0 1 1 0)])⟩),(1,⟨1,14,162,(.row [])⟩)]]⟩)]⟩ (qCq (qc n) n) (qEs n ih) [] fun _=>(by kernel_rfl)
abbrev qGv (n:Nat) (ih:qAt n):List (Ent (Rn n)):= [en ih.2.2.2,en (qDa n),en (qCd n)]
def qJD (n:Nat) (ih:qAt n):LEnt (KB 212) (Rn n) n:=lok (zT 212) 14 ⟨⟨[(0,(.c (.ptr 0 0 0 0 0))),(1,aI),(5,(.c (.own 1 384 0 0)))],[(384,⟨0,1,2,(.row [])⟩)],[[(0,⟨0,4,175,(.box [qS,qI,qB,(.own 0 1 1 0)])⟩),(1,⟨1,14,162,(.row [])⟩)]]⟩,[(.ret,⟨[(4,aI)],[],[[(0,⟨0,4,175,(.box [qS,qI,qB,(.own 0 1 1 0)])⟩),(1,⟨1,14,162,(.row [])⟩)]]⟩),(.exit 0,⟨[],[],[[(0,⟨0,4,175,(.box [qS,qI,qB,(.own 0 1 1 0)])⟩),(1,⟨1,14,162,(.row [])⟩)]]⟩)]⟩ (qDP (qc n) n) (qGv n ih) [] fun _=>(by kernel_rfl)
abbrev qL4 (n:Nat) (ih:qAt n):List (Ent (Rn n)):= [en (qDN n),en (qF3 n),en (qF4 n),en (qDa n),en (qCd n),en ih.1]
theorem qAu:∀n,qAt n
 |0=>⟨ok0 fun _=>rfl,ok0 fun _=>rfl,ok0 fun _=>rfl,ok0 fun _=>rfl⟩
 |n+1=>⟨stO (T:=qHf (qc n) n) (by kernel_rfl) (qHk n (qAu n)) [qJl n (qAu n)] (fun _=>(by kernel_rfl)) fun _=>(by kernel_rfl),stO (T:=qHg (qc n) n) (by kernel_rfl) (qEs n (qAu n)) [qIM n (qAu n),qJm n (qAu n)] (fun _=>(by kernel_rfl)) fun _=>(by kernel_rfl),stO (T:=qGt (qc n) n) (by kernel_rfl) (qGv n (qAu n)) [qJD n (qAu n)] (fun _=>(by kernel_rfl)) fun _=>(by kernel_rfl),stO (T:=qHh (qc n) n) (by kernel_rfl) (qL4 n (qAu n)) [] (fun _=>(by kernel_rfl)) fun _=>(by kernel_rfl)⟩
theorem qK2 (n:Nat):Ok (Rn n) qHe (qDc n):=(qAu n).1
def qGT:Sg:=⟨177,[aL,aI],[],⟨aI,[],[]⟩⟩
def qAv (rec:RW→Int→Option (Int)) (n:Nat) (v:RW×Int×Int×Int):Tr ((RW×Int×Int×Int)⊕((Int)⊕(Int))):=(.ask ((decide (v.2.2.2≥(0:Int)))) (.ask ((decide (v.2.2.1<(0:Int)))) (.done (.inr (.inl ((-1:Int))))) (.ask (decide (0≤v.2.1∧v.2.1<v.1.length)) (.opt (v.1[(v.2.1).toNat]?) fun e166=>(.ask (decide (e166.length=14)) (.opt (zAp e166 13) fun y167=>(.ask (decide (0≤v.2.2.2∧v.2.2.2<y167.length)) (.opt (y167[(v.2.2.2).toNat]?) fun e168=>(.ask (decide (e168.length=1)) (.opt (zE .i64 e168 0) fun y169=>(.ask ((y169 !=v.2.2.1)) (.done (.inr (.inl ((-1:Int))))) (.opt (rec v.1 v.2.2.1) fun r170=>(.ask ((decide (r170<(0:Int)))) (.done (.inr (.inl ((-1:Int))))) (.done (.inl (v.1,v.2.1,(IntKind.i64.wrap (r170-(1:Int))),(IntKind.i64.wrap (v.2.2.2-(1:Int)))))))))) .fail)) .fail)) .fail)) .fail)) (.done (.inr (.inr (v.2.2.1)))))
def qGU (rec:RW→Int→Option (Int)) (n:Nat) (x0:RW) (x1:Int):Tr (Int):=(.ask (decide (0≤x1∧x1<x0.length)) (.opt (x0[(x1).toNat]?) fun e164=>(.ask (decide (e164.length=14)) (.opt (zAp e164 13) fun y165=>(.opt (zC (qAv rec n) n (x0,x1,(IntKind.i64.wrap (x1-(1:Int))),(IntKind.i64.wrap ((y165.length:Int)-(1:Int))))) fun r171=>(.alt r171 (fun r172=>(.done r172)) (fun r173=>(.done (IntKind.i64.wrap (r173+(1:Int)))))))) .fail)) .fail)
def qAi:Nat→RW→Int→Option (Int)
 |0,_,_=>none
 |n+1,x0,x1=>(qGU (qAi n) n x0 x1).run
abbrev qJW (n:Nat) (ih:Ok (Rn n) qGT (qAi n)):List (Ent (Rn n)):= [en ih]
def qK3 (n:Nat) (ih:Ok (Rn n) qGT (qAi n)):LEnt (KB 177) (Rn n) n:=lok (zT 177) 29 ⟨⟨[(0,aL),(1,aI),(5,aI),(6,aI)],[],[]⟩,[(.ret,⟨[(4,aI)],[],[]⟩),(.exit 0,⟨[(5,aI)],[],[]⟩)]⟩ (qAv (qAi n) n) (qJW n ih) [] fun _=>(by kernel_rfl)
theorem qFO:∀n,Ok (Rn n) qGT (qAi n)
 |0=>ok0 fun _=>rfl
 |n+1=>stO (T:=qGU (qAi n) n) (by kernel_rfl) (qJW n (qFO n)) [qK3 n (qFO n)] (fun _=>(by kernel_rfl)) fun _=>(by kernel_rfl)
def qGV:Sg:=⟨178,[aL,aI],[],⟨aI,[],[]⟩⟩
def qCh (rec:RW→Int→Option (Int)) (n:Nat) (v:RW×Int×Int×Int):Tr ((RW×Int×Int×Int)⊕((Int))):=(.ask (decide (0≤v.2.1∧v.2.1<v.1.length)) (.opt (v.1[(v.2.1).toNat]?) fun e177=>(.ask (decide (e177.length=14)) (.opt (zAp e177 13) fun y178=>(.ask ((decide (v.2.2.2<(y178.length:Int)))) (.ask (decide (0≤v.2.1∧v.2.1<v.1.length)) (.opt (v.1[(v.2.1).toNat]?) fun e179=>(.ask (decide (e179.length=14)) (.opt (zAp e179 13) fun y180=>(.ask (decide (0≤v.2.2.2∧v.2.2.2<y180.length)) (.opt (y180[(v.2.2.2).toNat]?) fun e181=>(.ask (decide (e181.length=1)) (.opt (zE .i64 e181 0) fun y182=>(.opt (rec v.1 y182) fun r183=>(.done (.inl (v.1,v.2.1,(if r183>v.2.2.1 then r183 else v.2.2.1),(IntKind.i64.wrap (v.2.2.2+(1:Int)))))))) .fail)) .fail)) .fail)) .fail) (.done (.inr (v.2.2.1))))) .fail)) .fail)
def qGW (rec:RW→Int→Option (Int)) (n:Nat) (x0:RW) (x1:Int):Tr (Int):=(.opt (zC (qCh rec n) n (x0,x1,(0:Int),(0:Int))) fun r184=>(.done (IntKind.i64.wrap (r184+(1:Int)))))
def qAj:Nat→RW→Int→Option (Int)
 |0,_,_=>none
 |n+1,x0,x1=>(qGW (qAj n) n x0 x1).run
abbrev qJX (n:Nat) (ih:Ok (Rn n) qGV (qAj n)):List (Ent (Rn n)):= [en ih]
def qK4 (n:Nat) (ih:Ok (Rn n) qGV (qAj n)):LEnt (KB 178) (Rn n) n:=lok (zT 178) 29 ⟨⟨[(0,aL),(1,aI),(5,aI),(6,aI)],[],[]⟩,[(.exit 0,⟨[(5,aI)],[],[]⟩)]⟩ (qCh (qAj n) n) (qJX n ih) [] fun _=>(by kernel_rfl)
theorem qFP:∀n,Ok (Rn n) qGV (qAj n)
 |0=>ok0 fun _=>rfl
 |n+1=>stO (T:=qGW (qAj n) n) (by kernel_rfl) (qJX n (qFP n)) [qK4 n (qFP n)] (fun _=>(by kernel_rfl)) fun _=>(by kernel_rfl)
def qK5:Sg:=⟨136,[aL],[],⟨aB,[],[]⟩⟩
def qAc (n:Nat) (v:RW×Int×Int):Tr ((RW×Int×Int)⊕((Bool)⊕(RW×Int))):=(.ask (decide (0≤v.2.1∧v.2.1<v.1.length)) (.opt (v.1[(v.2.1).toNat]?) fun e147=>(.ask (decide (e147.length=14)) (.opt (zAp e147 13) fun y148=>(.ask ((decide (v.2.2<(y148.length:Int)))) (.ask (decide (0≤v.2.1∧v.2.1<v.1.length)) (.opt (v.1[(v.2.1).toNat]?) fun e149=>(.ask (decide (e149.length=14)) (.opt (zAp e149 13) fun y150=>(.ask (decide (0≤v.2.2∧v.2.2<y150.length)) (.opt (y150[(v.2.2).toNat]?) fun e151=>(.ask (decide (e151.length=1)) (.opt (zE .i64 e151 0) fun y152=>(.opt (qAY n y152 (0:Int) (IntKind.i64.wrap (v.2.1-(1:Int)))) fun r153=>(.ask ((!r153)) (.done (.inr (.inl (false)))) (.ask (decide (0≤y152∧y152<v.1.length)) (.opt (v.1[(y152).toNat]?) fun e154=>(.ask (decide (e154.length=14)) (.opt (zE .i64 e154 0) fun y155=>(.ask ((y155==(3:Int))) (.ask (decide (0≤v.2.1∧v.2.1<v.1.length)) (.opt (v.1[(v.2.1).toNat]?) fun e156=>(.ask (decide (e156.length=14)) (.opt (zE .i64 e156 0) fun y157=>(.ask ((y157 !=(6:Int))) (.done (.inr (.inl (false)))) (.done (.inl (v.1,v.2.1,(IntKind.i64.wrap (v.2.2+(1:Int)))))))) .fail)) .fail) (.done (.inl (v.1,v.2.1,(IntKind.i64.wrap (v.2.2+(1:Int)))))))) .fail)) .fail)))) .fail)) .fail)) .fail)) .fail) (.done (.inr (.inr ((v.1,v.2.1))))))) .fail)) .fail)
def qAz (n:Nat) (v:RW×Int):Tr ((RW×Int)⊕((Bool)⊕(RW))):=(.ask ((decide (v.2<(v.1.length:Int)))) (.ask (decide (0≤v.2∧v.2<v.1.length)) (.opt (v.1[(v.2).toNat]?) fun e131=>(.ask (decide (e131.length=14)) (.opt (zE .i64 e131 0) fun y132=>(.opt (zE .i64 e131 1) fun y133=>(.opt (zE .i64 e131 2) fun y134=>(.opt (zE .i64 e131 3) fun y135=>(.opt (zj e131 4) fun y136=>(.opt (zE .i64 e131 5) fun y137=>(.opt (zE .i64 e131 6) fun y138=>(.opt (zAD e131 7) fun y139=>(.opt (zAD e131 8) fun y140=>(.opt (zE .i64 e131 9) fun y141=>(.opt (zE .i64 e131 10) fun y142=>(.opt (zAD e131 11) fun y143=>(.opt (zAD e131 12) fun y144=>(.opt (zAp e131 13) fun y145=>(.opt (qBm n y132 y133 y134 y135 y136 y137 y138 y139 y140 y141 y142 y143 y144 y145) fun r146=>(.ask ((!r146)) (.done (.inr (.inl (false)))) (.opt (zC (qAc n) n (v.1,v.2,(0:Int))) fun r158=>(.alt r158 (fun r159=>(.done (.inr (.inl (r159))))) (fun r160=>(.done (.inl (r160.1,(IntKind.i64.wrap (r160.2+(1:Int))))))))))))))))))))))))) .fail)) .fail) (.done (.inr (.inr (v.1)))))
def qCi (n:Nat) (x0:RW):Tr (Bool):=(.ask ((decide ((x0.length:Int)<(1:Int)))) (.done false) (.ask ((decide ((x0.length:Int)>(60:Int)))) (.done false) (.opt (zC (qAz n) n (x0,(0:Int))) fun r161=>(.alt r161 (fun r162=>(.done r162)) (fun r163=>(.opt (qAi n r163 (IntKind.i64.wrap ((r163.length:Int)-(1:Int)))) fun r174=>(.ask ((r174==(0:Int))) (.ask (decide (0≤(IntKind.i64.wrap ((r163.length:Int)-(1:Int)))∧(IntKind.i64.wrap ((r163.length:Int)-(1:Int)))<r163.length)) (.opt (r163[((IntKind.i64.wrap ((r163.length:Int)-(1:Int)))).toNat]?) fun e175=>(.ask (decide (e175.length=14)) (.opt (zE .i64 e175 0) fun y176=>(.ask ((y176 !=(3:Int))) (.opt (qAj n r163 (IntKind.i64.wrap ((r163.length:Int)-(1:Int)))) fun r185=>(.done (decide (r185≤(12:Int))))) (.done false))) .fail)) .fail) (.done false))))))))
def qBT:Nat→RW→Option (Bool)
 |0,_=>none
 |n+1,x0=>(qCi n x0).run
abbrev qEL (n:Nat):List (Ent (Rn n)):= [en (qGn n),en (qDF n),en (qFO n),en (qFP n)]
def qIN (n:Nat):LEnt (lb 29 (KB 136)) (Rn n) n:=lok (Uniq.pick (zT 136) 29) 475 ⟨⟨[(0,aL),(3,aI),(4,aI)],[],[]⟩,[(.ret,⟨[(2,aB)],[],[]⟩),(.exit 2,⟨[(0,aL),(3,aI)],[],[]⟩)]⟩ (qAc n) (qEL n) [] fun _=>(by kernel_rfl)
def qJE (n:Nat):LEnt (KB 136) (Rn n) n:=lok (zT 136) 29 ⟨⟨[(0,aL),(3,aI)],[],[]⟩,[(.ret,⟨[(2,aB)],[],[]⟩),(.exit 0,⟨[(0,aL)],[],[]⟩)]⟩ (qAz n) (qEL n) [qIN n] fun _=>(by kernel_rfl)
theorem qF6:∀n,Ok (Rn n) qK5 (qBT n)
 |0=>ok0 fun _=>rfl
 |n+1=>stO (T:=qCi n) (by kernel_rfl) (qEL n) [qJE n] (fun _=>(by kernel_rfl)) fun _=>(by kernel_rfl)
def qJn:Sg:=⟨93,[aS],[],⟨(.tup [(false,[qL]),(false,[qB])]),[],[]⟩⟩
def qFQ (n:Nat) (x0:BA):Tr (RW×Bool):=(.opt (qB2 n x0) fun r38=>(.ask ((!r38)) (.ask (decide (0=([]:RW).length)) (.done (([]:RW),false)) .fail) (.opt (qDc n (1:Int) x0 (0:Int) false (0:Nat) ([]:RW)) fun r129=>(.opt (qBS n r129.2.1 r129.2.2.1 r129.2.2.2.1 r129.2.2.2.2.1 r129.2.2.2.2.2) fun r130=>(.ask (r130.2.2.1) (.ask (decide (0=([]:RW).length)) (.done (([]:RW),false)) .fail) (.ask ((decide (r130.2.1<(x0.size:Int)))) (.ask (decide (0=([]:RW).length)) (.done (([]:RW),false)) .fail) (.ask (decide (r130.2.2.2.1=r130.2.2.2.2.length)) (.opt (qBT n r130.2.2.2.2) fun r186=>(.ask (zAc (⟨(.c (.p (.b r186))),[],[]⟩:Res)) (.ask ((!r186)) (.ask (decide (0=([]:RW).length)) (.done (([]:RW),false)) .fail) (.ask (decide (r130.2.2.2.1=r130.2.2.2.2.length)) (.done (r130.2.2.2.2,true)) .fail)) .fail)) .fail)))))))
def qDf:Nat→BA→Option (RW×Bool)
 |0,_=>none
 |n+1,x0=>(qFQ n x0).run
abbrev qJo (n:Nat):List (Ent (Rn n)):= [en (qEq n),en (qK2 n),en (qDN n),en (qF6 n)]
theorem qJF:∀n,Ok (Rn n) qJn (qDf n)
 |0=>ok0 fun _=>rfl
 |n+1=>stO (T:=qFQ n) (by kernel_rfl) (qJo n) [] (fun _=>(by kernel_rfl)) fun _=>(by kernel_rfl)
def qMn:Sg:=⟨179,[aS],[],⟨aS,[],[]⟩⟩
def qBH (n:Nat) (v:BA×BA×Int):Tr ((BA×BA×Int)⊕((BA))):=(.ask ((decide (v.2.2<(v.1.size:Int)))) (.ask (decide (0≤v.2.2)) (.opt (v.1.toList[(v.2.2).toNat]?) fun c204=>(.ask (((c204.toNat:Int)==(34:Int))) (.ask (decide (v.2.1.size+(⟨#[34]⟩:BA).size≤9223372036854775807)) (.ask (decide (0≤v.2.2∧v.2.2≤(IntKind.i64.wrap (v.2.2+(1:Int)))∧(IntKind.i64.wrap (v.2.2+(1:Int)))≤v.1.size)) (.ask (decide ((v.2.1++(⟨#[34]⟩:BA)).size+(v.1.extract (v.2.2).toNat ((IntKind.i64.wrap (v.2.2+(1:Int)))).toNat).size≤9223372036854775807)) (.done (.inl (v.1,((v.2.1++(⟨#[34]⟩:BA))++(v.1.extract (v.2.2).toNat ((IntKind.i64.wrap (v.2.2+(1:Int)))).toNat)),(IntKind.i64.wrap (v.2.2+(1:Int)))))) .fail) .fail) .fail) (.ask (decide (0≤v.2.2∧v.2.2≤(IntKind.i64.wrap (v.2.2+(1:Int)))∧(IntKind.i64.wrap (v.2.2+(1:Int)))≤v.1.size)) (.ask (decide (v.2.1.size+(v.1.extract (v.2.2).toNat ((IntKind.i64.wrap (v.2.2+(1:Int)))).toNat).size≤9223372036854775807)) (.done (.inl (v.1,(v.2.1++(v.1.extract (v.2.2).toNat ((IntKind.i64.wrap (v.2.2+(1:Int)))).toNat)),(IntKind.i64.wrap (v.2.2+(1:Int)))))) .fail) .fail))) .fail) (.done (.inr (v.2.1))))
def qFR (n:Nat) (x0:BA):Tr (BA):=(.opt (zC (qBH n) n (x0,(⟨#[34]⟩:BA),(0:Int))) fun r205=>(.ask (decide (r205.size+(⟨#[34]⟩:BA).size≤9223372036854775807)) (.done (r205++(⟨#[34]⟩:BA))) .fail))
def qDy:Nat→BA→Option (BA)
 |0,_=>none
 |n+1,x0=>(qFR n x0).run
def qKP (n:Nat):LEnt (KB 179) (Rn n) n:=lok (zT 179) 29 ⟨⟨[(0,aS),(3,aS),(4,aI)],[],[]⟩,[(.exit 0,⟨[(3,aS)],[],[]⟩)]⟩ (qBH n) [] [] fun _=>(by kernel_rfl)
theorem qL5:∀n,Ok (Rn n) qMn (qDy n)
 |0=>ok0 fun _=>rfl
 |n+1=>stO (T:=qFR n) (by kernel_rfl) [] [qKP n] (fun _=>(by kernel_rfl)) fun _=>(by kernel_rfl)
def qHE:Sg:=⟨59,[aI],[],⟨aS,[],[]⟩⟩
def qCx (n:Nat) (v:Int×BA):Tr ((Int×BA)⊕((Int×BA))):=(.ask ((decide (v.1≥(10:Int)))) (.ask (decide (1=([[(.i .u8 (IntKind.u8.wrap (IntKind.i64.wrap ((48:Int)+(Int.tmod v.1 (10:Int))))))]]:RW).length)) (.opt (bytesOf ([[(.i .u8 (IntKind.u8.wrap (IntKind.i64.wrap ((48:Int)+(Int.tmod v.1 (10:Int))))))]]:RW)) fun l209=>(.ask (decide ((⟨l209.toArray⟩:BA).size+v.2.size≤9223372036854775807)) (.done (.inl ((IntKind.i64.wrap (Int.tdiv v.1 (10:Int))),((⟨l209.toArray⟩:BA)++v.2)))) .fail)) .fail) (.done (.inr ((v.1,v.2)))))
def qE9 (rec:Int→Option (BA)) (n:Nat) (x0:Int):Tr (BA):=(.ask ((decide (x0<(0:Int)))) (.opt (rec (IntKind.i64.wrap (0-x0))) fun r208=>(.ask (decide ((⟨#[45]⟩:BA).size+r208.size≤9223372036854775807)) (.done ((⟨#[45]⟩:BA)++r208)) .fail)) (.opt (zC (qCx n) n (x0,(⟨#[]⟩:BA))) fun r210=>(.ask (decide (1=([[(.i .u8 (IntKind.u8.wrap (IntKind.i64.wrap ((48:Int)+r210.1))))]]:RW).length)) (.opt (bytesOf ([[(.i .u8 (IntKind.u8.wrap (IntKind.i64.wrap ((48:Int)+r210.1))))]]:RW)) fun l211=>(.ask (decide ((⟨l211.toArray⟩:BA).size+r210.2.size≤9223372036854775807)) (.done ((⟨l211.toArray⟩:BA)++r210.2)) .fail)) .fail)))
def qAl:Nat→Int→Option (BA)
 |0,_=>none
 |n+1,x0=>(qE9 (qAl n) n x0).run
abbrev qKQ (n:Nat) (ih:Ok (Rn n) qHE (qAl n)):List (Ent (Rn n)):= [en ih]
def qL6 (n:Nat) (ih:Ok (Rn n) qHE (qAl n)):LEnt (KB 59) (Rn n) n:=lok (zT 59) 30 ⟨⟨[(0,aI),(3,aS)],[],[]⟩,[(.exit 0,⟨[(0,aI),(3,aS)],[],[]⟩)]⟩ (qCx n) (qKQ n ih) [] fun _=>(by kernel_rfl)
theorem qEX:∀n,Ok (Rn n) qHE (qAl n)
 |0=>ok0 fun _=>rfl
 |n+1=>stO (T:=qE9 (qAl n) n) (by kernel_rfl) (qKQ n (qEX n)) [qL6 n (qEX n)] (fun _=>(by kernel_rfl)) fun _=>(by kernel_rfl)
def qNg:Sg:=⟨140,[aI],[],⟨aS,[],[]⟩⟩
def qGX (n:Nat) (x0:Int):Tr (BA):=(.ask ((x0==(1:Int))) (.done (⟨#[84,82,85,69]⟩:BA)) (.done (⟨#[70,65,76,83,69]⟩:BA)))
def qEY:Nat→Int→Option (BA)
 |0,_=>none
 |n+1,x0=>(qGX n x0).run
theorem qMo:∀n,Ok (Rn n) qNg (qEY n)
 |0=>ok0 fun _=>rfl
 |n+1=>stO (T:=qGX n) (by kernel_rfl) [] [] (fun _=>(by kernel_rfl)) fun _=>(by kernel_rfl)
def qK6:Sg:=⟨96,[(.agg [qI,qI,qS])],[],⟨aS,[],[]⟩⟩
def qA9 (n:Nat) (x0 x1:Int) (x2:BA):Tr (BA):=(.opt (qX n x0 x1 x2) fun r207=>(.ask ((!r207)) (.done (⟨#[]⟩:BA)) (.ask ((x0==(1:Int))) (.opt (qAl n x1) fun r212=>(.done r212)) (.ask ((x0==(2:Int))) (.ask (decide ((⟨#[39]⟩:BA).size+x2.size≤9223372036854775807)) (.done ((⟨#[39]⟩:BA)++x2)) .fail) (.ask ((x0==(3:Int))) (.opt (qEY n x1) fun r213=>(.done r213)) (.ask ((x0==(4:Int))) (.opt (qBC n x1) fun r214=>(.done r214)) (.done (⟨#[]⟩:BA))))))))
def qAK:Nat→Int→Int→BA→Option (BA)
 |0,_,_,_=>none
 |n+1,x0,x1,x2=>(qA9 n x0 x1 x2).run
abbrev qK7 (n:Nat):List (Ent (Rn n)):= [en (qDb n),en (qEX n),en (qMo n),en (qFK n)]
theorem qF7:∀n,Ok (Rn n) qK6 (qAK n)
 |0=>ok0 fun _=>rfl
 |n+1=>stO (T:=qA9 n) (by kernel_rfl) (qK7 n) [] (fun _=>(by kernel_rfl)) fun _=>(by kernel_rfl)
def qK8:Sg:=⟨58,[(.agg [qI,qI,qB,qB])],[],⟨aS,[],[]⟩⟩
def qDG (n:Nat) (x0 x1:Int) (x2 x3:Bool):Tr (BA):=(.opt (qx n x0 x1) fun r216=>(.ask ((!r216)) (.done (⟨#[]⟩:BA)) (.opt (qCg n x0) fun r217=>(.ask (x2) (.ask (decide ((⟨#[36]⟩:BA).size+r217.size≤9223372036854775807)) (.ask (x3) (.ask (decide (((⟨#[36]⟩:BA)++r217).size+(⟨#[36]⟩:BA).size≤9223372036854775807)) (.opt (qAl n x1) fun r218=>(.ask (decide ((((⟨#[36]⟩:BA)++r217)++(⟨#[36]⟩:BA)).size+r218.size≤9223372036854775807)) (.done ((((⟨#[36]⟩:BA)++r217)++(⟨#[36]⟩:BA))++r218)) .fail)) .fail) (.opt (qAl n x1) fun r219=>(.ask (decide (((⟨#[36]⟩:BA)++r217).size+r219.size≤9223372036854775807)) (.done (((⟨#[36]⟩:BA)++r217)++r219)) .fail))) .fail) (.ask (x3) (.ask (decide (r217.size+(⟨#[36]⟩:BA).size≤9223372036854775807)) (.opt (qAl n x1) fun r220=>(.ask (decide ((r217++(⟨#[36]⟩:BA)).size+r220.size≤9223372036854775807)) (.done ((r217++(⟨#[36]⟩:BA))++r220)) .fail)) .fail) (.opt (qAl n x1) fun r221=>(.ask (decide (r217.size+r221.size≤9223372036854775807)) (.done (r217++r221)) .fail)))))))
def qBU:Nat→Int→Int→Bool→Bool→Option (BA)
 |0,_,_,_,_=>none
 |n+1,x0,x1,x2,x3=>(qDG n x0 x1 x2 x3).run
abbrev qK9 (n:Nat):List (Ent (Rn n)):= [en (qDW n),en (qHc n),en (qEX n)]
theorem qKR:∀n,Ok (Rn n) qK8 (qBU n)
 |0=>ok0 fun _=>rfl
 |n+1=>stO (T:=qDG n) (by kernel_rfl) (qK9 n) [] (fun _=>(by kernel_rfl)) fun _=>(by kernel_rfl)
def qGY:Sg:=⟨137,[aL,aI,aI],[],⟨aS,[],[]⟩⟩
def qBI (rec:RW→Int→Int→Option (BA)) (n:Nat) (v:RW×BA×Int×Int×Int×Int×Int×BA×Int×Int×Bool×Bool×Int×Int×Bool×Bool×RW):Tr ((RW×BA×Int×Int×Int×Int×Int×BA×Int×Int×Bool×Bool×Int×Int×Bool×Bool×RW)⊕((BA))):=(.ask ((decide (v.2.2.1<(v.2.2.2.2.2.2.2.2.2.2.2.2.2.2.2.2.length:Int)))) (.ask ((decide (v.2.2.1>(0:Int)))) (.ask (decide (v.2.1.size+(⟨#[44]⟩:BA).size≤9223372036854775807)) (.ask (decide (0≤v.2.2.1∧v.2.2.1<v.2.2.2.2.2.2.2.2.2.2.2.2.2.2.2.2.length)) (.opt (v.2.2.2.2.2.2.2.2.2.2.2.2.2.2.2.2[(v.2.2.1).toNat]?) fun e237=>(.ask (decide (e237.length=1)) (.opt (zE .i64 e237 0) fun y238=>(.opt (rec v.1 y238 (0:Int)) fun r239=>(.ask (decide ((v.2.1++(⟨#[44]⟩:BA)).size+r239.size≤9223372036854775807)) (.done (.inl (v.1,((v.2.1++(⟨#[44]⟩:BA))++r239),(IntKind.i64.wrap (v.2.2.1+(1:Int))),v.2.2.2.1,v.2.2.2.2.1,v.2.2.2.2.2.1,v.2.2.2.2.2.2.1,v.2.2.2.2.2.2.2.1,v.2.2.2.2.2.2.2.2.1,v.2.2.2.2.2.2.2.2.2.1,v.2.2.2.2.2.2.2.2.2.2.1,v.2.2.2.2.2.2.2.2.2.2.2.1,v.2.2.2.2.2.2.2.2.2.2.2.2.1,v.2.2.2.2.2.2.2.2.2.2.2.2.2.1,v.2.2.2.2.2.2.2.2.2.2.2.2.2.2.1,v.2.2.2.2.2.2.2.2.2.2.2.2.2.2.2.1,v.2.2.2.2.2.2.2.2.2.2.2.2.2.2.2.2))) .fail))) .fail)) .fail) .fail) (.ask (decide (0≤v.2.2.1∧v.2.2.1<v.2.2.2.2.2.2.2.2.2.2.2.2.2.2.2.2.length)) (.opt (v.2.2.2.2.2.2.2.2.2.2.2.2.2.2.2.2[(v.2.2.1).toNat]?) fun e240=>(.ask (decide (e240.length=1)) (.opt (zE .i64 e240 0) fun y241=>(.opt (rec v.1 y241 (0:Int)) fun r242=>(.ask (decide (v.2.1.size+r242.size≤9223372036854775807)) (.done (.inl (v.1,(v.2.1++r242),(IntKind.i64.wrap (v.2.2.1+(1:Int))),v.2.2.2.1,v.2.2.2.2.1,v.2.2.2.2.2.1,v.2.2.2.2.2.2.1,v.2.2.2.2.2.2.2.1,v.2.2.2.2.2.2.2.2.1,v.2.2.2.2.2.2.2.2.2.1,v.2.2.2.2.2.2.2.2.2.2.1,v.2.2.2.2.2.2.2.2.2.2.2.1,v.2.2.2.2.2.2.2.2.2.2.2.2.1,v.2.2.2.2.2.2.2.2.2.2.2.2.2.1,v.2.2.2.2.2.2.2.2.2.2.2.2.2.2.1,v.2.2.2.2.2.2.2.2.2.2.2.2.2.2.2.1,v.2.2.2.2.2.2.2.2.2.2.2.2.2.2.2.2))) .fail))) .fail)) .fail)) (.done (.inr (v.2.1))))
def qBd (rec:RW→Int→Int→Option (BA)) (n:Nat) (x0:RW) (x1 x2:Int):Tr (BA):=(.ask (decide (0≤x1∧x1<x0.length)) (.opt (x0[(x1).toNat]?) fun e189=>(.ask (decide (e189.length=14)) (.opt (zE .i64 e189 0) fun y190=>(.opt (zE .i64 e189 1) fun y191=>(.opt (zE .i64 e189 2) fun y192=>(.opt (zE .i64 e189 3) fun y193=>(.opt (zj e189 4) fun y194=>(.opt (zE .i64 e189 5) fun y195=>(.opt (zE .i64 e189 6) fun y196=>(.opt (zAD e189 7) fun y197=>(.opt (zAD e189 8) fun y198=>(.opt (zE .i64 e189 9) fun y199=>(.opt (zE .i64 e189 10) fun y200=>(.opt (zAD e189 11) fun y201=>(.opt (zAD e189 12) fun y202=>(.opt (zAp e189 13) fun y203=>(.ask ((y190==(1:Int))) (.ask ((y192==(2:Int))) (.opt (qDy n y194) fun r206=>(.done r206)) (.opt (qAK n y192 y193 y194) fun r215=>(.done r215))) (.ask ((y190==(2:Int))) (.opt (qBU n y195 y196 y197 y198) fun r222=>(.done r222)) (.ask ((y190==(3:Int))) (.opt (qBU n y195 y196 y197 y198) fun r223=>(.ask (decide (r223.size+(⟨#[58]⟩:BA).size≤9223372036854775807)) (.opt (qBU n y199 y200 y201 y202) fun r224=>(.ask (decide ((r223++(⟨#[58]⟩:BA)).size+r224.size≤9223372036854775807)) (.done ((r223++(⟨#[58]⟩:BA))++r224)) .fail)) .fail)) (.ask ((y190==(4:Int))) (.ask (decide (0≤(0:Int)∧(0:Int)<y203.length)) (.opt (y203[((0:Int)).toNat]?) fun e225=>(.ask (decide (e225.length=1)) (.opt (zE .i64 e225 0) fun y226=>(.opt (rec x0 y226 (5:Int)) fun r227=>(.ask (decide ((⟨#[45]⟩:BA).size+r227.size≤9223372036854775807)) (.done ((⟨#[45]⟩:BA)++r227)) .fail))) .fail)) .fail) (.ask ((y190==(5:Int))) (.opt (qB4 n y191) fun r228=>(.ask (decide (0≤(0:Int)∧(0:Int)<y203.length)) (.opt (y203[((0:Int)).toNat]?) fun e229=>(.ask (decide (e229.length=1)) (.opt (zE .i64 e229 0) fun y230=>(.ask (decide (0≤(1:Int)∧(1:Int)<y203.length)) (.opt (y203[((1:Int)).toNat]?) fun e231=>(.ask (decide (e231.length=1)) (.opt (zE .i64 e231 0) fun y232=>(.opt (rec x0 y230 r228) fun r233=>(.opt (qCS n y191) fun r234=>(.ask (decide (r233.size+r234.size≤9223372036854775807)) (.opt (rec x0 y232 (IntKind.i64.wrap (r228+(1:Int)))) fun r235=>(.ask (decide ((r233++r234).size+r235.size≤9223372036854775807)) (.ask ((decide (r228<x2))) (.ask (decide ((⟨#[40]⟩:BA).size+((r233++r234)++r235).size≤9223372036854775807)) (.ask (decide (((⟨#[40]⟩:BA)++((r233++r234)++r235)).size+(⟨#[41]⟩:BA).size≤9223372036854775807)) (.done (((⟨#[40]⟩:BA)++((r233++r234)++r235))++(⟨#[41]⟩:BA))) .fail) .fail) (.done ((r233++r234)++r235))) .fail)) .fail)))) .fail)) .fail)) .fail)) .fail)) (.opt (qCG n y191) fun r236=>(.ask (decide (r236.size+(⟨#[40]⟩:BA).size≤9223372036854775807)) (.opt (zC (qBI rec n) n (x0,(r236++(⟨#[40]⟩:BA)),(0:Int),y190,y191,y192,y193,y194,y195,y196,y197,y198,y199,y200,y201,y202,y203)) fun r243=>(.ask (decide (r243.size+(⟨#[41]⟩:BA).size≤9223372036854775807)) (.done (r243++(⟨#[41]⟩:BA))) .fail)) .fail))))))))))))))))))))) .fail)) .fail)
def qk:Nat→RW→Int→Int→Option (BA)
 |0,_,_,_=>none
 |n+1,x0,x1,x2=>(qBd (qk n) n x0 x1 x2).run
abbrev qJY (n:Nat) (ih:Ok (Rn n) qGY (qk n)):List (Ent (Rn n)):= [en (qL5 n),en (qF7 n),en (qKR n),en ih,en (qHd n),en (qIJ n),en (qKL n)]
def qKS (n:Nat) (ih:Ok (Rn n) qGY (qk n)):LEnt (KB 137) (Rn n) n:=lok (zT 137) 125 ⟨⟨[(0,aL),(7,(.c (.ptr 0 448 0 0 0))),(10,aS),(11,aI)],[(448,⟨0,14,162,(.box [qI,qI,qI,qI,qS,qI,qI,qB,qB,qI,qI,qB,qB,qL])⟩)],[]⟩,[(.exit 1,⟨[(10,aS)],[],[]⟩)]⟩ (qBI (qk n) n) (qJY n ih) [] fun _=>(by kernel_rfl)
theorem qFS:∀n,Ok (Rn n) qGY (qk n)
 |0=>ok0 fun _=>rfl
 |n+1=>stO (T:=qBd (qk n) n) (by kernel_rfl) (qJY n (qFS n)) [qKS n (qFS n)] (fun _=>(by kernel_rfl)) fun _=>(by kernel_rfl)
def qJp:Sg:=⟨94,[aL],[],⟨aS,[],[]⟩⟩
def qCr (n:Nat) (x0:RW):Tr (BA):=(.opt (qBT n x0) fun r188=>(.ask ((!r188)) (.done (⟨#[]⟩:BA)) (.opt (qk n x0 (IntKind.i64.wrap ((x0.length:Int)-(1:Int))) (0:Int)) fun r244=>(.ask ((decide ((r244.size:Int)>(200:Int)))) (.done (⟨#[]⟩:BA)) (.done r244)))))
def qBV:Nat→RW→Option (BA)
 |0,_=>none
 |n+1,x0=>(qCr n x0).run
abbrev qJq (n:Nat):List (Ent (Rn n)):= [en (qF6 n),en (qFS n)]
theorem qJG:∀n,Ok (Rn n) qJp (qBV n)
 |0=>ok0 fun _=>rfl
 |n+1=>stO (T:=qCr n) (by kernel_rfl) (qJq n) [] (fun _=>(by kernel_rfl)) fun _=>(by kernel_rfl)
def qL7:Sg:=⟨95,[aS],[],⟨(.tup [(true,[qI,qI,qS]),(false,[qB])]),[],[]⟩⟩
def qBW (n:Nat) (v:BA×Bool×Int×Int×BA):Tr ((BA×Bool×Int×Int×BA)⊕((BA×Bool×Int×Int×BA))):=(.ask ((decide ((v.1.size:Int)>(1:Int)))) (.ask (decide (0≤(0:Int))) (.opt (v.1.toList[((0:Int)).toNat]?) fun c247=>(.ask (((c247.toNat:Int)==(48:Int))) (.ask (decide (0≤(1:Int)∧(1:Int)≤(v.1.size:Int)∧(v.1.size:Int)≤v.1.size)) (.done (.inl ((v.1.extract ((1:Int)).toNat ((v.1.size:Int)).toNat),v.2.1,v.2.2.1,v.2.2.2.1,v.2.2.2.2))) .fail) (.done (.inr ((v.1,v.2.1,v.2.2.1,v.2.2.2.1,v.2.2.2.2)))))) .fail) (.done (.inr ((v.1,v.2.1,v.2.2.1,v.2.2.2.1,v.2.2.2.2)))))
def qHl (n:Nat) (x0:BA):Tr (Int×Int×BA×Bool):=(.ask ((decide ((x0.size:Int)>(0:Int)))) (.ask (decide (0≤(0:Int))) (.opt (x0.toList[((0:Int)).toNat]?) fun c246=>(.ask (((c246.toNat:Int)==(45:Int))) (.ask (decide (0≤(1:Int)∧(1:Int)≤(x0.size:Int)∧(x0.size:Int)≤x0.size)) (.ask (((x0.extract ((1:Int)).toNat ((x0.size:Int)).toNat).toList==(⟨#[]⟩:BA).toList)) (.done ((0:Int),(0:Int),(⟨#[]⟩:BA),false)) (.opt (zC (qBW n) n ((x0.extract ((1:Int)).toNat ((x0.size:Int)).toNat),((c246.toNat:Int)==(45:Int)),(0:Int),(0:Int),(⟨#[]⟩:BA))) fun r248=>(.opt (qq n r248.1 (16:Int)) fun r249=>(.ask (r248.2.1) (.ask (r249.2) (.opt (qX n (1:Int) (IntKind.i64.wrap (0-r249.1)) (⟨#[]⟩:BA)) fun r250=>(.done ((1:Int),(IntKind.i64.wrap (0-r249.1)),(⟨#[]⟩:BA),r250))) (.done ((1:Int),(IntKind.i64.wrap (0-r249.1)),(⟨#[]⟩:BA),false))) (.ask (r249.2) (.opt (qX n (1:Int) r249.1 (⟨#[]⟩:BA)) fun r251=>(.done ((1:Int),r249.1,(⟨#[]⟩:BA),r251))) (.done ((1:Int),r249.1,(⟨#[]⟩:BA),false))))))) .fail) (.ask ((x0.toList==(⟨#[]⟩:BA).toList)) (.done ((0:Int),(0:Int),(⟨#[]⟩:BA),false)) (.opt (zC (qBW n) n (x0,((c246.toNat:Int)==(45:Int)),(0:Int),(0:Int),(⟨#[]⟩:BA))) fun r252=>(.opt (qq n r252.1 (16:Int)) fun r253=>(.ask (r252.2.1) (.ask (r253.2) (.opt (qX n (1:Int) (IntKind.i64.wrap (0-r253.1)) (⟨#[]⟩:BA)) fun r254=>(.done ((1:Int),(IntKind.i64.wrap (0-r253.1)),(⟨#[]⟩:BA),r254))) (.done ((1:Int),(IntKind.i64.wrap (0-r253.1)),(⟨#[]⟩:BA),false))) (.ask (r253.2) (.opt (qX n (1:Int) r253.1 (⟨#[]⟩:BA)) fun r255=>(.done ((1:Int),r253.1,(⟨#[]⟩:BA),r255))) (.done ((1:Int),r253.1,(⟨#[]⟩:BA),false))))))))) .fail) (.ask ((x0.toList==(⟨#[]⟩:BA).toList)) (.done ((0:Int),(0:Int),(⟨#[]⟩:BA),false)) (.opt (zC (qBW n) n (x0,false,(0:Int),(0:Int),(⟨#[]⟩:BA))) fun r256=>(.opt (qq n r256.1 (16:Int)) fun r257=>(.ask (r256.2.1) (.ask (r257.2) (.opt (qX n (1:Int) (IntKind.i64.wrap (0-r257.1)) (⟨#[]⟩:BA)) fun r258=>(.done ((1:Int),(IntKind.i64.wrap (0-r257.1)),(⟨#[]⟩:BA),r258))) (.done ((1:Int),(IntKind.i64.wrap (0-r257.1)),(⟨#[]⟩:BA),false))) (.ask (r257.2) (.opt (qX n (1:Int) r257.1 (⟨#[]⟩:BA)) fun r259=>(.done ((1:Int),r257.1,(⟨#[]⟩:BA),r259))) (.done ((1:Int),r257.1,(⟨#[]⟩:BA),false))))))))
def qEt:Nat→BA→Option (Int×Int×BA×Bool)
 |0,_=>none
 |n+1,x0=>(qHl n x0).run
abbrev qHm (n:Nat):List (Ent (Rn n)):= [en (qGR n),en (qDb n)]
def qJr (n:Nat):LEnt (KB 95) (Rn n) n:=lok (zT 95) 62 ⟨⟨[(0,aS),(2,(.c (.ptr 0 128 0 0 0))),(4,aB)],[(128,⟨0,3,128,(.box [qI,qI,qS])⟩)],[]⟩,[(.exit 0,⟨[(0,aS),(2,(.c (.ptr 0 128 0 0 0))),(4,aB)],[(128,⟨0,3,128,(.box [qI,qI,qS])⟩)],[]⟩)]⟩ (qBW n) (qHm n) [] fun _=>(by kernel_rfl)
theorem qLA:∀n,Ok (Rn n) qL7 (qEt n)
 |0=>ok0 fun _=>rfl
 |n+1=>stO (T:=qHl n) (by kernel_rfl) (qHm n) [qJr n] (fun _=>(by kernel_rfl)) fun _=>(by kernel_rfl)
def qMp:Sg:=⟨53,[aS],[],⟨(.tup [(false,[qS]),(false,[qB])]),[],[]⟩⟩
def qIO (n:Nat) (x0:BA):Tr (BA×Bool):=(.opt (qB2 n x0) fun r36=>(.ask ((!r36)) (.done ((⟨#[]⟩:BA),false)) (.ask ((x0.toList==(⟨#[]⟩:BA).toList)) (.done ((⟨#[]⟩:BA),true)) (.ask (decide (0≤(0:Int))) (.opt (x0.toList[((0:Int)).toNat]?) fun c37=>(.ask (((c37.toNat:Int)==(61:Int))) (.ask (decide (0≤(1:Int)∧(1:Int)≤(x0.size:Int)∧(x0.size:Int)≤x0.size)) (.opt (qDf n (x0.extract ((1:Int)).toNat ((x0.size:Int)).toNat)) fun r187=>(.opt (qBV n r187.1) fun r245=>(.ask ((!r187.2)) (.done ((⟨#[]⟩:BA),false)) (.ask ((r245.toList==(⟨#[]⟩:BA).toList)) (.done ((⟨#[]⟩:BA),false)) (.ask ((decide ((IntKind.i64.wrap ((r245.size:Int)+(1:Int)))>(200:Int)))) (.done ((⟨#[]⟩:BA),false)) (.ask (decide ((⟨#[61]⟩:BA).size+r245.size≤9223372036854775807)) (.done (((⟨#[61]⟩:BA)++r245),true)) .fail)))))) .fail) (.opt (qEt n x0) fun r260=>(.ask (r260.2.2.2) (.opt (qAK n r260.1 r260.2.1 r260.2.2.1) fun r261=>(.done (r261,true))) (.opt (qAD n x0) fun r262=>(.ask ((!r262.2.2.2)) (.opt (qAK n (2:Int) (0:Int) x0) fun r263=>(.ask ((decide ((r263.size:Int)>(200:Int)))) (.done ((⟨#[]⟩:BA),false)) (.done (r263,true)))) (.opt (qAK n r262.1 r262.2.1 r262.2.2.1) fun r264=>(.ask ((decide ((r264.size:Int)>(200:Int)))) (.done ((⟨#[]⟩:BA),false)) (.done (r264,true)))))))))) .fail))))
def qCj:Nat→BA→Option (BA×Bool)
 |0,_=>none
 |n+1,x0=>(qIO n x0).run
abbrev qMq (n:Nat):List (Ent (Rn n)):= [en (qEq n),en (qJF n),en (qJG n),en (qLA n),en (qF7 n),en (qF5 n)]
theorem qHn:∀n,Ok (Rn n) qMp (qCj n)
 |0=>ok0 fun _=>rfl
 |n+1=>stO (T:=qIO n) (by kernel_rfl) (qMq n) [] (fun _=>(by kernel_rfl)) fun _=>(by kernel_rfl)
def qKT:Sg:=⟨52,[aS],[],⟨aB,[],[]⟩⟩
def qDz (n:Nat) (x0:BA):Tr (Bool):=(.ask (decide ((⟨#[61]⟩:BA).size+x0.size≤9223372036854775807)) (.opt (qCj n ((⟨#[61]⟩:BA)++x0)) fun r265=>(.ask (r265.2) (.ask (decide ((⟨#[61]⟩:BA).size+x0.size≤9223372036854775807)) (.done (r265.1.toList==((⟨#[61]⟩:BA)++x0).toList)) .fail) (.done false))) .fail)
def qBJ:Nat→BA→Option (Bool)
 |0,_=>none
 |n+1,x0=>(qDz n x0).run
abbrev qKU (n:Nat):List (Ent (Rn n)):= [en (qHn n)]
theorem qJs:∀n,Ok (Rn n) qKT (qBJ n)
 |0=>ok0 fun _=>rfl
 |n+1=>stO (T:=qDz n) (by kernel_rfl) (qKU n) [] (fun _=>(by kernel_rfl)) fun _=>(by kernel_rfl)
def qMr:Sg:=⟨18,[aL],[],⟨aB,[],[]⟩⟩
def qD0 (n:Nat) (v:RW×Int):Tr ((RW×Int)⊕((Bool)⊕(Unit))):=(.ask ((decide (v.2<(v.1.length:Int)))) (.ask (decide (0≤v.2∧v.2<v.1.length)) (.opt (v.1[(v.2).toNat]?) fun e22=>(.ask (decide (e22.length=5)) (.opt (zE .i64 e22 0) fun y23=>(.opt (zE .i64 e22 1) fun y24=>(.opt (zE .i64 e22 2) fun y25=>(.opt (zj e22 3) fun y26=>(.opt (zE .i64 e22 4) fun y27=>(.ask ((y23==(1:Int))) (.opt (qx n y24 y25) fun r28=>(.ask ((!r28)) (.done (.inr (.inl (false)))) (.ask ((y27 !=(0:Int))) (.done (.inr (.inl (false)))) (.opt (qBJ n y26) fun r29=>(.ask ((!r29)) (.done (.inr (.inl (false)))) (.done (.inl (v.1,(IntKind.i64.wrap (v.2+(1:Int))))))))))) (.ask ((y23==(2:Int))) (.opt (qCj n y26) fun r30=>(.opt (qx n y24 y25) fun r31=>(.ask ((!r31)) (.done (.inr (.inl (false)))) (.ask ((y27 !=(0:Int))) (.done (.inr (.inl (false)))) (.ask ((!r30.2)) (.done (.inr (.inl (false)))) (.ask ((!(r30.1.toList==y26.toList))) (.done (.inr (.inl (false)))) (.done (.inl (v.1,(IntKind.i64.wrap (v.2+(1:Int)))))))))))) (.ask ((y23==(3:Int))) (.ask ((!((y24==(0:Int))&&((y25==(0:Int))&&true)))) (.done (.inr (.inl (false)))) (.opt (qAY n y27 (1:Int) (IntKind.i64.wrap ((IntKind.i64.wrap ((v.1.length:Int)-(1:Int)))-v.2))) fun r32=>(.ask ((!r32)) (.done (.inr (.inl (false)))) (.opt (qBJ n y26) fun r33=>(.ask ((!r33)) (.done (.inr (.inl (false)))) (.done (.inl (v.1,(IntKind.i64.wrap (v.2+(1:Int))))))))))) (.ask ((y23==(4:Int))) (.ask ((!((y24==(0:Int))&&((y25==(0:Int))&&true)))) (.done (.inr (.inl (false)))) (.opt (qAY n y27 (1:Int) v.2) fun r34=>(.ask ((!r34)) (.done (.inr (.inl (false)))) (.opt (qBJ n y26) fun r35=>(.ask ((!r35)) (.done (.inr (.inl (false)))) (.done (.inl (v.1,(IntKind.i64.wrap (v.2+(1:Int))))))))))) (.ask ((y23==(5:Int))) (.ask ((!((y24==(0:Int))&&((y25==(0:Int))&&true)))) (.done (.inr (.inl (false)))) (.ask ((y27 !=(0:Int))) (.done (.inr (.inl (false)))) (.opt (qBJ n y26) fun r36=>(.ask ((!r36)) (.done (.inr (.inl (false)))) (.done (.inl (v.1,(IntKind.i64.wrap (v.2+(1:Int)))))))))) (.done (.inr (.inl (false)))))))))))))) .fail)) .fail) (.done (.inr (.inr (())))))
def qFT (n:Nat) (x0:RW):Tr (Bool):=(.ask ((decide ((x0.length:Int)>(30:Int)))) (.done false) (.opt (zC (qD0 n) n (x0,(0:Int))) fun r37=>(.alt r37 (fun r38=>(.done r38)) (fun r39=>(.done true)))))
def qFU:Nat→RW→Option (Bool)
 |0,_=>none
 |n+1,x0=>(qFT n x0).run
abbrev qIP (n:Nat):List (Ent (Rn n)):= [en (qDW n),en (qJs n),en (qHn n),en (qDF n)]
def qKV (n:Nat):LEnt (KB 18) (Rn n) n:=lok (zT 18) 29 ⟨⟨[(0,aL),(3,aI)],[],[]⟩,[(.ret,⟨[(2,aB)],[],[]⟩),(.exit 0,⟨[],[],[]⟩)]⟩ (qD0 n) (qIP n) [] fun _=>(by kernel_rfl)
theorem qL8:∀n,Ok (Rn n) qMr (qFU n)
 |0=>ok0 fun _=>rfl
 |n+1=>stO (T:=qFT n) (by kernel_rfl) (qIP n) [qKV n] (fun _=>(by kernel_rfl)) fun _=>(by kernel_rfl)
def qNh:Sg:=⟨67,[aI,aI,aI],[],⟨aB,[],[]⟩⟩
def qGZ (n:Nat) (x0 x1 x2:Int):Tr (Bool):=(.ask ((decide (x0≥x1))) (.done (decide (x0≤x2))) (.done false))
def qAC:Nat→Int→Int→Int→Option (Bool)
 |0,_,_,_=>none
 |n+1,x0,x1,x2=>(qGZ n x0 x1 x2).run
theorem qCk:∀n,Ok (Rn n) qNh (qAC n)
 |0=>ok0 fun _=>rfl
 |n+1=>stO (T:=qGZ n) (by kernel_rfl) [] [] (fun _=>(by kernel_rfl)) fun _=>(by kernel_rfl)
def qOS:Sg:=⟨89,[(.agg [qI,qI])],[],⟨aB,[],[]⟩⟩
def qHF (n:Nat) (x0 x1:Int):Tr (Bool):=(.opt (qAC n x0 (1:Int) (52:Int)) fun r48=>(.ask (r48) (.opt (qAC n x1 (1:Int) (99:Int)) fun r49=>(.done r49)) (.done false)))
def qBK:Nat→Int→Int→Option (Bool)
 |0,_,_=>none
 |n+1,x0,x1=>(qHF n x0 x1).run
abbrev qOT (n:Nat):List (Ent (Rn n)):= [en (qCk n)]
theorem qEZ:∀n,Ok (Rn n) qOS (qBK n)
 |0=>ok0 fun _=>rfl
 |n+1=>stO (T:=qHF n) (by kernel_rfl) (qOT n) [] (fun _=>(by kernel_rfl)) fun _=>(by kernel_rfl)
def qNi:Sg:=⟨158,[aS,aI],[],⟨aB,[],[]⟩⟩
def qBX (n:Nat) (v:BA×Int×Int×Int):Tr ((BA×Int×Int×Int)⊕((Bool)⊕(BA×Int))):=(.ask ((decide (v.2.2.2<v.2.2.1))) (.ask (decide (0≤v.2.2.2)) (.opt (v.1.toList[(v.2.2.2).toNat]?) fun c51=>(.ask ((decide ((c51.toNat:Int)<(32:Int)))) (.done (.inr (.inl (false)))) (.ask (decide (0≤v.2.2.2)) (.opt (v.1.toList[(v.2.2.2).toNat]?) fun c52=>(.ask ((decide ((c52.toNat:Int)>(126:Int)))) (.done (.inr (.inl (false)))) (.done (.inl (v.1,v.2.1,v.2.2.1,(IntKind.i64.wrap (v.2.2.2+(1:Int)))))))) .fail))) .fail) (.done (.inr (.inr ((v.1,v.2.1))))))
def qGa (n:Nat) (x0:BA) (x1:Int):Tr (Bool):=(.opt (zC (qBX n) n (x0,x1,(x0.size:Int),(0:Int))) fun r53=>(.alt r53 (fun r54=>(.done r54)) (fun r55=>(.done (decide ((r55.1.size:Int)≤r55.2))))))
def qCT:Nat→BA→Int→Option (Bool)
 |0,_,_=>none
 |n+1,x0,x1=>(qGa n x0 x1).run
def qLB (n:Nat):LEnt (KB 158) (Rn n) n:=lok (zT 158) 13 ⟨⟨[(0,aS),(1,aI),(7,aI),(8,aI)],[],[]⟩,[(.ret,⟨[(4,aB)],[],[]⟩),(.exit 0,⟨[(0,aS),(1,aI)],[],[]⟩)]⟩ (qBX n) [] [] fun _=>(by kernel_rfl)
theorem qFV:∀n,Ok (Rn n) qNi (qCT n)
 |0=>ok0 fun _=>rfl
 |n+1=>stO (T:=qGa n) (by kernel_rfl) [] [qLB n] (fun _=>(by kernel_rfl)) fun _=>(by kernel_rfl)
def qE1:Sg:=⟨118,[aS,aS],[],⟨(.tup [(false,[qS]),(false,[qB])]),[],[]⟩⟩
def qAB:Nat→BA→BA→Option ((BA×Bool))
 |0,_,_=>none
 |n+1,x0,x1=>zW x0 x1
theorem qCJ:∀n,Ok (Rn n) qE1 (qAB n)
 |0=>ok0 fun _=>rfl
 |n+1=>stL (by kernel_rfl) (fun a r e=>congrArg (Option.map fun r=>(qE1.Of r).v) e) rfl rfl rfl
def qFW:Sg:=⟨197,[aS,aS],[],⟨aS,[],[]⟩⟩
def qA7:Nat→BA→BA→Option ((BA))
 |0,_,_=>none
 |n+1,x0,x1=>zM x0 x1
theorem qDQ:∀n,Ok (Rn n) qFW (qA7 n)
 |0=>ok0 fun _=>rfl
 |n+1=>stL (by kernel_rfl) (fun a r e=>congrArg (Option.map fun r=>(qFW.Of r).v) e) rfl rfl rfl
def qIQ:Sg:=⟨160,[(.c (.ptr 0 0 0 0 0))],[[(0,⟨0,3,198,(.box [qS,(.own 0 1 1 0),qB])⟩),(1,⟨1,14,162,(.row [])⟩)]],⟨(.tup []),[[(0,⟨0,3,198,(.box [qS,(.own 0 1 1 0),qB])⟩),(1,⟨1,14,162,(.row [])⟩)]],[]⟩⟩
def qC7 (n:Nat) (x0:BA) (x1:Nat) (x2:Bool) (x3:RW):Tr (BA×Nat×Bool×RW):=(.opt (qA7 n x0 (⟨#[32]⟩:BA)) fun r59=>(.done (r59,x1,x2,x3)))
def qAn:Nat→BA→Nat→Bool→RW→Option (BA×Nat×Bool×RW)
 |0,_,_,_,_=>none
 |n+1,x0,x1,x2,x3=>(qC7 n x0 x1 x2 x3).run
abbrev qIR (n:Nat):List (Ent (Rn n)):= [en (qDQ n)]
theorem qB8:∀n,Ok (Rn n) qIQ (qAn n)
 |0=>ok0 fun _=>rfl
 |n+1=>stO (T:=qC7 n) (by kernel_rfl) (qIR n) [] (fun _=>(by kernel_rfl)) fun _=>(by kernel_rfl)
def qD1:Sg:=⟨190,[aS,aS],[],⟨aB,[],[]⟩⟩
def qAm (n:Nat) (x0 x1:BA):Tr (Bool):=(.ask ((decide ((x0.size:Int)≥(x1.size:Int)))) (.ask (decide (0≤(0:Int)∧(0:Int)≤(x1.size:Int)∧(x1.size:Int)≤x0.size)) (.done ((x0.extract ((0:Int)).toNat ((x1.size:Int)).toNat).toList==x1.toList)) .fail) (.done false))
def qy:Nat→BA→BA→Option (Bool)
 |0,_,_=>none
 |n+1,x0,x1=>(qAm n x0 x1).run
theorem qCB:∀n,Ok (Rn n) qD1 (qy n)
 |0=>ok0 fun _=>rfl
 |n+1=>stO (T:=qAm n) (by kernel_rfl) [] [] (fun _=>(by kernel_rfl)) fun _=>(by kernel_rfl)
def qJH:Sg:=⟨204,[aS,aS],[],⟨aB,[],[]⟩⟩
def qBo (n:Nat) (x0 x1:BA):Tr (Bool):=(.opt (qy n x0 x1) fun r63=>(.done r63))
def qj:Nat→BA→BA→Option (Bool)
 |0,_,_=>none
 |n+1,x0,x1=>(qBo n x0 x1).run
abbrev qJI (n:Nat):List (Ent (Rn n)):= [en (qCB n)]
theorem qCK:∀n,Ok (Rn n) qJH (qj n)
 |0=>ok0 fun _=>rfl
 |n+1=>stO (T:=qBo n) (by kernel_rfl) (qJI n) [] (fun _=>(by kernel_rfl)) fun _=>(by kernel_rfl)
def qJt:Sg:=⟨192,[(.c (.ptr 0 0 0 0 0))],[[(0,⟨0,3,198,(.box [qS,(.own 0 1 1 0),qB])⟩),(1,⟨1,14,162,(.row [])⟩)]],⟨aS,[[(0,⟨0,3,198,(.box [qS,(.own 0 1 1 0),qB])⟩),(1,⟨1,14,162,(.row [])⟩)]],[]⟩⟩
def qB9 (n:Nat) (v:Nat×Int×Int×RW×BA×Nat×Bool×RW):Tr ((Nat×Int×Int×RW×BA×Nat×Bool×RW)⊕((BA×BA×Nat×Bool×RW)⊕(BA×Nat×Bool×RW))):=(.ask ((decide (v.2.2.1<v.2.1))) (.ask (decide (v.1=v.2.2.2.1.length∧0≤v.2.2.1∧v.2.2.1<((v.1:Nat):Int))) (.opt (v.2.2.2.1[(v.2.2.1).toNat]?) fun e61=>(.opt (zj e61 0) fun y62=>(.opt (qj n v.2.2.2.2.1 y62) fun r63=>(.ask (r63) (.done (.inr (.inl ((y62,v.2.2.2.2.1,v.2.2.2.2.2.1,v.2.2.2.2.2.2.1,v.2.2.2.2.2.2.2))))) (.done (.inl (v.1,v.2.1,(IntKind.i64.wrap (v.2.2.1+(1:Int))),v.2.2.2.1,v.2.2.2.2.1,v.2.2.2.2.2.1,v.2.2.2.2.2.2.1,v.2.2.2.2.2.2.2))))))) .fail) (.done (.inr (.inr ((v.2.2.2.2.1,v.2.2.2.2.2.1,v.2.2.2.2.2.2.1,v.2.2.2.2.2.2.2))))))
def qFX (n:Nat) (x0:BA) (x1:Nat) (x2:Bool) (x3:RW):Tr (BA×BA×Nat×Bool×RW):=(.opt (qAn n x0 x1 x2 x3) fun r60=>(.opt (zC (qB9 n) n ((15:Nat),(15:Int),(0:Int),([[(.s (⟨#[60,62]⟩:BA))],[(.s (⟨#[60,61]⟩:BA))],[(.s (⟨#[62,61]⟩:BA))],[(.s (⟨#[60]⟩:BA))],[(.s (⟨#[62]⟩:BA))],[(.s (⟨#[61]⟩:BA))],[(.s (⟨#[38]⟩:BA))],[(.s (⟨#[43]⟩:BA))],[(.s (⟨#[45]⟩:BA))],[(.s (⟨#[42]⟩:BA))],[(.s (⟨#[47]⟩:BA))],[(.s (⟨#[40]⟩:BA))],[(.s (⟨#[41]⟩:BA))],[(.s (⟨#[44]⟩:BA))],[(.s (⟨#[58]⟩:BA))]]:RW),r60.1,r60.2.1,r60.2.2.1,r60.2.2.2)) fun r64=>(.alt r64 (fun r65=>(.done (r65.1,r65.2.1,r65.2.2.1,r65.2.2.2.1,r65.2.2.2.2))) (fun r66=>(.done ((⟨#[]⟩:BA),r66.1,r66.2.1,r66.2.2.1,r66.2.2.2))))))
def qBY:Nat→BA→Nat→Bool→RW→Option (BA×BA×Nat×Bool×RW)
 |0,_,_,_,_=>none
 |n+1,x0,x1,x2,x3=>(qFX n x0 x1 x2 x3).run
abbrev qFY (n:Nat):List (Ent (Rn n)):= [en (qB8 n),en (qCK n)]
def qH0 (n:Nat):LEnt (KB 192) (Rn n) n:=lok (zT 192) 29 ⟨⟨[(0,(.c (.ptr 0 0 0 0 0))),(7,(.c (.own 1 448 0 0))),(8,aI),(9,aI)],[(448,⟨0,1,9,(.row [])⟩)],[[(0,⟨0,3,198,(.box [qS,(.own 0 1 1 0),qB])⟩),(1,⟨1,14,162,(.row [])⟩)]]⟩,[(.ret,⟨[(2,aS)],[],[[(0,⟨0,3,198,(.box [qS,(.own 0 1 1 0),qB])⟩),(1,⟨1,14,162,(.row [])⟩)]]⟩),(.exit 0,⟨[],[],[[(0,⟨0,3,198,(.box [qS,(.own 0 1 1 0),qB])⟩),(1,⟨1,14,162,(.row [])⟩)]]⟩)]⟩ (qB9 n) (qFY n) [] fun _=>(by kernel_rfl)
theorem qE2:∀n,Ok (Rn n) qJt (qBY n)
 |0=>ok0 fun _=>rfl
 |n+1=>stO (T:=qFX n) (by kernel_rfl) (qFY n) [qH0 n] (fun _=>(by kernel_rfl)) fun _=>(by kernel_rfl)
def qJu:Sg:=⟨195,[(.c (.ptr 0 0 0 0 0)),aS],[[(0,⟨0,3,198,(.box [qS,(.own 0 1 1 0),qB])⟩),(1,⟨1,14,162,(.row [])⟩)]],⟨aB,[[(0,⟨0,3,198,(.box [qS,(.own 0 1 1 0),qB])⟩),(1,⟨1,14,162,(.row [])⟩)]],[]⟩⟩
def qFZ (n:Nat) (x0 x1:BA) (x2:Nat) (x3:Bool) (x4:RW):Tr (Bool×BA×Nat×Bool×RW):=(.opt (qBY n x1 x2 x3 x4) fun r67=>(.ask ((!(r67.1.toList==x0.toList))) (.done (false,r67.2.1,r67.2.2.1,r67.2.2.2.1,r67.2.2.2.2)) (.ask (decide (0≤(x0.size:Int)∧(x0.size:Int)≤(r67.2.1.size:Int)∧(r67.2.1.size:Int)≤r67.2.1.size)) (.done (true,(r67.2.1.extract ((x0.size:Int)).toNat ((r67.2.1.size:Int)).toNat),r67.2.2.1,r67.2.2.2.1,r67.2.2.2.2)) .fail)))
def ql:Nat→BA→BA→Nat→Bool→RW→Option (Bool×BA×Nat×Bool×RW)
 |0,_,_,_,_,_=>none
 |n+1,x0,x1,x2,x3,x4=>(qFZ n x0 x1 x2 x3 x4).run
abbrev qJv (n:Nat):List (Ent (Rn n)):= [en (qE2 n)]
theorem qBp:∀n,Ok (Rn n) qJu (ql n)
 |0=>ok0 fun _=>rfl
 |n+1=>stO (T:=qFZ n) (by kernel_rfl) (qJv n) [] (fun _=>(by kernel_rfl)) fun _=>(by kernel_rfl)
def qKW:Sg:=⟨196,[(.c (.ptr 0 0 0 0 0)),(.agg [qI,qI,qI,qI,qS,qI,qI,qB,qB,qI,qI,qB,qB,qL])],[[(0,⟨0,3,198,(.box [qS,(.own 0 1 1 0),qB])⟩),(1,⟨1,14,162,(.row [])⟩)]],⟨aI,[[(0,⟨0,3,198,(.box [qS,(.own 0 1 1 0),qB])⟩),(1,⟨1,14,162,(.row [])⟩)]],[]⟩⟩
def qF8 (n:Nat) (x0 x1 x2 x3:Int) (x4:BA) (x5 x6:Int) (x7 x8:Bool) (x9 x10:Int) (x11 x12:Bool) (x13:RW) (x14:BA) (x15:Nat) (x16:Bool) (x17:RW):Tr (Int×BA×Nat×Bool×RW):=(.ask (x16) (.ask (false) (.ask (decide (1=([[(.i .i64 x0),(.i .i64 x1),(.i .i64 x2),(.i .i64 x3),(.s x4),(.i .i64 x5),(.i .i64 x6),(.b x7),(.b x8),(.i .i64 x9),(.i .i64 x10),(.b x11),(.b x12),(.ls x13)]]:RW).length)) (.ask (decide (x15=x17.length∧0<14∧0<120∧(x15+([[(.i .i64 x0),(.i .i64 x1),(.i .i64 x2),(.i .i64 x3),(.s x4),(.i .i64 x5),(.i .i64 x6),(.b x7),(.b x8),(.i .i64 x9),(.i .i64 x10),(.b x11),(.b x12),(.ls x13)]]:RW).length)*120≤140737488355328∧([[(.i .i64 x0),(.i .i64 x1),(.i .i64 x2),(.i .i64 x3),(.s x4),(.i .i64 x5),(.i .i64 x6),(.b x7),(.b x8),(.i .i64 x9),(.i .i64 x10),(.b x11),(.b x12),(.ls x13)]]:RW).all (fun e=>e.length==14)=true)) (.done ((IntKind.i64.wrap ((((x15+1):Nat):Int)-(1:Int))),x14,(x15+1),true,(x17++([[(.i .i64 x0),(.i .i64 x1),(.i .i64 x2),(.i .i64 x3),(.s x4),(.i .i64 x5),(.i .i64 x6),(.b x7),(.b x8),(.i .i64 x9),(.i .i64 x10),(.b x11),(.b x12),(.ls x13)]]:RW)))) .fail) .fail) (.done ((IntKind.i64.wrap (((x15:Nat):Int)-(1:Int))),x14,x15,true,x17))) (.ask ((!(decide (((x15:Nat):Int)≥(60:Int))))) (.ask (decide (1=([[(.i .i64 x0),(.i .i64 x1),(.i .i64 x2),(.i .i64 x3),(.s x4),(.i .i64 x5),(.i .i64 x6),(.b x7),(.b x8),(.i .i64 x9),(.i .i64 x10),(.b x11),(.b x12),(.ls x13)]]:RW).length)) (.ask (decide (x15=x17.length∧0<14∧0<120∧(x15+([[(.i .i64 x0),(.i .i64 x1),(.i .i64 x2),(.i .i64 x3),(.s x4),(.i .i64 x5),(.i .i64 x6),(.b x7),(.b x8),(.i .i64 x9),(.i .i64 x10),(.b x11),(.b x12),(.ls x13)]]:RW).length)*120≤140737488355328∧([[(.i .i64 x0),(.i .i64 x1),(.i .i64 x2),(.i .i64 x3),(.s x4),(.i .i64 x5),(.i .i64 x6),(.b x7),(.b x8),(.i .i64 x9),(.i .i64 x10),(.b x11),(.b x12),(.ls x13)]]:RW).all (fun e=>e.length==14)=true)) (.done ((IntKind.i64.wrap ((((x15+1):Nat):Int)-(1:Int))),x14,(x15+1),(decide (((x15:Nat):Int)≥(60:Int))),(x17++([[(.i .i64 x0),(.i .i64 x1),(.i .i64 x2),(.i .i64 x3),(.s x4),(.i .i64 x5),(.i .i64 x6),(.b x7),(.b x8),(.i .i64 x9),(.i .i64 x10),(.b x11),(.b x12),(.ls x13)]]:RW)))) .fail) .fail) (.done ((IntKind.i64.wrap (((x15:Nat):Int)-(1:Int))),x14,x15,(decide (((x15:Nat):Int)≥(60:Int))),x17))))
def qm:Nat→Int→Int→Int→Int→BA→Int→Int→Bool→Bool→Int→Int→Bool→Bool→RW→BA→Nat→Bool→RW→Option (Int×BA×Nat×Bool×RW)
 |0,_,_,_,_,_,_,_,_,_,_,_,_,_,_,_,_,_,_=>none
 |n+1,x0,x1,x2,x3,x4,x5,x6,x7,x8,x9,x10,x11,x12,x13,x14,x15,x16,x17=>(qF8 n x0 x1 x2 x3 x4 x5 x6 x7 x8 x9 x10 x11 x12 x13 x14 x15 x16 x17).run
theorem qB5:∀n,Ok (Rn n) qKW (qm n)
 |0=>ok0 fun _=>rfl
 |n+1=>stO (T:=qF8 n) (by kernel_rfl) [] [] (fun _=>(by kernel_rfl)) fun _=>(by kernel_rfl)
def qJZ:Sg:=⟨261,[aS,aS],[],⟨(.tup [(false,[qS]),(false,[qS]),(false,[qB])]),[],[]⟩⟩
def qGb:Nat→BA→BA→Option ((BA×BA×Bool))
 |0,_,_=>none
 |n+1,x0,x1=>zAP x0 x1
theorem qMs:∀n,Ok (Rn n) qJZ (qGb n)
 |0=>ok0 fun _=>rfl
 |n+1=>stL (by kernel_rfl) (fun a r e=>congrArg (Option.map fun r=>(qJZ.Of r).v) e) rfl rfl rfl
def qHG:Sg:=⟨244,[(.c (.ptr 0 0 0 0 0)),(.agg [qI,qI,qS])],[[(0,⟨0,3,198,(.box [qS,(.own 0 1 1 0),qB])⟩),(1,⟨1,14,162,(.row [])⟩)]],⟨aI,[[(0,⟨0,3,198,(.box [qS,(.own 0 1 1 0),qB])⟩),(1,⟨1,14,162,(.row [])⟩)]],[]⟩⟩
def qD2 (n:Nat) (x0 x1:Int) (x2 x3:BA) (x4:Nat) (x5:Bool) (x6:RW):Tr (Int×BA×Nat×Bool×RW):=(.opt (qm n (1:Int) (0:Int) x0 x1 x2 (0:Int) (0:Int) false false (0:Int) (0:Int) false false ([]:RW) x3 x4 x5 x6) fun r78=>(.done (r78.1,r78.2.1,r78.2.2.1,r78.2.2.2.1,r78.2.2.2.2)))
def qh:Nat→Int→Int→BA→BA→Nat→Bool→RW→Option (Int×BA×Nat×Bool×RW)
 |0,_,_,_,_,_,_,_=>none
 |n+1,x0,x1,x2,x3,x4,x5,x6=>(qD2 n x0 x1 x2 x3 x4 x5 x6).run
abbrev qHH (n:Nat):List (Ent (Rn n)):= [en (qB5 n)]
theorem qDo:∀n,Ok (Rn n) qHG (qh n)
 |0=>ok0 fun _=>rfl
 |n+1=>stO (T:=qD2 n) (by kernel_rfl) (qHH n) [] (fun _=>(by kernel_rfl)) fun _=>(by kernel_rfl)
def qIS:Sg:=⟨243,[(.c (.ptr 0 0 0 0 0))],[[(0,⟨0,3,198,(.box [qS,(.own 0 1 1 0),qB])⟩),(1,⟨1,14,162,(.row [])⟩)]],⟨aI,[[(0,⟨0,3,198,(.box [qS,(.own 0 1 1 0),qB])⟩),(1,⟨1,14,162,(.row [])⟩)]],[]⟩⟩
def qCl (n:Nat) (v:BA×BA×BA×Nat×Bool×RW):Tr ((BA×BA×BA×Nat×Bool×RW)⊕((Int×BA×Nat×Bool×RW)⊕(BA×BA×BA×Nat×Bool×RW))):=(.opt (qGb n v.2.1 (⟨#[34]⟩:BA)) fun r73=>(.ask ((!r73.2.2)) (.done (.inr (.inl (((-1:Int),v.2.2.1,v.2.2.2.1,true,v.2.2.2.2.2))))) (.ask (decide (v.1.size+r73.1.size≤9223372036854775807)) (.opt (qj n r73.2.1 (⟨#[34]⟩:BA)) fun r74=>(.ask ((!r74)) (.done (.inr (.inr (((v.1++r73.1),r73.2.1,v.2.2.1,v.2.2.2.1,v.2.2.2.2.1,v.2.2.2.2.2))))) (.ask (decide ((v.1++r73.1).size+(⟨#[34]⟩:BA).size≤9223372036854775807)) (.ask (decide (0≤(1:Int)∧(1:Int)≤(r73.2.1.size:Int)∧(r73.2.1.size:Int)≤r73.2.1.size)) (.done (.inl (((v.1++r73.1)++(⟨#[34]⟩:BA)),(r73.2.1.extract ((1:Int)).toNat ((r73.2.1.size:Int)).toNat),v.2.2.1,v.2.2.2.1,v.2.2.2.2.1,v.2.2.2.2.2))) .fail) .fail))) .fail)))
def qEc (n:Nat) (x0:BA) (x1:Nat) (x2:Bool) (x3:RW):Tr (Int×BA×Nat×Bool×RW):=(.ask (decide (0≤(1:Int)∧(1:Int)≤(x0.size:Int)∧(x0.size:Int)≤x0.size)) (.opt (zC (qCl n) n ((⟨#[]⟩:BA),(x0.extract ((1:Int)).toNat ((x0.size:Int)).toNat),x0,x1,x2,x3)) fun r75=>(.alt r75 (fun r76=>(.done (r76.1,r76.2.1,r76.2.2.1,r76.2.2.2.1,r76.2.2.2.2))) (fun r77=>(.opt (qh n (2:Int) (0:Int) r77.1 r77.2.1 r77.2.2.2.1 r77.2.2.2.2.1 r77.2.2.2.2.2) fun r79=>(.done (r79.1,r79.2.1,r79.2.2.1,r79.2.2.2.1,r79.2.2.2.2)))))) .fail)
def qC8:Nat→BA→Nat→Bool→RW→Option (Int×BA×Nat×Bool×RW)
 |0,_,_,_,_=>none
 |n+1,x0,x1,x2,x3=>(qEc n x0 x1 x2 x3).run
abbrev qEd (n:Nat):List (Ent (Rn n)):= [en (qMs n),en (qCK n),en (qDo n)]
def qGw (n:Nat):LEnt (KB 243) (Rn n) n:=lok (zT 243) 14 ⟨⟨[(0,(.c (.ptr 0 0 0 0 0))),(3,aS),(4,aS)],[],[[(0,⟨0,3,198,(.box [qS,(.own 0 1 1 0),qB])⟩),(1,⟨1,14,162,(.row [])⟩)]]⟩,[(.ret,⟨[(2,aI)],[],[[(0,⟨0,3,198,(.box [qS,(.own 0 1 1 0),qB])⟩),(1,⟨1,14,162,(.row [])⟩)]]⟩),(.exit 0,⟨[(0,(.c (.ptr 0 0 0 0 0))),(3,aS),(4,aS)],[],[[(0,⟨0,3,198,(.box [qS,(.own 0 1 1 0),qB])⟩),(1,⟨1,14,162,(.row [])⟩)]]⟩)]⟩ (qCl n) (qEd n) [] fun _=>(by kernel_rfl)
theorem qH1:∀n,Ok (Rn n) qIS (qC8 n)
 |0=>ok0 fun _=>rfl
 |n+1=>stO (T:=qEc n) (by kernel_rfl) (qEd n) [qGw n] (fun _=>(by kernel_rfl)) fun _=>(by kernel_rfl)
def qLC:Sg:=⟨205,[aI],[],⟨aS,[],[]⟩⟩
def qEM (n:Nat) (x0:Int):Tr (BA):=(.ask (decide (6=([[(.s (⟨#[]⟩:BA))],[(.s (⟨#[35,68,73,86,33]⟩:BA))],[(.s (⟨#[35,84,89,80,69,33]⟩:BA))],[(.s (⟨#[35,82,69,70,33]⟩:BA))],[(.s (⟨#[35,79,86,69,82,33]⟩:BA))],[(.s (⟨#[35,67,89,67,76,69,33]⟩:BA))]]:RW).length∧0≤x0∧x0<((6:Nat):Int))) (.opt (([[(.s (⟨#[]⟩:BA))],[(.s (⟨#[35,68,73,86,33]⟩:BA))],[(.s (⟨#[35,84,89,80,69,33]⟩:BA))],[(.s (⟨#[35,82,69,70,33]⟩:BA))],[(.s (⟨#[35,79,86,69,82,33]⟩:BA))],[(.s (⟨#[35,67,89,67,76,69,33]⟩:BA))]]:RW)[(x0).toNat]?) fun e82=>(.opt (zj e82 0) fun y83=>(.done y83))) .fail)
def qAa:Nat→Int→Option (BA)
 |0,_=>none
 |n+1,x0=>(qEM n x0).run
theorem qD3:∀n,Ok (Rn n) qLC (qAa n)
 |0=>ok0 fun _=>rfl
 |n+1=>stO (T:=qEM n) (by kernel_rfl) [] [] (fun _=>(by kernel_rfl)) fun _=>(by kernel_rfl)
def qOU:Sg:=⟨206,[aI],[],⟨(.agg [qI,qI,qS]),[],[]⟩⟩
def qHI (n:Nat) (x0:Int):Tr (Int×Int×BA):=(.done ((4:Int),x0,(⟨#[]⟩:BA)))
def qBe:Nat→Int→Option (Int×Int×BA)
 |0,_=>none
 |n+1,x0=>(qHI n x0).run
theorem qJa:∀n,Ok (Rn n) qOU (qBe n)
 |0=>ok0 fun _=>rfl
 |n+1=>stO (T:=qHI n) (by kernel_rfl) [] [] (fun _=>(by kernel_rfl)) fun _=>(by kernel_rfl)
def qJw:Sg:=⟨245,[(.c (.ptr 0 0 0 0 0))],[[(0,⟨0,3,198,(.box [qS,(.own 0 1 1 0),qB])⟩),(1,⟨1,14,162,(.row [])⟩)]],⟨aS,[[(0,⟨0,3,198,(.box [qS,(.own 0 1 1 0),qB])⟩),(1,⟨1,14,162,(.row [])⟩)]],[]⟩⟩
def qFa (n:Nat) (x0:BA) (x1:Nat) (x2:Bool) (x3:RW):Tr (BA×BA×Nat×Bool×RW):=(.opt (qAn n x0 x1 x2 x3) fun r89=>(.opt (qA7 n r89.1 (⟨#[65,66,67,68,69,70,71,72,73,74,75,76,77,78,79,80,81,82,83,84,85,86,87,88,89,90,48,49,50,51,52,53,54,55,56,57,36]⟩:BA)) fun r90=>(.ask (decide (0≤(0:Int)∧(0:Int)≤(IntKind.i64.wrap ((r89.1.size:Int)-(r90.size:Int)))∧(IntKind.i64.wrap ((r89.1.size:Int)-(r90.size:Int)))≤r89.1.size)) (.ask (decide (0≤(IntKind.i64.wrap ((r89.1.size:Int)-(r90.size:Int)))∧(IntKind.i64.wrap ((r89.1.size:Int)-(r90.size:Int)))≤(r89.1.size:Int)∧(r89.1.size:Int)≤r89.1.size)) (.done ((r89.1.extract ((0:Int)).toNat ((IntKind.i64.wrap ((r89.1.size:Int)-(r90.size:Int)))).toNat),(r89.1.extract ((IntKind.i64.wrap ((r89.1.size:Int)-(r90.size:Int)))).toNat ((r89.1.size:Int)).toNat),r89.2.1,r89.2.2.1,r89.2.2.2)) .fail) .fail)))
def qA8:Nat→BA→Nat→Bool→RW→Option (BA×BA×Nat×Bool×RW)
 |0,_,_,_,_=>none
 |n+1,x0,x1,x2,x3=>(qFa n x0 x1 x2 x3).run
abbrev qJx (n:Nat):List (Ent (Rn n)):= [en (qB8 n),en (qDQ n)]
theorem qE3:∀n,Ok (Rn n) qJw (qA8 n)
 |0=>ok0 fun _=>rfl
 |n+1=>stO (T:=qFa n) (by kernel_rfl) (qJx n) [] (fun _=>(by kernel_rfl)) fun _=>(by kernel_rfl)
def qMt:Sg:=⟨170,[(.agg [qI,qI,qS])],[],⟨aB,[],[]⟩⟩
def qFb (n:Nat) (x0 x1:Int) (x2:BA):Tr (Bool):=(.ask ((x0==(2:Int))) (.ask ((x1==(0:Int))) (.opt (qCT n x2 (200:Int)) fun r93=>(.done r93)) (.done false)) (.ask ((!(x2.toList==(⟨#[]⟩:BA).toList))) (.done false) (.ask ((x0==(0:Int))) (.done (x1==(0:Int))) (.ask ((x0==(1:Int))) (.opt (qAC n x1 (-1000000000000000:Int) (1000000000000000:Int)) fun r94=>(.done r94)) (.ask ((x0==(3:Int))) (.opt (qAC n x1 (0:Int) (1:Int)) fun r95=>(.done r95)) (.ask ((x0==(4:Int))) (.opt (qAC n x1 (1:Int) (5:Int)) fun r96=>(.done r96)) (.done false)))))))
def qAL:Nat→Int→Int→BA→Option (Bool)
 |0,_,_,_=>none
 |n+1,x0,x1,x2=>(qFb n x0 x1 x2).run
abbrev qMu (n:Nat):List (Ent (Rn n)):= [en (qFV n),en (qCk n)]
theorem qEu:∀n,Ok (Rn n) qMt (qAL n)
 |0=>ok0 fun _=>rfl
 |n+1=>stO (T:=qFb n) (by kernel_rfl) (qMu n) [] (fun _=>(by kernel_rfl)) fun _=>(by kernel_rfl)
def qE4:Sg:=⟨144,[aI,aI],[],⟨aS,[],[]⟩⟩
def qDR:Nat→Int→Int→Option ((BA))
 |0,_,_=>none
 |n+1,x0,x1=>zc x0 x1
theorem qIT:∀n,Ok (Rn n) qE4 (qDR n)
 |0=>ok0 fun _=>rfl
 |n+1=>stL (by kernel_rfl) (fun a r e=>congrArg (Option.map fun r=>(qE4.Of r).v) e) rfl rfl rfl
def qMv:Sg:=⟨103,[aI],[],⟨aS,[],[]⟩⟩
def qFc (n:Nat) (x0:Int):Tr (BA):=(.opt (qDR n x0 (10:Int)) fun r98=>(.done r98))
def qA2:Nat→Int→Option (BA)
 |0,_=>none
 |n+1,x0=>(qFc n x0).run
abbrev qMw (n:Nat):List (Ent (Rn n)):= [en (qIT n)]
theorem qEv:∀n,Ok (Rn n) qMv (qA2 n)
 |0=>ok0 fun _=>rfl
 |n+1=>stO (T:=qFc n) (by kernel_rfl) (qMw n) [] (fun _=>(by kernel_rfl)) fun _=>(by kernel_rfl)
def qLD:Sg:=⟨207,[(.agg [qI,qI,qS])],[],⟨aS,[],[]⟩⟩
def qBZ (n:Nat) (x0 x1:Int) (x2:BA):Tr (BA):=(.ask ((x0==(1:Int))) (.opt (qA2 n x1) fun r99=>(.done r99)) (.ask ((x0==(2:Int))) (.ask (decide ((⟨#[39]⟩:BA).size+x2.size≤9223372036854775807)) (.done ((⟨#[39]⟩:BA)++x2)) .fail) (.ask ((x0==(3:Int))) (.ask (decide (2=([[(.s (⟨#[70,65,76,83,69]⟩:BA))],[(.s (⟨#[84,82,85,69]⟩:BA))]]:RW).length∧0≤x1∧x1<((2:Nat):Int))) (.opt (([[(.s (⟨#[70,65,76,83,69]⟩:BA))],[(.s (⟨#[84,82,85,69]⟩:BA))]]:RW)[(x1).toNat]?) fun e100=>(.opt (zj e100 0) fun y101=>(.done y101))) .fail) (.ask ((x0==(4:Int))) (.opt (qAa n x1) fun r102=>(.done r102)) (.done (⟨#[]⟩:BA))))))
def qn:Nat→Int→Int→BA→Option (BA)
 |0,_,_,_=>none
 |n+1,x0,x1,x2=>(qBZ n x0 x1 x2).run
abbrev qLE (n:Nat):List (Ent (Rn n)):= [en (qEv n),en (qD3 n)]
theorem qF9:∀n,Ok (Rn n) qLD (qn n)
 |0=>ok0 fun _=>rfl
 |n+1=>stO (T:=qBZ n) (by kernel_rfl) (qLE n) [] (fun _=>(by kernel_rfl)) fun _=>(by kernel_rfl)
def qOV:Sg:=⟨203,[aB],[],⟨(.agg [qI,qI,qS]),[],[]⟩⟩
def qHJ (n:Nat) (x0:Bool):Tr (Int×Int×BA):=(.ask (x0) (.done ((3:Int),(1:Int),(⟨#[]⟩:BA))) (.done ((3:Int),(0:Int),(⟨#[]⟩:BA))))
def qD4:Nat→Bool→Option (Int×Int×BA)
 |0,_=>none
 |n+1,x0=>(qHJ n x0).run
theorem qNj:∀n,Ok (Rn n) qOV (qD4 n)
 |0=>ok0 fun _=>rfl
 |n+1=>stO (T:=qHJ n) (by kernel_rfl) [] [] (fun _=>(by kernel_rfl)) fun _=>(by kernel_rfl)
def qJy:Sg2:=⟨168,[aS,aI,aI],(.tup [(false,[qI]),(false,[(.p .nif)])]),(.tup [(false,[qI]),(false,[(.p .ifc)])])⟩
def qAo:Nat→BA→Int→Int→Option ((Int)⊕(Int))
 |0,_,_,_=>none
 |n+1,x0,x1,x2=>zK x0 x1 x2
theorem qDS:∀n,Ok2 (Rn n) qJy (qAo n)
 |0=>fun a r e=>by cases e
 |n+1=>zKk (by kernel_rfl) fun a r e=>by
  rcases r with r|r
  ·exact congrArg (Option.map zAA) e
  ·exact congrArg (Option.map zAA) e
def qNk:Sg:=⟨171,[aI],[],⟨(.agg [qI,qI,qS]),[],[]⟩⟩
def qGc (n:Nat) (x0:Int):Tr (Int×Int×BA):=(.done ((1:Int),x0,(⟨#[]⟩:BA)))
def qCU:Nat→Int→Option (Int×Int×BA)
 |0,_=>none
 |n+1,x0=>(qGc n x0).run
theorem qIU:∀n,Ok (Rn n) qNk (qCU n)
 |0=>ok0 fun _=>rfl
 |n+1=>stO (T:=qGc n) (by kernel_rfl) [] [] (fun _=>(by kernel_rfl)) fun _=>(by kernel_rfl)
def qLF:Sg:=⟨172,[aS],[],⟨(.tup [(true,[qI,qI,qS]),(false,[qB])]),[],[]⟩⟩
def qA1 (n:Nat) (v:BA×Int×Int×Int×BA×Int×Int×BA):Tr ((BA×Int×Int×Int×BA×Int×Int×BA)⊕((BA×Int×Int×BA×Int×Int×BA))):=(.ask ((decide (v.2.1≤(5:Int)))) (.opt (qAa n v.2.1) fun r111=>(.ask ((r111.toList==v.1.toList)) (.opt (qBe n v.2.1) fun r112=>(.done (.inl (v.1,(IntKind.i64.wrap (v.2.1+(1:Int))),v.2.2.1,v.2.2.2.1,v.2.2.2.2.1,r112.1,r112.2.1,r112.2.2)))) (.done (.inl (v.1,(IntKind.i64.wrap (v.2.1+(1:Int))),v.2.2.1,v.2.2.2.1,v.2.2.2.2.1,v.2.2.2.2.2.1,v.2.2.2.2.2.2.1,v.2.2.2.2.2.2.2))))) (.done (.inr ((v.1,v.2.2.1,v.2.2.2.1,v.2.2.2.2.1,v.2.2.2.2.2.1,v.2.2.2.2.2.2.1,v.2.2.2.2.2.2.2)))))
def qBA (n:Nat) (x0:BA):Tr (Int×Int×BA×Bool):=(.opt (qAB n x0 (⟨#[39]⟩:BA)) fun r92=>(.ask (r92.2) (.opt (qAL n (2:Int) (0:Int) r92.1) fun r97=>(.ask ((!r97)) (.done ((0:Int),(0:Int),(⟨#[]⟩:BA),false)) (.opt (qn n (2:Int) (0:Int) r92.1) fun r103=>(.ask ((!(r103.toList==x0.toList))) (.done ((0:Int),(0:Int),(⟨#[]⟩:BA),false)) (.done ((2:Int),(0:Int),r92.1,true)))))) (.ask ((x0.toList==(⟨#[70,65,76,83,69]⟩:BA).toList)) (.opt (qD4 n (x0.toList==(⟨#[84,82,85,69]⟩:BA).toList)) fun r104=>(.opt (qAL n r104.1 r104.2.1 r104.2.2) fun r105=>(.ask ((!r105)) (.done ((0:Int),(0:Int),(⟨#[]⟩:BA),false)) (.opt (qn n r104.1 r104.2.1 r104.2.2) fun r106=>(.ask ((!(r106.toList==x0.toList))) (.done ((0:Int),(0:Int),(⟨#[]⟩:BA),false)) (.done (r104.1,r104.2.1,r104.2.2,true))))))) (.ask ((x0.toList==(⟨#[84,82,85,69]⟩:BA).toList)) (.opt (qD4 n (x0.toList==(⟨#[84,82,85,69]⟩:BA).toList)) fun r107=>(.opt (qAL n r107.1 r107.2.1 r107.2.2) fun r108=>(.ask ((!r108)) (.done ((0:Int),(0:Int),(⟨#[]⟩:BA),false)) (.opt (qn n r107.1 r107.2.1 r107.2.2) fun r109=>(.ask ((!(r109.toList==x0.toList))) (.done ((0:Int),(0:Int),(⟨#[]⟩:BA),false)) (.done (r107.1,r107.2.1,r107.2.2,true))))))) (.opt (qj n x0 (⟨#[35]⟩:BA)) fun r110=>(.ask (r110) (.opt (zC (qA1 n) n (x0,(1:Int),(0:Int),(0:Int),(⟨#[]⟩:BA),(0:Int),(0:Int),(⟨#[]⟩:BA))) fun r113=>(.opt (qAL n r113.2.2.2.2.1 r113.2.2.2.2.2.1 r113.2.2.2.2.2.2) fun r114=>(.ask ((!r114)) (.done ((0:Int),(0:Int),(⟨#[]⟩:BA),false)) (.opt (qn n r113.2.2.2.2.1 r113.2.2.2.2.2.1 r113.2.2.2.2.2.2) fun r115=>(.ask ((!(r115.toList==r113.1.toList))) (.done ((0:Int),(0:Int),(⟨#[]⟩:BA),false)) (.done (r113.2.2.2.2.1,r113.2.2.2.2.2.1,r113.2.2.2.2.2.2,true))))))) (.ask ((!(x0.toList==(⟨#[]⟩:BA).toList))) (.opt (qAo n x0 (10:Int) (64:Int)) fun r116=>(.alt r116 (fun r117=>(.opt (qCU n r117) fun r119=>(.opt (qAL n r119.1 r119.2.1 r119.2.2) fun r120=>(.ask ((!r120)) (.done ((0:Int),(0:Int),(⟨#[]⟩:BA),false)) (.opt (qn n r119.1 r119.2.1 r119.2.2) fun r121=>(.ask ((!(r121.toList==x0.toList))) (.done ((0:Int),(0:Int),(⟨#[]⟩:BA),false)) (.done (r119.1,r119.2.1,r119.2.2,true)))))))) (fun r118=>(.opt (qCU n r118) fun r122=>(.opt (qAL n r122.1 r122.2.1 r122.2.2) fun r123=>(.ask ((!r123)) (.done ((0:Int),(0:Int),(⟨#[]⟩:BA),false)) (.opt (qn n r122.1 r122.2.1 r122.2.2) fun r124=>(.ask ((!(r124.toList==x0.toList))) (.done ((0:Int),(0:Int),(⟨#[]⟩:BA),false)) (.done (r122.1,r122.2.1,r122.2.2,true)))))))))) (.opt (qAL n (0:Int) (0:Int) (⟨#[]⟩:BA)) fun r125=>(.ask ((!r125)) (.done ((0:Int),(0:Int),(⟨#[]⟩:BA),false)) (.opt (qn n (0:Int) (0:Int) (⟨#[]⟩:BA)) fun r126=>(.ask ((!(r126.toList==x0.toList))) (.done ((0:Int),(0:Int),(⟨#[]⟩:BA),false)) (.done ((0:Int),(0:Int),(⟨#[]⟩:BA),true)))))))))))))
def qd:Nat→BA→Option (Int×Int×BA×Bool)
 |0,_=>none
 |n+1,x0=>(qBA n x0).run
abbrev qGx (n:Nat):List (Ent (Rn n)):= [en (qCJ n),en (qEu n),en (qF9 n),en (qNj n),en (qCK n),en (qD3 n),en (qJa n),en2 (qDS n),en (qIU n)]
def qH2 (n:Nat):LEnt (KB 172) (Rn n) n:=lok (zT 172) 3837 ⟨⟨[(0,aS),(2,(.c (.ptr 0 128 0 0 0))),(4,(.c (.ptr 0 256 0 0 0))),(7,aI)],[(128,⟨0,3,128,(.box [qI,qI,qS])⟩),(256,⟨0,3,128,(.box [qI,qI,qS])⟩)],[]⟩,[(.exit 1,⟨[(0,aS),(2,(.c (.ptr 0 128 0 0 0))),(4,(.c (.ptr 0 256 0 0 0)))],[(128,⟨0,3,128,(.box [qI,qI,qS])⟩),(256,⟨0,3,128,(.box [qI,qI,qS])⟩)],[]⟩)]⟩ (qA1 n) (qGx n) [] fun _=>(by kernel_rfl)
theorem qGA:∀n,Ok (Rn n) qLF (qd n)
 |0=>ok0 fun _=>rfl
 |n+1=>stO (T:=qBA n) (by kernel_rfl) (qGx n) [qH2 n] (fun _=>(by kernel_rfl)) fun _=>(by kernel_rfl)
def qMx:Sg:=⟨184,[aI],[],⟨aS,[],[]⟩⟩
def qC9 (n:Nat) (x0:Int):Tr (BA):=(.opt (qAC n x0 (1:Int) (52:Int)) fun r132=>(.ask ((!r132)) (.done (⟨#[]⟩:BA)) (.ask ((decide (x0≤(26:Int)))) (.ask (decide (1=([[(.i .u8 (IntKind.u8.wrap (IntKind.i64.wrap ((IntKind.i64.wrap ((65:Int)+x0))-(1:Int)))))]]:RW).length)) (.opt (bytesOf ([[(.i .u8 (IntKind.u8.wrap (IntKind.i64.wrap ((IntKind.i64.wrap ((65:Int)+x0))-(1:Int)))))]]:RW)) fun l133=>(.done (⟨l133.toArray⟩:BA))) .fail) (.ask (decide (2=([[(.i .u8 (IntKind.u8.wrap (IntKind.i64.wrap ((IntKind.i64.wrap ((65:Int)+(IntKind.i64.wrap (Int.tdiv (IntKind.i64.wrap (x0-(1:Int))) (26:Int)))))-(1:Int)))))],[(.i .u8 (IntKind.u8.wrap (IntKind.i64.wrap ((65:Int)+(Int.tmod (IntKind.i64.wrap (x0-(1:Int))) (26:Int))))))]]:RW).length)) (.opt (bytesOf ([[(.i .u8 (IntKind.u8.wrap (IntKind.i64.wrap ((IntKind.i64.wrap ((65:Int)+(IntKind.i64.wrap (Int.tdiv (IntKind.i64.wrap (x0-(1:Int))) (26:Int)))))-(1:Int)))))],[(.i .u8 (IntKind.u8.wrap (IntKind.i64.wrap ((65:Int)+(Int.tmod (IntKind.i64.wrap (x0-(1:Int))) (26:Int))))))]]:RW)) fun l134=>(.done (⟨l134.toArray⟩:BA))) .fail))))
def qBg:Nat→Int→Option (BA)
 |0,_=>none
 |n+1,x0=>(qC9 n x0).run
abbrev qMy (n:Nat):List (Ent (Rn n)):= [en (qCk n)]
theorem qHo:∀n,Ok (Rn n) qMx (qBg n)
 |0=>ok0 fun _=>rfl
 |n+1=>stO (T:=qC9 n) (by kernel_rfl) (qMy n) [] (fun _=>(by kernel_rfl)) fun _=>(by kernel_rfl)
def qMz:Sg:=⟨262,[aS],[],⟨aI,[],[]⟩⟩
def qCL (n:Nat) (v:BA×Int):Tr ((BA×Int)⊕((Int)⊕(Unit))):=(.ask ((decide (v.2≤(52:Int)))) (.opt (qBg n v.2) fun r132=>(.ask ((r132.toList==v.1.toList)) (.done (.inr (.inl (v.2)))) (.done (.inl (v.1,(IntKind.i64.wrap (v.2+(1:Int)))))))) (.done (.inr (.inr (())))))
def qFd (n:Nat) (x0:BA):Tr (Int):=(.opt (zC (qCL n) n (x0,(1:Int))) fun r133=>(.alt r133 (fun r134=>(.done r134)) (fun r135=>(.done (0:Int)))))
def qD5:Nat→BA→Option (Int)
 |0,_=>none
 |n+1,x0=>(qFd n x0).run
abbrev qIV (n:Nat):List (Ent (Rn n)):= [en (qHo n)]
def qKX (n:Nat):LEnt (KB 262) (Rn n) n:=lok (zT 262) 13 ⟨⟨[(0,aS),(3,aI)],[],[]⟩,[(.ret,⟨[(2,aI)],[],[]⟩),(.exit 0,⟨[],[],[]⟩)]⟩ (qCL n) (qIV n) [] fun _=>(by kernel_rfl)
theorem qL9:∀n,Ok (Rn n) qMz (qD5 n)
 |0=>ok0 fun _=>rfl
 |n+1=>stO (T:=qFd n) (by kernel_rfl) (qIV n) [qKX n] (fun _=>(by kernel_rfl)) fun _=>(by kernel_rfl)
def qLG:Sg:=⟨143,[(.agg [qI,qI,qB,qB])],[],⟨aS,[],[]⟩⟩
def qDH (n:Nat) (x0 x1:Int) (x2 x3:Bool):Tr (BA):=(.opt (qBK n x0 x1) fun r142=>(.ask ((!r142)) (.done (⟨#[]⟩:BA)) (.ask (x2) (.opt (qBg n x0) fun r143=>(.ask (decide ((⟨#[36]⟩:BA).size+r143.size≤9223372036854775807)) (.ask (x3) (.ask (decide (((⟨#[36]⟩:BA)++r143).size+(⟨#[36]⟩:BA).size≤9223372036854775807)) (.opt (qA2 n x1) fun r144=>(.ask (decide ((((⟨#[36]⟩:BA)++r143)++(⟨#[36]⟩:BA)).size+r144.size≤9223372036854775807)) (.done ((((⟨#[36]⟩:BA)++r143)++(⟨#[36]⟩:BA))++r144)) .fail)) .fail) (.opt (qA2 n x1) fun r145=>(.ask (decide (((⟨#[36]⟩:BA)++r143).size+r145.size≤9223372036854775807)) (.done (((⟨#[36]⟩:BA)++r143)++r145)) .fail))) .fail)) (.opt (qBg n x0) fun r146=>(.ask (decide ((⟨#[]⟩:BA).size+r146.size≤9223372036854775807)) (.ask (x3) (.ask (decide (((⟨#[]⟩:BA)++r146).size+(⟨#[36]⟩:BA).size≤9223372036854775807)) (.opt (qA2 n x1) fun r147=>(.ask (decide ((((⟨#[]⟩:BA)++r146)++(⟨#[36]⟩:BA)).size+r147.size≤9223372036854775807)) (.done ((((⟨#[]⟩:BA)++r146)++(⟨#[36]⟩:BA))++r147)) .fail)) .fail) (.opt (qA2 n x1) fun r148=>(.ask (decide (((⟨#[]⟩:BA)++r146).size+r148.size≤9223372036854775807)) (.done (((⟨#[]⟩:BA)++r146)++r148)) .fail))) .fail)))))
def qAw:Nat→Int→Int→Bool→Bool→Option (BA)
 |0,_,_,_,_=>none
 |n+1,x0,x1,x2,x3=>(qDH n x0 x1 x2 x3).run
abbrev qLH (n:Nat):List (Ent (Rn n)):= [en (qEZ n),en (qHo n),en (qEv n)]
theorem qGB:∀n,Ok (Rn n) qLG (qAw n)
 |0=>ok0 fun _=>rfl
 |n+1=>stO (T:=qDH n) (by kernel_rfl) (qLH n) [] (fun _=>(by kernel_rfl)) fun _=>(by kernel_rfl)
def qLI:Sg:=⟨246,[aS],[],⟨(.tup [(true,[qI,qI,qB,qB]),(false,[qB])]),[],[]⟩⟩
def qEN (n:Nat) (x0:BA):Tr (Int×Int×Bool×Bool×Bool):=(.opt (qAB n x0 (⟨#[36]⟩:BA)) fun r130=>(.opt (qA7 n r130.1 (⟨#[65,66,67,68,69,70,71,72,73,74,75,76,77,78,79,80,81,82,83,84,85,86,87,88,89,90]⟩:BA)) fun r131=>(.ask (decide (0≤(0:Int)∧(0:Int)≤(IntKind.i64.wrap ((r130.1.size:Int)-(r131.size:Int)))∧(IntKind.i64.wrap ((r130.1.size:Int)-(r131.size:Int)))≤r130.1.size)) (.opt (qD5 n (r130.1.extract ((0:Int)).toNat ((IntKind.i64.wrap ((r130.1.size:Int)-(r131.size:Int)))).toNat)) fun r136=>(.ask (decide (0≤(IntKind.i64.wrap ((r130.1.size:Int)-(r131.size:Int)))∧(IntKind.i64.wrap ((r130.1.size:Int)-(r131.size:Int)))≤(r130.1.size:Int)∧(r130.1.size:Int)≤r130.1.size)) (.opt (qAB n (r130.1.extract ((IntKind.i64.wrap ((r130.1.size:Int)-(r131.size:Int)))).toNat ((r130.1.size:Int)).toNat) (⟨#[36]⟩:BA)) fun r137=>(.opt (qAo n r137.1 (10:Int) (64:Int)) fun r138=>(.alt r138 (fun r139=>(.opt (qBK n r136 r139) fun r141=>(.ask ((!r141)) (.done ((0:Int),(0:Int),false,false,false)) (.opt (qAw n r136 r139 r130.2 r137.2) fun r149=>(.ask ((!(r149.toList==x0.toList))) (.done ((0:Int),(0:Int),false,false,false)) (.done (r136,r139,r130.2,r137.2,true))))))) (fun r140=>(.opt (qBK n r136 r140) fun r150=>(.ask ((!r150)) (.done ((0:Int),(0:Int),false,false,false)) (.opt (qAw n r136 r140 r130.2 r137.2) fun r151=>(.ask ((!(r151.toList==x0.toList))) (.done ((0:Int),(0:Int),false,false,false)) (.done (r136,r140,r130.2,r137.2,true)))))))))) .fail)) .fail)))
def qAb:Nat→BA→Option (Int×Int×Bool×Bool×Bool)
 |0,_=>none
 |n+1,x0=>(qEN n x0).run
abbrev qLJ (n:Nat):List (Ent (Rn n)):= [en (qCJ n),en (qDQ n),en (qL9 n),en2 (qDS n),en (qEZ n),en (qGB n)]
theorem qGC:∀n,Ok (Rn n) qLI (qAb n)
 |0=>ok0 fun _=>rfl
 |n+1=>stO (T:=qEN n) (by kernel_rfl) (qLJ n) [] (fun _=>(by kernel_rfl)) fun _=>(by kernel_rfl)
def qNl:Sg:=⟨247,[aI],[],⟨aS,[],[]⟩⟩
def qGd (n:Nat) (x0:Int):Tr (BA):=(.ask (decide (11=([[(.s (⟨#[]⟩:BA))],[(.s (⟨#[83,85,77]⟩:BA))],[(.s (⟨#[77,73,78]⟩:BA))],[(.s (⟨#[77,65,88]⟩:BA))],[(.s (⟨#[67,79,85,78,84]⟩:BA))],[(.s (⟨#[73,70]⟩:BA))],[(.s (⟨#[65,78,68]⟩:BA))],[(.s (⟨#[79,82]⟩:BA))],[(.s (⟨#[78,79,84]⟩:BA))],[(.s (⟨#[65,66,83]⟩:BA))],[(.s (⟨#[76,69,78]⟩:BA))]]:RW).length∧0≤x0∧x0<((11:Nat):Int))) (.opt (([[(.s (⟨#[]⟩:BA))],[(.s (⟨#[83,85,77]⟩:BA))],[(.s (⟨#[77,73,78]⟩:BA))],[(.s (⟨#[77,65,88]⟩:BA))],[(.s (⟨#[67,79,85,78,84]⟩:BA))],[(.s (⟨#[73,70]⟩:BA))],[(.s (⟨#[65,78,68]⟩:BA))],[(.s (⟨#[79,82]⟩:BA))],[(.s (⟨#[78,79,84]⟩:BA))],[(.s (⟨#[65,66,83]⟩:BA))],[(.s (⟨#[76,69,78]⟩:BA))]]:RW)[(x0).toNat]?) fun e154=>(.opt (zj e154 0) fun y155=>(.done y155))) .fail)
def qBy:Nat→Int→Option (BA)
 |0,_=>none
 |n+1,x0=>(qGd n x0).run
theorem qIW:∀n,Ok (Rn n) qNl (qBy n)
 |0=>ok0 fun _=>rfl
 |n+1=>stO (T:=qGd n) (by kernel_rfl) [] [] (fun _=>(by kernel_rfl)) fun _=>(by kernel_rfl)
def qHK:Sg:=⟨263,[(.c (.ptr 0 0 0 0 0))],[[(0,⟨0,3,198,(.box [qS,(.own 0 1 1 0),qB])⟩),(1,⟨1,14,162,(.row [])⟩)]],⟨(.tup [(true,[qI,qI,qI,qI,qS,qI,qI,qB,qB,qI,qI,qB,qB,qL]),(false,[qB])]),[[(0,⟨0,3,198,(.box [qS,(.own 0 1 1 0),qB])⟩),(1,⟨1,14,162,(.row [])⟩)]],[]⟩⟩
def qD6 (n:Nat) (x0:BA) (x1:Nat) (x2:Bool) (x3:RW):Tr (Int×Int×Int×Int×BA×Int×Int×Bool×Bool×Int×Int×Bool×Bool×RW×Bool×BA×Nat×Bool×RW):=(.opt (qA8 n x0 x1 x2 x3) fun r157=>(.opt (qAb n r157.1) fun r158=>(.ask (r158.2.2.2.2) (.opt (ql n (⟨#[58]⟩:BA) r157.2.1 r157.2.2.1 r157.2.2.2.1 r157.2.2.2.2) fun r159=>(.ask ((!r159.1)) (.done ((0:Int),(0:Int),(0:Int),(0:Int),(⟨#[]⟩:BA),(0:Int),(0:Int),false,false,(0:Int),(0:Int),false,false,([]:RW),false,x0,r159.2.2.1,r159.2.2.2.1,r159.2.2.2.2)) (.opt (qA8 n r159.2.1 r159.2.2.1 r159.2.2.2.1 r159.2.2.2.2) fun r160=>(.opt (qAb n r160.1) fun r161=>(.ask (r160.2.2.2.1) (.done ((3:Int),(0:Int),(0:Int),(0:Int),(⟨#[]⟩:BA),r158.1,r158.2.1,r158.2.2.1,r158.2.2.2.1,r161.1,r161.2.1,r161.2.2.1,r161.2.2.2.1,([]:RW),true,r160.2.1,r160.2.2.1,true,r160.2.2.2.2)) (.done ((3:Int),(0:Int),(0:Int),(0:Int),(⟨#[]⟩:BA),r158.1,r158.2.1,r158.2.2.1,r158.2.2.2.1,r161.1,r161.2.1,r161.2.2.1,r161.2.2.2.1,([]:RW),true,r160.2.1,r160.2.2.1,(!r161.2.2.2.2),r160.2.2.2.2))))))) (.done ((0:Int),(0:Int),(0:Int),(0:Int),(⟨#[]⟩:BA),(0:Int),(0:Int),false,false,(0:Int),(0:Int),false,false,([]:RW),false,x0,r157.2.2.1,r157.2.2.2.1,r157.2.2.2.2)))))
def qCs:Nat→BA→Nat→Bool→RW→Option (Int×Int×Int×Int×BA×Int×Int×Bool×Bool×Int×Int×Bool×Bool×RW×Bool×BA×Nat×Bool×RW)
 |0,_,_,_,_=>none
 |n+1,x0,x1,x2,x3=>(qD6 n x0 x1 x2 x3).run
abbrev qHL (n:Nat):List (Ent (Rn n)):= [en (qE3 n),en (qGC n),en (qBp n)]
theorem qGy:∀n,Ok (Rn n) qHK (qCs n)
 |0=>ok0 fun _=>rfl
 |n+1=>stO (T:=qD6 n) (by kernel_rfl) (qHL n) [] (fun _=>(by kernel_rfl)) fun _=>(by kernel_rfl)
def qNm:Sg:=⟨193,[aI],[],⟨aS,[],[]⟩⟩
def qGe (n:Nat) (x0:Int):Tr (BA):=(.ask (decide (12=([[(.s (⟨#[]⟩:BA))],[(.s (⟨#[43]⟩:BA))],[(.s (⟨#[45]⟩:BA))],[(.s (⟨#[42]⟩:BA))],[(.s (⟨#[47]⟩:BA))],[(.s (⟨#[38]⟩:BA))],[(.s (⟨#[61]⟩:BA))],[(.s (⟨#[60,62]⟩:BA))],[(.s (⟨#[60]⟩:BA))],[(.s (⟨#[60,61]⟩:BA))],[(.s (⟨#[62]⟩:BA))],[(.s (⟨#[62,61]⟩:BA))]]:RW).length∧0≤x0∧x0<((12:Nat):Int))) (.opt (([[(.s (⟨#[]⟩:BA))],[(.s (⟨#[43]⟩:BA))],[(.s (⟨#[45]⟩:BA))],[(.s (⟨#[42]⟩:BA))],[(.s (⟨#[47]⟩:BA))],[(.s (⟨#[38]⟩:BA))],[(.s (⟨#[61]⟩:BA))],[(.s (⟨#[60,62]⟩:BA))],[(.s (⟨#[60]⟩:BA))],[(.s (⟨#[60,61]⟩:BA))],[(.s (⟨#[62]⟩:BA))],[(.s (⟨#[62,61]⟩:BA))]]:RW)[(x0).toNat]?) fun e188=>(.opt (zj e188 0) fun y189=>(.done y189))) .fail)
def qBD:Nat→Int→Option (BA)
 |0,_=>none
 |n+1,x0=>(qGe n x0).run
theorem qIX:∀n,Ok (Rn n) qNm (qBD n)
 |0=>ok0 fun _=>rfl
 |n+1=>stO (T:=qGe n) (by kernel_rfl) [] [] (fun _=>(by kernel_rfl)) fun _=>(by kernel_rfl)
def qOW:Sg:=⟨194,[aI],[],⟨aI,[],[]⟩⟩
def qHM (n:Nat) (x0:Int):Tr (Int):=(.ask ((x0==(3:Int))) (.done (4:Int)) (.ask ((x0==(4:Int))) (.done (4:Int)) (.ask ((x0==(1:Int))) (.done (3:Int)) (.ask ((x0==(2:Int))) (.done (3:Int)) (.ask ((x0==(5:Int))) (.done (2:Int)) (.done (1:Int)))))))
def qDI:Nat→Int→Option (Int)
 |0,_=>none
 |n+1,x0=>(qHM n x0).run
theorem qJb:∀n,Ok (Rn n) qOW (qDI n)
 |0=>ok0 fun _=>rfl
 |n+1=>stO (T:=qHM n) (by kernel_rfl) [] [] (fun _=>(by kernel_rfl)) fun _=>(by kernel_rfl)
def qEe:Sg:=⟨159,[(.c (.ptr 0 0 0 0 0)),aI,aI],[[(0,⟨0,3,198,(.box [qS,(.own 0 1 1 0),qB])⟩),(1,⟨1,14,162,(.row [])⟩)]],⟨aI,[[(0,⟨0,3,198,(.box [qS,(.own 0 1 1 0),qB])⟩),(1,⟨1,14,162,(.row [])⟩)]],[]⟩⟩
def qJJ:Sg:=⟨191,[(.c (.ptr 0 0 0 0 0)),aI],[[(0,⟨0,3,198,(.box [qS,(.own 0 1 1 0),qB])⟩),(1,⟨1,14,162,(.row [])⟩)]],⟨aI,[[(0,⟨0,3,198,(.box [qS,(.own 0 1 1 0),qB])⟩),(1,⟨1,14,162,(.row [])⟩)]],[]⟩⟩
def qJz:Sg:=⟨223,[(.c (.ptr 0 0 0 0 0)),aI],[[(0,⟨0,3,198,(.box [qS,(.own 0 1 1 0),qB])⟩),(1,⟨1,14,162,(.row [])⟩)]],⟨aI,[[(0,⟨0,3,198,(.box [qS,(.own 0 1 1 0),qB])⟩),(1,⟨1,14,162,(.row [])⟩)]],[]⟩⟩
def qJ0:Sg:=⟨248,[(.c (.ptr 0 0 0 0 0)),aI,aI],[[(0,⟨0,3,198,(.box [qS,(.own 0 1 1 0),qB])⟩),(1,⟨1,14,162,(.row [])⟩)]],⟨aI,[[(0,⟨0,3,198,(.box [qS,(.own 0 1 1 0),qB])⟩),(1,⟨1,14,162,(.row [])⟩)]],[]⟩⟩
structure G_impl_reader_binary where
 impl_reader_binary:Int→Int→BA→Nat→Bool→RW→Option (Int×BA×Nat×Bool×RW)
 impl_reader_unary:Int→BA→Nat→Bool→RW→Option (Int×BA×Nat×Bool×RW)
 impl_reader_atom:Int→BA→Nat→Bool→RW→Option (Int×BA×Nat×Bool×RW)
 impl_reader_call:Int→Int→BA→Nat→Bool→RW→Option (Int×BA×Nat×Bool×RW)
def qA3 (n:Nat) (v:Int×Int×Int×Int×Int×BA×Nat×Bool×RW):Tr ((Int×Int×Int×Int×Int×BA×Nat×Bool×RW)⊕((Int×Int×Int×Int×BA×Nat×Bool×RW))):=(.ask ((decide (v.2.2.2.2.1≤(11:Int)))) (.opt (qBY n v.2.2.2.2.2.1 v.2.2.2.2.2.2.1 v.2.2.2.2.2.2.2.1 v.2.2.2.2.2.2.2.2) fun r187=>(.opt (qBD n v.2.2.2.2.1) fun r188=>(.ask ((r187.1.toList==r188.toList)) (.done (.inl (v.1,v.2.1,v.2.2.1,v.2.2.2.2.1,(IntKind.i64.wrap (v.2.2.2.2.1+(1:Int))),r187.2.1,r187.2.2.1,r187.2.2.2.1,r187.2.2.2.2))) (.done (.inl (v.1,v.2.1,v.2.2.1,v.2.2.2.1,(IntKind.i64.wrap (v.2.2.2.2.1+(1:Int))),r187.2.1,r187.2.2.1,r187.2.2.2.1,r187.2.2.2.2)))))) (.done (.inr ((v.1,v.2.1,v.2.2.1,v.2.2.2.1,v.2.2.2.2.2.1,v.2.2.2.2.2.2.1,v.2.2.2.2.2.2.2.1,v.2.2.2.2.2.2.2.2)))))
def qCm (rec:G_impl_reader_binary) (n:Nat) (v:Int×Int×Int×BA×Nat×Bool×RW):Tr ((Int×Int×Int×BA×Nat×Bool×RW)⊕((Int×BA×Nat×Bool×RW))):=(.ask ((!v.2.2.2.2.2.1)) (.opt (zC (qA3 n) n (v.1,v.2.1,v.2.2.1,(0:Int),(1:Int),v.2.2.2.1,v.2.2.2.2.1,v.2.2.2.2.2.1,v.2.2.2.2.2.2)) fun r189=>(.ask ((r189.2.2.2.1==(0:Int))) (.done (.inr ((r189.2.2.1,r189.2.2.2.2.1,r189.2.2.2.2.2.1,r189.2.2.2.2.2.2.1,r189.2.2.2.2.2.2.2)))) (.opt (qDI n r189.2.2.2.1) fun r190=>(.ask ((decide (r190<r189.1))) (.done (.inr ((r189.2.2.1,r189.2.2.2.2.1,r189.2.2.2.2.2.1,r189.2.2.2.2.2.2.1,r189.2.2.2.2.2.2.2)))) (.opt (qBD n r189.2.2.2.1) fun r191=>(.opt (ql n r191 r189.2.2.2.2.1 r189.2.2.2.2.2.1 r189.2.2.2.2.2.2.1 r189.2.2.2.2.2.2.2) fun r192=>(.opt (qDI n r189.2.2.2.1) fun r193=>(.opt (rec.impl_reader_binary (IntKind.i64.wrap (r193+(1:Int))) r189.2.1 r192.2.1 r192.2.2.1 r192.2.2.2.1 r192.2.2.2.2) fun r194=>(.ask (decide (2=([[(.i .i64 r189.2.2.1)],[(.i .i64 r194.1)]]:RW).length)) (.opt (qm n (5:Int) r189.2.2.2.1 (0:Int) (0:Int) (⟨#[]⟩:BA) (0:Int) (0:Int) false false (0:Int) (0:Int) false false ([[(.i .i64 r189.2.2.1)],[(.i .i64 r194.1)]]:RW) r194.2.1 r194.2.2.1 r194.2.2.2.1 r194.2.2.2.2) fun r195=>(.done (.inl (r189.1,r189.2.1,r195.1,r195.2.1,r195.2.2.1,r195.2.2.2.1,r195.2.2.2.2)))) .fail))))))))) (.done (.inr ((v.2.2.1,v.2.2.2.1,v.2.2.2.2.1,v.2.2.2.2.2.1,v.2.2.2.2.2.2)))))
def qEf (rec:G_impl_reader_binary) (n:Nat) (x0 x1:Int) (x2:BA) (x3:Nat) (x4:Bool) (x5:RW):Tr (Int×BA×Nat×Bool×RW):=(.opt (rec.impl_reader_unary x1 x2 x3 x4 x5) fun r186=>(.opt (zC (qCm rec n) n (x0,x1,r186.1,r186.2.1,r186.2.2.1,r186.2.2.2.1,r186.2.2.2.2)) fun r196=>(.done (r196.1,r196.2.1,r196.2.2.1,r196.2.2.2.1,r196.2.2.2.2))))
def qE5 (rec:G_impl_reader_binary) (n:Nat) (x0:Int) (x1:BA) (x2:Nat) (x3:Bool) (x4:RW):Tr (Int×BA×Nat×Bool×RW):=(.ask ((decide (x0>(400:Int)))) (.ask (true) (.done ((-1:Int),x1,x2,true,x4)) (.opt (ql n (⟨#[45]⟩:BA) x1 x2 true x4) fun r68=>(.ask (r68.1) (.opt (rec.impl_reader_unary (IntKind.i64.wrap (x0+(1:Int))) r68.2.1 r68.2.2.1 r68.2.2.2.1 r68.2.2.2.2) fun r69=>(.ask (decide (1=([[(.i .i64 r69.1)]]:RW).length)) (.opt (qm n (4:Int) (0:Int) (0:Int) (0:Int) (⟨#[]⟩:BA) (0:Int) (0:Int) false false (0:Int) (0:Int) false false ([[(.i .i64 r69.1)]]:RW) r69.2.1 r69.2.2.1 r69.2.2.2.1 r69.2.2.2.2) fun r70=>(.done (r70.1,r70.2.1,r70.2.2.1,r70.2.2.2.1,r70.2.2.2.2))) .fail)) (.opt (rec.impl_reader_atom x0 r68.2.1 r68.2.2.1 r68.2.2.2.1 r68.2.2.2.2) fun r181=>(.done (r181.1,r181.2.1,r181.2.2.1,r181.2.2.2.1,r181.2.2.2.2)))))) (.ask (x3) (.done ((-1:Int),x1,x2,x3,x4)) (.opt (ql n (⟨#[45]⟩:BA) x1 x2 x3 x4) fun r182=>(.ask (r182.1) (.opt (rec.impl_reader_unary (IntKind.i64.wrap (x0+(1:Int))) r182.2.1 r182.2.2.1 r182.2.2.2.1 r182.2.2.2.2) fun r183=>(.ask (decide (1=([[(.i .i64 r183.1)]]:RW).length)) (.opt (qm n (4:Int) (0:Int) (0:Int) (0:Int) (⟨#[]⟩:BA) (0:Int) (0:Int) false false (0:Int) (0:Int) false false ([[(.i .i64 r183.1)]]:RW) r183.2.1 r183.2.2.1 r183.2.2.2.1 r183.2.2.2.2) fun r184=>(.done (r184.1,r184.2.1,r184.2.2.1,r184.2.2.2.1,r184.2.2.2.2))) .fail)) (.opt (rec.impl_reader_atom x0 r182.2.1 r182.2.2.1 r182.2.2.2.1 r182.2.2.2.2) fun r185=>(.done (r185.1,r185.2.1,r185.2.2.1,r185.2.2.2.1,r185.2.2.2.2)))))))
def qBt (n:Nat) (v:Int×Int×BA×Nat×Bool×RW):Tr ((Int×Int×BA×Nat×Bool×RW)⊕((Int×BA×Nat×Bool×RW)⊕(Int×BA×Nat×Bool×RW))):=(.ask ((decide (v.2.1≤(5:Int)))) (.opt (qAa n v.2.1) fun r82=>(.opt (qAB n v.2.2.1 r82) fun r83=>(.ask (r83.2) (.opt (qBe n v.2.1) fun r84=>(.opt (qh n r84.1 r84.2.1 r84.2.2 r83.1 v.2.2.2.1 v.2.2.2.2.1 v.2.2.2.2.2) fun r85=>(.done (.inr (.inl ((r85.1,r85.2.1,r85.2.2.1,r85.2.2.2.1,r85.2.2.2.2))))))) (.done (.inl (v.1,(IntKind.i64.wrap (v.2.1+(1:Int))),v.2.2.1,v.2.2.2.1,v.2.2.2.2.1,v.2.2.2.2.2)))))) (.done (.inr (.inr ((v.1,v.2.2.1,v.2.2.2.1,v.2.2.2.2.1,v.2.2.2.2.2))))))
def qAe (rec:G_impl_reader_binary) (n:Nat) (v:Int×BA×Int×BA×Nat×Bool×RW):Tr ((Int×BA×Int×BA×Nat×Bool×RW)⊕((Int×BA×Nat×Bool×RW)⊕(BA×Nat×Bool×RW))):=(.ask ((decide (v.2.2.1≤(10:Int)))) (.opt (qBy n v.2.2.1) fun r154=>(.ask ((v.2.1.toList==r154.toList)) (.opt (rec.impl_reader_call v.2.2.1 v.1 v.2.2.2.1 v.2.2.2.2.1 v.2.2.2.2.2.1 v.2.2.2.2.2.2) fun r155=>(.done (.inr (.inl ((r155.1,r155.2.1,r155.2.2.1,r155.2.2.2.1,r155.2.2.2.2)))))) (.done (.inl (v.1,v.2.1,(IntKind.i64.wrap (v.2.2.1+(1:Int))),v.2.2.2.1,v.2.2.2.2.1,v.2.2.2.2.2.1,v.2.2.2.2.2.2))))) (.done (.inr (.inr ((v.2.2.2.1,v.2.2.2.2.1,v.2.2.2.2.2.1,v.2.2.2.2.2.2))))))
def qFe (rec:G_impl_reader_binary) (n:Nat) (x0:Int) (x1:BA) (x2:Nat) (x3:Bool) (x4:RW):Tr (Int×BA×Nat×Bool×RW):=(.opt (qAn n x1 x2 x3 x4) fun r71=>(.opt (qj n r71.1 (⟨#[34]⟩:BA)) fun r72=>(.ask (r72) (.opt (qC8 n r71.1 r71.2.1 r71.2.2.1 r71.2.2.2) fun r80=>(.done (r80.1,r80.2.1,r80.2.2.1,r80.2.2.2.1,r80.2.2.2.2))) (.opt (qj n r71.1 (⟨#[35]⟩:BA)) fun r81=>(.ask (r81) (.opt (zC (qBt n) n (x0,(1:Int),r71.1,r71.2.1,r71.2.2.1,r71.2.2.2)) fun r86=>(.alt r86 (fun r87=>(.done (r87.1,r87.2.1,r87.2.2.1,r87.2.2.2.1,r87.2.2.2.2))) (fun r88=>(.opt (qA8 n r88.2.1 r88.2.2.1 r88.2.2.2.1 r88.2.2.2.2) fun r91=>(.opt (qd n r91.1) fun r127=>(.ask (r127.2.2.2) (.ask ((r127.1==(1:Int))) (.opt (qh n r127.1 r127.2.1 r127.2.2.1 r91.2.1 r91.2.2.1 r91.2.2.2.1 r91.2.2.2.2) fun r128=>(.done (r128.1,r128.2.1,r128.2.2.1,r128.2.2.2.1,r128.2.2.2.2))) (.ask ((r127.1==(3:Int))) (.opt (qh n r127.1 r127.2.1 r127.2.2.1 r91.2.1 r91.2.2.1 r91.2.2.2.1 r91.2.2.2.2) fun r129=>(.done (r129.1,r129.2.1,r129.2.2.1,r129.2.2.2.1,r129.2.2.2.2))) (.opt (qAb n r91.1) fun r152=>(.ask (r152.2.2.2.2) (.opt (qm n (2:Int) (0:Int) (0:Int) (0:Int) (⟨#[]⟩:BA) r152.1 r152.2.1 r152.2.2.1 r152.2.2.2.1 (0:Int) (0:Int) false false ([]:RW) r91.2.1 r91.2.2.1 r91.2.2.2.1 r91.2.2.2.2) fun r153=>(.done (r153.1,r153.2.1,r153.2.2.1,r153.2.2.2.1,r153.2.2.2.2))) (.opt (zC (qAe rec n) n (r88.1,r91.1,(1:Int),r91.2.1,r91.2.2.1,r91.2.2.2.1,r91.2.2.2.2)) fun r156=>(.alt r156 (fun r157=>(.done (r157.1,r157.2.1,r157.2.2.1,r157.2.2.2.1,r157.2.2.2.2))) (fun r158=>(.done ((-1:Int),r158.1,r158.2.1,true,r158.2.2.2))))))))) (.opt (qAb n r91.1) fun r159=>(.ask (r159.2.2.2.2) (.opt (qm n (2:Int) (0:Int) (0:Int) (0:Int) (⟨#[]⟩:BA) r159.1 r159.2.1 r159.2.2.1 r159.2.2.2.1 (0:Int) (0:Int) false false ([]:RW) r91.2.1 r91.2.2.1 r91.2.2.2.1 r91.2.2.2.2) fun r160=>(.done (r160.1,r160.2.1,r160.2.2.1,r160.2.2.2.1,r160.2.2.2.2))) (.opt (zC (qAe rec n) n (r88.1,r91.1,(1:Int),r91.2.1,r91.2.2.1,r91.2.2.2.1,r91.2.2.2.2)) fun r161=>(.alt r161 (fun r162=>(.done (r162.1,r162.2.1,r162.2.2.1,r162.2.2.2.1,r162.2.2.2.2))) (fun r163=>(.done ((-1:Int),r163.1,r163.2.1,true,r163.2.2.2))))))))))))) (.opt (ql n (⟨#[40]⟩:BA) r71.1 r71.2.1 r71.2.2.1 r71.2.2.2) fun r164=>(.ask (r164.1) (.opt (rec.impl_reader_binary (1:Int) (IntKind.i64.wrap (x0+(1:Int))) r164.2.1 r164.2.2.1 r164.2.2.2.1 r164.2.2.2.2) fun r165=>(.ask (r165.2.2.2.1) (.done (r165.1,r165.2.1,r165.2.2.1,true,r165.2.2.2.2)) (.opt (ql n (⟨#[41]⟩:BA) r165.2.1 r165.2.2.1 r165.2.2.2.1 r165.2.2.2.2) fun r166=>(.done (r165.1,r166.2.1,r166.2.2.1,(!r166.1),r166.2.2.2.2))))) (.opt (qA8 n r164.2.1 r164.2.2.1 r164.2.2.2.1 r164.2.2.2.2) fun r167=>(.opt (qd n r167.1) fun r168=>(.ask (r168.2.2.2) (.ask ((r168.1==(1:Int))) (.opt (qh n r168.1 r168.2.1 r168.2.2.1 r167.2.1 r167.2.2.1 r167.2.2.2.1 r167.2.2.2.2) fun r169=>(.done (r169.1,r169.2.1,r169.2.2.1,r169.2.2.2.1,r169.2.2.2.2))) (.ask ((r168.1==(3:Int))) (.opt (qh n r168.1 r168.2.1 r168.2.2.1 r167.2.1 r167.2.2.1 r167.2.2.2.1 r167.2.2.2.2) fun r170=>(.done (r170.1,r170.2.1,r170.2.2.1,r170.2.2.2.1,r170.2.2.2.2))) (.opt (qAb n r167.1) fun r171=>(.ask (r171.2.2.2.2) (.opt (qm n (2:Int) (0:Int) (0:Int) (0:Int) (⟨#[]⟩:BA) r171.1 r171.2.1 r171.2.2.1 r171.2.2.2.1 (0:Int) (0:Int) false false ([]:RW) r167.2.1 r167.2.2.1 r167.2.2.2.1 r167.2.2.2.2) fun r172=>(.done (r172.1,r172.2.1,r172.2.2.1,r172.2.2.2.1,r172.2.2.2.2))) (.opt (zC (qAe rec n) n (x0,r167.1,(1:Int),r167.2.1,r167.2.2.1,r167.2.2.2.1,r167.2.2.2.2)) fun r173=>(.alt r173 (fun r174=>(.done (r174.1,r174.2.1,r174.2.2.1,r174.2.2.2.1,r174.2.2.2.2))) (fun r175=>(.done ((-1:Int),r175.1,r175.2.1,true,r175.2.2.2))))))))) (.opt (qAb n r167.1) fun r176=>(.ask (r176.2.2.2.2) (.opt (qm n (2:Int) (0:Int) (0:Int) (0:Int) (⟨#[]⟩:BA) r176.1 r176.2.1 r176.2.2.1 r176.2.2.2.1 (0:Int) (0:Int) false false ([]:RW) r167.2.1 r167.2.2.1 r167.2.2.2.1 r167.2.2.2.2) fun r177=>(.done (r177.1,r177.2.1,r177.2.2.1,r177.2.2.2.1,r177.2.2.2.2))) (.opt (zC (qAe rec n) n (x0,r167.1,(1:Int),r167.2.1,r167.2.2.1,r167.2.2.2.1,r167.2.2.2.2)) fun r178=>(.alt r178 (fun r179=>(.done (r179.1,r179.2.1,r179.2.2.1,r179.2.2.2.1,r179.2.2.2.2))) (fun r180=>(.done ((-1:Int),r180.1,r180.2.1,true,r180.2.2.2)))))))))))))))))
def qCA (rec:G_impl_reader_binary) (n:Nat) (v:Int×Int×Nat×RW×BA×Nat×Bool×RW):Tr ((Int×Int×Nat×RW×BA×Nat×Bool×RW)⊕((Int×Nat×RW×BA×Nat×Bool×RW))):=(.ask ((!v.2.2.2.2.2.2.1)) (.opt (qCs n v.2.2.2.2.1 v.2.2.2.2.2.1 v.2.2.2.2.2.2.1 v.2.2.2.2.2.2.2) fun r157=>(.ask (r157.2.2.2.2.2.2.2.2.2.2.2.2.2.2.1) (.opt (qm n r157.1 r157.2.1 r157.2.2.1 r157.2.2.2.1 r157.2.2.2.2.1 r157.2.2.2.2.2.1 r157.2.2.2.2.2.2.1 r157.2.2.2.2.2.2.2.1 r157.2.2.2.2.2.2.2.2.1 r157.2.2.2.2.2.2.2.2.2.1 r157.2.2.2.2.2.2.2.2.2.2.1 r157.2.2.2.2.2.2.2.2.2.2.2.1 r157.2.2.2.2.2.2.2.2.2.2.2.2.1 r157.2.2.2.2.2.2.2.2.2.2.2.2.2.1 r157.2.2.2.2.2.2.2.2.2.2.2.2.2.2.2.1 r157.2.2.2.2.2.2.2.2.2.2.2.2.2.2.2.2.1 r157.2.2.2.2.2.2.2.2.2.2.2.2.2.2.2.2.2.1 r157.2.2.2.2.2.2.2.2.2.2.2.2.2.2.2.2.2.2) fun r158=>(.ask (decide (1=([[(.i .i64 r158.1)]]:RW).length)) (.ask (decide (v.2.2.1=v.2.2.2.1.length∧0<1∧0<8∧(v.2.2.1+([[(.i .i64 r158.1)]]:RW).length)*8≤140737488355328∧([[(.i .i64 r158.1)]]:RW).all (fun e=>e.length==1)=true)) (.opt (ql n (⟨#[44]⟩:BA) r158.2.1 r158.2.2.1 r158.2.2.2.1 r158.2.2.2.2) fun r159=>(.ask ((!r159.1)) (.ask (r159.2.2.2.1) (.done (.inr ((v.1,(v.2.2.1+1),(v.2.2.2.1++([[(.i .i64 r158.1)]]:RW)),r159.2.1,r159.2.2.1,true,r159.2.2.2.2)))) (.opt (ql n (⟨#[41]⟩:BA) r159.2.1 r159.2.2.1 r159.2.2.2.1 r159.2.2.2.2) fun r160=>(.done (.inr ((v.1,(v.2.2.1+1),(v.2.2.2.1++([[(.i .i64 r158.1)]]:RW)),r160.2.1,r160.2.2.1,(!r160.1),r160.2.2.2.2)))))) (.done (.inl (v.1,v.2.1,(v.2.2.1+1),(v.2.2.2.1++([[(.i .i64 r158.1)]]:RW)),r159.2.1,r159.2.2.1,r159.2.2.2.1,r159.2.2.2.2))))) .fail) .fail)) (.opt (rec.impl_reader_binary (1:Int) (IntKind.i64.wrap (v.2.1+(1:Int))) r157.2.2.2.2.2.2.2.2.2.2.2.2.2.2.2.1 r157.2.2.2.2.2.2.2.2.2.2.2.2.2.2.2.2.1 r157.2.2.2.2.2.2.2.2.2.2.2.2.2.2.2.2.2.1 r157.2.2.2.2.2.2.2.2.2.2.2.2.2.2.2.2.2.2) fun r161=>(.ask (decide (1=([[(.i .i64 r161.1)]]:RW).length)) (.ask (decide (v.2.2.1=v.2.2.2.1.length∧0<1∧0<8∧(v.2.2.1+([[(.i .i64 r161.1)]]:RW).length)*8≤140737488355328∧([[(.i .i64 r161.1)]]:RW).all (fun e=>e.length==1)=true)) (.opt (ql n (⟨#[44]⟩:BA) r161.2.1 r161.2.2.1 r161.2.2.2.1 r161.2.2.2.2) fun r162=>(.ask ((!r162.1)) (.ask (r162.2.2.2.1) (.done (.inr ((v.1,(v.2.2.1+1),(v.2.2.2.1++([[(.i .i64 r161.1)]]:RW)),r162.2.1,r162.2.2.1,true,r162.2.2.2.2)))) (.opt (ql n (⟨#[41]⟩:BA) r162.2.1 r162.2.2.1 r162.2.2.2.1 r162.2.2.2.2) fun r163=>(.done (.inr ((v.1,(v.2.2.1+1),(v.2.2.2.1++([[(.i .i64 r161.1)]]:RW)),r163.2.1,r163.2.2.1,(!r163.1),r163.2.2.2.2)))))) (.done (.inl (v.1,v.2.1,(v.2.2.1+1),(v.2.2.2.1++([[(.i .i64 r161.1)]]:RW)),r162.2.1,r162.2.2.1,r162.2.2.2.1,r162.2.2.2.2))))) .fail) .fail)))) (.done (.inr ((v.1,v.2.2.1,v.2.2.2.1,v.2.2.2.2.1,v.2.2.2.2.2.1,v.2.2.2.2.2.2.1,v.2.2.2.2.2.2.2)))))
def qFf (rec:G_impl_reader_binary) (n:Nat) (x0 x1:Int) (x2:BA) (x3:Nat) (x4:Bool) (x5:RW):Tr (Int×BA×Nat×Bool×RW):=(.ask (x4) (.opt (zC (qCA rec n) n (x0,x1,(0:Nat),([]:RW),x2,x3,true,x5)) fun r164=>(.ask (decide (r164.2.1=r164.2.2.1.length)) (.opt (qm n (6:Int) r164.1 (0:Int) (0:Int) (⟨#[]⟩:BA) (0:Int) (0:Int) false false (0:Int) (0:Int) false false r164.2.2.1 r164.2.2.2.1 r164.2.2.2.2.1 r164.2.2.2.2.2.1 r164.2.2.2.2.2.2) fun r165=>(.done (r165.1,r165.2.1,r165.2.2.1,r165.2.2.2.1,r165.2.2.2.2))) .fail)) (.opt (ql n (⟨#[40]⟩:BA) x2 x3 x4 x5) fun r166=>(.opt (zC (qCA rec n) n (x0,x1,(0:Nat),([]:RW),r166.2.1,r166.2.2.1,(!r166.1),r166.2.2.2.2)) fun r167=>(.ask (decide (r167.2.1=r167.2.2.1.length)) (.opt (qm n (6:Int) r167.1 (0:Int) (0:Int) (⟨#[]⟩:BA) (0:Int) (0:Int) false false (0:Int) (0:Int) false false r167.2.2.1 r167.2.2.2.1 r167.2.2.2.2.1 r167.2.2.2.2.2.1 r167.2.2.2.2.2.2) fun r168=>(.done (r168.1,r168.2.1,r168.2.2.1,r168.2.2.2.1,r168.2.2.2.2))) .fail))))
def qR:Nat→G_impl_reader_binary
 |0=>⟨fun _ _ _ _ _ _=>none,fun _ _ _ _ _=>none,fun _ _ _ _ _=>none,fun _ _ _ _ _ _=>none⟩
 |n+1=>⟨fun x0 x1 x2 x3 x4 x5=>(qEf (qR n) n x0 x1 x2 x3 x4 x5).run,fun x0 x1 x2 x3 x4=>(qE5 (qR n) n x0 x1 x2 x3 x4).run,fun x0 x1 x2 x3 x4=>(qFe (qR n) n x0 x1 x2 x3 x4).run,fun x0 x1 x2 x3 x4 x5=>(qFf (qR n) n x0 x1 x2 x3 x4 x5).run⟩
def qCM (n:Nat) (x0 x1:Int) (x2:BA) (x3:Nat) (x4:Bool) (x5:RW):Option (Int×BA×Nat×Bool×RW):=(qR n).impl_reader_binary x0 x1 x2 x3 x4 x5
def qE6 (n:Nat) (x0:Int) (x1:BA) (x2:Nat) (x3:Bool) (x4:RW):Option (Int×BA×Nat×Bool×RW):=(qR n).impl_reader_unary x0 x1 x2 x3 x4
def qFg (n:Nat) (x0:Int) (x1:BA) (x2:Nat) (x3:Bool) (x4:RW):Option (Int×BA×Nat×Bool×RW):=(qR n).impl_reader_atom x0 x1 x2 x3 x4
def qB6 (n:Nat) (x0 x1:Int) (x2:BA) (x3:Nat) (x4:Bool) (x5:RW):Option (Int×BA×Nat×Bool×RW):=(qR n).impl_reader_call x0 x1 x2 x3 x4 x5
def qz (n:Nat):Prop:=
 Ok (Rn n) qEe (qCM n)∧
 Ok (Rn n) qJJ (qE6 n)∧
 Ok (Rn n) qJz (qFg n)∧
 Ok (Rn n) qJ0 (qB6 n)
abbrev qDA (n:Nat) (ih:qz n):List (Ent (Rn n)):= [en ih.2.1,en (qE2 n),en (qIX n),en (qJb n),en (qBp n),en ih.1,en (qB5 n)]
def qGf (n:Nat) (ih:qz n):LEnt (lb 14 (KB 159)) (Rn n) n:=lok (Uniq.pick (zT 159) 14) 237 ⟨⟨[(0,(.c (.ptr 0 0 0 0 0))),(1,aI),(2,aI),(7,aI),(8,aI),(9,aI)],[],[[(0,⟨0,3,198,(.box [qS,(.own 0 1 1 0),qB])⟩),(1,⟨1,14,162,(.row [])⟩)]]⟩,[(.exit 2,⟨[(0,(.c (.ptr 0 0 0 0 0))),(1,aI),(2,aI),(7,aI),(8,aI)],[],[[(0,⟨0,3,198,(.box [qS,(.own 0 1 1 0),qB])⟩),(1,⟨1,14,162,(.row [])⟩)]]⟩)]⟩ (qA3 n) (qDA n ih) [] fun _=>(by kernel_rfl)
def qGz (n:Nat) (ih:qz n):LEnt (KB 159) (Rn n) n:=lok (zT 159) 14 ⟨⟨[(0,(.c (.ptr 0 0 0 0 0))),(1,aI),(2,aI),(7,aI)],[],[[(0,⟨0,3,198,(.box [qS,(.own 0 1 1 0),qB])⟩),(1,⟨1,14,162,(.row [])⟩)]]⟩,[(.exit 0,⟨[(7,aI)],[],[[(0,⟨0,3,198,(.box [qS,(.own 0 1 1 0),qB])⟩),(1,⟨1,14,162,(.row [])⟩)]]⟩)]⟩ (qCm (qR n) n) (qDA n ih) [qGf n ih] fun _=>(by kernel_rfl)
abbrev qJK (n:Nat) (ih:qz n):List (Ent (Rn n)):= [en (qBp n),en ih.2.1,en (qB5 n),en ih.2.2.1]
abbrev qDg (n:Nat) (ih:qz n):List (Ent (Rn n)):= [en (qB8 n),en (qCK n),en (qH1 n),en (qD3 n),en (qCJ n),en (qJa n),en (qDo n),en (qE3 n),en (qGA n),en (qGC n),en (qB5 n),en (qIW n),en ih.2.2.2,en (qBp n),en ih.1]
def qHN (n:Nat) (ih:qz n):LEnt (KB 223) (Rn n) n:=lok (zT 223) 477 ⟨⟨[(0,(.c (.ptr 0 0 0 0 0))),(1,aI),(5,aI)],[],[[(0,⟨0,3,198,(.box [qS,(.own 0 1 1 0),qB])⟩),(1,⟨1,14,162,(.row [])⟩)]]⟩,[(.ret,⟨[(4,aI)],[],[[(0,⟨0,3,198,(.box [qS,(.own 0 1 1 0),qB])⟩),(1,⟨1,14,162,(.row [])⟩)]]⟩),(.exit 1,⟨[(0,(.c (.ptr 0 0 0 0 0))),(1,aI)],[],[[(0,⟨0,3,198,(.box [qS,(.own 0 1 1 0),qB])⟩),(1,⟨1,14,162,(.row [])⟩)]]⟩)]⟩ (qBt n) (qDg n ih) [] fun _=>(by kernel_rfl)
def qHO (n:Nat) (ih:qz n):LEnt (KB 223) (Rn n) n:=lok (zT 223) 509 ⟨⟨[(0,(.c (.ptr 0 0 0 0 0))),(1,aI),(9,aS),(14,aI)],[],[[(0,⟨0,3,198,(.box [qS,(.own 0 1 1 0),qB])⟩),(1,⟨1,14,162,(.row [])⟩)]]⟩,[(.ret,⟨[(4,aI)],[],[[(0,⟨0,3,198,(.box [qS,(.own 0 1 1 0),qB])⟩),(1,⟨1,14,162,(.row [])⟩)]]⟩),(.exit 3,⟨[(0,(.c (.ptr 0 0 0 0 0)))],[],[[(0,⟨0,3,198,(.box [qS,(.own 0 1 1 0),qB])⟩),(1,⟨1,14,162,(.row [])⟩)]]⟩)]⟩ (qAe (qR n) n) (qDg n ih) [] fun _=>(by kernel_rfl)
abbrev qFh (n:Nat) (ih:qz n):List (Ent (Rn n)):= [en (qGy n),en (qB5 n),en (qBp n),en ih.1]
def qH3 (n:Nat) (ih:qz n):LEnt (KB 248) (Rn n) n:=lok (zT 248) 30 ⟨⟨[(0,(.c (.ptr 0 0 0 0 0))),(1,aI),(2,aI),(7,(.c (.own 1 640 0 0)))],[(640,⟨0,1,2,(.row [])⟩)],[[(0,⟨0,3,198,(.box [qS,(.own 0 1 1 0),qB])⟩),(1,⟨1,14,162,(.row [])⟩)]]⟩,[(.exit 0,⟨[(0,(.c (.ptr 0 0 0 0 0))),(1,aI),(7,(.c (.own 1 640 0 0)))],[(640,⟨0,1,2,(.row [])⟩)],[[(0,⟨0,3,198,(.box [qS,(.own 0 1 1 0),qB])⟩),(1,⟨1,14,162,(.row [])⟩)]]⟩)]⟩ (qCA (qR n) n) (qFh n ih) [] fun _=>(by kernel_rfl)
theorem qAF:∀n,qz n
 |0=>⟨ok0 fun _=>rfl,ok0 fun _=>rfl,ok0 fun _=>rfl,ok0 fun _=>rfl⟩
 |n+1=>⟨stO (T:=qEf (qR n) n) (by kernel_rfl) (qDA n (qAF n)) [qGz n (qAF n)] (fun _=>(by kernel_rfl)) fun _=>(by kernel_rfl),stO (T:=qE5 (qR n) n) (by kernel_rfl) (qJK n (qAF n)) [] (fun _=>(by kernel_rfl)) fun _=>(by kernel_rfl),stO (T:=qFe (qR n) n) (by kernel_rfl) (qDg n (qAF n)) [qHN n (qAF n),qHO n (qAF n)] (fun _=>(by kernel_rfl)) fun _=>(by kernel_rfl),stO (T:=qFf (qR n) n) (by kernel_rfl) (qFh n (qAF n)) [qH3 n (qAF n)] (fun _=>(by kernel_rfl)) fun _=>(by kernel_rfl)⟩
theorem qH4 (n:Nat):Ok (Rn n) qEe (qCM n):=(qAF n).1
def qKY:Sg:=⟨120,[(.agg [qI,qI,qI,qI,qS,qI,qI,qB,qB,qI,qI,qB,qB,qL])],[],⟨(.agg [qI,qI,qI,qI]),[],[]⟩⟩
def qD7 (n:Nat) (x0 x1 x2 x3:Int) (x4:BA) (x5 x6:Int) (x7 x8:Bool) (x9 x10:Int) (x11 x12:Bool) (x13:RW):Tr (Int×Int×Int×Int):=(.ask ((x0==(2:Int))) (.done (x5,x6,x5,x6)) (.done (x5,x6,x9,x10)))
def qCN:Nat→Int→Int→Int→Int→BA→Int→Int→Bool→Bool→Int→Int→Bool→Bool→RW→Option (Int×Int×Int×Int)
 |0,_,_,_,_,_,_,_,_,_,_,_,_,_,_=>none
 |n+1,x0,x1,x2,x3,x4,x5,x6,x7,x8,x9,x10,x11,x12,x13=>(qD7 n x0 x1 x2 x3 x4 x5 x6 x7 x8 x9 x10 x11 x12 x13).run
theorem qJ1:∀n,Ok (Rn n) qKY (qCN n)
 |0=>ok0 fun _=>rfl
 |n+1=>stO (T:=qD7 n) (by kernel_rfl) [] [] (fun _=>(by kernel_rfl)) fun _=>(by kernel_rfl)
def qNn:Sg:=⟨264,[(.agg [qI,qI,qI,qI])],[],⟨aB,[],[]⟩⟩
def qGg (n:Nat) (x0 x1 x2 x3:Int):Tr (Bool):=(.opt (qBK n x0 x1) fun r219=>(.ask (r219) (.opt (qBK n x2 x3) fun r220=>(.ask (r220) (.ask ((decide (x0≤x2))) (.done (decide (x1≤x3))) (.done false)) (.done false))) (.done false)))
def qDX:Nat→Int→Int→Int→Int→Option (Bool)
 |0,_,_,_,_=>none
 |n+1,x0,x1,x2,x3=>(qGg n x0 x1 x2 x3).run
abbrev qNo (n:Nat):List (Ent (Rn n)):= [en (qEZ n)]
theorem qM0:∀n,Ok (Rn n) qNn (qDX n)
 |0=>ok0 fun _=>rfl
 |n+1=>stO (T:=qGg n) (by kernel_rfl) (qNo n) [] (fun _=>(by kernel_rfl)) fun _=>(by kernel_rfl)
def qH5:Sg:=⟨249,[(.agg [qI,qI,qI,qI,qS,qI,qI,qB,qB,qI,qI,qB,qB,qL])],[],⟨aB,[],[]⟩⟩
def qC1 (n:Nat) (x0 x1 x2 x3:Int) (x4:BA) (x5 x6:Int) (x7 x8:Bool) (x9 x10:Int) (x11 x12:Bool) (x13:RW):Tr (Bool):=(.ask ((x0 !=(2:Int))) (.ask ((x0 !=(3:Int))) (.done true) (.opt (qCN n x0 x1 x2 x3 x4 x5 x6 x7 x8 x9 x10 x11 x12 x13) fun r218=>(.opt (qDX n r218.1 r218.2.1 r218.2.2.1 r218.2.2.2) fun r221=>(.done r221)))) (.opt (qCN n x0 x1 x2 x3 x4 x5 x6 x7 x8 x9 x10 x11 x12 x13) fun r222=>(.opt (qDX n r222.1 r222.2.1 r222.2.2.1 r222.2.2.2) fun r223=>(.done r223))))
def q7:Nat→Int→Int→Int→Int→BA→Int→Int→Bool→Bool→Int→Int→Bool→Bool→RW→Option (Bool)
 |0,_,_,_,_,_,_,_,_,_,_,_,_,_,_=>none
 |n+1,x0,x1,x2,x3,x4,x5,x6,x7,x8,x9,x10,x11,x12,x13=>(qC1 n x0 x1 x2 x3 x4 x5 x6 x7 x8 x9 x10 x11 x12 x13).run
abbrev qH6 (n:Nat):List (Ent (Rn n)):= [en (qJ1 n),en (qM0 n)]
theorem qHP:∀n,Ok (Rn n) qH5 (q7 n)
 |0=>ok0 fun _=>rfl
 |n+1=>stO (T:=qC1 n) (by kernel_rfl) (qH6 n) [] (fun _=>(by kernel_rfl)) fun _=>(by kernel_rfl)
def qJL:Sg:=⟨250,[(.agg [qI,qI,qI,qI,qS,qI,qI,qB,qB,qI,qI,qB,qB,qL])],[],⟨aB,[],[]⟩⟩
def qDT (n:Nat) (x0 x1 x2 x3:Int) (x4:BA) (x5 x6:Int) (x7 x8:Bool) (x9 x10:Int) (x11 x12:Bool) (x13:RW):Tr (Bool):=(.ask ((x0==(4:Int))) (.ask ((x1==(0:Int))) (.done ((x13.length:Int)==(1:Int))) (.done false)) (.ask ((x0==(5:Int))) (.opt (qAC n x1 (1:Int) (11:Int)) fun r225=>(.ask (r225) (.done ((x13.length:Int)==(2:Int))) (.done false))) (.ask ((x0==(6:Int))) (.opt (qAC n x1 (1:Int) (10:Int)) fun r226=>(.ask ((!r226)) (.done false) (.ask ((x1==(5:Int))) (.opt (qAC n (x13.length:Int) (2:Int) (3:Int)) fun r227=>(.done r227)) (.ask ((decide (x1≥(8:Int)))) (.done ((x13.length:Int)==(1:Int))) (.opt (qAC n (x13.length:Int) (1:Int) (10:Int)) fun r228=>(.done r228)))))) (.ask ((x1==(0:Int))) (.done ((x13.length:Int)==(0:Int))) (.done false)))))
def qAH:Nat→Int→Int→Int→Int→BA→Int→Int→Bool→Bool→Int→Int→Bool→Bool→RW→Option (Bool)
 |0,_,_,_,_,_,_,_,_,_,_,_,_,_,_=>none
 |n+1,x0,x1,x2,x3,x4,x5,x6,x7,x8,x9,x10,x11,x12,x13=>(qDT n x0 x1 x2 x3 x4 x5 x6 x7 x8 x9 x10 x11 x12 x13).run
abbrev qJM (n:Nat):List (Ent (Rn n)):= [en (qCk n)]
theorem qIY:∀n,Ok (Rn n) qJL (qAH n)
 |0=>ok0 fun _=>rfl
 |n+1=>stO (T:=qDT n) (by kernel_rfl) (qJM n) [] (fun _=>(by kernel_rfl)) fun _=>(by kernel_rfl)
def qJ2:Sg:=⟨224,[(.agg [qI,qI,qI,qI,qS,qI,qI,qB,qB,qI,qI,qB,qB,qL])],[],⟨aB,[],[]⟩⟩
def qDh (n:Nat) (x0 x1 x2 x3:Int) (x4:BA) (x5 x6:Int) (x7 x8:Bool) (x9 x10:Int) (x11 x12:Bool) (x13:RW):Tr (Bool):=(.ask ((x0==(1:Int))) (.opt (qAL n x2 x3 x4) fun r217=>(.ask ((!r217)) (.done false) (.ask ((x2==(0:Int))) (.done false) (.ask ((x2==(1:Int))) (.ask ((decide (x3<(0:Int)))) (.done false) (.opt (q7 n x0 x1 x2 x3 x4 x5 x6 x7 x8 x9 x10 x11 x12 x13) fun r224=>(.ask (r224) (.opt (qAH n x0 x1 x2 x3 x4 x5 x6 x7 x8 x9 x10 x11 x12 x13) fun r229=>(.ask (r229) (.ask (((x2==x2)&&((x3==x3)&&((x4.toList==x4.toList)&&true)))) (.ask ((((0:Int)==x5)&&(((0:Int)==x6)&&((false==x7)&&((false==x8)&&true))))) (.done (((0:Int)==x9)&&(((0:Int)==x10)&&((false==x11)&&((false==x12)&&true))))) (.done false)) (.done false)) (.done false))) (.done false)))) (.opt (q7 n x0 x1 x2 x3 x4 x5 x6 x7 x8 x9 x10 x11 x12 x13) fun r230=>(.ask (r230) (.opt (qAH n x0 x1 x2 x3 x4 x5 x6 x7 x8 x9 x10 x11 x12 x13) fun r231=>(.ask (r231) (.ask (((x2==x2)&&((x3==x3)&&((x4.toList==x4.toList)&&true)))) (.ask ((((0:Int)==x5)&&(((0:Int)==x6)&&((false==x7)&&((false==x8)&&true))))) (.done (((0:Int)==x9)&&(((0:Int)==x10)&&((false==x11)&&((false==x12)&&true))))) (.done false)) (.done false)) (.done false))) (.done false))))))) (.ask ((x0==(2:Int))) (.opt (q7 n x0 x1 x2 x3 x4 x5 x6 x7 x8 x9 x10 x11 x12 x13) fun r232=>(.ask (r232) (.opt (qAH n x0 x1 x2 x3 x4 x5 x6 x7 x8 x9 x10 x11 x12 x13) fun r233=>(.ask (r233) (.ask ((((0:Int)==x2)&&(((0:Int)==x3)&&(((⟨#[]⟩:BA).toList==x4.toList)&&true)))) (.ask (((x5==x5)&&((x6==x6)&&((x7==x7)&&((x8==x8)&&true))))) (.done (((0:Int)==x9)&&(((0:Int)==x10)&&((false==x11)&&((false==x12)&&true))))) (.done false)) (.done false)) (.done false))) (.done false))) (.ask ((x0==(3:Int))) (.opt (q7 n x0 x1 x2 x3 x4 x5 x6 x7 x8 x9 x10 x11 x12 x13) fun r234=>(.ask (r234) (.opt (qAH n x0 x1 x2 x3 x4 x5 x6 x7 x8 x9 x10 x11 x12 x13) fun r235=>(.ask (r235) (.ask ((((0:Int)==x2)&&(((0:Int)==x3)&&(((⟨#[]⟩:BA).toList==x4.toList)&&true)))) (.ask (((x5==x5)&&((x6==x6)&&((x7==x7)&&((x8==x8)&&true))))) (.done ((x9==x9)&&((x10==x10)&&((x11==x11)&&((x12==x12)&&true))))) (.done false)) (.done false)) (.done false))) (.done false))) (.ask ((x0==(4:Int))) (.opt (q7 n x0 x1 x2 x3 x4 x5 x6 x7 x8 x9 x10 x11 x12 x13) fun r236=>(.ask (r236) (.opt (qAH n x0 x1 x2 x3 x4 x5 x6 x7 x8 x9 x10 x11 x12 x13) fun r237=>(.ask (r237) (.ask ((((0:Int)==x2)&&(((0:Int)==x3)&&(((⟨#[]⟩:BA).toList==x4.toList)&&true)))) (.ask ((((0:Int)==x5)&&(((0:Int)==x6)&&((false==x7)&&((false==x8)&&true))))) (.done (((0:Int)==x9)&&(((0:Int)==x10)&&((false==x11)&&((false==x12)&&true))))) (.done false)) (.done false)) (.done false))) (.done false))) (.ask ((x0==(5:Int))) (.opt (q7 n x0 x1 x2 x3 x4 x5 x6 x7 x8 x9 x10 x11 x12 x13) fun r238=>(.ask (r238) (.opt (qAH n x0 x1 x2 x3 x4 x5 x6 x7 x8 x9 x10 x11 x12 x13) fun r239=>(.ask (r239) (.ask ((((0:Int)==x2)&&(((0:Int)==x3)&&(((⟨#[]⟩:BA).toList==x4.toList)&&true)))) (.ask ((((0:Int)==x5)&&(((0:Int)==x6)&&((false==x7)&&((false==x8)&&true))))) (.done (((0:Int)==x9)&&(((0:Int)==x10)&&((false==x11)&&((false==x12)&&true))))) (.done false)) (.done false)) (.done false))) (.done false))) (.ask ((x0==(6:Int))) (.opt (q7 n x0 x1 x2 x3 x4 x5 x6 x7 x8 x9 x10 x11 x12 x13) fun r240=>(.ask (r240) (.opt (qAH n x0 x1 x2 x3 x4 x5 x6 x7 x8 x9 x10 x11 x12 x13) fun r241=>(.ask (r241) (.ask ((((0:Int)==x2)&&(((0:Int)==x3)&&(((⟨#[]⟩:BA).toList==x4.toList)&&true)))) (.ask ((((0:Int)==x5)&&(((0:Int)==x6)&&((false==x7)&&((false==x8)&&true))))) (.done (((0:Int)==x9)&&(((0:Int)==x10)&&((false==x11)&&((false==x12)&&true))))) (.done false)) (.done false)) (.done false))) (.done false))) (.done false)))))))
def qCt:Nat→Int→Int→Int→Int→BA→Int→Int→Bool→Bool→Int→Int→Bool→Bool→RW→Option (Bool)
 |0,_,_,_,_,_,_,_,_,_,_,_,_,_,_=>none
 |n+1,x0,x1,x2,x3,x4,x5,x6,x7,x8,x9,x10,x11,x12,x13=>(qDh n x0 x1 x2 x3 x4 x5 x6 x7 x8 x9 x10 x11 x12 x13).run
abbrev qJ3 (n:Nat):List (Ent (Rn n)):= [en (qEu n),en (qHP n),en (qIY n)]
theorem qJN:∀n,Ok (Rn n) qJ2 (qCt n)
 |0=>ok0 fun _=>rfl
 |n+1=>stO (T:=qDh n) (by kernel_rfl) (qJ3 n) [] (fun _=>(by kernel_rfl)) fun _=>(by kernel_rfl)
def qIZ:Sg:=⟨198,[aL,aI,aI],[],⟨aI,[],[]⟩⟩
def qAM (rec:RW→Int→Int→Option (Int)) (n:Nat) (v:RW×Int×Int×Int×Int):Tr ((RW×Int×Int×Int×Int)⊕((Int)⊕(Int))):=(.ask ((decide (v.2.2.2.2≥(0:Int)))) (.ask (decide (0≤v.2.1∧v.2.1<v.1.length)) (.opt (v.1[(v.2.1).toNat]?) fun e245=>(.ask (decide (e245.length=14)) (.opt (zAp e245 13) fun y246=>(.ask (decide (0≤v.2.2.2.2∧v.2.2.2.2<y246.length)) (.opt (y246[(v.2.2.2.2).toNat]?) fun e247=>(.ask (decide (e247.length=1)) (.opt (zE .i64 e247 0) fun y248=>(.ask ((y248 !=(IntKind.i64.wrap (v.2.2.2.1-(1:Int))))) (.done (.inr (.inl ((-1:Int))))) (.ask ((decide (y248<(0:Int)))) (.done (.inr (.inl ((-1:Int))))) (.ask (decide (0≤y248∧y248<v.1.length)) (.opt (v.1[(y248).toNat]?) fun e249=>(.ask (decide (e249.length=14)) (.opt (zE .i64 e249 0) fun y250=>(.ask ((y250==(3:Int))) (.ask (decide (0≤v.2.1∧v.2.1<v.1.length)) (.opt (v.1[(v.2.1).toNat]?) fun e251=>(.ask (decide (e251.length=14)) (.opt (zE .i64 e251 0) fun y252=>(.ask ((y252 !=(6:Int))) (.done (.inr (.inl ((-1:Int))))) (.opt (rec v.1 y248 (IntKind.i64.wrap (v.2.2.1+(1:Int)))) fun r253=>(.ask ((decide (r253<(0:Int)))) (.done (.inr (.inl ((-1:Int))))) (.done (.inl (v.1,v.2.1,v.2.2.1,r253,(IntKind.i64.wrap (v.2.2.2.2-(1:Int)))))))))) .fail)) .fail) (.opt (rec v.1 y248 (IntKind.i64.wrap (v.2.2.1+(1:Int)))) fun r254=>(.ask ((decide (r254<(0:Int)))) (.done (.inr (.inl ((-1:Int))))) (.done (.inl (v.1,v.2.1,v.2.2.1,r254,(IntKind.i64.wrap (v.2.2.2.2-(1:Int)))))))))) .fail)) .fail)))) .fail)) .fail)) .fail)) .fail) (.done (.inr (.inr (v.2.2.2.1)))))
def qEg (rec:RW→Int→Int→Option (Int)) (n:Nat) (x0:RW) (x1 x2:Int):Tr (Int):=(.ask ((decide (x1<(0:Int)))) (.done (-1:Int)) (.ask ((decide (x2≥(12:Int)))) (.done (-1:Int)) (.ask (decide (0≤x1∧x1<x0.length)) (.opt (x0[(x1).toNat]?) fun e202=>(.ask (decide (e202.length=14)) (.opt (zE .i64 e202 0) fun y203=>(.opt (zE .i64 e202 1) fun y204=>(.opt (zE .i64 e202 2) fun y205=>(.opt (zE .i64 e202 3) fun y206=>(.opt (zj e202 4) fun y207=>(.opt (zE .i64 e202 5) fun y208=>(.opt (zE .i64 e202 6) fun y209=>(.opt (zAD e202 7) fun y210=>(.opt (zAD e202 8) fun y211=>(.opt (zE .i64 e202 9) fun y212=>(.opt (zE .i64 e202 10) fun y213=>(.opt (zAD e202 11) fun y214=>(.opt (zAD e202 12) fun y215=>(.opt (zAp e202 13) fun y216=>(.opt (qCt n y203 y204 y205 y206 y207 y208 y209 y210 y211 y212 y213 y214 y215 y216) fun r242=>(.ask ((!r242)) (.done (-1:Int)) (.ask (decide (0≤x1∧x1<x0.length)) (.opt (x0[(x1).toNat]?) fun e243=>(.ask (decide (e243.length=14)) (.opt (zAp e243 13) fun y244=>(.opt (zC (qAM rec n) n (x0,x1,x2,x1,(IntKind.i64.wrap ((y244.length:Int)-(1:Int))))) fun r255=>(.alt r255 (fun r256=>(.done r256)) (fun r257=>(.done r257))))) .fail)) .fail))))))))))))))))) .fail)) .fail)))
def qAd:Nat→RW→Int→Int→Option (Int)
 |0,_,_,_=>none
 |n+1,x0,x1,x2=>(qEg (qAd n) n x0 x1 x2).run
abbrev qLh (n:Nat) (ih:Ok (Rn n) qIZ (qAd n)):List (Ent (Rn n)):= [en (qJN n),en ih]
def qM1 (n:Nat) (ih:Ok (Rn n) qIZ (qAd n)):LEnt (KB 198) (Rn n) n:=lok (zT 198) 61 ⟨⟨[(0,aL),(1,aI),(2,aI),(7,aI),(8,aI)],[],[]⟩,[(.ret,⟨[(6,aI)],[],[]⟩),(.exit 0,⟨[(7,aI)],[],[]⟩)]⟩ (qAM (qAd n) n) (qLh n ih) [] fun _=>(by kernel_rfl)
theorem qHQ:∀n,Ok (Rn n) qIZ (qAd n)
 |0=>ok0 fun _=>rfl
 |n+1=>stO (T:=qEg (qAd n) n) (by kernel_rfl) (qLh n (qHQ n)) [qM1 n (qHQ n)] (fun _=>(by kernel_rfl)) fun _=>(by kernel_rfl)
def qLK:Sg:=⟨161,[aL],[],⟨aB,[],[]⟩⟩
def qCn (n:Nat) (x0:RW):Tr (Bool):=(.opt (qAC n (x0.length:Int) (1:Int) (60:Int)) fun r199=>(.ask (r199) (.ask (decide (0≤(IntKind.i64.wrap ((x0.length:Int)-(1:Int)))∧(IntKind.i64.wrap ((x0.length:Int)-(1:Int)))<x0.length)) (.opt (x0[((IntKind.i64.wrap ((x0.length:Int)-(1:Int)))).toNat]?) fun e200=>(.ask (decide (e200.length=14)) (.opt (zE .i64 e200 0) fun y201=>(.ask ((y201 !=(3:Int))) (.opt (qAd n x0 (IntKind.i64.wrap ((x0.length:Int)-(1:Int))) (0:Int)) fun r258=>(.done (r258==(0:Int)))) (.done false))) .fail)) .fail) (.done false)))
def qBa:Nat→RW→Option (Bool)
 |0,_=>none
 |n+1,x0=>(qCn n x0).run
abbrev qLL (n:Nat):List (Ent (Rn n)):= [en (qCk n),en (qHQ n)]
theorem qGD:∀n,Ok (Rn n) qLK (qBa n)
 |0=>ok0 fun _=>rfl
 |n+1=>stO (T:=qCn n) (by kernel_rfl) (qLL n) [] (fun _=>(by kernel_rfl)) fun _=>(by kernel_rfl)
def qJ4:Sg:=⟨119,[aS],[],⟨(.tup [(false,[qL]),(false,[qB])]),[],[]⟩⟩
def qFi (n:Nat) (x0:BA):Tr (RW×Bool):=(.opt (qCT n x0 (200:Int)) fun r58=>(.ask ((!r58)) (.ask (decide (0=([]:RW).length)) (.done (([]:RW),false)) .fail) (.opt (qCM n (1:Int) (0:Int) x0 (0:Nat) false ([]:RW)) fun r197=>(.opt (qAn n r197.2.1 r197.2.2.1 r197.2.2.2.1 r197.2.2.2.2) fun r198=>(.ask (r198.2.2.1) (.ask (decide (0=([]:RW).length)) (.done (([]:RW),false)) .fail) (.ask ((!(r198.1.toList==(⟨#[]⟩:BA).toList))) (.ask (decide (0=([]:RW).length)) (.done (([]:RW),false)) .fail) (.ask (decide (r198.2.1=r198.2.2.2.length)) (.opt (qBa n r198.2.2.2) fun r259=>(.ask (zAc (⟨(.c (.p (.b r259))),[],[]⟩:Res)) (.ask ((!r259)) (.ask (decide (0=([]:RW).length)) (.done (([]:RW),false)) .fail) (.ask (decide (r198.2.1=r198.2.2.2.length)) (.done (r198.2.2.2,true)) .fail)) .fail)) .fail)))))))
def qDi:Nat→BA→Option (RW×Bool)
 |0,_=>none
 |n+1,x0=>(qFi n x0).run
abbrev qJ5 (n:Nat):List (Ent (Rn n)):= [en (qFV n),en (qH4 n),en (qB8 n),en (qGD n)]
theorem qJO:∀n,Ok (Rn n) qJ4 (qDi n)
 |0=>ok0 fun _=>rfl
 |n+1=>stO (T:=qFi n) (by kernel_rfl) (qJ5 n) [] (fun _=>(by kernel_rfl)) fun _=>(by kernel_rfl)
def qEh:Sg:=⟨251,[aS,aS,aS],[],⟨aS,[],[]⟩⟩
def qDB:Nat→BA→BA→BA→Option ((BA))
 |0,_,_,_=>none
 |n+1,x0,x1,x2=>zZ x0 x1 x2
theorem qH7:∀n,Ok (Rn n) qEh (qDB n)
 |0=>ok0 fun _=>rfl
 |n+1=>stL (by kernel_rfl) (fun a r e=>congrArg (Option.map fun r=>(qEh.Of r).v) e) rfl rfl rfl
def qIa:Sg:=⟨252,[aL,aS],[],⟨aS,[],[]⟩⟩
def qFj:Nat→RW→BA→Option ((BA))
 |0,_,_=>none
 |n+1,x0,x1=>zAa x0 x1
theorem qMA:∀n,Ok (Rn n) qIa (qFj n)
 |0=>ok0 fun _=>rfl
 |n+1=>stL (by kernel_rfl) (fun a r e=>congrArg (Option.map fun r=>(qIa.Of r).v) e) rfl rfl rfl
def qDj:Sg:=⟨225,[aL,aI,aI],[],⟨aS,[],[]⟩⟩
def qBL (rec:RW→Int→Int→Option (BA)) (n:Nat) (v:RW×Nat×RW×Int×Int×Int×Int×Int×Int×BA×Int×Int×Bool×Bool×Int×Int×Bool×Bool×RW×RW):Tr ((RW×Nat×RW×Int×Int×Int×Int×Int×Int×BA×Int×Int×Bool×Bool×Int×Int×Bool×Bool×RW×RW)⊕((Nat×Int×Int×Int×Int×BA×Int×Int×Bool×Bool×Int×Int×Bool×Bool×RW×RW))):=(.ask ((decide (v.2.2.2.2.1<v.2.2.2.1))) (.ask (decide (0≤v.2.2.2.2.1∧v.2.2.2.2.1<v.2.2.1.length)) (.opt (v.2.2.1[(v.2.2.2.2.1).toNat]?) fun e293=>(.ask (decide (e293.length=1)) (.opt (zE .i64 e293 0) fun y294=>(.opt (rec v.1 y294 (1:Int)) fun r295=>(.ask (decide (1=([[(.s r295)]]:RW).length)) (.ask (decide (v.2.1=v.2.2.2.2.2.2.2.2.2.2.2.2.2.2.2.2.2.2.2.length∧0<1∧0<16∧(v.2.1+([[(.s r295)]]:RW).length)*16≤140737488355328∧([[(.s r295)]]:RW).all (fun e=>e.length==1)=true)) (.done (.inl (v.1,(v.2.1+1),v.2.2.1,v.2.2.2.1,(IntKind.i64.wrap (v.2.2.2.2.1+(1:Int))),v.2.2.2.2.2.1,v.2.2.2.2.2.2.1,v.2.2.2.2.2.2.2.1,v.2.2.2.2.2.2.2.2.1,v.2.2.2.2.2.2.2.2.2.1,v.2.2.2.2.2.2.2.2.2.2.1,v.2.2.2.2.2.2.2.2.2.2.2.1,v.2.2.2.2.2.2.2.2.2.2.2.2.1,v.2.2.2.2.2.2.2.2.2.2.2.2.2.1,v.2.2.2.2.2.2.2.2.2.2.2.2.2.2.1,v.2.2.2.2.2.2.2.2.2.2.2.2.2.2.2.1,v.2.2.2.2.2.2.2.2.2.2.2.2.2.2.2.2.1,v.2.2.2.2.2.2.2.2.2.2.2.2.2.2.2.2.2.1,v.2.2.2.2.2.2.2.2.2.2.2.2.2.2.2.2.2.2.1,(v.2.2.2.2.2.2.2.2.2.2.2.2.2.2.2.2.2.2.2++([[(.s r295)]]:RW))))) .fail) .fail))) .fail)) .fail) (.done (.inr ((v.2.1,v.2.2.2.2.2.1,v.2.2.2.2.2.2.1,v.2.2.2.2.2.2.2.1,v.2.2.2.2.2.2.2.2.1,v.2.2.2.2.2.2.2.2.2.1,v.2.2.2.2.2.2.2.2.2.2.1,v.2.2.2.2.2.2.2.2.2.2.2.1,v.2.2.2.2.2.2.2.2.2.2.2.2.1,v.2.2.2.2.2.2.2.2.2.2.2.2.2.1,v.2.2.2.2.2.2.2.2.2.2.2.2.2.2.1,v.2.2.2.2.2.2.2.2.2.2.2.2.2.2.2.1,v.2.2.2.2.2.2.2.2.2.2.2.2.2.2.2.2.1,v.2.2.2.2.2.2.2.2.2.2.2.2.2.2.2.2.2.1,v.2.2.2.2.2.2.2.2.2.2.2.2.2.2.2.2.2.2.1,v.2.2.2.2.2.2.2.2.2.2.2.2.2.2.2.2.2.2.2)))))
def qAf (rec:RW→Int→Int→Option (BA)) (n:Nat) (x0:RW) (x1 x2:Int):Tr (BA):=(.ask (decide (0≤x1∧x1<x0.length)) (.opt (x0[(x1).toNat]?) fun e262=>(.ask (decide (e262.length=14)) (.opt (zE .i64 e262 0) fun y263=>(.opt (zE .i64 e262 1) fun y264=>(.opt (zE .i64 e262 2) fun y265=>(.opt (zE .i64 e262 3) fun y266=>(.opt (zj e262 4) fun y267=>(.opt (zE .i64 e262 5) fun y268=>(.opt (zE .i64 e262 6) fun y269=>(.opt (zAD e262 7) fun y270=>(.opt (zAD e262 8) fun y271=>(.opt (zE .i64 e262 9) fun y272=>(.opt (zE .i64 e262 10) fun y273=>(.opt (zAD e262 11) fun y274=>(.opt (zAD e262 12) fun y275=>(.opt (zAp e262 13) fun y276=>(.ask ((y263==(1:Int))) (.ask ((y265==(2:Int))) (.opt (qDB n y267 (⟨#[34]⟩:BA) (⟨#[34,34]⟩:BA)) fun r277=>(.ask (decide ((⟨#[34]⟩:BA).size+r277.size≤9223372036854775807)) (.ask (decide (((⟨#[34]⟩:BA)++r277).size+(⟨#[34]⟩:BA).size≤9223372036854775807)) (.done (((⟨#[34]⟩:BA)++r277)++(⟨#[34]⟩:BA))) .fail) .fail)) (.opt (qn n y265 y266 y267) fun r278=>(.done r278))) (.ask ((y263==(2:Int))) (.opt (qAw n y268 y269 y270 y271) fun r279=>(.done r279)) (.ask ((y263==(3:Int))) (.opt (qAw n y268 y269 y270 y271) fun r280=>(.ask (decide (r280.size+(⟨#[58]⟩:BA).size≤9223372036854775807)) (.opt (qAw n y272 y273 y274 y275) fun r281=>(.ask (decide ((r280++(⟨#[58]⟩:BA)).size+r281.size≤9223372036854775807)) (.done ((r280++(⟨#[58]⟩:BA))++r281)) .fail)) .fail)) (.ask ((y263==(4:Int))) (.ask (decide (0≤(0:Int)∧(0:Int)<y276.length)) (.opt (y276[((0:Int)).toNat]?) fun e282=>(.ask (decide (e282.length=1)) (.opt (zE .i64 e282 0) fun y283=>(.opt (rec x0 y283 (5:Int)) fun r284=>(.ask (decide ((⟨#[45]⟩:BA).size+r284.size≤9223372036854775807)) (.done ((⟨#[45]⟩:BA)++r284)) .fail))) .fail)) .fail) (.ask ((y263==(5:Int))) (.opt (qDI n y264) fun r285=>(.ask (decide (0≤(0:Int)∧(0:Int)<y276.length)) (.opt (y276[((0:Int)).toNat]?) fun e286=>(.ask (decide (e286.length=1)) (.opt (zE .i64 e286 0) fun y287=>(.ask (decide (0≤(1:Int)∧(1:Int)<y276.length)) (.opt (y276[((1:Int)).toNat]?) fun e288=>(.ask (decide (e288.length=1)) (.opt (zE .i64 e288 0) fun y289=>(.opt (rec x0 y287 r285) fun r290=>(.opt (qBD n y264) fun r291=>(.ask (decide (r290.size+r291.size≤9223372036854775807)) (.opt (rec x0 y289 (IntKind.i64.wrap (r285+(1:Int)))) fun r292=>(.ask (decide ((r290++r291).size+r292.size≤9223372036854775807)) (.ask ((decide (r285<x2))) (.ask (decide ((⟨#[40]⟩:BA).size+((r290++r291)++r292).size≤9223372036854775807)) (.ask (decide (((⟨#[40]⟩:BA)++((r290++r291)++r292)).size+(⟨#[41]⟩:BA).size≤9223372036854775807)) (.done (((⟨#[40]⟩:BA)++((r290++r291)++r292))++(⟨#[41]⟩:BA))) .fail) .fail) (.done ((r290++r291)++r292))) .fail)) .fail)))) .fail)) .fail)) .fail)) .fail)) (.opt (zC (qBL rec n) n (x0,(0:Nat),y276,(y276.length:Int),(0:Int),y263,y264,y265,y266,y267,y268,y269,y270,y271,y272,y273,y274,y275,y276,([]:RW))) fun r296=>(.opt (qBy n r296.2.2.1) fun r297=>(.ask (decide (r297.size+(⟨#[40]⟩:BA).size≤9223372036854775807)) (.ask (decide (r296.1=r296.2.2.2.2.2.2.2.2.2.2.2.2.2.2.2.length)) (.opt (qFj n r296.2.2.2.2.2.2.2.2.2.2.2.2.2.2.2 (⟨#[44]⟩:BA)) fun r298=>(.ask (zAc (⟨(.c (.p (.s r298))),[],[]⟩:Res)) (.ask (decide ((r297++(⟨#[40]⟩:BA)).size+r298.size≤9223372036854775807)) (.ask (decide (((r297++(⟨#[40]⟩:BA))++r298).size+(⟨#[41]⟩:BA).size≤9223372036854775807)) (.done (((r297++(⟨#[40]⟩:BA))++r298)++(⟨#[41]⟩:BA))) .fail) .fail) .fail)) .fail) .fail)))))))))))))))))))))) .fail)) .fail)
def qY:Nat→RW→Int→Int→Option (BA)
 |0,_,_,_=>none
 |n+1,x0,x1,x2=>(qAf (qY n) n x0 x1 x2).run
abbrev qFk (n:Nat) (ih:Ok (Rn n) qDj (qY n)):List (Ent (Rn n)):= [en (qH7 n),en (qF9 n),en (qGB n),en ih,en (qJb n),en (qIX n),en (qIW n),en (qMA n)]
def qHR (n:Nat) (ih:Ok (Rn n) qDj (qY n)):LEnt (KB 225) (Rn n) n:=lok (zT 225) 125 ⟨⟨[(0,aL),(7,(.c (.ptr 0 448 0 0 0))),(10,(.c (.own 0 5760 0 0))),(92,aL),(93,aI),(94,aI)],[(448,⟨0,14,162,(.box [qI,qI,qI,qI,qS,qI,qI,qB,qB,qI,qI,qB,qB,qL])⟩),(5760,⟨0,1,9,(.row [])⟩)],[]⟩,[(.exit 1,⟨[(7,(.c (.ptr 0 448 0 0 0))),(10,(.c (.own 0 5760 0 0)))],[(448,⟨0,14,162,(.box [qI,qI,qI,qI,qS,qI,qI,qB,qB,qI,qI,qB,qB,qL])⟩),(5760,⟨0,1,9,(.row [])⟩)],[]⟩)]⟩ (qBL (qY n) n) (qFk n ih) [] fun _=>(by kernel_rfl)
theorem qDU:∀n,Ok (Rn n) qDj (qY n)
 |0=>ok0 fun _=>rfl
 |n+1=>stO (T:=qAf (qY n) n) (by kernel_rfl) (qFk n (qDU n)) [qHR n (qDU n)] (fun _=>(by kernel_rfl)) fun _=>(by kernel_rfl)
def qJ6:Sg:=⟨199,[aL],[],⟨aS,[],[]⟩⟩
def qCu (n:Nat) (x0:RW):Tr (BA):=(.opt (qBa n x0) fun r261=>(.ask ((!r261)) (.done (⟨#[]⟩:BA)) (.opt (qY n x0 (IntKind.i64.wrap ((x0.length:Int)-(1:Int))) (1:Int)) fun r299=>(.ask ((decide ((r299.size:Int)>(200:Int)))) (.done (⟨#[]⟩:BA)) (.done r299)))))
def qBb:Nat→RW→Option (BA)
 |0,_=>none
 |n+1,x0=>(qCu n x0).run
abbrev qJ7 (n:Nat):List (Ent (Rn n)):= [en (qGD n),en (qDU n)]
theorem qJP:∀n,Ok (Rn n) qJ6 (qBb n)
 |0=>ok0 fun _=>rfl
 |n+1=>stO (T:=qCu n) (by kernel_rfl) (qJ7 n) [] (fun _=>(by kernel_rfl)) fun _=>(by kernel_rfl)
def qMB:Sg:=⟨167,[aL],[],⟨(.tup [(false,[qS]),(false,[qB])]),[],[]⟩⟩
def qHp (n:Nat) (x0:RW):Tr (BA×Bool):=(.opt (qBb n x0) fun r300=>(.ask (decide ((⟨#[61]⟩:BA).size+r300.size≤9223372036854775807)) (.ask ((!(r300.toList==(⟨#[]⟩:BA).toList))) (.done (((⟨#[61]⟩:BA)++r300),(decide ((r300.size:Int)<(200:Int))))) (.done (((⟨#[61]⟩:BA)++r300),false))) .fail))
def qEw:Nat→RW→Option (BA×Bool)
 |0,_=>none
 |n+1,x0=>(qHp n x0).run
abbrev qMC (n:Nat):List (Ent (Rn n)):= [en (qJP n)]
theorem qLM:∀n,Ok (Rn n) qMB (qEw n)
 |0=>ok0 fun _=>rfl
 |n+1=>stO (T:=qHp n) (by kernel_rfl) (qMC n) [] (fun _=>(by kernel_rfl)) fun _=>(by kernel_rfl)
def qDr:Sg:=⟨231,[aS,aS],[],⟨aS,[],[]⟩⟩
def qCC (n:Nat) (x0 x1:BA):Tr (BA):=(.opt (qy n x0 x1) fun r305=>(.ask (r305) (.ask (decide (0≤(x1.size:Int)∧(x1.size:Int)≤(x0.size:Int)∧(x0.size:Int)≤x0.size)) (.done (x0.extract ((x1.size:Int)).toNat ((x0.size:Int)).toNat)) .fail) (.done x0)))
def qBB:Nat→BA→BA→Option (BA)
 |0,_,_=>none
 |n+1,x0,x1=>(qCC n x0 x1).run
abbrev qDs (n:Nat):List (Ent (Rn n)):= [en (qCB n)]
theorem qDk:∀n,Ok (Rn n) qDr (qBB n)
 |0=>ok0 fun _=>rfl
 |n+1=>stO (T:=qCC n) (by kernel_rfl) (qDs n) [] (fun _=>(by kernel_rfl)) fun _=>(by kernel_rfl)
def qIb:Sg:=⟨202,[aS,aS],[],⟨aS,[],[]⟩⟩
def qEi (n:Nat) (x0 x1:BA):Tr (BA):=(.opt (qBB n x0 x1) fun r306=>(.done r306))
def qDC:Nat→BA→BA→Option (BA)
 |0,_,_=>none
 |n+1,x0,x1=>(qEi n x0 x1).run
abbrev qIc (n:Nat):List (Ent (Rn n)):= [en (qDk n)]
theorem qH8:∀n,Ok (Rn n) qIb (qDC n)
 |0=>ok0 fun _=>rfl
 |n+1=>stO (T:=qEi n) (by kernel_rfl) (qIc n) [] (fun _=>(by kernel_rfl)) fun _=>(by kernel_rfl)
def qId:Sg:=⟨109,[aS,aS],[],⟨aS,[],[]⟩⟩
def qFl:Nat→BA→BA→Option ((BA))
 |0,_,_=>none
 |n+1,x0,x1=>zAF x0 x1
theorem qMD:∀n,Ok (Rn n) qId (qFl n)
 |0=>ok0 fun _=>rfl
 |n+1=>stL (by kernel_rfl) (fun a r e=>congrArg (Option.map fun r=>(qId.Of r).v) e) rfl rfl rfl
def qME:Sg:=⟨169,[aS],[],⟨aB,[],[]⟩⟩
def qHq (n:Nat) (x0:BA):Tr (Bool):=(.opt (qDC n x0 (⟨#[45]⟩:BA)) fun r307=>(.ask ((!(r307.toList==(⟨#[]⟩:BA).toList))) (.opt (qFl n r307 (⟨#[48,49,50,51,52,53,54,55,56,57]⟩:BA)) fun r308=>(.done (r308.toList==(⟨#[]⟩:BA).toList))) (.done false)))
def qDd:Nat→BA→Option (Bool)
 |0,_=>none
 |n+1,x0=>(qHq n x0).run
abbrev qMF (n:Nat):List (Ent (Rn n)):= [en (qH8 n),en (qMD n)]
theorem qLN:∀n,Ok (Rn n) qME (qDd n)
 |0=>ok0 fun _=>rfl
 |n+1=>stO (T:=qHq n) (by kernel_rfl) (qMF n) [] (fun _=>(by kernel_rfl)) fun _=>(by kernel_rfl)
def qM2:Sg:=⟨133,[aS],[],⟨(.tup [(false,[qS]),(false,[qB])]),[],[]⟩⟩
def qIe (n:Nat) (x0:BA):Tr (BA×Bool):=(.opt (qCT n x0 (200:Int)) fun r56=>(.ask ((!r56)) (.done ((⟨#[]⟩:BA),(x0.toList==(⟨#[]⟩:BA).toList))) (.ask ((x0.toList==(⟨#[]⟩:BA).toList)) (.done ((⟨#[]⟩:BA),(x0.toList==(⟨#[]⟩:BA).toList))) (.opt (qAB n x0 (⟨#[61]⟩:BA)) fun r57=>(.ask (r57.2) (.opt (qDi n r57.1) fun r260=>(.opt (qEw n r260.1) fun r301=>(.ask ((!r260.2)) (.done ((⟨#[]⟩:BA),false)) (.ask ((!r301.2)) (.done ((⟨#[]⟩:BA),false)) (.done (r301.1,true)))))) (.opt (qAo n x0 (10:Int) (64:Int)) fun r302=>(.alt r302 (fun r303=>(.ask (true) (.opt (qDd n x0) fun r309=>(.ask (r309) (.opt (qCU n r303) fun r310=>(.opt (qAL n r310.1 r310.2.1 r310.2.2) fun r311=>(.ask (r311) (.opt (qA2 n r303) fun r312=>(.done (r312,true))) (.opt (qd n x0) fun r313=>(.ask (r313.2.2.2) (.done (x0,true)) (.ask (((x0.size:Int)==(200:Int))) (.done ((⟨#[]⟩:BA),false)) (.ask (decide ((⟨#[39]⟩:BA).size+x0.size≤9223372036854775807)) (.done (((⟨#[39]⟩:BA)++x0),true)) .fail))))))) (.opt (qd n x0) fun r314=>(.ask (r314.2.2.2) (.done (x0,true)) (.ask (((x0.size:Int)==(200:Int))) (.done ((⟨#[]⟩:BA),false)) (.ask (decide ((⟨#[39]⟩:BA).size+x0.size≤9223372036854775807)) (.done (((⟨#[39]⟩:BA)++x0),true)) .fail)))))) (.opt (qd n x0) fun r315=>(.ask (r315.2.2.2) (.done (x0,true)) (.ask (((x0.size:Int)==(200:Int))) (.done ((⟨#[]⟩:BA),false)) (.ask (decide ((⟨#[39]⟩:BA).size+x0.size≤9223372036854775807)) (.done (((⟨#[39]⟩:BA)++x0),true)) .fail)))))) (fun r304=>(.ask (false) (.opt (qDd n x0) fun r316=>(.ask (r316) (.opt (qCU n r304) fun r317=>(.opt (qAL n r317.1 r317.2.1 r317.2.2) fun r318=>(.ask (r318) (.opt (qA2 n r304) fun r319=>(.done (r319,true))) (.opt (qd n x0) fun r320=>(.ask (r320.2.2.2) (.done (x0,true)) (.ask (((x0.size:Int)==(200:Int))) (.done ((⟨#[]⟩:BA),false)) (.ask (decide ((⟨#[39]⟩:BA).size+x0.size≤9223372036854775807)) (.done (((⟨#[39]⟩:BA)++x0),true)) .fail))))))) (.opt (qd n x0) fun r321=>(.ask (r321.2.2.2) (.done (x0,true)) (.ask (((x0.size:Int)==(200:Int))) (.done ((⟨#[]⟩:BA),false)) (.ask (decide ((⟨#[39]⟩:BA).size+x0.size≤9223372036854775807)) (.done (((⟨#[39]⟩:BA)++x0),true)) .fail)))))) (.opt (qd n x0) fun r322=>(.ask (r322.2.2.2) (.done (x0,true)) (.ask (((x0.size:Int)==(200:Int))) (.done ((⟨#[]⟩:BA),false)) (.ask (decide ((⟨#[39]⟩:BA).size+x0.size≤9223372036854775807)) (.done (((⟨#[39]⟩:BA)++x0),true)) .fail)))))))))))))
def qFm:Nat→BA→Option (BA×Bool)
 |0,_=>none
 |n+1,x0=>(qIe n x0).run
abbrev qM3 (n:Nat):List (Ent (Rn n)):= [en (qFV n),en (qCJ n),en (qJO n),en (qLM n),en2 (qDS n),en (qLN n),en (qIU n),en (qEu n),en (qEv n),en (qGA n)]
theorem qMG:∀n,Ok (Rn n) qM2 (qFm n)
 |0=>ok0 fun _=>rfl
 |n+1=>stO (T:=qIe n) (by kernel_rfl) (qM3 n) [] (fun _=>(by kernel_rfl)) fun _=>(by kernel_rfl)
def qMH:Sg:=⟨91,[aS],[],⟨aB,[],[]⟩⟩
def qHr (n:Nat) (x0:BA):Tr (Bool):=(.opt (qFm n x0) fun r323=>(.ask (r323.2) (.ask ((!(x0.toList==(⟨#[]⟩:BA).toList))) (.done (r323.1.toList==x0.toList)) (.done false)) (.done false)))
def qCy:Nat→BA→Option (Bool)
 |0,_=>none
 |n+1,x0=>(qHr n x0).run
abbrev qMI (n:Nat):List (Ent (Rn n)):= [en (qMG n)]
theorem qG0:∀n,Ok (Rn n) qMH (qCy n)
 |0=>ok0 fun _=>rfl
 |n+1=>stO (T:=qHr n) (by kernel_rfl) (qMI n) [] (fun _=>(by kernel_rfl)) fun _=>(by kernel_rfl)
def qLO:Sg:=⟨98,[aS],[],⟨aB,[],[]⟩⟩
def qEO (n:Nat) (x0:BA):Tr (Bool):=(.ask (decide ((⟨#[61]⟩:BA).size+x0.size≤9223372036854775807)) (.opt (qCy n ((⟨#[61]⟩:BA)++x0)) fun r324=>(.done r324)) .fail)
def qB1:Nat→BA→Option (Bool)
 |0,_=>none
 |n+1,x0=>(qEO n x0).run
abbrev qLP (n:Nat):List (Ent (Rn n)):= [en (qG0 n)]
theorem qKZ:∀n,Ok (Rn n) qLO (qB1 n)
 |0=>ok0 fun _=>rfl
 |n+1=>stO (T:=qEO n) (by kernel_rfl) (qLP n) [] (fun _=>(by kernel_rfl)) fun _=>(by kernel_rfl)
def qJ8:Sg:=⟨56,[(.agg [qI,qI,qI,qS,qI]),aI,aI],[],⟨aB,[],[]⟩⟩
def qDl (n:Nat) (x0 x1 x2:Int) (x3:BA) (x4 x5 x6:Int):Tr (Bool):=(.ask ((x0==(1:Int))) (.opt (qBK n x1 x2) fun r50=>(.ask (r50) (.opt (qB1 n x3) fun r325=>(.ask (r325) (.done (x4==(0:Int))) (.done false))) (.done false))) (.ask ((x0==(2:Int))) (.opt (qBK n x1 x2) fun r326=>(.ask (r326) (.ask ((x3.toList==(⟨#[]⟩:BA).toList)) (.done (x4==(0:Int))) (.opt (qCy n x3) fun r327=>(.ask (r327) (.done (x4==(0:Int))) (.done false)))) (.done false))) (.ask ((x0==(3:Int))) (.ask (((x1==(0:Int))&&((x2==(0:Int))&&true))) (.opt (qB1 n x3) fun r328=>(.ask (r328) (.opt (qAC n x4 (1:Int) x6) fun r329=>(.done r329)) (.done false))) (.done false)) (.ask ((x0==(4:Int))) (.ask (((x1==(0:Int))&&((x2==(0:Int))&&true))) (.opt (qB1 n x3) fun r330=>(.ask (r330) (.opt (qAC n x4 (1:Int) x5) fun r331=>(.done r331)) (.done false))) (.done false)) (.ask ((x0==(5:Int))) (.ask (((x1==(0:Int))&&((x2==(0:Int))&&true))) (.opt (qB1 n x3) fun r332=>(.ask (r332) (.done (x4==(0:Int))) (.done false))) (.done false)) (.done false))))))
def qCv:Nat→Int→Int→Int→BA→Int→Int→Int→Option (Bool)
 |0,_,_,_,_,_,_,_=>none
 |n+1,x0,x1,x2,x3,x4,x5,x6=>(qDl n x0 x1 x2 x3 x4 x5 x6).run
abbrev qJ9 (n:Nat):List (Ent (Rn n)):= [en (qEZ n),en (qKZ n),en (qG0 n),en (qCk n)]
theorem qJQ:∀n,Ok (Rn n) qJ8 (qCv n)
 |0=>ok0 fun _=>rfl
 |n+1=>stO (T:=qDl n) (by kernel_rfl) (qJ9 n) [] (fun _=>(by kernel_rfl)) fun _=>(by kernel_rfl)
def qM4:Sg:=⟨20,[aL],[],⟨aB,[],[]⟩⟩
def qD8 (n:Nat) (v:RW×RW×Int×Int):Tr ((RW×RW×Int×Int)⊕((Bool)⊕(RW))):=(.ask ((decide (v.2.2.2<v.2.2.1))) (.ask (decide (0≤v.2.2.2∧v.2.2.2<v.2.1.length)) (.opt (v.2.1[(v.2.2.2).toNat]?) fun e42=>(.ask (decide (e42.length=5)) (.opt (zE .i64 e42 0) fun y43=>(.opt (zE .i64 e42 1) fun y44=>(.opt (zE .i64 e42 2) fun y45=>(.opt (zj e42 3) fun y46=>(.opt (zE .i64 e42 4) fun y47=>(.opt (qCv n y43 y44 y45 y46 y47 v.2.2.2 (IntKind.i64.wrap ((IntKind.i64.wrap ((v.1.length:Int)-(1:Int)))-v.2.2.2))) fun r48=>(.ask ((!r48)) (.done (.inr (.inl (false)))) (.done (.inl (v.1,v.2.1,v.2.2.1,(IntKind.i64.wrap (v.2.2.2+(1:Int))))))))))))) .fail)) .fail) (.done (.inr (.inr (v.1)))))
def qIf (n:Nat) (x0:RW):Tr (Bool):=(.opt (zC (qD8 n) n (x0,x0,(x0.length:Int),(0:Int))) fun r49=>(.alt r49 (fun r50=>(.done r50)) (fun r51=>(.done (decide ((r51.length:Int)≤(30:Int)))))))
def qFn:Nat→RW→Option (Bool)
 |0,_=>none
 |n+1,x0=>(qIf n x0).run
abbrev qIg (n:Nat):List (Ent (Rn n)):= [en (qJQ n)]
def qKa (n:Nat):LEnt (KB 20) (Rn n) n:=lok (zT 20) 13 ⟨⟨[(0,aL),(5,aL),(6,aI),(7,aI)],[],[]⟩,[(.ret,⟨[(2,aB)],[],[]⟩),(.exit 0,⟨[(0,aL)],[],[]⟩)]⟩ (qD8 n) (qIg n) [] fun _=>(by kernel_rfl)
theorem qMJ:∀n,Ok (Rn n) qM4 (qFn n)
 |0=>ok0 fun _=>rfl
 |n+1=>stO (T:=qIf n) (by kernel_rfl) (qIg n) [qKa n] (fun _=>(by kernel_rfl)) fun _=>(by kernel_rfl)
def qOX:Sg:=⟨79,[(.agg [qI,qI]),(.agg [qI,qI])],[],⟨aB,[],[]⟩⟩
def qHS (n:Nat) (x0 x1 x2 x3:Int):Tr (Bool):=(.ask ((x0 !=x2)) (.done false) (.ask ((x1 !=x3)) (.done false) (.done true)))
def qHT:Nat→Int→Int→Int→Int→Option (Bool)
 |0,_,_,_,_=>none
 |n+1,x0,x1,x2,x3=>(qHS n x0 x1 x2 x3).run
theorem qNp:∀n,Ok (Rn n) qOX (qHT n)
 |0=>ok0 fun _=>rfl
 |n+1=>stO (T:=qHS n) (by kernel_rfl) [] [] (fun _=>(by kernel_rfl)) fun _=>(by kernel_rfl)
def qNq:Sg:=⟨57,[(.agg [qI,qI,qI,qS,qI]),(.agg [qI,qI,qI,qS,qI])],[],⟨aB,[],[]⟩⟩
def qGh (n:Nat) (x0 x1 x2:Int) (x3:BA) (x4 x5 x6 x7:Int) (x8:BA) (x9:Int):Tr (Bool):=(.ask ((x0 !=x5)) (.done false) (.opt (qHT n x1 x2 x6 x7) fun r66=>(.ask ((!r66)) (.done false) (.ask ((!(x3.toList==x8.toList))) (.done false) (.ask ((x4 !=x9)) (.done false) (.done true))))))
def qEa:Nat→Int→Int→Int→BA→Int→Int→Int→Int→BA→Int→Option (Bool)
 |0,_,_,_,_,_,_,_,_,_,_=>none
 |n+1,x0,x1,x2,x3,x4,x5,x6,x7,x8,x9=>(qGh n x0 x1 x2 x3 x4 x5 x6 x7 x8 x9).run
abbrev qNr (n:Nat):List (Ent (Rn n)):= [en (qNp n)]
theorem qM5:∀n,Ok (Rn n) qNq (qEa n)
 |0=>ok0 fun _=>rfl
 |n+1=>stO (T:=qGh n) (by kernel_rfl) (qNr n) [] (fun _=>(by kernel_rfl)) fun _=>(by kernel_rfl)
def qM6:Sg:=⟨21,[aL,aL],[],⟨aB,[],[]⟩⟩
def qCO (n:Nat) (v:RW×RW×Int):Tr ((RW×RW×Int)⊕((Bool)⊕(Unit))):=(.ask ((decide (v.2.2<(v.1.length:Int)))) (.ask (decide (0≤v.2.2∧v.2.2<v.1.length)) (.opt (v.1[(v.2.2).toNat]?) fun e54=>(.ask (decide (e54.length=5)) (.opt (zE .i64 e54 0) fun y55=>(.opt (zE .i64 e54 1) fun y56=>(.opt (zE .i64 e54 2) fun y57=>(.opt (zj e54 3) fun y58=>(.opt (zE .i64 e54 4) fun y59=>(.ask (decide (0≤v.2.2∧v.2.2<v.2.1.length)) (.opt (v.2.1[(v.2.2).toNat]?) fun e60=>(.ask (decide (e60.length=5)) (.opt (zE .i64 e60 0) fun y61=>(.opt (zE .i64 e60 1) fun y62=>(.opt (zE .i64 e60 2) fun y63=>(.opt (zj e60 3) fun y64=>(.opt (zE .i64 e60 4) fun y65=>(.opt (qEa n y55 y56 y57 y58 y59 y61 y62 y63 y64 y65) fun r66=>(.ask ((!r66)) (.done (.inr (.inl (false)))) (.done (.inl (v.1,v.2.1,(IntKind.i64.wrap (v.2.2+(1:Int))))))))))))) .fail)) .fail)))))) .fail)) .fail) (.done (.inr (.inr (())))))
def qFo (n:Nat) (x0 x1:RW):Tr (Bool):=(.ask (((x0.length:Int) !=(x1.length:Int))) (.done false) (.opt (zC (qCO n) n (x0,x1,(0:Int))) fun r67=>(.alt r67 (fun r68=>(.done r68)) (fun r69=>(.done true)))))
def qD9:Nat→RW→RW→Option (Bool)
 |0,_,_=>none
 |n+1,x0,x1=>(qFo n x0 x1).run
abbrev qIh (n:Nat):List (Ent (Rn n)):= [en (qM5 n)]
def qKb (n:Nat):LEnt (KB 21) (Rn n) n:=lok (zT 21) 29 ⟨⟨[(0,aL),(1,aL),(5,aI)],[],[]⟩,[(.ret,⟨[(4,aB)],[],[]⟩),(.exit 0,⟨[],[],[]⟩)]⟩ (qCO n) (qIh n) [] fun _=>(by kernel_rfl)
theorem qMK:∀n,Ok (Rn n) qM6 (qD9 n)
 |0=>ok0 fun _=>rfl
 |n+1=>stO (T:=qFo n) (by kernel_rfl) (qIh n) [qKb n] (fun _=>(by kernel_rfl)) fun _=>(by kernel_rfl)
def qH9:Sg:=⟨4,[aL],[],⟨aB,[],[]⟩⟩
def qC2 (n:Nat) (x0:RW):Tr (Bool):=(.opt (qDt n x0 (1048576:Int)) fun r11=>(.ask ((decide (r11<(0:Int)))) (.done true) (.opt (qCc n x0) fun r21=>(.ask (decide (r21.1=r21.2.length)) (.opt (qFU n r21.2) fun r40=>(.ask (zAc (⟨(.c (.p (.b r40))),[],[]⟩:Res)) (.opt (qCc n x0) fun r41=>(.ask (decide (r41.1=r41.2.length)) (.opt (qFn n r41.2) fun r52=>(.ask (zAc (⟨(.c (.p (.b r52))),[],[]⟩:Res)) (.ask ((!(r52==r40))) (.done false) (.opt (qCc n x0) fun r53=>(.ask (decide (r41.1=r41.2.length)) (.ask (decide (r53.1=r53.2.length)) (.opt (qD9 n r41.2 r53.2) fun r70=>(.ask (zAc (⟨(.c (.p (.b r70))),[],[]⟩:Res)) (.ask ((!r70)) (.done false) (.done true)) .fail)) .fail) .fail))) .fail)) .fail)) .fail)) .fail))))
def qEG:Nat→RW→Option (Bool)
 |0,_=>none
 |n+1,x0=>(qC2 n x0).run
abbrev qIA (n:Nat):List (Ent (Rn n)):= [en (qLs n),en (qLt n),en (qL8 n),en (qMJ n),en (qMK n)]
theorem qHU:∀n,Ok (Rn n) qH9 (qEG n)
 |0=>ok0 fun _=>rfl
 |n+1=>stO (T:=qC2 n) (by kernel_rfl) (qIA n) [] (fun _=>(by kernel_rfl)) fun _=>(by kernel_rfl)
end
end Go.Proofs.YtkkkfjgagjdcoaaGreatDoor.KFnExactMacroOk

