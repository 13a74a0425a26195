import Derived.Test.YtkkkfjgagjdcoaaGreatDoorKFnExactMacroText
namespace Go.Proofs.YtkkkfjgagjdcoaaGreatDoor.KFnExactMacroText
open Go.Eng
set_option linter.unusedVariables false
set_option maxRecDepth 100000
noncomputable section
abbrev RW:=List (List PV)
abbrev BA:=ByteArray
def qOP:Sg:=⟨50,[(.agg [qI,qI,qI,qS,qI]),aI],[],⟨aI,[],[]⟩⟩
def qGk (n:Nat) (x0 x1 x2:Int) (x3:BA) (x4 x5:Int):Tr (Int):=(.ask ((decide ((IntKind.i64.wrap (x5-(x3.size:Int)))<(0:Int)))) (.done (-1:Int)) (.done (IntKind.i64.wrap (x5-(x3.size:Int)))))
def qEr:Nat→Int→Int→Int→BA→Int→Int→Option (Int)
 |0,_,_,_,_,_,_=>none
 |n+1,x0,x1,x2,x3,x4,x5=>(qGk n x0 x1 x2 x3 x4 x5).run
theorem qNL:∀n,Ok (Rn n) qOP (qEr n)
 |0=>ok0 fun _=>rfl
 |n+1=>stO (T:=qGk n) (by kernel_rfl) [] [] (fun _=>(by kernel_rfl)) fun _=>(by kernel_rfl)
def qNM:Sg:=⟨17,[aL,aI],[],⟨aI,[],[]⟩⟩
def qBq (n:Nat) (v:RW×Int×Int):Tr ((RW×Int×Int)⊕((Int)⊕(Int))):=(.ask ((decide (v.2.2<(v.1.length:Int)))) (.ask (decide (0≤v.2.2∧v.2.2<v.1.length)) (.opt (v.1[(v.2.2).toNat]?) fun e1=>(.ask (decide (e1.length=5)) (.opt (zE .i64 e1 0) fun y2=>(.opt (zE .i64 e1 1) fun y3=>(.opt (zE .i64 e1 2) fun y4=>(.opt (zh e1 3) fun y5=>(.opt (zE .i64 e1 4) fun y6=>(.opt (qEr n y2 y3 y4 y5 y6 v.2.1) fun r7=>(.ask ((decide (r7<(0:Int)))) (.done (.inr (.inl ((-1:Int))))) (.done (.inl (v.1,r7,(IntKind.i64.wrap (v.2.2+(1:Int))))))))))))) .fail)) .fail) (.done (.inr (.inr (v.2.1)))))
def qFb (n:Nat) (x0:RW) (x1:Int):Tr (Int):=(.ask ((decide ((IntKind.i64.wrap (x1-(x0.length:Int)))<(0:Int)))) (.done (-1:Int)) (.opt (zC (qBq n) n (x0,(IntKind.i64.wrap (x1-(x0.length:Int))),(0:Int))) fun r8=>(.alt r8 (fun r9=>(.done r9)) (fun r10=>(.done r10)))))
def qD9:Nat→RW→Int→Option (Int)
 |0,_,_=>none
 |n+1,x0,x1=>(qFb n x0 x1).run
abbrev qIj (n:Nat):List (Ent (Rn n)):= [en (qNL n)]
def qKn (n:Nat):LEnt (KB 17) (Rn n) n:=lok (zX 17) 61 ⟨⟨[(0,aL),(1,aI),(5,aI)],[],[]⟩,[(.ret,⟨[(4,aI)],[],[]⟩),(.exit 0,⟨[(1,aI)],[],[]⟩)]⟩ (qBq n) (qIj n) [] fun _=>(by kernel_rfl)
theorem qMc:∀n,Ok (Rn n) qNM (qD9 n)
 |0=>ok0 fun _=>rfl
 |n+1=>stO (T:=qFb n) (by kernel_rfl) (qIj n) [qKn n] (fun _=>(by kernel_rfl)) fun _=>(by kernel_rfl)
def qPG:Sg:=⟨14,[(.agg [qI,qI])],[],⟨(.agg [qI,qI]),[],[]⟩⟩
def qHf (n:Nat) (x0 x1:Int):Tr (Int×Int):=(.done (x0,x1))
def qHg:Nat→Int→Int→Option (Int×Int)
 |0,_,_=>none
 |n+1,x0,x1=>(qHf n x0 x1).run
theorem qOQ:∀n,Ok (Rn n) qPG (qHg n)
 |0=>ok0 fun _=>rfl
 |n+1=>stO (T:=qHf n) (by kernel_rfl) [] [] (fun _=>(by kernel_rfl)) fun _=>(by kernel_rfl)
def qOR:Sg:=⟨55,[(.agg [qI,qI,qI,qS,qI])],[],⟨(.agg [qI,qI,qI,qS,qI]),[],[]⟩⟩
def qGl (n:Nat) (x0 x1 x2:Int) (x3:BA) (x4:Int):Tr (Int×Int×Int×BA×Int):=(.opt (qHg n x1 x2) fun r18=>(.done (x0,r18.1,r18.2,x3,x4)))
def qEs:Nat→Int→Int→Int→BA→Int→Option (Int×Int×Int×BA×Int)
 |0,_,_,_,_,_=>none
 |n+1,x0,x1,x2,x3,x4=>(qGl n x0 x1 x2 x3 x4).run
abbrev qOS (n:Nat):List (Ent (Rn n)):= [en (qOQ n)]
theorem qNN:∀n,Ok (Rn n) qOR (qEs n)
 |0=>ok0 fun _=>rfl
 |n+1=>stO (T:=qGl n) (by kernel_rfl) (qOS n) [] (fun _=>(by kernel_rfl)) fun _=>(by kernel_rfl)
def qNO:Sg:=⟨19,[aL],[],⟨(.c (.own 0 0 0 0)),[],[⟨0,5,79,(.row [])⟩]⟩⟩
def qCJ (n:Nat) (v:RW×Nat×Int×RW):Tr ((RW×Nat×Int×RW)⊕((Nat×RW))):=(.ask ((decide (v.2.2.1<(v.1.length:Int)))) (.ask (decide (0≤v.2.2.1∧v.2.2.1<v.1.length)) (.opt (v.1[(v.2.2.1).toNat]?) fun e12=>(.ask (decide (e12.length=5)) (.opt (zE .i64 e12 0) fun y13=>(.opt (zE .i64 e12 1) fun y14=>(.opt (zE .i64 e12 2) fun y15=>(.opt (zh e12 3) fun y16=>(.opt (zE .i64 e12 4) fun y17=>(.opt (qEs n y13 y14 y15 y16 y17) fun r18=>(.ask (decide (v.2.1=v.2.2.2.length∧0≤v.2.2.1∧v.2.2.1<((v.2.1:Nat):Int))) (.opt (v.2.2.2[(v.2.2.1).toNat]?) fun e19=>(.ask (decide (0+5≤e19.length)) (.done (.inl (v.1,v.2.1,(IntKind.i64.wrap (v.2.2.1+(1:Int))),(v.2.2.2.set (v.2.2.1).toNat (zAL e19 0 [(.i .i64 r18.1),(.i .i64 r18.2.1),(.i .i64 r18.2.2.1),(.s r18.2.2.2.1),(.i .i64 r18.2.2.2.2)]))))) .fail)) .fail))))))) .fail)) .fail) (.done (.inr ((v.2.1,v.2.2.2)))))
def qFc (n:Nat) (x0:RW):Tr (Nat×RW):=(.ask (decide (0≤(x0.length:Int)∧(x0.length:Int)=(x0.length:Int)∧48*(x0.length:Int)≤140737488355328∧(x0.length:Int)≤9223372036854775807)) (.opt (zC (qCJ n) n (x0,((x0.length:Int)).toNat,(0:Int),(zAl [(.i .i64 (0:Int)),(.i .i64 (0:Int)),(.i .i64 (0:Int)),(.s (⟨#[]⟩:BA)),(.i .i64 (0:Int))] ((x0.length:Int)).toNat))) fun r20=>(.done (r20.1,r20.2))) .fail)
def qCh:Nat→RW→Option (Nat×RW)
 |0,_=>none
 |n+1,x0=>(qFc n x0).run
abbrev qIk (n:Nat):List (Ent (Rn n)):= [en (qNN n)]
def qKo (n:Nat):LEnt (KB 19) (Rn n) n:=lok (zX 19) 29 ⟨⟨[(0,aL),(3,(.c (.own 0 448 0 0))),(4,aI)],[(448,⟨0,5,79,(.row [])⟩)],[]⟩,[(.exit 0,⟨[(3,(.c (.own 0 448 0 0)))],[(448,⟨0,5,79,(.row [])⟩)],[]⟩)]⟩ (qCJ n) (qIk n) [] fun _=>(by kernel_rfl)
theorem qMd:∀n,Ok (Rn n) qNO (qCh n)
 |0=>ok0 fun _=>rfl
 |n+1=>stO (T:=qFc n) (by kernel_rfl) (qIk n) [qKo n] (fun _=>(by kernel_rfl)) fun _=>(by kernel_rfl)
def qPl:Sg:=⟨54,[aI,aI,aI],[],⟨aB,[],[]⟩⟩
def qGQ (n:Nat) (x0 x1 x2:Int):Tr (Bool):=(.ask ((decide (x0≥x1))) (.done (decide (x0≤x2))) (.done false))
def qAb:Nat→Int→Int→Int→Option (Bool)
 |0,_,_,_=>none
 |n+1,x0,x1,x2=>(qGQ n x0 x1 x2).run
theorem qDN:∀n,Ok (Rn n) qPl (qAb n)
 |0=>ok0 fun _=>rfl
 |n+1=>stO (T:=qGQ n) (by kernel_rfl) [] [] (fun _=>(by kernel_rfl)) fun _=>(by kernel_rfl)
def qPH:Sg:=⟨51,[(.agg [qI,qI])],[],⟨aB,[],[]⟩⟩
def qHh (n:Nat) (x0 x1:Int):Tr (Bool):=(.opt (qAb n x0 (1:Int) (52:Int)) fun r28=>(.ask (r28) (.opt (qAb n x1 (1:Int) (99:Int)) fun r29=>(.done r29)) (.done false)))
def qy:Nat→Int→Int→Option (Bool)
 |0,_,_=>none
 |n+1,x0,x1=>(qHh n x0 x1).run
abbrev qPI (n:Nat):List (Ent (Rn n)):= [en (qDN n)]
theorem qDg:∀n,Ok (Rn n) qPH (qy n)
 |0=>ok0 fun _=>rfl
 |n+1=>stO (T:=qHh n) (by kernel_rfl) (qPI n) [] (fun _=>(by kernel_rfl)) fun _=>(by kernel_rfl)
def qNP:Sg:=⟨92,[aS],[],⟨aB,[],[]⟩⟩
def qBM (n:Nat) (v:BA×Int):Tr ((BA×Int)⊕((Bool)⊕(BA))):=(.ask ((decide (v.2<(v.1.size:Int)))) (.ask (decide (0≤v.2)) (.opt (v.1.toList[(v.2).toNat]?) fun c31=>(.ask ((decide ((c31.toNat:Int)<(32:Int)))) (.done (.inr (.inl (false)))) (.ask (decide (0≤v.2)) (.opt (v.1.toList[(v.2).toNat]?) fun c32=>(.ask ((decide ((c32.toNat:Int)>(126:Int)))) (.done (.inr (.inl (false)))) (.done (.inl (v.1,(IntKind.i64.wrap (v.2+(1:Int)))))))) .fail))) .fail) (.done (.inr (.inr (v.1)))))
def qFd (n:Nat) (x0:BA):Tr (Bool):=(.opt (zC (qBM n) n (x0,(0:Int))) fun r33=>(.alt r33 (fun r34=>(.done r34)) (fun r35=>(.done (decide ((r35.size:Int)≤(200:Int)))))))
def qB6:Nat→BA→Option (Bool)
 |0,_=>none
 |n+1,x0=>(qFd n x0).run
def qKp (n:Nat):LEnt (KB 92) (Rn n) n:=lok (zX 92) 13 ⟨⟨[(0,aS),(3,aI)],[],[]⟩,[(.ret,⟨[(2,aB)],[],[]⟩),(.exit 0,⟨[(0,aS)],[],[]⟩)]⟩ (qBM n) [] [] fun _=>(by kernel_rfl)
theorem qFB:∀n,Ok (Rn n) qNP (qB6 n)
 |0=>ok0 fun _=>rfl
 |n+1=>stO (T:=qFd n) (by kernel_rfl) [] [qKp n] (fun _=>(by kernel_rfl)) fun _=>(by kernel_rfl)
def qKG:Sg:=⟨135,[(.c (.ptr 0 0 0 0 0))],[[(0,⟨0,4,175,(.box [qS,qI,qB,(.own 0 1 1 0)])⟩),(1,⟨1,14,162,(.row [])⟩)]],⟨(.tup []),[[(0,⟨0,4,175,(.box [qS,qI,qB,(.own 0 1 1 0)])⟩),(1,⟨1,14,162,(.row [])⟩)]],[]⟩⟩
def qDB (n:Nat) (v:BA×Int×Bool×Nat×RW):Tr ((BA×Int×Bool×Nat×RW)⊕((BA×Int×Bool×Nat×RW))):=(.ask ((decide (v.2.1<(v.1.size:Int)))) (.ask (decide (0≤v.2.1)) (.opt (v.1.toList[(v.2.1).toNat]?) fun c39=>(.ask (((c39.toNat:Int)==(32:Int))) (.done (.inl (v.1,(IntKind.i64.wrap (v.2.1+(1:Int))),v.2.2.1,v.2.2.2.1,v.2.2.2.2))) (.done (.inr ((v.1,v.2.1,v.2.2.1,v.2.2.2.1,v.2.2.2.2)))))) .fail) (.done (.inr ((v.1,v.2.1,v.2.2.1,v.2.2.2.1,v.2.2.2.2)))))
def qFe (n:Nat) (x0:BA) (x1:Int) (x2:Bool) (x3:Nat) (x4:RW):Tr (BA×Int×Bool×Nat×RW):=(.opt (zC (qDB n) n (x0,x1,x2,x3,x4)) fun r40=>(.done (r40.1,r40.2.1,r40.2.2.1,r40.2.2.2.1,r40.2.2.2.2)))
def qBa:Nat→BA→Int→Bool→Nat→RW→Option (BA×Int×Bool×Nat×RW)
 |0,_,_,_,_,_=>none
 |n+1,x0,x1,x2,x3,x4=>(qFe n x0 x1 x2 x3 x4).run
def qIl (n:Nat):LEnt (KB 135) (Rn n) n:=lok (zX 135) 1 ⟨⟨[(0,(.c (.ptr 0 0 0 0 0)))],[],[[(0,⟨0,4,175,(.box [qS,qI,qB,(.own 0 1 1 0)])⟩),(1,⟨1,14,162,(.row [])⟩)]]⟩,[(.exit 0,⟨[],[],[[(0,⟨0,4,175,(.box [qS,qI,qB,(.own 0 1 1 0)])⟩),(1,⟨1,14,162,(.row [])⟩)]]⟩)]⟩ (qDB n) [] [] fun _=>(by kernel_rfl)
theorem qDW:∀n,Ok (Rn n) qKG (qBa n)
 |0=>ok0 fun _=>rfl
 |n+1=>stO (T:=qFe n) (by kernel_rfl) [] [qIl n] (fun _=>(by kernel_rfl)) fun _=>(by kernel_rfl)
def qNQ:Sg:=⟨208,[(.c (.ptr 0 0 0 0 0)),aS],[[(0,⟨0,4,175,(.box [qS,qI,qB,(.own 0 1 1 0)])⟩),(1,⟨1,14,162,(.row [])⟩)]],⟨aB,[[(0,⟨0,4,175,(.box [qS,qI,qB,(.own 0 1 1 0)])⟩),(1,⟨1,14,162,(.row [])⟩)]],[]⟩⟩
def qIm (n:Nat) (x0 x1:BA) (x2:Int) (x3:Bool) (x4:Nat) (x5:RW):Tr (Bool×BA×Int×Bool×Nat×RW):=(.opt (qBa n x1 x2 x3 x4 x5) fun r41=>(.ask (r41.2.2.1) (.done (false,r41.1,r41.2.1,r41.2.2.1,r41.2.2.2.1,r41.2.2.2.2)) (.ask ((decide ((IntKind.i64.wrap (r41.2.1+(x0.size:Int)))>(r41.1.size:Int)))) (.done (false,r41.1,r41.2.1,r41.2.2.1,r41.2.2.2.1,r41.2.2.2.2)) (.ask (decide (0≤r41.2.1∧r41.2.1≤(IntKind.i64.wrap (r41.2.1+(x0.size:Int)))∧(IntKind.i64.wrap (r41.2.1+(x0.size:Int)))≤r41.1.size)) (.ask ((!((r41.1.extract (r41.2.1).toNat ((IntKind.i64.wrap (r41.2.1+(x0.size:Int)))).toNat).toList==x0.toList))) (.done (false,r41.1,r41.2.1,r41.2.2.1,r41.2.2.2.1,r41.2.2.2.2)) (.done (true,r41.1,(IntKind.i64.wrap (r41.2.1+(x0.size:Int))),r41.2.2.1,r41.2.2.2.1,r41.2.2.2.2))) .fail))))
def qAB:Nat→BA→BA→Int→Bool→Nat→RW→Option (Bool×BA×Int×Bool×Nat×RW)
 |0,_,_,_,_,_,_=>none
 |n+1,x0,x1,x2,x3,x4,x5=>(qIm n x0 x1 x2 x3 x4 x5).run
abbrev qNR (n:Nat):List (Ent (Rn n)):= [en (qDW n)]
theorem qDl:∀n,Ok (Rn n) qNQ (qAB n)
 |0=>ok0 fun _=>rfl
 |n+1=>stO (T:=qIm n) (by kernel_rfl) (qNR n) [] (fun _=>(by kernel_rfl)) fun _=>(by kernel_rfl)
def qNS:Sg:=⟨139,[(.agg [qI,qI,qS])],[],⟨aB,[],[]⟩⟩
def qFf (n:Nat) (x0 x1:Int) (x2:BA):Tr (Bool):=(.ask ((x0==(0:Int))) (.ask ((x1==(0:Int))) (.done (x2.toList==(⟨#[]⟩:BA).toList)) (.done false)) (.ask ((x0==(1:Int))) (.opt (qAb n x1 (-1000000000000000:Int) (1000000000000000:Int)) fun r44=>(.ask (r44) (.done (x2.toList==(⟨#[]⟩:BA).toList)) (.done false))) (.ask ((x0==(2:Int))) (.ask ((x1==(0:Int))) (.opt (qB6 n x2) fun r45=>(.done r45)) (.done false)) (.ask ((x0==(3:Int))) (.opt (qAb n x1 (0:Int) (1:Int)) fun r46=>(.ask (r46) (.done (x2.toList==(⟨#[]⟩:BA).toList)) (.done false))) (.ask ((x0==(4:Int))) (.opt (qAb n x1 (1:Int) (5:Int)) fun r47=>(.ask (r47) (.done (x2.toList==(⟨#[]⟩:BA).toList)) (.done false))) (.done false))))))
def qY:Nat→Int→Int→BA→Option (Bool)
 |0,_,_,_=>none
 |n+1,x0,x1,x2=>(qFf n x0 x1 x2).run
abbrev qNT (n:Nat):List (Ent (Rn n)):= [en (qDN n),en (qFB n)]
theorem qDm:∀n,Ok (Rn n) qNS (qY n)
 |0=>ok0 fun _=>rfl
 |n+1=>stO (T:=qFf n) (by kernel_rfl) (qNT n) [] (fun _=>(by kernel_rfl)) fun _=>(by kernel_rfl)
def qOT:Sg:=⟨214,[(.agg [qI,qI,qI,qI])],[],⟨aB,[],[]⟩⟩
def qGm (n:Nat) (x0 x1 x2 x3:Int):Tr (Bool):=(.opt (qy n x0 x1) fun r50=>(.ask (r50) (.opt (qy n x2 x3) fun r51=>(.ask (r51) (.ask ((decide (x0≤x2))) (.done (decide (x1≤x3))) (.done false)) (.done false))) (.done false)))
def qEt:Nat→Int→Int→Int→Int→Option (Bool)
 |0,_,_,_,_=>none
 |n+1,x0,x1,x2,x3=>(qGm n x0 x1 x2 x3).run
abbrev qOU (n:Nat):List (Ent (Rn n)):= [en (qDg n)]
theorem qNU:∀n,Ok (Rn n) qOT (qEt n)
 |0=>ok0 fun _=>rfl
 |n+1=>stO (T:=qGm n) (by kernel_rfl) (qOU n) [] (fun _=>(by kernel_rfl)) fun _=>(by kernel_rfl)
def qOV:Sg:=⟨215,[aI,aI],[],⟨aB,[],[]⟩⟩
def qGn (n:Nat) (x0 x1:Int):Tr (Bool):=(.ask ((x0==(1:Int))) (.ask ((decide (x1≥(1:Int)))) (.done (decide (x1≤(10:Int)))) (.done false)) (.ask ((x0==(2:Int))) (.ask ((decide (x1≥(1:Int)))) (.done (decide (x1≤(10:Int)))) (.done false)) (.ask ((x0==(3:Int))) (.ask ((decide (x1≥(1:Int)))) (.done (decide (x1≤(10:Int)))) (.done false)) (.ask ((x0==(4:Int))) (.ask ((decide (x1≥(1:Int)))) (.done (decide (x1≤(10:Int)))) (.done false)) (.ask ((x0==(6:Int))) (.ask ((decide (x1≥(1:Int)))) (.done (decide (x1≤(10:Int)))) (.done false)) (.ask ((x0==(7:Int))) (.ask ((decide (x1≥(1:Int)))) (.done (decide (x1≤(10:Int)))) (.done false)) (.ask ((x0==(5:Int))) (.ask ((x1==(2:Int))) (.done true) (.done (x1==(3:Int)))) (.ask ((x0==(8:Int))) (.done (x1==(1:Int))) (.ask ((x0==(9:Int))) (.done (x1==(1:Int))) (.ask ((x0==(10:Int))) (.done (x1==(1:Int))) (.done false)))))))))))
def qEu:Nat→Int→Int→Option (Bool)
 |0,_,_=>none
 |n+1,x0,x1=>(qGn n x0 x1).run
theorem qNV:∀n,Ok (Rn n) qOV (qEu n)
 |0=>ok0 fun _=>rfl
 |n+1=>stO (T:=qGn n) (by kernel_rfl) [] [] (fun _=>(by kernel_rfl)) fun _=>(by kernel_rfl)
def qMe:Sg:=⟨176,[(.agg [qI,qI,qI,qI,qS,qI,qI,qB,qB,qI,qI,qB,qB,qL])],[],⟨aB,[],[]⟩⟩
def qFC (n:Nat) (x0 x1 x2 x3:Int) (x4:BA) (x5 x6:Int) (x7 x8:Bool) (x9 x10:Int) (x11 x12:Bool) (x13:RW):Tr (Bool):=(.ask ((x0==(1:Int))) (.ask ((x1==(0:Int))) (.ask (((x5==(0:Int))&&((x6==(0:Int))&&((x7==false)&&((x8==false)&&true))))) (.ask (((x9==(0:Int))&&((x10==(0:Int))&&((x11==false)&&((x12==false)&&true))))) (.ask (((x13.length:Int)==(0:Int))) (.opt (qY n x2 x3 x4) fun r48=>(.ask (r48) (.ask ((x2 !=(0:Int))) (.ask ((x2 !=(1:Int))) (.done true) (.done (decide (x3≥(0:Int))))) (.done false)) (.done false))) (.done false)) (.done false)) (.done false)) (.done false)) (.ask ((x0==(2:Int))) (.ask ((x1==(0:Int))) (.ask (((x2==(0:Int))&&((x3==(0:Int))&&((x4.toList==(⟨#[]⟩:BA).toList)&&true)))) (.ask (((x9==(0:Int))&&((x10==(0:Int))&&((x11==false)&&((x12==false)&&true))))) (.ask (((x13.length:Int)==(0:Int))) (.opt (qy n x5 x6) fun r49=>(.done r49)) (.done false)) (.done false)) (.done false)) (.done false)) (.ask ((x0==(3:Int))) (.ask ((x1==(0:Int))) (.ask (((x2==(0:Int))&&((x3==(0:Int))&&((x4.toList==(⟨#[]⟩:BA).toList)&&true)))) (.ask (((x13.length:Int)==(0:Int))) (.opt (qEt n x5 x6 x9 x10) fun r52=>(.done r52)) (.done false)) (.done false)) (.done false)) (.ask ((x0==(4:Int))) (.ask ((x1==(0:Int))) (.ask (((x2==(0:Int))&&((x3==(0:Int))&&((x4.toList==(⟨#[]⟩:BA).toList)&&true)))) (.ask (((x5==(0:Int))&&((x6==(0:Int))&&((x7==false)&&((x8==false)&&true))))) (.ask (((x9==(0:Int))&&((x10==(0:Int))&&((x11==false)&&((x12==false)&&true))))) (.done ((x13.length:Int)==(1:Int))) (.done false)) (.done false)) (.done false)) (.done false)) (.ask ((x0==(5:Int))) (.opt (qAb n x1 (1:Int) (11:Int)) fun r53=>(.ask (r53) (.ask (((x2==(0:Int))&&((x3==(0:Int))&&((x4.toList==(⟨#[]⟩:BA).toList)&&true)))) (.ask (((x5==(0:Int))&&((x6==(0:Int))&&((x7==false)&&((x8==false)&&true))))) (.ask (((x9==(0:Int))&&((x10==(0:Int))&&((x11==false)&&((x12==false)&&true))))) (.done ((x13.length:Int)==(2:Int))) (.done false)) (.done false)) (.done false)) (.done false))) (.ask ((x0==(6:Int))) (.opt (qEu n x1 (x13.length:Int)) fun r54=>(.ask (r54) (.ask (((x2==(0:Int))&&((x3==(0:Int))&&((x4.toList==(⟨#[]⟩:BA).toList)&&true)))) (.ask (((x5==(0:Int))&&((x6==(0:Int))&&((x7==false)&&((x8==false)&&true))))) (.done ((x9==(0:Int))&&((x10==(0:Int))&&((x11==false)&&((x12==false)&&true))))) (.done false)) (.done false)) (.done false))) (.done false)))))))
def qBs:Nat→Int→Int→Int→Int→BA→Int→Int→Bool→Bool→Int→Int→Bool→Bool→RW→Option (Bool)
 |0,_,_,_,_,_,_,_,_,_,_,_,_,_,_=>none
 |n+1,x0,x1,x2,x3,x4,x5,x6,x7,x8,x9,x10,x11,x12,x13=>(qFC n x0 x1 x2 x3 x4 x5 x6 x7 x8 x9 x10 x11 x12 x13).run
abbrev qMf (n:Nat):List (Ent (Rn n)):= [en (qDm n),en (qDg n),en (qNU n),en (qDN n),en (qNV n)]
theorem qHD:∀n,Ok (Rn n) qMe (qBs n)
 |0=>ok0 fun _=>rfl
 |n+1=>stO (T:=qFC n) (by kernel_rfl) (qMf n) [] (fun _=>(by kernel_rfl)) fun _=>(by kernel_rfl)
def qMg:Sg:=⟨175,[(.c (.ptr 0 0 0 0 0)),(.agg [qI,qI,qI,qI,qS,qI,qI,qB,qB,qI,qI,qB,qB,qL])],[[(0,⟨0,4,175,(.box [qS,qI,qB,(.own 0 1 1 0)])⟩),(1,⟨1,14,162,(.row [])⟩)]],⟨aI,[[(0,⟨0,4,175,(.box [qS,qI,qB,(.own 0 1 1 0)])⟩),(1,⟨1,14,162,(.row [])⟩)]],[]⟩⟩
def qH8 (n:Nat) (x0 x1 x2 x3:Int) (x4:BA) (x5 x6:Int) (x7 x8:Bool) (x9 x10:Int) (x11 x12:Bool) (x13:RW) (x14:BA) (x15:Int) (x16:Bool) (x17:Nat) (x18:RW):Tr (Int×BA×Int×Bool×Nat×RW):=(.ask (decide (1=([[(.i .i64 x0),(.i .i64 x1),(.i .i64 x2),(.i .i64 x3),(.s x4),(.i .i64 x5),(.i .i64 x6),(.b x7),(.b x8),(.i .i64 x9),(.i .i64 x10),(.b x11),(.b x12),(.ls x13)]]:RW).length)) (.ask (decide (x17=x18.length∧0<14∧0<120∧(x17+([[(.i .i64 x0),(.i .i64 x1),(.i .i64 x2),(.i .i64 x3),(.s x4),(.i .i64 x5),(.i .i64 x6),(.b x7),(.b x8),(.i .i64 x9),(.i .i64 x10),(.b x11),(.b x12),(.ls x13)]]:RW).length)*120≤140737488355328∧([[(.i .i64 x0),(.i .i64 x1),(.i .i64 x2),(.i .i64 x3),(.s x4),(.i .i64 x5),(.i .i64 x6),(.b x7),(.b x8),(.i .i64 x9),(.i .i64 x10),(.b x11),(.b x12),(.ls x13)]]:RW).all (fun e=>e.length==14)=true)) (.ask ((decide ((((x17+1):Nat):Int)>(60:Int)))) (.done ((IntKind.i64.wrap ((((x17+1):Nat):Int)-(1:Int))),x14,x15,true,(x17+1),(x18++([[(.i .i64 x0),(.i .i64 x1),(.i .i64 x2),(.i .i64 x3),(.s x4),(.i .i64 x5),(.i .i64 x6),(.b x7),(.b x8),(.i .i64 x9),(.i .i64 x10),(.b x11),(.b x12),(.ls x13)]]:RW)))) (.opt (qBs n x0 x1 x2 x3 x4 x5 x6 x7 x8 x9 x10 x11 x12 x13) fun r55=>(.ask ((!r55)) (.done ((IntKind.i64.wrap ((((x17+1):Nat):Int)-(1:Int))),x14,x15,true,(x17+1),(x18++([[(.i .i64 x0),(.i .i64 x1),(.i .i64 x2),(.i .i64 x3),(.s x4),(.i .i64 x5),(.i .i64 x6),(.b x7),(.b x8),(.i .i64 x9),(.i .i64 x10),(.b x11),(.b x12),(.ls x13)]]:RW)))) (.done ((IntKind.i64.wrap ((((x17+1):Nat):Int)-(1:Int))),x14,x15,x16,(x17+1),(x18++([[(.i .i64 x0),(.i .i64 x1),(.i .i64 x2),(.i .i64 x3),(.s x4),(.i .i64 x5),(.i .i64 x6),(.b x7),(.b x8),(.i .i64 x9),(.i .i64 x10),(.b x11),(.b x12),(.ls x13)]]:RW))))))) .fail) .fail)
def qp:Nat→Int→Int→Int→Int→BA→Int→Int→Bool→Bool→Int→Int→Bool→Bool→RW→BA→Int→Bool→Nat→RW→Option (Int×BA×Int×Bool×Nat×RW)
 |0,_,_,_,_,_,_,_,_,_,_,_,_,_,_,_,_,_,_,_=>none
 |n+1,x0,x1,x2,x3,x4,x5,x6,x7,x8,x9,x10,x11,x12,x13,x14,x15,x16,x17,x18=>(qH8 n x0 x1 x2 x3 x4 x5 x6 x7 x8 x9 x10 x11 x12 x13 x14 x15 x16 x17 x18).run
abbrev qMh (n:Nat):List (Ent (Rn n)):= [en (qHD n)]
theorem qCi:∀n,Ok (Rn n) qMg (qp n)
 |0=>ok0 fun _=>rfl
 |n+1=>stO (T:=qH8 n) (by kernel_rfl) (qMh n) [] (fun _=>(by kernel_rfl)) fun _=>(by kernel_rfl)
def qLa:Sg:=⟨209,[(.c (.ptr 0 0 0 0 0))],[[(0,⟨0,4,175,(.box [qS,qI,qB,(.own 0 1 1 0)])⟩),(1,⟨1,14,162,(.row [])⟩)]],⟨aI,[[(0,⟨0,4,175,(.box [qS,qI,qB,(.own 0 1 1 0)])⟩),(1,⟨1,14,162,(.row [])⟩)]],[]⟩⟩
def qDX (n:Nat) (v:BA×BA×Int×Bool×Nat×RW):Tr ((BA×BA×Int×Bool×Nat×RW)⊕((Int×BA×Int×Bool×Nat×RW)⊕(BA×Int×Bool×Nat×RW))):=(.ask ((decide (v.2.2.1<(v.2.1.size:Int)))) (.ask (decide (0≤v.2.2.1)) (.opt (v.2.1.toList[(v.2.2.1).toNat]?) fun c61=>(.ask (((c61.toNat:Int) !=(34:Int))) (.ask (decide (0≤v.2.2.1∧v.2.2.1≤(IntKind.i64.wrap (v.2.2.1+(1:Int)))∧(IntKind.i64.wrap (v.2.2.1+(1:Int)))≤v.2.1.size)) (.ask (decide (v.1.size+(v.2.1.extract (v.2.2.1).toNat ((IntKind.i64.wrap (v.2.2.1+(1:Int)))).toNat).size≤9223372036854775807)) (.done (.inl ((v.1++(v.2.1.extract (v.2.2.1).toNat ((IntKind.i64.wrap (v.2.2.1+(1:Int)))).toNat)),v.2.1,(IntKind.i64.wrap (v.2.2.1+(1:Int))),v.2.2.2.1,v.2.2.2.2.1,v.2.2.2.2.2))) .fail) .fail) (.ask ((decide ((IntKind.i64.wrap (v.2.2.1+(1:Int)))≥(v.2.1.size:Int)))) (.opt (qp n (1:Int) (0:Int) (2:Int) (0:Int) v.1 (0:Int) (0:Int) false false (0:Int) (0:Int) false false ([]:RW) v.2.1 (IntKind.i64.wrap (v.2.2.1+(1:Int))) v.2.2.2.1 v.2.2.2.2.1 v.2.2.2.2.2) fun r62=>(.done (.inr (.inl ((r62.1,r62.2.1,r62.2.2.1,r62.2.2.2.1,r62.2.2.2.2.1,r62.2.2.2.2.2)))))) (.ask (decide (0≤(IntKind.i64.wrap (v.2.2.1+(1:Int))))) (.opt (v.2.1.toList[((IntKind.i64.wrap (v.2.2.1+(1:Int)))).toNat]?) fun c63=>(.ask (((c63.toNat:Int) !=(34:Int))) (.opt (qp n (1:Int) (0:Int) (2:Int) (0:Int) v.1 (0:Int) (0:Int) false false (0:Int) (0:Int) false false ([]:RW) v.2.1 (IntKind.i64.wrap (v.2.2.1+(1:Int))) v.2.2.2.1 v.2.2.2.2.1 v.2.2.2.2.2) fun r64=>(.done (.inr (.inl ((r64.1,r64.2.1,r64.2.2.1,r64.2.2.2.1,r64.2.2.2.2.1,r64.2.2.2.2.2)))))) (.ask (decide (v.1.size+(⟨#[34]⟩:BA).size≤9223372036854775807)) (.done (.inl ((v.1++(⟨#[34]⟩:BA)),v.2.1,(IntKind.i64.wrap ((IntKind.i64.wrap (v.2.2.1+(1:Int)))+(1:Int))),v.2.2.2.1,v.2.2.2.2.1,v.2.2.2.2.2))) .fail))) .fail)))) .fail) (.done (.inr (.inr ((v.2.1,v.2.2.1,v.2.2.2.1,v.2.2.2.2.1,v.2.2.2.2.2))))))
def qHE (n:Nat) (x0:BA) (x1:Int) (x2:Bool) (x3:Nat) (x4:RW):Tr (Int×BA×Int×Bool×Nat×RW):=(.opt (zC (qDX n) n ((⟨#[]⟩:BA),x0,x1,x2,x3,x4)) fun r65=>(.alt r65 (fun r66=>(.done (r66.1,r66.2.1,r66.2.2.1,r66.2.2.2.1,r66.2.2.2.2.1,r66.2.2.2.2.2))) (fun r67=>(.done ((0:Int),r67.1,r67.2.1,true,r67.2.2.2.1,r67.2.2.2.2)))))
def qEb:Nat→BA→Int→Bool→Nat→RW→Option (Int×BA×Int×Bool×Nat×RW)
 |0,_,_,_,_,_=>none
 |n+1,x0,x1,x2,x3,x4=>(qHE n x0 x1 x2 x3 x4).run
abbrev qHF (n:Nat):List (Ent (Rn n)):= [en (qCi n)]
def qJf (n:Nat):LEnt (KB 209) (Rn n) n:=lok (zX 209) 14 ⟨⟨[(0,(.c (.ptr 0 0 0 0 0))),(3,aS)],[],[[(0,⟨0,4,175,(.box [qS,qI,qB,(.own 0 1 1 0)])⟩),(1,⟨1,14,162,(.row [])⟩)]]⟩,[(.ret,⟨[(2,aI)],[],[[(0,⟨0,4,175,(.box [qS,qI,qB,(.own 0 1 1 0)])⟩),(1,⟨1,14,162,(.row [])⟩)]]⟩),(.exit 0,⟨[(0,(.c (.ptr 0 0 0 0 0)))],[],[[(0,⟨0,4,175,(.box [qS,qI,qB,(.own 0 1 1 0)])⟩),(1,⟨1,14,162,(.row [])⟩)]]⟩)]⟩ (qDX n) (qHF n) [] fun _=>(by kernel_rfl)
theorem qKq:∀n,Ok (Rn n) qLa (qEb n)
 |0=>ok0 fun _=>rfl
 |n+1=>stO (T:=qHE n) (by kernel_rfl) (qHF n) [qJf n] (fun _=>(by kernel_rfl)) fun _=>(by kernel_rfl)
def qOW:Sg:=⟨141,[aI],[],⟨aS,[],[]⟩⟩
def qGo (n:Nat) (x0:Int):Tr (BA):=(.ask (decide (6=([[(.s (⟨#[]⟩:BA))],[(.s (⟨#[35,68,73,86,33]⟩:BA))],[(.s (⟨#[35,84,89,80,69,33]⟩:BA))],[(.s (⟨#[35,82,69,70,33]⟩:BA))],[(.s (⟨#[35,79,86,69,82,33]⟩:BA))],[(.s (⟨#[35,67,89,67,76,69,33]⟩:BA))]]:RW).length∧0≤x0∧x0<((6:Nat):Int))) (.opt (([[(.s (⟨#[]⟩:BA))],[(.s (⟨#[35,68,73,86,33]⟩:BA))],[(.s (⟨#[35,84,89,80,69,33]⟩:BA))],[(.s (⟨#[35,82,69,70,33]⟩:BA))],[(.s (⟨#[35,79,86,69,82,33]⟩:BA))],[(.s (⟨#[35,67,89,67,76,69,33]⟩:BA))]]:RW)[(x0).toNat]?) fun e70=>(.opt (zh e70 0) fun y71=>(.done y71))) .fail)
def qBK:Nat→Int→Option (BA)
 |0,_=>none
 |n+1,x0=>(qGo n x0).run
theorem qFg:∀n,Ok (Rn n) qOW (qBK n)
 |0=>ok0 fun _=>rfl
 |n+1=>stO (T:=qGo n) (by kernel_rfl) [] [] (fun _=>(by kernel_rfl)) fun _=>(by kernel_rfl)
def qNW:Sg:=⟨210,[aI],[],⟨(.agg [qI,qI,qS]),[],[]⟩⟩
def qFh (n:Nat) (x0:Int):Tr (Int×Int×BA):=(.done ((4:Int),x0,(⟨#[]⟩:BA)))
def qCj:Nat→Int→Option (Int×Int×BA)
 |0,_=>none
 |n+1,x0=>(qFh n x0).run
theorem qMi:∀n,Ok (Rn n) qNW (qCj n)
 |0=>ok0 fun _=>rfl
 |n+1=>stO (T:=qFh n) (by kernel_rfl) [] [] (fun _=>(by kernel_rfl)) fun _=>(by kernel_rfl)
def qLb:Sg:=⟨211,[(.c (.ptr 0 0 0 0 0))],[[(0,⟨0,4,175,(.box [qS,qI,qB,(.own 0 1 1 0)])⟩),(1,⟨1,14,162,(.row [])⟩)]],⟨aS,[[(0,⟨0,4,175,(.box [qS,qI,qB,(.own 0 1 1 0)])⟩),(1,⟨1,14,162,(.row [])⟩)]],[]⟩⟩
def qBu (n:Nat) (v:Int×BA×Int×Bool×Nat×RW):Tr ((Int×BA×Int×Bool×Nat×RW)⊕((Int×BA×Int×Bool×Nat×RW))):=(.ask ((decide (v.2.2.1<(v.2.1.size:Int)))) (.ask (decide (0≤v.2.2.1)) (.opt (v.2.1.toList[(v.2.2.1).toNat]?) fun c76=>(.ask ((decide ((c76.toNat:Int)≥(65:Int)))) (.ask (decide (0≤v.2.2.1)) (.opt (v.2.1.toList[(v.2.2.1).toNat]?) fun c77=>(.ask ((decide ((c77.toNat:Int)≤(90:Int)))) (.done (.inl (v.1,v.2.1,(IntKind.i64.wrap (v.2.2.1+(1:Int))),v.2.2.2.1,v.2.2.2.2.1,v.2.2.2.2.2))) (.ask (decide (0≤v.2.2.1)) (.opt (v.2.1.toList[(v.2.2.1).toNat]?) fun c78=>(.ask ((decide ((c78.toNat:Int)≥(48:Int)))) (.ask (decide (0≤v.2.2.1)) (.opt (v.2.1.toList[(v.2.2.1).toNat]?) fun c79=>(.ask ((decide ((c79.toNat:Int)≤(57:Int)))) (.done (.inl (v.1,v.2.1,(IntKind.i64.wrap (v.2.2.1+(1:Int))),v.2.2.2.1,v.2.2.2.2.1,v.2.2.2.2.2))) (.ask (decide (0≤v.2.2.1)) (.opt (v.2.1.toList[(v.2.2.1).toNat]?) fun c80=>(.ask (((c80.toNat:Int)==(36:Int))) (.done (.inl (v.1,v.2.1,(IntKind.i64.wrap (v.2.2.1+(1:Int))),v.2.2.2.1,v.2.2.2.2.1,v.2.2.2.2.2))) (.done (.inr ((v.1,v.2.1,v.2.2.1,v.2.2.2.1,v.2.2.2.2.1,v.2.2.2.2.2)))))) .fail))) .fail) (.ask (decide (0≤v.2.2.1)) (.opt (v.2.1.toList[(v.2.2.1).toNat]?) fun c81=>(.ask (((c81.toNat:Int)==(36:Int))) (.done (.inl (v.1,v.2.1,(IntKind.i64.wrap (v.2.2.1+(1:Int))),v.2.2.2.1,v.2.2.2.2.1,v.2.2.2.2.2))) (.done (.inr ((v.1,v.2.1,v.2.2.1,v.2.2.2.1,v.2.2.2.2.1,v.2.2.2.2.2)))))) .fail))) .fail))) .fail) (.ask (decide (0≤v.2.2.1)) (.opt (v.2.1.toList[(v.2.2.1).toNat]?) fun c82=>(.ask ((decide ((c82.toNat:Int)≥(48:Int)))) (.ask (decide (0≤v.2.2.1)) (.opt (v.2.1.toList[(v.2.2.1).toNat]?) fun c83=>(.ask ((decide ((c83.toNat:Int)≤(57:Int)))) (.done (.inl (v.1,v.2.1,(IntKind.i64.wrap (v.2.2.1+(1:Int))),v.2.2.2.1,v.2.2.2.2.1,v.2.2.2.2.2))) (.ask (decide (0≤v.2.2.1)) (.opt (v.2.1.toList[(v.2.2.1).toNat]?) fun c84=>(.ask (((c84.toNat:Int)==(36:Int))) (.done (.inl (v.1,v.2.1,(IntKind.i64.wrap (v.2.2.1+(1:Int))),v.2.2.2.1,v.2.2.2.2.1,v.2.2.2.2.2))) (.done (.inr ((v.1,v.2.1,v.2.2.1,v.2.2.2.1,v.2.2.2.2.1,v.2.2.2.2.2)))))) .fail))) .fail) (.ask (decide (0≤v.2.2.1)) (.opt (v.2.1.toList[(v.2.2.1).toNat]?) fun c85=>(.ask (((c85.toNat:Int)==(36:Int))) (.done (.inl (v.1,v.2.1,(IntKind.i64.wrap (v.2.2.1+(1:Int))),v.2.2.2.1,v.2.2.2.2.1,v.2.2.2.2.2))) (.done (.inr ((v.1,v.2.1,v.2.2.1,v.2.2.2.1,v.2.2.2.2.1,v.2.2.2.2.2)))))) .fail))) .fail))) .fail) (.done (.inr ((v.1,v.2.1,v.2.2.1,v.2.2.2.1,v.2.2.2.2.1,v.2.2.2.2.2)))))
def qHG (n:Nat) (x0:BA) (x1:Int) (x2:Bool) (x3:Nat) (x4:RW):Tr (BA×BA×Int×Bool×Nat×RW):=(.opt (zC (qBu n) n (x1,x0,x1,x2,x3,x4)) fun r86=>(.ask (decide (0≤r86.1∧r86.1≤r86.2.2.1∧r86.2.2.1≤r86.2.1.size)) (.done ((r86.2.1.extract (r86.1).toNat (r86.2.2.1).toNat),r86.2.1,r86.2.2.1,r86.2.2.2.1,r86.2.2.2.2.1,r86.2.2.2.2.2)) .fail))
def qCk:Nat→BA→Int→Bool→Nat→RW→Option (BA×BA×Int×Bool×Nat×RW)
 |0,_,_,_,_,_=>none
 |n+1,x0,x1,x2,x3,x4=>(qHG n x0 x1 x2 x3 x4).run
def qJg (n:Nat):LEnt (KB 211) (Rn n) n:=lok (zX 211) 14 ⟨⟨[(0,(.c (.ptr 0 0 0 0 0))),(3,aI)],[],[[(0,⟨0,4,175,(.box [qS,qI,qB,(.own 0 1 1 0)])⟩),(1,⟨1,14,162,(.row [])⟩)]]⟩,[(.exit 0,⟨[(0,(.c (.ptr 0 0 0 0 0))),(3,aI)],[],[[(0,⟨0,4,175,(.box [qS,qI,qB,(.own 0 1 1 0)])⟩),(1,⟨1,14,162,(.row [])⟩)]]⟩)]⟩ (qBu n) [] [] fun _=>(by kernel_rfl)
theorem qGR:∀n,Ok (Rn n) qLb (qCk n)
 |0=>ok0 fun _=>rfl
 |n+1=>stO (T:=qHG n) (by kernel_rfl) [] [qJg n] (fun _=>(by kernel_rfl)) fun _=>(by kernel_rfl)
def qPm:Sg:=⟨182,[aI],[],⟨aS,[],[]⟩⟩
def qIn (n:Nat) (x0:Int):Tr (BA):=(.ask (decide (11=([[(.s (⟨#[]⟩:BA))],[(.s (⟨#[83,85,77]⟩:BA))],[(.s (⟨#[77,73,78]⟩:BA))],[(.s (⟨#[77,65,88]⟩:BA))],[(.s (⟨#[67,79,85,78,84]⟩:BA))],[(.s (⟨#[73,70]⟩:BA))],[(.s (⟨#[65,78,68]⟩:BA))],[(.s (⟨#[79,82]⟩:BA))],[(.s (⟨#[78,79,84]⟩:BA))],[(.s (⟨#[65,66,83]⟩:BA))],[(.s (⟨#[76,69,78]⟩:BA))]]:RW).length∧0≤x0∧x0<((11:Nat):Int))) (.opt (([[(.s (⟨#[]⟩:BA))],[(.s (⟨#[83,85,77]⟩:BA))],[(.s (⟨#[77,73,78]⟩:BA))],[(.s (⟨#[77,65,88]⟩:BA))],[(.s (⟨#[67,79,85,78,84]⟩:BA))],[(.s (⟨#[73,70]⟩:BA))],[(.s (⟨#[65,78,68]⟩:BA))],[(.s (⟨#[79,82]⟩:BA))],[(.s (⟨#[78,79,84]⟩:BA))],[(.s (⟨#[65,66,83]⟩:BA))],[(.s (⟨#[76,69,78]⟩:BA))]]:RW)[(x0).toNat]?) fun e88=>(.opt (zh e88 0) fun y89=>(.done y89))) .fail)
def qCK:Nat→Int→Option (BA)
 |0,_=>none
 |n+1,x0=>(qIn n x0).run
theorem qKr:∀n,Ok (Rn n) qPm (qCK n)
 |0=>ok0 fun _=>rfl
 |n+1=>stO (T:=qIn n) (by kernel_rfl) [] [] (fun _=>(by kernel_rfl)) fun _=>(by kernel_rfl)
def qNX:Sg:=⟨99,[aI],[],⟨aS,[],[]⟩⟩
def qBN (n:Nat) (v:Int×BA):Tr ((Int×BA)⊕((BA))):=(.ask ((decide (v.1>(0:Int)))) (.ask (decide (1=([[(.i .u8 (IntKind.u8.wrap (IntKind.i64.wrap ((65:Int)+(Int.tmod (IntKind.i64.wrap (v.1-(1:Int))) (26:Int))))))]]:RW).length)) (.opt (bytesOf ([[(.i .u8 (IntKind.u8.wrap (IntKind.i64.wrap ((65:Int)+(Int.tmod (IntKind.i64.wrap (v.1-(1:Int))) (26:Int))))))]]:RW)) fun l99=>(.ask (decide ((⟨l99.toArray⟩:BA).size+v.2.size≤9223372036854775807)) (.done (.inl ((IntKind.i64.wrap (Int.tdiv (IntKind.i64.wrap (v.1-(1:Int))) (26:Int))),((⟨l99.toArray⟩:BA)++v.2)))) .fail)) .fail) (.done (.inr (v.2))))
def qEA (n:Nat) (x0:Int):Tr (BA):=(.opt (qAb n x0 (1:Int) (52:Int)) fun r98=>(.ask ((!r98)) (.done (⟨#[]⟩:BA)) (.opt (zC (qBN n) n (x0,(⟨#[]⟩:BA))) fun r100=>(.done r100))))
def qCl:Nat→Int→Option (BA)
 |0,_=>none
 |n+1,x0=>(qEA n x0).run
abbrev qIo (n:Nat):List (Ent (Rn n)):= [en (qDN n)]
def qKs (n:Nat):LEnt (KB 99) (Rn n) n:=lok (zX 99) 30 ⟨⟨[(0,aI),(3,aS)],[],[]⟩,[(.exit 0,⟨[(3,aS)],[],[]⟩)]⟩ (qBN n) (qIo n) [] fun _=>(by kernel_rfl)
theorem qH9:∀n,Ok (Rn n) qNX (qCl n)
 |0=>ok0 fun _=>rfl
 |n+1=>stO (T:=qEA n) (by kernel_rfl) (qIo n) [qKs n] (fun _=>(by kernel_rfl)) fun _=>(by kernel_rfl)
def qNY:Sg:=⟨233,[aS],[],⟨aI,[],[]⟩⟩
def qCL (n:Nat) (v:BA×Int):Tr ((BA×Int)⊕((Int)⊕(Unit))):=(.ask ((decide (v.2≤(52:Int)))) (.opt (qCl n v.2) fun r98=>(.ask ((r98.toList==v.1.toList)) (.done (.inr (.inl (v.2)))) (.done (.inl (v.1,(IntKind.i64.wrap (v.2+(1:Int)))))))) (.done (.inr (.inr (())))))
def qFi (n:Nat) (x0:BA):Tr (Int):=(.opt (zC (qCL n) n (x0,(1:Int))) fun r99=>(.alt r99 (fun r100=>(.done r100)) (fun r101=>(.done (0:Int)))))
def qB7:Nat→BA→Option (Int)
 |0,_=>none
 |n+1,x0=>(qFi n x0).run
abbrev qIp (n:Nat):List (Ent (Rn n)):= [en (qH9 n)]
def qKt (n:Nat):LEnt (KB 233) (Rn n) n:=lok (zX 233) 13 ⟨⟨[(0,aS),(3,aI)],[],[]⟩,[(.ret,⟨[(2,aI)],[],[]⟩),(.exit 0,⟨[],[],[]⟩)]⟩ (qCL n) (qIp n) [] fun _=>(by kernel_rfl)
theorem qMj:∀n,Ok (Rn n) qNY (qB7 n)
 |0=>ok0 fun _=>rfl
 |n+1=>stO (T:=qFi n) (by kernel_rfl) (qIp n) [qKt n] (fun _=>(by kernel_rfl)) fun _=>(by kernel_rfl)
def qPJ:Sg:=⟨138,[aS,aI],[],⟨(.tup [(false,[qI]),(false,[qB])]),[],[]⟩⟩
def qBX (n:Nat) (v:BA×Int×Int):Tr ((BA×Int×Int)⊕((Int×Bool)⊕(Int))):=(.ask ((decide (v.2.2<(v.1.size:Int)))) (.ask (decide (0≤v.2.2)) (.opt (v.1.toList[(v.2.2).toNat]?) fun c105=>(.ask ((decide ((c105.toNat:Int)<(48:Int)))) (.done (.inr (.inl (((0:Int),false))))) (.ask (decide (0≤v.2.2)) (.opt (v.1.toList[(v.2.2).toNat]?) fun c106=>(.ask ((decide ((c106.toNat:Int)>(57:Int)))) (.done (.inr (.inl (((0:Int),false))))) (.ask (decide (0≤v.2.2)) (.opt (v.1.toList[(v.2.2).toNat]?) fun c107=>(.done (.inl (v.1,(IntKind.i64.wrap ((IntKind.i64.wrap (v.2.1*(10:Int)))+(IntKind.i64.wrap (IntKind.u8.wrap ((c107.toNat:Int)-(48:Int)))))),(IntKind.i64.wrap (v.2.2+(1:Int))))))) .fail))) .fail))) .fail) (.done (.inr (.inr (v.2.1)))))
def qEB (n:Nat) (x0:BA) (x1:Int):Tr (Int×Bool):=(.ask ((decide ((x0.size:Int)<(1:Int)))) (.done ((0:Int),false)) (.ask ((decide ((x0.size:Int)>x1))) (.done ((0:Int),false)) (.ask (decide (0≤(0:Int))) (.opt (x0.toList[((0:Int)).toNat]?) fun c104=>(.ask (((c104.toNat:Int)==(48:Int))) (.ask ((decide ((x0.size:Int)>(1:Int)))) (.done ((0:Int),false)) (.opt (zC (qBX n) n (x0,(0:Int),(0:Int))) fun r108=>(.alt r108 (fun r109=>(.done (r109.1,r109.2))) (fun r110=>(.done (r110,true)))))) (.opt (zC (qBX n) n (x0,(0:Int),(0:Int))) fun r111=>(.alt r111 (fun r112=>(.done (r112.1,r112.2))) (fun r113=>(.done (r113,true))))))) .fail)))
def qr:Nat→BA→Int→Option (Int×Bool)
 |0,_,_=>none
 |n+1,x0,x1=>(qEB n x0 x1).run
def qMk (n:Nat):LEnt (KB 138) (Rn n) n:=lok (zX 138) 61 ⟨⟨[(0,aS),(6,aI),(7,aI)],[],[]⟩,[(.ret,⟨[(4,aI),(5,aB)],[],[]⟩),(.exit 0,⟨[(6,aI)],[],[]⟩)]⟩ (qBX n) [] [] fun _=>(by kernel_rfl)
theorem qGp:∀n,Ok (Rn n) qPJ (qr n)
 |0=>ok0 fun _=>rfl
 |n+1=>stO (T:=qEB n) (by kernel_rfl) [] [qMk n] (fun _=>(by kernel_rfl)) fun _=>(by kernel_rfl)
def qLc:Sg:=⟨213,[aS],[],⟨(.tup [(true,[qI,qI,qB,qB]),(false,[qB])]),[],[]⟩⟩
def qAI (n:Nat) (v:BA×Int×Int×Int×Bool×Bool×Int×Int×Bool×Bool):Tr ((BA×Int×Int×Int×Bool×Bool×Int×Int×Bool×Bool)⊕((BA×Int×Int×Int×Bool×Bool×Int×Int×Bool×Bool))):=(.ask ((decide (v.2.1<(v.1.size:Int)))) (.ask (decide (0≤v.2.1)) (.opt (v.1.toList[(v.2.1).toNat]?) fun c95=>(.ask ((decide ((c95.toNat:Int)≥(65:Int)))) (.ask (decide (0≤v.2.1)) (.opt (v.1.toList[(v.2.1).toNat]?) fun c96=>(.ask ((decide ((c96.toNat:Int)≤(90:Int)))) (.done (.inl (v.1,(IntKind.i64.wrap (v.2.1+(1:Int))),v.2.2.1,v.2.2.2.1,v.2.2.2.2.1,v.2.2.2.2.2.1,v.2.2.2.2.2.2.1,v.2.2.2.2.2.2.2.1,v.2.2.2.2.2.2.2.2.1,v.2.2.2.2.2.2.2.2.2))) (.done (.inr ((v.1,v.2.1,v.2.2.1,v.2.2.2.1,v.2.2.2.2.1,v.2.2.2.2.2.1,v.2.2.2.2.2.2.1,v.2.2.2.2.2.2.2.1,v.2.2.2.2.2.2.2.2.1,v.2.2.2.2.2.2.2.2.2)))))) .fail) (.done (.inr ((v.1,v.2.1,v.2.2.1,v.2.2.2.1,v.2.2.2.2.1,v.2.2.2.2.2.1,v.2.2.2.2.2.2.1,v.2.2.2.2.2.2.2.1,v.2.2.2.2.2.2.2.2.1,v.2.2.2.2.2.2.2.2.2)))))) .fail) (.done (.inr ((v.1,v.2.1,v.2.2.1,v.2.2.2.1,v.2.2.2.2.1,v.2.2.2.2.2.1,v.2.2.2.2.2.2.1,v.2.2.2.2.2.2.2.1,v.2.2.2.2.2.2.2.2.1,v.2.2.2.2.2.2.2.2.2)))))
def qB4 (n:Nat) (x0:BA):Tr (Int×Int×Bool×Bool×Bool):=(.ask ((decide ((x0.size:Int)>(0:Int)))) (.ask (decide (0≤(0:Int))) (.opt (x0.toList[((0:Int)).toNat]?) fun c94=>(.ask (((c94.toNat:Int)==(36:Int))) (.ask (decide (0≤(1:Int)∧(1:Int)≤(x0.size:Int)∧(x0.size:Int)≤x0.size)) (.opt (zC (qAI n) n ((x0.extract ((1:Int)).toNat ((x0.size:Int)).toNat),(0:Int),(0:Int),(0:Int),false,false,(0:Int),(0:Int),true,false)) fun r97=>(.ask (decide (0≤(0:Int)∧(0:Int)≤r97.2.1∧r97.2.1≤r97.1.size)) (.opt (qB7 n (r97.1.extract ((0:Int)).toNat (r97.2.1).toNat)) fun r102=>(.ask (decide (0≤r97.2.1∧r97.2.1≤(r97.1.size:Int)∧(r97.1.size:Int)≤r97.1.size)) (.ask ((decide (((r97.1.extract (r97.2.1).toNat ((r97.1.size:Int)).toNat).size:Int)>(0:Int)))) (.ask (decide (0≤(0:Int))) (.opt ((r97.1.extract (r97.2.1).toNat ((r97.1.size:Int)).toNat).toList[((0:Int)).toNat]?) fun c103=>(.ask (((c103.toNat:Int)==(36:Int))) (.ask (decide (0≤(1:Int)∧(1:Int)≤((r97.1.extract (r97.2.1).toNat ((r97.1.size:Int)).toNat).size:Int)∧((r97.1.extract (r97.2.1).toNat ((r97.1.size:Int)).toNat).size:Int)≤(r97.1.extract (r97.2.1).toNat ((r97.1.size:Int)).toNat).size)) (.opt (qr n ((r97.1.extract (r97.2.1).toNat ((r97.1.size:Int)).toNat).extract ((1:Int)).toNat (((r97.1.extract (r97.2.1).toNat ((r97.1.size:Int)).toNat).size:Int)).toNat) (2:Int)) fun r114=>(.ask ((!r114.2)) (.done ((0:Int),(0:Int),false,false,false)) (.opt (qy n r102 r114.1) fun r115=>(.ask ((!r115)) (.done ((0:Int),(0:Int),false,false,false)) (.done (r102,r114.1,r97.2.2.2.2.2.2.2.2.1,true,true)))))) .fail) (.opt (qr n (r97.1.extract (r97.2.1).toNat ((r97.1.size:Int)).toNat) (2:Int)) fun r116=>(.ask ((!r116.2)) (.done ((0:Int),(0:Int),false,false,false)) (.opt (qy n r102 r116.1) fun r117=>(.ask ((!r117)) (.done ((0:Int),(0:Int),false,false,false)) (.done (r102,r116.1,r97.2.2.2.2.2.2.2.2.1,r97.2.2.2.2.2.2.2.2.2,true)))))))) .fail) (.opt (qr n (r97.1.extract (r97.2.1).toNat ((r97.1.size:Int)).toNat) (2:Int)) fun r118=>(.ask ((!r118.2)) (.done ((0:Int),(0:Int),false,false,false)) (.opt (qy n r102 r118.1) fun r119=>(.ask ((!r119)) (.done ((0:Int),(0:Int),false,false,false)) (.done (r102,r118.1,r97.2.2.2.2.2.2.2.2.1,r97.2.2.2.2.2.2.2.2.2,true))))))) .fail)) .fail)) .fail) (.opt (zC (qAI n) n (x0,(0:Int),(0:Int),(0:Int),false,false,(0:Int),(0:Int),false,false)) fun r120=>(.ask (decide (0≤(0:Int)∧(0:Int)≤r120.2.1∧r120.2.1≤r120.1.size)) (.opt (qB7 n (r120.1.extract ((0:Int)).toNat (r120.2.1).toNat)) fun r121=>(.ask (decide (0≤r120.2.1∧r120.2.1≤(r120.1.size:Int)∧(r120.1.size:Int)≤r120.1.size)) (.ask ((decide (((r120.1.extract (r120.2.1).toNat ((r120.1.size:Int)).toNat).size:Int)>(0:Int)))) (.ask (decide (0≤(0:Int))) (.opt ((r120.1.extract (r120.2.1).toNat ((r120.1.size:Int)).toNat).toList[((0:Int)).toNat]?) fun c122=>(.ask (((c122.toNat:Int)==(36:Int))) (.ask (decide (0≤(1:Int)∧(1:Int)≤((r120.1.extract (r120.2.1).toNat ((r120.1.size:Int)).toNat).size:Int)∧((r120.1.extract (r120.2.1).toNat ((r120.1.size:Int)).toNat).size:Int)≤(r120.1.extract (r120.2.1).toNat ((r120.1.size:Int)).toNat).size)) (.opt (qr n ((r120.1.extract (r120.2.1).toNat ((r120.1.size:Int)).toNat).extract ((1:Int)).toNat (((r120.1.extract (r120.2.1).toNat ((r120.1.size:Int)).toNat).size:Int)).toNat) (2:Int)) fun r123=>(.ask ((!r123.2)) (.done ((0:Int),(0:Int),false,false,false)) (.opt (qy n r121 r123.1) fun r124=>(.ask ((!r124)) (.done ((0:Int),(0:Int),false,false,false)) (.done (r121,r123.1,r120.2.2.2.2.2.2.2.2.1,true,true)))))) .fail) (.opt (qr n (r120.1.extract (r120.2.1).toNat ((r120.1.size:Int)).toNat) (2:Int)) fun r125=>(.ask ((!r125.2)) (.done ((0:Int),(0:Int),false,false,false)) (.opt (qy n r121 r125.1) fun r126=>(.ask ((!r126)) (.done ((0:Int),(0:Int),false,false,false)) (.done (r121,r125.1,r120.2.2.2.2.2.2.2.2.1,r120.2.2.2.2.2.2.2.2.2,true)))))))) .fail) (.opt (qr n (r120.1.extract (r120.2.1).toNat ((r120.1.size:Int)).toNat) (2:Int)) fun r127=>(.ask ((!r127.2)) (.done ((0:Int),(0:Int),false,false,false)) (.opt (qy n r121 r127.1) fun r128=>(.ask ((!r128)) (.done ((0:Int),(0:Int),false,false,false)) (.done (r121,r127.1,r120.2.2.2.2.2.2.2.2.1,r120.2.2.2.2.2.2.2.2.2,true))))))) .fail)) .fail)))) .fail) (.opt (zC (qAI n) n (x0,(0:Int),(0:Int),(0:Int),false,false,(0:Int),(0:Int),false,false)) fun r129=>(.ask (decide (0≤(0:Int)∧(0:Int)≤r129.2.1∧r129.2.1≤r129.1.size)) (.opt (qB7 n (r129.1.extract ((0:Int)).toNat (r129.2.1).toNat)) fun r130=>(.ask (decide (0≤r129.2.1∧r129.2.1≤(r129.1.size:Int)∧(r129.1.size:Int)≤r129.1.size)) (.ask ((decide (((r129.1.extract (r129.2.1).toNat ((r129.1.size:Int)).toNat).size:Int)>(0:Int)))) (.ask (decide (0≤(0:Int))) (.opt ((r129.1.extract (r129.2.1).toNat ((r129.1.size:Int)).toNat).toList[((0:Int)).toNat]?) fun c131=>(.ask (((c131.toNat:Int)==(36:Int))) (.ask (decide (0≤(1:Int)∧(1:Int)≤((r129.1.extract (r129.2.1).toNat ((r129.1.size:Int)).toNat).size:Int)∧((r129.1.extract (r129.2.1).toNat ((r129.1.size:Int)).toNat).size:Int)≤(r129.1.extract (r129.2.1).toNat ((r129.1.size:Int)).toNat).size)) (.opt (qr n ((r129.1.extract (r129.2.1).toNat ((r129.1.size:Int)).toNat).extract ((1:Int)).toNat (((r129.1.extract (r129.2.1).toNat ((r129.1.size:Int)).toNat).size:Int)).toNat) (2:Int)) fun r132=>(.ask ((!r132.2)) (.done ((0:Int),(0:Int),false,false,false)) (.opt (qy n r130 r132.1) fun r133=>(.ask ((!r133)) (.done ((0:Int),(0:Int),false,false,false)) (.done (r130,r132.1,r129.2.2.2.2.2.2.2.2.1,true,true)))))) .fail) (.opt (qr n (r129.1.extract (r129.2.1).toNat ((r129.1.size:Int)).toNat) (2:Int)) fun r134=>(.ask ((!r134.2)) (.done ((0:Int),(0:Int),false,false,false)) (.opt (qy n r130 r134.1) fun r135=>(.ask ((!r135)) (.done ((0:Int),(0:Int),false,false,false)) (.done (r130,r134.1,r129.2.2.2.2.2.2.2.2.1,r129.2.2.2.2.2.2.2.2.2,true)))))))) .fail) (.opt (qr n (r129.1.extract (r129.2.1).toNat ((r129.1.size:Int)).toNat) (2:Int)) fun r136=>(.ask ((!r136.2)) (.done ((0:Int),(0:Int),false,false,false)) (.opt (qy n r130 r136.1) fun r137=>(.ask ((!r137)) (.done ((0:Int),(0:Int),false,false,false)) (.done (r130,r136.1,r129.2.2.2.2.2.2.2.2.1,r129.2.2.2.2.2.2.2.2.2,true))))))) .fail)) .fail)))
def qAl:Nat→BA→Option (Int×Int×Bool×Bool×Bool)
 |0,_=>none
 |n+1,x0=>(qB4 n x0).run
abbrev qHH (n:Nat):List (Ent (Rn n)):= [en (qMj n),en (qGp n),en (qDg n)]
def qJh (n:Nat):LEnt (KB 213) (Rn n) n:=lok (zX 213) 62 ⟨⟨[(0,aS),(2,(.c (.ptr 0 128 0 0 0))),(4,(.c (.ptr 0 256 0 0 0))),(5,aI)],[(128,⟨0,4,90,(.box [qI,qI,qB,qB])⟩),(256,⟨0,4,90,(.box [qI,qI,qB,qB])⟩)],[]⟩,[(.exit 0,⟨[(0,aS),(2,(.c (.ptr 0 128 0 0 0))),(4,(.c (.ptr 0 256 0 0 0))),(5,aI)],[(128,⟨0,4,90,(.box [qI,qI,qB,qB])⟩),(256,⟨0,4,90,(.box [qI,qI,qB,qB])⟩)],[]⟩)]⟩ (qAI n) (qHH n) [] fun _=>(by kernel_rfl)
theorem qGS:∀n,Ok (Rn n) qLc (qAl n)
 |0=>ok0 fun _=>rfl
 |n+1=>stO (T:=qB4 n) (by kernel_rfl) (qHH n) [qJh n] (fun _=>(by kernel_rfl)) fun _=>(by kernel_rfl)
def qLd:Sg:=⟨97,[aS],[],⟨(.tup [(true,[qI,qI,qS]),(false,[qB])]),[],[]⟩⟩
def qBO (n:Nat) (v:BA×Int×Int×Int×BA×Int×Int×BA):Tr ((BA×Int×Int×Int×BA×Int×Int×BA)⊕((Int×Int×BA×Int×Int×BA))):=(.ask ((decide (v.2.1≤(5:Int)))) (.opt (qBK n v.2.1) fun r101=>(.ask ((r101.toList==v.1.toList)) (.done (.inl (v.1,(IntKind.i64.wrap (v.2.1+(1:Int))),v.2.2.1,v.2.2.2.1,v.2.2.2.2.1,v.2.2.2.2.2.1,v.2.1,v.2.2.2.2.2.2.2))) (.done (.inl (v.1,(IntKind.i64.wrap (v.2.1+(1:Int))),v.2.2.1,v.2.2.2.1,v.2.2.2.2.1,v.2.2.2.2.2.1,v.2.2.2.2.2.2.1,v.2.2.2.2.2.2.2))))) (.done (.inr ((v.2.2.1,v.2.2.2.1,v.2.2.2.2.1,v.2.2.2.2.2.1,v.2.2.2.2.2.2.1,v.2.2.2.2.2.2.2)))))
def qAx (n:Nat) (x0:BA):Tr (Int×Int×BA×Bool):=(.ask ((x0.toList==(⟨#[]⟩:BA).toList)) (.done ((0:Int),(0:Int),(⟨#[]⟩:BA),true)) (.ask (decide (0≤(0:Int))) (.opt (x0.toList[((0:Int)).toNat]?) fun c94=>(.ask (((c94.toNat:Int)==(39:Int))) (.ask (decide (0≤(1:Int)∧(1:Int)≤(x0.size:Int)∧(x0.size:Int)≤x0.size)) (.opt (qY n (2:Int) (0:Int) (x0.extract ((1:Int)).toNat ((x0.size:Int)).toNat)) fun r95=>(.ask ((!r95)) (.done ((0:Int),(0:Int),(⟨#[]⟩:BA),false)) (.done ((2:Int),(0:Int),(x0.extract ((1:Int)).toNat ((x0.size:Int)).toNat),true)))) .fail) (.ask ((x0.toList==(⟨#[84,82,85,69]⟩:BA).toList)) (.ask ((x0.toList==(⟨#[84,82,85,69]⟩:BA).toList)) (.opt (qY n (3:Int) (1:Int) (⟨#[]⟩:BA)) fun r96=>(.ask ((!r96)) (.done ((0:Int),(0:Int),(⟨#[]⟩:BA),false)) (.done ((3:Int),(1:Int),(⟨#[]⟩:BA),true)))) (.opt (qY n (3:Int) (0:Int) (⟨#[]⟩:BA)) fun r97=>(.ask ((!r97)) (.done ((0:Int),(0:Int),(⟨#[]⟩:BA),false)) (.done ((3:Int),(0:Int),(⟨#[]⟩:BA),true))))) (.ask ((x0.toList==(⟨#[70,65,76,83,69]⟩:BA).toList)) (.ask ((x0.toList==(⟨#[84,82,85,69]⟩:BA).toList)) (.opt (qY n (3:Int) (1:Int) (⟨#[]⟩:BA)) fun r98=>(.ask ((!r98)) (.done ((0:Int),(0:Int),(⟨#[]⟩:BA),false)) (.done ((3:Int),(1:Int),(⟨#[]⟩:BA),true)))) (.opt (qY n (3:Int) (0:Int) (⟨#[]⟩:BA)) fun r99=>(.ask ((!r99)) (.done ((0:Int),(0:Int),(⟨#[]⟩:BA),false)) (.done ((3:Int),(0:Int),(⟨#[]⟩:BA),true))))) (.ask (decide (0≤(0:Int))) (.opt (x0.toList[((0:Int)).toNat]?) fun c100=>(.ask (((c100.toNat:Int)==(35:Int))) (.opt (zC (qBO n) n (x0,(1:Int),(0:Int),(0:Int),(⟨#[]⟩:BA),(4:Int),(0:Int),(⟨#[]⟩:BA))) fun r102=>(.opt (qY n r102.2.2.2.1 r102.2.2.2.2.1 r102.2.2.2.2.2) fun r103=>(.ask ((!r103)) (.done ((0:Int),(0:Int),(⟨#[]⟩:BA),false)) (.done (r102.2.2.2.1,r102.2.2.2.2.1,r102.2.2.2.2.2,true))))) (.ask (decide (0≤(0:Int))) (.opt (x0.toList[((0:Int)).toNat]?) fun c104=>(.ask (((c104.toNat:Int)==(45:Int))) (.ask (decide (0≤(1:Int)∧(1:Int)≤(x0.size:Int)∧(x0.size:Int)≤x0.size)) (.opt (qr n (x0.extract ((1:Int)).toNat ((x0.size:Int)).toNat) (16:Int)) fun r105=>(.ask ((!r105.2)) (.done ((0:Int),(0:Int),(⟨#[]⟩:BA),false)) (.ask (((c104.toNat:Int)==(45:Int))) (.ask ((r105.1==(0:Int))) (.done ((0:Int),(0:Int),(⟨#[]⟩:BA),false)) (.ask (((c104.toNat:Int)==(45:Int))) (.opt (qY n (1:Int) (IntKind.i64.wrap (0-r105.1)) (⟨#[]⟩:BA)) fun r106=>(.ask ((!r106)) (.done ((0:Int),(0:Int),(⟨#[]⟩:BA),false)) (.done ((1:Int),(IntKind.i64.wrap (0-r105.1)),(⟨#[]⟩:BA),true)))) (.opt (qY n (1:Int) r105.1 (⟨#[]⟩:BA)) fun r107=>(.ask ((!r107)) (.done ((0:Int),(0:Int),(⟨#[]⟩:BA),false)) (.done ((1:Int),r105.1,(⟨#[]⟩:BA),true)))))) (.ask (((c104.toNat:Int)==(45:Int))) (.opt (qY n (1:Int) (IntKind.i64.wrap (0-r105.1)) (⟨#[]⟩:BA)) fun r108=>(.ask ((!r108)) (.done ((0:Int),(0:Int),(⟨#[]⟩:BA),false)) (.done ((1:Int),(IntKind.i64.wrap (0-r105.1)),(⟨#[]⟩:BA),true)))) (.opt (qY n (1:Int) r105.1 (⟨#[]⟩:BA)) fun r109=>(.ask ((!r109)) (.done ((0:Int),(0:Int),(⟨#[]⟩:BA),false)) (.done ((1:Int),r105.1,(⟨#[]⟩:BA),true)))))))) .fail) (.opt (qr n x0 (16:Int)) fun r110=>(.ask ((!r110.2)) (.done ((0:Int),(0:Int),(⟨#[]⟩:BA),false)) (.ask (((c104.toNat:Int)==(45:Int))) (.ask ((r110.1==(0:Int))) (.done ((0:Int),(0:Int),(⟨#[]⟩:BA),false)) (.ask (((c104.toNat:Int)==(45:Int))) (.opt (qY n (1:Int) (IntKind.i64.wrap (0-r110.1)) (⟨#[]⟩:BA)) fun r111=>(.ask ((!r111)) (.done ((0:Int),(0:Int),(⟨#[]⟩:BA),false)) (.done ((1:Int),(IntKind.i64.wrap (0-r110.1)),(⟨#[]⟩:BA),true)))) (.opt (qY n (1:Int) r110.1 (⟨#[]⟩:BA)) fun r112=>(.ask ((!r112)) (.done ((0:Int),(0:Int),(⟨#[]⟩:BA),false)) (.done ((1:Int),r110.1,(⟨#[]⟩:BA),true)))))) (.ask (((c104.toNat:Int)==(45:Int))) (.opt (qY n (1:Int) (IntKind.i64.wrap (0-r110.1)) (⟨#[]⟩:BA)) fun r113=>(.ask ((!r113)) (.done ((0:Int),(0:Int),(⟨#[]⟩:BA),false)) (.done ((1:Int),(IntKind.i64.wrap (0-r110.1)),(⟨#[]⟩:BA),true)))) (.opt (qY n (1:Int) r110.1 (⟨#[]⟩:BA)) fun r114=>(.ask ((!r114)) (.done ((0:Int),(0:Int),(⟨#[]⟩:BA),false)) (.done ((1:Int),r110.1,(⟨#[]⟩:BA),true)))))))))) .fail))) .fail))))) .fail))
def qAE:Nat→BA→Option (Int×Int×BA×Bool)
 |0,_=>none
 |n+1,x0=>(qAx n x0).run
abbrev qHI (n:Nat):List (Ent (Rn n)):= [en (qDm n),en (qFg n),en (qGp n)]
def qHi (n:Nat):LEnt (KB 97) (Rn n) n:=lok (zX 97) 15355 ⟨⟨[(0,aS),(2,(.c (.ptr 0 128 0 0 0))),(4,(.c (.ptr 0 256 0 0 0))),(5,aI)],[(128,⟨0,3,128,(.box [qI,qI,qS])⟩),(256,⟨0,3,128,(.box [qI,qI,qS])⟩)],[]⟩,[(.exit 1,⟨[(2,(.c (.ptr 0 128 0 0 0))),(4,(.c (.ptr 0 256 0 0 0)))],[(128,⟨0,3,128,(.box [qI,qI,qS])⟩),(256,⟨0,3,128,(.box [qI,qI,qS])⟩)],[]⟩)]⟩ (qBO n) (qHI n) [] fun _=>(by kernel_rfl)
theorem qGT:∀n,Ok (Rn n) qLd (qAE n)
 |0=>ok0 fun _=>rfl
 |n+1=>stO (T:=qAx n) (by kernel_rfl) (qHI n) [qHi n] (fun _=>(by kernel_rfl)) fun _=>(by kernel_rfl)
def qNZ:Sg:=⟨180,[aI],[],⟨aI,[],[]⟩⟩
def qFj (n:Nat) (x0:Int):Tr (Int):=(.ask ((decide (x0≥(6:Int)))) (.done (1:Int)) (.ask ((x0==(5:Int))) (.done (2:Int)) (.ask ((decide (x0≥(3:Int)))) (.done (4:Int)) (.done (3:Int)))))
def qB8:Nat→Int→Option (Int)
 |0,_=>none
 |n+1,x0=>(qFj n x0).run
theorem qIA:∀n,Ok (Rn n) qNZ (qB8 n)
 |0=>ok0 fun _=>rfl
 |n+1=>stO (T:=qFj n) (by kernel_rfl) [] [] (fun _=>(by kernel_rfl)) fun _=>(by kernel_rfl)
def qOX:Sg:=⟨181,[aI],[],⟨aS,[],[]⟩⟩
def qGq (n:Nat) (x0:Int):Tr (BA):=(.ask (decide (12=([[(.s (⟨#[]⟩:BA))],[(.s (⟨#[43]⟩:BA))],[(.s (⟨#[45]⟩:BA))],[(.s (⟨#[42]⟩:BA))],[(.s (⟨#[47]⟩:BA))],[(.s (⟨#[38]⟩:BA))],[(.s (⟨#[61]⟩:BA))],[(.s (⟨#[60,62]⟩:BA))],[(.s (⟨#[60]⟩:BA))],[(.s (⟨#[60,61]⟩:BA))],[(.s (⟨#[62]⟩:BA))],[(.s (⟨#[62,61]⟩:BA))]]:RW).length∧0≤x0∧x0<((12:Nat):Int))) (.opt (([[(.s (⟨#[]⟩:BA))],[(.s (⟨#[43]⟩:BA))],[(.s (⟨#[45]⟩:BA))],[(.s (⟨#[42]⟩:BA))],[(.s (⟨#[47]⟩:BA))],[(.s (⟨#[38]⟩:BA))],[(.s (⟨#[61]⟩:BA))],[(.s (⟨#[60,62]⟩:BA))],[(.s (⟨#[60]⟩:BA))],[(.s (⟨#[60,61]⟩:BA))],[(.s (⟨#[62]⟩:BA))],[(.s (⟨#[62,61]⟩:BA))]]:RW)[(x0).toNat]?) fun e128=>(.opt (zh e128 0) fun y129=>(.done y129))) .fail)
def qCX:Nat→Int→Option (BA)
 |0,_=>none
 |n+1,x0=>(qGq n x0).run
theorem qIq:∀n,Ok (Rn n) qOX (qCX n)
 |0=>ok0 fun _=>rfl
 |n+1=>stO (T:=qGq n) (by kernel_rfl) [] [] (fun _=>(by kernel_rfl)) fun _=>(by kernel_rfl)
def qNa:Sg:=⟨174,[(.c (.ptr 0 0 0 0 0)),aI],[[(0,⟨0,4,175,(.box [qS,qI,qB,(.own 0 1 1 0)])⟩),(1,⟨1,14,162,(.row [])⟩)]],⟨aI,[[(0,⟨0,4,175,(.box [qS,qI,qB,(.own 0 1 1 0)])⟩),(1,⟨1,14,162,(.row [])⟩)]],[]⟩⟩
def qEC (n:Nat) (v:Int×Nat×Int×RW×BA×Int×Bool×Nat×RW):Tr ((Int×Nat×Int×RW×BA×Int×Bool×Nat×RW)⊕((Int×BA×Int×Bool×Nat×RW)⊕(BA×Int×Bool×Nat×RW))):=(.ask ((decide (v.2.2.1<((v.2.1:Nat):Int)))) (.ask (decide (v.2.1=v.2.2.2.1.length∧0≤v.2.2.1∧v.2.2.1<((v.2.1:Nat):Int))) (.opt (v.2.2.2.1[(v.2.2.1).toNat]?) fun e123=>(.opt (zE .i64 e123 0) fun y124=>(.opt (qB8 n y124) fun r125=>(.ask ((r125==v.1)) (.ask (decide (v.2.1=v.2.2.2.1.length∧0≤v.2.2.1∧v.2.2.1<((v.2.1:Nat):Int))) (.opt (v.2.2.2.1[(v.2.2.1).toNat]?) fun e126=>(.opt (zE .i64 e126 0) fun y127=>(.opt (qCX n y127) fun r128=>(.opt (qAB n r128 v.2.2.2.2.1 v.2.2.2.2.2.1 v.2.2.2.2.2.2.1 v.2.2.2.2.2.2.2.1 v.2.2.2.2.2.2.2.2) fun r129=>(.ask (r129.1) (.ask (decide (v.2.1=v.2.2.2.1.length∧0≤v.2.2.1∧v.2.2.1<((v.2.1:Nat):Int))) (.opt (v.2.2.2.1[(v.2.2.1).toNat]?) fun e130=>(.opt (zE .i64 e130 0) fun y131=>(.done (.inr (.inl ((y131,r129.2.1,r129.2.2.1,r129.2.2.2.1,r129.2.2.2.2.1,r129.2.2.2.2.2))))))) .fail) (.done (.inl (v.1,v.2.1,(IntKind.i64.wrap (v.2.2.1+(1:Int))),v.2.2.2.1,r129.2.1,r129.2.2.1,r129.2.2.2.1,r129.2.2.2.2.1,r129.2.2.2.2.2)))))))) .fail) (.done (.inl (v.1,v.2.1,(IntKind.i64.wrap (v.2.2.1+(1:Int))),v.2.2.2.1,v.2.2.2.2.1,v.2.2.2.2.2.1,v.2.2.2.2.2.2.1,v.2.2.2.2.2.2.2.1,v.2.2.2.2.2.2.2.2))))))) .fail) (.done (.inr (.inr ((v.2.2.2.2.1,v.2.2.2.2.2.1,v.2.2.2.2.2.2.1,v.2.2.2.2.2.2.2.1,v.2.2.2.2.2.2.2.2))))))
def qIr (n:Nat) (x0:Int) (x1:BA) (x2:Int) (x3:Bool) (x4:Nat) (x5:RW):Tr (Int×BA×Int×Bool×Nat×RW):=(.opt (zC (qEC n) n (x0,(11:Nat),(0:Int),([[(.i .i64 (7:Int))],[(.i .i64 (9:Int))],[(.i .i64 (11:Int))],[(.i .i64 (6:Int))],[(.i .i64 (8:Int))],[(.i .i64 (10:Int))],[(.i .i64 (1:Int))],[(.i .i64 (2:Int))],[(.i .i64 (3:Int))],[(.i .i64 (4:Int))],[(.i .i64 (5:Int))]]:RW),x1,x2,x3,x4,x5)) fun r132=>(.alt r132 (fun r133=>(.done (r133.1,r133.2.1,r133.2.2.1,r133.2.2.2.1,r133.2.2.2.2.1,r133.2.2.2.2.2))) (fun r134=>(.done ((0:Int),r134.1,r134.2.1,r134.2.2.1,r134.2.2.2.1,r134.2.2.2.2)))))
def qED:Nat→Int→BA→Int→Bool→Nat→RW→Option (Int×BA×Int×Bool×Nat×RW)
 |0,_,_,_,_,_,_=>none
 |n+1,x0,x1,x2,x3,x4,x5=>(qIr n x0 x1 x2 x3 x4 x5).run
abbrev qIs (n:Nat):List (Ent (Rn n)):= [en (qIA n),en (qIq n),en (qDl n)]
def qKu (n:Nat):LEnt (KB 174) (Rn n) n:=lok (zX 174) 29 ⟨⟨[(0,(.c (.ptr 0 0 0 0 0))),(1,aI),(5,(.c (.own 1 448 0 0))),(6,aI)],[(448,⟨0,1,2,(.row [])⟩)],[[(0,⟨0,4,175,(.box [qS,qI,qB,(.own 0 1 1 0)])⟩),(1,⟨1,14,162,(.row [])⟩)]]⟩,[(.ret,⟨[(4,aI)],[],[[(0,⟨0,4,175,(.box [qS,qI,qB,(.own 0 1 1 0)])⟩),(1,⟨1,14,162,(.row [])⟩)]]⟩),(.exit 0,⟨[],[],[[(0,⟨0,4,175,(.box [qS,qI,qB,(.own 0 1 1 0)])⟩),(1,⟨1,14,162,(.row [])⟩)]]⟩)]⟩ (qEC n) (qIs n) [] fun _=>(by kernel_rfl)
theorem qMl:∀n,Ok (Rn n) qNa (qED n)
 |0=>ok0 fun _=>rfl
 |n+1=>stO (T:=qIr n) (by kernel_rfl) (qIs n) [qKu n] (fun _=>(by kernel_rfl)) fun _=>(by kernel_rfl)
def qIB:Sg:=⟨134,[(.c (.ptr 0 0 0 0 0)),aI],[[(0,⟨0,4,175,(.box [qS,qI,qB,(.own 0 1 1 0)])⟩),(1,⟨1,14,162,(.row [])⟩)]],⟨aI,[[(0,⟨0,4,175,(.box [qS,qI,qB,(.own 0 1 1 0)])⟩),(1,⟨1,14,162,(.row [])⟩)]],[]⟩⟩
def qMm:Sg:=⟨173,[(.c (.ptr 0 0 0 0 0))],[[(0,⟨0,4,175,(.box [qS,qI,qB,(.own 0 1 1 0)])⟩),(1,⟨1,14,162,(.row [])⟩)]],⟨aI,[[(0,⟨0,4,175,(.box [qS,qI,qB,(.own 0 1 1 0)])⟩),(1,⟨1,14,162,(.row [])⟩)]],[]⟩⟩
def qLe:Sg:=⟨212,[(.c (.ptr 0 0 0 0 0)),aI],[[(0,⟨0,4,175,(.box [qS,qI,qB,(.own 0 1 1 0)])⟩),(1,⟨1,14,162,(.row [])⟩)]],⟨aI,[[(0,⟨0,4,175,(.box [qS,qI,qB,(.own 0 1 1 0)])⟩),(1,⟨1,14,162,(.row [])⟩)]],[]⟩⟩
def qMn:Sg:=⟨232,[(.c (.ptr 0 0 0 0 0))],[[(0,⟨0,4,175,(.box [qS,qI,qB,(.own 0 1 1 0)])⟩),(1,⟨1,14,162,(.row [])⟩)]],⟨aI,[[(0,⟨0,4,175,(.box [qS,qI,qB,(.own 0 1 1 0)])⟩),(1,⟨1,14,162,(.row [])⟩)]],[]⟩⟩
structure G_spec_l3Rd_row where
 spec_l3Rd_row:Int→BA→Int→Bool→Nat→RW→Option (Int×BA×Int×Bool×Nat×RW)
 spec_l3Rd_one:BA→Int→Bool→Nat→RW→Option (Int×BA×Int×Bool×Nat×RW)
 spec_l3Rd_call:Int→BA→Int→Bool→Nat→RW→Option (Int×BA×Int×Bool×Nat×RW)
 spec_l3Rd_arg:BA→Int→Bool→Nat→RW→Option (Int×BA×Int×Bool×Nat×RW)
def qDr (rec:G_spec_l3Rd_row) (n:Nat) (v:Int×Int×BA×Int×Bool×Nat×RW):Tr ((Int×Int×BA×Int×Bool×Nat×RW)⊕((Int×BA×Int×Bool×Nat×RW)⊕(Int×BA×Int×Bool×Nat×RW))):=(.ask ((!v.2.2.2.2.1)) (.opt (qED n v.1 v.2.2.1 v.2.2.2.1 v.2.2.2.2.1 v.2.2.2.2.2.1 v.2.2.2.2.2.2) fun r123=>(.ask ((r123.1==(0:Int))) (.done (.inr (.inl ((v.2.1,r123.2.1,r123.2.2.1,r123.2.2.2.1,r123.2.2.2.2.1,r123.2.2.2.2.2))))) (.opt (rec.spec_l3Rd_row (IntKind.i64.wrap (v.1+(1:Int))) r123.2.1 r123.2.2.1 r123.2.2.2.1 r123.2.2.2.2.1 r123.2.2.2.2.2) fun r124=>(.ask (decide (2=([[(.i .i64 v.2.1)],[(.i .i64 r124.1)]]:RW).length)) (.opt (qp n (5:Int) r123.1 (0:Int) (0:Int) (⟨#[]⟩:BA) (0:Int) (0:Int) false false (0:Int) (0:Int) false false ([[(.i .i64 v.2.1)],[(.i .i64 r124.1)]]:RW) r124.2.1 r124.2.2.1 r124.2.2.2.1 r124.2.2.2.2.1 r124.2.2.2.2.2) fun r125=>(.done (.inl (v.1,r125.1,r125.2.1,r125.2.2.1,r125.2.2.2.1,r125.2.2.2.2.1,r125.2.2.2.2.2)))) .fail)))) (.done (.inr (.inr ((v.2.1,v.2.2.1,v.2.2.2.1,v.2.2.2.2.1,v.2.2.2.2.2.1,v.2.2.2.2.2.2))))))
def qIC (rec:G_spec_l3Rd_row) (n:Nat) (x0:Int) (x1:BA) (x2:Int) (x3:Bool) (x4:Nat) (x5:RW):Tr (Int×BA×Int×Bool×Nat×RW):=(.ask (x3) (.done ((0:Int),x1,x2,x3,x4,x5)) (.ask ((x0==(5:Int))) (.opt (rec.spec_l3Rd_one x1 x2 x3 x4 x5) fun r121=>(.done (r121.1,r121.2.1,r121.2.2.1,r121.2.2.2.1,r121.2.2.2.2.1,r121.2.2.2.2.2))) (.opt (rec.spec_l3Rd_row (IntKind.i64.wrap (x0+(1:Int))) x1 x2 x3 x4 x5) fun r122=>(.opt (zC (qDr rec n) n (x0,r122.1,r122.2.1,r122.2.2.1,r122.2.2.2.1,r122.2.2.2.2.1,r122.2.2.2.2.2)) fun r126=>(.alt r126 (fun r127=>(.done (r127.1,r127.2.1,r127.2.2.1,r127.2.2.2.1,r127.2.2.2.2.1,r127.2.2.2.2.2))) (fun r128=>(.done (r128.1,r128.2.1,r128.2.2.1,r128.2.2.2.1,r128.2.2.2.2.1,r128.2.2.2.2.2))))))))
def qCM (n:Nat) (v:Int×BA×Int×Bool×Nat×RW):Tr ((Int×BA×Int×Bool×Nat×RW)⊕((Int×BA×Int×Bool×Nat×RW)⊕(BA×Int×Bool×Nat×RW))):=(.ask ((decide (v.1≤(5:Int)))) (.opt (qBK n v.1) fun r70=>(.ask (decide (0≤(1:Int)∧(1:Int)≤(r70.size:Int)∧(r70.size:Int)≤r70.size)) (.ask ((decide ((IntKind.i64.wrap (v.2.2.1+((r70.extract ((1:Int)).toNat ((r70.size:Int)).toNat).size:Int)))≤(v.2.1.size:Int)))) (.ask (decide (0≤v.2.2.1∧v.2.2.1≤(IntKind.i64.wrap (v.2.2.1+((r70.extract ((1:Int)).toNat ((r70.size:Int)).toNat).size:Int)))∧(IntKind.i64.wrap (v.2.2.1+((r70.extract ((1:Int)).toNat ((r70.size:Int)).toNat).size:Int)))≤v.2.1.size)) (.ask (((v.2.1.extract (v.2.2.1).toNat ((IntKind.i64.wrap (v.2.2.1+((r70.extract ((1:Int)).toNat ((r70.size:Int)).toNat).size:Int)))).toNat).toList==(r70.extract ((1:Int)).toNat ((r70.size:Int)).toNat).toList)) (.opt (qCj n v.1) fun r71=>(.opt (qp n (1:Int) (0:Int) r71.1 r71.2.1 r71.2.2 (0:Int) (0:Int) false false (0:Int) (0:Int) false false ([]:RW) v.2.1 (IntKind.i64.wrap (v.2.2.1+((r70.extract ((1:Int)).toNat ((r70.size:Int)).toNat).size:Int))) v.2.2.2.1 v.2.2.2.2.1 v.2.2.2.2.2) fun r72=>(.done (.inr (.inl ((r72.1,r72.2.1,r72.2.2.1,r72.2.2.2.1,r72.2.2.2.2.1,r72.2.2.2.2.2))))))) (.done (.inl ((IntKind.i64.wrap (v.1+(1:Int))),v.2.1,v.2.2.1,v.2.2.2.1,v.2.2.2.2.1,v.2.2.2.2.2)))) .fail) (.done (.inl ((IntKind.i64.wrap (v.1+(1:Int))),v.2.1,v.2.2.1,v.2.2.2.1,v.2.2.2.2.1,v.2.2.2.2.2)))) .fail)) (.done (.inr (.inr ((v.2.1,v.2.2.1,v.2.2.2.1,v.2.2.2.2.1,v.2.2.2.2.2))))))
def qCw (rec:G_spec_l3Rd_row) (n:Nat) (v:BA×Int×BA×Int×Bool×Nat×RW):Tr ((BA×Int×BA×Int×Bool×Nat×RW)⊕((Int×BA×Int×Bool×Nat×RW)⊕(BA×BA×Int×Bool×Nat×RW))):=(.ask ((decide (v.2.1≤(10:Int)))) (.opt (qCK n v.2.1) fun r88=>(.ask ((r88.toList==v.1.toList)) (.opt (qAB n (⟨#[40]⟩:BA) v.2.2.1 v.2.2.2.1 v.2.2.2.2.1 v.2.2.2.2.2.1 v.2.2.2.2.2.2) fun r89=>(.ask (r89.1) (.opt (rec.spec_l3Rd_call v.2.1 r89.2.1 r89.2.2.1 r89.2.2.2.1 r89.2.2.2.2.1 r89.2.2.2.2.2) fun r90=>(.done (.inr (.inl ((r90.1,r90.2.1,r90.2.2.1,r90.2.2.2.1,r90.2.2.2.2.1,r90.2.2.2.2.2)))))) (.done (.inl (v.1,(IntKind.i64.wrap (v.2.1+(1:Int))),r89.2.1,r89.2.2.1,r89.2.2.2.1,r89.2.2.2.2.1,r89.2.2.2.2.2))))) (.done (.inl (v.1,(IntKind.i64.wrap (v.2.1+(1:Int))),v.2.2.1,v.2.2.2.1,v.2.2.2.2.1,v.2.2.2.2.2.1,v.2.2.2.2.2.2))))) (.done (.inr (.inr ((v.1,v.2.2.1,v.2.2.2.1,v.2.2.2.2.1,v.2.2.2.2.2.1,v.2.2.2.2.2.2))))))
def qID (rec:G_spec_l3Rd_row) (n:Nat) (x0:BA) (x1:Int) (x2:Bool) (x3:Nat) (x4:RW):Tr (Int×BA×Int×Bool×Nat×RW):=(.opt (qAB n (⟨#[45]⟩:BA) x0 x1 x2 x3 x4) fun r42=>(.ask (r42.1) (.opt (rec.spec_l3Rd_row (5:Int) r42.2.1 r42.2.2.1 r42.2.2.2.1 r42.2.2.2.2.1 r42.2.2.2.2.2) fun r43=>(.ask (decide (1=([[(.i .i64 r43.1)]]:RW).length)) (.opt (qp n (4:Int) (0:Int) (0:Int) (0:Int) (⟨#[]⟩:BA) (0:Int) (0:Int) false false (0:Int) (0:Int) false false ([[(.i .i64 r43.1)]]:RW) r43.2.1 r43.2.2.1 r43.2.2.2.1 r43.2.2.2.2.1 r43.2.2.2.2.2) fun r56=>(.done (r56.1,r56.2.1,r56.2.2.1,r56.2.2.2.1,r56.2.2.2.2.1,r56.2.2.2.2.2))) .fail)) (.opt (qAB n (⟨#[40]⟩:BA) r42.2.1 r42.2.2.1 r42.2.2.2.1 r42.2.2.2.2.1 r42.2.2.2.2.2) fun r57=>(.ask (r57.1) (.opt (rec.spec_l3Rd_row (1:Int) r57.2.1 r57.2.2.1 r57.2.2.2.1 r57.2.2.2.2.1 r57.2.2.2.2.2) fun r58=>(.opt (qAB n (⟨#[41]⟩:BA) r58.2.1 r58.2.2.1 r58.2.2.2.1 r58.2.2.2.2.1 r58.2.2.2.2.2) fun r59=>(.ask ((!r59.1)) (.done (r58.1,r59.2.1,r59.2.2.1,true,r59.2.2.2.2.1,r59.2.2.2.2.2)) (.done (r58.1,r59.2.1,r59.2.2.1,r59.2.2.2.1,r59.2.2.2.2.1,r59.2.2.2.2.2))))) (.opt (qAB n (⟨#[34]⟩:BA) r57.2.1 r57.2.2.1 r57.2.2.2.1 r57.2.2.2.2.1 r57.2.2.2.2.2) fun r60=>(.ask (r60.1) (.opt (qEb n r60.2.1 r60.2.2.1 r60.2.2.2.1 r60.2.2.2.2.1 r60.2.2.2.2.2) fun r68=>(.done (r68.1,r68.2.1,r68.2.2.1,r68.2.2.2.1,r68.2.2.2.2.1,r68.2.2.2.2.2))) (.opt (qAB n (⟨#[35]⟩:BA) r60.2.1 r60.2.2.1 r60.2.2.2.1 r60.2.2.2.2.1 r60.2.2.2.2.2) fun r69=>(.ask (r69.1) (.opt (zC (qCM n) n ((1:Int),r69.2.1,r69.2.2.1,r69.2.2.2.1,r69.2.2.2.2.1,r69.2.2.2.2.2)) fun r73=>(.alt r73 (fun r74=>(.done (r74.1,r74.2.1,r74.2.2.1,r74.2.2.2.1,r74.2.2.2.2.1,r74.2.2.2.2.2))) (fun r75=>(.done ((0:Int),r75.1,r75.2.1,true,r75.2.2.2.1,r75.2.2.2.2))))) (.opt (qCk n r69.2.1 r69.2.2.1 r69.2.2.2.1 r69.2.2.2.2.1 r69.2.2.2.2.2) fun r87=>(.opt (zC (qCw rec n) n (r87.1,(1:Int),r87.2.1,r87.2.2.1,r87.2.2.2.1,r87.2.2.2.2.1,r87.2.2.2.2.2)) fun r91=>(.alt r91 (fun r92=>(.done (r92.1,r92.2.1,r92.2.2.1,r92.2.2.2.1,r92.2.2.2.2.1,r92.2.2.2.2.2))) (fun r93=>(.opt (qAE n r93.1) fun r115=>(.ask (r115.2.2.2) (.ask ((!(r93.1.toList==(⟨#[]⟩:BA).toList))) (.opt (qp n (1:Int) (0:Int) r115.1 r115.2.1 r115.2.2.1 (0:Int) (0:Int) false false (0:Int) (0:Int) false false ([]:RW) r93.2.1 r93.2.2.1 r93.2.2.2.1 r93.2.2.2.2.1 r93.2.2.2.2.2) fun r116=>(.done (r116.1,r116.2.1,r116.2.2.1,r116.2.2.2.1,r116.2.2.2.2.1,r116.2.2.2.2.2))) (.opt (qAl n r93.1) fun r117=>(.ask ((!r117.2.2.2.2)) (.done ((0:Int),r93.2.1,r93.2.2.1,true,r93.2.2.2.2.1,r93.2.2.2.2.2)) (.opt (qp n (2:Int) (0:Int) (0:Int) (0:Int) (⟨#[]⟩:BA) r117.1 r117.2.1 r117.2.2.1 r117.2.2.2.1 (0:Int) (0:Int) false false ([]:RW) r93.2.1 r93.2.2.1 r93.2.2.2.1 r93.2.2.2.2.1 r93.2.2.2.2.2) fun r118=>(.done (r118.1,r118.2.1,r118.2.2.1,r118.2.2.2.1,r118.2.2.2.2.1,r118.2.2.2.2.2)))))) (.opt (qAl n r93.1) fun r119=>(.ask ((!r119.2.2.2.2)) (.done ((0:Int),r93.2.1,r93.2.2.1,true,r93.2.2.2.2.1,r93.2.2.2.2.2)) (.opt (qp n (2:Int) (0:Int) (0:Int) (0:Int) (⟨#[]⟩:BA) r119.1 r119.2.1 r119.2.2.1 r119.2.2.2.1 (0:Int) (0:Int) false false ([]:RW) r93.2.1 r93.2.2.1 r93.2.2.2.1 r93.2.2.2.2.1 r93.2.2.2.2.2) fun r120=>(.done (r120.1,r120.2.1,r120.2.2.1,r120.2.2.2.1,r120.2.2.2.2.1,r120.2.2.2.2.2)))))))))))))))))))
def qDY (rec:G_spec_l3Rd_row) (n:Nat) (v:Int×Nat×RW×BA×Int×Bool×Nat×RW):Tr ((Int×Nat×RW×BA×Int×Bool×Nat×RW)⊕((Int×BA×Int×Bool×Nat×RW)⊕(BA×Int×Bool×Nat×RW))):=(.ask ((!v.2.2.2.2.2.1)) (.opt (rec.spec_l3Rd_arg v.2.2.2.1 v.2.2.2.2.1 v.2.2.2.2.2.1 v.2.2.2.2.2.2.1 v.2.2.2.2.2.2.2) fun r92=>(.ask (decide (1=([[(.i .i64 r92.1)]]:RW).length)) (.ask (decide (v.2.1=v.2.2.1.length∧0<1∧0<8∧(v.2.1+([[(.i .i64 r92.1)]]:RW).length)*8≤140737488355328∧([[(.i .i64 r92.1)]]:RW).all (fun e=>e.length==1)=true)) (.opt (qAB n (⟨#[41]⟩:BA) r92.2.1 r92.2.2.1 r92.2.2.2.1 r92.2.2.2.2.1 r92.2.2.2.2.2) fun r93=>(.ask (r93.1) (.ask (decide ((v.2.1+1)=(v.2.2.1++([[(.i .i64 r92.1)]]:RW)).length)) (.opt (qp n (6:Int) v.1 (0:Int) (0:Int) (⟨#[]⟩:BA) (0:Int) (0:Int) false false (0:Int) (0:Int) false false (v.2.2.1++([[(.i .i64 r92.1)]]:RW)) r93.2.1 r93.2.2.1 r93.2.2.2.1 r93.2.2.2.2.1 r93.2.2.2.2.2) fun r94=>(.done (.inr (.inl ((r94.1,r94.2.1,r94.2.2.1,r94.2.2.2.1,r94.2.2.2.2.1,r94.2.2.2.2.2)))))) .fail) (.opt (qAB n (⟨#[44]⟩:BA) r93.2.1 r93.2.2.1 r93.2.2.2.1 r93.2.2.2.2.1 r93.2.2.2.2.2) fun r95=>(.ask ((!r95.1)) (.done (.inl (v.1,(v.2.1+1),(v.2.2.1++([[(.i .i64 r92.1)]]:RW)),r95.2.1,r95.2.2.1,true,r95.2.2.2.2.1,r95.2.2.2.2.2))) (.done (.inl (v.1,(v.2.1+1),(v.2.2.1++([[(.i .i64 r92.1)]]:RW)),r95.2.1,r95.2.2.1,r95.2.2.2.1,r95.2.2.2.2.1,r95.2.2.2.2.2))))))) .fail) .fail)) (.done (.inr (.inr ((v.2.2.2.1,v.2.2.2.2.1,v.2.2.2.2.2.1,v.2.2.2.2.2.2.1,v.2.2.2.2.2.2.2))))))
def qHJ (rec:G_spec_l3Rd_row) (n:Nat) (x0:Int) (x1:BA) (x2:Int) (x3:Bool) (x4:Nat) (x5:RW):Tr (Int×BA×Int×Bool×Nat×RW):=(.opt (zC (qDY rec n) n (x0,(0:Nat),([]:RW),x1,x2,x3,x4,x5)) fun r96=>(.alt r96 (fun r97=>(.done (r97.1,r97.2.1,r97.2.2.1,r97.2.2.2.1,r97.2.2.2.2.1,r97.2.2.2.2.2))) (fun r98=>(.done ((0:Int),r98.1,r98.2.1,r98.2.2.1,r98.2.2.2.1,r98.2.2.2.2)))))
def qIE (rec:G_spec_l3Rd_row) (n:Nat) (x0:BA) (x1:Int) (x2:Bool) (x3:Nat) (x4:RW):Tr (Int×BA×Int×Bool×Nat×RW):=(.opt (qBa n x0 x1 x2 x3 x4) fun r92=>(.opt (qCk n r92.1 r92.2.1 r92.2.2.1 r92.2.2.2.1 r92.2.2.2.2) fun r93=>(.opt (qAl n r93.1) fun r138=>(.ask (r138.2.2.2.2) (.opt (qAB n (⟨#[58]⟩:BA) r93.2.1 r93.2.2.1 r93.2.2.2.1 r93.2.2.2.2.1 r93.2.2.2.2.2) fun r139=>(.ask (r139.1) (.opt (qBa n r139.2.1 r139.2.2.1 r139.2.2.2.1 r139.2.2.2.2.1 r139.2.2.2.2.2) fun r140=>(.opt (qCk n r140.1 r140.2.1 r140.2.2.1 r140.2.2.2.1 r140.2.2.2.2) fun r141=>(.opt (qAl n r141.1) fun r142=>(.ask ((!r142.2.2.2.2)) (.done ((0:Int),r141.2.1,r141.2.2.1,true,r141.2.2.2.2.1,r141.2.2.2.2.2)) (.opt (qp n (3:Int) (0:Int) (0:Int) (0:Int) (⟨#[]⟩:BA) r138.1 r138.2.1 r138.2.2.1 r138.2.2.2.1 r142.1 r142.2.1 r142.2.2.1 r142.2.2.2.1 ([]:RW) r141.2.1 r141.2.2.1 r141.2.2.2.1 r141.2.2.2.2.1 r141.2.2.2.2.2) fun r143=>(.done (r143.1,r143.2.1,r143.2.2.1,r143.2.2.2.1,r143.2.2.2.2.1,r143.2.2.2.2.2))))))) (.opt (rec.spec_l3Rd_row (1:Int) r139.2.1 r92.2.1 r139.2.2.2.1 r139.2.2.2.2.1 r139.2.2.2.2.2) fun r144=>(.done (r144.1,r144.2.1,r144.2.2.1,r144.2.2.2.1,r144.2.2.2.2.1,r144.2.2.2.2.2))))) (.opt (rec.spec_l3Rd_row (1:Int) r93.2.1 r92.2.1 r93.2.2.2.1 r93.2.2.2.2.1 r93.2.2.2.2.2) fun r145=>(.done (r145.1,r145.2.1,r145.2.2.1,r145.2.2.2.1,r145.2.2.2.2.1,r145.2.2.2.2.2)))))))
def qd:Nat→G_spec_l3Rd_row
 |0=>⟨fun _ _ _ _ _ _=>none,fun _ _ _ _ _=>none,fun _ _ _ _ _ _=>none,fun _ _ _ _ _=>none⟩
 |n+1=>⟨fun x0 x1 x2 x3 x4 x5=>(qIC (qd n) n x0 x1 x2 x3 x4 x5).run,fun x0 x1 x2 x3 x4=>(qID (qd n) n x0 x1 x2 x3 x4).run,fun x0 x1 x2 x3 x4 x5=>(qHJ (qd n) n x0 x1 x2 x3 x4 x5).run,fun x0 x1 x2 x3 x4=>(qIE (qd n) n x0 x1 x2 x3 x4).run⟩
def qDn (n:Nat) (x0:Int) (x1:BA) (x2:Int) (x3:Bool) (x4:Nat) (x5:RW):Option (Int×BA×Int×Bool×Nat×RW):=(qd n).spec_l3Rd_row x0 x1 x2 x3 x4 x5
def qIF (n:Nat) (x0:BA) (x1:Int) (x2:Bool) (x3:Nat) (x4:RW):Option (Int×BA×Int×Bool×Nat×RW):=(qd n).spec_l3Rd_one x0 x1 x2 x3 x4
def qHK (n:Nat) (x0:Int) (x1:BA) (x2:Int) (x3:Bool) (x4:Nat) (x5:RW):Option (Int×BA×Int×Bool×Nat×RW):=(qd n).spec_l3Rd_call x0 x1 x2 x3 x4 x5
def qIG (n:Nat) (x0:BA) (x1:Int) (x2:Bool) (x3:Nat) (x4:RW):Option (Int×BA×Int×Bool×Nat×RW):=(qd n).spec_l3Rd_arg x0 x1 x2 x3 x4
def qAy (n:Nat):Prop:=
 Ok (Rn n) qIB (qDn n)∧
 Ok (Rn n) qMm (qIF n)∧
 Ok (Rn n) qLe (qHK n)∧
 Ok (Rn n) qMn (qIG n)
abbrev qIH (n:Nat) (ih:qAy n):List (Ent (Rn n)):= [en ih.2.1,en ih.1,en (qMl n),en (qCi n)]
def qKH (n:Nat) (ih:qAy n):LEnt (KB 134) (Rn n) n:=lok (zX 134) 62 ⟨⟨[(0,(.c (.ptr 0 0 0 0 0))),(1,aI),(5,aI)],[],[[(0,⟨0,4,175,(.box [qS,qI,qB,(.own 0 1 1 0)])⟩),(1,⟨1,14,162,(.row [])⟩)]]⟩,[(.ret,⟨[(4,aI)],[],[[(0,⟨0,4,175,(.box [qS,qI,qB,(.own 0 1 1 0)])⟩),(1,⟨1,14,162,(.row [])⟩)]]⟩),(.exit 0,⟨[(5,aI)],[],[[(0,⟨0,4,175,(.box [qS,qI,qB,(.own 0 1 1 0)])⟩),(1,⟨1,14,162,(.row [])⟩)]]⟩)]⟩ (qDr (qd n) n) (qIH n ih) [] fun _=>(by kernel_rfl)
abbrev qFD (n:Nat) (ih:qAy n):List (Ent (Rn n)):= [en (qDl n),en ih.1,en (qCi n),en (qKq n),en (qFg n),en (qMi n),en (qGR n),en (qKr n),en ih.2.2.1,en (qGT n),en (qGS n)]
def qIt (n:Nat) (ih:qAy n):LEnt (KB 173) (Rn n) n:=lok (zX 173) 7161 ⟨⟨[(0,(.c (.ptr 0 0 0 0 0))),(5,aI)],[],[[(0,⟨0,4,175,(.box [qS,qI,qB,(.own 0 1 1 0)])⟩),(1,⟨1,14,162,(.row [])⟩)]]⟩,[(.ret,⟨[(2,aI)],[],[[(0,⟨0,4,175,(.box [qS,qI,qB,(.own 0 1 1 0)])⟩),(1,⟨1,14,162,(.row [])⟩)]]⟩),(.exit 1,⟨[(0,(.c (.ptr 0 0 0 0 0)))],[],[[(0,⟨0,4,175,(.box [qS,qI,qB,(.own 0 1 1 0)])⟩),(1,⟨1,14,162,(.row [])⟩)]]⟩)]⟩ (qCM n) (qFD n ih) [] fun _=>(by kernel_rfl)
def qKI (n:Nat) (ih:qAy n):LEnt (KB 173) (Rn n) n:=lok (zX 173) 61 ⟨⟨[(0,(.c (.ptr 0 0 0 0 0))),(7,aS),(8,aI)],[],[[(0,⟨0,4,175,(.box [qS,qI,qB,(.own 0 1 1 0)])⟩),(1,⟨1,14,162,(.row [])⟩)]]⟩,[(.ret,⟨[(2,aI)],[],[[(0,⟨0,4,175,(.box [qS,qI,qB,(.own 0 1 1 0)])⟩),(1,⟨1,14,162,(.row [])⟩)]]⟩),(.exit 3,⟨[(0,(.c (.ptr 0 0 0 0 0))),(7,aS)],[],[[(0,⟨0,4,175,(.box [qS,qI,qB,(.own 0 1 1 0)])⟩),(1,⟨1,14,162,(.row [])⟩)]]⟩)]⟩ (qCw (qd n) n) (qFD n ih) [] fun _=>(by kernel_rfl)
abbrev qHL (n:Nat) (ih:qAy n):List (Ent (Rn n)):= [en ih.2.2.2,en (qDl n),en (qCi n)]
def qJi (n:Nat) (ih:qAy n):LEnt (KB 212) (Rn n) n:=lok (zX 212) 14 ⟨⟨[(0,(.c (.ptr 0 0 0 0 0))),(1,aI),(5,(.c (.own 1 384 0 0)))],[(384,⟨0,1,2,(.row [])⟩)],[[(0,⟨0,4,175,(.box [qS,qI,qB,(.own 0 1 1 0)])⟩),(1,⟨1,14,162,(.row [])⟩)]]⟩,[(.ret,⟨[(4,aI)],[],[[(0,⟨0,4,175,(.box [qS,qI,qB,(.own 0 1 1 0)])⟩),(1,⟨1,14,162,(.row [])⟩)]]⟩),(.exit 0,⟨[],[],[[(0,⟨0,4,175,(.box [qS,qI,qB,(.own 0 1 1 0)])⟩),(1,⟨1,14,162,(.row [])⟩)]]⟩)]⟩ (qDY (qd n) n) (qHL n ih) [] fun _=>(by kernel_rfl)
abbrev qMo (n:Nat) (ih:qAy n):List (Ent (Rn n)):= [en (qDW n),en (qGR n),en (qGS n),en (qDl n),en (qCi n),en ih.1]
theorem qAz:∀n,qAy n
 |0=>⟨ok0 fun _=>rfl,ok0 fun _=>rfl,ok0 fun _=>rfl,ok0 fun _=>rfl⟩
 |n+1=>⟨stO (T:=qIC (qd n) n) (by kernel_rfl) (qIH n (qAz n)) [qKH n (qAz n)] (fun _=>(by kernel_rfl)) fun _=>(by kernel_rfl),stO (T:=qID (qd n) n) (by kernel_rfl) (qFD n (qAz n)) [qIt n (qAz n),qKI n (qAz n)] (fun _=>(by kernel_rfl)) fun _=>(by kernel_rfl),stO (T:=qHJ (qd n) n) (by kernel_rfl) (qHL n (qAz n)) [qJi n (qAz n)] (fun _=>(by kernel_rfl)) fun _=>(by kernel_rfl),stO (T:=qIE (qd n) n) (by kernel_rfl) (qMo n (qAz n)) [] (fun _=>(by kernel_rfl)) fun _=>(by kernel_rfl)⟩
theorem qLf (n:Nat):Ok (Rn n) qIB (qDn n):=(qAz n).1
def qGr:Sg:=⟨177,[aL,aI],[],⟨aI,[],[]⟩⟩
def qA0 (rec:RW→Int→Option (Int)) (n:Nat) (v:RW×Int×Int×Int):Tr ((RW×Int×Int×Int)⊕((Int)⊕(Int))):=(.ask ((decide (v.2.2.2≥(0:Int)))) (.ask ((decide (v.2.2.1<(0:Int)))) (.done (.inr (.inl ((-1:Int))))) (.ask (decide (0≤v.2.1∧v.2.1<v.1.length)) (.opt (v.1[(v.2.1).toNat]?) fun e166=>(.ask (decide (e166.length=14)) (.opt (zA7 e166 13) fun y167=>(.ask (decide (0≤v.2.2.2∧v.2.2.2<y167.length)) (.opt (y167[(v.2.2.2).toNat]?) fun e168=>(.ask (decide (e168.length=1)) (.opt (zE .i64 e168 0) fun y169=>(.ask ((y169 !=v.2.2.1)) (.done (.inr (.inl ((-1:Int))))) (.opt (rec v.1 v.2.2.1) fun r170=>(.ask ((decide (r170<(0:Int)))) (.done (.inr (.inl ((-1:Int))))) (.done (.inl (v.1,v.2.1,(IntKind.i64.wrap (r170-(1:Int))),(IntKind.i64.wrap (v.2.2.2-(1:Int)))))))))) .fail)) .fail)) .fail)) .fail)) (.done (.inr (.inr (v.2.2.1)))))
def qGs (rec:RW→Int→Option (Int)) (n:Nat) (x0:RW) (x1:Int):Tr (Int):=(.ask (decide (0≤x1∧x1<x0.length)) (.opt (x0[(x1).toNat]?) fun e164=>(.ask (decide (e164.length=14)) (.opt (zA7 e164 13) fun y165=>(.opt (zC (qA0 rec n) n (x0,x1,(IntKind.i64.wrap (x1-(1:Int))),(IntKind.i64.wrap ((y165.length:Int)-(1:Int))))) fun r171=>(.alt r171 (fun r172=>(.done r172)) (fun r173=>(.done (IntKind.i64.wrap (r173+(1:Int)))))))) .fail)) .fail)
def qAm:Nat→RW→Int→Option (Int)
 |0,_,_=>none
 |n+1,x0,x1=>(qGs (qAm n) n x0 x1).run
abbrev qJ3 (n:Nat) (ih:Ok (Rn n) qGr (qAm n)):List (Ent (Rn n)):= [en ih]
def qLg (n:Nat) (ih:Ok (Rn n) qGr (qAm n)):LEnt (KB 177) (Rn n) n:=lok (zX 177) 29 ⟨⟨[(0,aL),(1,aI),(5,aI),(6,aI)],[],[]⟩,[(.ret,⟨[(4,aI)],[],[]⟩),(.exit 0,⟨[(5,aI)],[],[]⟩)]⟩ (qA0 (qAm n) n) (qJ3 n ih) [] fun _=>(by kernel_rfl)
theorem qFk:∀n,Ok (Rn n) qGr (qAm n)
 |0=>ok0 fun _=>rfl
 |n+1=>stO (T:=qGs (qAm n) n) (by kernel_rfl) (qJ3 n (qFk n)) [qLg n (qFk n)] (fun _=>(by kernel_rfl)) fun _=>(by kernel_rfl)
def qGt:Sg:=⟨178,[aL,aI],[],⟨aI,[],[]⟩⟩
def qCm (rec:RW→Int→Option (Int)) (n:Nat) (v:RW×Int×Int×Int):Tr ((RW×Int×Int×Int)⊕((Int))):=(.ask (decide (0≤v.2.1∧v.2.1<v.1.length)) (.opt (v.1[(v.2.1).toNat]?) fun e177=>(.ask (decide (e177.length=14)) (.opt (zA7 e177 13) fun y178=>(.ask ((decide (v.2.2.2<(y178.length:Int)))) (.ask (decide (0≤v.2.1∧v.2.1<v.1.length)) (.opt (v.1[(v.2.1).toNat]?) fun e179=>(.ask (decide (e179.length=14)) (.opt (zA7 e179 13) fun y180=>(.ask (decide (0≤v.2.2.2∧v.2.2.2<y180.length)) (.opt (y180[(v.2.2.2).toNat]?) fun e181=>(.ask (decide (e181.length=1)) (.opt (zE .i64 e181 0) fun y182=>(.opt (rec v.1 y182) fun r183=>(.done (.inl (v.1,v.2.1,(if r183>v.2.2.1 then r183 else v.2.2.1),(IntKind.i64.wrap (v.2.2.2+(1:Int)))))))) .fail)) .fail)) .fail)) .fail) (.done (.inr (v.2.2.1))))) .fail)) .fail)
def qGu (rec:RW→Int→Option (Int)) (n:Nat) (x0:RW) (x1:Int):Tr (Int):=(.opt (zC (qCm rec n) n (x0,x1,(0:Int),(0:Int))) fun r184=>(.done (IntKind.i64.wrap (r184+(1:Int)))))
def qAn:Nat→RW→Int→Option (Int)
 |0,_,_=>none
 |n+1,x0,x1=>(qGu (qAn n) n x0 x1).run
abbrev qJ4 (n:Nat) (ih:Ok (Rn n) qGt (qAn n)):List (Ent (Rn n)):= [en ih]
def qLh (n:Nat) (ih:Ok (Rn n) qGt (qAn n)):LEnt (KB 178) (Rn n) n:=lok (zX 178) 29 ⟨⟨[(0,aL),(1,aI),(5,aI),(6,aI)],[],[]⟩,[(.exit 0,⟨[(5,aI)],[],[]⟩)]⟩ (qCm (qAn n) n) (qJ4 n ih) [] fun _=>(by kernel_rfl)
theorem qFl:∀n,Ok (Rn n) qGt (qAn n)
 |0=>ok0 fun _=>rfl
 |n+1=>stO (T:=qGu (qAn n) n) (by kernel_rfl) (qJ4 n (qFl n)) [qLh n (qFl n)] (fun _=>(by kernel_rfl)) fun _=>(by kernel_rfl)
def qLi:Sg:=⟨136,[aL],[],⟨aB,[],[]⟩⟩
def qAg (n:Nat) (v:RW×Int×Int):Tr ((RW×Int×Int)⊕((Bool)⊕(RW×Int))):=(.ask (decide (0≤v.2.1∧v.2.1<v.1.length)) (.opt (v.1[(v.2.1).toNat]?) fun e147=>(.ask (decide (e147.length=14)) (.opt (zA7 e147 13) fun y148=>(.ask ((decide (v.2.2<(y148.length:Int)))) (.ask (decide (0≤v.2.1∧v.2.1<v.1.length)) (.opt (v.1[(v.2.1).toNat]?) fun e149=>(.ask (decide (e149.length=14)) (.opt (zA7 e149 13) fun y150=>(.ask (decide (0≤v.2.2∧v.2.2<y150.length)) (.opt (y150[(v.2.2).toNat]?) fun e151=>(.ask (decide (e151.length=1)) (.opt (zE .i64 e151 0) fun y152=>(.opt (qAb n y152 (0:Int) (IntKind.i64.wrap (v.2.1-(1:Int)))) fun r153=>(.ask ((!r153)) (.done (.inr (.inl (false)))) (.ask (decide (0≤y152∧y152<v.1.length)) (.opt (v.1[(y152).toNat]?) fun e154=>(.ask (decide (e154.length=14)) (.opt (zE .i64 e154 0) fun y155=>(.ask ((y155==(3:Int))) (.ask (decide (0≤v.2.1∧v.2.1<v.1.length)) (.opt (v.1[(v.2.1).toNat]?) fun e156=>(.ask (decide (e156.length=14)) (.opt (zE .i64 e156 0) fun y157=>(.ask ((y157 !=(6:Int))) (.done (.inr (.inl (false)))) (.done (.inl (v.1,v.2.1,(IntKind.i64.wrap (v.2.2+(1:Int)))))))) .fail)) .fail) (.done (.inl (v.1,v.2.1,(IntKind.i64.wrap (v.2.2+(1:Int)))))))) .fail)) .fail)))) .fail)) .fail)) .fail)) .fail) (.done (.inr (.inr ((v.1,v.2.1))))))) .fail)) .fail)
def qA4 (n:Nat) (v:RW×Int):Tr ((RW×Int)⊕((Bool)⊕(RW))):=(.ask ((decide (v.2<(v.1.length:Int)))) (.ask (decide (0≤v.2∧v.2<v.1.length)) (.opt (v.1[(v.2).toNat]?) fun e131=>(.ask (decide (e131.length=14)) (.opt (zE .i64 e131 0) fun y132=>(.opt (zE .i64 e131 1) fun y133=>(.opt (zE .i64 e131 2) fun y134=>(.opt (zE .i64 e131 3) fun y135=>(.opt (zh e131 4) fun y136=>(.opt (zE .i64 e131 5) fun y137=>(.opt (zE .i64 e131 6) fun y138=>(.opt (zAT e131 7) fun y139=>(.opt (zAT e131 8) fun y140=>(.opt (zE .i64 e131 9) fun y141=>(.opt (zE .i64 e131 10) fun y142=>(.opt (zAT e131 11) fun y143=>(.opt (zAT e131 12) fun y144=>(.opt (zA7 e131 13) fun y145=>(.opt (qBs n y132 y133 y134 y135 y136 y137 y138 y139 y140 y141 y142 y143 y144 y145) fun r146=>(.ask ((!r146)) (.done (.inr (.inl (false)))) (.opt (zC (qAg n) n (v.1,v.2,(0:Int))) fun r158=>(.alt r158 (fun r159=>(.done (.inr (.inl (r159))))) (fun r160=>(.done (.inl (r160.1,(IntKind.i64.wrap (r160.2+(1:Int))))))))))))))))))))))))) .fail)) .fail) (.done (.inr (.inr (v.1)))))
def qCn (n:Nat) (x0:RW):Tr (Bool):=(.ask ((decide ((x0.length:Int)<(1:Int)))) (.done false) (.ask ((decide ((x0.length:Int)>(60:Int)))) (.done false) (.opt (zC (qA4 n) n (x0,(0:Int))) fun r161=>(.alt r161 (fun r162=>(.done r162)) (fun r163=>(.opt (qAm n r163 (IntKind.i64.wrap ((r163.length:Int)-(1:Int)))) fun r174=>(.ask ((r174==(0:Int))) (.ask (decide (0≤(IntKind.i64.wrap ((r163.length:Int)-(1:Int)))∧(IntKind.i64.wrap ((r163.length:Int)-(1:Int)))<r163.length)) (.opt (r163[((IntKind.i64.wrap ((r163.length:Int)-(1:Int)))).toNat]?) fun e175=>(.ask (decide (e175.length=14)) (.opt (zE .i64 e175 0) fun y176=>(.ask ((y176 !=(3:Int))) (.opt (qAn n r163 (IntKind.i64.wrap ((r163.length:Int)-(1:Int)))) fun r185=>(.done (decide (r185≤(12:Int))))) (.done false))) .fail)) .fail) (.done false))))))))
def qBb:Nat→RW→Option (Bool)
 |0,_=>none
 |n+1,x0=>(qCn n x0).run
abbrev qEc (n:Nat):List (Ent (Rn n)):= [en (qHD n),en (qDN n),en (qFk n),en (qFl n)]
def qIu (n:Nat):LEnt (lb 29 (KB 136)) (Rn n) n:=lok (Uniq.pick (zX 136) 29) 475 ⟨⟨[(0,aL),(3,aI),(4,aI)],[],[]⟩,[(.ret,⟨[(2,aB)],[],[]⟩),(.exit 2,⟨[(0,aL),(3,aI)],[],[]⟩)]⟩ (qAg n) (qEc n) [] fun _=>(by kernel_rfl)
def qJj (n:Nat):LEnt (KB 136) (Rn n) n:=lok (zX 136) 29 ⟨⟨[(0,aL),(3,aI)],[],[]⟩,[(.ret,⟨[(2,aB)],[],[]⟩),(.exit 0,⟨[(0,aL)],[],[]⟩)]⟩ (qA4 n) (qEc n) [qIu n] fun _=>(by kernel_rfl)
theorem qGU:∀n,Ok (Rn n) qLi (qBb n)
 |0=>ok0 fun _=>rfl
 |n+1=>stO (T:=qCn n) (by kernel_rfl) (qEc n) [qJj n] (fun _=>(by kernel_rfl)) fun _=>(by kernel_rfl)
def qKJ:Sg:=⟨93,[aS],[],⟨(.tup [(false,[qL]),(false,[qB])]),[],[]⟩⟩
def qFm (n:Nat) (x0:BA):Tr (RW×Bool):=(.opt (qB6 n x0) fun r38=>(.ask ((!r38)) (.ask (decide (0=([]:RW).length)) (.done (([]:RW),false)) .fail) (.opt (qDn n (1:Int) x0 (0:Int) false (0:Nat) ([]:RW)) fun r129=>(.opt (qBa n r129.2.1 r129.2.2.1 r129.2.2.2.1 r129.2.2.2.2.1 r129.2.2.2.2.2) fun r130=>(.ask (r130.2.2.1) (.ask (decide (0=([]:RW).length)) (.done (([]:RW),false)) .fail) (.ask ((decide (r130.2.1<(x0.size:Int)))) (.ask (decide (0=([]:RW).length)) (.done (([]:RW),false)) .fail) (.ask (decide (r130.2.2.2.1=r130.2.2.2.2.length)) (.opt (qBb n r130.2.2.2.2) fun r186=>(.ask (zAk (⟨(.c (.p (.b r186))),[],[]⟩:Res)) (.ask ((!r186)) (.ask (decide (0=([]:RW).length)) (.done (([]:RW),false)) .fail) (.ask (decide (r130.2.2.2.1=r130.2.2.2.2.length)) (.done (r130.2.2.2.2,true)) .fail)) .fail)) .fail)))))))
def qDs:Nat→BA→Option (RW×Bool)
 |0,_=>none
 |n+1,x0=>(qFm n x0).run
abbrev qKK (n:Nat):List (Ent (Rn n)):= [en (qFB n),en (qLf n),en (qDW n),en (qGU n)]
theorem qJk:∀n,Ok (Rn n) qKJ (qDs n)
 |0=>ok0 fun _=>rfl
 |n+1=>stO (T:=qFm n) (by kernel_rfl) (qKK n) [] (fun _=>(by kernel_rfl)) fun _=>(by kernel_rfl)
def qNb:Sg:=⟨179,[aS],[],⟨aS,[],[]⟩⟩
def qBP (n:Nat) (v:BA×BA×Int):Tr ((BA×BA×Int)⊕((BA))):=(.ask ((decide (v.2.2<(v.1.size:Int)))) (.ask (decide (0≤v.2.2)) (.opt (v.1.toList[(v.2.2).toNat]?) fun c204=>(.ask (((c204.toNat:Int)==(34:Int))) (.ask (decide (v.2.1.size+(⟨#[34]⟩:BA).size≤9223372036854775807)) (.ask (decide (0≤v.2.2∧v.2.2≤(IntKind.i64.wrap (v.2.2+(1:Int)))∧(IntKind.i64.wrap (v.2.2+(1:Int)))≤v.1.size)) (.ask (decide ((v.2.1++(⟨#[34]⟩:BA)).size+(v.1.extract (v.2.2).toNat ((IntKind.i64.wrap (v.2.2+(1:Int)))).toNat).size≤9223372036854775807)) (.done (.inl (v.1,((v.2.1++(⟨#[34]⟩:BA))++(v.1.extract (v.2.2).toNat ((IntKind.i64.wrap (v.2.2+(1:Int)))).toNat)),(IntKind.i64.wrap (v.2.2+(1:Int)))))) .fail) .fail) .fail) (.ask (decide (0≤v.2.2∧v.2.2≤(IntKind.i64.wrap (v.2.2+(1:Int)))∧(IntKind.i64.wrap (v.2.2+(1:Int)))≤v.1.size)) (.ask (decide (v.2.1.size+(v.1.extract (v.2.2).toNat ((IntKind.i64.wrap (v.2.2+(1:Int)))).toNat).size≤9223372036854775807)) (.done (.inl (v.1,(v.2.1++(v.1.extract (v.2.2).toNat ((IntKind.i64.wrap (v.2.2+(1:Int)))).toNat)),(IntKind.i64.wrap (v.2.2+(1:Int)))))) .fail) .fail))) .fail) (.done (.inr (v.2.1))))
def qFn (n:Nat) (x0:BA):Tr (BA):=(.opt (zC (qBP n) n (x0,(⟨#[34]⟩:BA),(0:Int))) fun r205=>(.ask (decide (r205.size+(⟨#[34]⟩:BA).size≤9223372036854775807)) (.done (r205++(⟨#[34]⟩:BA))) .fail))
def qEE:Nat→BA→Option (BA)
 |0,_=>none
 |n+1,x0=>(qFn n x0).run
def qKv (n:Nat):LEnt (KB 179) (Rn n) n:=lok (zX 179) 29 ⟨⟨[(0,aS),(3,aS),(4,aI)],[],[]⟩,[(.exit 0,⟨[(3,aS)],[],[]⟩)]⟩ (qBP n) [] [] fun _=>(by kernel_rfl)
theorem qMp:∀n,Ok (Rn n) qNb (qEE n)
 |0=>ok0 fun _=>rfl
 |n+1=>stO (T:=qFn n) (by kernel_rfl) [] [qKv n] (fun _=>(by kernel_rfl)) fun _=>(by kernel_rfl)
def qHj:Sg:=⟨59,[aI],[],⟨aS,[],[]⟩⟩
def qC4 (n:Nat) (v:Int×BA):Tr ((Int×BA)⊕((Int×BA))):=(.ask ((decide (v.1≥(10:Int)))) (.ask (decide (1=([[(.i .u8 (IntKind.u8.wrap (IntKind.i64.wrap ((48:Int)+(Int.tmod v.1 (10:Int))))))]]:RW).length)) (.opt (bytesOf ([[(.i .u8 (IntKind.u8.wrap (IntKind.i64.wrap ((48:Int)+(Int.tmod v.1 (10:Int))))))]]:RW)) fun l209=>(.ask (decide ((⟨l209.toArray⟩:BA).size+v.2.size≤9223372036854775807)) (.done (.inl ((IntKind.i64.wrap (Int.tdiv v.1 (10:Int))),((⟨l209.toArray⟩:BA)++v.2)))) .fail)) .fail) (.done (.inr ((v.1,v.2)))))
def qFT (rec:Int→Option (BA)) (n:Nat) (x0:Int):Tr (BA):=(.ask ((decide (x0<(0:Int)))) (.opt (rec (IntKind.i64.wrap (0-x0))) fun r208=>(.ask (decide ((⟨#[45]⟩:BA).size+r208.size≤9223372036854775807)) (.done ((⟨#[45]⟩:BA)++r208)) .fail)) (.opt (zC (qC4 n) n (x0,(⟨#[]⟩:BA))) fun r210=>(.ask (decide (1=([[(.i .u8 (IntKind.u8.wrap (IntKind.i64.wrap ((48:Int)+r210.1))))]]:RW).length)) (.opt (bytesOf ([[(.i .u8 (IntKind.u8.wrap (IntKind.i64.wrap ((48:Int)+r210.1))))]]:RW)) fun l211=>(.ask (decide ((⟨l211.toArray⟩:BA).size+r210.2.size≤9223372036854775807)) (.done ((⟨l211.toArray⟩:BA)++r210.2)) .fail)) .fail)))
def qAN:Nat→Int→Option (BA)
 |0,_=>none
 |n+1,x0=>(qFT (qAN n) n x0).run
abbrev qKw (n:Nat) (ih:Ok (Rn n) qHj (qAN n)):List (Ent (Rn n)):= [en ih]
def qMq (n:Nat) (ih:Ok (Rn n) qHj (qAN n)):LEnt (KB 59) (Rn n) n:=lok (zX 59) 30 ⟨⟨[(0,aI),(3,aS)],[],[]⟩,[(.exit 0,⟨[(0,aI),(3,aS)],[],[]⟩)]⟩ (qC4 n) (qKw n ih) [] fun _=>(by kernel_rfl)
theorem qDh:∀n,Ok (Rn n) qHj (qAN n)
 |0=>ok0 fun _=>rfl
 |n+1=>stO (T:=qFT (qAN n) n) (by kernel_rfl) (qKw n (qDh n)) [qMq n (qDh n)] (fun _=>(by kernel_rfl)) fun _=>(by kernel_rfl)
def qOY:Sg:=⟨140,[aI],[],⟨aS,[],[]⟩⟩
def qGv (n:Nat) (x0:Int):Tr (BA):=(.ask ((x0==(1:Int))) (.done (⟨#[84,82,85,69]⟩:BA)) (.done (⟨#[70,65,76,83,69]⟩:BA)))
def qEv:Nat→Int→Option (BA)
 |0,_=>none
 |n+1,x0=>(qGv n x0).run
theorem qNc:∀n,Ok (Rn n) qOY (qEv n)
 |0=>ok0 fun _=>rfl
 |n+1=>stO (T:=qGv n) (by kernel_rfl) [] [] (fun _=>(by kernel_rfl)) fun _=>(by kernel_rfl)
def qLj:Sg:=⟨96,[(.agg [qI,qI,qS])],[],⟨aS,[],[]⟩⟩
def qBG (n:Nat) (x0 x1:Int) (x2:BA):Tr (BA):=(.opt (qY n x0 x1 x2) fun r207=>(.ask ((!r207)) (.done (⟨#[]⟩:BA)) (.ask ((x0==(1:Int))) (.opt (qAN n x1) fun r212=>(.done r212)) (.ask ((x0==(2:Int))) (.ask (decide ((⟨#[39]⟩:BA).size+x2.size≤9223372036854775807)) (.done ((⟨#[39]⟩:BA)++x2)) .fail) (.ask ((x0==(3:Int))) (.opt (qEv n x1) fun r213=>(.done r213)) (.ask ((x0==(4:Int))) (.opt (qBK n x1) fun r214=>(.done r214)) (.done (⟨#[]⟩:BA))))))))
def qAM:Nat→Int→Int→BA→Option (BA)
 |0,_,_,_=>none
 |n+1,x0,x1,x2=>(qBG n x0 x1 x2).run
abbrev qLk (n:Nat):List (Ent (Rn n)):= [en (qDm n),en (qDh n),en (qNc n),en (qFg n)]
theorem qGV:∀n,Ok (Rn n) qLj (qAM n)
 |0=>ok0 fun _=>rfl
 |n+1=>stO (T:=qBG n) (by kernel_rfl) (qLk n) [] (fun _=>(by kernel_rfl)) fun _=>(by kernel_rfl)
def qLl:Sg:=⟨58,[(.agg [qI,qI,qB,qB])],[],⟨aS,[],[]⟩⟩
def qDO (n:Nat) (x0 x1:Int) (x2 x3:Bool):Tr (BA):=(.opt (qy n x0 x1) fun r216=>(.ask ((!r216)) (.done (⟨#[]⟩:BA)) (.opt (qCl n x0) fun r217=>(.ask (x2) (.ask (decide ((⟨#[36]⟩:BA).size+r217.size≤9223372036854775807)) (.ask (x3) (.ask (decide (((⟨#[36]⟩:BA)++r217).size+(⟨#[36]⟩:BA).size≤9223372036854775807)) (.opt (qAN n x1) fun r218=>(.ask (decide ((((⟨#[36]⟩:BA)++r217)++(⟨#[36]⟩:BA)).size+r218.size≤9223372036854775807)) (.done ((((⟨#[36]⟩:BA)++r217)++(⟨#[36]⟩:BA))++r218)) .fail)) .fail) (.opt (qAN n x1) fun r219=>(.ask (decide (((⟨#[36]⟩:BA)++r217).size+r219.size≤9223372036854775807)) (.done (((⟨#[36]⟩:BA)++r217)++r219)) .fail))) .fail) (.ask (x3) (.ask (decide (r217.size+(⟨#[36]⟩:BA).size≤9223372036854775807)) (.opt (qAN n x1) fun r220=>(.ask (decide ((r217++(⟨#[36]⟩:BA)).size+r220.size≤9223372036854775807)) (.done ((r217++(⟨#[36]⟩:BA))++r220)) .fail)) .fail) (.opt (qAN n x1) fun r221=>(.ask (decide (r217.size+r221.size≤9223372036854775807)) (.done (r217++r221)) .fail)))))))
def qA1:Nat→Int→Int→Bool→Bool→Option (BA)
 |0,_,_,_,_=>none
 |n+1,x0,x1,x2,x3=>(qDO n x0 x1 x2 x3).run
abbrev qLm (n:Nat):List (Ent (Rn n)):= [en (qDg n),en (qH9 n),en (qDh n)]
theorem qGW:∀n,Ok (Rn n) qLl (qA1 n)
 |0=>ok0 fun _=>rfl
 |n+1=>stO (T:=qDO n) (by kernel_rfl) (qLm n) [] (fun _=>(by kernel_rfl)) fun _=>(by kernel_rfl)
def qGw:Sg:=⟨137,[aL,aI,aI],[],⟨aS,[],[]⟩⟩
def qBQ (rec:RW→Int→Int→Option (BA)) (n:Nat) (v:RW×BA×Int×Int×Int×Int×Int×BA×Int×Int×Bool×Bool×Int×Int×Bool×Bool×RW):Tr ((RW×BA×Int×Int×Int×Int×Int×BA×Int×Int×Bool×Bool×Int×Int×Bool×Bool×RW)⊕((BA))):=(.ask ((decide (v.2.2.1<(v.2.2.2.2.2.2.2.2.2.2.2.2.2.2.2.2.length:Int)))) (.ask ((decide (v.2.2.1>(0:Int)))) (.ask (decide (v.2.1.size+(⟨#[44]⟩:BA).size≤9223372036854775807)) (.ask (decide (0≤v.2.2.1∧v.2.2.1<v.2.2.2.2.2.2.2.2.2.2.2.2.2.2.2.2.length)) (.opt (v.2.2.2.2.2.2.2.2.2.2.2.2.2.2.2.2[(v.2.2.1).toNat]?) fun e237=>(.ask (decide (e237.length=1)) (.opt (zE .i64 e237 0) fun y238=>(.opt (rec v.1 y238 (0:Int)) fun r239=>(.ask (decide ((v.2.1++(⟨#[44]⟩:BA)).size+r239.size≤9223372036854775807)) (.done (.inl (v.1,((v.2.1++(⟨#[44]⟩:BA))++r239),(IntKind.i64.wrap (v.2.2.1+(1:Int))),v.2.2.2.1,v.2.2.2.2.1,v.2.2.2.2.2.1,v.2.2.2.2.2.2.1,v.2.2.2.2.2.2.2.1,v.2.2.2.2.2.2.2.2.1,v.2.2.2.2.2.2.2.2.2.1,v.2.2.2.2.2.2.2.2.2.2.1,v.2.2.2.2.2.2.2.2.2.2.2.1,v.2.2.2.2.2.2.2.2.2.2.2.2.1,v.2.2.2.2.2.2.2.2.2.2.2.2.2.1,v.2.2.2.2.2.2.2.2.2.2.2.2.2.2.1,v.2.2.2.2.2.2.2.2.2.2.2.2.2.2.2.1,v.2.2.2.2.2.2.2.2.2.2.2.2.2.2.2.2))) .fail))) .fail)) .fail) .fail) (.ask (decide (0≤v.2.2.1∧v.2.2.1<v.2.2.2.2.2.2.2.2.2.2.2.2.2.2.2.2.length)) (.opt (v.2.2.2.2.2.2.2.2.2.2.2.2.2.2.2.2[(v.2.2.1).toNat]?) fun e240=>(.ask (decide (e240.length=1)) (.opt (zE .i64 e240 0) fun y241=>(.opt (rec v.1 y241 (0:Int)) fun r242=>(.ask (decide (v.2.1.size+r242.size≤9223372036854775807)) (.done (.inl (v.1,(v.2.1++r242),(IntKind.i64.wrap (v.2.2.1+(1:Int))),v.2.2.2.1,v.2.2.2.2.1,v.2.2.2.2.2.1,v.2.2.2.2.2.2.1,v.2.2.2.2.2.2.2.1,v.2.2.2.2.2.2.2.2.1,v.2.2.2.2.2.2.2.2.2.1,v.2.2.2.2.2.2.2.2.2.2.1,v.2.2.2.2.2.2.2.2.2.2.2.1,v.2.2.2.2.2.2.2.2.2.2.2.2.1,v.2.2.2.2.2.2.2.2.2.2.2.2.2.1,v.2.2.2.2.2.2.2.2.2.2.2.2.2.2.1,v.2.2.2.2.2.2.2.2.2.2.2.2.2.2.2.1,v.2.2.2.2.2.2.2.2.2.2.2.2.2.2.2.2))) .fail))) .fail)) .fail)) (.done (.inr (v.2.1))))
def qBk (rec:RW→Int→Int→Option (BA)) (n:Nat) (x0:RW) (x1 x2:Int):Tr (BA):=(.ask (decide (0≤x1∧x1<x0.length)) (.opt (x0[(x1).toNat]?) fun e189=>(.ask (decide (e189.length=14)) (.opt (zE .i64 e189 0) fun y190=>(.opt (zE .i64 e189 1) fun y191=>(.opt (zE .i64 e189 2) fun y192=>(.opt (zE .i64 e189 3) fun y193=>(.opt (zh e189 4) fun y194=>(.opt (zE .i64 e189 5) fun y195=>(.opt (zE .i64 e189 6) fun y196=>(.opt (zAT e189 7) fun y197=>(.opt (zAT e189 8) fun y198=>(.opt (zE .i64 e189 9) fun y199=>(.opt (zE .i64 e189 10) fun y200=>(.opt (zAT e189 11) fun y201=>(.opt (zAT e189 12) fun y202=>(.opt (zA7 e189 13) fun y203=>(.ask ((y190==(1:Int))) (.ask ((y192==(2:Int))) (.opt (qEE n y194) fun r206=>(.done r206)) (.opt (qAM n y192 y193 y194) fun r215=>(.done r215))) (.ask ((y190==(2:Int))) (.opt (qA1 n y195 y196 y197 y198) fun r222=>(.done r222)) (.ask ((y190==(3:Int))) (.opt (qA1 n y195 y196 y197 y198) fun r223=>(.ask (decide (r223.size+(⟨#[58]⟩:BA).size≤9223372036854775807)) (.opt (qA1 n y199 y200 y201 y202) fun r224=>(.ask (decide ((r223++(⟨#[58]⟩:BA)).size+r224.size≤9223372036854775807)) (.done ((r223++(⟨#[58]⟩:BA))++r224)) .fail)) .fail)) (.ask ((y190==(4:Int))) (.ask (decide (0≤(0:Int)∧(0:Int)<y203.length)) (.opt (y203[((0:Int)).toNat]?) fun e225=>(.ask (decide (e225.length=1)) (.opt (zE .i64 e225 0) fun y226=>(.opt (rec x0 y226 (5:Int)) fun r227=>(.ask (decide ((⟨#[45]⟩:BA).size+r227.size≤9223372036854775807)) (.done ((⟨#[45]⟩:BA)++r227)) .fail))) .fail)) .fail) (.ask ((y190==(5:Int))) (.opt (qB8 n y191) fun r228=>(.ask (decide (0≤(0:Int)∧(0:Int)<y203.length)) (.opt (y203[((0:Int)).toNat]?) fun e229=>(.ask (decide (e229.length=1)) (.opt (zE .i64 e229 0) fun y230=>(.ask (decide (0≤(1:Int)∧(1:Int)<y203.length)) (.opt (y203[((1:Int)).toNat]?) fun e231=>(.ask (decide (e231.length=1)) (.opt (zE .i64 e231 0) fun y232=>(.opt (rec x0 y230 r228) fun r233=>(.opt (qCX n y191) fun r234=>(.ask (decide (r233.size+r234.size≤9223372036854775807)) (.opt (rec x0 y232 (IntKind.i64.wrap (r228+(1:Int)))) fun r235=>(.ask (decide ((r233++r234).size+r235.size≤9223372036854775807)) (.ask ((decide (r228<x2))) (.ask (decide ((⟨#[40]⟩:BA).size+((r233++r234)++r235).size≤9223372036854775807)) (.ask (decide (((⟨#[40]⟩:BA)++((r233++r234)++r235)).size+(⟨#[41]⟩:BA).size≤9223372036854775807)) (.done (((⟨#[40]⟩:BA)++((r233++r234)++r235))++(⟨#[41]⟩:BA))) .fail) .fail) (.done ((r233++r234)++r235))) .fail)) .fail)))) .fail)) .fail)) .fail)) .fail)) (.opt (qCK n y191) fun r236=>(.ask (decide (r236.size+(⟨#[40]⟩:BA).size≤9223372036854775807)) (.opt (zC (qBQ rec n) n (x0,(r236++(⟨#[40]⟩:BA)),(0:Int),y190,y191,y192,y193,y194,y195,y196,y197,y198,y199,y200,y201,y202,y203)) fun r243=>(.ask (decide (r243.size+(⟨#[41]⟩:BA).size≤9223372036854775807)) (.done (r243++(⟨#[41]⟩:BA))) .fail)) .fail))))))))))))))))))))) .fail)) .fail)
def ql:Nat→RW→Int→Int→Option (BA)
 |0,_,_,_=>none
 |n+1,x0,x1,x2=>(qBk (ql n) n x0 x1 x2).run
abbrev qJ5 (n:Nat) (ih:Ok (Rn n) qGw (ql n)):List (Ent (Rn n)):= [en (qMp n),en (qGV n),en (qGW n),en ih,en (qIA n),en (qIq n),en (qKr n)]
def qKx (n:Nat) (ih:Ok (Rn n) qGw (ql n)):LEnt (KB 137) (Rn n) n:=lok (zX 137) 125 ⟨⟨[(0,aL),(7,(.c (.ptr 0 448 0 0 0))),(10,aS),(11,aI)],[(448,⟨0,14,162,(.box [qI,qI,qI,qI,qS,qI,qI,qB,qB,qI,qI,qB,qB,qL])⟩)],[]⟩,[(.exit 1,⟨[(10,aS)],[],[]⟩)]⟩ (qBQ (ql n) n) (qJ5 n ih) [] fun _=>(by kernel_rfl)
theorem qFo:∀n,Ok (Rn n) qGw (ql n)
 |0=>ok0 fun _=>rfl
 |n+1=>stO (T:=qBk (ql n) n) (by kernel_rfl) (qJ5 n (qFo n)) [qKx n (qFo n)] (fun _=>(by kernel_rfl)) fun _=>(by kernel_rfl)
def qKL:Sg:=⟨94,[aL],[],⟨aS,[],[]⟩⟩
def qCx (n:Nat) (x0:RW):Tr (BA):=(.opt (qBb n x0) fun r188=>(.ask ((!r188)) (.done (⟨#[]⟩:BA)) (.opt (ql n x0 (IntKind.i64.wrap ((x0.length:Int)-(1:Int))) (0:Int)) fun r244=>(.ask ((decide ((r244.size:Int)>(200:Int)))) (.done (⟨#[]⟩:BA)) (.done r244)))))
def qBc:Nat→RW→Option (BA)
 |0,_=>none
 |n+1,x0=>(qCx n x0).run
abbrev qKM (n:Nat):List (Ent (Rn n)):= [en (qGU n),en (qFo n)]
theorem qJl:∀n,Ok (Rn n) qKL (qBc n)
 |0=>ok0 fun _=>rfl
 |n+1=>stO (T:=qCx n) (by kernel_rfl) (qKM n) [] (fun _=>(by kernel_rfl)) fun _=>(by kernel_rfl)
def qMr:Sg:=⟨95,[aS],[],⟨(.tup [(true,[qI,qI,qS]),(false,[qB])]),[],[]⟩⟩
def qBd (n:Nat) (v:BA×Bool×Int×Int×BA):Tr ((BA×Bool×Int×Int×BA)⊕((BA×Bool×Int×Int×BA))):=(.ask ((decide ((v.1.size:Int)>(1:Int)))) (.ask (decide (0≤(0:Int))) (.opt (v.1.toList[((0:Int)).toNat]?) fun c247=>(.ask (((c247.toNat:Int)==(48:Int))) (.ask (decide (0≤(1:Int)∧(1:Int)≤(v.1.size:Int)∧(v.1.size:Int)≤v.1.size)) (.done (.inl ((v.1.extract ((1:Int)).toNat ((v.1.size:Int)).toNat),v.2.1,v.2.2.1,v.2.2.2.1,v.2.2.2.2))) .fail) (.done (.inr ((v.1,v.2.1,v.2.2.1,v.2.2.2.1,v.2.2.2.2)))))) .fail) (.done (.inr ((v.1,v.2.1,v.2.2.1,v.2.2.2.1,v.2.2.2.2)))))
def qII (n:Nat) (x0:BA):Tr (Int×Int×BA×Bool):=(.ask ((decide ((x0.size:Int)>(0:Int)))) (.ask (decide (0≤(0:Int))) (.opt (x0.toList[((0:Int)).toNat]?) fun c246=>(.ask (((c246.toNat:Int)==(45:Int))) (.ask (decide (0≤(1:Int)∧(1:Int)≤(x0.size:Int)∧(x0.size:Int)≤x0.size)) (.ask (((x0.extract ((1:Int)).toNat ((x0.size:Int)).toNat).toList==(⟨#[]⟩:BA).toList)) (.done ((0:Int),(0:Int),(⟨#[]⟩:BA),false)) (.opt (zC (qBd n) n ((x0.extract ((1:Int)).toNat ((x0.size:Int)).toNat),((c246.toNat:Int)==(45:Int)),(0:Int),(0:Int),(⟨#[]⟩:BA))) fun r248=>(.opt (qr n r248.1 (16:Int)) fun r249=>(.ask (r248.2.1) (.ask (r249.2) (.opt (qY n (1:Int) (IntKind.i64.wrap (0-r249.1)) (⟨#[]⟩:BA)) fun r250=>(.done ((1:Int),(IntKind.i64.wrap (0-r249.1)),(⟨#[]⟩:BA),r250))) (.done ((1:Int),(IntKind.i64.wrap (0-r249.1)),(⟨#[]⟩:BA),false))) (.ask (r249.2) (.opt (qY n (1:Int) r249.1 (⟨#[]⟩:BA)) fun r251=>(.done ((1:Int),r249.1,(⟨#[]⟩:BA),r251))) (.done ((1:Int),r249.1,(⟨#[]⟩:BA),false))))))) .fail) (.ask ((x0.toList==(⟨#[]⟩:BA).toList)) (.done ((0:Int),(0:Int),(⟨#[]⟩:BA),false)) (.opt (zC (qBd n) n (x0,((c246.toNat:Int)==(45:Int)),(0:Int),(0:Int),(⟨#[]⟩:BA))) fun r252=>(.opt (qr n r252.1 (16:Int)) fun r253=>(.ask (r252.2.1) (.ask (r253.2) (.opt (qY n (1:Int) (IntKind.i64.wrap (0-r253.1)) (⟨#[]⟩:BA)) fun r254=>(.done ((1:Int),(IntKind.i64.wrap (0-r253.1)),(⟨#[]⟩:BA),r254))) (.done ((1:Int),(IntKind.i64.wrap (0-r253.1)),(⟨#[]⟩:BA),false))) (.ask (r253.2) (.opt (qY n (1:Int) r253.1 (⟨#[]⟩:BA)) fun r255=>(.done ((1:Int),r253.1,(⟨#[]⟩:BA),r255))) (.done ((1:Int),r253.1,(⟨#[]⟩:BA),false))))))))) .fail) (.ask ((x0.toList==(⟨#[]⟩:BA).toList)) (.done ((0:Int),(0:Int),(⟨#[]⟩:BA),false)) (.opt (zC (qBd n) n (x0,false,(0:Int),(0:Int),(⟨#[]⟩:BA))) fun r256=>(.opt (qr n r256.1 (16:Int)) fun r257=>(.ask (r256.2.1) (.ask (r257.2) (.opt (qY n (1:Int) (IntKind.i64.wrap (0-r257.1)) (⟨#[]⟩:BA)) fun r258=>(.done ((1:Int),(IntKind.i64.wrap (0-r257.1)),(⟨#[]⟩:BA),r258))) (.done ((1:Int),(IntKind.i64.wrap (0-r257.1)),(⟨#[]⟩:BA),false))) (.ask (r257.2) (.opt (qY n (1:Int) r257.1 (⟨#[]⟩:BA)) fun r259=>(.done ((1:Int),r257.1,(⟨#[]⟩:BA),r259))) (.done ((1:Int),r257.1,(⟨#[]⟩:BA),false))))))))
def qFE:Nat→BA→Option (Int×Int×BA×Bool)
 |0,_=>none
 |n+1,x0=>(qII n x0).run
abbrev qIJ (n:Nat):List (Ent (Rn n)):= [en (qGp n),en (qDm n)]
def qKN (n:Nat):LEnt (KB 95) (Rn n) n:=lok (zX 95) 62 ⟨⟨[(0,aS),(2,(.c (.ptr 0 128 0 0 0))),(4,aB)],[(128,⟨0,3,128,(.box [qI,qI,qS])⟩)],[]⟩,[(.exit 0,⟨[(0,aS),(2,(.c (.ptr 0 128 0 0 0))),(4,aB)],[(128,⟨0,3,128,(.box [qI,qI,qS])⟩)],[]⟩)]⟩ (qBd n) (qIJ n) [] fun _=>(by kernel_rfl)
theorem qLn:∀n,Ok (Rn n) qMr (qFE n)
 |0=>ok0 fun _=>rfl
 |n+1=>stO (T:=qII n) (by kernel_rfl) (qIJ n) [qKN n] (fun _=>(by kernel_rfl)) fun _=>(by kernel_rfl)
def qNd:Sg:=⟨53,[aS],[],⟨(.tup [(false,[qS]),(false,[qB])]),[],[]⟩⟩
def qIv (n:Nat) (x0:BA):Tr (BA×Bool):=(.opt (qB6 n x0) fun r36=>(.ask ((!r36)) (.done ((⟨#[]⟩:BA),false)) (.ask ((x0.toList==(⟨#[]⟩:BA).toList)) (.done ((⟨#[]⟩:BA),true)) (.ask (decide (0≤(0:Int))) (.opt (x0.toList[((0:Int)).toNat]?) fun c37=>(.ask (((c37.toNat:Int)==(61:Int))) (.ask (decide (0≤(1:Int)∧(1:Int)≤(x0.size:Int)∧(x0.size:Int)≤x0.size)) (.opt (qDs n (x0.extract ((1:Int)).toNat ((x0.size:Int)).toNat)) fun r187=>(.opt (qBc n r187.1) fun r245=>(.ask ((!r187.2)) (.done ((⟨#[]⟩:BA),false)) (.ask ((r245.toList==(⟨#[]⟩:BA).toList)) (.done ((⟨#[]⟩:BA),false)) (.ask ((decide ((IntKind.i64.wrap ((r245.size:Int)+(1:Int)))>(200:Int)))) (.done ((⟨#[]⟩:BA),false)) (.ask (decide ((⟨#[61]⟩:BA).size+r245.size≤9223372036854775807)) (.done (((⟨#[61]⟩:BA)++r245),true)) .fail)))))) .fail) (.opt (qFE n x0) fun r260=>(.ask (r260.2.2.2) (.opt (qAM n r260.1 r260.2.1 r260.2.2.1) fun r261=>(.done (r261,true))) (.opt (qAE n x0) fun r262=>(.ask ((!r262.2.2.2)) (.opt (qAM n (2:Int) (0:Int) x0) fun r263=>(.ask ((decide ((r263.size:Int)>(200:Int)))) (.done ((⟨#[]⟩:BA),false)) (.done (r263,true)))) (.opt (qAM n r262.1 r262.2.1 r262.2.2.1) fun r264=>(.ask ((decide ((r264.size:Int)>(200:Int)))) (.done ((⟨#[]⟩:BA),false)) (.done (r264,true)))))))))) .fail))))
def qCo:Nat→BA→Option (BA×Bool)
 |0,_=>none
 |n+1,x0=>(qIv n x0).run
abbrev qNe (n:Nat):List (Ent (Rn n)):= [en (qFB n),en (qJk n),en (qJl n),en (qLn n),en (qGV n),en (qGT n)]
theorem qIK:∀n,Ok (Rn n) qNd (qCo n)
 |0=>ok0 fun _=>rfl
 |n+1=>stO (T:=qIv n) (by kernel_rfl) (qNe n) [] (fun _=>(by kernel_rfl)) fun _=>(by kernel_rfl)
def qKy:Sg:=⟨52,[aS],[],⟨aB,[],[]⟩⟩
def qEF (n:Nat) (x0:BA):Tr (Bool):=(.ask (decide ((⟨#[61]⟩:BA).size+x0.size≤9223372036854775807)) (.opt (qCo n ((⟨#[61]⟩:BA)++x0)) fun r265=>(.ask (r265.2) (.ask (decide ((⟨#[61]⟩:BA).size+x0.size≤9223372036854775807)) (.done (r265.1.toList==((⟨#[61]⟩:BA)++x0).toList)) .fail) (.done false))) .fail)
def qBR:Nat→BA→Option (Bool)
 |0,_=>none
 |n+1,x0=>(qEF n x0).run
abbrev qKz (n:Nat):List (Ent (Rn n)):= [en (qIK n)]
theorem qKO:∀n,Ok (Rn n) qKy (qBR n)
 |0=>ok0 fun _=>rfl
 |n+1=>stO (T:=qEF n) (by kernel_rfl) (qKz n) [] (fun _=>(by kernel_rfl)) fun _=>(by kernel_rfl)
def qNf:Sg:=⟨18,[aL],[],⟨aB,[],[]⟩⟩
def qEG (n:Nat) (v:RW×Int):Tr ((RW×Int)⊕((Bool)⊕(Unit))):=(.ask ((decide (v.2<(v.1.length:Int)))) (.ask (decide (0≤v.2∧v.2<v.1.length)) (.opt (v.1[(v.2).toNat]?) fun e22=>(.ask (decide (e22.length=5)) (.opt (zE .i64 e22 0) fun y23=>(.opt (zE .i64 e22 1) fun y24=>(.opt (zE .i64 e22 2) fun y25=>(.opt (zh e22 3) fun y26=>(.opt (zE .i64 e22 4) fun y27=>(.ask ((y23==(1:Int))) (.opt (qy n y24 y25) fun r28=>(.ask ((!r28)) (.done (.inr (.inl (false)))) (.ask ((y27 !=(0:Int))) (.done (.inr (.inl (false)))) (.opt (qBR n y26) fun r29=>(.ask ((!r29)) (.done (.inr (.inl (false)))) (.done (.inl (v.1,(IntKind.i64.wrap (v.2+(1:Int))))))))))) (.ask ((y23==(2:Int))) (.opt (qCo n y26) fun r30=>(.opt (qy n y24 y25) fun r31=>(.ask ((!r31)) (.done (.inr (.inl (false)))) (.ask ((y27 !=(0:Int))) (.done (.inr (.inl (false)))) (.ask ((!r30.2)) (.done (.inr (.inl (false)))) (.ask ((!(r30.1.toList==y26.toList))) (.done (.inr (.inl (false)))) (.done (.inl (v.1,(IntKind.i64.wrap (v.2+(1:Int)))))))))))) (.ask ((y23==(3:Int))) (.ask ((!((y24==(0:Int))&&((y25==(0:Int))&&true)))) (.done (.inr (.inl (false)))) (.opt (qAb n y27 (1:Int) (IntKind.i64.wrap ((IntKind.i64.wrap ((v.1.length:Int)-(1:Int)))-v.2))) fun r32=>(.ask ((!r32)) (.done (.inr (.inl (false)))) (.opt (qBR n y26) fun r33=>(.ask ((!r33)) (.done (.inr (.inl (false)))) (.done (.inl (v.1,(IntKind.i64.wrap (v.2+(1:Int))))))))))) (.ask ((y23==(4:Int))) (.ask ((!((y24==(0:Int))&&((y25==(0:Int))&&true)))) (.done (.inr (.inl (false)))) (.opt (qAb n y27 (1:Int) v.2) fun r34=>(.ask ((!r34)) (.done (.inr (.inl (false)))) (.opt (qBR n y26) fun r35=>(.ask ((!r35)) (.done (.inr (.inl (false)))) (.done (.inl (v.1,(IntKind.i64.wrap (v.2+(1:Int))))))))))) (.ask ((y23==(5:Int))) (.ask ((!((y24==(0:Int))&&((y25==(0:Int))&&true)))) (.done (.inr (.inl (false)))) (.ask ((y27 !=(0:Int))) (.done (.inr (.inl (false)))) (.opt (qBR n y26) fun r36=>(.ask ((!r36)) (.done (.inr (.inl (false)))) (.done (.inl (v.1,(IntKind.i64.wrap (v.2+(1:Int)))))))))) (.done (.inr (.inl (false)))))))))))))) .fail)) .fail) (.done (.inr (.inr (())))))
def qFp (n:Nat) (x0:RW):Tr (Bool):=(.ask ((decide ((x0.length:Int)>(30:Int)))) (.done false) (.opt (zC (qEG n) n (x0,(0:Int))) fun r37=>(.alt r37 (fun r38=>(.done r38)) (fun r39=>(.done true)))))
def qFq:Nat→RW→Option (Bool)
 |0,_=>none
 |n+1,x0=>(qFp n x0).run
abbrev qIw (n:Nat):List (Ent (Rn n)):= [en (qDg n),en (qKO n),en (qIK n),en (qDN n)]
def qK0 (n:Nat):LEnt (KB 18) (Rn n) n:=lok (zX 18) 29 ⟨⟨[(0,aL),(3,aI)],[],[]⟩,[(.ret,⟨[(2,aB)],[],[]⟩),(.exit 0,⟨[],[],[]⟩)]⟩ (qEG n) (qIw n) [] fun _=>(by kernel_rfl)
theorem qMs:∀n,Ok (Rn n) qNf (qFq n)
 |0=>ok0 fun _=>rfl
 |n+1=>stO (T:=qFp n) (by kernel_rfl) (qIw n) [qK0 n] (fun _=>(by kernel_rfl)) fun _=>(by kernel_rfl)
def qLo:Sg:=⟨22,[aL],[],⟨aS,[],[]⟩⟩
def qDZ (n:Nat) (v:RW×BA×Int):Tr ((RW×BA×Int)⊕((BA))):=(.ask ((decide (v.2.2<(v.1.length:Int)))) (.ask (decide (0≤v.2.2∧v.2.2<v.1.length)) (.opt (v.1[(v.2.2).toNat]?) fun e41=>(.ask (decide (e41.length=5)) (.opt (zE .i64 e41 0) fun y42=>(.opt (zE .i64 e41 1) fun y43=>(.opt (zE .i64 e41 2) fun y44=>(.opt (zh e41 3) fun y45=>(.opt (zE .i64 e41 4) fun y46=>(.opt (qA1 n y43 y44 false false) fun r47=>(.ask ((y42==(1:Int))) (.ask (decide (v.2.1.size+(⟨#[115,101,116,32]⟩:BA).size≤9223372036854775807)) (.ask (decide ((v.2.1++(⟨#[115,101,116,32]⟩:BA)).size+r47.size≤9223372036854775807)) (.ask (decide (((v.2.1++(⟨#[115,101,116,32]⟩:BA))++r47).size+(⟨#[32]⟩:BA).size≤9223372036854775807)) (.ask (decide ((((v.2.1++(⟨#[115,101,116,32]⟩:BA))++r47)++(⟨#[32]⟩:BA)).size+y45.size≤9223372036854775807)) (.ask (decide (((((v.2.1++(⟨#[115,101,116,32]⟩:BA))++r47)++(⟨#[32]⟩:BA))++y45).size+(⟨#[10]⟩:BA).size≤9223372036854775807)) (.done (.inl (v.1,(((((v.2.1++(⟨#[115,101,116,32]⟩:BA))++r47)++(⟨#[32]⟩:BA))++y45)++(⟨#[10]⟩:BA)),(IntKind.i64.wrap (v.2.2+(1:Int)))))) .fail) .fail) .fail) .fail) .fail) (.ask ((y42==(2:Int))) (.ask (decide (v.2.1.size+(⟨#[112,117,116,32]⟩:BA).size≤9223372036854775807)) (.ask (decide ((v.2.1++(⟨#[112,117,116,32]⟩:BA)).size+r47.size≤9223372036854775807)) (.ask (decide (((v.2.1++(⟨#[112,117,116,32]⟩:BA))++r47).size+(⟨#[32]⟩:BA).size≤9223372036854775807)) (.ask (decide ((((v.2.1++(⟨#[112,117,116,32]⟩:BA))++r47)++(⟨#[32]⟩:BA)).size+y45.size≤9223372036854775807)) (.ask (decide (((((v.2.1++(⟨#[112,117,116,32]⟩:BA))++r47)++(⟨#[32]⟩:BA))++y45).size+(⟨#[10]⟩:BA).size≤9223372036854775807)) (.done (.inl (v.1,(((((v.2.1++(⟨#[112,117,116,32]⟩:BA))++r47)++(⟨#[32]⟩:BA))++y45)++(⟨#[10]⟩:BA)),(IntKind.i64.wrap (v.2.2+(1:Int)))))) .fail) .fail) .fail) .fail) .fail) (.ask ((y42==(3:Int))) (.ask (decide (v.2.1.size+(⟨#[117,110,108,101,115,115,32]⟩:BA).size≤9223372036854775807)) (.opt (qAN n y46) fun r48=>(.ask (decide ((v.2.1++(⟨#[117,110,108,101,115,115,32]⟩:BA)).size+r48.size≤9223372036854775807)) (.ask (decide (((v.2.1++(⟨#[117,110,108,101,115,115,32]⟩:BA))++r48).size+(⟨#[32]⟩:BA).size≤9223372036854775807)) (.ask (decide ((((v.2.1++(⟨#[117,110,108,101,115,115,32]⟩:BA))++r48)++(⟨#[32]⟩:BA)).size+y45.size≤9223372036854775807)) (.ask (decide (((((v.2.1++(⟨#[117,110,108,101,115,115,32]⟩:BA))++r48)++(⟨#[32]⟩:BA))++y45).size+(⟨#[10]⟩:BA).size≤9223372036854775807)) (.done (.inl (v.1,(((((v.2.1++(⟨#[117,110,108,101,115,115,32]⟩:BA))++r48)++(⟨#[32]⟩:BA))++y45)++(⟨#[10]⟩:BA)),(IntKind.i64.wrap (v.2.2+(1:Int)))))) .fail) .fail) .fail) .fail)) .fail) (.ask ((y42==(4:Int))) (.ask (decide (v.2.1.size+(⟨#[119,104,105,108,101,32]⟩:BA).size≤9223372036854775807)) (.opt (qAN n y46) fun r49=>(.ask (decide ((v.2.1++(⟨#[119,104,105,108,101,32]⟩:BA)).size+r49.size≤9223372036854775807)) (.ask (decide (((v.2.1++(⟨#[119,104,105,108,101,32]⟩:BA))++r49).size+(⟨#[32]⟩:BA).size≤9223372036854775807)) (.ask (decide ((((v.2.1++(⟨#[119,104,105,108,101,32]⟩:BA))++r49)++(⟨#[32]⟩:BA)).size+y45.size≤9223372036854775807)) (.ask (decide (((((v.2.1++(⟨#[119,104,105,108,101,32]⟩:BA))++r49)++(⟨#[32]⟩:BA))++y45).size+(⟨#[10]⟩:BA).size≤9223372036854775807)) (.done (.inl (v.1,(((((v.2.1++(⟨#[119,104,105,108,101,32]⟩:BA))++r49)++(⟨#[32]⟩:BA))++y45)++(⟨#[10]⟩:BA)),(IntKind.i64.wrap (v.2.2+(1:Int)))))) .fail) .fail) .fail) .fail)) .fail) (.ask ((y42==(5:Int))) (.ask (decide (v.2.1.size+(⟨#[97,98,111,114,116,32]⟩:BA).size≤9223372036854775807)) (.ask (decide ((v.2.1++(⟨#[97,98,111,114,116,32]⟩:BA)).size+y45.size≤9223372036854775807)) (.ask (decide (((v.2.1++(⟨#[97,98,111,114,116,32]⟩:BA))++y45).size+(⟨#[10]⟩:BA).size≤9223372036854775807)) (.done (.inl (v.1,(((v.2.1++(⟨#[97,98,111,114,116,32]⟩:BA))++y45)++(⟨#[10]⟩:BA)),(IntKind.i64.wrap (v.2.2+(1:Int)))))) .fail) .fail) .fail) (.ask (decide (v.2.1.size+(⟨#[10]⟩:BA).size≤9223372036854775807)) (.done (.inl (v.1,(v.2.1++(⟨#[10]⟩:BA)),(IntKind.i64.wrap (v.2.2+(1:Int)))))) .fail)))))))))))) .fail)) .fail) (.done (.inr (v.2.1))))
def qEd (n:Nat) (x0:RW):Tr (BA):=(.opt (qFq n x0) fun r40=>(.ask ((!r40)) (.done (⟨#[]⟩:BA)) (.opt (zC (qDZ n) n (x0,(⟨#[]⟩:BA),(0:Int))) fun r50=>(.done r50))))
def qEe:Nat→RW→Option (BA)
 |0,_=>none
 |n+1,x0=>(qEd n x0).run
abbrev qHM (n:Nat):List (Ent (Rn n)):= [en (qMs n),en (qGW n),en (qDh n)]
def qJm (n:Nat):LEnt (KB 22) (Rn n) n:=lok (zX 22) 61 ⟨⟨[(0,aL),(3,aS),(4,aI)],[],[]⟩,[(.exit 0,⟨[(3,aS)],[],[]⟩)]⟩ (qDZ n) (qHM n) [] fun _=>(by kernel_rfl)
theorem qK1:∀n,Ok (Rn n) qLo (qEe n)
 |0=>ok0 fun _=>rfl
 |n+1=>stO (T:=qEd n) (by kernel_rfl) (qHM n) [qJm n] (fun _=>(by kernel_rfl)) fun _=>(by kernel_rfl)
def qOZ:Sg:=⟨67,[aI,aI,aI],[],⟨aB,[],[]⟩⟩
def qGx (n:Nat) (x0 x1 x2:Int):Tr (Bool):=(.ask ((decide (x0≥x1))) (.done (decide (x0≤x2))) (.done false))
def qAD:Nat→Int→Int→Int→Option (Bool)
 |0,_,_,_=>none
 |n+1,x0,x1,x2=>(qGx n x0 x1 x2).run
theorem qCp:∀n,Ok (Rn n) qOZ (qAD n)
 |0=>ok0 fun _=>rfl
 |n+1=>stO (T:=qGx n) (by kernel_rfl) [] [] (fun _=>(by kernel_rfl)) fun _=>(by kernel_rfl)
def qPK:Sg:=⟨89,[(.agg [qI,qI])],[],⟨aB,[],[]⟩⟩
def qHk (n:Nat) (x0 x1:Int):Tr (Bool):=(.opt (qAD n x0 (1:Int) (52:Int)) fun r59=>(.ask (r59) (.opt (qAD n x1 (1:Int) (99:Int)) fun r60=>(.done r60)) (.done false)))
def qBS:Nat→Int→Int→Option (Bool)
 |0,_,_=>none
 |n+1,x0,x1=>(qHk n x0 x1).run
abbrev qPL (n:Nat):List (Ent (Rn n)):= [en (qCp n)]
theorem qEw:∀n,Ok (Rn n) qPK (qBS n)
 |0=>ok0 fun _=>rfl
 |n+1=>stO (T:=qHk n) (by kernel_rfl) (qPL n) [] (fun _=>(by kernel_rfl)) fun _=>(by kernel_rfl)
def qOa:Sg:=⟨158,[aS,aI],[],⟨aB,[],[]⟩⟩
def qBe (n:Nat) (v:BA×Int×Int×Int):Tr ((BA×Int×Int×Int)⊕((Bool)⊕(BA×Int))):=(.ask ((decide (v.2.2.2<v.2.2.1))) (.ask (decide (0≤v.2.2.2)) (.opt (v.1.toList[(v.2.2.2).toNat]?) fun c62=>(.ask ((decide ((c62.toNat:Int)<(32:Int)))) (.done (.inr (.inl (false)))) (.ask (decide (0≤v.2.2.2)) (.opt (v.1.toList[(v.2.2.2).toNat]?) fun c63=>(.ask ((decide ((c63.toNat:Int)>(126:Int)))) (.done (.inr (.inl (false)))) (.done (.inl (v.1,v.2.1,v.2.2.1,(IntKind.i64.wrap (v.2.2.2+(1:Int)))))))) .fail))) .fail) (.done (.inr (.inr ((v.1,v.2.1))))))
def qGy (n:Nat) (x0:BA) (x1:Int):Tr (Bool):=(.opt (zC (qBe n) n (x0,x1,(x0.size:Int),(0:Int))) fun r64=>(.alt r64 (fun r65=>(.done r65)) (fun r66=>(.done (decide ((r66.1.size:Int)≤r66.2))))))
def qCY:Nat→BA→Int→Option (Bool)
 |0,_,_=>none
 |n+1,x0,x1=>(qGy n x0 x1).run
def qLp (n:Nat):LEnt (KB 158) (Rn n) n:=lok (zX 158) 13 ⟨⟨[(0,aS),(1,aI),(7,aI),(8,aI)],[],[]⟩,[(.ret,⟨[(4,aB)],[],[]⟩),(.exit 0,⟨[(0,aS),(1,aI)],[],[]⟩)]⟩ (qBe n) [] [] fun _=>(by kernel_rfl)
theorem qFr:∀n,Ok (Rn n) qOa (qCY n)
 |0=>ok0 fun _=>rfl
 |n+1=>stO (T:=qGy n) (by kernel_rfl) [] [qLp n] (fun _=>(by kernel_rfl)) fun _=>(by kernel_rfl)
def qFL:Sg:=⟨118,[aS,aS],[],⟨(.tup [(false,[qS]),(false,[qB])]),[],[]⟩⟩
def qAC:Nat→BA→BA→Option ((BA×Bool))
 |0,_,_=>none
 |n+1,x0,x1=>za x0 x1
theorem qCN:∀n,Ok (Rn n) qFL (qAC n)
 |0=>ok0 fun _=>rfl
 |n+1=>stL zAH (by kernel_rfl) (fun _ _=>rfl) (fun a r e=>congrArg (Option.map fun r=>(qFL.Of r).v) e) rfl rfl rfl
def qFs:Sg:=⟨197,[aS,aS],[],⟨aS,[],[]⟩⟩
def qBE:Nat→BA→BA→Option ((BA))
 |0,_,_=>none
 |n+1,x0,x1=>zQ x0 x1
theorem qDa:∀n,Ok (Rn n) qFs (qBE n)
 |0=>ok0 fun _=>rfl
 |n+1=>stL zAN (by kernel_rfl) (fun _ _=>rfl) (fun a r e=>congrArg (Option.map fun r=>(qFs.Of r).v) e) rfl rfl rfl
def qIx:Sg:=⟨160,[(.c (.ptr 0 0 0 0 0))],[[(0,⟨0,3,198,(.box [qS,(.own 0 1 1 0),qB])⟩),(1,⟨1,14,162,(.row [])⟩)]],⟨(.tup []),[[(0,⟨0,3,198,(.box [qS,(.own 0 1 1 0),qB])⟩),(1,⟨1,14,162,(.row [])⟩)]],[]⟩⟩
def qDC (n:Nat) (x0:BA) (x1:Nat) (x2:Bool) (x3:RW):Tr (BA×Nat×Bool×RW):=(.opt (qBE n x0 (⟨#[32]⟩:BA)) fun r70=>(.done (r70,x1,x2,x3)))
def qAs:Nat→BA→Nat→Bool→RW→Option (BA×Nat×Bool×RW)
 |0,_,_,_,_=>none
 |n+1,x0,x1,x2,x3=>(qDC n x0 x1 x2 x3).run
abbrev qIy (n:Nat):List (Ent (Rn n)):= [en (qDa n)]
theorem qCC:∀n,Ok (Rn n) qIx (qAs n)
 |0=>ok0 fun _=>rfl
 |n+1=>stO (T:=qDC n) (by kernel_rfl) (qIy n) [] (fun _=>(by kernel_rfl)) fun _=>(by kernel_rfl)
def qEH:Sg:=⟨190,[aS,aS],[],⟨aB,[],[]⟩⟩
def qAr (n:Nat) (x0 x1:BA):Tr (Bool):=(.ask ((decide ((x0.size:Int)≥(x1.size:Int)))) (.ask (decide (0≤(0:Int)∧(0:Int)≤(x1.size:Int)∧(x1.size:Int)≤x0.size)) (.done ((x0.extract ((0:Int)).toNat ((x1.size:Int)).toNat).toList==x1.toList)) .fail) (.done false))
def qz:Nat→BA→BA→Option (Bool)
 |0,_,_=>none
 |n+1,x0,x1=>(qAr n x0 x1).run
theorem qCF:∀n,Ok (Rn n) qEH (qz n)
 |0=>ok0 fun _=>rfl
 |n+1=>stO (T:=qAr n) (by kernel_rfl) [] [] (fun _=>(by kernel_rfl)) fun _=>(by kernel_rfl)
def qJn:Sg:=⟨204,[aS,aS],[],⟨aB,[],[]⟩⟩
def qBv (n:Nat) (x0 x1:BA):Tr (Bool):=(.opt (qz n x0 x1) fun r74=>(.done r74))
def qk:Nat→BA→BA→Option (Bool)
 |0,_,_=>none
 |n+1,x0,x1=>(qBv n x0 x1).run
abbrev qJo (n:Nat):List (Ent (Rn n)):= [en (qCF n)]
theorem qCO:∀n,Ok (Rn n) qJn (qk n)
 |0=>ok0 fun _=>rfl
 |n+1=>stO (T:=qBv n) (by kernel_rfl) (qJo n) [] (fun _=>(by kernel_rfl)) fun _=>(by kernel_rfl)
def qKP:Sg:=⟨192,[(.c (.ptr 0 0 0 0 0))],[[(0,⟨0,3,198,(.box [qS,(.own 0 1 1 0),qB])⟩),(1,⟨1,14,162,(.row [])⟩)]],⟨aS,[[(0,⟨0,3,198,(.box [qS,(.own 0 1 1 0),qB])⟩),(1,⟨1,14,162,(.row [])⟩)]],[]⟩⟩
def qCD (n:Nat) (v:Nat×Int×Int×RW×BA×Nat×Bool×RW):Tr ((Nat×Int×Int×RW×BA×Nat×Bool×RW)⊕((BA×BA×Nat×Bool×RW)⊕(BA×Nat×Bool×RW))):=(.ask ((decide (v.2.2.1<v.2.1))) (.ask (decide (v.1=v.2.2.2.1.length∧0≤v.2.2.1∧v.2.2.1<((v.1:Nat):Int))) (.opt (v.2.2.2.1[(v.2.2.1).toNat]?) fun e72=>(.opt (zh e72 0) fun y73=>(.opt (qk n v.2.2.2.2.1 y73) fun r74=>(.ask (r74) (.done (.inr (.inl ((y73,v.2.2.2.2.1,v.2.2.2.2.2.1,v.2.2.2.2.2.2.1,v.2.2.2.2.2.2.2))))) (.done (.inl (v.1,v.2.1,(IntKind.i64.wrap (v.2.2.1+(1:Int))),v.2.2.2.1,v.2.2.2.2.1,v.2.2.2.2.2.1,v.2.2.2.2.2.2.1,v.2.2.2.2.2.2.2))))))) .fail) (.done (.inr (.inr ((v.2.2.2.2.1,v.2.2.2.2.2.1,v.2.2.2.2.2.2.1,v.2.2.2.2.2.2.2))))))
def qFt (n:Nat) (x0:BA) (x1:Nat) (x2:Bool) (x3:RW):Tr (BA×BA×Nat×Bool×RW):=(.opt (qAs n x0 x1 x2 x3) fun r71=>(.opt (zC (qCD n) n ((15:Nat),(15:Int),(0:Int),([[(.s (⟨#[60,62]⟩:BA))],[(.s (⟨#[60,61]⟩:BA))],[(.s (⟨#[62,61]⟩:BA))],[(.s (⟨#[60]⟩:BA))],[(.s (⟨#[62]⟩:BA))],[(.s (⟨#[61]⟩:BA))],[(.s (⟨#[38]⟩:BA))],[(.s (⟨#[43]⟩:BA))],[(.s (⟨#[45]⟩:BA))],[(.s (⟨#[42]⟩:BA))],[(.s (⟨#[47]⟩:BA))],[(.s (⟨#[40]⟩:BA))],[(.s (⟨#[41]⟩:BA))],[(.s (⟨#[44]⟩:BA))],[(.s (⟨#[58]⟩:BA))]]:RW),r71.1,r71.2.1,r71.2.2.1,r71.2.2.2)) fun r75=>(.alt r75 (fun r76=>(.done (r76.1,r76.2.1,r76.2.2.1,r76.2.2.2.1,r76.2.2.2.2))) (fun r77=>(.done ((⟨#[]⟩:BA),r77.1,r77.2.1,r77.2.2.1,r77.2.2.2))))))
def qBf:Nat→BA→Nat→Bool→RW→Option (BA×BA×Nat×Bool×RW)
 |0,_,_,_,_=>none
 |n+1,x0,x1,x2,x3=>(qFt n x0 x1 x2 x3).run
abbrev qFu (n:Nat):List (Ent (Rn n)):= [en (qCC n),en (qCO n)]
def qIY (n:Nat):LEnt (KB 192) (Rn n) n:=lok (zX 192) 29 ⟨⟨[(0,(.c (.ptr 0 0 0 0 0))),(7,(.c (.own 1 448 0 0))),(8,aI),(9,aI)],[(448,⟨0,1,9,(.row [])⟩)],[[(0,⟨0,3,198,(.box [qS,(.own 0 1 1 0),qB])⟩),(1,⟨1,14,162,(.row [])⟩)]]⟩,[(.ret,⟨[(2,aS)],[],[[(0,⟨0,3,198,(.box [qS,(.own 0 1 1 0),qB])⟩),(1,⟨1,14,162,(.row [])⟩)]]⟩),(.exit 0,⟨[],[],[[(0,⟨0,3,198,(.box [qS,(.own 0 1 1 0),qB])⟩),(1,⟨1,14,162,(.row [])⟩)]]⟩)]⟩ (qCD n) (qFu n) [] fun _=>(by kernel_rfl)
theorem qFM:∀n,Ok (Rn n) qKP (qBf n)
 |0=>ok0 fun _=>rfl
 |n+1=>stO (T:=qFt n) (by kernel_rfl) (qFu n) [qIY n] (fun _=>(by kernel_rfl)) fun _=>(by kernel_rfl)
def qKQ:Sg:=⟨195,[(.c (.ptr 0 0 0 0 0)),aS],[[(0,⟨0,3,198,(.box [qS,(.own 0 1 1 0),qB])⟩),(1,⟨1,14,162,(.row [])⟩)]],⟨aB,[[(0,⟨0,3,198,(.box [qS,(.own 0 1 1 0),qB])⟩),(1,⟨1,14,162,(.row [])⟩)]],[]⟩⟩
def qFv (n:Nat) (x0 x1:BA) (x2:Nat) (x3:Bool) (x4:RW):Tr (Bool×BA×Nat×Bool×RW):=(.opt (qBf n x1 x2 x3 x4) fun r78=>(.ask ((!(r78.1.toList==x0.toList))) (.done (false,r78.2.1,r78.2.2.1,r78.2.2.2.1,r78.2.2.2.2)) (.ask (decide (0≤(x0.size:Int)∧(x0.size:Int)≤(r78.2.1.size:Int)∧(r78.2.1.size:Int)≤r78.2.1.size)) (.done (true,(r78.2.1.extract ((x0.size:Int)).toNat ((r78.2.1.size:Int)).toNat),r78.2.2.1,r78.2.2.2.1,r78.2.2.2.2)) .fail)))
def qm:Nat→BA→BA→Nat→Bool→RW→Option (Bool×BA×Nat×Bool×RW)
 |0,_,_,_,_,_=>none
 |n+1,x0,x1,x2,x3,x4=>(qFv n x0 x1 x2 x3 x4).run
abbrev qKR (n:Nat):List (Ent (Rn n)):= [en (qFM n)]
theorem qBw:∀n,Ok (Rn n) qKQ (qm n)
 |0=>ok0 fun _=>rfl
 |n+1=>stO (T:=qFv n) (by kernel_rfl) (qKR n) [] (fun _=>(by kernel_rfl)) fun _=>(by kernel_rfl)
def qK2:Sg:=⟨196,[(.c (.ptr 0 0 0 0 0)),(.agg [qI,qI,qI,qI,qS,qI,qI,qB,qB,qI,qI,qB,qB,qL])],[[(0,⟨0,3,198,(.box [qS,(.own 0 1 1 0),qB])⟩),(1,⟨1,14,162,(.row [])⟩)]],⟨aI,[[(0,⟨0,3,198,(.box [qS,(.own 0 1 1 0),qB])⟩),(1,⟨1,14,162,(.row [])⟩)]],[]⟩⟩
def qGX (n:Nat) (x0 x1 x2 x3:Int) (x4:BA) (x5 x6:Int) (x7 x8:Bool) (x9 x10:Int) (x11 x12:Bool) (x13:RW) (x14:BA) (x15:Nat) (x16:Bool) (x17:RW):Tr (Int×BA×Nat×Bool×RW):=(.ask (x16) (.ask (false) (.ask (decide (1=([[(.i .i64 x0),(.i .i64 x1),(.i .i64 x2),(.i .i64 x3),(.s x4),(.i .i64 x5),(.i .i64 x6),(.b x7),(.b x8),(.i .i64 x9),(.i .i64 x10),(.b x11),(.b x12),(.ls x13)]]:RW).length)) (.ask (decide (x15=x17.length∧0<14∧0<120∧(x15+([[(.i .i64 x0),(.i .i64 x1),(.i .i64 x2),(.i .i64 x3),(.s x4),(.i .i64 x5),(.i .i64 x6),(.b x7),(.b x8),(.i .i64 x9),(.i .i64 x10),(.b x11),(.b x12),(.ls x13)]]:RW).length)*120≤140737488355328∧([[(.i .i64 x0),(.i .i64 x1),(.i .i64 x2),(.i .i64 x3),(.s x4),(.i .i64 x5),(.i .i64 x6),(.b x7),(.b x8),(.i .i64 x9),(.i .i64 x10),(.b x11),(.b x12),(.ls x13)]]:RW).all (fun e=>e.length==14)=true)) (.done ((IntKind.i64.wrap ((((x15+1):Nat):Int)-(1:Int))),x14,(x15+1),true,(x17++([[(.i .i64 x0),(.i .i64 x1),(.i .i64 x2),(.i .i64 x3),(.s x4),(.i .i64 x5),(.i .i64 x6),(.b x7),(.b x8),(.i .i64 x9),(.i .i64 x10),(.b x11),(.b x12),(.ls x13)]]:RW)))) .fail) .fail) (.done ((IntKind.i64.wrap (((x15:Nat):Int)-(1:Int))),x14,x15,true,x17))) (.ask ((!(decide (((x15:Nat):Int)≥(60:Int))))) (.ask (decide (1=([[(.i .i64 x0),(.i .i64 x1),(.i .i64 x2),(.i .i64 x3),(.s x4),(.i .i64 x5),(.i .i64 x6),(.b x7),(.b x8),(.i .i64 x9),(.i .i64 x10),(.b x11),(.b x12),(.ls x13)]]:RW).length)) (.ask (decide (x15=x17.length∧0<14∧0<120∧(x15+([[(.i .i64 x0),(.i .i64 x1),(.i .i64 x2),(.i .i64 x3),(.s x4),(.i .i64 x5),(.i .i64 x6),(.b x7),(.b x8),(.i .i64 x9),(.i .i64 x10),(.b x11),(.b x12),(.ls x13)]]:RW).length)*120≤140737488355328∧([[(.i .i64 x0),(.i .i64 x1),(.i .i64 x2),(.i .i64 x3),(.s x4),(.i .i64 x5),(.i .i64 x6),(.b x7),(.b x8),(.i .i64 x9),(.i .i64 x10),(.b x11),(.b x12),(.ls x13)]]:RW).all (fun e=>e.length==14)=true)) (.done ((IntKind.i64.wrap ((((x15+1):Nat):Int)-(1:Int))),x14,(x15+1),(decide (((x15:Nat):Int)≥(60:Int))),(x17++([[(.i .i64 x0),(.i .i64 x1),(.i .i64 x2),(.i .i64 x3),(.s x4),(.i .i64 x5),(.i .i64 x6),(.b x7),(.b x8),(.i .i64 x9),(.i .i64 x10),(.b x11),(.b x12),(.ls x13)]]:RW)))) .fail) .fail) (.done ((IntKind.i64.wrap (((x15:Nat):Int)-(1:Int))),x14,x15,(decide (((x15:Nat):Int)≥(60:Int))),x17))))
def qn:Nat→Int→Int→Int→Int→BA→Int→Int→Bool→Bool→Int→Int→Bool→Bool→RW→BA→Nat→Bool→RW→Option (Int×BA×Nat×Bool×RW)
 |0,_,_,_,_,_,_,_,_,_,_,_,_,_,_,_,_,_,_=>none
 |n+1,x0,x1,x2,x3,x4,x5,x6,x7,x8,x9,x10,x11,x12,x13,x14,x15,x16,x17=>(qGX n x0 x1 x2 x3 x4 x5 x6 x7 x8 x9 x10 x11 x12 x13 x14 x15 x16 x17).run
theorem qB9:∀n,Ok (Rn n) qK2 (qn n)
 |0=>ok0 fun _=>rfl
 |n+1=>stO (T:=qGX n) (by kernel_rfl) [] [] (fun _=>(by kernel_rfl)) fun _=>(by kernel_rfl)
def qJ6:Sg:=⟨261,[aS,aS],[],⟨(.tup [(false,[qS]),(false,[qS]),(false,[qB])]),[],[]⟩⟩
def qGz:Nat→BA→BA→Option ((BA×BA×Bool))
 |0,_,_=>none
 |n+1,x0,x1=>zAe x0 x1
theorem qNg:∀n,Ok (Rn n) qJ6 (qGz n)
 |0=>ok0 fun _=>rfl
 |n+1=>stL zAy (by kernel_rfl) (fun _ _=>rfl) (fun a r e=>congrArg (Option.map fun r=>(qJ6.Of r).v) e) rfl rfl rfl
def qHl:Sg:=⟨244,[(.c (.ptr 0 0 0 0 0)),(.agg [qI,qI,qS])],[[(0,⟨0,3,198,(.box [qS,(.own 0 1 1 0),qB])⟩),(1,⟨1,14,162,(.row [])⟩)]],⟨aI,[[(0,⟨0,3,198,(.box [qS,(.own 0 1 1 0),qB])⟩),(1,⟨1,14,162,(.row [])⟩)]],[]⟩⟩
def qEI (n:Nat) (x0 x1:Int) (x2 x3:BA) (x4:Nat) (x5:Bool) (x6:RW):Tr (Int×BA×Nat×Bool×RW):=(.opt (qn n (1:Int) (0:Int) x0 x1 x2 (0:Int) (0:Int) false false (0:Int) (0:Int) false false ([]:RW) x3 x4 x5 x6) fun r89=>(.done (r89.1,r89.2.1,r89.2.2.1,r89.2.2.2.1,r89.2.2.2.2)))
def qi:Nat→Int→Int→BA→BA→Nat→Bool→RW→Option (Int×BA×Nat×Bool×RW)
 |0,_,_,_,_,_,_,_=>none
 |n+1,x0,x1,x2,x3,x4,x5,x6=>(qEI n x0 x1 x2 x3 x4 x5 x6).run
abbrev qHm (n:Nat):List (Ent (Rn n)):= [en (qB9 n)]
theorem qD2:∀n,Ok (Rn n) qHl (qi n)
 |0=>ok0 fun _=>rfl
 |n+1=>stO (T:=qEI n) (by kernel_rfl) (qHm n) [] (fun _=>(by kernel_rfl)) fun _=>(by kernel_rfl)
def qIz:Sg:=⟨243,[(.c (.ptr 0 0 0 0 0))],[[(0,⟨0,3,198,(.box [qS,(.own 0 1 1 0),qB])⟩),(1,⟨1,14,162,(.row [])⟩)]],⟨aI,[[(0,⟨0,3,198,(.box [qS,(.own 0 1 1 0),qB])⟩),(1,⟨1,14,162,(.row [])⟩)]],[]⟩⟩
def qCq (n:Nat) (v:BA×BA×BA×Nat×Bool×RW):Tr ((BA×BA×BA×Nat×Bool×RW)⊕((Int×BA×Nat×Bool×RW)⊕(BA×BA×BA×Nat×Bool×RW))):=(.opt (qGz n v.2.1 (⟨#[34]⟩:BA)) fun r84=>(.ask ((!r84.2.2)) (.done (.inr (.inl (((-1:Int),v.2.2.1,v.2.2.2.1,true,v.2.2.2.2.2))))) (.ask (decide (v.1.size+r84.1.size≤9223372036854775807)) (.opt (qk n r84.2.1 (⟨#[34]⟩:BA)) fun r85=>(.ask ((!r85)) (.done (.inr (.inr (((v.1++r84.1),r84.2.1,v.2.2.1,v.2.2.2.1,v.2.2.2.2.1,v.2.2.2.2.2))))) (.ask (decide ((v.1++r84.1).size+(⟨#[34]⟩:BA).size≤9223372036854775807)) (.ask (decide (0≤(1:Int)∧(1:Int)≤(r84.2.1.size:Int)∧(r84.2.1.size:Int)≤r84.2.1.size)) (.done (.inl (((v.1++r84.1)++(⟨#[34]⟩:BA)),(r84.2.1.extract ((1:Int)).toNat ((r84.2.1.size:Int)).toNat),v.2.2.1,v.2.2.2.1,v.2.2.2.2.1,v.2.2.2.2.2))) .fail) .fail))) .fail)))
def qEz (n:Nat) (x0:BA) (x1:Nat) (x2:Bool) (x3:RW):Tr (Int×BA×Nat×Bool×RW):=(.ask (decide (0≤(1:Int)∧(1:Int)≤(x0.size:Int)∧(x0.size:Int)≤x0.size)) (.opt (zC (qCq n) n ((⟨#[]⟩:BA),(x0.extract ((1:Int)).toNat ((x0.size:Int)).toNat),x0,x1,x2,x3)) fun r86=>(.alt r86 (fun r87=>(.done (r87.1,r87.2.1,r87.2.2.1,r87.2.2.2.1,r87.2.2.2.2))) (fun r88=>(.opt (qi n (2:Int) (0:Int) r88.1 r88.2.1 r88.2.2.2.1 r88.2.2.2.2.1 r88.2.2.2.2.2) fun r90=>(.done (r90.1,r90.2.1,r90.2.2.1,r90.2.2.2.1,r90.2.2.2.2)))))) .fail)
def qDD:Nat→BA→Nat→Bool→RW→Option (Int×BA×Nat×Bool×RW)
 |0,_,_,_,_=>none
 |n+1,x0,x1,x2,x3=>(qEz n x0 x1 x2 x3).run
abbrev qE0 (n:Nat):List (Ent (Rn n)):= [en (qNg n),en (qCO n),en (qD2 n)]
def qHN (n:Nat):LEnt (KB 243) (Rn n) n:=lok (zX 243) 14 ⟨⟨[(0,(.c (.ptr 0 0 0 0 0))),(3,aS),(4,aS)],[],[[(0,⟨0,3,198,(.box [qS,(.own 0 1 1 0),qB])⟩),(1,⟨1,14,162,(.row [])⟩)]]⟩,[(.ret,⟨[(2,aI)],[],[[(0,⟨0,3,198,(.box [qS,(.own 0 1 1 0),qB])⟩),(1,⟨1,14,162,(.row [])⟩)]]⟩),(.exit 0,⟨[(0,(.c (.ptr 0 0 0 0 0))),(3,aS),(4,aS)],[],[[(0,⟨0,3,198,(.box [qS,(.own 0 1 1 0),qB])⟩),(1,⟨1,14,162,(.row [])⟩)]]⟩)]⟩ (qCq n) (qE0 n) [] fun _=>(by kernel_rfl)
theorem qIZ:∀n,Ok (Rn n) qIz (qDD n)
 |0=>ok0 fun _=>rfl
 |n+1=>stO (T:=qEz n) (by kernel_rfl) (qE0 n) [qHN n] (fun _=>(by kernel_rfl)) fun _=>(by kernel_rfl)
def qLq:Sg:=⟨205,[aI],[],⟨aS,[],[]⟩⟩
def qEf (n:Nat) (x0:Int):Tr (BA):=(.ask (decide (6=([[(.s (⟨#[]⟩:BA))],[(.s (⟨#[35,68,73,86,33]⟩:BA))],[(.s (⟨#[35,84,89,80,69,33]⟩:BA))],[(.s (⟨#[35,82,69,70,33]⟩:BA))],[(.s (⟨#[35,79,86,69,82,33]⟩:BA))],[(.s (⟨#[35,67,89,67,76,69,33]⟩:BA))]]:RW).length∧0≤x0∧x0<((6:Nat):Int))) (.opt (([[(.s (⟨#[]⟩:BA))],[(.s (⟨#[35,68,73,86,33]⟩:BA))],[(.s (⟨#[35,84,89,80,69,33]⟩:BA))],[(.s (⟨#[35,82,69,70,33]⟩:BA))],[(.s (⟨#[35,79,86,69,82,33]⟩:BA))],[(.s (⟨#[35,67,89,67,76,69,33]⟩:BA))]]:RW)[(x0).toNat]?) fun e93=>(.opt (zh e93 0) fun y94=>(.done y94))) .fail)
def qAd:Nat→Int→Option (BA)
 |0,_=>none
 |n+1,x0=>(qEf n x0).run
theorem qEJ:∀n,Ok (Rn n) qLq (qAd n)
 |0=>ok0 fun _=>rfl
 |n+1=>stO (T:=qEf n) (by kernel_rfl) [] [] (fun _=>(by kernel_rfl)) fun _=>(by kernel_rfl)
def qPM:Sg:=⟨206,[aI],[],⟨(.agg [qI,qI,qS]),[],[]⟩⟩
def qHn (n:Nat) (x0:Int):Tr (Int×Int×BA):=(.done ((4:Int),x0,(⟨#[]⟩:BA)))
def qBl:Nat→Int→Option (Int×Int×BA)
 |0,_=>none
 |n+1,x0=>(qHn n x0).run
theorem qJ7:∀n,Ok (Rn n) qPM (qBl n)
 |0=>ok0 fun _=>rfl
 |n+1=>stO (T:=qHn n) (by kernel_rfl) [] [] (fun _=>(by kernel_rfl)) fun _=>(by kernel_rfl)
def qKS:Sg:=⟨245,[(.c (.ptr 0 0 0 0 0))],[[(0,⟨0,3,198,(.box [qS,(.own 0 1 1 0),qB])⟩),(1,⟨1,14,162,(.row [])⟩)]],⟨aS,[[(0,⟨0,3,198,(.box [qS,(.own 0 1 1 0),qB])⟩),(1,⟨1,14,162,(.row [])⟩)]],[]⟩⟩
def qFw (n:Nat) (x0:BA) (x1:Nat) (x2:Bool) (x3:RW):Tr (BA×BA×Nat×Bool×RW):=(.opt (qAs n x0 x1 x2 x3) fun r100=>(.opt (qBE n r100.1 (⟨#[65,66,67,68,69,70,71,72,73,74,75,76,77,78,79,80,81,82,83,84,85,86,87,88,89,90,48,49,50,51,52,53,54,55,56,57,36]⟩:BA)) fun r101=>(.ask (decide (0≤(0:Int)∧(0:Int)≤(IntKind.i64.wrap ((r100.1.size:Int)-(r101.size:Int)))∧(IntKind.i64.wrap ((r100.1.size:Int)-(r101.size:Int)))≤r100.1.size)) (.ask (decide (0≤(IntKind.i64.wrap ((r100.1.size:Int)-(r101.size:Int)))∧(IntKind.i64.wrap ((r100.1.size:Int)-(r101.size:Int)))≤(r100.1.size:Int)∧(r100.1.size:Int)≤r100.1.size)) (.done ((r100.1.extract ((0:Int)).toNat ((IntKind.i64.wrap ((r100.1.size:Int)-(r101.size:Int)))).toNat),(r100.1.extract ((IntKind.i64.wrap ((r100.1.size:Int)-(r101.size:Int)))).toNat ((r100.1.size:Int)).toNat),r100.2.1,r100.2.2.1,r100.2.2.2)) .fail) .fail)))
def qBF:Nat→BA→Nat→Bool→RW→Option (BA×BA×Nat×Bool×RW)
 |0,_,_,_,_=>none
 |n+1,x0,x1,x2,x3=>(qFw n x0 x1 x2 x3).run
abbrev qKT (n:Nat):List (Ent (Rn n)):= [en (qCC n),en (qDa n)]
theorem qFN:∀n,Ok (Rn n) qKS (qBF n)
 |0=>ok0 fun _=>rfl
 |n+1=>stO (T:=qFw n) (by kernel_rfl) (qKT n) [] (fun _=>(by kernel_rfl)) fun _=>(by kernel_rfl)
def qNh:Sg:=⟨170,[(.agg [qI,qI,qS])],[],⟨aB,[],[]⟩⟩
def qFx (n:Nat) (x0 x1:Int) (x2:BA):Tr (Bool):=(.ask ((x0==(2:Int))) (.ask ((x1==(0:Int))) (.opt (qCY n x2 (200:Int)) fun r104=>(.done r104)) (.done false)) (.ask ((!(x2.toList==(⟨#[]⟩:BA).toList))) (.done false) (.ask ((x0==(0:Int))) (.done (x1==(0:Int))) (.ask ((x0==(1:Int))) (.opt (qAD n x1 (-1000000000000000:Int) (1000000000000000:Int)) fun r105=>(.done r105)) (.ask ((x0==(3:Int))) (.opt (qAD n x1 (0:Int) (1:Int)) fun r106=>(.done r106)) (.ask ((x0==(4:Int))) (.opt (qAD n x1 (1:Int) (5:Int)) fun r107=>(.done r107)) (.done false)))))))
def qAO:Nat→Int→Int→BA→Option (Bool)
 |0,_,_,_=>none
 |n+1,x0,x1,x2=>(qFx n x0 x1 x2).run
abbrev qNi (n:Nat):List (Ent (Rn n)):= [en (qFr n),en (qCp n)]
theorem qFF:∀n,Ok (Rn n) qNh (qAO n)
 |0=>ok0 fun _=>rfl
 |n+1=>stO (T:=qFx n) (by kernel_rfl) (qNi n) [] (fun _=>(by kernel_rfl)) fun _=>(by kernel_rfl)
def qFO:Sg:=⟨144,[aI,aI],[],⟨aS,[],[]⟩⟩
def qDb:Nat→Int→Int→Option ((BA))
 |0,_,_=>none
 |n+1,x0,x1=>zi x0 x1
theorem qI0:∀n,Ok (Rn n) qFO (qDb n)
 |0=>ok0 fun _=>rfl
 |n+1=>stL zAG (by kernel_rfl) (fun _ _=>rfl) (fun a r e=>congrArg (Option.map fun r=>(qFO.Of r).v) e) rfl rfl rfl
def qNj:Sg:=⟨103,[aI],[],⟨aS,[],[]⟩⟩
def qFy (n:Nat) (x0:Int):Tr (BA):=(.opt (qDb n x0 (10:Int)) fun r109=>(.done r109))
def qAe:Nat→Int→Option (BA)
 |0,_=>none
 |n+1,x0=>(qFy n x0).run
abbrev qNk (n:Nat):List (Ent (Rn n)):= [en (qI0 n)]
theorem qDo:∀n,Ok (Rn n) qNj (qAe n)
 |0=>ok0 fun _=>rfl
 |n+1=>stO (T:=qFy n) (by kernel_rfl) (qNk n) [] (fun _=>(by kernel_rfl)) fun _=>(by kernel_rfl)
def qLr:Sg:=⟨207,[(.agg [qI,qI,qS])],[],⟨aS,[],[]⟩⟩
def qBg (n:Nat) (x0 x1:Int) (x2:BA):Tr (BA):=(.ask ((x0==(1:Int))) (.opt (qAe n x1) fun r110=>(.done r110)) (.ask ((x0==(2:Int))) (.ask (decide ((⟨#[39]⟩:BA).size+x2.size≤9223372036854775807)) (.done ((⟨#[39]⟩:BA)++x2)) .fail) (.ask ((x0==(3:Int))) (.ask (decide (2=([[(.s (⟨#[70,65,76,83,69]⟩:BA))],[(.s (⟨#[84,82,85,69]⟩:BA))]]:RW).length∧0≤x1∧x1<((2:Nat):Int))) (.opt (([[(.s (⟨#[70,65,76,83,69]⟩:BA))],[(.s (⟨#[84,82,85,69]⟩:BA))]]:RW)[(x1).toNat]?) fun e111=>(.opt (zh e111 0) fun y112=>(.done y112))) .fail) (.ask ((x0==(4:Int))) (.opt (qAd n x1) fun r113=>(.done r113)) (.done (⟨#[]⟩:BA))))))
def qo:Nat→Int→Int→BA→Option (BA)
 |0,_,_,_=>none
 |n+1,x0,x1,x2=>(qBg n x0 x1 x2).run
abbrev qLs (n:Nat):List (Ent (Rn n)):= [en (qDo n),en (qEJ n)]
theorem qGY:∀n,Ok (Rn n) qLr (qo n)
 |0=>ok0 fun _=>rfl
 |n+1=>stO (T:=qBg n) (by kernel_rfl) (qLs n) [] (fun _=>(by kernel_rfl)) fun _=>(by kernel_rfl)
def qPN:Sg:=⟨203,[aB],[],⟨(.agg [qI,qI,qS]),[],[]⟩⟩
def qHo (n:Nat) (x0:Bool):Tr (Int×Int×BA):=(.ask (x0) (.done ((3:Int),(1:Int),(⟨#[]⟩:BA))) (.done ((3:Int),(0:Int),(⟨#[]⟩:BA))))
def qEK:Nat→Bool→Option (Int×Int×BA)
 |0,_=>none
 |n+1,x0=>(qHo n x0).run
theorem qOb:∀n,Ok (Rn n) qPN (qEK n)
 |0=>ok0 fun _=>rfl
 |n+1=>stO (T:=qHo n) (by kernel_rfl) [] [] (fun _=>(by kernel_rfl)) fun _=>(by kernel_rfl)
def qKU:Sg2:=⟨168,[aS,aI,aI],(.tup [(false,[qI]),(false,[(.p .nif)])]),(.tup [(false,[qI]),(false,[(.p .ifc)])])⟩
def qAt:Nat→BA→Int→Int→Option ((Int)⊕(Int))
 |0,_,_,_=>none
 |n+1,x0,x1,x2=>zK x0 x1 x2
theorem qDc:∀n,Ok2 (Rn n) qKU (qAt n)
 |0=>fun a r e=>by cases e
 |n+1=>zLO zAM (by kernel_rfl) (fun _ _=>rfl) fun a r e=>by
  rcases r with r|r
  ·exact congrArg (Option.map zAQ) e
  ·exact congrArg (Option.map zAQ) e
def qOc:Sg:=⟨171,[aI],[],⟨(.agg [qI,qI,qS]),[],[]⟩⟩
def qG0 (n:Nat) (x0:Int):Tr (Int×Int×BA):=(.done ((1:Int),x0,(⟨#[]⟩:BA)))
def qCZ:Nat→Int→Option (Int×Int×BA)
 |0,_=>none
 |n+1,x0=>(qG0 n x0).run
theorem qI1:∀n,Ok (Rn n) qOc (qCZ n)
 |0=>ok0 fun _=>rfl
 |n+1=>stO (T:=qG0 n) (by kernel_rfl) [] [] (fun _=>(by kernel_rfl)) fun _=>(by kernel_rfl)
def qLt:Sg:=⟨172,[aS],[],⟨(.tup [(true,[qI,qI,qS]),(false,[qB])]),[],[]⟩⟩
def qA6 (n:Nat) (v:BA×Int×Int×Int×BA×Int×Int×BA):Tr ((BA×Int×Int×Int×BA×Int×Int×BA)⊕((BA×Int×Int×BA×Int×Int×BA))):=(.ask ((decide (v.2.1≤(5:Int)))) (.opt (qAd n v.2.1) fun r122=>(.ask ((r122.toList==v.1.toList)) (.opt (qBl n v.2.1) fun r123=>(.done (.inl (v.1,(IntKind.i64.wrap (v.2.1+(1:Int))),v.2.2.1,v.2.2.2.1,v.2.2.2.2.1,r123.1,r123.2.1,r123.2.2)))) (.done (.inl (v.1,(IntKind.i64.wrap (v.2.1+(1:Int))),v.2.2.1,v.2.2.2.1,v.2.2.2.2.1,v.2.2.2.2.2.1,v.2.2.2.2.2.2.1,v.2.2.2.2.2.2.2))))) (.done (.inr ((v.1,v.2.2.1,v.2.2.2.1,v.2.2.2.2.1,v.2.2.2.2.2.1,v.2.2.2.2.2.2.1,v.2.2.2.2.2.2.2)))))
def qBH (n:Nat) (x0:BA):Tr (Int×Int×BA×Bool):=(.opt (qAC n x0 (⟨#[39]⟩:BA)) fun r103=>(.ask (r103.2) (.opt (qAO n (2:Int) (0:Int) r103.1) fun r108=>(.ask ((!r108)) (.done ((0:Int),(0:Int),(⟨#[]⟩:BA),false)) (.opt (qo n (2:Int) (0:Int) r103.1) fun r114=>(.ask ((!(r114.toList==x0.toList))) (.done ((0:Int),(0:Int),(⟨#[]⟩:BA),false)) (.done ((2:Int),(0:Int),r103.1,true)))))) (.ask ((x0.toList==(⟨#[70,65,76,83,69]⟩:BA).toList)) (.opt (qEK n (x0.toList==(⟨#[84,82,85,69]⟩:BA).toList)) fun r115=>(.opt (qAO n r115.1 r115.2.1 r115.2.2) fun r116=>(.ask ((!r116)) (.done ((0:Int),(0:Int),(⟨#[]⟩:BA),false)) (.opt (qo n r115.1 r115.2.1 r115.2.2) fun r117=>(.ask ((!(r117.toList==x0.toList))) (.done ((0:Int),(0:Int),(⟨#[]⟩:BA),false)) (.done (r115.1,r115.2.1,r115.2.2,true))))))) (.ask ((x0.toList==(⟨#[84,82,85,69]⟩:BA).toList)) (.opt (qEK n (x0.toList==(⟨#[84,82,85,69]⟩:BA).toList)) fun r118=>(.opt (qAO n r118.1 r118.2.1 r118.2.2) fun r119=>(.ask ((!r119)) (.done ((0:Int),(0:Int),(⟨#[]⟩:BA),false)) (.opt (qo n r118.1 r118.2.1 r118.2.2) fun r120=>(.ask ((!(r120.toList==x0.toList))) (.done ((0:Int),(0:Int),(⟨#[]⟩:BA),false)) (.done (r118.1,r118.2.1,r118.2.2,true))))))) (.opt (qk n x0 (⟨#[35]⟩:BA)) fun r121=>(.ask (r121) (.opt (zC (qA6 n) n (x0,(1:Int),(0:Int),(0:Int),(⟨#[]⟩:BA),(0:Int),(0:Int),(⟨#[]⟩:BA))) fun r124=>(.opt (qAO n r124.2.2.2.2.1 r124.2.2.2.2.2.1 r124.2.2.2.2.2.2) fun r125=>(.ask ((!r125)) (.done ((0:Int),(0:Int),(⟨#[]⟩:BA),false)) (.opt (qo n r124.2.2.2.2.1 r124.2.2.2.2.2.1 r124.2.2.2.2.2.2) fun r126=>(.ask ((!(r126.toList==r124.1.toList))) (.done ((0:Int),(0:Int),(⟨#[]⟩:BA),false)) (.done (r124.2.2.2.2.1,r124.2.2.2.2.2.1,r124.2.2.2.2.2.2,true))))))) (.ask ((!(x0.toList==(⟨#[]⟩:BA).toList))) (.opt (qAt n x0 (10:Int) (64:Int)) fun r127=>(.alt r127 (fun r128=>(.opt (qCZ n r128) fun r130=>(.opt (qAO n r130.1 r130.2.1 r130.2.2) fun r131=>(.ask ((!r131)) (.done ((0:Int),(0:Int),(⟨#[]⟩:BA),false)) (.opt (qo n r130.1 r130.2.1 r130.2.2) fun r132=>(.ask ((!(r132.toList==x0.toList))) (.done ((0:Int),(0:Int),(⟨#[]⟩:BA),false)) (.done (r130.1,r130.2.1,r130.2.2,true)))))))) (fun r129=>(.opt (qCZ n r129) fun r133=>(.opt (qAO n r133.1 r133.2.1 r133.2.2) fun r134=>(.ask ((!r134)) (.done ((0:Int),(0:Int),(⟨#[]⟩:BA),false)) (.opt (qo n r133.1 r133.2.1 r133.2.2) fun r135=>(.ask ((!(r135.toList==x0.toList))) (.done ((0:Int),(0:Int),(⟨#[]⟩:BA),false)) (.done (r133.1,r133.2.1,r133.2.2,true)))))))))) (.opt (qAO n (0:Int) (0:Int) (⟨#[]⟩:BA)) fun r136=>(.ask ((!r136)) (.done ((0:Int),(0:Int),(⟨#[]⟩:BA),false)) (.opt (qo n (0:Int) (0:Int) (⟨#[]⟩:BA)) fun r137=>(.ask ((!(r137.toList==x0.toList))) (.done ((0:Int),(0:Int),(⟨#[]⟩:BA),false)) (.done ((0:Int),(0:Int),(⟨#[]⟩:BA),true)))))))))))))
def qe:Nat→BA→Option (Int×Int×BA×Bool)
 |0,_=>none
 |n+1,x0=>(qBH n x0).run
abbrev qHO (n:Nat):List (Ent (Rn n)):= [en (qCN n),en (qFF n),en (qGY n),en (qOb n),en (qCO n),en (qEJ n),en (qJ7 n),en2 (qDc n),en (qI1 n)]
def qIa (n:Nat):LEnt (KB 172) (Rn n) n:=lok (zX 172) 3837 ⟨⟨[(0,aS),(2,(.c (.ptr 0 128 0 0 0))),(4,(.c (.ptr 0 256 0 0 0))),(7,aI)],[(128,⟨0,3,128,(.box [qI,qI,qS])⟩),(256,⟨0,3,128,(.box [qI,qI,qS])⟩)],[]⟩,[(.exit 1,⟨[(0,aS),(2,(.c (.ptr 0 128 0 0 0))),(4,(.c (.ptr 0 256 0 0 0)))],[(128,⟨0,3,128,(.box [qI,qI,qS])⟩),(256,⟨0,3,128,(.box [qI,qI,qS])⟩)],[]⟩)]⟩ (qA6 n) (qHO n) [] fun _=>(by kernel_rfl)
theorem qGZ:∀n,Ok (Rn n) qLt (qe n)
 |0=>ok0 fun _=>rfl
 |n+1=>stO (T:=qBH n) (by kernel_rfl) (qHO n) [qIa n] (fun _=>(by kernel_rfl)) fun _=>(by kernel_rfl)
def qNl:Sg:=⟨184,[aI],[],⟨aS,[],[]⟩⟩
def qDE (n:Nat) (x0:Int):Tr (BA):=(.opt (qAD n x0 (1:Int) (52:Int)) fun r143=>(.ask ((!r143)) (.done (⟨#[]⟩:BA)) (.ask ((decide (x0≤(26:Int)))) (.ask (decide (1=([[(.i .u8 (IntKind.u8.wrap (IntKind.i64.wrap ((IntKind.i64.wrap ((65:Int)+x0))-(1:Int)))))]]:RW).length)) (.opt (bytesOf ([[(.i .u8 (IntKind.u8.wrap (IntKind.i64.wrap ((IntKind.i64.wrap ((65:Int)+x0))-(1:Int)))))]]:RW)) fun l144=>(.done (⟨l144.toArray⟩:BA))) .fail) (.ask (decide (2=([[(.i .u8 (IntKind.u8.wrap (IntKind.i64.wrap ((IntKind.i64.wrap ((65:Int)+(IntKind.i64.wrap (Int.tdiv (IntKind.i64.wrap (x0-(1:Int))) (26:Int)))))-(1:Int)))))],[(.i .u8 (IntKind.u8.wrap (IntKind.i64.wrap ((65:Int)+(Int.tmod (IntKind.i64.wrap (x0-(1:Int))) (26:Int))))))]]:RW).length)) (.opt (bytesOf ([[(.i .u8 (IntKind.u8.wrap (IntKind.i64.wrap ((IntKind.i64.wrap ((65:Int)+(IntKind.i64.wrap (Int.tdiv (IntKind.i64.wrap (x0-(1:Int))) (26:Int)))))-(1:Int)))))],[(.i .u8 (IntKind.u8.wrap (IntKind.i64.wrap ((65:Int)+(Int.tmod (IntKind.i64.wrap (x0-(1:Int))) (26:Int))))))]]:RW)) fun l145=>(.done (⟨l145.toArray⟩:BA))) .fail))))
def qBo:Nat→Int→Option (BA)
 |0,_=>none
 |n+1,x0=>(qDE n x0).run
abbrev qNm (n:Nat):List (Ent (Rn n)):= [en (qCp n)]
theorem qIL:∀n,Ok (Rn n) qNl (qBo n)
 |0=>ok0 fun _=>rfl
 |n+1=>stO (T:=qDE n) (by kernel_rfl) (qNm n) [] (fun _=>(by kernel_rfl)) fun _=>(by kernel_rfl)
def qNn:Sg:=⟨262,[aS],[],⟨aI,[],[]⟩⟩
def qCP (n:Nat) (v:BA×Int):Tr ((BA×Int)⊕((Int)⊕(Unit))):=(.ask ((decide (v.2≤(52:Int)))) (.opt (qBo n v.2) fun r143=>(.ask ((r143.toList==v.1.toList)) (.done (.inr (.inl (v.2)))) (.done (.inl (v.1,(IntKind.i64.wrap (v.2+(1:Int)))))))) (.done (.inr (.inr (())))))
def qFz (n:Nat) (x0:BA):Tr (Int):=(.opt (zC (qCP n) n (x0,(1:Int))) fun r144=>(.alt r144 (fun r145=>(.done r145)) (fun r146=>(.done (0:Int)))))
def qEL:Nat→BA→Option (Int)
 |0,_=>none
 |n+1,x0=>(qFz n x0).run
abbrev qI2 (n:Nat):List (Ent (Rn n)):= [en (qIL n)]
def qK3 (n:Nat):LEnt (KB 262) (Rn n) n:=lok (zX 262) 13 ⟨⟨[(0,aS),(3,aI)],[],[]⟩,[(.ret,⟨[(2,aI)],[],[]⟩),(.exit 0,⟨[],[],[]⟩)]⟩ (qCP n) (qI2 n) [] fun _=>(by kernel_rfl)
theorem qMt:∀n,Ok (Rn n) qNn (qEL n)
 |0=>ok0 fun _=>rfl
 |n+1=>stO (T:=qFz n) (by kernel_rfl) (qI2 n) [qK3 n] (fun _=>(by kernel_rfl)) fun _=>(by kernel_rfl)
def qLu:Sg:=⟨143,[(.agg [qI,qI,qB,qB])],[],⟨aS,[],[]⟩⟩
def qDP (n:Nat) (x0 x1:Int) (x2 x3:Bool):Tr (BA):=(.opt (qBS n x0 x1) fun r153=>(.ask ((!r153)) (.done (⟨#[]⟩:BA)) (.ask (x2) (.opt (qBo n x0) fun r154=>(.ask (decide ((⟨#[36]⟩:BA).size+r154.size≤9223372036854775807)) (.ask (x3) (.ask (decide (((⟨#[36]⟩:BA)++r154).size+(⟨#[36]⟩:BA).size≤9223372036854775807)) (.opt (qAe n x1) fun r155=>(.ask (decide ((((⟨#[36]⟩:BA)++r154)++(⟨#[36]⟩:BA)).size+r155.size≤9223372036854775807)) (.done ((((⟨#[36]⟩:BA)++r154)++(⟨#[36]⟩:BA))++r155)) .fail)) .fail) (.opt (qAe n x1) fun r156=>(.ask (decide (((⟨#[36]⟩:BA)++r154).size+r156.size≤9223372036854775807)) (.done (((⟨#[36]⟩:BA)++r154)++r156)) .fail))) .fail)) (.opt (qBo n x0) fun r157=>(.ask (decide ((⟨#[]⟩:BA).size+r157.size≤9223372036854775807)) (.ask (x3) (.ask (decide (((⟨#[]⟩:BA)++r157).size+(⟨#[36]⟩:BA).size≤9223372036854775807)) (.opt (qAe n x1) fun r158=>(.ask (decide ((((⟨#[]⟩:BA)++r157)++(⟨#[36]⟩:BA)).size+r158.size≤9223372036854775807)) (.done ((((⟨#[]⟩:BA)++r157)++(⟨#[36]⟩:BA))++r158)) .fail)) .fail) (.opt (qAe n x1) fun r159=>(.ask (decide (((⟨#[]⟩:BA)++r157).size+r159.size≤9223372036854775807)) (.done (((⟨#[]⟩:BA)++r157)++r159)) .fail))) .fail)))))
def qAo:Nat→Int→Int→Bool→Bool→Option (BA)
 |0,_,_,_,_=>none
 |n+1,x0,x1,x2,x3=>(qDP n x0 x1 x2 x3).run
abbrev qLv (n:Nat):List (Ent (Rn n)):= [en (qEw n),en (qIL n),en (qDo n)]
theorem qEM:∀n,Ok (Rn n) qLu (qAo n)
 |0=>ok0 fun _=>rfl
 |n+1=>stO (T:=qDP n) (by kernel_rfl) (qLv n) [] (fun _=>(by kernel_rfl)) fun _=>(by kernel_rfl)
def qLw:Sg:=⟨246,[aS],[],⟨(.tup [(true,[qI,qI,qB,qB]),(false,[qB])]),[],[]⟩⟩
def qEg (n:Nat) (x0:BA):Tr (Int×Int×Bool×Bool×Bool):=(.opt (qAC n x0 (⟨#[36]⟩:BA)) fun r141=>(.opt (qBE n r141.1 (⟨#[65,66,67,68,69,70,71,72,73,74,75,76,77,78,79,80,81,82,83,84,85,86,87,88,89,90]⟩:BA)) fun r142=>(.ask (decide (0≤(0:Int)∧(0:Int)≤(IntKind.i64.wrap ((r141.1.size:Int)-(r142.size:Int)))∧(IntKind.i64.wrap ((r141.1.size:Int)-(r142.size:Int)))≤r141.1.size)) (.opt (qEL n (r141.1.extract ((0:Int)).toNat ((IntKind.i64.wrap ((r141.1.size:Int)-(r142.size:Int)))).toNat)) fun r147=>(.ask (decide (0≤(IntKind.i64.wrap ((r141.1.size:Int)-(r142.size:Int)))∧(IntKind.i64.wrap ((r141.1.size:Int)-(r142.size:Int)))≤(r141.1.size:Int)∧(r141.1.size:Int)≤r141.1.size)) (.opt (qAC n (r141.1.extract ((IntKind.i64.wrap ((r141.1.size:Int)-(r142.size:Int)))).toNat ((r141.1.size:Int)).toNat) (⟨#[36]⟩:BA)) fun r148=>(.opt (qAt n r148.1 (10:Int) (64:Int)) fun r149=>(.alt r149 (fun r150=>(.opt (qBS n r147 r150) fun r152=>(.ask ((!r152)) (.done ((0:Int),(0:Int),false,false,false)) (.opt (qAo n r147 r150 r141.2 r148.2) fun r160=>(.ask ((!(r160.toList==x0.toList))) (.done ((0:Int),(0:Int),false,false,false)) (.done (r147,r150,r141.2,r148.2,true))))))) (fun r151=>(.opt (qBS n r147 r151) fun r161=>(.ask ((!r161)) (.done ((0:Int),(0:Int),false,false,false)) (.opt (qAo n r147 r151 r141.2 r148.2) fun r162=>(.ask ((!(r162.toList==x0.toList))) (.done ((0:Int),(0:Int),false,false,false)) (.done (r147,r151,r141.2,r148.2,true)))))))))) .fail)) .fail)))
def qAf:Nat→BA→Option (Int×Int×Bool×Bool×Bool)
 |0,_=>none
 |n+1,x0=>(qEg n x0).run
abbrev qLx (n:Nat):List (Ent (Rn n)):= [en (qCN n),en (qDa n),en (qMt n),en2 (qDc n),en (qEw n),en (qEM n)]
theorem qGa:∀n,Ok (Rn n) qLw (qAf n)
 |0=>ok0 fun _=>rfl
 |n+1=>stO (T:=qEg n) (by kernel_rfl) (qLx n) [] (fun _=>(by kernel_rfl)) fun _=>(by kernel_rfl)
def qOd:Sg:=⟨247,[aI],[],⟨aS,[],[]⟩⟩
def qG1 (n:Nat) (x0:Int):Tr (BA):=(.ask (decide (11=([[(.s (⟨#[]⟩:BA))],[(.s (⟨#[83,85,77]⟩:BA))],[(.s (⟨#[77,73,78]⟩:BA))],[(.s (⟨#[77,65,88]⟩:BA))],[(.s (⟨#[67,79,85,78,84]⟩:BA))],[(.s (⟨#[73,70]⟩:BA))],[(.s (⟨#[65,78,68]⟩:BA))],[(.s (⟨#[79,82]⟩:BA))],[(.s (⟨#[78,79,84]⟩:BA))],[(.s (⟨#[65,66,83]⟩:BA))],[(.s (⟨#[76,69,78]⟩:BA))]]:RW).length∧0≤x0∧x0<((11:Nat):Int))) (.opt (([[(.s (⟨#[]⟩:BA))],[(.s (⟨#[83,85,77]⟩:BA))],[(.s (⟨#[77,73,78]⟩:BA))],[(.s (⟨#[77,65,88]⟩:BA))],[(.s (⟨#[67,79,85,78,84]⟩:BA))],[(.s (⟨#[73,70]⟩:BA))],[(.s (⟨#[65,78,68]⟩:BA))],[(.s (⟨#[79,82]⟩:BA))],[(.s (⟨#[78,79,84]⟩:BA))],[(.s (⟨#[65,66,83]⟩:BA))],[(.s (⟨#[76,69,78]⟩:BA))]]:RW)[(x0).toNat]?) fun e165=>(.opt (zh e165 0) fun y166=>(.done y166))) .fail)
def qB2:Nat→Int→Option (BA)
 |0,_=>none
 |n+1,x0=>(qG1 n x0).run
theorem qI3:∀n,Ok (Rn n) qOd (qB2 n)
 |0=>ok0 fun _=>rfl
 |n+1=>stO (T:=qG1 n) (by kernel_rfl) [] [] (fun _=>(by kernel_rfl)) fun _=>(by kernel_rfl)
def qHp:Sg:=⟨263,[(.c (.ptr 0 0 0 0 0))],[[(0,⟨0,3,198,(.box [qS,(.own 0 1 1 0),qB])⟩),(1,⟨1,14,162,(.row [])⟩)]],⟨(.tup [(true,[qI,qI,qI,qI,qS,qI,qI,qB,qB,qI,qI,qB,qB,qL]),(false,[qB])]),[[(0,⟨0,3,198,(.box [qS,(.own 0 1 1 0),qB])⟩),(1,⟨1,14,162,(.row [])⟩)]],[]⟩⟩
def qEN (n:Nat) (x0:BA) (x1:Nat) (x2:Bool) (x3:RW):Tr (Int×Int×Int×Int×BA×Int×Int×Bool×Bool×Int×Int×Bool×Bool×RW×Bool×BA×Nat×Bool×RW):=(.opt (qBF n x0 x1 x2 x3) fun r168=>(.opt (qAf n r168.1) fun r169=>(.ask (r169.2.2.2.2) (.opt (qm n (⟨#[58]⟩:BA) r168.2.1 r168.2.2.1 r168.2.2.2.1 r168.2.2.2.2) fun r170=>(.ask ((!r170.1)) (.done ((0:Int),(0:Int),(0:Int),(0:Int),(⟨#[]⟩:BA),(0:Int),(0:Int),false,false,(0:Int),(0:Int),false,false,([]:RW),false,x0,r170.2.2.1,r170.2.2.2.1,r170.2.2.2.2)) (.opt (qBF n r170.2.1 r170.2.2.1 r170.2.2.2.1 r170.2.2.2.2) fun r171=>(.opt (qAf n r171.1) fun r172=>(.ask (r171.2.2.2.1) (.done ((3:Int),(0:Int),(0:Int),(0:Int),(⟨#[]⟩:BA),r169.1,r169.2.1,r169.2.2.1,r169.2.2.2.1,r172.1,r172.2.1,r172.2.2.1,r172.2.2.2.1,([]:RW),true,r171.2.1,r171.2.2.1,true,r171.2.2.2.2)) (.done ((3:Int),(0:Int),(0:Int),(0:Int),(⟨#[]⟩:BA),r169.1,r169.2.1,r169.2.2.1,r169.2.2.2.1,r172.1,r172.2.1,r172.2.2.1,r172.2.2.2.1,([]:RW),true,r171.2.1,r171.2.2.1,(!r172.2.2.2.2),r171.2.2.2.2))))))) (.done ((0:Int),(0:Int),(0:Int),(0:Int),(⟨#[]⟩:BA),(0:Int),(0:Int),false,false,(0:Int),(0:Int),false,false,([]:RW),false,x0,r168.2.2.1,r168.2.2.2.1,r168.2.2.2.2)))))
def qCy:Nat→BA→Nat→Bool→RW→Option (Int×Int×Int×Int×BA×Int×Int×Bool×Bool×Int×Int×Bool×Bool×RW×Bool×BA×Nat×Bool×RW)
 |0,_,_,_,_=>none
 |n+1,x0,x1,x2,x3=>(qEN n x0 x1 x2 x3).run
abbrev qHq (n:Nat):List (Ent (Rn n)):= [en (qFN n),en (qGa n),en (qBw n)]
theorem qHP:∀n,Ok (Rn n) qHp (qCy n)
 |0=>ok0 fun _=>rfl
 |n+1=>stO (T:=qEN n) (by kernel_rfl) (qHq n) [] (fun _=>(by kernel_rfl)) fun _=>(by kernel_rfl)
def qOe:Sg:=⟨193,[aI],[],⟨aS,[],[]⟩⟩
def qG2 (n:Nat) (x0:Int):Tr (BA):=(.ask (decide (12=([[(.s (⟨#[]⟩:BA))],[(.s (⟨#[43]⟩:BA))],[(.s (⟨#[45]⟩:BA))],[(.s (⟨#[42]⟩:BA))],[(.s (⟨#[47]⟩:BA))],[(.s (⟨#[38]⟩:BA))],[(.s (⟨#[61]⟩:BA))],[(.s (⟨#[60,62]⟩:BA))],[(.s (⟨#[60]⟩:BA))],[(.s (⟨#[60,61]⟩:BA))],[(.s (⟨#[62]⟩:BA))],[(.s (⟨#[62,61]⟩:BA))]]:RW).length∧0≤x0∧x0<((12:Nat):Int))) (.opt (([[(.s (⟨#[]⟩:BA))],[(.s (⟨#[43]⟩:BA))],[(.s (⟨#[45]⟩:BA))],[(.s (⟨#[42]⟩:BA))],[(.s (⟨#[47]⟩:BA))],[(.s (⟨#[38]⟩:BA))],[(.s (⟨#[61]⟩:BA))],[(.s (⟨#[60,62]⟩:BA))],[(.s (⟨#[60]⟩:BA))],[(.s (⟨#[60,61]⟩:BA))],[(.s (⟨#[62]⟩:BA))],[(.s (⟨#[62,61]⟩:BA))]]:RW)[(x0).toNat]?) fun e199=>(.opt (zh e199 0) fun y200=>(.done y200))) .fail)
def qBL:Nat→Int→Option (BA)
 |0,_=>none
 |n+1,x0=>(qG2 n x0).run
theorem qI4:∀n,Ok (Rn n) qOe (qBL n)
 |0=>ok0 fun _=>rfl
 |n+1=>stO (T:=qG2 n) (by kernel_rfl) [] [] (fun _=>(by kernel_rfl)) fun _=>(by kernel_rfl)
def qPO:Sg:=⟨194,[aI],[],⟨aI,[],[]⟩⟩
def qHr (n:Nat) (x0:Int):Tr (Int):=(.ask ((x0==(3:Int))) (.done (4:Int)) (.ask ((x0==(4:Int))) (.done (4:Int)) (.ask ((x0==(1:Int))) (.done (3:Int)) (.ask ((x0==(2:Int))) (.done (3:Int)) (.ask ((x0==(5:Int))) (.done (2:Int)) (.done (1:Int)))))))
def qDQ:Nat→Int→Option (Int)
 |0,_=>none
 |n+1,x0=>(qHr n x0).run
theorem qJ8:∀n,Ok (Rn n) qPO (qDQ n)
 |0=>ok0 fun _=>rfl
 |n+1=>stO (T:=qHr n) (by kernel_rfl) [] [] (fun _=>(by kernel_rfl)) fun _=>(by kernel_rfl)
def qE1:Sg:=⟨159,[(.c (.ptr 0 0 0 0 0)),aI,aI],[[(0,⟨0,3,198,(.box [qS,(.own 0 1 1 0),qB])⟩),(1,⟨1,14,162,(.row [])⟩)]],⟨aI,[[(0,⟨0,3,198,(.box [qS,(.own 0 1 1 0),qB])⟩),(1,⟨1,14,162,(.row [])⟩)]],[]⟩⟩
def qJp:Sg:=⟨191,[(.c (.ptr 0 0 0 0 0)),aI],[[(0,⟨0,3,198,(.box [qS,(.own 0 1 1 0),qB])⟩),(1,⟨1,14,162,(.row [])⟩)]],⟨aI,[[(0,⟨0,3,198,(.box [qS,(.own 0 1 1 0),qB])⟩),(1,⟨1,14,162,(.row [])⟩)]],[]⟩⟩
def qKV:Sg:=⟨223,[(.c (.ptr 0 0 0 0 0)),aI],[[(0,⟨0,3,198,(.box [qS,(.own 0 1 1 0),qB])⟩),(1,⟨1,14,162,(.row [])⟩)]],⟨aI,[[(0,⟨0,3,198,(.box [qS,(.own 0 1 1 0),qB])⟩),(1,⟨1,14,162,(.row [])⟩)]],[]⟩⟩
def qKW:Sg:=⟨248,[(.c (.ptr 0 0 0 0 0)),aI,aI],[[(0,⟨0,3,198,(.box [qS,(.own 0 1 1 0),qB])⟩),(1,⟨1,14,162,(.row [])⟩)]],⟨aI,[[(0,⟨0,3,198,(.box [qS,(.own 0 1 1 0),qB])⟩),(1,⟨1,14,162,(.row [])⟩)]],[]⟩⟩
structure G_impl_reader_binary where
 impl_reader_binary:Int→Int→BA→Nat→Bool→RW→Option (Int×BA×Nat×Bool×RW)
 impl_reader_unary:Int→BA→Nat→Bool→RW→Option (Int×BA×Nat×Bool×RW)
 impl_reader_atom:Int→BA→Nat→Bool→RW→Option (Int×BA×Nat×Bool×RW)
 impl_reader_call:Int→Int→BA→Nat→Bool→RW→Option (Int×BA×Nat×Bool×RW)
def qA7 (n:Nat) (v:Int×Int×Int×Int×Int×BA×Nat×Bool×RW):Tr ((Int×Int×Int×Int×Int×BA×Nat×Bool×RW)⊕((Int×Int×Int×Int×BA×Nat×Bool×RW))):=(.ask ((decide (v.2.2.2.2.1≤(11:Int)))) (.opt (qBf n v.2.2.2.2.2.1 v.2.2.2.2.2.2.1 v.2.2.2.2.2.2.2.1 v.2.2.2.2.2.2.2.2) fun r198=>(.opt (qBL n v.2.2.2.2.1) fun r199=>(.ask ((r198.1.toList==r199.toList)) (.done (.inl (v.1,v.2.1,v.2.2.1,v.2.2.2.2.1,(IntKind.i64.wrap (v.2.2.2.2.1+(1:Int))),r198.2.1,r198.2.2.1,r198.2.2.2.1,r198.2.2.2.2))) (.done (.inl (v.1,v.2.1,v.2.2.1,v.2.2.2.1,(IntKind.i64.wrap (v.2.2.2.2.1+(1:Int))),r198.2.1,r198.2.2.1,r198.2.2.2.1,r198.2.2.2.2)))))) (.done (.inr ((v.1,v.2.1,v.2.2.1,v.2.2.2.1,v.2.2.2.2.2.1,v.2.2.2.2.2.2.1,v.2.2.2.2.2.2.2.1,v.2.2.2.2.2.2.2.2)))))
def qCr (rec:G_impl_reader_binary) (n:Nat) (v:Int×Int×Int×BA×Nat×Bool×RW):Tr ((Int×Int×Int×BA×Nat×Bool×RW)⊕((Int×BA×Nat×Bool×RW))):=(.ask ((!v.2.2.2.2.2.1)) (.opt (zC (qA7 n) n (v.1,v.2.1,v.2.2.1,(0:Int),(1:Int),v.2.2.2.1,v.2.2.2.2.1,v.2.2.2.2.2.1,v.2.2.2.2.2.2)) fun r200=>(.ask ((r200.2.2.2.1==(0:Int))) (.done (.inr ((r200.2.2.1,r200.2.2.2.2.1,r200.2.2.2.2.2.1,r200.2.2.2.2.2.2.1,r200.2.2.2.2.2.2.2)))) (.opt (qDQ n r200.2.2.2.1) fun r201=>(.ask ((decide (r201<r200.1))) (.done (.inr ((r200.2.2.1,r200.2.2.2.2.1,r200.2.2.2.2.2.1,r200.2.2.2.2.2.2.1,r200.2.2.2.2.2.2.2)))) (.opt (qBL n r200.2.2.2.1) fun r202=>(.opt (qm n r202 r200.2.2.2.2.1 r200.2.2.2.2.2.1 r200.2.2.2.2.2.2.1 r200.2.2.2.2.2.2.2) fun r203=>(.opt (qDQ n r200.2.2.2.1) fun r204=>(.opt (rec.impl_reader_binary (IntKind.i64.wrap (r204+(1:Int))) r200.2.1 r203.2.1 r203.2.2.1 r203.2.2.2.1 r203.2.2.2.2) fun r205=>(.ask (decide (2=([[(.i .i64 r200.2.2.1)],[(.i .i64 r205.1)]]:RW).length)) (.opt (qn n (5:Int) r200.2.2.2.1 (0:Int) (0:Int) (⟨#[]⟩:BA) (0:Int) (0:Int) false false (0:Int) (0:Int) false false ([[(.i .i64 r200.2.2.1)],[(.i .i64 r205.1)]]:RW) r205.2.1 r205.2.2.1 r205.2.2.2.1 r205.2.2.2.2) fun r206=>(.done (.inl (r200.1,r200.2.1,r206.1,r206.2.1,r206.2.2.1,r206.2.2.2.1,r206.2.2.2.2)))) .fail))))))))) (.done (.inr ((v.2.2.1,v.2.2.2.1,v.2.2.2.2.1,v.2.2.2.2.2.1,v.2.2.2.2.2.2)))))
def qE2 (rec:G_impl_reader_binary) (n:Nat) (x0 x1:Int) (x2:BA) (x3:Nat) (x4:Bool) (x5:RW):Tr (Int×BA×Nat×Bool×RW):=(.opt (rec.impl_reader_unary x1 x2 x3 x4 x5) fun r197=>(.opt (zC (qCr rec n) n (x0,x1,r197.1,r197.2.1,r197.2.2.1,r197.2.2.2.1,r197.2.2.2.2)) fun r207=>(.done (r207.1,r207.2.1,r207.2.2.1,r207.2.2.2.1,r207.2.2.2.2))))
def qFP (rec:G_impl_reader_binary) (n:Nat) (x0:Int) (x1:BA) (x2:Nat) (x3:Bool) (x4:RW):Tr (Int×BA×Nat×Bool×RW):=(.ask ((decide (x0>(400:Int)))) (.ask (true) (.done ((-1:Int),x1,x2,true,x4)) (.opt (qm n (⟨#[45]⟩:BA) x1 x2 true x4) fun r79=>(.ask (r79.1) (.opt (rec.impl_reader_unary (IntKind.i64.wrap (x0+(1:Int))) r79.2.1 r79.2.2.1 r79.2.2.2.1 r79.2.2.2.2) fun r80=>(.ask (decide (1=([[(.i .i64 r80.1)]]:RW).length)) (.opt (qn n (4:Int) (0:Int) (0:Int) (0:Int) (⟨#[]⟩:BA) (0:Int) (0:Int) false false (0:Int) (0:Int) false false ([[(.i .i64 r80.1)]]:RW) r80.2.1 r80.2.2.1 r80.2.2.2.1 r80.2.2.2.2) fun r81=>(.done (r81.1,r81.2.1,r81.2.2.1,r81.2.2.2.1,r81.2.2.2.2))) .fail)) (.opt (rec.impl_reader_atom x0 r79.2.1 r79.2.2.1 r79.2.2.2.1 r79.2.2.2.2) fun r192=>(.done (r192.1,r192.2.1,r192.2.2.1,r192.2.2.2.1,r192.2.2.2.2)))))) (.ask (x3) (.done ((-1:Int),x1,x2,x3,x4)) (.opt (qm n (⟨#[45]⟩:BA) x1 x2 x3 x4) fun r193=>(.ask (r193.1) (.opt (rec.impl_reader_unary (IntKind.i64.wrap (x0+(1:Int))) r193.2.1 r193.2.2.1 r193.2.2.2.1 r193.2.2.2.2) fun r194=>(.ask (decide (1=([[(.i .i64 r194.1)]]:RW).length)) (.opt (qn n (4:Int) (0:Int) (0:Int) (0:Int) (⟨#[]⟩:BA) (0:Int) (0:Int) false false (0:Int) (0:Int) false false ([[(.i .i64 r194.1)]]:RW) r194.2.1 r194.2.2.1 r194.2.2.2.1 r194.2.2.2.2) fun r195=>(.done (r195.1,r195.2.1,r195.2.2.1,r195.2.2.2.1,r195.2.2.2.2))) .fail)) (.opt (rec.impl_reader_atom x0 r193.2.1 r193.2.2.1 r193.2.2.2.1 r193.2.2.2.2) fun r196=>(.done (r196.1,r196.2.1,r196.2.2.1,r196.2.2.2.1,r196.2.2.2.2)))))))
def qBz (n:Nat) (v:Int×Int×BA×Nat×Bool×RW):Tr ((Int×Int×BA×Nat×Bool×RW)⊕((Int×BA×Nat×Bool×RW)⊕(Int×BA×Nat×Bool×RW))):=(.ask ((decide (v.2.1≤(5:Int)))) (.opt (qAd n v.2.1) fun r93=>(.opt (qAC n v.2.2.1 r93) fun r94=>(.ask (r94.2) (.opt (qBl n v.2.1) fun r95=>(.opt (qi n r95.1 r95.2.1 r95.2.2 r94.1 v.2.2.2.1 v.2.2.2.2.1 v.2.2.2.2.2) fun r96=>(.done (.inr (.inl ((r96.1,r96.2.1,r96.2.2.1,r96.2.2.2.1,r96.2.2.2.2))))))) (.done (.inl (v.1,(IntKind.i64.wrap (v.2.1+(1:Int))),v.2.2.1,v.2.2.2.1,v.2.2.2.2.1,v.2.2.2.2.2)))))) (.done (.inr (.inr ((v.1,v.2.2.1,v.2.2.2.1,v.2.2.2.2.1,v.2.2.2.2.2))))))
def qAi (rec:G_impl_reader_binary) (n:Nat) (v:Int×BA×Int×BA×Nat×Bool×RW):Tr ((Int×BA×Int×BA×Nat×Bool×RW)⊕((Int×BA×Nat×Bool×RW)⊕(BA×Nat×Bool×RW))):=(.ask ((decide (v.2.2.1≤(10:Int)))) (.opt (qB2 n v.2.2.1) fun r165=>(.ask ((v.2.1.toList==r165.toList)) (.opt (rec.impl_reader_call v.2.2.1 v.1 v.2.2.2.1 v.2.2.2.2.1 v.2.2.2.2.2.1 v.2.2.2.2.2.2) fun r166=>(.done (.inr (.inl ((r166.1,r166.2.1,r166.2.2.1,r166.2.2.2.1,r166.2.2.2.2)))))) (.done (.inl (v.1,v.2.1,(IntKind.i64.wrap (v.2.2.1+(1:Int))),v.2.2.2.1,v.2.2.2.2.1,v.2.2.2.2.2.1,v.2.2.2.2.2.2))))) (.done (.inr (.inr ((v.2.2.2.1,v.2.2.2.2.1,v.2.2.2.2.2.1,v.2.2.2.2.2.2))))))
def qF0 (rec:G_impl_reader_binary) (n:Nat) (x0:Int) (x1:BA) (x2:Nat) (x3:Bool) (x4:RW):Tr (Int×BA×Nat×Bool×RW):=(.opt (qAs n x1 x2 x3 x4) fun r82=>(.opt (qk n r82.1 (⟨#[34]⟩:BA)) fun r83=>(.ask (r83) (.opt (qDD n r82.1 r82.2.1 r82.2.2.1 r82.2.2.2) fun r91=>(.done (r91.1,r91.2.1,r91.2.2.1,r91.2.2.2.1,r91.2.2.2.2))) (.opt (qk n r82.1 (⟨#[35]⟩:BA)) fun r92=>(.ask (r92) (.opt (zC (qBz n) n (x0,(1:Int),r82.1,r82.2.1,r82.2.2.1,r82.2.2.2)) fun r97=>(.alt r97 (fun r98=>(.done (r98.1,r98.2.1,r98.2.2.1,r98.2.2.2.1,r98.2.2.2.2))) (fun r99=>(.opt (qBF n r99.2.1 r99.2.2.1 r99.2.2.2.1 r99.2.2.2.2) fun r102=>(.opt (qe n r102.1) fun r138=>(.ask (r138.2.2.2) (.ask ((r138.1==(1:Int))) (.opt (qi n r138.1 r138.2.1 r138.2.2.1 r102.2.1 r102.2.2.1 r102.2.2.2.1 r102.2.2.2.2) fun r139=>(.done (r139.1,r139.2.1,r139.2.2.1,r139.2.2.2.1,r139.2.2.2.2))) (.ask ((r138.1==(3:Int))) (.opt (qi n r138.1 r138.2.1 r138.2.2.1 r102.2.1 r102.2.2.1 r102.2.2.2.1 r102.2.2.2.2) fun r140=>(.done (r140.1,r140.2.1,r140.2.2.1,r140.2.2.2.1,r140.2.2.2.2))) (.opt (qAf n r102.1) fun r163=>(.ask (r163.2.2.2.2) (.opt (qn n (2:Int) (0:Int) (0:Int) (0:Int) (⟨#[]⟩:BA) r163.1 r163.2.1 r163.2.2.1 r163.2.2.2.1 (0:Int) (0:Int) false false ([]:RW) r102.2.1 r102.2.2.1 r102.2.2.2.1 r102.2.2.2.2) fun r164=>(.done (r164.1,r164.2.1,r164.2.2.1,r164.2.2.2.1,r164.2.2.2.2))) (.opt (zC (qAi rec n) n (r99.1,r102.1,(1:Int),r102.2.1,r102.2.2.1,r102.2.2.2.1,r102.2.2.2.2)) fun r167=>(.alt r167 (fun r168=>(.done (r168.1,r168.2.1,r168.2.2.1,r168.2.2.2.1,r168.2.2.2.2))) (fun r169=>(.done ((-1:Int),r169.1,r169.2.1,true,r169.2.2.2))))))))) (.opt (qAf n r102.1) fun r170=>(.ask (r170.2.2.2.2) (.opt (qn n (2:Int) (0:Int) (0:Int) (0:Int) (⟨#[]⟩:BA) r170.1 r170.2.1 r170.2.2.1 r170.2.2.2.1 (0:Int) (0:Int) false false ([]:RW) r102.2.1 r102.2.2.1 r102.2.2.2.1 r102.2.2.2.2) fun r171=>(.done (r171.1,r171.2.1,r171.2.2.1,r171.2.2.2.1,r171.2.2.2.2))) (.opt (zC (qAi rec n) n (r99.1,r102.1,(1:Int),r102.2.1,r102.2.2.1,r102.2.2.2.1,r102.2.2.2.2)) fun r172=>(.alt r172 (fun r173=>(.done (r173.1,r173.2.1,r173.2.2.1,r173.2.2.2.1,r173.2.2.2.2))) (fun r174=>(.done ((-1:Int),r174.1,r174.2.1,true,r174.2.2.2))))))))))))) (.opt (qm n (⟨#[40]⟩:BA) r82.1 r82.2.1 r82.2.2.1 r82.2.2.2) fun r175=>(.ask (r175.1) (.opt (rec.impl_reader_binary (1:Int) (IntKind.i64.wrap (x0+(1:Int))) r175.2.1 r175.2.2.1 r175.2.2.2.1 r175.2.2.2.2) fun r176=>(.ask (r176.2.2.2.1) (.done (r176.1,r176.2.1,r176.2.2.1,true,r176.2.2.2.2)) (.opt (qm n (⟨#[41]⟩:BA) r176.2.1 r176.2.2.1 r176.2.2.2.1 r176.2.2.2.2) fun r177=>(.done (r176.1,r177.2.1,r177.2.2.1,(!r177.1),r177.2.2.2.2))))) (.opt (qBF n r175.2.1 r175.2.2.1 r175.2.2.2.1 r175.2.2.2.2) fun r178=>(.opt (qe n r178.1) fun r179=>(.ask (r179.2.2.2) (.ask ((r179.1==(1:Int))) (.opt (qi n r179.1 r179.2.1 r179.2.2.1 r178.2.1 r178.2.2.1 r178.2.2.2.1 r178.2.2.2.2) fun r180=>(.done (r180.1,r180.2.1,r180.2.2.1,r180.2.2.2.1,r180.2.2.2.2))) (.ask ((r179.1==(3:Int))) (.opt (qi n r179.1 r179.2.1 r179.2.2.1 r178.2.1 r178.2.2.1 r178.2.2.2.1 r178.2.2.2.2) fun r181=>(.done (r181.1,r181.2.1,r181.2.2.1,r181.2.2.2.1,r181.2.2.2.2))) (.opt (qAf n r178.1) fun r182=>(.ask (r182.2.2.2.2) (.opt (qn n (2:Int) (0:Int) (0:Int) (0:Int) (⟨#[]⟩:BA) r182.1 r182.2.1 r182.2.2.1 r182.2.2.2.1 (0:Int) (0:Int) false false ([]:RW) r178.2.1 r178.2.2.1 r178.2.2.2.1 r178.2.2.2.2) fun r183=>(.done (r183.1,r183.2.1,r183.2.2.1,r183.2.2.2.1,r183.2.2.2.2))) (.opt (zC (qAi rec n) n (x0,r178.1,(1:Int),r178.2.1,r178.2.2.1,r178.2.2.2.1,r178.2.2.2.2)) fun r184=>(.alt r184 (fun r185=>(.done (r185.1,r185.2.1,r185.2.2.1,r185.2.2.2.1,r185.2.2.2.2))) (fun r186=>(.done ((-1:Int),r186.1,r186.2.1,true,r186.2.2.2))))))))) (.opt (qAf n r178.1) fun r187=>(.ask (r187.2.2.2.2) (.opt (qn n (2:Int) (0:Int) (0:Int) (0:Int) (⟨#[]⟩:BA) r187.1 r187.2.1 r187.2.2.1 r187.2.2.2.1 (0:Int) (0:Int) false false ([]:RW) r178.2.1 r178.2.2.1 r178.2.2.2.1 r178.2.2.2.2) fun r188=>(.done (r188.1,r188.2.1,r188.2.2.1,r188.2.2.2.1,r188.2.2.2.2))) (.opt (zC (qAi rec n) n (x0,r178.1,(1:Int),r178.2.1,r178.2.2.1,r178.2.2.2.1,r178.2.2.2.2)) fun r189=>(.alt r189 (fun r190=>(.done (r190.1,r190.2.1,r190.2.2.1,r190.2.2.2.1,r190.2.2.2.2))) (fun r191=>(.done ((-1:Int),r191.1,r191.2.1,true,r191.2.2.2)))))))))))))))))
def qCE (rec:G_impl_reader_binary) (n:Nat) (v:Int×Int×Nat×RW×BA×Nat×Bool×RW):Tr ((Int×Int×Nat×RW×BA×Nat×Bool×RW)⊕((Int×Nat×RW×BA×Nat×Bool×RW))):=(.ask ((!v.2.2.2.2.2.2.1)) (.opt (qCy n v.2.2.2.2.1 v.2.2.2.2.2.1 v.2.2.2.2.2.2.1 v.2.2.2.2.2.2.2) fun r168=>(.ask (r168.2.2.2.2.2.2.2.2.2.2.2.2.2.2.1) (.opt (qn n r168.1 r168.2.1 r168.2.2.1 r168.2.2.2.1 r168.2.2.2.2.1 r168.2.2.2.2.2.1 r168.2.2.2.2.2.2.1 r168.2.2.2.2.2.2.2.1 r168.2.2.2.2.2.2.2.2.1 r168.2.2.2.2.2.2.2.2.2.1 r168.2.2.2.2.2.2.2.2.2.2.1 r168.2.2.2.2.2.2.2.2.2.2.2.1 r168.2.2.2.2.2.2.2.2.2.2.2.2.1 r168.2.2.2.2.2.2.2.2.2.2.2.2.2.1 r168.2.2.2.2.2.2.2.2.2.2.2.2.2.2.2.1 r168.2.2.2.2.2.2.2.2.2.2.2.2.2.2.2.2.1 r168.2.2.2.2.2.2.2.2.2.2.2.2.2.2.2.2.2.1 r168.2.2.2.2.2.2.2.2.2.2.2.2.2.2.2.2.2.2) fun r169=>(.ask (decide (1=([[(.i .i64 r169.1)]]:RW).length)) (.ask (decide (v.2.2.1=v.2.2.2.1.length∧0<1∧0<8∧(v.2.2.1+([[(.i .i64 r169.1)]]:RW).length)*8≤140737488355328∧([[(.i .i64 r169.1)]]:RW).all (fun e=>e.length==1)=true)) (.opt (qm n (⟨#[44]⟩:BA) r169.2.1 r169.2.2.1 r169.2.2.2.1 r169.2.2.2.2) fun r170=>(.ask ((!r170.1)) (.ask (r170.2.2.2.1) (.done (.inr ((v.1,(v.2.2.1+1),(v.2.2.2.1++([[(.i .i64 r169.1)]]:RW)),r170.2.1,r170.2.2.1,true,r170.2.2.2.2)))) (.opt (qm n (⟨#[41]⟩:BA) r170.2.1 r170.2.2.1 r170.2.2.2.1 r170.2.2.2.2) fun r171=>(.done (.inr ((v.1,(v.2.2.1+1),(v.2.2.2.1++([[(.i .i64 r169.1)]]:RW)),r171.2.1,r171.2.2.1,(!r171.1),r171.2.2.2.2)))))) (.done (.inl (v.1,v.2.1,(v.2.2.1+1),(v.2.2.2.1++([[(.i .i64 r169.1)]]:RW)),r170.2.1,r170.2.2.1,r170.2.2.2.1,r170.2.2.2.2))))) .fail) .fail)) (.opt (rec.impl_reader_binary (1:Int) (IntKind.i64.wrap (v.2.1+(1:Int))) r168.2.2.2.2.2.2.2.2.2.2.2.2.2.2.2.1 r168.2.2.2.2.2.2.2.2.2.2.2.2.2.2.2.2.1 r168.2.2.2.2.2.2.2.2.2.2.2.2.2.2.2.2.2.1 r168.2.2.2.2.2.2.2.2.2.2.2.2.2.2.2.2.2.2) fun r172=>(.ask (decide (1=([[(.i .i64 r172.1)]]:RW).length)) (.ask (decide (v.2.2.1=v.2.2.2.1.length∧0<1∧0<8∧(v.2.2.1+([[(.i .i64 r172.1)]]:RW).length)*8≤140737488355328∧([[(.i .i64 r172.1)]]:RW).all (fun e=>e.length==1)=true)) (.opt (qm n (⟨#[44]⟩:BA) r172.2.1 r172.2.2.1 r172.2.2.2.1 r172.2.2.2.2) fun r173=>(.ask ((!r173.1)) (.ask (r173.2.2.2.1) (.done (.inr ((v.1,(v.2.2.1+1),(v.2.2.2.1++([[(.i .i64 r172.1)]]:RW)),r173.2.1,r173.2.2.1,true,r173.2.2.2.2)))) (.opt (qm n (⟨#[41]⟩:BA) r173.2.1 r173.2.2.1 r173.2.2.2.1 r173.2.2.2.2) fun r174=>(.done (.inr ((v.1,(v.2.2.1+1),(v.2.2.2.1++([[(.i .i64 r172.1)]]:RW)),r174.2.1,r174.2.2.1,(!r174.1),r174.2.2.2.2)))))) (.done (.inl (v.1,v.2.1,(v.2.2.1+1),(v.2.2.2.1++([[(.i .i64 r172.1)]]:RW)),r173.2.1,r173.2.2.1,r173.2.2.2.1,r173.2.2.2.2))))) .fail) .fail)))) (.done (.inr ((v.1,v.2.2.1,v.2.2.2.1,v.2.2.2.2.1,v.2.2.2.2.2.1,v.2.2.2.2.2.2.1,v.2.2.2.2.2.2.2)))))
def qF1 (rec:G_impl_reader_binary) (n:Nat) (x0 x1:Int) (x2:BA) (x3:Nat) (x4:Bool) (x5:RW):Tr (Int×BA×Nat×Bool×RW):=(.ask (x4) (.opt (zC (qCE rec n) n (x0,x1,(0:Nat),([]:RW),x2,x3,true,x5)) fun r175=>(.ask (decide (r175.2.1=r175.2.2.1.length)) (.opt (qn n (6:Int) r175.1 (0:Int) (0:Int) (⟨#[]⟩:BA) (0:Int) (0:Int) false false (0:Int) (0:Int) false false r175.2.2.1 r175.2.2.2.1 r175.2.2.2.2.1 r175.2.2.2.2.2.1 r175.2.2.2.2.2.2) fun r176=>(.done (r176.1,r176.2.1,r176.2.2.1,r176.2.2.2.1,r176.2.2.2.2))) .fail)) (.opt (qm n (⟨#[40]⟩:BA) x2 x3 x4 x5) fun r177=>(.opt (zC (qCE rec n) n (x0,x1,(0:Nat),([]:RW),r177.2.1,r177.2.2.1,(!r177.1),r177.2.2.2.2)) fun r178=>(.ask (decide (r178.2.1=r178.2.2.1.length)) (.opt (qn n (6:Int) r178.1 (0:Int) (0:Int) (⟨#[]⟩:BA) (0:Int) (0:Int) false false (0:Int) (0:Int) false false r178.2.2.1 r178.2.2.2.1 r178.2.2.2.2.1 r178.2.2.2.2.2.1 r178.2.2.2.2.2.2) fun r179=>(.done (r179.1,r179.2.1,r179.2.2.1,r179.2.2.2.1,r179.2.2.2.2))) .fail))))
def qR:Nat→G_impl_reader_binary
 |0=>⟨fun _ _ _ _ _ _=>none,fun _ _ _ _ _=>none,fun _ _ _ _ _=>none,fun _ _ _ _ _ _=>none⟩
 |n+1=>⟨fun x0 x1 x2 x3 x4 x5=>(qE2 (qR n) n x0 x1 x2 x3 x4 x5).run,fun x0 x1 x2 x3 x4=>(qFP (qR n) n x0 x1 x2 x3 x4).run,fun x0 x1 x2 x3 x4=>(qF0 (qR n) n x0 x1 x2 x3 x4).run,fun x0 x1 x2 x3 x4 x5=>(qF1 (qR n) n x0 x1 x2 x3 x4 x5).run⟩
def qCQ (n:Nat) (x0 x1:Int) (x2:BA) (x3:Nat) (x4:Bool) (x5:RW):Option (Int×BA×Nat×Bool×RW):=(qR n).impl_reader_binary x0 x1 x2 x3 x4 x5
def qFQ (n:Nat) (x0:Int) (x1:BA) (x2:Nat) (x3:Bool) (x4:RW):Option (Int×BA×Nat×Bool×RW):=(qR n).impl_reader_unary x0 x1 x2 x3 x4
def qF2 (n:Nat) (x0:Int) (x1:BA) (x2:Nat) (x3:Bool) (x4:RW):Option (Int×BA×Nat×Bool×RW):=(qR n).impl_reader_atom x0 x1 x2 x3 x4
def qCA (n:Nat) (x0 x1:Int) (x2:BA) (x3:Nat) (x4:Bool) (x5:RW):Option (Int×BA×Nat×Bool×RW):=(qR n).impl_reader_call x0 x1 x2 x3 x4 x5
def q7 (n:Nat):Prop:=
 Ok (Rn n) qE1 (qCQ n)∧
 Ok (Rn n) qJp (qFQ n)∧
 Ok (Rn n) qKV (qF2 n)∧
 Ok (Rn n) qKW (qCA n)
abbrev qDF (n:Nat) (ih:q7 n):List (Ent (Rn n)):= [en ih.2.1,en (qFM n),en (qI4 n),en (qJ8 n),en (qBw n),en ih.1,en (qB9 n)]
def qG3 (n:Nat) (ih:q7 n):LEnt (lb 14 (KB 159)) (Rn n) n:=lok (Uniq.pick (zX 159) 14) 237 ⟨⟨[(0,(.c (.ptr 0 0 0 0 0))),(1,aI),(2,aI),(7,aI),(8,aI),(9,aI)],[],[[(0,⟨0,3,198,(.box [qS,(.own 0 1 1 0),qB])⟩),(1,⟨1,14,162,(.row [])⟩)]]⟩,[(.exit 2,⟨[(0,(.c (.ptr 0 0 0 0 0))),(1,aI),(2,aI),(7,aI),(8,aI)],[],[[(0,⟨0,3,198,(.box [qS,(.own 0 1 1 0),qB])⟩),(1,⟨1,14,162,(.row [])⟩)]]⟩)]⟩ (qA7 n) (qDF n ih) [] fun _=>(by kernel_rfl)
def qHQ (n:Nat) (ih:q7 n):LEnt (KB 159) (Rn n) n:=lok (zX 159) 14 ⟨⟨[(0,(.c (.ptr 0 0 0 0 0))),(1,aI),(2,aI),(7,aI)],[],[[(0,⟨0,3,198,(.box [qS,(.own 0 1 1 0),qB])⟩),(1,⟨1,14,162,(.row [])⟩)]]⟩,[(.exit 0,⟨[(7,aI)],[],[[(0,⟨0,3,198,(.box [qS,(.own 0 1 1 0),qB])⟩),(1,⟨1,14,162,(.row [])⟩)]]⟩)]⟩ (qCr (qR n) n) (qDF n ih) [qG3 n ih] fun _=>(by kernel_rfl)
abbrev qJq (n:Nat) (ih:q7 n):List (Ent (Rn n)):= [en (qBw n),en ih.2.1,en (qB9 n),en ih.2.2.1]
abbrev qDt (n:Nat) (ih:q7 n):List (Ent (Rn n)):= [en (qCC n),en (qCO n),en (qIZ n),en (qEJ n),en (qCN n),en (qJ7 n),en (qD2 n),en (qFN n),en (qGZ n),en (qGa n),en (qB9 n),en (qI3 n),en ih.2.2.2,en (qBw n),en ih.1]
def qHs (n:Nat) (ih:q7 n):LEnt (KB 223) (Rn n) n:=lok (zX 223) 477 ⟨⟨[(0,(.c (.ptr 0 0 0 0 0))),(1,aI),(5,aI)],[],[[(0,⟨0,3,198,(.box [qS,(.own 0 1 1 0),qB])⟩),(1,⟨1,14,162,(.row [])⟩)]]⟩,[(.ret,⟨[(4,aI)],[],[[(0,⟨0,3,198,(.box [qS,(.own 0 1 1 0),qB])⟩),(1,⟨1,14,162,(.row [])⟩)]]⟩),(.exit 1,⟨[(0,(.c (.ptr 0 0 0 0 0))),(1,aI)],[],[[(0,⟨0,3,198,(.box [qS,(.own 0 1 1 0),qB])⟩),(1,⟨1,14,162,(.row [])⟩)]]⟩)]⟩ (qBz n) (qDt n ih) [] fun _=>(by kernel_rfl)
def qHt (n:Nat) (ih:q7 n):LEnt (KB 223) (Rn n) n:=lok (zX 223) 509 ⟨⟨[(0,(.c (.ptr 0 0 0 0 0))),(1,aI),(9,aS),(14,aI)],[],[[(0,⟨0,3,198,(.box [qS,(.own 0 1 1 0),qB])⟩),(1,⟨1,14,162,(.row [])⟩)]]⟩,[(.ret,⟨[(4,aI)],[],[[(0,⟨0,3,198,(.box [qS,(.own 0 1 1 0),qB])⟩),(1,⟨1,14,162,(.row [])⟩)]]⟩),(.exit 3,⟨[(0,(.c (.ptr 0 0 0 0 0)))],[],[[(0,⟨0,3,198,(.box [qS,(.own 0 1 1 0),qB])⟩),(1,⟨1,14,162,(.row [])⟩)]]⟩)]⟩ (qAi (qR n) n) (qDt n ih) [] fun _=>(by kernel_rfl)
abbrev qF3 (n:Nat) (ih:q7 n):List (Ent (Rn n)):= [en (qHP n),en (qB9 n),en (qBw n),en ih.1]
def qIb (n:Nat) (ih:q7 n):LEnt (KB 248) (Rn n) n:=lok (zX 248) 30 ⟨⟨[(0,(.c (.ptr 0 0 0 0 0))),(1,aI),(2,aI),(7,(.c (.own 1 640 0 0)))],[(640,⟨0,1,2,(.row [])⟩)],[[(0,⟨0,3,198,(.box [qS,(.own 0 1 1 0),qB])⟩),(1,⟨1,14,162,(.row [])⟩)]]⟩,[(.exit 0,⟨[(0,(.c (.ptr 0 0 0 0 0))),(1,aI),(7,(.c (.own 1 640 0 0)))],[(640,⟨0,1,2,(.row [])⟩)],[[(0,⟨0,3,198,(.box [qS,(.own 0 1 1 0),qB])⟩),(1,⟨1,14,162,(.row [])⟩)]]⟩)]⟩ (qCE (qR n) n) (qF3 n ih) [] fun _=>(by kernel_rfl)
theorem qAG:∀n,q7 n
 |0=>⟨ok0 fun _=>rfl,ok0 fun _=>rfl,ok0 fun _=>rfl,ok0 fun _=>rfl⟩
 |n+1=>⟨stO (T:=qE2 (qR n) n) (by kernel_rfl) (qDF n (qAG n)) [qHQ n (qAG n)] (fun _=>(by kernel_rfl)) fun _=>(by kernel_rfl),stO (T:=qFP (qR n) n) (by kernel_rfl) (qJq n (qAG n)) [] (fun _=>(by kernel_rfl)) fun _=>(by kernel_rfl),stO (T:=qF0 (qR n) n) (by kernel_rfl) (qDt n (qAG n)) [qHs n (qAG n),qHt n (qAG n)] (fun _=>(by kernel_rfl)) fun _=>(by kernel_rfl),stO (T:=qF1 (qR n) n) (by kernel_rfl) (qF3 n (qAG n)) [qIb n (qAG n)] (fun _=>(by kernel_rfl)) fun _=>(by kernel_rfl)⟩
theorem qIc (n:Nat):Ok (Rn n) qE1 (qCQ n):=(qAG n).1
def qK4:Sg:=⟨120,[(.agg [qI,qI,qI,qI,qS,qI,qI,qB,qB,qI,qI,qB,qB,qL])],[],⟨(.agg [qI,qI,qI,qI]),[],[]⟩⟩
def qEO (n:Nat) (x0 x1 x2 x3:Int) (x4:BA) (x5 x6:Int) (x7 x8:Bool) (x9 x10:Int) (x11 x12:Bool) (x13:RW):Tr (Int×Int×Int×Int):=(.ask ((x0==(2:Int))) (.done (x5,x6,x5,x6)) (.done (x5,x6,x9,x10)))
def qCR:Nat→Int→Int→Int→Int→BA→Int→Int→Bool→Bool→Int→Int→Bool→Bool→RW→Option (Int×Int×Int×Int)
 |0,_,_,_,_,_,_,_,_,_,_,_,_,_,_=>none
 |n+1,x0,x1,x2,x3,x4,x5,x6,x7,x8,x9,x10,x11,x12,x13=>(qEO n x0 x1 x2 x3 x4 x5 x6 x7 x8 x9 x10 x11 x12 x13).run
theorem qKX:∀n,Ok (Rn n) qK4 (qCR n)
 |0=>ok0 fun _=>rfl
 |n+1=>stO (T:=qEO n) (by kernel_rfl) [] [] (fun _=>(by kernel_rfl)) fun _=>(by kernel_rfl)
def qOf:Sg:=⟨264,[(.agg [qI,qI,qI,qI])],[],⟨aB,[],[]⟩⟩
def qG4 (n:Nat) (x0 x1 x2 x3:Int):Tr (Bool):=(.opt (qBS n x0 x1) fun r230=>(.ask (r230) (.opt (qBS n x2 x3) fun r231=>(.ask (r231) (.ask ((decide (x0≤x2))) (.done (decide (x1≤x3))) (.done false)) (.done false))) (.done false)))
def qDi:Nat→Int→Int→Int→Int→Option (Bool)
 |0,_,_,_,_=>none
 |n+1,x0,x1,x2,x3=>(qG4 n x0 x1 x2 x3).run
abbrev qOg (n:Nat):List (Ent (Rn n)):= [en (qEw n)]
theorem qNo:∀n,Ok (Rn n) qOf (qDi n)
 |0=>ok0 fun _=>rfl
 |n+1=>stO (T:=qG4 n) (by kernel_rfl) (qOg n) [] (fun _=>(by kernel_rfl)) fun _=>(by kernel_rfl)
def qId:Sg:=⟨249,[(.agg [qI,qI,qI,qI,qS,qI,qI,qB,qB,qI,qI,qB,qB,qL])],[],⟨aB,[],[]⟩⟩
def qC8 (n:Nat) (x0 x1 x2 x3:Int) (x4:BA) (x5 x6:Int) (x7 x8:Bool) (x9 x10:Int) (x11 x12:Bool) (x13:RW):Tr (Bool):=(.ask ((x0 !=(2:Int))) (.ask ((x0 !=(3:Int))) (.done true) (.opt (qCR n x0 x1 x2 x3 x4 x5 x6 x7 x8 x9 x10 x11 x12 x13) fun r229=>(.opt (qDi n r229.1 r229.2.1 r229.2.2.1 r229.2.2.2) fun r232=>(.done r232)))) (.opt (qCR n x0 x1 x2 x3 x4 x5 x6 x7 x8 x9 x10 x11 x12 x13) fun r233=>(.opt (qDi n r233.1 r233.2.1 r233.2.2.1 r233.2.2.2) fun r234=>(.done r234))))
def q8:Nat→Int→Int→Int→Int→BA→Int→Int→Bool→Bool→Int→Int→Bool→Bool→RW→Option (Bool)
 |0,_,_,_,_,_,_,_,_,_,_,_,_,_,_=>none
 |n+1,x0,x1,x2,x3,x4,x5,x6,x7,x8,x9,x10,x11,x12,x13=>(qC8 n x0 x1 x2 x3 x4 x5 x6 x7 x8 x9 x10 x11 x12 x13).run
abbrev qIe (n:Nat):List (Ent (Rn n)):= [en (qKX n),en (qNo n)]
theorem qHu:∀n,Ok (Rn n) qId (q8 n)
 |0=>ok0 fun _=>rfl
 |n+1=>stO (T:=qC8 n) (by kernel_rfl) (qIe n) [] (fun _=>(by kernel_rfl)) fun _=>(by kernel_rfl)
def qJr:Sg:=⟨250,[(.agg [qI,qI,qI,qI,qS,qI,qI,qB,qB,qI,qI,qB,qB,qL])],[],⟨aB,[],[]⟩⟩
def qDd (n:Nat) (x0 x1 x2 x3:Int) (x4:BA) (x5 x6:Int) (x7 x8:Bool) (x9 x10:Int) (x11 x12:Bool) (x13:RW):Tr (Bool):=(.ask ((x0==(4:Int))) (.ask ((x1==(0:Int))) (.done ((x13.length:Int)==(1:Int))) (.done false)) (.ask ((x0==(5:Int))) (.opt (qAD n x1 (1:Int) (11:Int)) fun r236=>(.ask (r236) (.done ((x13.length:Int)==(2:Int))) (.done false))) (.ask ((x0==(6:Int))) (.opt (qAD n x1 (1:Int) (10:Int)) fun r237=>(.ask ((!r237)) (.done false) (.ask ((x1==(5:Int))) (.opt (qAD n (x13.length:Int) (2:Int) (3:Int)) fun r238=>(.done r238)) (.ask ((decide (x1≥(8:Int)))) (.done ((x13.length:Int)==(1:Int))) (.opt (qAD n (x13.length:Int) (1:Int) (10:Int)) fun r239=>(.done r239)))))) (.ask ((x1==(0:Int))) (.done ((x13.length:Int)==(0:Int))) (.done false)))))
def qAJ:Nat→Int→Int→Int→Int→BA→Int→Int→Bool→Bool→Int→Int→Bool→Bool→RW→Option (Bool)
 |0,_,_,_,_,_,_,_,_,_,_,_,_,_,_=>none
 |n+1,x0,x1,x2,x3,x4,x5,x6,x7,x8,x9,x10,x11,x12,x13=>(qDd n x0 x1 x2 x3 x4 x5 x6 x7 x8 x9 x10 x11 x12 x13).run
abbrev qJs (n:Nat):List (Ent (Rn n)):= [en (qCp n)]
theorem qI5:∀n,Ok (Rn n) qJr (qAJ n)
 |0=>ok0 fun _=>rfl
 |n+1=>stO (T:=qDd n) (by kernel_rfl) (qJs n) [] (fun _=>(by kernel_rfl)) fun _=>(by kernel_rfl)
def qKY:Sg:=⟨224,[(.agg [qI,qI,qI,qI,qS,qI,qI,qB,qB,qI,qI,qB,qB,qL])],[],⟨aB,[],[]⟩⟩
def qDu (n:Nat) (x0 x1 x2 x3:Int) (x4:BA) (x5 x6:Int) (x7 x8:Bool) (x9 x10:Int) (x11 x12:Bool) (x13:RW):Tr (Bool):=(.ask ((x0==(1:Int))) (.opt (qAO n x2 x3 x4) fun r228=>(.ask ((!r228)) (.done false) (.ask ((x2==(0:Int))) (.done false) (.ask ((x2==(1:Int))) (.ask ((decide (x3<(0:Int)))) (.done false) (.opt (q8 n x0 x1 x2 x3 x4 x5 x6 x7 x8 x9 x10 x11 x12 x13) fun r235=>(.ask (r235) (.opt (qAJ n x0 x1 x2 x3 x4 x5 x6 x7 x8 x9 x10 x11 x12 x13) fun r240=>(.ask (r240) (.ask (((x2==x2)&&((x3==x3)&&((x4.toList==x4.toList)&&true)))) (.ask ((((0:Int)==x5)&&(((0:Int)==x6)&&((false==x7)&&((false==x8)&&true))))) (.done (((0:Int)==x9)&&(((0:Int)==x10)&&((false==x11)&&((false==x12)&&true))))) (.done false)) (.done false)) (.done false))) (.done false)))) (.opt (q8 n x0 x1 x2 x3 x4 x5 x6 x7 x8 x9 x10 x11 x12 x13) fun r241=>(.ask (r241) (.opt (qAJ n x0 x1 x2 x3 x4 x5 x6 x7 x8 x9 x10 x11 x12 x13) fun r242=>(.ask (r242) (.ask (((x2==x2)&&((x3==x3)&&((x4.toList==x4.toList)&&true)))) (.ask ((((0:Int)==x5)&&(((0:Int)==x6)&&((false==x7)&&((false==x8)&&true))))) (.done (((0:Int)==x9)&&(((0:Int)==x10)&&((false==x11)&&((false==x12)&&true))))) (.done false)) (.done false)) (.done false))) (.done false))))))) (.ask ((x0==(2:Int))) (.opt (q8 n x0 x1 x2 x3 x4 x5 x6 x7 x8 x9 x10 x11 x12 x13) fun r243=>(.ask (r243) (.opt (qAJ n x0 x1 x2 x3 x4 x5 x6 x7 x8 x9 x10 x11 x12 x13) fun r244=>(.ask (r244) (.ask ((((0:Int)==x2)&&(((0:Int)==x3)&&(((⟨#[]⟩:BA).toList==x4.toList)&&true)))) (.ask (((x5==x5)&&((x6==x6)&&((x7==x7)&&((x8==x8)&&true))))) (.done (((0:Int)==x9)&&(((0:Int)==x10)&&((false==x11)&&((false==x12)&&true))))) (.done false)) (.done false)) (.done false))) (.done false))) (.ask ((x0==(3:Int))) (.opt (q8 n x0 x1 x2 x3 x4 x5 x6 x7 x8 x9 x10 x11 x12 x13) fun r245=>(.ask (r245) (.opt (qAJ n x0 x1 x2 x3 x4 x5 x6 x7 x8 x9 x10 x11 x12 x13) fun r246=>(.ask (r246) (.ask ((((0:Int)==x2)&&(((0:Int)==x3)&&(((⟨#[]⟩:BA).toList==x4.toList)&&true)))) (.ask (((x5==x5)&&((x6==x6)&&((x7==x7)&&((x8==x8)&&true))))) (.done ((x9==x9)&&((x10==x10)&&((x11==x11)&&((x12==x12)&&true))))) (.done false)) (.done false)) (.done false))) (.done false))) (.ask ((x0==(4:Int))) (.opt (q8 n x0 x1 x2 x3 x4 x5 x6 x7 x8 x9 x10 x11 x12 x13) fun r247=>(.ask (r247) (.opt (qAJ n x0 x1 x2 x3 x4 x5 x6 x7 x8 x9 x10 x11 x12 x13) fun r248=>(.ask (r248) (.ask ((((0:Int)==x2)&&(((0:Int)==x3)&&(((⟨#[]⟩:BA).toList==x4.toList)&&true)))) (.ask ((((0:Int)==x5)&&(((0:Int)==x6)&&((false==x7)&&((false==x8)&&true))))) (.done (((0:Int)==x9)&&(((0:Int)==x10)&&((false==x11)&&((false==x12)&&true))))) (.done false)) (.done false)) (.done false))) (.done false))) (.ask ((x0==(5:Int))) (.opt (q8 n x0 x1 x2 x3 x4 x5 x6 x7 x8 x9 x10 x11 x12 x13) fun r249=>(.ask (r249) (.opt (qAJ n x0 x1 x2 x3 x4 x5 x6 x7 x8 x9 x10 x11 x12 x13) fun r250=>(.ask (r250) (.ask ((((0:Int)==x2)&&(((0:Int)==x3)&&(((⟨#[]⟩:BA).toList==x4.toList)&&true)))) (.ask ((((0:Int)==x5)&&(((0:Int)==x6)&&((false==x7)&&((false==x8)&&true))))) (.done (((0:Int)==x9)&&(((0:Int)==x10)&&((false==x11)&&((false==x12)&&true))))) (.done false)) (.done false)) (.done false))) (.done false))) (.ask ((x0==(6:Int))) (.opt (q8 n x0 x1 x2 x3 x4 x5 x6 x7 x8 x9 x10 x11 x12 x13) fun r251=>(.ask (r251) (.opt (qAJ n x0 x1 x2 x3 x4 x5 x6 x7 x8 x9 x10 x11 x12 x13) fun r252=>(.ask (r252) (.ask ((((0:Int)==x2)&&(((0:Int)==x3)&&(((⟨#[]⟩:BA).toList==x4.toList)&&true)))) (.ask ((((0:Int)==x5)&&(((0:Int)==x6)&&((false==x7)&&((false==x8)&&true))))) (.done (((0:Int)==x9)&&(((0:Int)==x10)&&((false==x11)&&((false==x12)&&true))))) (.done false)) (.done false)) (.done false))) (.done false))) (.done false)))))))
def qCz:Nat→Int→Int→Int→Int→BA→Int→Int→Bool→Bool→Int→Int→Bool→Bool→RW→Option (Bool)
 |0,_,_,_,_,_,_,_,_,_,_,_,_,_,_=>none
 |n+1,x0,x1,x2,x3,x4,x5,x6,x7,x8,x9,x10,x11,x12,x13=>(qDu n x0 x1 x2 x3 x4 x5 x6 x7 x8 x9 x10 x11 x12 x13).run
abbrev qKZ (n:Nat):List (Ent (Rn n)):= [en (qFF n),en (qHu n),en (qI5 n)]
theorem qJt:∀n,Ok (Rn n) qKY (qCz n)
 |0=>ok0 fun _=>rfl
 |n+1=>stO (T:=qDu n) (by kernel_rfl) (qKZ n) [] (fun _=>(by kernel_rfl)) fun _=>(by kernel_rfl)
def qI6:Sg:=⟨198,[aL,aI,aI],[],⟨aI,[],[]⟩⟩
def qAP (rec:RW→Int→Int→Option (Int)) (n:Nat) (v:RW×Int×Int×Int×Int):Tr ((RW×Int×Int×Int×Int)⊕((Int)⊕(Int))):=(.ask ((decide (v.2.2.2.2≥(0:Int)))) (.ask (decide (0≤v.2.1∧v.2.1<v.1.length)) (.opt (v.1[(v.2.1).toNat]?) fun e256=>(.ask (decide (e256.length=14)) (.opt (zA7 e256 13) fun y257=>(.ask (decide (0≤v.2.2.2.2∧v.2.2.2.2<y257.length)) (.opt (y257[(v.2.2.2.2).toNat]?) fun e258=>(.ask (decide (e258.length=1)) (.opt (zE .i64 e258 0) fun y259=>(.ask ((y259 !=(IntKind.i64.wrap (v.2.2.2.1-(1:Int))))) (.done (.inr (.inl ((-1:Int))))) (.ask ((decide (y259<(0:Int)))) (.done (.inr (.inl ((-1:Int))))) (.ask (decide (0≤y259∧y259<v.1.length)) (.opt (v.1[(y259).toNat]?) fun e260=>(.ask (decide (e260.length=14)) (.opt (zE .i64 e260 0) fun y261=>(.ask ((y261==(3:Int))) (.ask (decide (0≤v.2.1∧v.2.1<v.1.length)) (.opt (v.1[(v.2.1).toNat]?) fun e262=>(.ask (decide (e262.length=14)) (.opt (zE .i64 e262 0) fun y263=>(.ask ((y263 !=(6:Int))) (.done (.inr (.inl ((-1:Int))))) (.opt (rec v.1 y259 (IntKind.i64.wrap (v.2.2.1+(1:Int)))) fun r264=>(.ask ((decide (r264<(0:Int)))) (.done (.inr (.inl ((-1:Int))))) (.done (.inl (v.1,v.2.1,v.2.2.1,r264,(IntKind.i64.wrap (v.2.2.2.2-(1:Int)))))))))) .fail)) .fail) (.opt (rec v.1 y259 (IntKind.i64.wrap (v.2.2.1+(1:Int)))) fun r265=>(.ask ((decide (r265<(0:Int)))) (.done (.inr (.inl ((-1:Int))))) (.done (.inl (v.1,v.2.1,v.2.2.1,r265,(IntKind.i64.wrap (v.2.2.2.2-(1:Int)))))))))) .fail)) .fail)))) .fail)) .fail)) .fail)) .fail) (.done (.inr (.inr (v.2.2.2.1)))))
def qE3 (rec:RW→Int→Int→Option (Int)) (n:Nat) (x0:RW) (x1 x2:Int):Tr (Int):=(.ask ((decide (x1<(0:Int)))) (.done (-1:Int)) (.ask ((decide (x2≥(12:Int)))) (.done (-1:Int)) (.ask (decide (0≤x1∧x1<x0.length)) (.opt (x0[(x1).toNat]?) fun e213=>(.ask (decide (e213.length=14)) (.opt (zE .i64 e213 0) fun y214=>(.opt (zE .i64 e213 1) fun y215=>(.opt (zE .i64 e213 2) fun y216=>(.opt (zE .i64 e213 3) fun y217=>(.opt (zh e213 4) fun y218=>(.opt (zE .i64 e213 5) fun y219=>(.opt (zE .i64 e213 6) fun y220=>(.opt (zAT e213 7) fun y221=>(.opt (zAT e213 8) fun y222=>(.opt (zE .i64 e213 9) fun y223=>(.opt (zE .i64 e213 10) fun y224=>(.opt (zAT e213 11) fun y225=>(.opt (zAT e213 12) fun y226=>(.opt (zA7 e213 13) fun y227=>(.opt (qCz n y214 y215 y216 y217 y218 y219 y220 y221 y222 y223 y224 y225 y226 y227) fun r253=>(.ask ((!r253)) (.done (-1:Int)) (.ask (decide (0≤x1∧x1<x0.length)) (.opt (x0[(x1).toNat]?) fun e254=>(.ask (decide (e254.length=14)) (.opt (zA7 e254 13) fun y255=>(.opt (zC (qAP rec n) n (x0,x1,x2,x1,(IntKind.i64.wrap ((y255.length:Int)-(1:Int))))) fun r266=>(.alt r266 (fun r267=>(.done r267)) (fun r268=>(.done r268))))) .fail)) .fail))))))))))))))))) .fail)) .fail)))
def qAh:Nat→RW→Int→Int→Option (Int)
 |0,_,_,_=>none
 |n+1,x0,x1,x2=>(qE3 (qAh n) n x0 x1 x2).run
abbrev qMQ (n:Nat) (ih:Ok (Rn n) qI6 (qAh n)):List (Ent (Rn n)):= [en (qJt n),en ih]
def qNp (n:Nat) (ih:Ok (Rn n) qI6 (qAh n)):LEnt (KB 198) (Rn n) n:=lok (zX 198) 61 ⟨⟨[(0,aL),(1,aI),(2,aI),(7,aI),(8,aI)],[],[]⟩,[(.ret,⟨[(6,aI)],[],[]⟩),(.exit 0,⟨[(7,aI)],[],[]⟩)]⟩ (qAP (qAh n) n) (qMQ n ih) [] fun _=>(by kernel_rfl)
theorem qHv:∀n,Ok (Rn n) qI6 (qAh n)
 |0=>ok0 fun _=>rfl
 |n+1=>stO (T:=qE3 (qAh n) n) (by kernel_rfl) (qMQ n (qHv n)) [qNp n (qHv n)] (fun _=>(by kernel_rfl)) fun _=>(by kernel_rfl)
def qLy:Sg:=⟨161,[aL],[],⟨aB,[],[]⟩⟩
def qCs (n:Nat) (x0:RW):Tr (Bool):=(.opt (qAD n (x0.length:Int) (1:Int) (60:Int)) fun r210=>(.ask (r210) (.ask (decide (0≤(IntKind.i64.wrap ((x0.length:Int)-(1:Int)))∧(IntKind.i64.wrap ((x0.length:Int)-(1:Int)))<x0.length)) (.opt (x0[((IntKind.i64.wrap ((x0.length:Int)-(1:Int)))).toNat]?) fun e211=>(.ask (decide (e211.length=14)) (.opt (zE .i64 e211 0) fun y212=>(.ask ((y212 !=(3:Int))) (.opt (qAh n x0 (IntKind.i64.wrap ((x0.length:Int)-(1:Int))) (0:Int)) fun r269=>(.done (r269==(0:Int)))) (.done false))) .fail)) .fail) (.done false)))
def qBh:Nat→RW→Option (Bool)
 |0,_=>none
 |n+1,x0=>(qCs n x0).run
abbrev qLz (n:Nat):List (Ent (Rn n)):= [en (qCp n),en (qHv n)]
theorem qGb:∀n,Ok (Rn n) qLy (qBh n)
 |0=>ok0 fun _=>rfl
 |n+1=>stO (T:=qCs n) (by kernel_rfl) (qLz n) [] (fun _=>(by kernel_rfl)) fun _=>(by kernel_rfl)
def qKa:Sg:=⟨119,[aS],[],⟨(.tup [(false,[qL]),(false,[qB])]),[],[]⟩⟩
def qF4 (n:Nat) (x0:BA):Tr (RW×Bool):=(.opt (qCY n x0 (200:Int)) fun r69=>(.ask ((!r69)) (.ask (decide (0=([]:RW).length)) (.done (([]:RW),false)) .fail) (.opt (qCQ n (1:Int) (0:Int) x0 (0:Nat) false ([]:RW)) fun r208=>(.opt (qAs n r208.2.1 r208.2.2.1 r208.2.2.2.1 r208.2.2.2.2) fun r209=>(.ask (r209.2.2.1) (.ask (decide (0=([]:RW).length)) (.done (([]:RW),false)) .fail) (.ask ((!(r209.1.toList==(⟨#[]⟩:BA).toList))) (.ask (decide (0=([]:RW).length)) (.done (([]:RW),false)) .fail) (.ask (decide (r209.2.1=r209.2.2.2.length)) (.opt (qBh n r209.2.2.2) fun r270=>(.ask (zAk (⟨(.c (.p (.b r270))),[],[]⟩:Res)) (.ask ((!r270)) (.ask (decide (0=([]:RW).length)) (.done (([]:RW),false)) .fail) (.ask (decide (r209.2.1=r209.2.2.2.length)) (.done (r209.2.2.2,true)) .fail)) .fail)) .fail)))))))
def qDv:Nat→BA→Option (RW×Bool)
 |0,_=>none
 |n+1,x0=>(qF4 n x0).run
abbrev qKb (n:Nat):List (Ent (Rn n)):= [en (qFr n),en (qIc n),en (qCC n),en (qGb n)]
theorem qJu:∀n,Ok (Rn n) qKa (qDv n)
 |0=>ok0 fun _=>rfl
 |n+1=>stO (T:=qF4 n) (by kernel_rfl) (qKb n) [] (fun _=>(by kernel_rfl)) fun _=>(by kernel_rfl)
def qE4:Sg:=⟨251,[aS,aS,aS],[],⟨aS,[],[]⟩⟩
def qDG:Nat→BA→BA→BA→Option ((BA))
 |0,_,_,_=>none
 |n+1,x0,x1,x2=>zd x0 x1 x2
theorem qIf:∀n,Ok (Rn n) qE4 (qDG n)
 |0=>ok0 fun _=>rfl
 |n+1=>stL zAB (by kernel_rfl) (fun _ _=>rfl) (fun a r e=>congrArg (Option.map fun r=>(qE4.Of r).v) e) rfl rfl rfl
def qI7:Sg:=⟨252,[aL,aS],[],⟨aS,[],[]⟩⟩
def qF5:Nat→RW→BA→Option ((BA))
 |0,_,_=>none
 |n+1,x0,x1=>zAp x0 x1
theorem qMu:∀n,Ok (Rn n) qI7 (qF5 n)
 |0=>ok0 fun _=>rfl
 |n+1=>stL zAq (by kernel_rfl) (fun _ _=>rfl) (fun a r e=>congrArg (Option.map fun r=>(qI7.Of r).v) e) rfl rfl rfl
def qDw:Sg:=⟨225,[aL,aI,aI],[],⟨aS,[],[]⟩⟩
def qBT (rec:RW→Int→Int→Option (BA)) (n:Nat) (v:RW×Nat×RW×Int×Int×Int×Int×Int×Int×BA×Int×Int×Bool×Bool×Int×Int×Bool×Bool×RW×RW):Tr ((RW×Nat×RW×Int×Int×Int×Int×Int×Int×BA×Int×Int×Bool×Bool×Int×Int×Bool×Bool×RW×RW)⊕((Nat×Int×Int×Int×Int×BA×Int×Int×Bool×Bool×Int×Int×Bool×Bool×RW×RW))):=(.ask ((decide (v.2.2.2.2.1<v.2.2.2.1))) (.ask (decide (0≤v.2.2.2.2.1∧v.2.2.2.2.1<v.2.2.1.length)) (.opt (v.2.2.1[(v.2.2.2.2.1).toNat]?) fun e304=>(.ask (decide (e304.length=1)) (.opt (zE .i64 e304 0) fun y305=>(.opt (rec v.1 y305 (1:Int)) fun r306=>(.ask (decide (1=([[(.s r306)]]:RW).length)) (.ask (decide (v.2.1=v.2.2.2.2.2.2.2.2.2.2.2.2.2.2.2.2.2.2.2.length∧0<1∧0<16∧(v.2.1+([[(.s r306)]]:RW).length)*16≤140737488355328∧([[(.s r306)]]:RW).all (fun e=>e.length==1)=true)) (.done (.inl (v.1,(v.2.1+1),v.2.2.1,v.2.2.2.1,(IntKind.i64.wrap (v.2.2.2.2.1+(1:Int))),v.2.2.2.2.2.1,v.2.2.2.2.2.2.1,v.2.2.2.2.2.2.2.1,v.2.2.2.2.2.2.2.2.1,v.2.2.2.2.2.2.2.2.2.1,v.2.2.2.2.2.2.2.2.2.2.1,v.2.2.2.2.2.2.2.2.2.2.2.1,v.2.2.2.2.2.2.2.2.2.2.2.2.1,v.2.2.2.2.2.2.2.2.2.2.2.2.2.1,v.2.2.2.2.2.2.2.2.2.2.2.2.2.2.1,v.2.2.2.2.2.2.2.2.2.2.2.2.2.2.2.1,v.2.2.2.2.2.2.2.2.2.2.2.2.2.2.2.2.1,v.2.2.2.2.2.2.2.2.2.2.2.2.2.2.2.2.2.1,v.2.2.2.2.2.2.2.2.2.2.2.2.2.2.2.2.2.2.1,(v.2.2.2.2.2.2.2.2.2.2.2.2.2.2.2.2.2.2.2++([[(.s r306)]]:RW))))) .fail) .fail))) .fail)) .fail) (.done (.inr ((v.2.1,v.2.2.2.2.2.1,v.2.2.2.2.2.2.1,v.2.2.2.2.2.2.2.1,v.2.2.2.2.2.2.2.2.1,v.2.2.2.2.2.2.2.2.2.1,v.2.2.2.2.2.2.2.2.2.2.1,v.2.2.2.2.2.2.2.2.2.2.2.1,v.2.2.2.2.2.2.2.2.2.2.2.2.1,v.2.2.2.2.2.2.2.2.2.2.2.2.2.1,v.2.2.2.2.2.2.2.2.2.2.2.2.2.2.1,v.2.2.2.2.2.2.2.2.2.2.2.2.2.2.2.1,v.2.2.2.2.2.2.2.2.2.2.2.2.2.2.2.2.1,v.2.2.2.2.2.2.2.2.2.2.2.2.2.2.2.2.2.1,v.2.2.2.2.2.2.2.2.2.2.2.2.2.2.2.2.2.2.1,v.2.2.2.2.2.2.2.2.2.2.2.2.2.2.2.2.2.2.2)))))
def qAj (rec:RW→Int→Int→Option (BA)) (n:Nat) (x0:RW) (x1 x2:Int):Tr (BA):=(.ask (decide (0≤x1∧x1<x0.length)) (.opt (x0[(x1).toNat]?) fun e273=>(.ask (decide (e273.length=14)) (.opt (zE .i64 e273 0) fun y274=>(.opt (zE .i64 e273 1) fun y275=>(.opt (zE .i64 e273 2) fun y276=>(.opt (zE .i64 e273 3) fun y277=>(.opt (zh e273 4) fun y278=>(.opt (zE .i64 e273 5) fun y279=>(.opt (zE .i64 e273 6) fun y280=>(.opt (zAT e273 7) fun y281=>(.opt (zAT e273 8) fun y282=>(.opt (zE .i64 e273 9) fun y283=>(.opt (zE .i64 e273 10) fun y284=>(.opt (zAT e273 11) fun y285=>(.opt (zAT e273 12) fun y286=>(.opt (zA7 e273 13) fun y287=>(.ask ((y274==(1:Int))) (.ask ((y276==(2:Int))) (.opt (qDG n y278 (⟨#[34]⟩:BA) (⟨#[34,34]⟩:BA)) fun r288=>(.ask (decide ((⟨#[34]⟩:BA).size+r288.size≤9223372036854775807)) (.ask (decide (((⟨#[34]⟩:BA)++r288).size+(⟨#[34]⟩:BA).size≤9223372036854775807)) (.done (((⟨#[34]⟩:BA)++r288)++(⟨#[34]⟩:BA))) .fail) .fail)) (.opt (qo n y276 y277 y278) fun r289=>(.done r289))) (.ask ((y274==(2:Int))) (.opt (qAo n y279 y280 y281 y282) fun r290=>(.done r290)) (.ask ((y274==(3:Int))) (.opt (qAo n y279 y280 y281 y282) fun r291=>(.ask (decide (r291.size+(⟨#[58]⟩:BA).size≤9223372036854775807)) (.opt (qAo n y283 y284 y285 y286) fun r292=>(.ask (decide ((r291++(⟨#[58]⟩:BA)).size+r292.size≤9223372036854775807)) (.done ((r291++(⟨#[58]⟩:BA))++r292)) .fail)) .fail)) (.ask ((y274==(4:Int))) (.ask (decide (0≤(0:Int)∧(0:Int)<y287.length)) (.opt (y287[((0:Int)).toNat]?) fun e293=>(.ask (decide (e293.length=1)) (.opt (zE .i64 e293 0) fun y294=>(.opt (rec x0 y294 (5:Int)) fun r295=>(.ask (decide ((⟨#[45]⟩:BA).size+r295.size≤9223372036854775807)) (.done ((⟨#[45]⟩:BA)++r295)) .fail))) .fail)) .fail) (.ask ((y274==(5:Int))) (.opt (qDQ n y275) fun r296=>(.ask (decide (0≤(0:Int)∧(0:Int)<y287.length)) (.opt (y287[((0:Int)).toNat]?) fun e297=>(.ask (decide (e297.length=1)) (.opt (zE .i64 e297 0) fun y298=>(.ask (decide (0≤(1:Int)∧(1:Int)<y287.length)) (.opt (y287[((1:Int)).toNat]?) fun e299=>(.ask (decide (e299.length=1)) (.opt (zE .i64 e299 0) fun y300=>(.opt (rec x0 y298 r296) fun r301=>(.opt (qBL n y275) fun r302=>(.ask (decide (r301.size+r302.size≤9223372036854775807)) (.opt (rec x0 y300 (IntKind.i64.wrap (r296+(1:Int)))) fun r303=>(.ask (decide ((r301++r302).size+r303.size≤9223372036854775807)) (.ask ((decide (r296<x2))) (.ask (decide ((⟨#[40]⟩:BA).size+((r301++r302)++r303).size≤9223372036854775807)) (.ask (decide (((⟨#[40]⟩:BA)++((r301++r302)++r303)).size+(⟨#[41]⟩:BA).size≤9223372036854775807)) (.done (((⟨#[40]⟩:BA)++((r301++r302)++r303))++(⟨#[41]⟩:BA))) .fail) .fail) (.done ((r301++r302)++r303))) .fail)) .fail)))) .fail)) .fail)) .fail)) .fail)) (.opt (zC (qBT rec n) n (x0,(0:Nat),y287,(y287.length:Int),(0:Int),y274,y275,y276,y277,y278,y279,y280,y281,y282,y283,y284,y285,y286,y287,([]:RW))) fun r307=>(.opt (qB2 n r307.2.2.1) fun r308=>(.ask (decide (r308.size+(⟨#[40]⟩:BA).size≤9223372036854775807)) (.ask (decide (r307.1=r307.2.2.2.2.2.2.2.2.2.2.2.2.2.2.2.length)) (.opt (qF5 n r307.2.2.2.2.2.2.2.2.2.2.2.2.2.2.2 (⟨#[44]⟩:BA)) fun r309=>(.ask (zAk (⟨(.c (.p (.s r309))),[],[]⟩:Res)) (.ask (decide ((r308++(⟨#[40]⟩:BA)).size+r309.size≤9223372036854775807)) (.ask (decide (((r308++(⟨#[40]⟩:BA))++r309).size+(⟨#[41]⟩:BA).size≤9223372036854775807)) (.done (((r308++(⟨#[40]⟩:BA))++r309)++(⟨#[41]⟩:BA))) .fail) .fail) .fail)) .fail) .fail)))))))))))))))))))))) .fail)) .fail)
def qZ:Nat→RW→Int→Int→Option (BA)
 |0,_,_,_=>none
 |n+1,x0,x1,x2=>(qAj (qZ n) n x0 x1 x2).run
abbrev qF6 (n:Nat) (ih:Ok (Rn n) qDw (qZ n)):List (Ent (Rn n)):= [en (qIf n),en (qGY n),en (qEM n),en ih,en (qJ8 n),en (qI4 n),en (qI3 n),en (qMu n)]
def qHw (n:Nat) (ih:Ok (Rn n) qDw (qZ n)):LEnt (KB 225) (Rn n) n:=lok (zX 225) 125 ⟨⟨[(0,aL),(7,(.c (.ptr 0 448 0 0 0))),(10,(.c (.own 0 5760 0 0))),(92,aL),(93,aI),(94,aI)],[(448,⟨0,14,162,(.box [qI,qI,qI,qI,qS,qI,qI,qB,qB,qI,qI,qB,qB,qL])⟩),(5760,⟨0,1,9,(.row [])⟩)],[]⟩,[(.exit 1,⟨[(7,(.c (.ptr 0 448 0 0 0))),(10,(.c (.own 0 5760 0 0)))],[(448,⟨0,14,162,(.box [qI,qI,qI,qI,qS,qI,qI,qB,qB,qI,qI,qB,qB,qL])⟩),(5760,⟨0,1,9,(.row [])⟩)],[]⟩)]⟩ (qBT (qZ n) n) (qF6 n ih) [] fun _=>(by kernel_rfl)
theorem qDe:∀n,Ok (Rn n) qDw (qZ n)
 |0=>ok0 fun _=>rfl
 |n+1=>stO (T:=qAj (qZ n) n) (by kernel_rfl) (qF6 n (qDe n)) [qHw n (qDe n)] (fun _=>(by kernel_rfl)) fun _=>(by kernel_rfl)
def qKc:Sg:=⟨199,[aL],[],⟨aS,[],[]⟩⟩
def qC0 (n:Nat) (x0:RW):Tr (BA):=(.opt (qBh n x0) fun r272=>(.ask ((!r272)) (.done (⟨#[]⟩:BA)) (.opt (qZ n x0 (IntKind.i64.wrap ((x0.length:Int)-(1:Int))) (1:Int)) fun r310=>(.ask ((decide ((r310.size:Int)>(200:Int)))) (.done (⟨#[]⟩:BA)) (.done r310)))))
def qBi:Nat→RW→Option (BA)
 |0,_=>none
 |n+1,x0=>(qC0 n x0).run
abbrev qKd (n:Nat):List (Ent (Rn n)):= [en (qGb n),en (qDe n)]
theorem qJv:∀n,Ok (Rn n) qKc (qBi n)
 |0=>ok0 fun _=>rfl
 |n+1=>stO (T:=qC0 n) (by kernel_rfl) (qKd n) [] (fun _=>(by kernel_rfl)) fun _=>(by kernel_rfl)
def qMv:Sg:=⟨167,[aL],[],⟨(.tup [(false,[qS]),(false,[qB])]),[],[]⟩⟩
def qIM (n:Nat) (x0:RW):Tr (BA×Bool):=(.opt (qBi n x0) fun r311=>(.ask (decide ((⟨#[61]⟩:BA).size+r311.size≤9223372036854775807)) (.ask ((!(r311.toList==(⟨#[]⟩:BA).toList))) (.done (((⟨#[61]⟩:BA)++r311),(decide ((r311.size:Int)<(200:Int))))) (.done (((⟨#[61]⟩:BA)++r311),false))) .fail))
def qFG:Nat→RW→Option (BA×Bool)
 |0,_=>none
 |n+1,x0=>(qIM n x0).run
abbrev qMw (n:Nat):List (Ent (Rn n)):= [en (qJv n)]
theorem qL0:∀n,Ok (Rn n) qMv (qFG n)
 |0=>ok0 fun _=>rfl
 |n+1=>stO (T:=qIM n) (by kernel_rfl) (qMw n) [] (fun _=>(by kernel_rfl)) fun _=>(by kernel_rfl)
def qD6:Sg:=⟨231,[aS,aS],[],⟨aS,[],[]⟩⟩
def qCG (n:Nat) (x0 x1:BA):Tr (BA):=(.opt (qz n x0 x1) fun r316=>(.ask (r316) (.ask (decide (0≤(x1.size:Int)∧(x1.size:Int)≤(x0.size:Int)∧(x0.size:Int)≤x0.size)) (.done (x0.extract ((x1.size:Int)).toNat ((x0.size:Int)).toNat)) .fail) (.done x0)))
def qBJ:Nat→BA→BA→Option (BA)
 |0,_,_=>none
 |n+1,x0,x1=>(qCG n x0 x1).run
abbrev qD7 (n:Nat):List (Ent (Rn n)):= [en (qCF n)]
theorem qDx:∀n,Ok (Rn n) qD6 (qBJ n)
 |0=>ok0 fun _=>rfl
 |n+1=>stO (T:=qCG n) (by kernel_rfl) (qD7 n) [] (fun _=>(by kernel_rfl)) fun _=>(by kernel_rfl)
def qI8:Sg:=⟨202,[aS,aS],[],⟨aS,[],[]⟩⟩
def qE5 (n:Nat) (x0 x1:BA):Tr (BA):=(.opt (qBJ n x0 x1) fun r317=>(.done r317))
def qDH:Nat→BA→BA→Option (BA)
 |0,_,_=>none
 |n+1,x0,x1=>(qE5 n x0 x1).run
abbrev qI9 (n:Nat):List (Ent (Rn n)):= [en (qDx n)]
theorem qIg:∀n,Ok (Rn n) qI8 (qDH n)
 |0=>ok0 fun _=>rfl
 |n+1=>stO (T:=qE5 n) (by kernel_rfl) (qI9 n) [] (fun _=>(by kernel_rfl)) fun _=>(by kernel_rfl)
def qJA:Sg:=⟨109,[aS,aS],[],⟨aS,[],[]⟩⟩
def qF7:Nat→BA→BA→Option ((BA))
 |0,_,_=>none
 |n+1,x0,x1=>zAV x0 x1
theorem qMx:∀n,Ok (Rn n) qJA (qF7 n)
 |0=>ok0 fun _=>rfl
 |n+1=>stL zAo (by kernel_rfl) (fun _ _=>rfl) (fun a r e=>congrArg (Option.map fun r=>(qJA.Of r).v) e) rfl rfl rfl
def qMy:Sg:=⟨169,[aS],[],⟨aB,[],[]⟩⟩
def qIN (n:Nat) (x0:BA):Tr (Bool):=(.opt (qDH n x0 (⟨#[45]⟩:BA)) fun r318=>(.ask ((!(r318.toList==(⟨#[]⟩:BA).toList))) (.opt (qF7 n r318 (⟨#[48,49,50,51,52,53,54,55,56,57]⟩:BA)) fun r319=>(.done (r319.toList==(⟨#[]⟩:BA).toList))) (.done false)))
def qDp:Nat→BA→Option (Bool)
 |0,_=>none
 |n+1,x0=>(qIN n x0).run
abbrev qMz (n:Nat):List (Ent (Rn n)):= [en (qIg n),en (qMx n)]
theorem qL1:∀n,Ok (Rn n) qMy (qDp n)
 |0=>ok0 fun _=>rfl
 |n+1=>stO (T:=qIN n) (by kernel_rfl) (qMz n) [] (fun _=>(by kernel_rfl)) fun _=>(by kernel_rfl)
def qNq:Sg:=⟨133,[aS],[],⟨(.tup [(false,[qS]),(false,[qB])]),[],[]⟩⟩
def qJB (n:Nat) (x0:BA):Tr (BA×Bool):=(.opt (qCY n x0 (200:Int)) fun r67=>(.ask ((!r67)) (.done ((⟨#[]⟩:BA),(x0.toList==(⟨#[]⟩:BA).toList))) (.ask ((x0.toList==(⟨#[]⟩:BA).toList)) (.done ((⟨#[]⟩:BA),(x0.toList==(⟨#[]⟩:BA).toList))) (.opt (qAC n x0 (⟨#[61]⟩:BA)) fun r68=>(.ask (r68.2) (.opt (qDv n r68.1) fun r271=>(.opt (qFG n r271.1) fun r312=>(.ask ((!r271.2)) (.done ((⟨#[]⟩:BA),false)) (.ask ((!r312.2)) (.done ((⟨#[]⟩:BA),false)) (.done (r312.1,true)))))) (.opt (qAt n x0 (10:Int) (64:Int)) fun r313=>(.alt r313 (fun r314=>(.ask (true) (.opt (qDp n x0) fun r320=>(.ask (r320) (.opt (qCZ n r314) fun r321=>(.opt (qAO n r321.1 r321.2.1 r321.2.2) fun r322=>(.ask (r322) (.opt (qAe n r314) fun r323=>(.done (r323,true))) (.opt (qe n x0) fun r324=>(.ask (r324.2.2.2) (.done (x0,true)) (.ask (((x0.size:Int)==(200:Int))) (.done ((⟨#[]⟩:BA),false)) (.ask (decide ((⟨#[39]⟩:BA).size+x0.size≤9223372036854775807)) (.done (((⟨#[39]⟩:BA)++x0),true)) .fail))))))) (.opt (qe n x0) fun r325=>(.ask (r325.2.2.2) (.done (x0,true)) (.ask (((x0.size:Int)==(200:Int))) (.done ((⟨#[]⟩:BA),false)) (.ask (decide ((⟨#[39]⟩:BA).size+x0.size≤9223372036854775807)) (.done (((⟨#[39]⟩:BA)++x0),true)) .fail)))))) (.opt (qe n x0) fun r326=>(.ask (r326.2.2.2) (.done (x0,true)) (.ask (((x0.size:Int)==(200:Int))) (.done ((⟨#[]⟩:BA),false)) (.ask (decide ((⟨#[39]⟩:BA).size+x0.size≤9223372036854775807)) (.done (((⟨#[39]⟩:BA)++x0),true)) .fail)))))) (fun r315=>(.ask (false) (.opt (qDp n x0) fun r327=>(.ask (r327) (.opt (qCZ n r315) fun r328=>(.opt (qAO n r328.1 r328.2.1 r328.2.2) fun r329=>(.ask (r329) (.opt (qAe n r315) fun r330=>(.done (r330,true))) (.opt (qe n x0) fun r331=>(.ask (r331.2.2.2) (.done (x0,true)) (.ask (((x0.size:Int)==(200:Int))) (.done ((⟨#[]⟩:BA),false)) (.ask (decide ((⟨#[39]⟩:BA).size+x0.size≤9223372036854775807)) (.done (((⟨#[39]⟩:BA)++x0),true)) .fail))))))) (.opt (qe n x0) fun r332=>(.ask (r332.2.2.2) (.done (x0,true)) (.ask (((x0.size:Int)==(200:Int))) (.done ((⟨#[]⟩:BA),false)) (.ask (decide ((⟨#[39]⟩:BA).size+x0.size≤9223372036854775807)) (.done (((⟨#[39]⟩:BA)++x0),true)) .fail)))))) (.opt (qe n x0) fun r333=>(.ask (r333.2.2.2) (.done (x0,true)) (.ask (((x0.size:Int)==(200:Int))) (.done ((⟨#[]⟩:BA),false)) (.ask (decide ((⟨#[39]⟩:BA).size+x0.size≤9223372036854775807)) (.done (((⟨#[39]⟩:BA)++x0),true)) .fail)))))))))))))
def qF8:Nat→BA→Option (BA×Bool)
 |0,_=>none
 |n+1,x0=>(qJB n x0).run
abbrev qNr (n:Nat):List (Ent (Rn n)):= [en (qFr n),en (qCN n),en (qJu n),en (qL0 n),en2 (qDc n),en (qL1 n),en (qI1 n),en (qFF n),en (qDo n),en (qGZ n)]
theorem qM0:∀n,Ok (Rn n) qNq (qF8 n)
 |0=>ok0 fun _=>rfl
 |n+1=>stO (T:=qJB n) (by kernel_rfl) (qNr n) [] (fun _=>(by kernel_rfl)) fun _=>(by kernel_rfl)
def qM1:Sg:=⟨91,[aS],[],⟨aB,[],[]⟩⟩
def qIO (n:Nat) (x0:BA):Tr (Bool):=(.opt (qF8 n x0) fun r334=>(.ask (r334.2) (.ask ((!(x0.toList==(⟨#[]⟩:BA).toList))) (.done (r334.1.toList==x0.toList)) (.done false)) (.done false)))
def qC5:Nat→BA→Option (Bool)
 |0,_=>none
 |n+1,x0=>(qIO n x0).run
abbrev qM2 (n:Nat):List (Ent (Rn n)):= [en (qM0 n)]
theorem qHR:∀n,Ok (Rn n) qM1 (qC5 n)
 |0=>ok0 fun _=>rfl
 |n+1=>stO (T:=qIO n) (by kernel_rfl) (qM2 n) [] (fun _=>(by kernel_rfl)) fun _=>(by kernel_rfl)
def qL2:Sg:=⟨98,[aS],[],⟨aB,[],[]⟩⟩
def qEh (n:Nat) (x0:BA):Tr (Bool):=(.ask (decide ((⟨#[61]⟩:BA).size+x0.size≤9223372036854775807)) (.opt (qC5 n ((⟨#[61]⟩:BA)++x0)) fun r335=>(.done r335)) .fail)
def qB5:Nat→BA→Option (Bool)
 |0,_=>none
 |n+1,x0=>(qEh n x0).run
abbrev qL3 (n:Nat):List (Ent (Rn n)):= [en (qHR n)]
theorem qK5:∀n,Ok (Rn n) qL2 (qB5 n)
 |0=>ok0 fun _=>rfl
 |n+1=>stO (T:=qEh n) (by kernel_rfl) (qL3 n) [] (fun _=>(by kernel_rfl)) fun _=>(by kernel_rfl)
def qKe:Sg:=⟨56,[(.agg [qI,qI,qI,qS,qI]),aI,aI],[],⟨aB,[],[]⟩⟩
def qDy (n:Nat) (x0 x1 x2:Int) (x3:BA) (x4 x5 x6:Int):Tr (Bool):=(.ask ((x0==(1:Int))) (.opt (qBS n x1 x2) fun r61=>(.ask (r61) (.opt (qB5 n x3) fun r336=>(.ask (r336) (.done (x4==(0:Int))) (.done false))) (.done false))) (.ask ((x0==(2:Int))) (.opt (qBS n x1 x2) fun r337=>(.ask (r337) (.ask ((x3.toList==(⟨#[]⟩:BA).toList)) (.done (x4==(0:Int))) (.opt (qC5 n x3) fun r338=>(.ask (r338) (.done (x4==(0:Int))) (.done false)))) (.done false))) (.ask ((x0==(3:Int))) (.ask (((x1==(0:Int))&&((x2==(0:Int))&&true))) (.opt (qB5 n x3) fun r339=>(.ask (r339) (.opt (qAD n x4 (1:Int) x6) fun r340=>(.done r340)) (.done false))) (.done false)) (.ask ((x0==(4:Int))) (.ask (((x1==(0:Int))&&((x2==(0:Int))&&true))) (.opt (qB5 n x3) fun r341=>(.ask (r341) (.opt (qAD n x4 (1:Int) x5) fun r342=>(.done r342)) (.done false))) (.done false)) (.ask ((x0==(5:Int))) (.ask (((x1==(0:Int))&&((x2==(0:Int))&&true))) (.opt (qB5 n x3) fun r343=>(.ask (r343) (.done (x4==(0:Int))) (.done false))) (.done false)) (.done false))))))
def qC1:Nat→Int→Int→Int→BA→Int→Int→Int→Option (Bool)
 |0,_,_,_,_,_,_,_=>none
 |n+1,x0,x1,x2,x3,x4,x5,x6=>(qDy n x0 x1 x2 x3 x4 x5 x6).run
abbrev qKf (n:Nat):List (Ent (Rn n)):= [en (qEw n),en (qK5 n),en (qHR n),en (qCp n)]
theorem qJw:∀n,Ok (Rn n) qKe (qC1 n)
 |0=>ok0 fun _=>rfl
 |n+1=>stO (T:=qDy n) (by kernel_rfl) (qKf n) [] (fun _=>(by kernel_rfl)) fun _=>(by kernel_rfl)
def qNs:Sg:=⟨20,[aL],[],⟨aB,[],[]⟩⟩
def qEP (n:Nat) (v:RW×RW×Int×Int):Tr ((RW×RW×Int×Int)⊕((Bool)⊕(RW))):=(.ask ((decide (v.2.2.2<v.2.2.1))) (.ask (decide (0≤v.2.2.2∧v.2.2.2<v.2.1.length)) (.opt (v.2.1[(v.2.2.2).toNat]?) fun e53=>(.ask (decide (e53.length=5)) (.opt (zE .i64 e53 0) fun y54=>(.opt (zE .i64 e53 1) fun y55=>(.opt (zE .i64 e53 2) fun y56=>(.opt (zh e53 3) fun y57=>(.opt (zE .i64 e53 4) fun y58=>(.opt (qC1 n y54 y55 y56 y57 y58 v.2.2.2 (IntKind.i64.wrap ((IntKind.i64.wrap ((v.1.length:Int)-(1:Int)))-v.2.2.2))) fun r59=>(.ask ((!r59)) (.done (.inr (.inl (false)))) (.done (.inl (v.1,v.2.1,v.2.2.1,(IntKind.i64.wrap (v.2.2.2+(1:Int))))))))))))) .fail)) .fail) (.done (.inr (.inr (v.1)))))
def qJC (n:Nat) (x0:RW):Tr (Bool):=(.opt (zC (qEP n) n (x0,x0,(x0.length:Int),(0:Int))) fun r60=>(.alt r60 (fun r61=>(.done r61)) (fun r62=>(.done (decide ((r62.length:Int)≤(30:Int)))))))
def qF9:Nat→RW→Option (Bool)
 |0,_=>none
 |n+1,x0=>(qJC n x0).run
abbrev qJD (n:Nat):List (Ent (Rn n)):= [en (qJw n)]
def qK6 (n:Nat):LEnt (KB 20) (Rn n) n:=lok (zX 20) 13 ⟨⟨[(0,aL),(5,aL),(6,aI),(7,aI)],[],[]⟩,[(.ret,⟨[(2,aB)],[],[]⟩),(.exit 0,⟨[(0,aL)],[],[]⟩)]⟩ (qEP n) (qJD n) [] fun _=>(by kernel_rfl)
theorem qM3:∀n,Ok (Rn n) qNs (qF9 n)
 |0=>ok0 fun _=>rfl
 |n+1=>stO (T:=qJC n) (by kernel_rfl) (qJD n) [qK6 n] (fun _=>(by kernel_rfl)) fun _=>(by kernel_rfl)
def qM4:Sg:=⟨101,[aI],[],⟨aS,[],[]⟩⟩
def qIP (n:Nat) (x0:Int):Tr (BA):=(.ask (decide (6=([[(.s (⟨#[]⟩:BA))],[(.s (⟨#[115,101,116]⟩:BA))],[(.s (⟨#[112,117,116]⟩:BA))],[(.s (⟨#[117,110,108,101,115,115]⟩:BA))],[(.s (⟨#[119,104,105,108,101]⟩:BA))],[(.s (⟨#[97,98,111,114,116]⟩:BA))]]:RW).length∧0≤x0∧x0<((6:Nat):Int))) (.opt (([[(.s (⟨#[]⟩:BA))],[(.s (⟨#[115,101,116]⟩:BA))],[(.s (⟨#[112,117,116]⟩:BA))],[(.s (⟨#[117,110,108,101,115,115]⟩:BA))],[(.s (⟨#[119,104,105,108,101]⟩:BA))],[(.s (⟨#[97,98,111,114,116]⟩:BA))]]:RW)[(x0).toNat]?) fun e70=>(.opt (zh e70 0) fun y71=>(.done y71))) .fail)
def qFH:Nat→Int→Option (BA)
 |0,_=>none
 |n+1,x0=>(qIP n x0).run
theorem qL4:∀n,Ok (Rn n) qM4 (qFH n)
 |0=>ok0 fun _=>rfl
 |n+1=>stO (T:=qIP n) (by kernel_rfl) [] [] (fun _=>(by kernel_rfl)) fun _=>(by kernel_rfl)
def qAH:Sg:=⟨100,[(.c (.ptr 0 0 0 0 0)),aS],[[(0,⟨0,2,135,(.box [(.ptr 0 0 0 0 1000003),(.own 0 1 1 0)])⟩),(1,⟨1,1,5,(.row [])⟩)]],⟨(.tup [(false,[qI]),(false,[(.p .nif)])]),[[(0,⟨0,2,135,(.box [(.ptr 0 0 0 0 1000003),(.own 0 1 2 0)])⟩),(1,⟨2,1,5,(.row [])⟩)]],[]⟩⟩
def qT:Nat→BA→Nat→RW→Option ((Int×Nat×RW))
 |0,_,_,_=>none
 |n+1,x0,x1,x2=>zN x0 x1 x2
theorem qEi:∀n,Ok (Rn n) qAH (qT n)
 |0=>ok0 fun _=>rfl
 |n+1=>stN (by kernel_rfl) fun a r e=>(show lib 100 (qAH.Af a) (qAH.Uf a)=Option.map (fun r=>qAH.Of r) (unc qAH.ks (qT (n+1)) a) from (by kernel_rfl)).trans (congrArg (Option.map fun r=>qAH.Of r) e)
def qNt:Sg:=⟨102,[(.agg [qI,qI])],[],⟨aS,[],[]⟩⟩
def qGA (n:Nat) (x0 x1:Int):Tr (BA):=(.opt (qAo n x0 x1 false false) fun r74=>(.done r74))
def qDI:Nat→Int→Int→Option (BA)
 |0,_,_=>none
 |n+1,x0,x1=>(qGA n x0 x1).run
abbrev qNu (n:Nat):List (Ent (Rn n)):= [en (qEM n)]
theorem qM5:∀n,Ok (Rn n) qNt (qDI n)
 |0=>ok0 fun _=>rfl
 |n+1=>stO (T:=qGA n) (by kernel_rfl) (qNu n) [] (fun _=>(by kernel_rfl)) fun _=>(by kernel_rfl)
def qAp:Sg:=⟨104,[(.c (.ptr 0 0 0 0 0))],[[(0,⟨0,2,135,(.box [(.ptr 0 0 0 0 1000003),(.own 0 1 1 0)])⟩),(1,⟨1,1,5,(.row [])⟩)]],⟨aS,[[(0,⟨0,2,135,(.box [(.p .op),(.p .op)])⟩),(1,⟨2,1,5,(.row [])⟩)]],[]⟩⟩
def qBm:Nat→Nat→RW→Option ((BA×RW))
 |0,_,_=>none
 |n+1,x0,x1=>zW x0 x1
theorem qGN:∀n,Ok (Rn n) qAp (qBm n)
 |0=>ok0 fun _=>rfl
 |n+1=>stN (by kernel_rfl) fun a r e=>(show lib 104 (qAp.Af a) (qAp.Uf a)=Option.map (fun r=>qAp.Of r) (unc qAp.ks (qBm (n+1)) a) from (by kernel_rfl)).trans (congrArg (Option.map fun r=>qAp.Of r) e)
def qL5:Sg:=⟨60,[aL],[],⟨aS,[],[]⟩⟩
def qDf (n:Nat) (v:RW×Int×Int×Nat×RW):Tr ((RW×Int×Int×Nat×RW)⊕((Nat×RW))):=(.ask ((decide (v.2.2.1<v.2.1))) (.ask (decide (0≤v.2.2.1∧v.2.2.1<v.1.length)) (.opt (v.1[(v.2.2.1).toNat]?) fun e64=>(.ask (decide (e64.length=5)) (.opt (zE .i64 e64 0) fun y65=>(.opt (zE .i64 e64 1) fun y66=>(.opt (zE .i64 e64 2) fun y67=>(.opt (zh e64 3) fun y68=>(.opt (zE .i64 e64 4) fun y69=>(.opt (qFH n y65) fun r70=>(.ask (decide (r70.size+(⟨#[32]⟩:BA).size≤9223372036854775807)) (.opt (qT n (r70++(⟨#[32]⟩:BA)) v.2.2.2.1 v.2.2.2.2) fun r71=>(.ask ((y65==(1:Int))) (.opt (qDI n y66 y67) fun r72=>(.ask (decide (r72.size+(⟨#[32]⟩:BA).size≤9223372036854775807)) (.opt (qT n (r72++(⟨#[32]⟩:BA)) r71.2.1 r71.2.2) fun r73=>(.ask (decide (y68.size+(⟨#[10]⟩:BA).size≤9223372036854775807)) (.opt (qT n (y68++(⟨#[10]⟩:BA)) r73.2.1 r73.2.2) fun r74=>(.done (.inl (v.1,v.2.1,(IntKind.i64.wrap (v.2.2.1+(1:Int))),r74.2.1,r74.2.2)))) .fail)) .fail)) (.ask ((y65==(2:Int))) (.opt (qDI n y66 y67) fun r75=>(.ask (decide (r75.size+(⟨#[32]⟩:BA).size≤9223372036854775807)) (.opt (qT n (r75++(⟨#[32]⟩:BA)) r71.2.1 r71.2.2) fun r76=>(.ask (decide (y68.size+(⟨#[10]⟩:BA).size≤9223372036854775807)) (.opt (qT n (y68++(⟨#[10]⟩:BA)) r76.2.1 r76.2.2) fun r77=>(.done (.inl (v.1,v.2.1,(IntKind.i64.wrap (v.2.2.1+(1:Int))),r77.2.1,r77.2.2)))) .fail)) .fail)) (.ask ((y65==(3:Int))) (.opt (qAe n y69) fun r78=>(.ask (decide (r78.size+(⟨#[32]⟩:BA).size≤9223372036854775807)) (.opt (qT n (r78++(⟨#[32]⟩:BA)) r71.2.1 r71.2.2) fun r79=>(.ask (decide (y68.size+(⟨#[10]⟩:BA).size≤9223372036854775807)) (.opt (qT n (y68++(⟨#[10]⟩:BA)) r79.2.1 r79.2.2) fun r80=>(.done (.inl (v.1,v.2.1,(IntKind.i64.wrap (v.2.2.1+(1:Int))),r80.2.1,r80.2.2)))) .fail)) .fail)) (.ask ((y65==(4:Int))) (.opt (qAe n y69) fun r81=>(.ask (decide (r81.size+(⟨#[32]⟩:BA).size≤9223372036854775807)) (.opt (qT n (r81++(⟨#[32]⟩:BA)) r71.2.1 r71.2.2) fun r82=>(.ask (decide (y68.size+(⟨#[10]⟩:BA).size≤9223372036854775807)) (.opt (qT n (y68++(⟨#[10]⟩:BA)) r82.2.1 r82.2.2) fun r83=>(.done (.inl (v.1,v.2.1,(IntKind.i64.wrap (v.2.2.1+(1:Int))),r83.2.1,r83.2.2)))) .fail)) .fail)) (.ask (decide (y68.size+(⟨#[10]⟩:BA).size≤9223372036854775807)) (.opt (qT n (y68++(⟨#[10]⟩:BA)) r71.2.1 r71.2.2) fun r84=>(.done (.inl (v.1,v.2.1,(IntKind.i64.wrap (v.2.2.1+(1:Int))),r84.2.1,r84.2.2)))) .fail)))))) .fail))))))) .fail)) .fail) (.done (.inr ((v.2.2.2.1,v.2.2.2.2)))))
def qHS (n:Nat) (x0:RW):Tr (BA):=(.opt (zC (qDf n) n (x0,(x0.length:Int),(0:Int),(0:Nat),([]:RW))) fun r85=>(.opt (qBm n r85.1 r85.2) fun r86=>(.done r86.1)))
def qEj:Nat→RW→Option (BA)
 |0,_=>none
 |n+1,x0=>(qHS n x0).run
abbrev qHT (n:Nat):List (Ent (Rn n)):= [en (qL4 n),en (qEi n),en (qM5 n),en (qDo n),en (qGN n)]
def qJx (n:Nat):LEnt (KB 60) (Rn n) n:=lok (zX 60) 29 ⟨⟨[(3,(.c (.ptr 0 192 0 0 0))),(7,aL),(8,aI),(9,aI)],[(192,⟨0,2,135,(.box [(.ptr 0 192 0 0 1000003),(.own 0 193 0 0)])⟩),(193,⟨0,1,5,(.row [])⟩)],[]⟩,[(.exit 0,⟨[(3,(.c (.ptr 0 192 0 0 0)))],[(192,⟨0,2,135,(.box [(.ptr 0 192 0 0 1000003),(.own 0 193 0 0)])⟩),(193,⟨0,1,5,(.row [])⟩)],[]⟩)]⟩ (qDf n) (qHT n) [] fun _=>(by kernel_rfl)
theorem qK7:∀n,Ok (Rn n) qL5 (qEj n)
 |0=>ok0 fun _=>rfl
 |n+1=>stO (T:=qHS n) (by kernel_rfl) (qHT n) [qJx n] (fun _=>(by kernel_rfl)) fun _=>(by kernel_rfl)
def qL6:Sg:=⟨23,[aL],[],⟨aS,[],[]⟩⟩
def qEk (n:Nat) (x0:RW):Tr (BA):=(.opt (qF9 n x0) fun r63=>(.ask ((!r63)) (.done (⟨#[]⟩:BA)) (.opt (qEj n x0) fun r87=>(.done r87))))
def qEl:Nat→RW→Option (BA)
 |0,_=>none
 |n+1,x0=>(qEk n x0).run
abbrev qL7 (n:Nat):List (Ent (Rn n)):= [en (qM3 n),en (qK7 n)]
theorem qK8:∀n,Ok (Rn n) qL6 (qEl n)
 |0=>ok0 fun _=>rfl
 |n+1=>stO (T:=qEk n) (by kernel_rfl) (qL7 n) [] (fun _=>(by kernel_rfl)) fun _=>(by kernel_rfl)
def qPP:Sg:=⟨79,[(.agg [qI,qI]),(.agg [qI,qI])],[],⟨aB,[],[]⟩⟩
def qHx (n:Nat) (x0 x1 x2 x3:Int):Tr (Bool):=(.ask ((x0 !=x2)) (.done false) (.ask ((x1 !=x3)) (.done false) (.done true)))
def qHy:Nat→Int→Int→Int→Int→Option (Bool)
 |0,_,_,_,_=>none
 |n+1,x0,x1,x2,x3=>(qHx n x0 x1 x2 x3).run
theorem qOh:∀n,Ok (Rn n) qPP (qHy n)
 |0=>ok0 fun _=>rfl
 |n+1=>stO (T:=qHx n) (by kernel_rfl) [] [] (fun _=>(by kernel_rfl)) fun _=>(by kernel_rfl)
def qOi:Sg:=⟨57,[(.agg [qI,qI,qI,qS,qI]),(.agg [qI,qI,qI,qS,qI])],[],⟨aB,[],[]⟩⟩
def qG5 (n:Nat) (x0 x1 x2:Int) (x3:BA) (x4 x5 x6 x7:Int) (x8:BA) (x9:Int):Tr (Bool):=(.ask ((x0 !=x5)) (.done false) (.opt (qHy n x1 x2 x6 x7) fun r102=>(.ask ((!r102)) (.done false) (.ask ((!(x3.toList==x8.toList))) (.done false) (.ask ((x4 !=x9)) (.done false) (.done true))))))
def qEx:Nat→Int→Int→Int→BA→Int→Int→Int→Int→BA→Int→Option (Bool)
 |0,_,_,_,_,_,_,_,_,_,_=>none
 |n+1,x0,x1,x2,x3,x4,x5,x6,x7,x8,x9=>(qG5 n x0 x1 x2 x3 x4 x5 x6 x7 x8 x9).run
abbrev qOj (n:Nat):List (Ent (Rn n)):= [en (qOh n)]
theorem qNv:∀n,Ok (Rn n) qOi (qEx n)
 |0=>ok0 fun _=>rfl
 |n+1=>stO (T:=qG5 n) (by kernel_rfl) (qOj n) [] (fun _=>(by kernel_rfl)) fun _=>(by kernel_rfl)
def qNw:Sg:=⟨21,[aL,aL],[],⟨aB,[],[]⟩⟩
def qCS (n:Nat) (v:RW×RW×Int):Tr ((RW×RW×Int)⊕((Bool)⊕(Unit))):=(.ask ((decide (v.2.2<(v.1.length:Int)))) (.ask (decide (0≤v.2.2∧v.2.2<v.1.length)) (.opt (v.1[(v.2.2).toNat]?) fun e90=>(.ask (decide (e90.length=5)) (.opt (zE .i64 e90 0) fun y91=>(.opt (zE .i64 e90 1) fun y92=>(.opt (zE .i64 e90 2) fun y93=>(.opt (zh e90 3) fun y94=>(.opt (zE .i64 e90 4) fun y95=>(.ask (decide (0≤v.2.2∧v.2.2<v.2.1.length)) (.opt (v.2.1[(v.2.2).toNat]?) fun e96=>(.ask (decide (e96.length=5)) (.opt (zE .i64 e96 0) fun y97=>(.opt (zE .i64 e96 1) fun y98=>(.opt (zE .i64 e96 2) fun y99=>(.opt (zh e96 3) fun y100=>(.opt (zE .i64 e96 4) fun y101=>(.opt (qEx n y91 y92 y93 y94 y95 y97 y98 y99 y100 y101) fun r102=>(.ask ((!r102)) (.done (.inr (.inl (false)))) (.done (.inl (v.1,v.2.1,(IntKind.i64.wrap (v.2.2+(1:Int))))))))))))) .fail)) .fail)))))) .fail)) .fail) (.done (.inr (.inr (())))))
def qGB (n:Nat) (x0 x1:RW):Tr (Bool):=(.ask (((x0.length:Int) !=(x1.length:Int))) (.done false) (.opt (zC (qCS n) n (x0,x1,(0:Int))) fun r103=>(.alt r103 (fun r104=>(.done r104)) (fun r105=>(.done true)))))
def qEQ:Nat→RW→RW→Option (Bool)
 |0,_,_=>none
 |n+1,x0,x1=>(qGB n x0 x1).run
abbrev qJE (n:Nat):List (Ent (Rn n)):= [en (qNv n)]
def qK9 (n:Nat):LEnt (KB 21) (Rn n) n:=lok (zX 21) 29 ⟨⟨[(0,aL),(1,aL),(5,aI)],[],[]⟩,[(.ret,⟨[(4,aB)],[],[]⟩),(.exit 0,⟨[],[],[]⟩)]⟩ (qCS n) (qJE n) [] fun _=>(by kernel_rfl)
theorem qM6:∀n,Ok (Rn n) qNw (qEQ n)
 |0=>ok0 fun _=>rfl
 |n+1=>stO (T:=qGB n) (by kernel_rfl) (qJE n) [qK9 n] (fun _=>(by kernel_rfl)) fun _=>(by kernel_rfl)
def qHU:Sg:=⟨5,[aL],[],⟨aB,[],[]⟩⟩
def qCt (n:Nat) (x0:RW):Tr (Bool):=(.opt (qD9 n x0 (1048576:Int)) fun r11=>(.ask ((decide (r11<(0:Int)))) (.done true) (.opt (qCh n x0) fun r21=>(.ask (decide (r21.1=r21.2.length)) (.opt (qEe n r21.2) fun r51=>(.ask (zAk (⟨(.c (.p (.s r51))),[],[]⟩:Res)) (.opt (qCh n x0) fun r52=>(.ask (decide (r52.1=r52.2.length)) (.opt (qEl n r52.2) fun r88=>(.ask (zAk (⟨(.c (.p (.s r88))),[],[]⟩:Res)) (.ask ((!(r88.toList==r51.toList))) (.done false) (.opt (qCh n x0) fun r89=>(.ask (decide (r52.1=r52.2.length)) (.ask (decide (r89.1=r89.2.length)) (.opt (qEQ n r52.2 r89.2) fun r106=>(.ask (zAk (⟨(.c (.p (.b r106))),[],[]⟩:Res)) (.ask ((!r106)) (.done false) (.done true)) .fail)) .fail) .fail))) .fail)) .fail)) .fail)) .fail))))
def qD3:Nat→RW→Option (Bool)
 |0,_=>none
 |n+1,x0=>(qCt n x0).run
abbrev qHV (n:Nat):List (Ent (Rn n)):= [en (qMc n),en (qMd n),en (qK1 n),en (qK8 n),en (qM6 n)]
theorem qG6:∀n,Ok (Rn n) qHU (qD3 n)
 |0=>ok0 fun _=>rfl
 |n+1=>stO (T:=qCt n) (by kernel_rfl) (qHV n) [] (fun _=>(by kernel_rfl)) fun _=>(by kernel_rfl)
end
end Go.Proofs.YtkkkfjgagjdcoaaGreatDoor.KFnExactMacroText

